/-
  THE STEPS THAT LOOK, COMPARE, COUNT, CUT.
-/
import Derived.Test.YtpmpkcjcjccboaaDoorXh
set_option linter.unusedVariables false
set_option linter.unusedSimpArgs false
namespace Go.Nx
open Go.RowKit

section
variable {P : Program} {Γ : Env} {B : Base} {S : Cells} {ρ : Infos} {tm : List V} {own : Own} {a : Act} {w : World}
variable {o : Oper} {K : V → Own → Log → Prop} {log : Log} {dr : Bool}

theorem run_eqGuard_plain (op : BinOp) (t : TypeId) (x y : Operand) (u v : Value) (h1 : u ≠ .nilIface) (h2 : ∀ c, u ≠ .agg c) : (eqGuard op t x y u v).run P w = .ok () w := by
  unfold eqGuard
  cases op <;> simp <;> (cases u <;> first | rfl | exact absurd rfl h1 | exact absurd rfl (h2 _))

theorem run_binI {op : BinOp} {t : TypeId} {k j : IntKind} {x y : Int} {r : T} (hk : isShift op = true ∨ k = j) (h : binI op k x y = .yes r ∨ ∃ p d, binI op k x y = @Ans.req p d r ∧ p) :
    ∃ u, (binOp op t (.int k x) (.int j y)).run P w = .ok u w ∧ RelT S w r u := by
  have nk : ∀ op, isShift op = true ∨ k = j → isShift op = false → k = j := fun op h e => by
    rcases h with h | h
    · rw [e] at h; cases h
    · exact h
  have v (u : Value) (hu : RelT S w r u) (hrun : (binOp op t (.int k x) (.int j y)).run P w = .ok u w) : ∃ u, (binOp op t (.int k x) (.int j y)).run P w = .ok u w ∧ RelT S w r u := ⟨u, hrun, hu⟩
  cases op <;> simp only [binI] at h <;> rcases h with h | ⟨p, _, h, hp⟩ <;> cases h
  case add => obtain rfl := nk _ hk rfl; exact v _ (.int _ _) (by simp [binOp, Op.intArith])
  case sub => obtain rfl := nk _ hk rfl; exact v _ (.int _ _) (by simp [binOp, Op.intArith])
  case mul => obtain rfl := nk _ hk rfl; exact v _ (.int _ _) (by simp [binOp, Op.intArith])
  case quo => obtain rfl := nk _ hk rfl; exact v _ (.int _ _) (by simp [binOp, Op.intDiv, hp])
  case rem => obtain rfl := nk _ hk rfl; exact v _ (.int _ _) (by simp [binOp, Op.intDiv, hp])
  case and => obtain rfl := nk _ hk rfl; exact v _ (.int _ _) (by simp [binOp, Op.intBits, andI])
  case or => obtain rfl := nk _ hk rfl; exact v _ (.int _ _) (by simp [binOp, Op.intBits, orI])
  case xor => obtain rfl := nk _ hk rfl; exact v _ (.int _ _) (by simp [binOp, Op.intBits, xorI])
  case andNot => obtain rfl := nk _ hk rfl; exact v _ (.int _ _) (by simp [binOp, Op.intBits, andNotI])
  case shl =>
    have hp' : ¬ y < 0 := by omega
    exact v _ (.int _ _) (by simp [binOp, Op.shift, hp', shlI])
  case shr =>
    have hp' : ¬ y < 0 := by omega
    exact v _ (.int _ _) (by simp [binOp, Op.shift, hp', shrI])
  case eql => obtain rfl := nk _ hk rfl; exact v _ (.bool _) (by simp [binOp, Op.intCmp, eqI_def])
  case neq => obtain rfl := nk _ hk rfl; exact v _ (.bool _) (by simp [binOp, Op.intCmp, eqI_def, bne])
  case lss => obtain rfl := nk _ hk rfl; exact v _ (.bool _) (by simp [binOp, Op.intCmp, ltI_def])
  case leq => obtain rfl := nk _ hk rfl; exact v _ (.bool _) (by simp [binOp, Op.intCmp, leI_def])
  case gtr => obtain rfl := nk _ hk rfl; exact v _ (.bool _) (by simp [binOp, Op.intCmp, ltI_def])
  case geq => obtain rfl := nk _ hk rfl; exact v _ (.bool _) (by simp [binOp, Op.intCmp, leI_def])

theorem binA_elim {op : BinOp} {x y r : T} (h : binA op x y = .yes r ∨ ∃ p d, binA op x y = @Ans.req p d r ∧ p) :
    (∃ k a j b, x = .int k a ∧ y = .int j b ∧ (isShift op = true ∨ k = j) ∧ (binI op k a b = .yes r ∨ ∃ p d, binI op k a b = @Ans.req p d r ∧ p)) ∨
    (∃ s t, x = .str s ∧ y = .str t ∧ ((op = .eql ∧ r = .bool (eqS s t)) ∨ (op = .neq ∧ r = .bool (!eqS s t)) ∨ (op = .add ∧ s.size + t.size ≤ 9223372036854775807 ∧ r = .str (s ++ t)))) := by
  have no : ∀ {r : T}, ¬ (Ans.no = .yes r ∨ ∃ p d, Ans.no = @Ans.req p d r ∧ p) := by
    intro r h; rcases h with h | ⟨_, _, h, _⟩ <;> cases h
  unfold binA at h
  split at h
  · split at h
    · rename_i hs; exact .inl ⟨_, _, _, _, rfl, rfl, .inl hs, h⟩
    · split at h
      · rename_i hk; exact .inl ⟨_, _, _, _, rfl, rfl, .inr (kEq_eq hk), h⟩
      · exact absurd h no
  · refine .inr ⟨_, _, rfl, rfl, ?_⟩
    split at h
    · rcases h with h | ⟨_, _, h, _⟩ <;> cases h; exact .inl ⟨rfl, rfl⟩
    · rcases h with h | ⟨_, _, h, _⟩ <;> cases h; exact .inr (.inl ⟨rfl, rfl⟩)
    · rcases h with h | ⟨_, _, h, hp⟩ <;> cases h; exact .inr (.inr ⟨rfl, hp, rfl⟩)
    · exact absurd h no
  · exact absurd h no

/-! structs compared -/
theorem eqCs_split {k l : List Nat} : ∀ {xs ys : List T} {r : Bool}, eqCs (k ++ l) xs ys = some r → ∃ r1 r2, eqCs k (xs.take k.length) (ys.take k.length) = some r1 ∧ eqCs l (xs.drop k.length) (ys.drop k.length) = some r2 ∧ r = (r1 && r2) := by
  induction k with
  | nil => intro xs ys r h; exact ⟨true, r, by simp [eqCs], by simpa using h, by simp⟩
  | cons c k ih =>
    intro xs ys r h
    cases xs with
    | nil => cases ys <;> simp [eqCs] at h
    | cons x xs =>
      cases ys with
      | nil => simp [eqCs] at h
      | cons y ys =>
        simp only [List.cons_append, eqCs] at h
        cases e1 : eqC c x y with
        | none => simp [e1] at h
        | some b =>
          cases e2 : eqCs (k ++ l) xs ys with
          | none => simp [e1, e2] at h
          | some d =>
            simp [e1, e2] at h
            obtain ⟨r1, r2, h1, h2, h3⟩ := ih e2
            exact ⟨b && r1, r2, by simp [eqCs, e1, h1], by simpa using h2, by rw [← h, h3, Bool.and_assoc]⟩
theorem eqCs_len : ∀ {sh : List Nat} {xs ys : List T} {r : Bool}, eqCs sh xs ys = some r → xs.length = sh.length ∧ ys.length = sh.length := by
  intro sh
  induction sh with
  | nil => intro xs ys r h; cases xs <;> cases ys <;> simp [eqCs] at h <;> simp
  | cons c sh ih =>
    intro xs ys r h
    cases xs <;> cases ys <;> simp only [eqCs] at h <;> try (cases h; done)
    split at h
    · split at h
      · rename_i e; have := ih e; simp [this]
      · cases h
    · cases h
/-- a value of so many cells -/
def CellsOf (S : Cells) (w : World) (d : TypeDesc) (xs : List T) (v : Value) : Prop :=
  if aggD d then RelT S w (.agg xs) v else ∃ x, xs = [x] ∧ RelT S w x v
theorem run_part {t : TypeId} {d : TypeDesc} {i : TypeInfo} {arr : Array Value} {xs : List T} {off : Nat} (hd : P.underlying t = some d) (hi : P.info? t = some i) (hs : aggD d = false → i.size = 1)
    (hlen : arr.size = xs.length) (h : ∀ (j : Nat) (c : T) (u : Value), xs[j]? = some c → arr[j]? = some u → RelT S w c u) (ho : off + i.size ≤ xs.length) :
    ∃ u, (part t arr off).run P w = .ok u w ∧ CellsOf S w d ((xs.drop off).take i.size) u := by
  cases e : aggD d with
  | true =>
    refine ⟨.agg (arr.extract off (off + i.size)), by simp [part, run_isAgg hd, e, run_sizeOf hi], ?_⟩
    unfold CellsOf
    rw [e, if_pos rfl]
    refine .agg _ _ (by simp; omega) fun j c u hc hu => ?_
    obtain ⟨p1, p2⟩ := take_get hc
    refine h _ _ _ p1 ?_
    rw [Array.getElem?_extract] at hu
    split at hu
    · exact hu
    · cases hu
  | false =>
    have h1 := hs e
    have hlt : off < arr.size := by omega
    have hlt' : off < xs.length := by omega
    have e6 : arr[off]? = some arr[off] := by simp [hlt]
    have e7 : xs[off]? = some xs[off] := by simp [hlt']
    refine ⟨arr[off], by simp [part, run_isAgg hd, e, e6], ?_⟩
    simp only [CellsOf, e, Bool.false_eq_true, if_false]
    refine ⟨xs[off], ?_, h _ _ _ e7 e6⟩
    rw [h1, List.drop_eq_getElem_cons hlt', List.take_succ_cons, List.take_zero]
theorem eqC_int {x y : T} {r : Bool} (h : eqC 1 x y = some r) : ∃ k a b, x = .int k a ∧ y = .int k b ∧ r = eqI a b := by
  unfold eqC at h
  split at h <;> first
    | (rename_i e; cases e; done)
    | skip
  · rename_i k a j b
    split at h
    · rename_i hk
      have := kEq_eq hk; subst this
      cases h
      exact ⟨_, _, _, rfl, rfl, rfl⟩
    · cases h
  · cases h
theorem eqC_bool {x y : T} {r : Bool} (h : eqC 0 x y = some r) : ∃ a b, x = .bool a ∧ y = .bool b ∧ r = (a == b) := by
  unfold eqC at h
  split at h <;> first
    | (rename_i e; cases e; done)
    | (cases h; done)
    | (cases h; exact ⟨_, _, rfl, rfl, eqB_def _ _⟩)
theorem eqC_str {x y : T} {r : Bool} (h : eqC 2 x y = some r) : ∃ a b, x = .str a ∧ y = .str b ∧ r = eqS a b := by
  unfold eqC at h
  split at h <;> first
    | (rename_i e; cases e; done)
    | (cases h; done)
    | (cases h; exact ⟨_, _, rfl, rfl, rfl⟩)
theorem run_flat (P : Program) (S : Cells) (w : World) : ∀ n,
    (∀ t sh dd, flatS P n t = some sh → P.underlying t = some dd → (aggD dd = false → sh.length = 1) ∧ ∀ d, n ≤ d → ∀ (xs ys : List T) (r : Bool) (u v : Value), eqCs sh xs ys = some r → CellsOf S w dd xs u → CellsOf S w dd ys v → (Op.equalIn d t u v).run P w = .ok r w) ∧
    (∀ acc fs sh, flatFs P n acc fs = some sh → ∀ d, n ≤ d → ∀ (xs ys : List T) (au av : Array Value) (r : Bool), xs.length = acc + sh.length → ys.length = acc + sh.length → RelT S w (.agg xs) (.agg au) → RelT S w (.agg ys) (.agg av) →
      eqCs sh (xs.drop acc) (ys.drop acc) = some r → (Op.eqFields d au av fs).run P w = .ok r w) := by
  intro n
  induction n with
  | zero => exact ⟨fun t sh dd h => by simp [flatS] at h, fun acc fs sh h => by simp [flatFs] at h⟩
  | succ n ih =>
    refine ⟨fun t sh dd h hdd => ?_, fun acc fs sh h d hd xs ys au av r hx hy hu hv he => ?_⟩
    · unfold flatS at h
      have one : ∀ {c : Nat} {x y : List T} {r : Bool}, eqCs [c] x y = some r → ∃ x0 y0, x = [x0] ∧ y = [y0] ∧ eqC c x0 y0 = some r := by
        intro c x y r h
        have hl := eqCs_len h
        obtain ⟨x0, rfl⟩ : ∃ x0, x = [x0] := by cases x with
          | nil => simp at hl
          | cons x0 x => cases x with
            | nil => exact ⟨x0, rfl⟩
            | cons => simp at hl
        obtain ⟨y0, rfl⟩ : ∃ x0, y = [x0] := by cases y with
          | nil => simp at hl
          | cons x0 x => cases x with
            | nil => exact ⟨x0, rfl⟩
            | cons => simp at hl
        refine ⟨x0, y0, rfl, rfl, ?_⟩
        cases e : eqC c x0 y0 <;> simp [eqCs, e] at h ⊢
        exact h
      split at h
      · rename_i ht
        rw [ht] at hdd; cases hdd
        cases h
        refine ⟨fun _ => rfl, fun d hd xs ys r u v he hu hv => ?_⟩
        obtain ⟨d, rfl⟩ : ∃ m, d = m + 1 := ⟨d - 1, by omega⟩
        obtain ⟨x0, y0, e8, e9, he1⟩ := one he
        subst e8 e9
        obtain ⟨_, e1, hu⟩ := hu; cases e1
        obtain ⟨_, e1, hv⟩ := hv; cases e1
        obtain ⟨p, q, rfl, rfl, rfl⟩ := eqC_bool he1
        rw [RelT.bool_of hu, RelT.bool_of hv]
        exact run_equalIn_bool' w d t _ _ ht
      · rename_i k ht
        rw [ht] at hdd; cases hdd
        cases h
        refine ⟨fun _ => rfl, fun d hd xs ys r u v he hu hv => ?_⟩
        obtain ⟨d, rfl⟩ : ∃ m, d = m + 1 := ⟨d - 1, by omega⟩
        obtain ⟨x0, y0, e8, e9, he1⟩ := one he
        subst e8 e9
        obtain ⟨_, e1, hu⟩ := hu; cases e1
        obtain ⟨_, e1, hv⟩ := hv; cases e1
        obtain ⟨k', p, q, rfl, rfl, rfl⟩ := eqC_int he1
        rw [RelT.int_of hu, RelT.int_of hv, run_equalIn_int w d t _ _ _ _ ht, eqI_def]
      · rename_i ht
        rw [ht] at hdd; cases hdd
        cases h
        refine ⟨fun _ => rfl, fun d hd xs ys r u v he hu hv => ?_⟩
        obtain ⟨d, rfl⟩ : ∃ m, d = m + 1 := ⟨d - 1, by omega⟩
        obtain ⟨x0, y0, e8, e9, he1⟩ := one he
        subst e8 e9
        obtain ⟨_, e1, hu⟩ := hu; cases e1
        obtain ⟨_, e1, hv⟩ := hv; cases e1
        obtain ⟨p, q, rfl, rfl, rfl⟩ := eqC_str he1
        rw [RelT.str_of hu, RelT.str_of hv, run_equalIn_string w d t _ _ ht, eqS_def]
      · rename_i fs ht
        rw [ht] at hdd; cases hdd
        split at h
        · cases h
        · rename_i hst
          refine ⟨fun h => by simp [aggD] at h, fun d hd xs ys r u v he hu hv => ?_⟩
          obtain ⟨d, rfl⟩ : ∃ m, d = m + 1 := ⟨d - 1, by omega⟩
          have hu' : RelT S w (.agg xs) u := hu
          have hv' : RelT S w (.agg ys) v := hv
          obtain ⟨au, rfl, _, _⟩ := RelT.agg_of hu'
          obtain ⟨av, rfl, _, _⟩ := RelT.agg_of hv'
          have hl := eqCs_len he
          have hfo : P.fieldsOf t = fs := by simp [Program.fieldsOf, ht]
          rw [run_equalIn_struct w d t au av (by rw [hfo]; exact ht) (by simpa using hst), hfo]
          exact ih.2 0 _ _ h d (by omega) xs ys au av r (by omega) (by omega) hu' hv' (by simpa using he)
      · cases h
    · unfold flatFs at h
      split at h
      · cases h
        have hl := eqCs_len he
        have e1 : xs.drop acc = [] := List.length_eq_zero_iff.1 hl.1
        have e2 : ys.drop acc = [] := List.length_eq_zero_iff.1 hl.2
        rw [e1, e2] at he
        simp [eqCs] at he; subst he
        simp [Op.eqFields]
      · rename_i f fs
        split at h
        · cases h
        · rename_i hname
          split at h
          · rename_i hoff
            split at h
            · rename_i k i hk hi
              split at h
              · rename_i hsz
                cases e : flatFs P n (acc + k.length) fs with
                | none => simp [e] at h
                | some rest =>
                  simp [e] at h; subst h
                  simp only [List.length_append] at hx hy
                  obtain ⟨r1, r2, g1, g2, g3⟩ := eqCs_split he
                  obtain ⟨dd, hdd⟩ : ∃ dd, P.underlying f.type = some dd := by
                    cases n with
                    | zero => simp [flatS] at hk
                    | succ n =>
                      unfold flatS at hk
                      cases e : P.underlying f.type with
                      | none => simp [e] at hk
                      | some dd => exact ⟨dd, rfl⟩
                  obtain ⟨q1, q2⟩ := ih.1 _ _ dd hk hdd
                  cases hu with
                  | agg _ _ hnu hu =>
                  cases hv with
                  | agg _ _ hnv hv =>
                  obtain ⟨a1, p1, p2⟩ := run_part (P := P) (arr := au) (off := f.offset) hdd hi (fun e => by rw [hsz]; exact q1 e) hnu hu (by omega)
                  obtain ⟨b1, p3, p4⟩ := run_part (P := P) (arr := av) (off := f.offset) hdd hi (fun e => by rw [hsz]; exact q1 e) hnv hv (by omega)
                  rw [hsz, hoff] at p2 p4
                  have q3 := q2 d (by omega) _ _ _ _ _ g1 p2 p4
                  rw [List.drop_drop, List.drop_drop] at g2
                  have q4 := ih.2 _ _ _ e d (by omega) xs ys au av r2 (by omega) (by omega) (.agg _ _ hnu hu) (.agg _ _ hnv hv) g2
                  simp only [Op.eqFields, ne_eq, hname, not_false_eq_true, if_true, Sem.run_bind, p1, Result.andThen_ok, p3, q3]
                  cases r1
                  · simp [g3]
                  · simp [q4, g3]
              · cases h
            · cases h
          · cases h

theorem putN_nil {α : Type} (cs : List α) (o : Nat) : putN cs o [] = cs := by cases cs <;> cases o <;> rfl
theorem putN_cons {α : Type} (cs : List α) (o : Nat) (v : α) (vs : List α) (h : o < cs.length) : putN (cs.set o v) (o + 1) vs = putN cs o (v :: vs) := by
  induction cs generalizing o with
  | nil => simp at h
  | cons x r ih =>
    cases o with
    | zero =>
      cases vs with
      | nil => simp [putN_nil, putN]
      | cons => simp [putN]
    | succ o =>
      simp only [List.set_cons_succ]
      cases vs with
      | nil => have := ih o (by simpa using h); rw [putN_nil] at this ⊢; rw [this]; rfl
      | cons => simp only [putN]; rw [ih o (by simpa using h)]
theorem fill_foldl (off : Nat) : ∀ (l : List Value) (s : Nat) (cells : Array Value), off + s + l.length ≤ cells.size →
    ((l.zipIdx s).foldl (fun cs p => cs.setIfInBounds (off + p.2) p.1) cells).toList = putN cells.toList (off + s) l := by
  intro l
  induction l with
  | nil =>
    intro s cells h
    simp
    cases cells.toList <;> cases (off + s) <;> rfl
  | cons v l ih =>
    intro s cells h
    simp at h
    simp only [List.zipIdx_cons, List.foldl_cons]
    rw [ih (s + 1) (cells.setIfInBounds (off + s) v) (by simp; omega)]
    rw [← Nat.add_assoc]
    simp only [Array.toList_setIfInBounds]
    exact putN_cons _ _ _ _ (by simp; omega)
theorem placeOf_spec {t : TypeId} {f : Nat → Option (Nat × Nat)} (h : placeOf P t = some f) : ∃ i z, P.info? t = some i ∧ i.zero = some z ∧ ∀ parts, P.built t parts = Instr.fill f z.cells parts := by
  unfold placeOf at h
  split at h
  · rename_i it len e h1 h2
    split at h
    · rename_i z ie h3 h4
      cases h
      exact ⟨it, z, h1, h3, fun parts => by simp [Program.built, h1, h2, h3, h4]⟩
    · cases h
  · rename_i it fs h1 h2
    split at h
    · rename_i z pl h3 h4
      cases h
      exact ⟨it, z, h1, h3, fun parts => by simp [Program.built, h1, h2, h3, h4]⟩
    · cases h
  · cases h

theorem fill_elems (size : Nat) : ∀ (vs : List Value) (i : Nat) (cells : Array Value), (∀ v ∈ vs, v.cells.size = size) → (i + vs.length) * size ≤ cells.size →
    ∃ cells', Instr.fill (fun i => some (i * size, size)) cells ((List.range' i vs.length).zip vs) = some cells' ∧ cells'.size = cells.size ∧ (∀ j, j < i * size → cells'[j]? = cells[j]?) ∧
      ∀ (n : Nat) (v : Value), vs[n]? = some v → ∀ (j : Nat) (c : Value), v.cells[j]? = some c → cells'[(i + n) * size + j]? = some c := by
  intro vs
  induction vs with
  | nil => intro i cells _ _; exact ⟨cells, by simp [Instr.fill], rfl, fun _ _ => rfl, fun n v h => by simp at h⟩
  | cons v vs ih =>
    intro i cells hv hlen
    have h0 := hv v (by simp)
    have e1 : (i + (v :: vs).length) * size = i * size + size + vs.length * size := by
      simp only [List.length_cons, Nat.add_mul]; omega
    have e2 : (i + 1 + vs.length) * size = i * size + size + vs.length * size := by simp only [Nat.add_mul]; omega
    have e3 : (i + 1) * size = i * size + size := by simp only [Nat.add_mul]; omega
    rw [e1] at hlen
    have hf : (v.cells.zipIdx.foldl (fun cs (c, j) => cs.setIfInBounds (i * size + j) c) cells).toList = putN cells.toList (i * size) v.cells.toList := by
      have := fill_foldl (i * size) v.cells.toList 0 cells (by simp [h0]; omega)
      rw [Nat.add_zero] at this
      rw [← this, ← Array.foldl_toList, Array.toList_zipIdx]
    have hl : i * size + v.cells.toList.length ≤ cells.toList.length := by simp [h0]; omega
    have hsz : (v.cells.zipIdx.foldl (fun cs (c, j) => cs.setIfInBounds (i * size + j) c) cells).size = cells.size := by
      rw [← Array.length_toList, hf, putN_length _ _ _ (.inr hl), Array.length_toList]
    obtain ⟨cells', g1, g2, g3, g4⟩ := ih (i + 1) (v.cells.zipIdx.foldl (fun cs (c, j) => cs.setIfInBounds (i * size + j) c) cells) (fun v hv' => hv v (by simp [hv'])) (by rw [e2, hsz]; exact hlen)
    refine ⟨cells', ?_, by rw [g2, hsz], fun j hj => ?_, fun n u hn j c hc => ?_⟩
    · simp only [List.length_cons, List.range'_succ, List.zip_cons_cons, Instr.fill]
      rw [if_neg (by simp [h0]; omega)]
      exact g1
    · rw [g3 j (by rw [e3]; omega), ← Array.getElem?_toList, hf, putN_get _ _ _ j hl, if_neg (by omega)]
      simp
    · cases n with
      | zero =>
        simp at hn; subst hn
        have hj : j < v.cells.size := by
          rcases Nat.lt_or_ge j v.cells.size with h | h
          · exact h
          · rw [Array.getElem?_eq_none h] at hc; cases hc
        rw [Nat.add_zero, g3 _ (by rw [e3]; omega), ← Array.getElem?_toList, hf, putN_get _ _ _ _ hl, if_pos (by simp; omega)]
        simpa using hc
      | succ n =>
        have := g4 n u (by simpa using hn) j c hc
        rw [show i + (n + 1) = i + 1 + n by omega]
        exact this

theorem bounds_run (isS : Bool) {len cap : Nat} {lo hi : Option Operand} {l h : Int} (hl : (lo = none ∧ l = (0 : Nat)) ∨ ∃ y k, lo = some y ∧ a.eval y = .int k l)
    (hh : (hi = none ∧ h = len) ∨ ∃ y k, hi = some y ∧ a.eval y = .int k h) (h0 : 0 ≤ l) (h1 : l ≤ h) (h2 : h ≤ cap) :
    (Instr.sliceBounds isS len cap (lo.map a.eval) (hi.map a.eval) none).run P w = .ok (l.toNat, h.toNat, cap) w := by
  have eh : (h.toNat : Int) = h := Int.toNat_of_nonneg (by omega)
  have g1 : 0 ≤ h := by omega
  rcases hl with ⟨e1, e2⟩ | ⟨y, k, e1, e2⟩ <;> rcases hh with ⟨e3, e4⟩ | ⟨z, j, e3, e4⟩
  · subst e1 e2 e3 e4; simp [Instr.sliceBounds]
  · subst e1 e2 e3; simp [Instr.sliceBounds, e4, Instr.sliceBound, asIntOf, g1, h2]
  · subst e1 e3 e4
    simp [Instr.sliceBounds, e2, Instr.sliceBound, asIntOf, h0, h1]
  · subst e1 e3
    simp [Instr.sliceBounds, e2, e4, Instr.sliceBound, asIntOf, h0, h1, h2, g1, eh]


theorem ansP_elim {ans : Ans} {k : Nat} (hg : ∀ p d sz xs, ans ≠ @Ans.gl p d sz xs) (h : run dr (ansP ans k) own log K) : ∃ x, (ans = .yes x ∨ ∃ p d, ans = @Ans.req p d x ∧ p) ∧ K (.t x) own log := by
  cases ans with
  | no => exact h.elim
  | yes x => exact ⟨x, .inl rfl, h⟩
  | req p x => obtain ⟨h1, h2⟩ := req_elim h; exact ⟨x, .inr ⟨p, _, rfl, h1⟩, h2⟩
  | gl p sz xs => exact (hg p _ sz xs rfl).elim
  | pk p x => exact h.elim
theorem binI_ngl {op : BinOp} {k : IntKind} {a b : Int} : ∀ p d sz xs, binI op k a b ≠ @Ans.gl p d sz xs := by intro p d sz xs; cases op <;> simp [binI]
theorem binA_ngl {op : BinOp} {x y : T} : ∀ p d sz xs, binA op x y ≠ @Ans.gl p d sz xs := by
  intro p d sz xs h
  unfold binA at h
  split at h
  · split at h
    · exact binI_ngl _ _ _ _ h
    · split at h
      · exact binI_ngl _ _ _ _ h
      · cases h
  · split at h <;> cases h
  · cases h
theorem binbA_ngl {op : BinOp} {x y : T} : ∀ p d sz xs, binbA op x y ≠ @Ans.gl p d sz xs := by
  intro p d sz xs h
  unfold binbA at h
  split at h
  · split at h <;> cases h
  · cases h
theorem unA_ngl {op : UnOp} {x : T} : ∀ p d sz xs, unA op x ≠ @Ans.gl p d sz xs := by
  intro p d sz xs h
  unfold unA at h
  split at h <;> cases h

theorem op_bin (hr : Rel Γ B S ρ ⟨tm, own⟩ a w) {x y : Operand} {op : BinOp} {t yt : TypeId} {vx vy : V} (hx : RelV S w ρ own vx (a.eval x)) (hy : RelV S w ρ own vy (a.eval y)) (ho : o.op = .binOp op t x y yt) {base : Nat} {x' y' : Opd}
    (h : run dr (prog base (.bin op x' y') [vx, vy]) own log K) : Did P Γ B o a w tm K := by
  simp only [prog] at h
  split at h
  · obtain ⟨r, h1, h2⟩ := ansP_elim binA_ngl h
    have hrel := hx.t_of
    have hrel2 := hy.t_of
    rcases binA_elim h1 with ⟨k, x0, j, y0, e1, e2, hk, hb⟩ | ⟨s, z, e1, e2, hc⟩
    · subst e1 e2
      have e1 := RelT.int_of hrel
      have e2 := RelT.int_of hrel2
      obtain ⟨z, g1, g2⟩ := run_binI (S := S) (P := P) (w := w) (t := t) hk hb
      refine did_val h2 hr (.t _ _ g2) ?_
      simp [execOp, ho, e1, e2, run_eqGuard_plain, g1]
    · subst e1 e2
      have e1 := RelT.str_of hrel
      have e2 := RelT.str_of hrel2
      rcases hc with ⟨c1, c2⟩ | ⟨c1, c2⟩ | ⟨c1, c3, c2⟩ <;> subst c1 c2
      · exact did_val h2 hr (u := .bool _) (.t _ _ (.bool _)) (by simp [execOp, ho, e1, e2, run_eqGuard_plain, binOp, Op.stringOp, eqS_def])
      · exact did_val h2 hr (u := .bool _) (.t _ _ (.bool _)) (by simp [execOp, ho, e1, e2, run_eqGuard_plain, binOp, Op.stringOp, eqS_def])
      · refine did_val h2 hr (u := .string _) (.t _ _ (.str _)) ?_
        have hp' : ¬ (((s.size + z.size : Nat) : Int) > IntKind.i64.max) := by
          have : IntKind.i64.max = 9223372036854775807 := rfl
          rw [this]; omega
        simp only [execOp, ho, e1, e2, Sem.run_bind, run_eqGuard_plain, binOp, Op.stringOp, ne_eq, reduceCtorEq, not_false_eq_true, implies_true, Result.andThen_ok]
        rw [if_neg hp']
        simp
  · exact h.elim
theorem op_binb (hr : Rel Γ B S ρ ⟨tm, own⟩ a w) {x y : Operand} {op : BinOp} {t yt : TypeId} {vx vy : V} (hx : RelV S w ρ own vx (a.eval x)) (hy : RelV S w ρ own vy (a.eval y)) (ht : P.underlying t = some .bool) (ho : o.op = .binOp op t x y yt) {base : Nat} {x' y' : Opd}
    (h : run dr (prog base (.binb op x' y') [vx, vy]) own log K) : Did P Γ B o a w tm K := by
  simp only [prog] at h
  split at h
  · obtain ⟨r, h1, h2⟩ := ansP_elim binbA_ngl h
    have hrel := hx.t_of
    have hrel2 := hy.t_of
    unfold binbA at h1
    split at h1
    · have e1 := RelT.bool_of hrel
      have e2 := RelT.bool_of hrel2
      split at h1
      · rcases h1 with h1 | ⟨_, _, h1, _⟩ <;> cases h1
        exact did_val h2 hr (u := .bool _) (.t _ _ (.bool _)) (by simp [execOp, ho, e1, e2, run_eqGuard_plain, run_eql_bool, ht, eqB_def])
      · rcases h1 with h1 | ⟨_, _, h1, _⟩ <;> cases h1
        exact did_val h2 hr (u := .bool _) (.t _ _ (.bool _)) (by simp [execOp, ho, e1, e2, run_eqGuard_plain, run_neq_bool, ht, eqB_def])
      · rcases h1 with h1 | ⟨_, _, h1, _⟩ <;> cases h1
    · rcases h1 with h1 | ⟨_, _, h1, _⟩ <;> cases h1
  · exact h.elim
theorem op_eqa (hr : Rel Γ B S ρ ⟨tm, own⟩ a w) {x y : Operand} {op : BinOp} {neg : Bool} {sh : List Nat} {t yt : TypeId} {d : TypeDesc} {vx vy : V} (hx : RelV S w ρ own vx (a.eval x)) (hy : RelV S w ρ own vy (a.eval y))
    (ht : P.underlying t = some d) (ha : aggD d = true) (hg : P.eqGuardType P.depth t = false) (hs : flatS P 1000 t = some sh) (hop : op = if neg then .neq else .eql)
    (ho : o.op = .binOp op t x y yt) {base : Nat} {x' y' : Opd} (h : run dr (prog base (.eqa neg sh x' y') [vx, vy]) own log K) : Did P Γ B o a w tm K := by
  simp only [prog] at h
  split at h
  · rename_i xs ys
    split at h
    · rename_i r hr1
      have h1 : RelT S w (.agg xs) (a.eval x) := hx.t_of
      have h2 : RelT S w (.agg ys) (a.eval y) := hy.t_of
      obtain ⟨au, e1, _, _⟩ := RelT.agg_of h1
      obtain ⟨av, e2, _, _⟩ := RelT.agg_of h2
      have hc : ∀ (l : List T) (v : Value), RelT S w (.agg l) v → CellsOf S w d l v := fun l v h => by unfold CellsOf; rw [ha, if_pos rfl]; exact h
      have run := ((run_flat P S w 1000).1 t sh d hs ht).2 10000 (by omega) xs ys r _ _ hr1 (hc _ _ h1) (hc _ _ h2)
      rw [e1, e2] at run
      refine did_val h hr (u := .bool _) (.t _ _ (.bool _)) ?_
      cases neg
      · subst hop
        simp [execOp, ho, e1, e2, run_eqGuard_agg, hg, run_eql_struct, run]
      · subst hop
        simp [execOp, ho, e1, e2, run_eqGuard_agg, hg, run_neq_struct, run]
    · exact h.elim
  · exact h.elim
theorem op_un (hr : Rel Γ B S ρ ⟨tm, own⟩ a w) {x : Operand} {op : UnOp} {t : TypeId} {v : V} (hx : RelV S w ρ own v (a.eval x)) (ho : o.op = .unOp op t x) {base : Nat} {x' : Opd} (h : run dr (prog base (.un op x') [v]) own log K) : Did P Γ B o a w tm K := by
  simp only [prog] at h
  split at h
  · obtain ⟨r, h1, h2⟩ := ansP_elim unA_ngl h
    have hrel := hx.t_of
    unfold unA at h1
    split at h1 <;> simp at h1
    · subst h1
      have e := RelT.bool_of hrel
      exact did_val h2 hr (u := .bool (!_)) (.t _ _ (.bool _)) (by simp [execOp, ho, e, Op.unary])
    · subst h1
      have e := RelT.int_of hrel
      exact did_val h2 hr (u := .int _ _) (.t _ _ (.int _ _)) (by simp [execOp, ho, e, Op.unary, Op.intArith])
    · subst h1
      have e := RelT.int_of hrel
      exact did_val h2 hr (u := .int _ _) (.t _ _ (.int _ _)) (by simp [execOp, ho, e, Op.unary, Op.intBits, xorI])
  · exact h.elim
theorem op_conv (hr : Rel Γ B S ρ ⟨tm, own⟩ a w) {x : Operand} {s d : TypeId} {k j : IntKind} {v : V} (hx : RelV S w ρ own v (a.eval x))
    (h1 : P.underlying s = some (.int j)) (h2 : P.underlying d = some (.int k)) (ho : o.op = .convert s d x) {base : Nat} {x' : Opd} (h : run dr (prog base (.conv k x') [v]) own log K) : Did P Γ B o a w tm K := by
  simp only [prog] at h
  split at h
  · have e := RelT.int_of hx.t_of
    exact did_val h hr (u := .int _ _) (.t _ _ (.int _ _)) (by simp [execOp, ho, e, convert, underlying, h1, h2, Conv.intToInt])
  · exact h.elim
theorem op_convs (hr : Rel Γ B S ρ ⟨tm, own⟩ a w) {x : Operand} {s d : TypeId} {v : V} (hx : RelV S w ρ own v (a.eval x))
    (h1 : P.underlying s = some .string) (h2 : P.underlying d = some .string) (ho : o.op = .convert s d x) {base : Nat} {x' : Opd} (h : run dr (prog base (.cvs x') [v]) own log K) : Did P Γ B o a w tm K := by
  simp only [prog] at h
  split at h
  · have e := RelT.str_of hx.t_of
    exact did_val h hr (u := .string _) (.t _ _ (.str _)) (by simp [execOp, ho, e, convert, underlying, h1, h2])
  · exact h.elim
theorem arr_get {α β : Type} {l : List α} {arr : Array β} (h : arr.size = l.length) {i : Nat} {x : α} (hx : l[i]? = some x) : ∃ hlt : i < arr.size, arr[i]? = some arr[i] := by
  have hlt : i < arr.size := by
    rw [h]
    rcases Nat.lt_or_ge i l.length with h' | h'
    · exact h'
    · rw [List.getElem?_eq_none h'] at hx; cases hx
  exact ⟨hlt, by simp [hlt]⟩
theorem op_ext (hr : Rel Γ B S ρ ⟨tm, own⟩ a w) {x : Operand} {i : Nat} {v : V} (hx : RelV S w ρ own v (a.eval x)) (ho : o.op = .extract x i) {base : Nat} {x' : Opd} (h : run dr (prog base (.ext x' i) [v]) own log K) : Did P Γ B o a w tm K := by
  simp only [prog] at h
  split at h
  · rename_i l
    obtain ⟨y, h1, h2⟩ := getP_elim h
    have hrel := hx.t_of
    generalize hux : a.eval x = ux at hrel
    cases hrel with
    | tup _ arr hn' hh =>
      obtain ⟨hlt, e6⟩ := arr_get hn' h1
      exact did_val h2 hr (.t _ _ (hh _ _ _ h1 e6)) (by simp [execOp, ho, hux, Instr.extract, e6])
  · rename_i l
    obtain ⟨y, h1, h2⟩ := getP_elim h
    generalize hux : a.eval x = ux at hx
    cases hx with
    | tup _ arr hn' hh =>
      obtain ⟨hlt, e6⟩ := arr_get hn' h1
      exact did_val h2 hr (hh _ _ _ h1 e6) (by simp [execOp, ho, hux, Instr.extract, e6])
  · exact h.elim
theorem op_nilc (hr : Rel Γ B S ρ ⟨tm, own⟩ a w) {x : Operand} {v : V} (hx : RelV S w ρ own v (a.eval x)) (ho : o.op = .nilCheck x) {base : Nat} {x' : Opd} (h : run dr (prog base (.nilc x') [v]) own log K) : Did P Γ B o a w tm K := by
  simp only [prog] at h
  have fin : ∀ u, a.eval x = u → (∀ u', u = .pointer u' → u' ≠ none) → u ≠ .nilIface → u ≠ .nilFunc → (∀ n p q, u ≠ .func (.method n) p q) → RelV S w ρ own v u → K v own log → Did P Γ B o a w tm K := by
    intro u hu h1 h2 h3 h4 hv hK
    refine did_val hK hr hv ?_
    simp only [execOp, ho, hu]
    cases u with
    | pointer p =>
      cases p with
      | none => exact absurd rfl (h1 none rfl)
      | some p => simp
    | func f p q =>
      cases f with
      | method n => exact absurd rfl (h4 n p q)
      | _ => simp
    | nilIface => exact absurd rfl h2
    | nilFunc => exact absurd rfl h3
    | _ => simp
  have hx0 := hx
  generalize hu : a.eval x = u at hx
  split at h
  · have e := ptr_of hx; subst e; exact fin _ hu (fun u' h => by cases h; simp) (by simp) (by simp) (by simp) hx h
  · cases hx with
    | eptr _ _ _ b hb ad ha => exact fin _ hu (fun u' h => by cases h; simp) (by simp) (by simp) (by simp) (.eptr _ _ _ b hb ad ha) h
  · have hT := hx.t_of
    cases hT with
    | ref cs b o' uu h1 h2 => exact fin _ hu (fun u' h => by cases h; simp) (by simp) (by simp) (by simp) hx h
  · have hT := hx.t_of
    cases hT with
    | fn => exact fin _ hu (fun u' h => by cases h) (by simp) (by simp) (by simp) hx h
  · cases hx with
    | fn _ _ _ va vb q1 q2 q3 q4 => exact fin _ hu (fun u' h => by cases h) (by simp) (by simp) (by simp) (.fn _ _ _ va vb q1 q2 q3 q4) h
  · exact h.elim
theorem add_addr {b off f : Nat} : Addr.add ⟨b, off, none⟩ f = ⟨b, off + f, none⟩ := by
  by_cases z : f = 0
  · subst z; simp [Addr.add]
  · simp [Addr.add, z]
theorem ref_drop {cs : List T} {b o n : Nat} (h : RelT S w (.ref cs) (.pointer (some ⟨b, o, none⟩))) : RelT S w (.ref (cs.drop n)) (.pointer (some ⟨b, o + n, none⟩)) := by
  cases h with
  | ref _ _ _ u ha hh =>
    refine .ref _ _ _ (fun i => u (n + i)) (fun i hi => ?_) fun i c hc => ?_
    · have := ha (n + i) (by simp at hi; omega)
      rw [Nat.add_assoc]; exact this
    · rw [List.getElem?_drop] at hc; exact hh _ _ hc
theorem ref_of {cs : List T} {u : Value} (h : RelT S w (.ref cs) u) : ∃ b o, u = .pointer (some ⟨b, o, none⟩) := by cases h; exact ⟨_, _, rfl⟩
theorem op_fa (hr : Rel Γ B S ρ ⟨tm, own⟩ a w) {x : Operand} {s : TypeId} {f : Nat} {fs : Array Field} {fl : Field} {i : TypeInfo} {v : V} (hx : RelV S w ρ own v (a.eval x))
    (h1 : P.underlying s = some (.struct fs)) (h2 : fs[f]? = some fl) (h3 : P.info? fl.type = some i) (h4 : i.size ≠ 0)
    (ho : o.op = .fieldAddr s x f) {base : Nat} {x' : Opd} (h : run dr (prog base (.fa fl.offset x') [v]) own log K) : Did P Γ B o a w tm K := by
  simp only [prog] at h
  have run : ∀ ad : Addr, a.eval x = .pointer (some ad) → (execOp a.eval o).run P w = .ok (.value (.pointer (some (ad.add fl.offset)))) w := by
    intro ad e
    simp [execOp, ho, e, Instr.fieldAt, underlying, h1, h2, Instr.sureAddr, fieldPlace, run_sizeOf h3, h4]
  split at h
  · rename_i k off
    have e := ptr_of hx
    have r := run _ e
    rw [add_addr] at r
    generalize a.eval x = u at hx
    cases hx with
    | ptr _ _ b hb => exact did_val h hr (.ptr k _ b hb) r
  · rename_i k ie j
    generalize hu : a.eval x = u at hx
    cases hx with
    | eptr _ _ _ b hb ad ha =>
      have r := run _ hu
      refine did_val h hr (.eptr k ie _ b hb _ fun sz ts m e => ?_) r
      rw [ha sz ts m e, add_addr, Nat.add_assoc]; rfl
  · rename_i cs
    obtain ⟨b, o', e⟩ := ref_of hx.t_of
    have r := run _ e
    rw [add_addr] at r
    have hT := hx.t_of
    rw [e] at hT
    exact did_val h hr (.t _ _ (ref_drop hT)) r
  · exact h.elim
theorem op_fld (hr : Rel Γ B S ρ ⟨tm, own⟩ a w) {x : Operand} {s : TypeId} {f : Nat} {fs : Array Field} {fl : Field} {n : Option Nat} {v : V} (hx : RelV S w ρ own v (a.eval x))
    (h1 : P.underlying s = some (.struct fs)) (h2 : fs[f]? = some fl) (h3 : cellsN P fl.type = some n)
    (ho : o.op = .field s x f) {base : Nat} {x' : Opd} (h : run dr (prog base (.fld fl.offset n x') [v]) own log K) : Did P Γ B o a w tm K := by
  simp only [prog] at h
  obtain ⟨d, i, g1, g2, g3⟩ := cellsN_spec h3
  have key : ∀ (arr : Array Value), a.eval x = .agg arr → (n = none → ∀ u, arr[fl.offset]? = some u → (execOp a.eval o).run P w = .ok (.value u) w) ∧
      (∀ m, n = some m → (execOp a.eval o).run P w = .ok (.value (.agg (arr.extract fl.offset (fl.offset + m)))) w) := fun arr e => by
    refine ⟨fun hn u hu => ?_, fun m hm => ?_⟩
    · rcases g3 with ⟨_, g3⟩ | ⟨g3, _⟩
      · simp [execOp, ho, e, Instr.field, underlying, h1, h2, asAgg, part, run_isAgg g1, g3, hu]
      · rw [hn] at g3; cases g3
    · rcases g3 with ⟨g3, _⟩ | ⟨g3, g4⟩
      · rw [hm] at g3; cases g3
      · rw [hm] at g3; cases g3
        simp [execOp, ho, e, Instr.field, underlying, h1, h2, asAgg, part, run_isAgg g1, g4, run_sizeOf g2]
  split at h
  · rename_i cs
    obtain ⟨arr, e, c1, c2⟩ := RelT.agg_of hx.t_of
    obtain ⟨k1, k2⟩ := key arr e
    rcases rdTP_elim h with ⟨e4, y, hy, hK⟩ | ⟨m, e4, hm, hK⟩
    · obtain ⟨hlt, e6⟩ := arr_get c1 hy
      exact did_val hK hr (.t _ _ (c2 _ _ _ hy e6)) (k1 e4 _ e6)
    · refine did_val hK hr (u := .agg (arr.extract fl.offset (fl.offset + m))) (.t _ _ (.agg _ _ (by simp [c1]; rcases hm with hm | hm <;> omega) fun j c u hc hu => ?_)) (k2 m e4)
      obtain ⟨p1, p2⟩ := take_get hc
      refine c2 _ _ _ p1 ?_
      rw [Array.getElem?_extract] at hu
      split at hu
      · exact hu
      · cases hu
  · rename_i cs
    obtain ⟨arr, e, c1, c2⟩ : ∃ arr, a.eval x = .agg arr ∧ arr.size = cs.length ∧ ∀ (i : Nat) (c : V) (u : Value), cs[i]? = some c → arr[i]? = some u → RelV S w ρ own c u := by
      generalize a.eval x = u at hx
      cases hx with
      | agg _ arr hn h => exact ⟨arr, rfl, hn, h⟩
    obtain ⟨k1, k2⟩ := key arr e
    rcases rdP_elim h with ⟨e4, y, hy, hK⟩ | ⟨m, e4, hm, hK⟩
    · obtain ⟨hlt, e6⟩ := arr_get c1 hy
      exact did_val hK hr (c2 _ _ _ hy e6) (k1 e4 _ e6)
    · refine did_val hK hr (u := .agg (arr.extract fl.offset (fl.offset + m))) (rel_aggV (by simp [c1]; rcases hm with hm | hm <;> omega) fun j c u hc hu => ?_) (k2 m e4)
      obtain ⟨p1, p2⟩ := take_get hc
      refine c2 _ _ _ p1 ?_
      rw [Array.getElem?_extract] at hu
      split at hu
      · exact hu
      · cases hu
  · exact h.elim
end
end Go.Nx
