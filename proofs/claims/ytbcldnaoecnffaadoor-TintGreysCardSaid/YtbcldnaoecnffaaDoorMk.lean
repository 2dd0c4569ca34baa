/-
  OPERATORS, COMPARISONS OF STRUCTS, STRUCTS THAT ARE BUILT.
-/
import Derived.Test.YtbcldnaoecnffaaDoorMj
set_option linter.unusedVariables false
namespace Go.Mx
open Go.RowKit

section
variable {P : Program} {Γ : Env} {B : Base} {S : Cells} {ρ : Nat → Info} {tm : List V} {own : List (Nat × Blk)} {a : Act} {w : World}
variable {o : Oper} {K : St → Prop} {next : Act → World → Prop} {Q : Exit → Act → World → Prop}

theorem run_eqGuard_plain (op : BinOp) (t : TypeId) (x y : Operand) (u v : Value) (h1 : u ≠ .nilIface) (h2 : ∀ c, u ≠ .agg c) : (eqGuard op t x y u v).run P w = .ok () w := by
  unfold eqGuard
  cases op <;> simp <;> (cases u <;> first | rfl | exact absurd rfl h1 | exact absurd rfl (h2 _))

theorem run_binI {op : BinOp} {t : TypeId} {k j : IntKind} {x y : Int} {r : T} (hk : isShift op = true ∨ k = j) (h : binI op k x y = .yes r ∨ ∃ p, binI op k x y = .req p r ∧ p) :
    ∃ u, (binOp op t (.int k x) (.int j y)).run P w = .ok u w ∧ RelT S w r u := by
  have nk : ∀ op, isShift op = true ∨ k = j → isShift op = false → k = j := fun op h e => by
    rcases h with h | h
    · rw [e] at h; cases h
    · exact h
  have v (u : Value) (hu : RelT S w r u) (hrun : (binOp op t (.int k x) (.int j y)).run P w = .ok u w) : ∃ u, (binOp op t (.int k x) (.int j y)).run P w = .ok u w ∧ RelT S w r u := ⟨u, hrun, hu⟩
  cases op <;> simp only [binI] at h <;> rcases h with h | ⟨p, h, hp⟩ <;> cases h
  case add => obtain rfl := nk _ hk rfl; exact v _ (.int _ _) (by simp [binOp, Op.intArith])
  case sub => obtain rfl := nk _ hk rfl; exact v _ (.int _ _) (by simp [binOp, Op.intArith])
  case mul => obtain rfl := nk _ hk rfl; exact v _ (.int _ _) (by simp [binOp, Op.intArith])
  case quo => obtain rfl := nk _ hk rfl; exact v _ (.int _ _) (by simp [binOp, Op.intDiv, hp])
  case rem => obtain rfl := nk _ hk rfl; exact v _ (.int _ _) (by simp [binOp, Op.intDiv, hp])
  case and => obtain rfl := nk _ hk rfl; exact v _ (.int _ _) (by simp [binOp, Op.intBits, andI])
  case or => obtain rfl := nk _ hk rfl; exact v _ (.int _ _) (by simp [binOp, Op.intBits, orI])
  case xor => obtain rfl := nk _ hk rfl; exact v _ (.int _ _) (by simp [binOp, Op.intBits, xorI])
  case andNot => obtain rfl := nk _ hk rfl; exact v _ (.int _ _) (by simp [binOp, Op.intBits, andNotI])
  case shl =>
    have hp' : ¬ y < 0 := by omega
    exact v _ (.int _ _) (by simp [binOp, Op.shift, hp', shlI])
  case shr =>
    have hp' : ¬ y < 0 := by omega
    exact v _ (.int _ _) (by simp [binOp, Op.shift, hp', shrI])
  case eql => obtain rfl := nk _ hk rfl; exact v _ (.bool _) (by simp [binOp, Op.intCmp, eqI_def])
  case neq => obtain rfl := nk _ hk rfl; exact v _ (.bool _) (by simp [binOp, Op.intCmp, eqI_def, bne])
  case lss => obtain rfl := nk _ hk rfl; exact v _ (.bool _) (by simp [binOp, Op.intCmp, ltI_def])
  case leq => obtain rfl := nk _ hk rfl; exact v _ (.bool _) (by simp [binOp, Op.intCmp, leI_def])
  case gtr => obtain rfl := nk _ hk rfl; exact v _ (.bool _) (by simp [binOp, Op.intCmp, ltI_def])
  case geq => obtain rfl := nk _ hk rfl; exact v _ (.bool _) (by simp [binOp, Op.intCmp, leI_def])

theorem binA_elim {op : BinOp} {x y r : T} (h : binA op x y = .yes r ∨ ∃ p, binA op x y = .req p r ∧ p) :
    (∃ k a j b, x = .int k a ∧ y = .int j b ∧ (isShift op = true ∨ k = j) ∧ (binI op k a b = .yes r ∨ ∃ p, binI op k a b = .req p r ∧ p)) ∨
    (∃ s t, x = .str s ∧ y = .str t ∧ ((op = .eql ∧ r = .bool (eqS s t)) ∨ (op = .neq ∧ r = .bool (!eqS s t)) ∨ (op = .add ∧ s.size + t.size ≤ 9223372036854775807 ∧ r = .str (s ++ t)))) := by
  have no : ∀ {r : T}, ¬ (Ans.no = .yes r ∨ ∃ p, Ans.no = .req p r ∧ p) := by
    intro r h; rcases h with h | ⟨_, h, _⟩ <;> cases h
  unfold binA at h
  split at h
  · split at h
    · rename_i hs; exact .inl ⟨_, _, _, _, rfl, rfl, .inl hs, h⟩
    · split at h
      · rename_i hk; exact .inl ⟨_, _, _, _, rfl, rfl, .inr (kEq_eq hk), h⟩
      · exact absurd h no
  · refine .inr ⟨_, _, rfl, rfl, ?_⟩
    split at h
    · rcases h with h | ⟨_, h, _⟩ <;> cases h; exact .inl ⟨rfl, rfl⟩
    · rcases h with h | ⟨_, h, _⟩ <;> cases h; exact .inr (.inl ⟨rfl, rfl⟩)
    · rcases h with h | ⟨_, h, hp⟩ <;> cases h; exact .inr (.inr ⟨rfl, hp, rfl⟩)
    · exact absurd h no
  · exact absurd h no

theorem op_bin (hn : ∀ st' a' w', K st' → Good Γ B st' a' w' → next a' w') (hr : Rel Γ B S ρ ⟨tm, own⟩ a w) {x y : Operand} {x' y' : Opd} {op : BinOp} {t yt : TypeId} (hx : lowX x = some x') (hy : lowX y = some y')
    (ho : o.op = .binOp op t x y yt) (h : stepK Γ o.dst ⟨tm, own⟩ (.bin op x' y') K) : o.wp P a w next Q := by
  obtain ⟨v, hv, h⟩ := evK_elim h
  obtain ⟨u, hu, h⟩ := evK_elim h
  have hrel := ev_rel hr hx hv
  have hrel2 := ev_rel hr hy hu
  obtain ⟨p, hp, h⟩ := toTK_elim h
  obtain ⟨q, hq, h⟩ := toTK_elim h
  subst hp hq
  obtain ⟨r, h1, h2⟩ := ansK_elim h
  rcases binA_elim h1 with ⟨k, x0, j, y0, e1, e2, hk, hb⟩ | ⟨s, z, e1, e2, hc⟩
  · subst e1 e2
    have e1 := RelT.int_of hrel
    have e2 := RelT.int_of hrel2
    obtain ⟨z, g1, g2⟩ := run_binI (S := S) (P := P) (w := w) (t := t) hk hb
    refine fin_val hn h2 hr g2 ?_
    simp [execOp, ho, e1, e2, run_eqGuard_plain, g1]
  · subst e1 e2
    have e1 := RelT.str_of hrel
    have e2 := RelT.str_of hrel2
    rcases hc with ⟨c1, c2⟩ | ⟨c1, c2⟩ | ⟨c1, c3, c2⟩ <;> subst c1 c2
    · exact fin_val hn h2 hr (u := .bool _) (.bool _) (by simp [execOp, ho, e1, e2, run_eqGuard_plain, binOp, Op.stringOp, eqS_def])
    · exact fin_val hn h2 hr (u := .bool _) (.bool _) (by simp [execOp, ho, e1, e2, run_eqGuard_plain, binOp, Op.stringOp, eqS_def])
    · refine fin_val hn h2 hr (u := .string _) (.str _) ?_
      have hp' : ¬ (((s.size + z.size : Nat) : Int) > IntKind.i64.max) := by
        have : IntKind.i64.max = 9223372036854775807 := rfl
        rw [this]; omega
      simp only [execOp, ho, e1, e2, Sem.run_bind, run_eqGuard_plain, binOp, Op.stringOp, ne_eq, reduceCtorEq, not_false_eq_true, implies_true, Result.andThen_ok]
      rw [if_neg hp']
      simp

theorem op_binb (hn : ∀ st' a' w', K st' → Good Γ B st' a' w' → next a' w') (hr : Rel Γ B S ρ ⟨tm, own⟩ a w) {x y : Operand} {x' y' : Opd} {op : BinOp} {t yt : TypeId} (hx : lowX x = some x') (hy : lowX y = some y')
    (ht : P.underlying t = some .bool) (ho : o.op = .binOp op t x y yt) (h : stepK Γ o.dst ⟨tm, own⟩ (.binb op x' y') K) : o.wp P a w next Q := by
  obtain ⟨v, hv, h⟩ := evK_elim h
  obtain ⟨u, hu, h⟩ := evK_elim h
  have hrel := ev_rel hr hx hv
  have hrel2 := ev_rel hr hy hu
  obtain ⟨p, hp, h⟩ := toTK_elim h
  obtain ⟨q, hq, h⟩ := toTK_elim h
  subst hp hq
  obtain ⟨r, h1, h2⟩ := ansK_elim h
  unfold binbA at h1
  split at h1
  · have e1 := RelT.bool_of hrel
    have e2 := RelT.bool_of hrel2
    split at h1
    · rcases h1 with h1 | ⟨_, h1, _⟩ <;> cases h1
      exact fin_val hn h2 hr (u := .bool _) (.bool _) (by simp [execOp, ho, e1, e2, run_eqGuard_plain, run_eql_bool, ht])
    · rcases h1 with h1 | ⟨_, h1, _⟩ <;> cases h1
      exact fin_val hn h2 hr (u := .bool _) (.bool _) (by simp [execOp, ho, e1, e2, run_eqGuard_plain, run_neq_bool, ht])
    · rcases h1 with h1 | ⟨_, h1, _⟩ <;> cases h1
  · rcases h1 with h1 | ⟨_, h1, _⟩ <;> cases h1

/-! structs compared -/
theorem eqCs_split {k l : List Nat} : ∀ {xs ys : List T} {r : Bool}, eqCs (k ++ l) xs ys = some r → ∃ r1 r2, eqCs k (xs.take k.length) (ys.take k.length) = some r1 ∧ eqCs l (xs.drop k.length) (ys.drop k.length) = some r2 ∧ r = (r1 && r2) := by
  induction k with
  | nil => intro xs ys r h; exact ⟨true, r, by simp [eqCs], by simpa using h, by simp⟩
  | cons c k ih =>
    intro xs ys r h
    cases xs with
    | nil => cases ys <;> simp [eqCs] at h
    | cons x xs =>
      cases ys with
      | nil => simp [eqCs] at h
      | cons y ys =>
        simp only [List.cons_append, eqCs] at h
        cases e1 : eqC c x y with
        | none => simp [e1] at h
        | some b =>
          cases e2 : eqCs (k ++ l) xs ys with
          | none => simp [e1, e2] at h
          | some d =>
            simp [e1, e2] at h
            obtain ⟨r1, r2, h1, h2, h3⟩ := ih e2
            exact ⟨b && r1, r2, by simp [eqCs, e1, h1], by simpa using h2, by rw [← h, h3, Bool.and_assoc]⟩
theorem eqCs_len : ∀ {sh : List Nat} {xs ys : List T} {r : Bool}, eqCs sh xs ys = some r → xs.length = sh.length ∧ ys.length = sh.length := by
  intro sh
  induction sh with
  | nil => intro xs ys r h; cases xs <;> cases ys <;> simp [eqCs] at h <;> simp
  | cons c sh ih =>
    intro xs ys r h
    cases xs <;> cases ys <;> simp only [eqCs] at h <;> try (cases h; done)
    split at h
    · split at h
      · rename_i e; have := ih e; simp [this]
      · cases h
    · cases h
/-- a value of so many cells -/
def CellsOf (S : Cells) (w : World) (d : TypeDesc) (xs : List T) (v : Value) : Prop :=
  if aggD d then RelT S w (.agg xs) v else ∃ x, xs = [x] ∧ RelT S w x v
theorem run_part {t : TypeId} {d : TypeDesc} {i : TypeInfo} {arr : Array Value} {xs : List T} {off : Nat} (hd : P.underlying t = some d) (hi : P.info? t = some i) (hs : aggD d = false → i.size = 1)
    (hlen : arr.size = xs.length) (h : ∀ (j : Nat) (c : T) (u : Value), xs[j]? = some c → arr[j]? = some u → RelT S w c u) (ho : off + i.size ≤ xs.length) :
    ∃ u, (part t arr off).run P w = .ok u w ∧ CellsOf S w d ((xs.drop off).take i.size) u := by
  cases e : aggD d with
  | true =>
    refine ⟨.agg (arr.extract off (off + i.size)), by simp [part, run_isAgg hd, e, run_sizeOf hi], ?_⟩
    unfold CellsOf
    rw [e, if_pos rfl]
    refine .agg _ _ (by simp; omega) fun j c u hc hu => ?_
    obtain ⟨p1, p2⟩ := take_get hc
    refine h _ _ _ p1 ?_
    rw [Array.getElem?_extract] at hu
    split at hu
    · exact hu
    · cases hu
  | false =>
    have h1 := hs e
    have hlt : off < arr.size := by omega
    have hlt' : off < xs.length := by omega
    have e6 : arr[off]? = some arr[off] := by simp [hlt]
    have e7 : xs[off]? = some xs[off] := by simp [hlt']
    refine ⟨arr[off], by simp [part, run_isAgg hd, e, e6], ?_⟩
    simp only [CellsOf, e, Bool.false_eq_true, if_false]
    refine ⟨xs[off], ?_, h _ _ _ e7 e6⟩
    rw [h1, List.drop_eq_getElem_cons hlt', List.take_succ_cons, List.take_zero]
theorem eqC_int {x y : T} {r : Bool} (h : eqC 1 x y = some r) : ∃ k a b, x = .int k a ∧ y = .int k b ∧ r = eqI a b := by
  unfold eqC at h
  split at h <;> first
    | (rename_i e; cases e; done)
    | skip
  · rename_i k a j b
    split at h
    · rename_i hk
      have := kEq_eq hk; subst this
      cases h
      exact ⟨_, _, _, rfl, rfl, rfl⟩
    · cases h
  · cases h
theorem eqC_bool {x y : T} {r : Bool} (h : eqC 0 x y = some r) : ∃ a b, x = .bool a ∧ y = .bool b ∧ r = (a == b) := by
  unfold eqC at h
  split at h <;> first
    | (rename_i e; cases e; done)
    | (cases h; done)
    | (cases h; exact ⟨_, _, rfl, rfl, rfl⟩)
theorem eqC_str {x y : T} {r : Bool} (h : eqC 2 x y = some r) : ∃ a b, x = .str a ∧ y = .str b ∧ r = eqS a b := by
  unfold eqC at h
  split at h <;> first
    | (rename_i e; cases e; done)
    | (cases h; done)
    | (cases h; exact ⟨_, _, rfl, rfl, rfl⟩)
theorem run_flat (P : Program) (S : Cells) (w : World) : ∀ n,
    (∀ t sh dd, flatS P n t = some sh → P.underlying t = some dd → (aggD dd = false → sh.length = 1) ∧ ∀ d, n ≤ d → ∀ (xs ys : List T) (r : Bool) (u v : Value), eqCs sh xs ys = some r → CellsOf S w dd xs u → CellsOf S w dd ys v → (Op.equalIn d t u v).run P w = .ok r w) ∧
    (∀ acc fs sh, flatFs P n acc fs = some sh → ∀ d, n ≤ d → ∀ (xs ys : List T) (au av : Array Value) (r : Bool), xs.length = acc + sh.length → ys.length = acc + sh.length → RelT S w (.agg xs) (.agg au) → RelT S w (.agg ys) (.agg av) →
      eqCs sh (xs.drop acc) (ys.drop acc) = some r → (Op.eqFields d au av fs).run P w = .ok r w) := by
  intro n
  induction n with
  | zero => exact ⟨fun t sh dd h => by simp [flatS] at h, fun acc fs sh h => by simp [flatFs] at h⟩
  | succ n ih =>
    refine ⟨fun t sh dd h hdd => ?_, fun acc fs sh h d hd xs ys au av r hx hy hu hv he => ?_⟩
    · unfold flatS at h
      have one : ∀ {c : Nat} {x y : List T} {r : Bool}, eqCs [c] x y = some r → ∃ x0 y0, x = [x0] ∧ y = [y0] ∧ eqC c x0 y0 = some r := by
        intro c x y r h
        have hl := eqCs_len h
        obtain ⟨x0, rfl⟩ : ∃ x0, x = [x0] := by cases x with
          | nil => simp at hl
          | cons x0 x => cases x with
            | nil => exact ⟨x0, rfl⟩
            | cons => simp at hl
        obtain ⟨y0, rfl⟩ : ∃ x0, y = [x0] := by cases y with
          | nil => simp at hl
          | cons x0 x => cases x with
            | nil => exact ⟨x0, rfl⟩
            | cons => simp at hl
        refine ⟨x0, y0, rfl, rfl, ?_⟩
        cases e : eqC c x0 y0 <;> simp [eqCs, e] at h ⊢
        exact h
      split at h
      · rename_i ht
        rw [ht] at hdd; cases hdd
        cases h
        refine ⟨fun _ => rfl, fun d hd xs ys r u v he hu hv => ?_⟩
        obtain ⟨d, rfl⟩ : ∃ m, d = m + 1 := ⟨d - 1, by omega⟩
        obtain ⟨x0, y0, e8, e9, he1⟩ := one he
        subst e8 e9
        obtain ⟨_, e1, hu⟩ := hu; cases e1
        obtain ⟨_, e1, hv⟩ := hv; cases e1
        obtain ⟨p, q, rfl, rfl, rfl⟩ := eqC_bool he1
        rw [RelT.bool_of hu, RelT.bool_of hv]
        exact run_equalIn_bool' w d t _ _ ht
      · rename_i k ht
        rw [ht] at hdd; cases hdd
        cases h
        refine ⟨fun _ => rfl, fun d hd xs ys r u v he hu hv => ?_⟩
        obtain ⟨d, rfl⟩ : ∃ m, d = m + 1 := ⟨d - 1, by omega⟩
        obtain ⟨x0, y0, e8, e9, he1⟩ := one he
        subst e8 e9
        obtain ⟨_, e1, hu⟩ := hu; cases e1
        obtain ⟨_, e1, hv⟩ := hv; cases e1
        obtain ⟨k', p, q, rfl, rfl, rfl⟩ := eqC_int he1
        rw [RelT.int_of hu, RelT.int_of hv, run_equalIn_int w d t _ _ _ _ ht, eqI_def]
      · rename_i ht
        rw [ht] at hdd; cases hdd
        cases h
        refine ⟨fun _ => rfl, fun d hd xs ys r u v he hu hv => ?_⟩
        obtain ⟨d, rfl⟩ : ∃ m, d = m + 1 := ⟨d - 1, by omega⟩
        obtain ⟨x0, y0, e8, e9, he1⟩ := one he
        subst e8 e9
        obtain ⟨_, e1, hu⟩ := hu; cases e1
        obtain ⟨_, e1, hv⟩ := hv; cases e1
        obtain ⟨p, q, rfl, rfl, rfl⟩ := eqC_str he1
        rw [RelT.str_of hu, RelT.str_of hv, run_equalIn_string w d t _ _ ht, eqS_def]
      · rename_i fs ht
        rw [ht] at hdd; cases hdd
        split at h
        · cases h
        · rename_i hst
          refine ⟨fun h => by simp [aggD] at h, fun d hd xs ys r u v he hu hv => ?_⟩
          obtain ⟨d, rfl⟩ : ∃ m, d = m + 1 := ⟨d - 1, by omega⟩
          have hu' : RelT S w (.agg xs) u := hu
          have hv' : RelT S w (.agg ys) v := hv
          obtain ⟨au, rfl, _, _⟩ := RelT.agg_of hu'
          obtain ⟨av, rfl, _, _⟩ := RelT.agg_of hv'
          have hl := eqCs_len he
          have hfo : P.fieldsOf t = fs := by simp [Program.fieldsOf, ht]
          rw [run_equalIn_struct w d t au av (by rw [hfo]; exact ht) (by simpa using hst), hfo]
          exact ih.2 0 _ _ h d (by omega) xs ys au av r (by omega) (by omega) hu' hv' (by simpa using he)
      · cases h
    · unfold flatFs at h
      split at h
      · cases h
        have hl := eqCs_len he
        have e1 : xs.drop acc = [] := List.length_eq_zero_iff.1 hl.1
        have e2 : ys.drop acc = [] := List.length_eq_zero_iff.1 hl.2
        rw [e1, e2] at he
        simp [eqCs] at he; subst he
        simp [Op.eqFields]
      · rename_i f fs
        split at h
        · cases h
        · rename_i hname
          split at h
          · rename_i hoff
            split at h
            · rename_i k i hk hi
              split at h
              · rename_i hsz
                cases e : flatFs P n (acc + k.length) fs with
                | none => simp [e] at h
                | some rest =>
                  simp [e] at h; subst h
                  simp only [List.length_append] at hx hy
                  obtain ⟨r1, r2, g1, g2, g3⟩ := eqCs_split he
                  obtain ⟨dd, hdd⟩ : ∃ dd, P.underlying f.type = some dd := by
                    cases n with
                    | zero => simp [flatS] at hk
                    | succ n =>
                      unfold flatS at hk
                      cases e : P.underlying f.type with
                      | none => simp [e] at hk
                      | some dd => exact ⟨dd, rfl⟩
                  obtain ⟨q1, q2⟩ := ih.1 _ _ dd hk hdd
                  cases hu with
                  | agg _ _ hnu hu =>
                  cases hv with
                  | agg _ _ hnv hv =>
                  obtain ⟨a1, p1, p2⟩ := run_part (P := P) (arr := au) (off := f.offset) hdd hi (fun e => by rw [hsz]; exact q1 e) hnu hu (by omega)
                  obtain ⟨b1, p3, p4⟩ := run_part (P := P) (arr := av) (off := f.offset) hdd hi (fun e => by rw [hsz]; exact q1 e) hnv hv (by omega)
                  rw [hsz, hoff] at p2 p4
                  have q3 := q2 d (by omega) _ _ _ _ _ g1 p2 p4
                  rw [List.drop_drop, List.drop_drop] at g2
                  have q4 := ih.2 _ _ _ e d (by omega) xs ys au av r2 (by omega) (by omega) (.agg _ _ hnu hu) (.agg _ _ hnv hv) g2
                  simp only [Op.eqFields, ne_eq, hname, not_false_eq_true, if_true, Sem.run_bind, p1, Result.andThen_ok, p3, q3]
                  cases r1
                  · simp [g3]
                  · simp [q4, g3]
              · cases h
            · cases h
          · cases h

theorem op_eqa (hn : ∀ st' a' w', K st' → Good Γ B st' a' w' → next a' w') (hr : Rel Γ B S ρ ⟨tm, own⟩ a w) {x y : Operand} {x' y' : Opd} {op : BinOp} {neg : Bool} {sh : List Nat} {t yt : TypeId} {d : TypeDesc} (hx : lowX x = some x') (hy : lowX y = some y')
    (ht : P.underlying t = some d) (ha : aggD d = true) (hg : P.eqGuardType P.depth t = false) (hs : flatS P 1000 t = some sh) (hop : op = if neg then .neq else .eql)
    (ho : o.op = .binOp op t x y yt) (h : stepK Γ o.dst ⟨tm, own⟩ (.eqa neg sh x' y') K) : o.wp P a w next Q := by
  obtain ⟨v, hv, h⟩ := evK_elim h
  obtain ⟨u, hu, h⟩ := evK_elim h
  have hrel := ev_rel hr hx hv
  have hrel2 := ev_rel hr hy hu
  split at h
  · rename_i xs ys _
    split at h
    · rename_i r hr1
      have h1 : RelT S w (.agg xs) (a.eval x) := hrel
      have h2 : RelT S w (.agg ys) (a.eval y) := hrel2
      obtain ⟨au, e1, _, _⟩ := RelT.agg_of h1
      obtain ⟨av, e2, _, _⟩ := RelT.agg_of h2
      have hc : ∀ (l : List T) (v : Value), RelT S w (.agg l) v → CellsOf S w d l v := fun l v h => by unfold CellsOf; rw [ha, if_pos rfl]; exact h
      have run := ((run_flat P S w 1000).1 t sh d hs ht).2 10000 (by omega) xs ys r _ _ hr1 (hc _ _ h1) (hc _ _ h2)
      rw [e1, e2] at run
      refine fin_val hn h hr (u := .bool _) (.bool _) ?_
      cases neg
      · subst hop
        simp [execOp, ho, e1, e2, run_eqGuard_agg, hg, run_eql_struct, run]
      · subst hop
        simp [execOp, ho, e1, e2, run_eqGuard_agg, hg, run_neq_struct, run]
    · exact h.elim
  · exact h.elim
end
end Go.Mx
