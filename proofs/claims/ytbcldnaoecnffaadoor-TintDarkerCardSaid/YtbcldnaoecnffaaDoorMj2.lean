/-
  SLICES THAT ARE WRITTEN OUT; SLICES OF STRINGS AND OF LISTS; AN ARRAY's ELEMENT.
-/
import Derived.Test.YtbcldnaoecnffaaDoorMl
set_option linter.unusedVariables false
namespace Go.Mx
open Go.RowKit

section
variable {P : Program} {Γ : Env} {B : Base} {S : Cells} {ρ : Nat → Info} {tm : List V} {own : List (Nat × Blk)} {a : Act} {w : World}
variable {o : Oper} {K : St → Prop} {next : Act → World → Prop} {Q : Exit → Act → World → Prop}

/-- a new block that is settled at once -/
theorem Rel.settled (h : Rel Γ B S ρ ⟨tm, own⟩ a w) (ob : Obj) :
    Rel Γ B (fun b o => S b o ∨ b = w.heap.size) ρ ⟨tm, own⟩ a { w with heap := w.heap.push ob } :=
  h.move (Keep.alloc (fun _ _ => False) w _) (fun _ _ h => h.elim) (fun _ _ h => .inl h) (fun b o hb => by
    rcases hb with hb | rfl
    · exact .inl hb
    · exact .inr ⟨Nat.le_refl _, by simp⟩) (.refl _) (fun _ _ _ => rfl) (fun k blk hl => .inl ⟨hl, fun _ _ _ h => h⟩) h.disj

theorem elsK_elim (hr : Rel Γ B S ρ ⟨tm, own⟩ a w) {sz : Nat} : ∀ (xs : List Operand) (ys : List Opd) (K' : List T → Prop), lowXs xs = some ys → elsK Γ tm sz ys K' →
    ∃ vs, K' vs ∧ vs.length = xs.length ∧ (∀ v ∈ vs, v.cells.length = sz) ∧ ∀ (i : Nat) (c : T) (x : Operand), vs[i]? = some c → xs[i]? = some x → RelT S w c (a.eval x) ∧ (c.one = true ∨ ∃ cs, c = .agg cs) := by
  intro xs
  induction xs with
  | nil =>
    intro ys K' h hk
    simp [lowXs] at h; subst h
    exact ⟨[], hk, rfl, fun v hv => (by cases hv), fun i c x h => by simp at h⟩
  | cons x xs ih =>
    intro ys K' h hk
    simp only [lowXs] at h
    split at h
    · rename_i y ys' h1 h2
      cases h
      simp only [elsK] at hk
      obtain ⟨v, hv, hk⟩ := evK_elim hk
      have hx := ev_rel hr h1 hv
      obtain ⟨z, hz, hk⟩ := toTK_elim hk
      subst hz
      obtain ⟨c1, c2, hk⟩ := cellsTK_elim hk
      obtain ⟨c3, hk⟩ := lenK_elim hk
      obtain ⟨vs, k1, k2, k4, k3⟩ := ih ys' _ h2 hk
      refine ⟨z :: vs, k1, by simp [k2], fun v hv => ?_, fun i c x' hc hx' => ?_⟩
      · rcases List.mem_cons.1 hv with rfl | hv
        · exact c3
        · exact k4 v hv
      · cases i with
        | zero => simp at hc hx'; subst hc hx'; exact ⟨hx, c2⟩
        | succ i => exact k3 i c x' (by simpa using hc) (by simpa using hx')
    · cases h

theorem fill_elems (size : Nat) : ∀ (vs : List Value) (i : Nat) (cells : Array Value), (∀ v ∈ vs, v.cells.size = size) → (i + vs.length) * size ≤ cells.size →
    ∃ cells', Instr.fill (fun i => some (i * size, size)) cells ((List.range' i vs.length).zip vs) = some cells' ∧ cells'.size = cells.size ∧ (∀ j, j < i * size → cells'[j]? = cells[j]?) ∧
      ∀ (n : Nat) (v : Value), vs[n]? = some v → ∀ (j : Nat) (c : Value), v.cells[j]? = some c → cells'[(i + n) * size + j]? = some c := by
  intro vs
  induction vs with
  | nil => intro i cells _ _; exact ⟨cells, by simp [Instr.fill], rfl, fun _ _ => rfl, fun n v h => by simp at h⟩
  | cons v vs ih =>
    intro i cells hv hlen
    have h0 := hv v (by simp)
    have e1 : (i + (v :: vs).length) * size = i * size + size + vs.length * size := by
      simp only [List.length_cons, Nat.add_mul]; omega
    have e2 : (i + 1 + vs.length) * size = i * size + size + vs.length * size := by simp only [Nat.add_mul]; omega
    have e3 : (i + 1) * size = i * size + size := by simp only [Nat.add_mul]; omega
    rw [e1] at hlen
    have hf : (v.cells.zipIdx.foldl (fun cs (c, j) => cs.setIfInBounds (i * size + j) c) cells).toList = putN cells.toList (i * size) v.cells.toList := by
      have := fill_foldl (i * size) v.cells.toList 0 cells (by simp [h0]; omega)
      rw [Nat.add_zero] at this
      rw [← this, ← Array.foldl_toList, Array.toList_zipIdx]
    have hl : i * size + v.cells.toList.length ≤ cells.toList.length := by simp [h0]; omega
    have hsz : (v.cells.zipIdx.foldl (fun cs (c, j) => cs.setIfInBounds (i * size + j) c) cells).size = cells.size := by
      rw [← Array.length_toList, hf, putN_length _ _ _ (.inr hl), Array.length_toList]
    obtain ⟨cells', g1, g2, g3, g4⟩ := ih (i + 1) (v.cells.zipIdx.foldl (fun cs (c, j) => cs.setIfInBounds (i * size + j) c) cells) (fun v hv' => hv v (by simp [hv'])) (by rw [e2, hsz]; exact hlen)
    refine ⟨cells', ?_, by rw [g2, hsz], fun j hj => ?_, fun n u hn j c hc => ?_⟩
    · simp only [List.length_cons, List.range'_succ, List.zip_cons_cons, Instr.fill]
      rw [if_neg (by simp [h0]; omega)]
      exact g1
    · rw [g3 j (by rw [e3]; omega), ← Array.getElem?_toList, hf, putN_get _ _ _ j hl, if_neg (by omega)]
      simp
    · cases n with
      | zero =>
        simp at hn; subst hn
        have hj : j < v.cells.size := by
          rcases Nat.lt_or_ge j v.cells.size with h | h
          · exact h
          · rw [Array.getElem?_eq_none h] at hc; cases hc
        rw [Nat.add_zero, g3 _ (by rw [e3]; omega), ← Array.getElem?_toList, hf, putN_get _ _ _ _ hl, if_pos (by simp; omega)]
        simpa using hc
      | succ n =>
        have := g4 n u (by simpa using hn) j c hc
        rw [show i + (n + 1) = i + 1 + n by omega]
        exact this

theorem op_bslt (hn : ∀ st' a' w', K st' → Good Γ B st' a' w' → next a' w') (hr : Rel Γ B S ρ ⟨tm, own⟩ a w) {t e : TypeId} {n : Nat} {ps : Array (Nat × Operand)} {ti : TypeInfo} {z : Value} {xs : List Opd} (h1 : P.underlying t = some (.slice e)) (h2 : P.info? e = some ti)
    (h3 : ti.zero = some z) (h4 : lowXs (ps.toList.map (·.2)) = some xs) (h5 : ps.toList.map (·.1) = List.range n) (h6 : n * ti.size ≤ 2 ^ 24) (ho : o.op = .buildSlice t n ps) (h : stepK Γ o.dst ⟨tm, own⟩ (.bslt ti.size xs) K) : o.wp P a w next Q := by
  obtain ⟨vs, k1, k2, k3, k4⟩ := elsK_elim hr _ _ _ h4 h
  have hlen : ps.toList.length = n := by have := congrArg List.length h5; simpa using this
  have k2' : vs.length = n := by rw [k2]; simpa using hlen
  let us := ps.toList.map fun p => a.eval p.2
  have hus : us.length = n := by simp [us]; simpa using hlen
  have rel : ∀ (i : Nat) (c : T) (u : Value), vs[i]? = some c → us[i]? = some u → RelT S w c u ∧ (c.one = true ∨ ∃ cs, c = .agg cs) := fun i c u hc hu => by
    simp only [us, List.getElem?_map, Option.map_eq_some_iff] at hu
    obtain ⟨p, hp, rfl⟩ := hu
    exact k4 i c p.2 hc (by rw [List.getElem?_map, hp]; rfl)
  have ucell : ∀ v ∈ us, v.cells.size = ti.size := fun v hv => by
    obtain ⟨i, hi⟩ := List.mem_iff_getElem?.1 hv
    have hlt : i < vs.length := by
      rw [k2']
      rcases Nat.lt_or_ge i us.length with h | h
      · omega
      · rw [List.getElem?_eq_none h] at hi; cases hi
    have e : vs[i]? = some vs[i] := by simp [hlt]
    obtain ⟨r1, r2⟩ := rel i _ v e hi
    rw [(RelT.cells r1 r2).1, k3 _ (List.mem_of_getElem? e)]
  let zs : Array Value := if n * ti.size = 0 then #[] else z.cells
  let base : Array Value := (Array.range (n * ti.size)).map (zs[· % zs.size]!)
  obtain ⟨cells', g1, g2, _, g4⟩ := fill_elems ti.size us 0 base ucell (by simp [base, hus])
  have hzip : ((List.range' 0 us.length).zip us) = (ps.map fun p => (p.1, a.eval p.2)).toList := by
    rw [hus, ← List.range_eq_range', ← h5]
    simp only [us, Array.toList_map]
    generalize ps.toList = l
    induction l with
    | nil => rfl
    | cons x l ih => simp [ih]
  rw [hzip] at g1
  have run : (execOp a.eval o).run P w = .ok (.value (.slice (some ⟨w.heap.size, 0, none⟩) n n)) { w with heap := w.heap.push (.cells cells' e) } := by
    have hno : ¬ n * ti.size > 2 ^ 24 := by omega
    by_cases hz : n * ti.size = 0
    · simp only [base, zs, hz, if_true] at g1
      have hno' : ¬ 0 > 2 ^ 24 := by decide
      simp only [execOp, ho, Instr.buildSlice, underlying, sizeOf, typeInfo, h1, h2, Sem.run_bind, run_program, Result.andThen_ok, Sem.run_pure, hz, if_true, hno', if_false, newRow, run_newObj]
      simp only [g1, Sem.run_bind, run_newObj, Result.andThen_ok, Sem.run_pure]
    · simp only [base, zs, hz, if_false] at g1
      simp only [execOp, ho, Instr.buildSlice, underlying, sizeOf, typeInfo, zeroValue, h1, h2, h3, Sem.run_bind, run_program, Result.andThen_ok, Sem.run_pure, hz, if_false, hno, newRow, run_newObj]
      simp only [g1, Sem.run_bind, run_newObj, Result.andThen_ok, Sem.run_pure]
  have hr' := hr.settled (.cells cells' e)
  refine fin_val hn k1 hr' ?_ run
  have hsize : cells'.size = n * ti.size := by rw [g2]; simp [base]
  have hd : (⟨w.heap.size, 0, none⟩ : Addr) = ⟨w.heap.size, 0 + 0, none⟩ := rfl
  have cell : ∀ j, ({ w with heap := w.heap.push (.cells cells' e) } : World).cell? ⟨w.heap.size, j, none⟩ = cells'[j]? := fun j => by rw [cell?_eq]; simp
  rw [← k2']
  refine .list ti.size vs _ vs.length (fun i j => (cells'[i * ti.size + j]?).getD undef) (Nat.le_refl _) (fun _ => ⟨w.heap.size, 0, rfl, fun i j hi hj => ⟨.inr rfl, ?_⟩⟩) k3 fun i x hx j c hc => ?_
  · have hlt : i * ti.size + j < cells'.size := by
      rw [hsize, ← k2']
      have : (i + 1) * ti.size ≤ vs.length * ti.size := Nat.mul_le_mul_right _ hi
      simp only [Nat.add_mul] at this; omega
    rw [Nat.zero_add, cell]
    simp [hlt]
  · have hlt : i < vs.length := by
      rcases Nat.lt_or_ge i vs.length with h | h
      · exact h
      · rw [List.getElem?_eq_none h] at hx; cases hx
    have e1 : us[i]? = some us[i] := by simp [hus, ← k2', hlt]
    obtain ⟨r1, r2⟩ := rel i x _ hx e1
    obtain ⟨r3, r4⟩ := RelT.cells r1 r2
    have hj : j < us[i].cells.size := by
      rw [r3]
      rcases Nat.lt_or_ge j x.cells.length with h | h
      · exact h
      · rw [List.getElem?_eq_none h] at hc; cases hc
    have e2 : us[i].cells[j]? = some us[i].cells[j] := by simp [hj]
    have e3 := g4 i _ e1 j _ e2
    rw [Nat.zero_add] at e3
    rw [e3]
    exact RelT.keep (r4 j c _ hc e2) (fun _ _ h => .inl h) (Keep.alloc (fun _ _ => False) w _) (fun _ _ h => h.elim) hr.lt
/-- a bound of a slice, run -/
def bval (a : Act) (x : Option Operand) : Option Value := x.map a.eval
theorem bnd_rel (hr : Rel Γ B S ρ ⟨tm, own⟩ a w) {x : Option Operand} {x' : Option Opd} {n : Nat} {K : Int → Prop} (hx : lowO x = some x') (h : bndK Γ tm x' n K) :
    ∃ z, K z ∧ ((x = none ∧ z = n) ∨ ∃ y k, x = some y ∧ a.eval y = .int k z) := by
  rcases bndK_elim h with ⟨e, h1⟩ | ⟨y, k, z, e, h1, h2⟩
  · subst e
    refine ⟨n, h1, .inl ⟨?_, rfl⟩⟩
    cases x with
    | none => rfl
    | some x => simp only [lowO, Option.map_eq_some_iff] at hx; obtain ⟨y, _, hy⟩ := hx; cases hy
  · subst e
    cases x with
    | none => simp [lowO] at hx
    | some x =>
      simp only [lowO, Option.map_eq_some_iff] at hx
      obtain ⟨y', hy, e⟩ := hx
      cases e
      exact ⟨z, h2, .inr ⟨x, k, rfl, RelT.int_of (ev_rel hr hy h1)⟩⟩
theorem bounds_run (isS : Bool) {len cap : Nat} {lo hi : Option Operand} {l h : Int} (hl : (lo = none ∧ l = (0 : Nat)) ∨ ∃ y k, lo = some y ∧ a.eval y = .int k l)
    (hh : (hi = none ∧ h = len) ∨ ∃ y k, hi = some y ∧ a.eval y = .int k h) (h0 : 0 ≤ l) (h1 : l ≤ h) (h2 : h ≤ cap) :
    (Instr.sliceBounds isS len cap (lo.map a.eval) (hi.map a.eval) none).run P w = .ok (l.toNat, h.toNat, cap) w := by
  have eh : (h.toNat : Int) = h := Int.toNat_of_nonneg (by omega)
  have g1 : 0 ≤ h := by omega
  rcases hl with ⟨e1, e2⟩ | ⟨y, k, e1, e2⟩ <;> rcases hh with ⟨e3, e4⟩ | ⟨z, j, e3, e4⟩
  · subst e1 e2 e3 e4; simp [Instr.sliceBounds]
  · subst e1 e2 e3; simp [Instr.sliceBounds, e4, Instr.sliceBound, asIntOf, g1, h2]
  · subst e1 e3 e4
    simp [Instr.sliceBounds, e2, Instr.sliceBound, asIntOf, h0, h1]
  · subst e1 e3
    simp [Instr.sliceBounds, e2, e4, Instr.sliceBound, asIntOf, h0, h1, h2, g1, eh]

theorem op_slstr (hn : ∀ st' a' w', K st' → Good Γ B st' a' w' → next a' w') (hr : Rel Γ B S ρ ⟨tm, own⟩ a w) {t : TypeId} {x : Operand} {lo hi : Option Operand} {x' : Opd} {lo' hi' : Option Opd} (hx : lowX x = some x') (hlo : lowO lo = some lo') (hhi : lowO hi = some hi')
    (h1 : P.underlying t = some .string) (ho : o.op = .slice t x lo hi none) (h : stepK Γ o.dst ⟨tm, own⟩ (.slstr x' lo' hi') K) : o.wp P a w next Q := by
  obtain ⟨v, hv, h⟩ := evK_elim h
  have hrel := ev_rel hr hx hv
  split at h
  · rename_i s
    have e1 := RelT.str_of hrel
    obtain ⟨l, h, hl⟩ := bnd_rel hr hlo h
    obtain ⟨m, h, hm⟩ := bnd_rel hr hhi h
    obtain ⟨⟨g1, g2, g3⟩, h⟩ := reqK_elim h
    refine fin_val hn h hr (u := .string _) (.str _) ?_
    simp [execOp, ho, e1, Instr.sliceAt, underlying, h1, Instr.slice, bounds_run (a := a) false hl hm g1 g2 g3]
  · exact h.elim

theorem list_sub {sz l h : Nat} {xs : List T} {ad : Option Addr} {cap : Nat} (hr : RelT S w (.list sz xs) (.slice ad xs.length cap)) (h1 : l ≤ h) (h2 : h ≤ xs.length) :
    RelT S w (.list sz ((xs.drop l).take (h - l))) (.slice (if cap = l then ad else ad.map (·.add (l * sz))) (h - l) (cap - l)) := by
  cases hr with
  | list _ _ _ _ u hcap ha hsz hrr =>
    have hlen : ((xs.drop l).take (h - l)).length = h - l := by simp; omega
    have key : RelT S w (.list sz ((xs.drop l).take (h - l))) (.slice (if cap = l then ad else ad.map (·.add (l * sz))) ((xs.drop l).take (h - l)).length (cap - l)) := by
      refine .list sz _ _ _ (fun i j => u (l + i) j) (by rw [hlen]; omega) (fun hne => ?_) (fun x hx => hsz x (List.mem_of_mem_drop (List.mem_of_mem_take hx))) fun i x hx j c hc => ?_
      · have hpos : 0 < h - l := by rw [← hlen]; exact List.length_pos_iff.2 hne
        have hxs : xs ≠ [] := by intro e; subst e; simp at h2; omega
        obtain ⟨b, o, e, hh⟩ := ha hxs
        subst e
        refine ⟨b, o + l * sz, ?_, fun i j hi hj => ?_⟩
        · rw [if_neg (by omega)]
          simp only [Option.map_some, Addr.add]
          split <;> simp_all
        · rw [hlen] at hi
          have := hh (l + i) j (by omega) hj
          rw [Nat.add_mul] at this
          have e : o + l * sz + i * sz + j = o + (l * sz + i * sz) + j := by omega
          rw [e]; exact this
      · have hx' : xs[l + i]? = some x := by
          rw [List.getElem?_take] at hx
          split at hx
          · simpa using hx
          · cases hx
        exact hrr (l + i) x hx' j c hc
    rw [hlen] at key
    exact key

theorem op_sll (hn : ∀ st' a' w', K st' → Good Γ B st' a' w' → next a' w') (hr : Rel Γ B S ρ ⟨tm, own⟩ a w) {t e : TypeId} {ti : TypeInfo} {x : Operand} {lo hi : Option Operand} {x' : Opd} {lo' hi' : Option Opd} (hx : lowX x = some x') (hlo : lowO lo = some lo') (hhi : lowO hi = some hi')
    (h1 : P.underlying t = some (.slice e)) (h2 : P.info? e = some ti) (ho : o.op = .slice t x lo hi none) (h : stepK Γ o.dst ⟨tm, own⟩ (.sll ti.size x' lo' hi') K) : o.wp P a w next Q := by
  obtain ⟨v, hv, h⟩ := evK_elim h
  have hrel := ev_rel hr hx hv
  obtain ⟨y, rfl, h⟩ := toTK_elim h
  obtain ⟨sz, xs, ad, cap, e1, hl0, h⟩ : ∃ sz xs ad cap, a.eval x = .slice ad xs.length cap ∧ (RelT S w (.list sz xs) (.slice ad xs.length cap)) ∧ bndK Γ tm lo' 0 fun l => bndK Γ tm hi' xs.length fun h =>
        reqK (0 ≤ l ∧ l ≤ h ∧ h ≤ xs.length ∧ (xs = [] ∨ sz = ti.size)) (putK ⟨tm, own⟩ o.dst (.t (.list ti.size ((xs.drop l.toNat).take (h.toNat - l.toNat)))) K) := by
    rcases listK_elim h with ⟨sz, xs, q1, q2⟩ | ⟨q1, q2⟩
    · subst q1
      have hrel' : RelT S w (.list sz xs) (a.eval x) := hrel
      obtain ⟨ad, cap, e⟩ := len_of hrel' (.inl rfl)
      exact ⟨sz, xs, ad, cap, e, e ▸ hrel', q2⟩
    · subst q1
      have hrel' : RelT S w .nils (a.eval x) := hrel
      have e : a.eval x = .slice none 0 0 := by generalize a.eval x = u at hrel'; cases hrel'; rfl
      exact ⟨0, [], none, 0, e, .list 0 [] none 0 (fun _ _ => undef) (Nat.le_refl _) (fun h => absurd rfl h) (fun x hx => by cases hx) (fun i x hx => by simp at hx), q2⟩
  obtain ⟨l, h, hl⟩ := bnd_rel hr hlo h
  obtain ⟨m, h, hm⟩ := bnd_rel hr hhi h
  obtain ⟨⟨g1, g2, g3, g4⟩, h⟩ := reqK_elim h
  have hcap : xs.length ≤ cap := by cases hl0; assumption
  have hb := bounds_run (a := a) (P := P) (w := w) true hl hm g1 g2 (by omega : m ≤ (cap : Int))
  have hl0' : RelT S w (.list ti.size xs) (.slice ad xs.length cap) := by
    rcases g4 with rfl | rfl
    · exact .list ti.size [] ad cap (fun _ _ => undef) (Nat.zero_le _) (fun h => absurd rfl h) (fun x hx => by cases hx) (fun i x hx => by simp at hx)
    · exact hl0
  refine fin_val hn h hr (list_sub hl0' (by omega) (by omega)) ?_
  simp [execOp, ho, e1, Instr.sliceAt, underlying, h1, Instr.slice, hb, sizeOf, typeInfo, h2]

theorem op_ixv (hn : ∀ st' a' w', K st' → Good Γ B st' a' w' → next a' w') (hr : Rel Γ B S ρ ⟨tm, own⟩ a w) {x y : Operand} {x' y' : Opd} {t e : TypeId} {n : Nat} {ti : TypeInfo} {d : TypeDesc} (hx : lowX x = some x') (hy : lowX y = some y')
    (h1 : P.underlying t = some (.array n e)) (h2 : P.info? e = some ti) (h3 : P.underlying e = some d) (h4 : ti.size = 1) (h5 : aggD d = false) (ho : o.op = .index t x y) (h : stepK Γ o.dst ⟨tm, own⟩ (.ixv n x' y') K) : o.wp P a w next Q := by
  obtain ⟨v, hv, h⟩ := evK_elim h
  obtain ⟨u, hu, h⟩ := evK_elim h
  have hrel := ev_rel hr hx hv
  have hrel2 := ev_rel hr hy hu
  split at h
  · rename_i k z
    have e2 := RelT.int_of hrel2
    obtain ⟨l, hl, h⟩ := aggK_elim h
    subst hl
    obtain ⟨q3, y0, q4, q5⟩ := nthK_elim h
    obtain ⟨q6, q7⟩ := reqK_elim q5
    obtain ⟨arr, e1, c1, c2⟩ := RelT.agg_of (show RelT S w (.agg l) (a.eval x) from hrel)
    have hlt : z.toNat < arr.size := by
      rw [c1]
      rcases Nat.lt_or_ge z.toNat l.length with h | h
      · exact h
      · rw [List.getElem?_eq_none h] at q4; cases q4
    have e4 : arr[z.toNat]? = some arr[z.toNat] := by simp [hlt]
    refine fin_val hn q7 hr (c2 _ _ _ q4 e4) ?_
    have hag : (isAgg e).run P w = .ok false w := by
      cases d <;> simp [aggD] at h5 <;> simp [isAgg, underlying, h3]
    simp [execOp, ho, e1, e2, Instr.index, asIntOf, underlying, h1, q3, q6, part, hag, sizeOf, typeInfo, h2, h4, e4]
  · exact h.elim
end
end Go.Mx
