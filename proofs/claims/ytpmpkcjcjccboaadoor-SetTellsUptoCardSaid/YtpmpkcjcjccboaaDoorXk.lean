/-
  WHAT IS BUILT; WHAT IS CUT; ELEMENTS.
-/
import Derived.Test.YtpmpkcjcjccboaaDoorXj
set_option linter.unusedVariables false
set_option linter.unusedSimpArgs false
namespace Go.Nx
open Go.RowKit

section
variable {P : Program} {Γ : Env} {B : Base} {S : Cells} {ρ : Infos} {tm : List V} {own : Own} {a : Act} {w : World}
variable {o : Oper} {K : V → Own → Log → Prop} {log : Log} {dr : Bool}

theorem fill_run {f : Nat → Option (Nat × Nat)} : ∀ (ps : List (Nat × Operand)) (l : List (Nat × Nat × Opd)) (vs : List V) (cs : List V) (cells : Array Value) (F : List V → Pg), partsOf f ps = some l → vs.length = ps.length →
    (∀ (i : Nat) (p : Nat × Operand) (v : V), ps[i]? = some p → vs[i]? = some v → RelV S w ρ own v (a.eval p.2)) →
    RelV S w ρ own (.agg cs) (.agg cells) → run dr (fillP l vs cs F) own log K → ∃ cs' cells', run dr (F cs') own log K ∧ RelV S w ρ own (.agg cs') (.agg cells') ∧ Instr.fill f cells (ps.map fun p => (p.1, a.eval p.2)) = some cells' := by
  intro ps
  induction ps with
  | nil =>
    intro l vs cs cells F hp hl hv hrel h
    simp [partsOf] at hp; subst hp
    have : vs = [] := List.eq_nil_of_length_eq_zero (by simpa using hl)
    subst this
    exact ⟨cs, cells, h, hrel, by simp [Instr.fill]⟩
  | cons p ps ih =>
    intro l vs cs cells F hp hl hv hrel h
    obtain ⟨i, x⟩ := p
    cases vs with
    | nil => simp at hl
    | cons v vs =>
      simp only [partsOf] at hp
      split at hp
      · rename_i q y ys h1 h2 h3
        obtain ⟨off, n⟩ := q
        simp only at hp
        split at hp
        · cases hp
        rename_i hn0
        cases hp
        have hx : RelV S w ρ own v (a.eval x) := hv 0 (i, x) v rfl rfl
        simp only [fillP] at h
        replace h := cellsP_elim h
        obtain ⟨c1, c2, h⟩ := h
        replace h := lenP_elim h
        obtain ⟨c3, h⟩ := h
        replace h := putNP_elim h
        obtain ⟨c4, h⟩ := h
        obtain ⟨d1, d2⟩ := hx.cells c1
        obtain ⟨d3, d4⟩ : cells.size = cs.length ∧ ∀ (i : Nat) (c : V) (u : Value), cs[i]? = some c → cells[i]? = some u → RelV S w ρ own c u := by
          cases hrel with
          | agg _ _ h1 h2 => exact ⟨h1, h2⟩
        have hz : v.cells ≠ [] := fun e => by rw [e] at c3; simp at c3; omega
        have hb : off + v.cells.length ≤ cs.length := by
          rcases c4 with c4 | c4
          · exact absurd c4 hz
          · exact c4
        have e2 : ((a.eval x).cells.zipIdx.foldl (fun cs (c, j) => cs.setIfInBounds (off + j) c) cells).toList = putN cells.toList off (a.eval x).cells.toList := by
          have := fill_foldl off (a.eval x).cells.toList 0 cells (by simp; omega)
          rw [Nat.add_zero] at this
          rw [← this, ← Array.foldl_toList, Array.toList_zipIdx]
        have hrel' : RelV S w ρ own (.agg (putN cs off v.cells)) (.agg ((a.eval x).cells.zipIdx.foldl (fun cs (c, j) => cs.setIfInBounds (off + j) c) cells)) := by
          refine .agg _ _ ?_ fun j c u hc hu => ?_
          · rw [← Array.length_toList, e2, putN_length _ _ _ (.inr (by simp; omega)), putN_length _ _ _ (.inr hb)]; simpa using d3
          · rw [putN_get _ _ _ j hb] at hc
            rw [← Array.getElem?_toList, e2, putN_get _ _ _ j (by simp; omega)] at hu
            by_cases c5 : off ≤ j ∧ j < off + v.cells.length
            · rw [if_pos c5] at hc
              rw [if_pos (by simp; omega)] at hu
              exact d2 _ _ _ hc (by simpa using hu)
            · rw [if_neg c5] at hc
              rw [if_neg (by simp; omega)] at hu
              exact d4 _ _ _ hc (by simpa using hu)
        obtain ⟨cs', cells', g1, g2, g3⟩ := ih ys vs _ _ F h3 (by simpa using hl) (fun i p v hp hv' => hv (i + 1) p v (by simpa using hp) (by simpa using hv')) hrel' h
        refine ⟨cs', cells', g1, g2, ?_⟩
        simp only [List.map_cons, Instr.fill, h1]
        rw [if_neg (by simp; omega)]
        exact g3
      · cases hp
theorem op_bld (hr : Rel Γ B S ρ ⟨tm, own⟩ a w) {t : TypeId} {ps : Array (Nat × Operand)} {z : List T} {f : Nat → Option (Nat × Nat)} {l : List (Nat × Nat × Opd)} {vs : List V} (hz : ofZero P t = some z)
    (hf : placeOf P t = some f) (hl : partsOf f ps.toList = some l) (hn : vs.length = ps.toList.length) (hv : ∀ (i : Nat) (p : Nat × Operand) (v : V), ps.toList[i]? = some p → vs[i]? = some v → RelV S w ρ own v (a.eval p.2))
    (ho : o.op = .build t ps) {base : Nat} (h : run dr (prog base (.bld z l) vs) own log K) : Did P Γ B o a w tm K := by
  simp only [prog] at h
  replace h := tagP_elim h
  obtain ⟨i, v, h1, h2, h3, h4⟩ := ofZero_spec hz
  obtain ⟨i', v', g1, g2, g3⟩ := placeOf_spec hf
  rw [h1] at g1; cases g1
  rw [h2] at g2; cases g2
  obtain ⟨cs', cells', k1, k2, k3⟩ := fill_run ps.toList l vs (z.map .t) v.cells _ hl hn hv (.agg _ _ (by simpa using h3) (RelV.of_ts (h4 S w))) h
  obtain ⟨q1, q2⟩ : cells'.size = cs'.length ∧ ∀ (i : Nat) (c : V) (u : Value), cs'[i]? = some c → cells'[i]? = some u → RelV S w ρ own c u := by
    cases k2 with
    | agg _ _ h1 h2 => exact ⟨h1, h2⟩
  refine did_val k1 hr (u := .agg cells') (rel_aggV q1 q2) ?_
  have := run_build (P := P) w t (ps.map fun p => (p.1, a.eval p.2)) cells' (by rw [g3]; simpa using k3)
  simp [execOp, ho, this]

theorem elsP_elim {sz : Nat} : ∀ {ts : List T} {f : List T → Pg}, run dr (elsP sz ts f) own log K → run dr (f ts) own log K ∧ ∀ x ∈ ts, x.cells.length = sz ∧ (x.one = true ∨ ∃ cs, x = .agg cs) ∧ ∀ c ∈ x.cells, c.one = true
  | [], f, h => ⟨h, fun x hx => by simp at hx⟩
  | x :: ts, f, h => by
    simp only [elsP] at h
    replace h := cellsTP_elim h
    obtain ⟨h1, h2, h⟩ := h
    replace h := lenP_elim h
    obtain ⟨h3, h⟩ := h
    obtain ⟨h4, h5⟩ := elsP_elim h
    refine ⟨h4, fun y hy => ?_⟩
    rcases List.mem_cons.1 hy with rfl | hy
    · exact ⟨h3, h1, h2⟩
    · exact h5 y hy
theorem op_bslt (hr : Rel Γ B S ρ ⟨tm, own⟩ a w) {t e : TypeId} {n : Nat} {ps : Array (Nat × Operand)} {ti : TypeInfo} {z : Value} {xs : List Opd} {vs : List V} (h1 : P.underlying t = some (.slice e)) (h2 : P.info? e = some ti)
    (h3 : ti.zero = some z) (h5 : ps.toList.map (·.1) = List.range n) (h6 : n * ti.size ≤ 2 ^ 24) (hn : vs.length = ps.toList.length) (hv : ∀ (i : Nat) (p : Nat × Operand) (v : V), ps.toList[i]? = some p → vs[i]? = some v → RelV S w ρ own v (a.eval p.2))
    (ho : o.op = .buildSlice t n ps) {base : Nat} (h : run dr (prog base (.bslt ti.size xs) vs) own log K) : Did P Γ B o a w tm K := by
  have hlen : ps.toList.length = n := by have := congrArg List.length h5; simpa using this
  simp only [prog] at h
  -- what the program makes, its elements known
  have made : ∀ (us : List Value), us = ps.toList.map (fun p => a.eval p.2) → (∀ v ∈ us, v.cells.size = ti.size) → ∃ cells' : Array Value, cells'.size = n * ti.size ∧
      (execOp a.eval o).run P w = .ok (.value (.slice (some ⟨w.heap.size, 0, none⟩) n n)) { w with heap := w.heap.push (.cells cells' e) } ∧
      ∀ (i : Nat) (v : Value), us[i]? = some v → ∀ (j : Nat) (c : Value), v.cells[j]? = some c → cells'[i * ti.size + j]? = some c := by
    intro us hus ucell
    have husl : us.length = n := by rw [hus]; simpa using hlen
    let zs : Array Value := if n * ti.size = 0 then #[] else z.cells
    let bs : Array Value := (Array.range (n * ti.size)).map (zs[· % zs.size]!)
    obtain ⟨cells', g1, g2, _, g4⟩ := fill_elems ti.size us 0 bs ucell (by simp [bs, husl])
    have hzip : ((List.range' 0 us.length).zip us) = (ps.map fun p => (p.1, a.eval p.2)).toList := by
      rw [husl, ← List.range_eq_range', ← h5, hus]
      simp only [Array.toList_map]
      generalize ps.toList = l
      induction l with
      | nil => rfl
      | cons x l ih => simp [ih]
    rw [hzip] at g1
    refine ⟨cells', by rw [g2]; simp [bs], ?_, fun i v hi j c hc => by simpa using g4 i v hi j c hc⟩
    have hno : ¬ n * ti.size > 2 ^ 24 := by omega
    by_cases hz : n * ti.size = 0
    · simp only [bs, zs, hz, if_true] at g1
      have hno' : ¬ 0 > 2 ^ 24 := by decide
      simp only [execOp, ho, Instr.buildSlice, underlying, sizeOf, typeInfo, h1, h2, Sem.run_bind, run_program, Result.andThen_ok, Sem.run_pure, hz, if_true, hno', if_false, newRow, run_newObj]
      simp only [g1, Sem.run_bind, run_newObj, Result.andThen_ok, Sem.run_pure]
    · simp only [bs, zs, hz, if_false] at g1
      simp only [execOp, ho, Instr.buildSlice, underlying, sizeOf, typeInfo, zeroValue, h1, h2, h3, Sem.run_bind, run_program, Result.andThen_ok, Sem.run_pure, hz, if_false, hno, newRow, run_newObj]
      simp only [g1, Sem.run_bind, run_newObj, Result.andThen_ok, Sem.run_pure]
  split at h
  · have hn0 : n = 0 := by rw [← hlen, ← hn]; rfl
    subst hn0
    have hps : ps.toList = [] := List.eq_nil_of_length_eq_zero hlen
    obtain ⟨cells', c1, c2, _⟩ := made [] (by rw [hps]; rfl) (fun v hv => by simp at hv)
    have hb : Below w.heap.size w { w with heap := w.heap.push (.cells cells' e) } := (Keep.alloc (fun _ _ => False) w _).below
    exact ⟨_, _, _, _, ρ, _, _, h, hr.called hb, .ce _, .inl c2⟩
  · replace h := toTs_ok (toT_ok 8) vs (ps.toList.map fun p => a.eval p.2) S own log _ (by simpa using hn.symm) hr (fun i c zv hc hz => by
      simp only [List.getElem?_map, Option.map_eq_some_iff] at hz
      obtain ⟨p, hp, rfl⟩ := hz
      exact hv i p c hp hc) h
    obtain ⟨ts, own1, S1, log1, h, c1, hl1, hts⟩ := h
    obtain ⟨h, hels⟩ := elsP_elim h
    have hr1 := c1.rel
    have rel : ∀ (i : Nat) (c : T) (u : Value), ts[i]? = some c → (ps.toList.map fun p => a.eval p.2)[i]? = some u → RelT S1 w c u ∧ (c.one = true ∨ ∃ cs, c = .agg cs) := fun i c u hc hu => ⟨hts i c u hc hu, (hels c (List.mem_of_getElem? hc)).2.1⟩
    have htl : ts.length = n := by omega
    obtain ⟨cells', k1, k2, k3⟩ := made _ rfl (fun v hv' => by
      obtain ⟨i, hi⟩ := List.mem_iff_getElem?.1 hv'
      have hlt : i < ts.length := by
        rw [htl, ← hlen]
        rcases Nat.lt_or_ge i ps.toList.length with h | h
        · exact h
        · rw [List.getElem?_eq_none (by simpa using h)] at hi; cases hi
      have e : ts[i]? = some ts[i] := by simp [hlt]
      obtain ⟨r1, r2⟩ := rel i _ v e hi
      rw [(RelT.cells r1 r2).1, (hels _ (List.mem_of_getElem? e)).1])
    have hk := Keep.alloc (fun _ _ => False) w (.cells cells' e)
    have hb : Below w.heap.size w { w with heap := w.heap.push (.cells cells' e) } := hk.below
    have hr' := hr1.called hb
    rw [← htl] at k2
    refine ⟨_, _, _, _, ρ, _, _, h, hr', .cl _ _ _ ?_, .inl k2⟩
    refine .list ti.size ts _ ts.length (fun i j => (cells'[i * ti.size + j]?).getD undef) (Nat.le_refl _) (fun _ => ⟨w.heap.size, 0, rfl, fun i j hi hj => ⟨.inr ⟨by omega, by simp⟩, ?_⟩⟩) (fun x hx => ⟨(hels x hx).1, (hels x hx).2.2⟩) fun i x hx j c hc => ?_
    · have hlt : i * ti.size + j < cells'.size := by
        rw [k1, ← htl]
        have : (i + 1) * ti.size ≤ ts.length * ti.size := Nat.mul_le_mul_right _ hi
        simp only [Nat.add_mul] at this; omega
      rw [Nat.zero_add, cell?_eq]
      simp [hlt]
    · have hlt : i < ts.length := by
        rcases Nat.lt_or_ge i ts.length with h | h
        · exact h
        · rw [List.getElem?_eq_none h] at hx; cases hx
      have hlt2 : i < ps.toList.length := by omega
      have e1 : (ps.toList.map fun p => a.eval p.2)[i]? = some (a.eval (ps.toList[i]).2) := by simp [List.getElem?_eq_getElem hlt2]
      obtain ⟨r1, r2⟩ := rel i x _ hx e1
      obtain ⟨r3, r4⟩ := RelT.cells r1 r2
      obtain ⟨hj, e2⟩ := arr_get r3 hc
      rw [k3 i _ e1 j _ e2]
      exact (r4 j c _ hc e2).keep (fun _ _ h => .inl h) hk (fun _ _ h => h.elim) hr1.mem.lt

/-! ### cuts -/
theorem bndP_elim {x : Option Opd} {vs : List V} {f : Option Int → List V → Pg} (h : run dr (bndP x vs f) own log K) : (x = none ∧ run dr (f none vs) own log K) ∨ ∃ y k z r, x = some y ∧ vs = .t (.int k z) :: r ∧ run dr (f (some z) r) own log K := by
  unfold bndP at h
  split at h
  · exact .inl ⟨rfl, h⟩
  · split at h
    · obtain ⟨k, z, e, h⟩ := intP_elim h
      subst e
      exact .inr ⟨_, k, z, _, rfl, rfl, h⟩
    · exact h.elim
/-- how the bounds hang together with the program's -/
structure Bnds (S : Cells) (w : World) (ρ : Infos) (own : Own) (a : Act) (lo hi : Option Operand) (lo' hi' : Option Opd) (vs : List V) : Prop where
  l0 : lo = none ↔ lo' = none
  h0 : hi = none ↔ hi' = none
  v1 : ∀ y v r, lo = some y → vs = v :: r → RelV S w ρ own v (a.eval y)
  v2 : ∀ y v r, lo = none → hi = some y → vs = v :: r → RelV S w ρ own v (a.eval y)
  v3 : ∀ x y u v r, lo = some x → hi = some y → vs = u :: v :: r → RelV S w ρ own v (a.eval y)
theorem bnds_elim {lo hi : Option Operand} {lo' hi' : Option Opd} {vs : List V} (hb : Bnds S w ρ own a lo hi lo' hi' vs) {F : Option Int → Option Int → Pg} (h : run dr (bndP lo' vs fun l vs => bndP hi' vs fun m _ => F l m) own log K) :
    ∃ l m : Option Int, run dr (F l m) own log K ∧ ((lo = none ∧ l = none) ∨ ∃ y k z, lo = some y ∧ l = some z ∧ a.eval y = .int k z) ∧ ((hi = none ∧ m = none) ∨ ∃ y k z, hi = some y ∧ m = some z ∧ a.eval y = .int k z) := by
  rcases bndP_elim h with ⟨e, h⟩ | ⟨y, k, z, r, e, e2, h⟩
  · have el := hb.l0.2 e
    rcases bndP_elim h with ⟨e3, h⟩ | ⟨y3, k3, z3, r3, e3, e4, h⟩
    · exact ⟨none, none, h, .inl ⟨el, rfl⟩, .inl ⟨hb.h0.2 e3, rfl⟩⟩
    · cases eh : hi with
      | none => rw [hb.h0.1 eh] at e3; cases e3
      | some q => exact ⟨none, some z3, h, .inl ⟨el, rfl⟩, .inr ⟨q, k3, z3, rfl, rfl, RelT.int_of (hb.v2 q _ _ el eh e4).t_of⟩⟩
  · cases el : lo with
    | none => rw [hb.l0.1 el] at e; cases e
    | some p =>
      have r1 := RelT.int_of (hb.v1 p _ _ el e2).t_of
      rcases bndP_elim h with ⟨e3, h⟩ | ⟨y3, k3, z3, r3, e3, e4, h⟩
      · exact ⟨some z, none, h, .inr ⟨p, k, z, rfl, rfl, r1⟩, .inl ⟨hb.h0.2 e3, rfl⟩⟩
      · cases eh : hi with
        | none => rw [hb.h0.1 eh] at e3; cases e3
        | some q => exact ⟨some z, some z3, h, .inr ⟨p, k, z, rfl, rfl, r1⟩, .inr ⟨q, k3, z3, rfl, rfl, RelT.int_of (hb.v3 p q _ _ _ el eh (by rw [e2, e4])).t_of⟩⟩
theorem bounds_run2 (isS : Bool) {len cap : Nat} {lo hi : Option Operand} {l m : Option Int} (hl : (lo = none ∧ l = none) ∨ ∃ y k z, lo = some y ∧ l = some z ∧ a.eval y = .int k z)
    (hm : (hi = none ∧ m = none) ∨ ∃ y k z, hi = some y ∧ m = some z ∧ a.eval y = .int k z) (h0 : 0 ≤ l.getD 0) (h1 : l.getD 0 ≤ m.getD len) (h2 : m.getD len ≤ cap) :
    (Instr.sliceBounds isS len cap (lo.map a.eval) (hi.map a.eval) none).run P w = .ok ((l.getD 0).toNat, (m.getD len).toNat, cap) w := by
  refine bounds_run isS ?_ ?_ h0 h1 h2
  · rcases hl with ⟨e1, e2⟩ | ⟨y, k, z, e1, e2, e3⟩
    · exact .inl ⟨e1, by rw [e2]; rfl⟩
    · exact .inr ⟨y, k, e1, by rw [e2]; exact e3⟩
  · rcases hm with ⟨e1, e2⟩ | ⟨y, k, z, e1, e2, e3⟩
    · exact .inl ⟨e1, by rw [e2]; rfl⟩
    · exact .inr ⟨y, k, e1, by rw [e2]; exact e3⟩

theorem op_slstr (hr : Rel Γ B S ρ ⟨tm, own⟩ a w) {t : TypeId} {x : Operand} {lo hi : Option Operand} {lo' hi' : Option Opd} {v : V} {vs : List V} (hx : RelV S w ρ own v (a.eval x)) (hb : Bnds S w ρ own a lo hi lo' hi' vs)
    (h1 : P.underlying t = some .string) (ho : o.op = .slice t x lo hi none) {base : Nat} {x' : Opd} (h : run dr (prog base (.slstr x' lo' hi') (v :: vs)) own log K) : Did P Γ B o a w tm K := by
  simp only [prog] at h
  split at h
  · rename_i s
    have e1 := RelT.str_of hx.t_of
    obtain ⟨l, m, h, hl, hm⟩ := bnds_elim hb h
    replace h := req_elim h
    obtain ⟨⟨g1, g2, g3⟩, h⟩ := h
    refine did_val h hr (u := .string _) (.t _ _ (.str _)) ?_
    simp [execOp, ho, e1, Instr.sliceAt, underlying, h1, Instr.slice, bounds_run2 (a := a) (P := P) (w := w) false hl hm g1 g2 g3]
  · exact h.elim

theorem run_sll {t e : TypeId} {ti : TypeInfo} {x : Operand} {lo hi : Option Operand} {l m : Option Int} {ad : Option Addr} {n cap : Nat} (h1 : P.underlying t = some (.slice e)) (h2 : P.info? e = some ti) (ho : o.op = .slice t x lo hi none)
    (hu : a.eval x = .slice ad n cap) (hl : (lo = none ∧ l = none) ∨ ∃ y k z, lo = some y ∧ l = some z ∧ a.eval y = .int k z) (hm : (hi = none ∧ m = none) ∨ ∃ y k z, hi = some y ∧ m = some z ∧ a.eval y = .int k z)
    (g0 : 0 ≤ l.getD 0) (g1 : l.getD 0 ≤ m.getD n) (g2 : m.getD n ≤ cap) :
    (execOp a.eval o).run P w = .ok (.value (.slice (if cap = (l.getD 0).toNat then ad else ad.map (·.add ((l.getD 0).toNat * ti.size))) ((m.getD n).toNat - (l.getD 0).toNat) (cap - (l.getD 0).toNat))) w := by
  have hb := bounds_run2 (a := a) (P := P) (w := w) true hl hm g0 g1 g2
  simp [execOp, ho, hu, Instr.sliceAt, underlying, h1, Instr.slice, hb, sizeOf, typeInfo, h2]
/-- a cut of an own list's slice -/
theorem slok_cut {rv : Value} {sz m off l n : Nat} {ts : List T} {len len' : Option Nat} {ad : Option Addr} {cnt cap : Nat} (h : SlOk rv (.lst sz ts m) off len (.slice ad cnt cap)) (hl : l ≤ n) (hn : n ≤ cnt)
    (h1 : len' = none → len = none ∧ n = cnt) (h2 : ∀ q, len' = some q → q = n - l) : SlOk rv (.lst sz ts m) (off + l) len' (.slice (if cap = l then ad else ad.map (·.add (l * sz))) (n - l) (cap - l)) := by
  obtain ⟨a', n', c', e, hnc, g1, g2, g3, A, C, g4, g5, g6, g7⟩ := h
  simp only [Value.slice.injEq] at e
  obtain ⟨rfl, rfl, rfl⟩ := e
  have hoff : off + cnt ≤ ts.length := by
    cases len with
    | none => have := g2 rfl; omega
    | some q => have := g3 q rfl; omega
  refine ⟨_, _, _, rfl, by omega, by omega, fun e => ?_, fun q e => ?_, A, C, g4, fun e => ?_, by omega, fun hc => ?_⟩
  · obtain ⟨e1, e2⟩ := h1 e
    have := g2 e1; omega
  · have := h2 q e; omega
  · obtain ⟨e1, e2⟩ := h1 e
    have := g5 e1; omega
  · obtain ⟨b, o, e1, e2⟩ := g7 (by omega)
    refine ⟨b, o, e1, ?_⟩
    rw [if_neg (by omega), e2, Option.map_some, add_addr, Nat.add_mul]
    congr 2; omega
theorem list_sub {sz l h : Nat} {xs : List T} {ad : Option Addr} {cap : Nat} (hr : RelT S w (.list sz xs) (.slice ad xs.length cap)) (h1 : l ≤ h) (h2 : h ≤ xs.length) :
    RelT S w (.list sz ((xs.drop l).take (h - l))) (.slice (if cap = l then ad else ad.map (·.add (l * sz))) (h - l) (cap - l)) := by
  cases hr with
  | list _ _ _ _ u hcap ha hsz hrr =>
    have hlen : ((xs.drop l).take (h - l)).length = h - l := by simp; omega
    have key : RelT S w (.list sz ((xs.drop l).take (h - l))) (.slice (if cap = l then ad else ad.map (·.add (l * sz))) ((xs.drop l).take (h - l)).length (cap - l)) := by
      refine .list sz _ _ _ (fun i j => u (l + i) j) (by rw [hlen]; omega) (fun hne => ?_) (fun x hx => hsz x (List.mem_of_mem_drop (List.mem_of_mem_take hx))) fun i x hx j c hc => ?_
      · have hpos : 0 < h - l := by rw [← hlen]; exact List.length_pos_iff.2 hne
        have hxs : xs ≠ [] := by intro e; subst e; simp at h2; omega
        obtain ⟨b, o, e, hh⟩ := ha hxs
        subst e
        refine ⟨b, o + l * sz, ?_, fun i j hi hj => ?_⟩
        · rw [if_neg (by omega)]
          simp only [Option.map_some, Addr.add]
          split <;> simp_all
        · rw [hlen] at hi
          have := hh (l + i) j (by omega) hj
          rw [Nat.add_mul] at this
          have e : o + l * sz + i * sz + j = o + (l * sz + i * sz) + j := by omega
          rw [e]; exact this
      · have hx' : xs[l + i]? = some x := by
          rw [List.getElem?_take] at hx
          split at hx
          · simpa using hx
          · cases hx
        exact hrr (l + i) x hx' j c hc
    rw [hlen] at key
    exact key
theorem relist {sz sz' : Nat} {xs : List T} {u : Value} (h : RelT S w (.list sz' xs) u) (hs : xs = [] ∨ sz' = sz) : RelT S w (.list sz xs) u := by
  rcases hs with rfl | rfl
  · cases h with
    | list _ _ ad cap u hcap ha hsz hr => exact .list sz [] ad cap (fun _ _ => undef) (Nat.zero_le _) (fun h => absurd rfl h) (fun x hx => by cases hx) (fun i x hx => by simp at hx)
  · exact h
theorem op_sll (hr : Rel Γ B S ρ ⟨tm, own⟩ a w) {t e : TypeId} {ti : TypeInfo} {x : Operand} {lo hi : Option Operand} {lo' hi' : Option Opd} {v : V} {vs : List V} (hx : RelV S w ρ own v (a.eval x)) (hb : Bnds S w ρ own a lo hi lo' hi' vs)
    (h1 : P.underlying t = some (.slice e)) (h2 : P.info? e = some ti) (ho : o.op = .slice t x lo hi none) {base : Nat} {x' : Opd} (h : run dr (prog base (.sll ti.size x' lo' hi') (v :: vs)) own log K) : Did P Γ B o a w tm K := by
  simp only [prog] at h
  replace h := bnds_elim hb h
  obtain ⟨l, m, h, hl, hm⟩ := h
  have same : ∀ ad n cap, a.eval x = .slice ad n cap → n ≤ cap → l = none → m = none → (execOp a.eval o).run P w = .ok (.value (a.eval x)) w := by
    intro ad n cap hu hc e1 e2
    subst e1 e2
    have := run_sll (P := P) (w := w) h1 h2 ho hu hl hm (by simp) (by simp) (by simpa using hc)
    rw [this, hu]
    simp
    intro _
    cases ad with
    | none => rfl
    | some ad => simp [Addr.add]
  split at h
  · rename_i k off len
    replace h := rd_elim h
    obtain ⟨b, hbk, h⟩ := h
    split at h
    · rename_i sz' ts mm
      replace h := natP_elim h
      obtain ⟨hz, h⟩ := h
      rw [Nat.beq_eq] at hz; subst hz
      have hs := sl_of hx hbk
      obtain ⟨ad, cap, hu, hc, hlen, hle, hq1, hlast, hq2⟩ := sl_sub hs
      clear hq1 hq2
      have hs' := hs
      rw [hu] at hs'
      split at h
      · exact did_val h hr hx (same _ _ _ hu hc rfl rfl)
      · rename_i hh
        replace h := req_elim h
        obtain ⟨⟨q1, q2⟩, h⟩ := h
        have := run_sll (P := P) (w := w) h1 h2 ho hu hl hm (by simp) (by simpa using q1) (by simp; omega)
        refine did_val h hr (.sl k _ _ _ hbk _ ?_) this
        exact slok_cut (l := 0) (n := hh.toNat) hs' (by omega) (by omega) (fun e => by cases e) (fun q e => by cases e; rfl)
      · rename_i ll
        split at h
        · replace h := req_elim h
          obtain ⟨⟨q1, q2⟩, h⟩ := h
          have := run_sll (P := P) (w := w) h1 h2 ho hu hl hm (by simpa using q1) (by simp; omega) (by simp; omega)
          refine did_val h hr (.sl k _ _ _ hbk _ ?_) this
          exact slok_cut hs' (by simp; omega) (by simp) (fun e => ⟨rfl, by simp⟩) (fun q e => by cases e)
        · rename_i nn
          replace h := req_elim h
          obtain ⟨⟨q1, q2⟩, h⟩ := h
          have hln : lenL ts off (some nn) = nn := by rw [lenL_eq]
          have := run_sll (P := P) (w := w) h1 h2 ho hu hl hm (by simpa using q1) (by simp; omega) (by simp; omega)
          refine did_val h hr (.sl k _ _ _ hbk _ ?_) this
          refine slok_cut hs' (by simp; omega) (by simp) (fun e => by cases e) (fun q e => by cases e; show nn - ll.toNat = _; simp; omega)
      · rename_i ll hh
        replace h := req_elim h
        obtain ⟨⟨q1, q2, q3⟩, h⟩ := h
        have := run_sll (P := P) (w := w) h1 h2 ho hu hl hm (by simpa using q1) (by simpa using q2) (by simp; omega)
        refine did_val h hr (.sl k _ _ _ hbk _ ?_) this
        exact slok_cut hs' (by simp; omega) (by simp; omega) (fun e => by cases e) (fun q e => by cases e; simp; omega)
    · exact h.elim
  · have hu := nils_of hx.t_of
    split at h
    · exact did_val h hr hx (same _ _ _ hu (Nat.le_refl _) rfl rfl)
    · replace h := req_elim h
      obtain ⟨rfl, h⟩ := h
      have r := run_sll (P := P) (w := w) h1 h2 ho hu hl hm (by simp) (by simp) (by simp)
      exact did_val h hr hx (by rw [r, hu]; simp)
    · replace h := req_elim h
      obtain ⟨rfl, h⟩ := h
      have r := run_sll (P := P) (w := w) h1 h2 ho hu hl hm (by simp) (by simp) (by simp)
      exact did_val h hr hx (by rw [r, hu]; simp)
    · replace h := req_elim h
      obtain ⟨⟨rfl, rfl⟩, h⟩ := h
      have r := run_sll (P := P) (w := w) h1 h2 ho hu hl hm (by simp) (by simp) (by simp)
      exact did_val h hr hx (by rw [r, hu]; simp)
  · replace h := listFP_elim hr hx h
    obtain ⟨sz, xs, log', h, hT⟩ := h
    obtain ⟨ad, cap, hu, hc⟩ : ∃ ad cap, a.eval x = .slice ad xs.length cap ∧ xs.length ≤ cap := by
      generalize a.eval x = u at hT
      cases hT with
      | list _ _ ad cap u hcap => exact ⟨ad, cap, rfl, hcap⟩
    rw [hu] at hT
    split at h
    · exact did_val h hr hx (same _ _ _ hu hc rfl rfl)
    · rename_i hh
      replace h := req_elim h
      obtain ⟨⟨q1, q2, q3⟩, h⟩ := h
      have r := run_sll (P := P) (w := w) h1 h2 ho hu hl hm (by simp) (by simpa using q1) (by simp; omega)
      refine did_val h hr (.t _ _ ?_) r
      have := list_sub (relist hT q3) (l := 0) (h := hh.toNat) (by omega) (by omega)
      simpa using this
    · rename_i ll
      replace h := req_elim h
      obtain ⟨⟨q1, q2, q3⟩, h⟩ := h
      have r := run_sll (P := P) (w := w) h1 h2 ho hu hl hm (by simpa using q1) (by simp; omega) (by simp; omega)
      refine did_val h hr (.t _ _ ?_) r
      have := list_sub (relist hT q3) (l := ll.toNat) (h := xs.length) (by omega) (by omega)
      rw [List.take_of_length_le (by simp)] at this
      simpa using this
    · rename_i ll hh
      replace h := req_elim h
      obtain ⟨⟨q1, q2, q3, q4⟩, h⟩ := h
      have r := run_sll (P := P) (w := w) h1 h2 ho hu hl hm (by simpa using q1) (by simpa using q2) (by simp; omega)
      refine did_val h hr (.t _ _ ?_) r
      exact list_sub (relist hT q4) (by omega) (by omega)
end
end Go.Nx
