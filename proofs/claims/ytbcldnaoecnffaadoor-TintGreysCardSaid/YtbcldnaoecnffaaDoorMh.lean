/-
  THE STEPS THAT READ AND WRITE MEMORY.
-/
import Derived.Test.YtbcldnaoecnffaaDoorMg
set_option linter.unusedVariables false
namespace Go.Mx
open Go.RowKit

section
variable {P : Program} {Γ : Env} {B : Base} {S : Cells} {ρ : Nat → Info} {tm : List V} {own : List (Nat × Blk)} {a : Act} {w : World}
variable {o : Oper} {K : St → Prop} {next : Act → World → Prop} {Q : Exit → Act → World → Prop}

theorem vone_cells {v : Value} (h : vone v = true) : v.cells = #[v] := by cases v <;> first | rfl | (simp [vone] at h)
theorem vone_one {v : Value} (h : vone v = true) : v.oneCell' = true := by cases v <;> first | rfl | (simp [vone] at h)
theorem RelV.one {v : V} {u : Value} (h : RelV S w ρ own v u) (hd : v ≠ .dead) (ht : ∀ x, v ≠ .t x) : vone u = true := by
  cases v with
  | t x => exact absurd rfl (ht x)
  | dead => exact absurd rfl hd
  | ptr k off => obtain ⟨b, ad, _, rfl, _⟩ := h; rfl
  | eptr k i j => obtain ⟨sz, ts, wr, ad, _, rfl, _⟩ := h; rfl
  | vptr cs off => obtain ⟨b, o, rfl, _⟩ := h; rfl
  | sl k off len =>
    obtain ⟨sz, ts, wr, _, _, h1, h2⟩ := h
    cases wr
    · obtain ⟨h2, _⟩ := h2 rfl; cases h2; rfl
    · obtain ⟨cap, _, rfl, _⟩ := h1 rfl; rfl
  | mp k => exact h.elim
  | fn f x y => exact h.elim
/-- the cells of a value that is stored -/
theorem RelV.cells {v : V} {u : Value} (h : RelV S w ρ own v u) (hx : ∀ x, v = .t x → (∀ y ∈ x.cells, y.one = true) ∧ (x.one = true ∨ ∃ cs, x = .agg cs)) (hd : v ≠ .dead) :
    u.cells.size = v.cells.length ∧ (∀ (i : Nat) (c : V) (z : Value), v.cells[i]? = some c → u.cells[i]? = some z → RelV S w ρ own c z) ∧ ∀ z ∈ u.cells.toList, vone z = true := by
  by_cases ht : ∃ x, v = .t x
  · obtain ⟨x, rfl⟩ := ht
    obtain ⟨h1, h2⟩ := hx x rfl
    obtain ⟨h3, h4⟩ := RelT.cells h h2
    have h5 : ∀ (i : Nat) (c : V) (z : Value), (V.t x).cells[i]? = some c → u.cells[i]? = some z → RelV S w ρ own c z := by
      intro i c z hc hz
      simp only [V.cells, List.getElem?_map, Option.map_eq_some_iff] at hc
      obtain ⟨y, hy, rfl⟩ := hc
      exact h4 i y z hy hz
    refine ⟨by simpa [V.cells] using h3, h5, fun z hz => ?_⟩
    obtain ⟨i, hi⟩ := List.mem_iff_getElem?.1 hz
    have hlt : i < x.cells.length := by
      rw [← h3]
      rcases Nat.lt_or_ge i u.cells.size with h | h
      · exact h
      · rw [List.getElem?_eq_none (by simpa using h)] at hi; cases hi
    have e : x.cells[i]? = some x.cells[i] := by simp [hlt]
    exact (RelT.one (h4 i _ z e (by simpa using hi)) (h1 _ (List.mem_of_getElem? e))).1
  · have h1 := RelV.one h hd (fun x e => ht ⟨x, e⟩)
    have h2 := vone_cells h1
    have h3 : v.cells = [v] := by cases v <;> first | rfl | exact absurd ⟨_, rfl⟩ ht
    rw [h2, h3]
    refine ⟨rfl, fun i c z hc hz => ?_, fun z hz => by simp at hz; subst hz; exact h1⟩
    cases i with
    | zero => simp at hc hz; subst hc; subst hz; exact h
    | succ i => simp at hc

theorem op_box (hn : ∀ st' a' w', K st' → Good Γ B st' a' w' → next a' w') (hr : Rel Γ B S ρ ⟨tm, own⟩ a w) {t : TypeId} {x : Operand} {x' : Opd} {k : Nat} (hx : lowX x = some x')
    (ho : o.op = .box t x) (h : stepK Γ o.dst ⟨tm, own⟩ (.box k x') K) : o.wp P a w next Q := by
  obtain ⟨v, hv, h⟩ := evK_elim h
  obtain ⟨h1, h2, h⟩ := cellsK_elim h
  obtain ⟨hf, h⟩ := freshK_elim h
  have hrel := ev_rel hr hx hv
  obtain ⟨g1, g2, _⟩ := hrel.cells h1 h2
  obtain ⟨ρ', hk, hr'⟩ := hr.alloc (k := k) (blk := .cells v.cells) (arr := (a.eval x).cells) (e := t) (rv := .nilFunc) hf rfl (fun ρ' e1 e2 => by
    refine ⟨(a.eval x).cells, t, by rw [e1]; simp, g1, fun j c u hc hu => ?_⟩
    exact RelV.mono (fun _ _ h => h) (Keep.alloc (fun _ _ => False) w _) (fun _ _ h => h.elim) hr.lt (OwnLe.cons _ hf) e2 (g2 j c u hc hu))
  refine fin_val hn h hr' (u := .pointer (some ⟨w.heap.size, 0, none⟩)) ⟨.cells v.cells, _, by simp [look], rfl, fun _ => by rw [hk]⟩ ?_
  simp [execOp, ho, Instr.box, newVar, newRow]

theorem cellsN_spec {t : TypeId} {n : Option Nat} (h : cellsN P t = some n) : ∃ d i, P.underlying t = some d ∧ P.info? t = some i ∧ ((n = none ∧ aggD d = false) ∨ (n = some i.size ∧ aggD d = true)) := by
  unfold cellsN at h
  split at h
  · rename_i d i h1 h2
    refine ⟨d, i, h1, h2, ?_⟩
    cases e : aggD d <;> simp [e] at h <;> simp [← h]
  · cases h
theorem run_isAgg {t : TypeId} {d : TypeDesc} (h : P.underlying t = some d) : (isAgg t).run P w = .ok (aggD d) w := by
  cases d <;> simp [isAgg, underlying, h, aggD]
theorem run_sizeOf {t : TypeId} {i : TypeInfo} (h : P.info? t = some i) : (sizeOf t).run P w = .ok i.size w := by
  simp [sizeOf, typeInfo, h]
/-- reading a variable -/
theorem run_ld {t : TypeId} {n : Option Nat} {b off : Nat} (h : cellsN P t = some n) :
    (n = none → ∀ u, w.cell? ⟨b, off, none⟩ = some u → (loadVar t ⟨b, off, none⟩).run P w = .ok u w) ∧
    (∀ m, n = some m → ∀ l : List Value, l.length = m → (∀ (j : Nat) (u : Value), l[j]? = some u → w.cell? ⟨b, off + j, none⟩ = some u) → (loadVar t ⟨b, off, none⟩).run P w = .ok (.agg l.toArray) w) := by
  obtain ⟨d, i, h1, h2, h3⟩ := cellsN_spec h
  refine ⟨fun e u hu => ?_, fun m e l hl hc => ?_⟩
  · rcases h3 with ⟨_, h3⟩ | ⟨h3, _⟩
    · simp [loadVar, run_isAgg h1, h3, hu]
    · rw [e] at h3; cases h3
  · rcases h3 with ⟨h3, _⟩ | ⟨h3, h4⟩
    · rw [e] at h3; cases h3
    · rw [e] at h3; cases h3
      have := run_loadCells_list (P := P) (w := w) ⟨b, off, none⟩ l (fun j v hv => by
        have := hc j v hv
        by_cases z : j = 0
        · subst z; simpa [Addr.add] using this
        · simpa [Addr.add, z] using this)
      simp [loadVar, run_isAgg h1, h4, run_sizeOf h2, ← hl, this]

/-- the cells of a row -/
theorem cell_row {b : Nat} {arr : Array Value} {e : TypeId} {fr : Nat × Nat} (h : w.heap[b]? = some (.cells arr e fr)) (j : Nat) : w.cell? ⟨b, j, none⟩ = arr[j]? := by
  rw [cell?_eq, h]

theorem op_ld_val {t : TypeId} {x : Operand} {b off : Nat} (ho : o.op = .load t x) (hx : a.eval x = .pointer (some ⟨b, off, none⟩)) {u : Value} (h : (loadVar t ⟨b, off, none⟩).run P w = .ok u w) :
    (execOp a.eval o).run P w = .ok (.value u) w := by
  simp [execOp, ho, hx, Instr.loadAt, Instr.sureAddr, h]

/-- the cells o .. of a list, all there -/
theorem take_list {α : Type} {l : List α} {o m : Nat} (h : m = 0 ∨ o + m ≤ l.length) : ((l.drop o).take m).length = m := by
  simp; rcases h with h | h <;> omega
theorem take_get {α : Type} {l : List α} {o m j : Nat} {x : α} (h : ((l.drop o).take m)[j]? = some x) : l[o + j]? = some x ∧ j < m := by
  rw [List.getElem?_take] at h
  split at h
  · rename_i hj
    rw [List.getElem?_drop] at h
    exact ⟨h, hj⟩
  · cases h

/-- reading cells that are known -/
theorem rd_known {t : TypeId} {n : Option Nat} {b off m : Nat} {arr : Nat → Value} {cs : List T} (hc : cellsN P t = some n)
    (hcell : ∀ (j : Nat) (c : T), cs[j]? = some c → w.cell? ⟨b, off + j, none⟩ = some (arr j) ∧ RelT S w c (arr j)) {i : Nat} {v : V} {K' : V → Prop} (h : rdTK cs i n K') :
    ∃ v u, K' v ∧ RelV S w ρ own v u ∧ (loadVar t ⟨b, off + i, none⟩).run P w = .ok u w := by
  rcases rdTK_elim h with ⟨e, x, hx, hK⟩ | ⟨m, e, hm, hK⟩
  · obtain ⟨h1, h2⟩ := hcell i x hx
    exact ⟨_, _, hK, h2, (run_ld hc).1 e _ h1⟩
  · have hl : ((List.range m).map fun j => arr (i + j)).length = m := by simp
    refine ⟨_, _, hK, ?_, (run_ld hc).2 m e ((List.range m).map fun j => arr (i + j)) hl fun j u hu => ?_⟩
    · refine .agg _ _ (by simp; rcases hm with hm | hm <;> omega) fun j c u hc hu => ?_
      obtain ⟨h1, h2⟩ := take_get hc
      obtain ⟨h3, h4⟩ := hcell (i + j) c h1
      simp [h2] at hu; subst hu
      exact h4
    · have hj : j < m := by
        rcases Nat.lt_or_ge j m with h | h
        · exact h
        · simp [h] at hu
      simp [hj] at hu; subst hu
      have hlt : i + j < cs.length := by rcases hm with hm | hm <;> omega
      have := (hcell (i + j) cs[i + j] (by simp [hlt])).1
      rwa [Nat.add_assoc]

/-- the cells of a row of one-cell elements -/
theorem lst_cells {ts : List T} {arr : Array Value} (h : ∀ x ∈ ts, x.one = true)
    (h6 : ∀ i x j c, ts[i]? = some x → x.cells[j]? = some c → ∃ v, arr[i * 1 + j]? = some v ∧ RelT S w c v) (i : Nat) (x : T) (hi : ts[i]? = some x) : ∃ u, arr[i]? = some u ∧ RelT S w x u := by
  have h1 := h x (List.mem_of_getElem? hi)
  have h2 : x.cells = [x] := by cases x <;> first | rfl | (simp [T.one] at h1)
  simpa using h6 i x 0 x hi (by simp [h2])

theorem op_ld (hn : ∀ st' a' w', K st' → Good Γ B st' a' w' → next a' w') (hr : Rel Γ B S ρ ⟨tm, own⟩ a w) {t : TypeId} {x : Operand} {x' : Opd} {n : Option Nat} (hx : lowX x = some x') (hc : cellsN P t = some n)
    (ho : o.op = .load t x) (h : stepK Γ o.dst ⟨tm, own⟩ (.ld n x') K) : o.wp P a w next Q := by
  obtain ⟨v, hv, h⟩ := evK_elim h
  have hrel := ev_rel hr hx hv
  split at h
  · rename_i k off
    obtain ⟨b, hb, h⟩ := lkupK_elim h
    obtain ⟨b', ad, hb', e1, e2⟩ := hrel
    try simp only at hb hb'
    rw [hb] at hb'; cases hb'
    have hB := hr.own k b hb
    cases b with
    | cells cs =>
      obtain rfl := e2 rfl
      obtain ⟨arr, e, h1, h2, h3⟩ := hB
      rcases rdK_elim h with ⟨e4, c, hc', hK⟩ | ⟨m, ts, e4, hm, e5, _, hK⟩
      · have hlt : off < arr.size := by
          rw [h2]
          rcases Nat.lt_or_ge off cs.length with h | h
          · exact h
          · rw [List.getElem?_eq_none h] at hc'; cases hc'
        have e6 : arr[off]? = some arr[off] := by simp [hlt]
        refine fin_val hn hK hr (h3 off c _ hc' e6) (op_ld_val ho e1 ((run_ld hc).1 e4 _ ?_))
        rw [cell_row h1, e6]
      · have hl : ((arr.toList.drop off).take m).length = m := take_list (by simpa [h2] using hm)
        refine fin_val hn hK hr (u := .agg ((arr.toList.drop off).take m).toArray) (.agg ts _ ?_ fun j c u hcj hu => ?_) (op_ld_val ho e1 ((run_ld hc).2 m e4 _ hl fun j u hu => ?_))
        · have := congrArg List.length e5
          rw [take_list hm] at this
          simp only [List.size_toArray, hl]; simpa using this
        · have g1 : ((cs.drop off).take m)[j]? = some (.t c) := by rw [e5]; simp [hcj]
          have g2 := (take_get g1).1
          have g3 := (take_get (by simpa using hu)).1
          exact h3 _ _ _ g2 (by simpa using g3)
        · have g3 := (take_get hu).1
          rw [cell_row h1]; simpa using g3
    | lst sz ts wr =>
      dsimp only at h
      obtain ⟨hw, hlda⟩ := natK_elim h
      subst hw
      obtain rfl := e2 rfl
      obtain ⟨hs1, hs2, m, hs3, h0, h00, hK⟩ := ldaK_elim hlda
      subst hs1 hs2 hs3
      · obtain ⟨arr, e, cap, h1, h2, h3, h4, h5, h6⟩ := hB
        have one := lst_cells h00 h6
        have hl : ((List.range m).map fun j => (arr[j]?).getD undef).length = m := by simp
        refine fin_val hn hK hr (u := .agg ((List.range m).map fun j => (arr[j]?).getD undef).toArray) (.agg ts _ (by simp [h0]) fun j c u hc hu => ?_) (op_ld_val ho e1 ((run_ld hc).2 m rfl _ hl fun j u hu => ?_))
        · obtain ⟨z, hz, hr'⟩ := one j c hc
          have hj : j < m := by
            rw [← h0]
            rcases Nat.lt_or_ge j ts.length with h | h
            · exact h
            · rw [List.getElem?_eq_none h] at hc; cases hc
          simp [hj, hz] at hu; subst hu; exact hr'
        · have hj : j < m := by
            rcases Nat.lt_or_ge j m with h | h
            · exact h
            · simp [h] at hu
          obtain ⟨z, hz, hr'⟩ := one j ts[j] (by simp [h0, hj])
          simp [hj, hz] at hu; subst hu
          rw [cell_row h1]; simpa using hz
  · rename_i k i j
    obtain ⟨b, hb, h⟩ := lkupK_elim h
    obtain ⟨sz, ts, wr, ad, hb', e1, e2⟩ := hrel
    try simp only at hb hb'
    rw [hb] at hb'; cases hb'
    have hB := hr.own k _ hb
    obtain ⟨hw, hn1⟩ := natK_elim h
    subst hw
    obtain rfl := e2 rfl
    obtain ⟨h0, y, hy, hn2⟩ := nthK_elim hn1
    obtain ⟨_, _, h⟩ := cellsTK_elim hn2
    obtain ⟨arr, e, cap, h1, h2, h3, h4, h5, h6⟩ := hB
    obtain ⟨v, u, hK, hv', hrun⟩ := rd_known (S := S) (ρ := ρ) (own := own) (b := (ρ k).blk) (off := i * sz) (m := 0) (arr := fun j => (arr[i * sz + j]?).getD undef) (cs := y.cells) (w := w) (v := .dead) hc (fun j c hc => by
      obtain ⟨u, hu, hr'⟩ := h6 i y j c (by simpa using hy) hc
      rw [cell_row h1, hu]
      exact ⟨rfl, hr'⟩) h
    exact fin_val hn hK hr hv' (op_ld_val ho e1 hrun)
  · rename_i cs off
    obtain ⟨b, o', e1, hcs⟩ := hrel
    obtain ⟨v, u, hK, hv', hrun⟩ := rd_known (S := S) (ρ := ρ) (own := own) (b := b) (off := o') (m := 0) (arr := fun j => (w.cell? ⟨b, o' + j, none⟩).getD undef) (cs := cs) (w := w) (v := .dead) hc (fun j c hc => by
      obtain ⟨_, u, hu, hr'⟩ := hcs j c hc
      rw [hu]; exact ⟨rfl, hr'⟩) h
    exact fin_val hn hK hr hv' (op_ld_val ho e1 hrun)
  · exact h.elim
end
end Go.Mx
