/-
  EACH NODE IS ONCE: the world.
-/
import Derived.Test.YtommbfigioeghaaEt
import Derived.Test.YtommbfigioeghaaBm
set_option linter.unusedVariables false
set_option linter.unusedSimpArgs false
set_option maxRecDepth 20000
set_option maxHeartbeats 4000000
namespace Go.Nx
open Go.RowKit Go.Proofs

/-- those that are nodes -/
def flt (l : List Int) : List Int := l.filter fun x => ltI 0 x
theorem flt_cons (x : Int) (l : List Int) (o : Int) : (flt (x :: l)).count o = pos1 x o + (flt l).count o := by
  unfold flt pos1
  by_cases hx : 0 < x
  · rw [List.filter_cons_of_pos (by simpa using lt_t.2 hx), List.count_cons]
    by_cases ho : x = o
    · subst ho
      simp [hx]; omega
    · simp [ho]
  · rw [List.filter_cons_of_neg (by simp [lt_f]; omega)]
    simp [hx]
theorem flt_set : ∀ (l : List Int) (k : Nat) (u o : Int), k < l.length → (flt (l.set k u)).count o + pos1 (at0 l k) o = (flt l).count o + pos1 u o
  | [], k, u, o, h => by simp at h
  | x :: l, 0, u, o, h => by
    rw [List.set_cons_zero, flt_cons, flt_cons]
    have : at0 (x :: l) ((0 : Nat) : Int) = x := rfl
    rw [this]; omega
  | x :: l, k + 1, u, o, h => by
    rw [List.set_cons_succ, flt_cons, flt_cons]
    have h1 := flt_set l k u o (by simpa using h)
    have : at0 (x :: l) ((k + 1 : Nat) : Int) = at0 l (k : Int) := by
      simp [at0]
    rw [this]; omega
theorem flt_ge (l : List Int) (k : Nat) (o : Int) (h : k < l.length) : pos1 (at0 l k) o ≤ (flt l).count o := by
  have := flt_set l k 0 o h
  have hz : pos1 0 o = 0 := by simp [pos1]
  omega
theorem at0_set_ne {l : List Int} {j k : Nat} {u : Int} (h : j ≠ k) : at0 (l.set k u) j = at0 l j := by
  simp [at0, List.getElem?_set_ne (Ne.symm h)]
theorem at0_set_eq {l : List Int} {k : Nat} {u : Int} (h : k < l.length) : at0 (l.set k u) k = u := by
  simp [at0, h]
theorem flt_ge2 (l : List Int) (j k : Nat) (o : Int) (hj : j < l.length) (hk : k < l.length) (hne : j ≠ k) : pos1 (at0 l j) o + pos1 (at0 l k) o ≤ (flt l).count o := by
  have h1 := flt_set l k 0 o hk
  have h2 := flt_ge (l.set k 0) j o (by simpa using hj)
  rw [at0_set_ne hne] at h2
  have hz : pos1 0 o = 0 := by simp [pos1]
  omega
theorem flt0 : flt wd0.has = [] := by
  unfold flt
  rw [List.filter_eq_nil_iff]
  intro x hx
  simp [wd0] at hx
  subst hx
  rw [lt_t]; omega
def oneN (o : Int) : Nat := if 1 ≤ o ∧ o ≤ 8 then 1 else 0
structure One (w : Wd) (Ls : Int → List Int) : Prop where
  ch : ∀ i, (i = 0 ∨ i = 1) → Ch w.m (nd (at0 w.m i)) (Ls i)
  cnt : ∀ o, (flt w.has).count o + (Ls 0).count o + (Ls 1).count o = oneN o
  mok : ∀ k : Nat, k < 5 → MkOk w.m (at0 w.has k) (mAt w.who k)
theorem mAt_set {l : List Mach} {j k : Nat} {c : Mach} (hk : k < l.length) : mAt (l.set k c) j = if j = k then c else mAt l j := by
  by_cases h : j = k
  · subst h; simp [mAt, hk]
  · simp [mAt, List.getElem?_set_ne (Ne.symm h), h]
theorem mk_start {m : List Int} {b h : Int} (hh : 0 ≤ h) : MkOk m h (startM b h) := by
  intro _
  refine ⟨rfl, ?_, fun hp => by simp [startM] at hp, fun hp => by simp [startM] at hp⟩
  unfold startM
  simp only
  constructor
  · intro e
    by_cases hl : ltI 0 h = true
    · exact lt_t.1 hl
    · rw [if_neg hl] at e; omega
  · intro e; rw [if_pos (lt_t.2 e)]
theorem one_world {w : Wd} {n : Nat} {b : Int} {Ls : Int → List Int} (hb : R8 b) (h : Inv w n) (hn : n < 400) (h1 : One w Ls) : ∃ Ls', One (stepW w b) Ls' := by
  have hb' := hb
  unfold R8 at hb'
  have hk : (b % 5).toNat < 5 := by omega
  unfold stepW
  simp only
  generalize hkk : (b % 5).toNat = k at hk
  have hlk : k < w.has.length := by rw [h.has]; exact hk
  have hwk : k < w.who.length := by rw [h.who]; exact hk
  have hx := h.hs (at0 w.has k) (at0_mem (by simp; omega))
  have hc1 : MOk (if (mAt w.who k).out ≠ 0 then startM b (at0 w.has k) else mAt w.who k) ∧ (if (mAt w.who k).out ≠ 0 then startM b (at0 w.has k) else mAt w.who k).out = 0 ∧ MkOk w.m (at0 w.has k) (if (mAt w.who k).out ≠ 0 then startM b (at0 w.has k) else mAt w.who k) := by
    split
    · exact ⟨mok_start hb hx, rfl, mk_start hx.1⟩
    · rename_i e; exact ⟨h.ok _ (mAt_mem (by rw [h.who]; exact hk)), by simpa using e, h1.mok k hk⟩
  generalize (if (mAt w.who k).out ≠ 0 then startM b (at0 w.has k) else mAt w.who k) = c1 at hc1
  obtain ⟨hc, ho, hmk⟩ := hc1
  have hle1 : ∀ o, oneN o ≤ 1 := fun o => by unfold oneN; split <;> omega
  obtain ⟨Ls', O⟩ := one_step h.m h.ml (by have := h.v; have := h.n; omega) hc ho h1.ch (fun o => by
    have g1 := h1.cnt o
    have g2 := flt_ge w.has k o hlk
    show _ ≤ oneN o
    omega) hmk hx.1
  have hfin : ∀ hk' : Int, hk' = (if (stepC w.m c1).out = 1 then (if (stepC w.m c1).kind = 1 then 0 else (stepC w.m c1).x) else at0 w.has k) → One ⟨stepL w.m c1, w.who.set k (stepC w.m c1), w.has.set k hk', w.swap⟩ Ls' := by
    intro hk' he
    rw [← he] at O
    refine ⟨O.ch, fun o => ?_, fun j hj => ?_⟩
    · have g1 := h1.cnt o
      have g2 := flt_set w.has k hk' o hlk
      have g3 := O.cnt o
      simp only at g2 ⊢
      omega
    · simp only
      rw [mAt_set hwk]
      by_cases e : j = k
      · subst e
        rw [if_pos rfl, at0_set_eq hlk]
        exact O.mok
      · rw [if_neg e, at0_set_ne e]
        have hjl : j < w.has.length := by rw [h.has]; exact hj
        have hge := flt_ge2 w.has j k (at0 w.has j) hjl hlk e
        have hge1 := flt_ge w.has j (at0 w.has j) hjl
        have hc0 := h1.cnt (at0 w.has j)
        have hle := hle1 (at0 w.has j)
        refine O.oth _ _ (h.ok _ (mAt_mem (by rw [h.who]; exact hj))) (h1.mok j hj) (fun hp heq => ?_) (fun o hp heq => ?_)
        · have p1 : pos1 (at0 w.has j) (at0 w.has j) = 1 := by simp [pos1, hp]
          rw [← heq] at hge
          omega
        · have p1 : pos1 (at0 w.has j) (at0 w.has j) = 1 := by simp [pos1, hp]
          rw [← heq]
          omega
  split
  · rename_i e
    have := hfin _ rfl
    rw [if_pos e] at this
    exact ⟨Ls', this.ch, this.cnt, this.mok⟩
  · rename_i e
    have := hfin _ rfl
    rw [if_neg e] at this
    refine ⟨Ls', this.ch, fun o => ?_, fun j hj => ?_⟩
    · have hs : w.has.set k (at0 w.has k) = w.has := by
        have := set_same (l := w.has) (i := (k : Int)) (by omega)
        simpa using this
      have h2 := this.cnt o
      rw [hs] at h2
      exact h2
    · have hs : w.has.set k (at0 w.has k) = w.has := by
        have := set_same (l := w.has) (i := (k : Int)) (by omega)
        simpa using this
      have h2 := this.mok j hj
      rw [hs] at h2
      exact h2
theorem one0 : One wd0 (fun i => if i = 0 then [1, 2, 3, 4, 5, 6, 7, 8] else []) := by
  refine ⟨fun i hi => ?_, fun o => ?_, fun k hk => ?_⟩
  · rcases hi with rfl | rfl
    · simp only [if_true]
      refine ⟨by decide, by decide, by decide, ?_⟩
      refine ⟨by decide, by decide, by decide, ?_⟩
      refine ⟨by decide, by decide, by decide, ?_⟩
      refine ⟨by decide, by decide, by decide, ?_⟩
      refine ⟨by decide, by decide, by decide, ?_⟩
      refine ⟨by decide, by decide, by decide, ?_⟩
      refine ⟨by decide, by decide, by decide, ?_⟩
      refine ⟨by decide, by decide, by decide, ?_⟩
      show at0 wd0.m (1 + 8) = 0
      decide
    · show nd (at0 wd0.m 1) = 0
      decide
  · have e1 := flt0
    rw [e1]
    simp only [if_true]
    unfold oneN
    by_cases h : 1 ≤ o ∧ o ≤ 8
    · rw [if_pos h]
      have : o = 1 ∨ o = 2 ∨ o = 3 ∨ o = 4 ∨ o = 5 ∨ o = 6 ∨ o = 7 ∨ o = 8 := by omega
      rcases this with rfl | rfl | rfl | rfl | rfl | rfl | rfl | rfl <;> decide
    · rw [if_neg h]
      have : ([1, 2, 3, 4, 5, 6, 7, 8] : List Int).count o = 0 := by
        rw [List.count_eq_zero]
        intro hm
        simp at hm
        omega
      rw [this]; rfl
  · intro ho
    have : mAt wd0.who k = ⟨0, 0, 0, 0, 0, 0, 0, 1⟩ := by
      match k, hk with
      | 0, _ => rfl
      | 1, _ => rfl
      | 2, _ => rfl
      | 3, _ => rfl
      | 4, _ => rfl
    rw [this] at ho
    simp at ho
theorem one_wN {l : List Int} (hl : ∀ n ∈ l, R8 n) {k : Nat} (hk : k ≤ 400) (hkl : k ≤ l.length) : ∃ Ls, One (wN l k) Ls := by
  induction k with
  | zero => exact ⟨_, one0⟩
  | succ k ih =>
    obtain ⟨Ls, h⟩ := ih (by omega) (by omega)
    exact one_world (hl _ (at0_mem (by simp; omega))) (wN_inv hl (by omega) (by omega)) (by omega) h
/-- all nodes, wherever they are -/
def nodesL (w : Wd) : List Int := (flt w.has ++ listL w.m 0 1 50) ++ listL w.m 1 1 50
theorem nodes_perm {w : Wd} {n : Nat} (h : Inv w n) {Ls : Int → List Int} (h1 : One w Ls) : (nodesL w).Perm [1, 2, 3, 4, 5, 6, 7, 8] := by
  have hp : ((flt w.has ++ Ls 0) ++ Ls 1).Perm [1, 2, 3, 4, 5, 6, 7, 8] := by
    rw [perm_count]
    intro o
    have g1 := h1.cnt o
    have g2 := one0.cnt o
    have e1 := flt0
    rw [e1] at g2
    simp only [if_true] at g2
    rw [List.count_append, List.count_append, g1, ← g2]
    simp
  have hlen := hp.length_eq
  simp at hlen
  have hll := h.ml
  have hL : ∀ i, (i = 0 ∨ i = 1) → listL w.m i 1 50 = Ls i := fun i hi => by
    have hlt : (Ls i).length ≤ 8 := by rcases hi with rfl | rfl <;> omega
    unfold listL
    rw [ld_at (by omega), goL_ch h.ml 1001 (Ls i) [] _ (h1.ch i hi) (by simp; omega) (by omega)]
    rfl
  unfold nodesL
  rw [hL 0 (.inl rfl), hL 1 (.inr rfl)]
  exact hp
end Go.Nx
