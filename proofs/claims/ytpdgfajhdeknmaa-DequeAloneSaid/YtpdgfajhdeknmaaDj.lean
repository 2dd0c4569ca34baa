/-
  ALONE A DEQUE IS A LIST: its items.
-/
import Derived.Test.YtpdgfajhdeknmaaDi
import Derived.Test.YtpdgfajhdeknmaaDh
set_option linter.unusedVariables false
set_option linter.unusedSimpArgs false
set_option maxRecDepth 20000
set_option maxHeartbeats 4000000
namespace Go.Nx
open Go.RowKit Go.Proofs

theorem items_eq {n t b : Int} {m st : List Int} {k : Nat} (h : DOk n m st t b k) : itemsL m 0 n = st := by
  obtain ⟨h1, h2, h3, h4, h5, h6⟩ := h.base
  have htb := h.tb
  have hn := h.hn
  have hl := h.l
  have hk := h.hk
  have h2' : ldV m (wi (0 + 1)) = b := h2
  unfold itemsL
  rw [h1, h2']
  have hw : wu (b - t) = b - t := wui (by omega)
  have hwi : wi (b - t) = b - t := wii (by omega)
  have key : ∀ j : Nat, j ≤ st.length → itN m 0 n t j = st.take j := by
    intro j
    induction j with
    | zero => intro _; rfl
    | succ j ih =>
      intro hj
      have hlt : j < st.length := by omega
      have ha := h.ix _ (at0_mem (l := st) (i := (j : Int)) (by simpa))
      have hp := pl_id hn (i := t + j) (by omega)
      have hm0 := Int.emod_nonneg (t + j) (show n ≠ 0 by omega)
      have hm1 := Int.emod_lt_of_pos (t + j) (show 0 < n by omega)
      have hwt : wu (t + j) = t + j := wui (by omega)
      rw [itN, ih (by omega), hwt, hp, ld_in (by omega), h.el j hlt, wii (by omega), List.take_add_one]
      simp [at0, hlt]
  unfold noItems
  rw [hw, hwi, sz_id hn]
  have hmn : minI n 64 = n := by rw [minI_def]; split <;> omega
  rw [hmn]
  cases hst : st with
  | nil =>
    rw [hst] at htb
    simp only [List.length_nil] at htb
    have : ltI 0 (b - t) = false := lt_f.2 (by omega)
    rw [this]; rfl
  | cons a r =>
    have hlen : st.length = r.length + 1 := by rw [hst]; rfl
    have e1 : ltI 0 (b - t) = true := lt_t.2 (by omega)
    have e2 : ltI n (b - t) = false := lt_f.2 (by omega)
    rw [e1, e2, ← hst]
    have e3 : (b - t).toNat = st.length := by omega
    rw [e3]
    simp only [Bool.not_true, Bool.or_self, Bool.false_eq_true, if_false]
    rw [key _ (Nat.le_refl _), List.take_length]
theorem cells_ok {n : Int} (hn : 1 ≤ n ∧ n ≤ 5) : DOk n (cellsL n) [] 1 1 0 := by
  rcases (by omega : n = 1 ∨ n = 2 ∨ n = 3 ∨ n = 4 ∨ n = 5) with e | e | e | e | e <;> subst e
  all_goals
    refine ⟨by omega, ?_, ?_, ?_, ?_, by simp, fun i hi => by simp at hi, (fun a ha => by cases ha), by omega⟩
    all_goals simp [cellsL, nCells, minI_def, maxI_def, at0, R64, List.replicate]
end Go.Nx
