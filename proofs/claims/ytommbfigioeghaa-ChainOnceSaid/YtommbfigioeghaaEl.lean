/-
  CHAIN PURE.
-/
import Derived.Test.YtommbfigioeghaaEj
set_option linter.unusedVariables false
set_option linter.unusedSimpArgs false
set_option maxRecDepth 20000
set_option maxHeartbeats 4000000
namespace Go.Nx
open Go.RowKit Go.Proofs

def cntN (a b : List Int) : Nat → Int
  | 0 => 0
  | k + 1 => cntN a b k + if at0 a k ≠ at0 b k then 1 else 0
theorem cnt_same (a : List Int) (k : Nat) : cntN a a k = 0 := by
  induction k with
  | zero => rfl
  | succ k ih => simp [cntN, ih]
theorem at0_set (l : List Int) (i : Nat) (v : Int) (k : Nat) : at0 (l.set i v) k = if i = k ∧ k < l.length then v else at0 l k := by
  unfold at0
  rw [List.getElem?_set]
  simp only [Int.toNat_natCast]
  by_cases h : i = k
  · subst h
    by_cases h2 : i < l.length
    · simp [h2]
    · simp [h2]
  · simp [h]
theorem cnt_set (l : List Int) (i : Nat) (v : Int) (k : Nat) : cntN (l.set i v) l k = if i < k ∧ i < l.length ∧ v ≠ at0 l i then 1 else 0 := by
  induction k with
  | zero => simp [cntN]
  | succ k ih =>
    rw [cntN, ih, at0_set]
    by_cases h : i = k
    · subst h
      by_cases h2 : i < l.length
      · by_cases h3 : v = at0 l i <;> simp [h2, h3]
      · simp [h2]
    · simp only [h, false_and, if_false, ne_eq, not_true_eq_false]
      by_cases h4 : i < k
      · have : i < k + 1 := by omega
        simp [h4, this]
      · have : ¬ i < k + 1 := by omega
        simp [h4, this]
theorem cnt_do (l : List Int) (kd i a b : Int) (k : Nat) : 0 ≤ cntN (doL l kd i a b) l k ∧ cntN (doL l kd i a b) l k ≤ 1 := by
  unfold doL
  repeat' split
  all_goals first
    | (rw [cnt_same]; omega)
    | (rw [cnt_set]; split <;> omega)
theorem cnt_step (l : List Int) (c : Mach) (k : Nat) : 0 ≤ cntN (stepL l c) l k ∧ cntN (stepL l c) l k ≤ 1 := by
  unfold stepL
  repeat' split
  all_goals first
    | (rw [cnt_same]; omega)
    | exact cnt_do _ _ _ _ _ _
theorem stepL_no {l : List Int} {c : Mach} (h : c.out ≠ 0) : stepL l c = l := by
  have : ¬ act c := fun h' => h h'.1
  rw [stepL, if_neg this]
theorem stepC_no {l : List Int} {c : Mach} (h : c.out ≠ 0) : stepC l c = c := by
  have : ¬ act c := fun h' => h h'.1
  rw [stepC, if_neg this]
theorem stepC_keep (l : List Int) (c : Mach) : (stepC l c).kind = c.kind ∧ (stepC l c).head = c.head ∧ (stepC l c).next = c.next := by
  unfold stepC
  repeat' split
  all_goals simp
end Go.Nx
