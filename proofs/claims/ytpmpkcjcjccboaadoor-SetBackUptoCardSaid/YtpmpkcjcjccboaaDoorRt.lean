/-
  THE LOWEST OF A SET.
-/
import Derived.Test.YtpmpkcjcjccboaaDoorRs
set_option linter.unusedVariables false
namespace Go.Nx
open Go.RowKit

def LowAt (b : B) (k : Nat) : Prop := k < 64 ∧ b.getLsbD k = true ∧ ∀ j, j < k → b.getLsbD j = false
theorem low_ex {b : B} (h : b ≠ 0) : ∃ k, LowAt b k := by
  have h1 : ∃ k, b.getLsbD k = true := by
    refine Classical.byContradiction fun hn => h ?_
    apply BitVec.eq_of_getLsbD_eq
    intro i hi
    rw [show (0 : B).getLsbD i = false from BitVec.getLsbD_zero]
    cases e : b.getLsbD i with
    | false => rfl
    | true => exact absurd ⟨i, e⟩ hn
  obtain ⟨k, hk⟩ := h1
  obtain ⟨m, hm, hl⟩ := least_of (Q := fun k => b.getLsbD k = true) k hk
  refine ⟨m, ?_, hm, fun j hj => ?_⟩
  · rcases Nat.lt_or_ge m 64 with h | h
    · exact h
    · rw [BitVec.getLsbD_of_ge _ _ h] at hm; cases hm
  · cases e : b.getLsbD j with
    | false => rfl
    | true => have := hl j e; omega
theorem low_nat {b : B} {k : Nat} (h : LowAt b k) : ∃ m, b.toNat = 2 ^ k * (2 * m + 1) := by
  obtain ⟨hk, h1, h2⟩ := h
  have hd : b.toNat % 2 ^ k = 0 := by
    apply Nat.eq_of_testBit_eq
    intro i
    rw [Nat.testBit_mod_two_pow, Nat.zero_testBit]
    by_cases hi : i < k
    · have := h2 i hi
      unfold BitVec.getLsbD at this
      rw [this]; simp
    · simp [hi]
  have hq : b.toNat / 2 ^ k % 2 = 1 := by
    unfold BitVec.getLsbD at h1
    rw [Nat.testBit_eq_decide_div_mod_eq] at h1
    exact of_decide_eq_true h1
  refine ⟨b.toNat / 2 ^ k / 2, ?_⟩
  have e1 := Nat.div_add_mod b.toNat (2 ^ k)
  have e2 := Nat.div_add_mod (b.toNat / 2 ^ k) 2
  rw [hd] at e1
  rw [hq] at e2
  rw [e2]; omega
theorem pred_nat {b : B} {k m : Nat} (h : b.toNat = 2 ^ k * (2 * m + 1)) : (b - 1#64).toNat = 2 ^ k * (2 * m) + (2 ^ k - 1) := by
  have hp : 0 < 2 ^ k := Nat.pow_pos (by decide)
  have hb := b.isLt
  have e : (2 : Nat) ^ 64 = 18446744073709551616 := by decide
  rw [BitVec.toNat_sub]
  rw [Nat.mul_add, Nat.mul_one] at h
  have e1 : (1#64).toNat = 1 := rfl
  rw [e1]
  omega
theorem pred_get {b : B} {k : Nat} (h : LowAt b k) (i : Nat) (hi : i < 64) : (b - 1#64).getLsbD i = (decide (i < k) || (decide (k < i) && b.getLsbD i)) := by
  obtain ⟨m, hm⟩ := low_nat h
  have hp : 0 < 2 ^ k := Nat.pow_pos (by decide)
  unfold BitVec.getLsbD
  rw [pred_nat hm, hm]
  rw [Nat.testBit_two_pow_mul_add (2 * m) (by omega : 2 ^ k - 1 < 2 ^ k)]
  by_cases h1 : i < k
  · rw [if_pos h1, Nat.testBit_two_pow_sub_one]; simp [h1]
  · rw [if_neg h1, decide_eq_false h1, Bool.false_or, Nat.testBit_two_pow_mul]
    by_cases h2 : k < i
    · rw [decide_eq_true h2, Bool.true_and, decide_eq_true (by omega), Bool.true_and]
      obtain ⟨j, hj⟩ : ∃ j, i - k = j + 1 := ⟨i - k - 1, by omega⟩
      rw [hj, Nat.testBit_succ, Nat.testBit_succ]
      congr 1; omega
    · have : i - k = 0 := by omega
      rw [this, decide_eq_false h2, Bool.false_and, Nat.testBit_zero]
      simp
theorem low_and_neg {b : B} {k : Nat} (h : LowAt b k) : b &&& (0#64 - b) = 1#64 <<< k := by
  have e : (0#64 - b) = ~~~ (b - 1#64) := by
    apply BitVec.eq_of_toNat_eq
    have hb := b.isLt
    have e : (2 : Nat) ^ 64 = 18446744073709551616 := by decide
    obtain ⟨m, hm⟩ := low_nat h
    have hp : 0 < 2 ^ k := Nat.pow_pos (by decide)
    have hb1 : 1 ≤ b.toNat := by rw [hm, Nat.mul_add]; omega
    have e0 : (0#64).toNat = 0 := rfl
    have e1 : (1#64).toNat = 1 := rfl
    rw [BitVec.toNat_sub, BitVec.toNat_not, BitVec.toNat_sub, e0, e1]
    omega
  rw [e]
  apply BitVec.eq_of_getLsbD_eq
  intro i hi
  rw [BitVec.getLsbD_and, BitVec.getLsbD_not, pred_get h i hi, one_shl_get k i h.1, decide_eq_true hi, Bool.true_and]
  obtain ⟨hk, h1, h2⟩ := h
  by_cases c : i < k
  · rw [h2 i c]; simp; omega
  · by_cases c2 : i = k
    · subst c2; simp [h1]
    · have : k < i := by omega
      cases b.getLsbD i <;> simp [c, c2, this]
theorem low_del {b : B} {k : Nat} (h : LowAt b k) (i : Nat) (hi : i < 64) : (b &&& (b - 1#64)).getLsbD i = (decide (i ≠ k) && b.getLsbD i) := by
  rw [BitVec.getLsbD_and, pred_get h i hi]
  obtain ⟨hk, h1, h2⟩ := h
  by_cases c : i < k
  · rw [h2 i c]; simp
  · by_cases c2 : i = k
    · subst c2; simp
    · have : k < i := by omega
      cases b.getLsbD i <;> simp [c, c2, this]
/-- lists that rise, with the same in them -/
theorem rise_ext : ∀ {a b : List Int}, a.Pairwise (· < ·) → b.Pairwise (· < ·) → (∀ x, x ∈ a ↔ x ∈ b) → a = b
  | [], [], _, _, _ => rfl
  | [], y :: b, _, _, h => by have := (h y).2 (by simp); simp at this
  | x :: a, [], _, _, h => by have := (h x).1 (by simp); simp at this
  | x :: a, y :: b, ha, hb, h => by
    obtain ⟨ha1, ha2⟩ := List.pairwise_cons.1 ha
    obtain ⟨hb1, hb2⟩ := List.pairwise_cons.1 hb
    have e : x = y := by
      rcases List.mem_cons.1 ((h x).1 (by simp)) with e | e
      · exact e
      · rcases List.mem_cons.1 ((h y).2 (by simp)) with e2 | e2
        · exact e2.symm
        · have := hb1 x e; have := ha1 y e2; omega
    subst e
    rw [rise_ext ha2 hb2 fun z => ?_]
    constructor
    · intro hz
      rcases List.mem_cons.1 ((h z).1 (by simp [hz])) with e | e
      · subst e; have := ha1 z hz; omega
      · exact e
    · intro hz
      rcases List.mem_cons.1 ((h z).2 (by simp [hz])) with e | e
      · subst e; have := hb1 z hz; omega
      · exact e
theorem lsL_zero : lsL 0 = [] := by
  apply rise_ext (lsN_sorted 0 64) (by simp)
  intro x
  show x ∈ lsL 0 ↔ _
  rw [mem_lsL, has_zero]; simp
theorem lsL_low {b : B} {k : Nat} (h : LowAt b k) : lsL b = ((k : Int) + 1) :: lsL (b &&& (b - 1#64)) := by
  have hk := h.1
  have hm : ∀ o, has (b &&& (b - 1#64)) o = true ↔ has b o = true ∧ o ≠ (k : Int) + 1 := by
    intro o
    unfold has
    rw [Bool.and_eq_true, Bool.and_eq_true]
    constructor
    · rintro ⟨h1, h2⟩
      have ho := obj_iff.1 h1
      rw [low_del h _ (by omega), Bool.and_eq_true, decide_eq_true_eq] at h2
      exact ⟨⟨h1, h2.2⟩, fun e => h2.1 (by omega)⟩
    · rintro ⟨⟨h1, h2⟩, h3⟩
      have ho := obj_iff.1 h1
      refine ⟨h1, ?_⟩
      rw [low_del h _ (by omega), Bool.and_eq_true, decide_eq_true_eq]
      exact ⟨fun e => h3 (by omega), h2⟩
  have hge : ∀ o, has b o = true → (k : Int) + 1 ≤ o := by
    intro o ho
    have hr := has_range ho
    unfold has at ho
    rw [Bool.and_eq_true] at ho
    rcases Nat.lt_or_ge (o - 1).toNat k with c | c
    · rw [h.2.2 _ c] at ho; cases ho.2
    · omega
  apply rise_ext (lsN_sorted b 64)
  · rw [List.pairwise_cons]
    refine ⟨fun x hx => ?_, lsN_sorted _ 64⟩
    have := (hm x).1 (mem_lsL.1 hx)
    have := hge x this.1
    omega
  · intro x
    show x ∈ lsL b ↔ _
    rw [mem_lsL, List.mem_cons, mem_lsL, hm]
    constructor
    · intro hx
      by_cases e : x = (k : Int) + 1
      · exact .inl e
      · exact .inr ⟨hx, e⟩
    · rintro (rfl | ⟨hx, _⟩)
      · unfold has
        rw [obj_t (by omega) (by omega), Bool.true_and]
        have : ((k : Int) + 1 - 1).toNat = k := by omega
        rw [this]; exact h.2.1
      · exact hx
/-- how many zeros ahead -/
noncomputable def ctz (b : B) : Nat := if h : b = 0 then 64 else Classical.choose (low_ex h)
theorem ctz_low {b : B} (h : b ≠ 0) : LowAt b (ctz b) := by unfold ctz; rw [dif_neg h]; exact Classical.choose_spec (low_ex h)
end Go.Nx
