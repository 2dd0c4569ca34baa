/-
  SETS OF 64: what is in them.
-/
import Derived.Test.YtpmpkcjcjccboaaDoorYc
set_option linter.unusedVariables false
namespace Go.Nx
open Go.RowKit

theorem obj_t {o : Int} (h : 1 ≤ o) (h' : o ≤ 64) : obj o = true := decide_eq_true ⟨h, h'⟩
theorem obj_f {o : Int} (h : o < 1 ∨ 64 < o) : obj o = false := decide_eq_false (by omega)
theorem obj_iff {o : Int} : obj o = true ↔ 1 ≤ o ∧ o ≤ 64 := by simp [obj]
theorem bit_out {o : Int} (h : obj o = false) : bit o = 0 := by simp [bit, h]
theorem bit_in {o : Int} (h : obj o = true) : bit o = 1#64 <<< (o - 1).toNat := by simp [bit, h]
theorem bv1 : bv 1 = 1#64 := rfl
theorem shr_bit (b : B) (k : Nat) (hk : k < 64) : eqI (Int.tmod (iv (b >>> k)) 2) 1 = b.getLsbD k := by
  rw [eqI_def]
  have h0 := (R_iv (b >>> k)).1
  rw [Int.tmod_eq_emod_of_nonneg h0]
  unfold iv
  rw [Bool.eq_iff_iff, beq_iff_eq, BitVec.toNat_ushiftRight, BitVec.getLsbD, Nat.testBit, Nat.and_comm]
  simp only [bne_iff_ne, ne_eq, Nat.and_one_is_mod]
  omega
theorem first_get (n : Int) (i : Nat) (hi : i < 64) : (first n).getLsbD i = decide ((i : Int) < n) := by
  unfold first
  split
  · rename_i h
    rw [decide_eq_false (by omega)]; exact BitVec.getLsbD_zero
  · rename_i h
    rw [BitVec.getLsbD_ushiftRight, BitVec.getLsbD_allOnes]
    rw [Bool.eq_iff_iff]; simp only [decide_eq_true_eq]
    omega
theorem first_add (o : Int) (h : 1 ≤ o) (h' : o ≤ 64) : add (first (o - 1)) o = first o := by
  apply BitVec.eq_of_getLsbD_eq
  intro i hi
  rw [add, BitVec.getLsbD_or, first_get _ _ hi, first_get _ _ hi, bit_get, obj_t h h', Bool.true_and, ← Bool.decide_or]
  apply decide_eq_decide.2
  omega
theorem first_big (n : Int) (h : 64 ≤ n) : first n = first 64 := by
  unfold first
  rw [if_neg (by omega), if_neg (by omega)]
  congr 2
  omega
theorem first_small (n : Int) (h : n < 1) : first n = 0 := by unfold first; rw [if_pos h]
theorem has_and (a b : B) (o : Int) : has (a &&& b) o = (has a o && has b o) := by
  unfold has; rw [BitVec.getLsbD_and]; cases obj o <;> cases a.getLsbD (o - 1).toNat <;> cases b.getLsbD (o - 1).toNat <;> rfl
theorem has_or (a b : B) (o : Int) : has (a ||| b) o = (has a o || has b o) := by
  unfold has; rw [BitVec.getLsbD_or]; cases obj o <;> cases a.getLsbD (o - 1).toNat <;> cases b.getLsbD (o - 1).toNat <;> rfl
theorem has_not (a : B) (o : Int) : has (~~~ a) o = (obj o && !has a o) := by
  unfold has
  rw [BitVec.getLsbD_not]
  by_cases h : obj o = true
  · have := obj_iff.1 h
    rw [h, decide_eq_true (by omega)]; simp
  · simp only [Bool.not_eq_true] at h; simp [h]
theorem has_obj {s : B} {o : Int} (h : obj o = false) : has s o = false := by simp [has, h]
theorem has_zero (o : Int) : has 0 o = false := by simp [has]
theorem has_range {s : B} {i : Int} (h : has s i = true) : 1 ≤ i ∧ i ≤ 64 := by
  unfold has at h; rw [Bool.and_eq_true] at h; exact obj_iff.1 h.1
theorem has_add (s : B) (o p : Int) : has (add s o) p = (has s p || (obj o && decide (p = o))) := by
  unfold has add
  rw [BitVec.getLsbD_or, bit_get]
  by_cases hp : obj p = true
  · have h1 := of_decide_eq_true hp
    rw [hp, Bool.true_and, Bool.true_and]
    by_cases ho : obj o = true
    · have h2 := of_decide_eq_true ho
      rw [ho, Bool.true_and, Bool.true_and]
      congr 1
      apply decide_eq_decide.2; omega
    · simp only [Bool.not_eq_true] at ho; simp [ho]
  · simp only [Bool.not_eq_true] at hp
    rw [hp, Bool.false_and, Bool.false_and, Bool.false_or]
    by_cases e : p = o
    · subst e; simp [hp]
    · simp [e]
theorem has_first (n i : Int) : has (first n) i = (obj i && decide (i ≤ n)) := by
  unfold has
  by_cases h : obj i = true
  · have := obj_iff.1 h
    rw [first_get _ _ (by omega), h, Bool.true_and, Bool.true_and]
    apply decide_eq_decide.2; omega
  · simp only [Bool.not_eq_true] at h; simp [h]
/-- sets are the same, where the same are in them -/
theorem ext_has {a b : B} (h : ∀ o, 1 ≤ o → o ≤ 64 → has a o = has b o) : a = b := by
  apply BitVec.eq_of_getLsbD_eq
  intro i hi
  have := h (i + 1) (by omega) (by omega)
  unfold has at this
  rw [obj_t (by omega) (by omega), Bool.true_and, Bool.true_and] at this
  have e : ((i : Int) + 1 - 1).toNat = i := by omega
  rw [e] at this; exact this
theorem under_iff {a b : B} : under a b = true ↔ ∀ o, has a o = true → has b o = true := by
  unfold under
  rw [beq_iff_eq]
  constructor
  · intro h o ho
    rw [← h, has_and, Bool.and_eq_true] at ho
    exact ho.2
  · intro h
    apply ext_has
    intro o _ _
    rw [has_and]
    cases e : has a o with
    | false => rfl
    | true => rw [h o e]; rfl
/-- the objects of a list -/
def ofL (l : List Int) : B := l.foldl add 0
theorem has_foldl (l : List Int) : ∀ (s : B) (o : Int), has (l.foldl add s) o = (has s o || (obj o && decide (o ∈ l))) := by
  induction l with
  | nil => intro s o; simp
  | cons x l ih =>
    intro s o
    rw [List.foldl_cons, ih, has_add]
    by_cases e : o = x
    · subst e; cases has s o <;> cases obj o <;> simp
    · simp [e]
theorem has_ofL (l : List Int) (o : Int) : has (ofL l) o = (obj o && decide (o ∈ l)) := by
  unfold ofL; rw [has_foldl, has_zero, Bool.false_or]
theorem ofL_snoc (l : List Int) (x : Int) : ofL (l ++ [x]) = add (ofL l) x := by simp [ofL]
/-- a set's objects, from 1 on -/
def lsN (s : B) : Nat → List Int
  | 0 => []
  | k + 1 => if has s (k + 1) = true then lsN s k ++ [(k : Int) + 1] else lsN s k
def lsL (s : B) : List Int := lsN s 64
theorem mem_lsN (s : B) (o : Int) : ∀ k : Nat, o ∈ lsN s k ↔ has s o = true ∧ o ≤ k
  | 0 => by
    simp only [lsN, List.not_mem_nil, false_iff]
    intro ⟨h1, h2⟩; have := has_range h1; omega
  | k + 1 => by
    unfold lsN
    split
    · rename_i h
      rw [List.mem_append, mem_lsN s o k, List.mem_singleton]
      constructor
      · rintro (⟨h1, h2⟩ | rfl)
        · exact ⟨h1, by omega⟩
        · exact ⟨h, by omega⟩
      · rintro ⟨h1, h2⟩
        by_cases e : o = (k : Int) + 1
        · exact .inr e
        · exact .inl ⟨h1, by omega⟩
    · rename_i h
      rw [mem_lsN s o k]
      constructor
      · rintro ⟨h1, h2⟩; exact ⟨h1, by omega⟩
      · rintro ⟨h1, h2⟩
        refine ⟨h1, ?_⟩
        by_cases e : o = (k : Int) + 1
        · subst e; exact absurd h1 h
        · omega
theorem mem_lsL {s : B} {o : Int} : o ∈ lsL s ↔ has s o = true := by
  unfold lsL; rw [mem_lsN]
  constructor
  · exact fun h => h.1
  · exact fun h => ⟨h, (has_range h).2⟩
theorem lsN_len (s : B) : ∀ k, (lsN s k).length ≤ k
  | 0 => by simp [lsN]
  | k + 1 => by
    unfold lsN
    have := lsN_len s k
    split
    · simp; omega
    · omega
theorem lsL_len (s : B) : (lsL s).length ≤ 64 := lsN_len s 64
theorem lsN_sorted (s : B) : ∀ k, (lsN s k).Pairwise (· < ·)
  | 0 => by simp [lsN]
  | k + 1 => by
    unfold lsN
    split
    · rw [List.pairwise_append]
      refine ⟨lsN_sorted s k, by simp, fun a ha b hb => ?_⟩
      have := ((mem_lsN s a k).1 ha).2
      simp at hb; omega
    · exact lsN_sorted s k
theorem lsL_nodup (s : B) : (lsL s).Nodup := (lsN_sorted s 64).imp fun h => by omega
theorem ofL_lsL (s : B) : ofL (lsL s) = s := by
  apply ext_has
  intro o h1 h2
  rw [has_ofL, obj_t h1 h2, Bool.true_and, Bool.eq_iff_iff, decide_eq_true_eq, mem_lsL]
end Go.Nx
