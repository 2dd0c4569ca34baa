/-
  SETS: WHAT IS ADDED AND TAKEN OUT: plainly.
-/
import Derived.Test.YtpmpkcjcjccboaaDoorSb
set_option linter.unusedVariables false
namespace Go.Nx
open Go.RowKit

theorem has_bit' (a : Int) (o : Int) : has (bit a) o = (obj a && decide (o = a)) := by
  have h := has_add 0 a o
  have e : add 0 a = bit a := by unfold add; simp
  rw [e, has_zero, Bool.false_or] at h
  exact h
theorem has_del (s : B) (o p : Int) : has (del s o) p = (has s p && !(obj o && decide (p = o))) := by
  unfold del
  rw [has_and, has_not, has_bit']
  cases h : obj p
  · rw [has_obj h]; rfl
  · simp
theorem del_add (b : B) (a : Int) : del (add b a) a = del b a := ext_has fun o h1 h2 => by
  rw [has_del, has_del, has_add]
  by_cases h : o = a
  · subst h; cases obj o <;> simp
  · simp [h]
theorem add_del (b : B) (a : Int) : add (del b a) a = add b a := ext_has fun o h1 h2 => by
  rw [has_add, has_add, has_del]
  by_cases h : o = a
  · subst h; cases obj o <;> simp
  · simp [h]
theorem has_add_self {b : B} {a : Int} (h : 1 ≤ a ∧ a ≤ 64) : has (add b a) a = true := by
  rw [has_add, obj_iff.2 h]; simp
theorem has_del_self {b : B} {a : Int} (h : 1 ≤ a ∧ a ≤ 64) : has (del b a) a = false := by
  rw [has_del, obj_iff.2 h]; simp
theorem has_add_ne {b : B} {a p : Int} (h : a ≠ p) : has (add b a) p = has b p := by
  rw [has_add]; simp [Ne.symm h]
theorem has_del_ne {b : B} {a p : Int} (h : a ≠ p) : has (del b a) p = has b p := by
  rw [has_del]; simp [Ne.symm h]
theorem ls_perm {s t : B} {a : Int} (ha : has s a = true) (hn : has t a = false) (h : ∀ p, p ≠ a → has s p = has t p) : (lsL s).length = (lsL t).length + 1 := by
  have hp : (lsL s).Perm (a :: lsL t) := (List.perm_ext_iff_of_nodup (lsL_nodup s) (List.nodup_cons.2 ⟨fun hm => (by rw [mem_lsL, hn] at hm; cases hm), lsL_nodup t⟩)).2 fun p => by
    rw [List.mem_cons, mem_lsL, mem_lsL]
    by_cases e : p = a
    · subst e; simp [ha]
    · simp [e, h p e]
  simpa using hp.length_eq
theorem ls_add_del {b : B} {a : Int} (h : 1 ≤ a ∧ a ≤ 64) : (lsL (add b a)).length = (lsL (del b a)).length + 1 :=
  ls_perm (has_add_self h) (has_del_self h) fun p hp => by rw [has_add_ne (Ne.symm hp), has_del_ne (Ne.symm hp)]
theorem add_or_del (b : B) {a : Int} (h : 1 ≤ a ∧ a ≤ 64) : b = add b a ∨ b = del b a := by
  cases e : has b a
  · refine .inr (ext_has fun o h1 h2 => ?_)
    rw [has_del]
    by_cases e2 : o = a
    · subst e2; simp [e]
    · simp [e2]
  · refine .inl (ext_has fun o h1 h2 => ?_)
    rw [has_add]
    by_cases e2 : o = a
    · subst e2; simp [e]
    · simp [e2]
end Go.Nx
