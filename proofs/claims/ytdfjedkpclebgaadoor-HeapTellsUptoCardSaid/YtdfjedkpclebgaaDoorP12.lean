/-
  A part of the machine, and of what is walked.
-/
import Derived.Test.YtdfjedkpclebgaaDoorP11
import Derived.Lib.Split
import Derived.Lib.AtoiAll
section
set_option linter.unusedVariables false
namespace Go.Nx
open Go.Lib

def spl (c : UInt8) : List UInt8 → List (List UInt8)
  | [] => [[]]
  | b :: l => if b = c then [] :: spl c l else (b :: (spl c l).headD []) :: (spl c l).tail
theorem spl_ne (c : UInt8) : ∀ l, spl c l ≠ []
  | [] => by simp [spl]
  | b :: l => by unfold spl; split <;> simp
theorem spl_head_tail (c : UInt8) (l : List UInt8) : (spl c l).headD [] :: (spl c l).tail = spl c l := by
  cases h : spl c l with
  | nil => exact absurd h (spl_ne c l)
  | cons x r => rfl
theorem ix_ne {b c : UInt8} (l : List UInt8) (h : b ≠ c) : index (b :: l) [c] = if index l [c] == -1 then -1 else index l [c] + 1 := by
  rw [index, show ([c] : List UInt8).isPrefixOf (b :: l) = false by simp [List.isPrefixOf, Ne.symm h]]; simp
theorem ix_eq (c : UInt8) (l : List UInt8) : index (c :: l) [c] = ((0 : Nat) : Int) := by rw [index]; simp [List.isPrefixOf]
theorem splitK_miss {sep : List UInt8} {k : Nat} {s : List UInt8} (h : index s sep = -1) : splitK sep 0 k s = [s] := by
  cases k with
  | zero => rfl
  | succ k => unfold splitK; rw [if_pos (beq_iff_eq.2 h)]
theorem splitK_hit {sep : List UInt8} {k : Nat} {s : List UInt8} {i : Nat} (h : index s sep = i) : splitK sep 0 (k + 1) s = s.take i :: splitK sep 0 k (s.drop (i + sep.length)) := by
  have hm : ¬ (index s sep == -1) = true := fun e => by have := beq_iff_eq.1 e; omega
  have e : (index s sep).toNat = i := by omega
  rw [splitK, if_neg hm, e, Nat.add_zero]
theorem splitK_spl (c : UInt8) : ∀ l : List UInt8, splitK [c] 0 (l.count c) l = spl c l
  | [] => rfl
  | b :: l => by
    have ih := splitK_spl c l
    by_cases h : b = c
    · subst h
      rw [List.count_cons_self, splitK_hit (ix_eq b l), spl, if_pos rfl]
      simp [ih]
    · rw [List.count_cons_of_ne (by simpa using h), spl, if_neg h, ← ih]
      by_cases hm : index l [c] = -1
      · rw [splitK_miss hm, splitK_miss (by rw [ix_ne l h, if_pos (beq_iff_eq.2 hm)])]
        rfl
      · have hge := index_ge l [c]
        obtain ⟨j, hj⟩ : ∃ j : Nat, index l [c] = j := ⟨(index l [c]).toNat, by omega⟩
        have hix : index (b :: l) [c] = ((j + 1 : Nat) : Int) := by rw [ix_ne l h, if_neg (fun e => hm (beq_iff_eq.1 e)), hj]; omega
        cases hk : l.count c with
        | zero => rfl
        | succ k =>
          rw [splitK_hit hj, splitK_hit hix, List.take_succ_cons]
          simp only [List.headD_cons, List.tail_cons, List.length_singleton, List.drop_succ_cons]
theorem spl_len (c : UInt8) : ∀ l : List UInt8, (spl c l).length = l.count c + 1
  | [] => rfl
  | b :: l => by
    have ih := spl_len c l
    by_cases h : b = c
    · subst h; rw [spl, if_pos rfl, List.count_cons_self, List.length_cons, ih]
    · rw [spl, if_neg h, List.count_cons_of_ne (by simpa using h), List.length_cons, List.length_tail, ih]; omega
def jn (c : UInt8) : List (List UInt8) → List UInt8
  | [] => []
  | [x] => x
  | x :: y :: r => x ++ c :: jn c (y :: r)
theorem jn_cons (c : UInt8) (x : List UInt8) {r : List (List UInt8)} (h : r ≠ []) : jn c (x :: r) = x ++ c :: jn c r := by
  cases r with
  | nil => exact absurd rfl h
  | cons y r => rfl
theorem spl_no {c : UInt8} : ∀ {x : List UInt8}, c ∉ x → spl c x = [x]
  | [], _ => rfl
  | b :: l, h => by
    have hb : b ≠ c := fun e => h (by simp [e])
    rw [spl, if_neg hb, spl_no (x := l) (fun e => h (by simp [e]))]; rfl
theorem spl_app {c : UInt8} (l : List UInt8) : ∀ {x : List UInt8}, c ∉ x → spl c (x ++ c :: l) = x :: spl c l
  | [], _ => by rw [List.nil_append, spl, if_pos rfl]
  | b :: x, h => by
    have hb : b ≠ c := fun e => h (by simp [e])
    rw [List.cons_append, spl, if_neg hb, spl_app (x := x) l (fun e => h (by simp [e]))]; rfl
theorem spl_jn {c : UInt8} : ∀ {ps : List (List UInt8)}, ps ≠ [] → (∀ p ∈ ps, c ∉ p) → spl c (jn c ps) = ps
  | [], h, _ => absurd rfl h
  | [x], _, h => spl_no (h x (by simp))
  | x :: y :: r, _, h => by
    rw [jn_cons c x (by simp), spl_app _ (h x (by simp)), spl_jn (ps := y :: r) (by simp) fun p hp => h p (by simp [hp])]
theorem jn_spl (c : UInt8) : ∀ l : List UInt8, jn c (spl c l) = l
  | [] => rfl
  | b :: l => by
    have ih := jn_spl c l
    by_cases h : b = c
    · subst h; rw [spl, if_pos rfl, jn_cons _ _ (spl_ne _ _), ih, List.nil_append]
    · rw [spl, if_neg h]
      cases hs : spl c l with
      | nil => exact absurd hs (spl_ne c l)
      | cons x r =>
        rw [hs] at ih
        cases r with
        | nil => simp only [jn, List.headD_cons, List.tail_cons] at ih ⊢; rw [ih]
        | cons y r => rw [← ih]; rfl
theorem spl_mem {c : UInt8} : ∀ {l p : List UInt8}, p ∈ spl c l → c ∉ p
  | [], p, h => by simp [spl] at h; subst h; simp
  | b :: l, p, h => by
    by_cases hb : b = c
    · rw [spl, if_pos hb] at h
      rcases List.mem_cons.1 h with rfl | h
      · simp
      · exact spl_mem (l := l) h
    · rw [spl, if_neg hb] at h
      rcases List.mem_cons.1 h with rfl | h
      · intro hc
        rcases List.mem_cons.1 hc with e | hc
        · exact hb e.symm
        · refine spl_mem (l := l) (p := (spl c l).headD []) ?_ hc
          rw [← spl_head_tail c l]; simp
      · exact spl_mem (l := l) (List.mem_of_mem_tail h)
theorem jn_len (c : UInt8) : ∀ ps : List (List UInt8), (jn c ps).length = (ps.map List.length).sum + (ps.length - 1)
  | [] => rfl
  | [x] => by simp [jn]
  | x :: y :: r => by
    rw [jn_cons c x (by simp), List.length_append, List.length_cons, jn_len c (y :: r)]
    simp
    omega
theorem jn_eq (c : UInt8) : ∀ ps : List (List UInt8), jn c ps = List.intercalate [c] ps
  | [] => rfl
  | [x] => by simp [jn, List.intercalate]
  | x :: y :: r => by
    rw [jn_cons c x (by simp), jn_eq c (y :: r)]
    simp [List.intercalate, List.intersperse]
def atoiN (l : List UInt8) : Int := match atoiAll l with
  | .ok v => v
  | .range => atoiSat l
  | _ => 0
end Go.Nx
end
