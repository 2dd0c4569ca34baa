/-
  BAGS: plainly.
-/
import Derived.Test.YtommbfigioeghaaYh
set_option linter.unusedVariables false
namespace Go.Nx
open Go.RowKit

theorem srt_perm (l : List Int) : (srt l).Perm l := List.mergeSort_perm _ _
theorem srt_sorted (l : List Int) : (srt l).Pairwise (· ≤ ·) := by
  have h := List.pairwise_mergeSort (le := fun x y : Int => decide (x ≤ y)) (fun a b c h1 h2 => by simp at *; omega) (fun a b => by simp; omega) l
  exact h.imp fun h => by simpa using h
/-- what rises, and has the same, is the same -/
theorem sorted_perm : ∀ {a b : List Int}, a.Pairwise (· ≤ ·) → b.Pairwise (· ≤ ·) → a.Perm b → a = b
  | [], b, _, _, h => (List.Perm.nil_eq h).symm ▸ rfl
  | x :: a, [], _, _, h => by have := h.length_eq; simp at this
  | x :: a, y :: b, ha, hb, h => by
    obtain ⟨ha1, ha2⟩ := List.pairwise_cons.1 ha
    obtain ⟨hb1, hb2⟩ := List.pairwise_cons.1 hb
    have hx : x = y := by
      have h1 : x ∈ y :: b := h.mem_iff.1 (by simp)
      have h2 : y ∈ x :: a := h.mem_iff.2 (by simp)
      rcases List.mem_cons.1 h1 with e | e
      · exact e
      · rcases List.mem_cons.1 h2 with e2 | e2
        · exact e2.symm
        · have := hb1 x e; have := ha1 y e2; omega
    subst hx
    rw [sorted_perm ha2 hb2 (List.Perm.cons_inv h)]
theorem srt_eq {a b : List Int} : srt a = srt b ↔ a.Perm b := by
  constructor
  · intro h
    exact ((srt_perm a).symm.trans (h ▸ List.Perm.refl _)).trans (srt_perm b)
  · intro h
    exact sorted_perm (srt_sorted a) (srt_sorted b) (((srt_perm a).trans h).trans (srt_perm b).symm)
theorem srt_of_sorted {l : List Int} (h : l.Pairwise (· ≤ ·)) : srt l = l := sorted_perm (srt_sorted l) h (srt_perm l)
theorem srt_srt (l : List Int) : srt (srt l) = srt l := srt_of_sorted (srt_sorted l)
theorem srt_count (l : List Int) (o : Int) : (srt l).count o = l.count o := (srt_perm l).count_eq o
theorem perm_count {a b : List Int} : a.Perm b ↔ ∀ o, a.count o = b.count o := List.perm_iff_count
theorem srt_mem {l : List Int} {x : Int} : x ∈ srt l ↔ x ∈ l := (srt_perm l).mem_iff
theorem srt_eq_count {a b : List Int} : srt a = srt b ↔ ∀ o, a.count o = b.count o := srt_eq.trans perm_count
/-- without so many of one -/
def delN (o : Int) : Nat → List Int → List Int
  | _, [] => []
  | 0, l => l
  | n + 1, x :: l => if x = o then delN o n l else x :: delN o (n + 1) l
theorem delN_zero (o : Int) (l : List Int) : delN o 0 l = l := by cases l <;> rfl
theorem delN_count (o p : Int) : ∀ (n : Nat) (l : List Int), (delN o n l).count p = if p = o then l.count p - n else l.count p
  | n, [] => by cases n <;> simp [delN]
  | 0, x :: l => by simp [delN]
  | n + 1, x :: l => by
    unfold delN
    by_cases hx : x = o
    · rw [if_pos hx, delN_count o p n l]
      by_cases hp : p = o
      · subst hp; subst hx; simp
      · have : x ≠ p := fun e => hp (by rw [← e, hx])
        simp [hp, this]
    · rw [if_neg hx, List.count_cons, delN_count o p (n + 1) l, List.count_cons]
      by_cases hp : p = o
      · subst hp
        have : ¬ (x == p) = true := by simpa using hx
        simp [this]
      · simp [hp]
theorem delN_len (o : Int) : ∀ (n : Nat) (l : List Int), (delN o n l).length = l.length - min n (l.count o)
  | n, [] => by cases n <;> simp [delN]
  | 0, x :: l => by simp [delN]
  | n + 1, x :: l => by
    unfold delN
    by_cases hx : x = o
    · rw [if_pos hx, delN_len o n l]
      subst hx
      have := List.count_le_length (a := x) (l := l)
      simp <;> omega
    · rw [if_neg hx, List.length_cons, delN_len o (n + 1) l, List.count_cons]
      have h1 : ¬ (x == o) = true := by simpa using hx
      have := List.count_le_length (a := o) (l := l)
      simp [h1]; omega
/-- a number more often, or less often -/
def addB (b : List Int) (o n : Int) : List Int := if 0 ≤ n then srt (b ++ List.replicate (min n 1000).toNat o) else srt (delN o (-n).toNat b)
theorem addB_count (b : List Int) (o n p : Int) : (addB b o n).count p = if p = o then (if 0 ≤ n then b.count o + (min n 1000).toNat else b.count o - (-n).toNat) else b.count p := by
  unfold addB
  split
  · rw [srt_count, List.count_append, List.count_replicate]
    by_cases hp : p = o
    · subst hp; simp
    · have : ¬ (o == p) = true := by simpa using fun e => hp e.symm
      simp [hp, this]
  · rw [srt_count, delN_count]
    by_cases hp : p = o
    · subst hp; simp
    · simp [hp]
/-! ### for the walks -/
def SzB (xs : List T) : Prop := xs.length * 8 ≤ maxBytes
theorem is_nil_iff {l : List Int} : is l = [] ↔ l = [] := by simp [is]
theorem sz_lenB {l : List Int} (h : SzB (is l)) : l.length ≤ 17592186044416 := by unfold SzB maxBytes at h; rw [is_len] at h; omega
def eqNs (a b : List Int) : Bool := decide (a = b)
theorem take_nextB {l r : List Int} {k : Nat} (h : l.take k = r.take k) (hl : k < l.length) (hr : k < r.length) (e : at0 l k = at0 r k) : l.take (k + 1) = r.take (k + 1) := by
  rw [List.take_add_one, List.take_add_one, h]
  congr 1
  simp [at0, hl, hr] at e
  simp [hl, hr, e]
theorem eqNs_no {l r : List Int} {k : Nat} (hl : k < l.length) (hr : k < r.length) (e : at0 l k ≠ at0 r k) : eqNs l r = false := by
  unfold eqNs
  rw [decide_eq_false_iff_not]
  intro h; subst h; exact e rfl
theorem eqNs_self (l : List Int) : eqNs l l = true := by simp [eqNs]
theorem env_ptB {P : Program} {gl : Nat → Option (List T)} {l : List (Nat × (List T → Ans))} {il : List (Nat × Pt)} {n : Nat} {g : Pt} (h : EnvOk P (En gl l il)) (hg : ∀ base args own R, g base args own R → FnV P gl n args own R) : EnvOk P (En gl l ((n, g) :: il)) := by
  refine ⟨h.fn, h.gl, h.pk, fun f base args own R hi hR => ?_⟩
  have hR' : ptL ((n, g) :: il) f base args own R := hR
  have hi' : isL ((n, g) :: il) f = true := hi
  simp only [ptL] at hR'
  simp only [isL] at hi'
  cases e : Nat.beq n f with
  | true =>
    rw [e] at hR'
    rw [← Nat.eq_of_beq_eq_true e]
    exact hg base args own R hR'
  | false =>
    rw [e] at hR' hi'
    exact h.pt f base args own R hi' hR'
theorem srt_I {l : List Int} (h : ∀ n ∈ l, I64 n) : ∀ n ∈ srt l, I64 n := fun n hn => h n (srt_mem.1 hn)
theorem isI_srt {l : List Int} (h : ∀ n ∈ l, I64 n) : IsI (is (srt l)) := ⟨_, rfl, srt_I h⟩
theorem sz_srt {l : List Int} (h : SzB (is l)) : SzB (is (srt l)) := by unfold SzB at h ⊢; rw [is_len] at h ⊢; rw [srt_len]; exact h
/-- sorting, step by step -/
def insB (x : Int) : List Int → List Int
  | [] => [x]
  | y :: r => match decide (x ≤ y) with
    | true => x :: y :: r
    | false => y :: insB x r
def isrt : List Int → List Int
  | [] => []
  | x :: r => insB x (isrt r)
theorem insB_perm (x : Int) : ∀ l : List Int, (insB x l).Perm (x :: l)
  | [] => List.Perm.refl _
  | y :: r => by
    unfold insB
    split
    · exact List.Perm.refl _
    · exact ((insB_perm x r).cons y).trans (List.Perm.swap x y r)
theorem insB_sorted (x : Int) : ∀ l : List Int, l.Pairwise (· ≤ ·) → (insB x l).Pairwise (· ≤ ·)
  | [], _ => by simp [insB]
  | y :: r, h => by
    unfold insB
    split
    · rename_i e
      have e := of_decide_eq_true e
      obtain ⟨h1, h2⟩ := List.pairwise_cons.1 h
      refine List.pairwise_cons.2 ⟨fun z hz => ?_, h⟩
      rcases List.mem_cons.1 hz with rfl | hz
      · exact e
      · have := h1 z hz; omega
    · rename_i e
      have e := of_decide_eq_false e
      obtain ⟨h1, h2⟩ := List.pairwise_cons.1 h
      refine List.pairwise_cons.2 ⟨fun z hz => ?_, insB_sorted x r h2⟩
      rcases List.mem_cons.1 ((insB_perm x r).mem_iff.1 hz) with rfl | hz
      · omega
      · exact h1 z hz
theorem isrt_perm : ∀ l : List Int, (isrt l).Perm l
  | [] => List.Perm.refl _
  | x :: r => (insB_perm x _).trans ((isrt_perm r).cons x)
theorem isrt_sorted : ∀ l : List Int, (isrt l).Pairwise (· ≤ ·)
  | [] => List.Pairwise.nil
  | x :: r => insB_sorted x _ (isrt_sorted r)
theorem srt_isrt (l : List Int) : srt l = isrt l := sorted_perm (srt_sorted l) (isrt_sorted l) ((srt_perm l).trans (isrt_perm l).symm)
end Go.Nx
