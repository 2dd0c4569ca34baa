/-
  TINT RIGHT.
-/
import Derived.Test.YtbcldnaoecnffaaDoorNk
set_option linter.unusedVariables false
set_option linter.unusedSimpArgs false
set_option maxRecDepth 40000
namespace Go.Mx
open Go.RowKit Go.Proofs

def fit (m b : B) (k i : Int) : Bool := (!has m i || leI i k) && (!has b i || has m i)
def fitsN (m b : B) (k : Int) : Nat → Bool
  | 0 => true
  | j + 1 => fitsN m b k j && fit m b k ((j : Int) + 1)
theorem fitsN_spec (m b : B) (k : Int) : ∀ j, fitsN m b k j = true ↔ ∀ i : Int, 1 ≤ i → i ≤ j → fit m b k i = true := by
  intro j
  induction j with
  | zero => simp only [fitsN, true_iff]; intro i h1 h2; omega
  | succ j ih =>
    rw [fitsN, Bool.and_eq_true, ih]
    constructor
    · intro ⟨h1, h2⟩ i h3 h4
      by_cases e : i = (j : Int) + 1
      · subst e; exact h2
      · exact h1 i h3 (by omega)
    · intro h
      exact ⟨fun i h1 h2 => h i h1 (by omega), h _ (by omega) (by omega)⟩
theorem has_first (n i : Int) : has (first n) i = (obj i && decide (i ≤ n)) := by
  unfold has
  cases h : obj i
  · rfl
  · have h' := of_decide_eq_true h
    rw [first_get _ _ (by omega), Bool.true_and, Bool.true_and]
    apply decide_eq_decide.2; omega
theorem under_iff (a b : B) : under a b = true ↔ ∀ i : Int, has a i = true → has b i = true := by
  rw [under, beq_iff_eq]
  constructor
  · intro h i hi
    rw [← h, has_and, Bool.and_eq_true] at hi; exact hi.2
  · intro h
    apply BitVec.eq_of_getLsbD_eq
    intro j hj
    rw [BitVec.getLsbD_and]
    cases e : a.getLsbD j
    · rfl
    · have ho : obj ((j : Int) + 1) = true := obj_t (by omega) (by omega)
      have hk : ((j : Int) + 1 - 1).toNat = j := by omega
      have h1 : has a ((j : Int) + 1) = true := by rw [has, ho, hk, e]; rfl
      have h2 := h _ h1
      rw [has, ho, hk] at h2
      simpa using h2
theorem has_range {s : B} {i : Int} (h : has s i = true) : 1 ≤ i ∧ i ≤ 64 := by
  rw [has, Bool.and_eq_true] at h; exact of_decide_eq_true h.1
theorem right_fits (m b : B) (k : Int) : rightB m b k = fitsN m b k 64 := by
  rw [Bool.eq_iff_iff, fitsN_spec, rightB, Bool.and_eq_true, under_iff, under_iff]
  constructor
  · intro ⟨h1, h2⟩ i h3 h4
    rw [fit, Bool.and_eq_true]
    constructor
    · cases e : has m i
      · rfl
      · have := h2 i e
        rw [has_first, Bool.and_eq_true] at this
        simpa [le_t] using this.2
    · cases e : has b i
      · rfl
      · simp [h1 i e]
  · intro h
    refine ⟨fun i hi => ?_, fun i hi => ?_⟩
    · have hr := has_range hi
      have := h i hr.1 hr.2
      rw [fit, Bool.and_eq_true, hi] at this
      simpa using this.2
    · have hr := has_range hi
      have := h i hr.1 hr.2
      rw [fit, Bool.and_eq_true, hi] at this
      have h3 := this.1
      simp [le_t] at h3
      rw [has_first, obj_t hr.1 hr.2]; simpa using h3
theorem right_more {m b : B} {k : Int} (h : rightB m b k = true) : rightB m b (k + 1) = true := by
  rw [rightB, Bool.and_eq_true, under_iff, under_iff] at h ⊢
  refine ⟨h.1, fun i hi => ?_⟩
  have := h.2 i hi
  rw [has_first, Bool.and_eq_true] at this ⊢
  exact ⟨this.1, by have := of_decide_eq_true this.2; exact decide_eq_true (by omega)⟩
def c7 : List T → Ans
  | [.agg [.int .u64 m, .int .u64 b], .int .u8 n] => .req ((R64 m ∧ R64 b) ∧ 0 ≤ n ∧ n ≤ 255) (.bool true)
  | _ => .no
theorem ok7 (m b n : Int) (hq : (R64 m ∧ R64 b) ∧ 0 ≤ n ∧ n ≤ 255) : FnOk Tryd.prog tgl 7 [.agg [.int .u64 m, .int .u64 b], .int .u8 n] (.bool true) := by
  refine fn_ok (Γ := eA) envA Tryd.func7 low7 ?_
  obtain ⟨⟨h1, h2⟩, hn0, hn1⟩ := hq
  obtain ⟨m, rfl⟩ := exists_iv h1
  obtain ⟨b, rfl⟩ := exists_iv h2
  have ht : n.tmod 70 = n % 70 := Int.tmod_eq_emod_of_nonneg hn0
  have hw : IntKind.i64.wrap (n.tmod 70) = n.tmod 70 := wrap_i64 ⟨by omega, by omega⟩
  conv => whnf
  repeat' (first
    | (refine reqK_of ?_ ?_; rotate_left; (conv => whnf); rotate_left)
    | (refine brK_true ?_ ?_; (focus (simp only [Bool.not_true]; done)); conv => whnf)
    | (refine brK_false ?_ ?_; (focus (simp only [Bool.not_true]; done)); conv => whnf))
  · decide
  refine loopAt [15, 16, 17, 18, 19, 20, 21, 22, 23, 24, 25, 26, 27, 28, 29, 30, 31, 32, 33, 34, 35, 36, 37, 38, 39, 40, 41, 42, 43, 44] [] (fun j : Nat => ⟨[.t (.agg [.int .u64 (iv m), .int .u64 (iv b)]), .t (.int .u8 n), .ptr 66 0, .dead, .t (.bool false), .t (.bool true), .t (.int .i64 (IntKind.i64.wrap (n.tmod 70))),
     .t (.bool (fitsN m b (n.tmod 70) j)), .t (.int .i64 ((j : Int) + 1)), .t (.bool true), .t (.bool true), .t (.bool (!true)), .t (.int .u8 n), .t (.int .u8 (n.tmod 70)), .t (.int .i64 (IntKind.i64.wrap (n.tmod 70))), .dead, .dead, .dead, .dead, .dead, .dead, .dead, .dead, .dead, .dead, .dead, .dead, .dead, .dead, .dead, .dead, .dead, .dead, .dead, .dead, .dead, .dead, .dead, .dead, .dead, .dead, .dead, .dead, .dead, .dead, .dead, .dead, .dead, .dead, .dead, .dead, .dead, .dead, .dead, .dead, .dead, .dead, .dead, .dead, .dead, .dead, .dead, .dead], [(66, .cells [.t (.int .u64 (iv m)), .t (.int .u64 (iv b))])]⟩)
    (fun j => j ≤ 64) (fun j => 64 - j) 0 (by omega) rfl fun j hj C hC => ?_
  by_cases hlt : j < 64
  · have hle : leI ((j : Int) + 1) 64 = true := le_t.2 (by omega)
    have next : ∀ x, fitsN m b (n.tmod 70) (j + 1) = x → C ⟨[.t (.agg [.int .u64 (iv m), .int .u64 (iv b)]), .t (.int .u8 n), .ptr 66 0, .dead, .t (.bool false), .t (.bool true), .t (.int .i64 (IntKind.i64.wrap (n.tmod 70))),
     .t (.bool x), .t (.int .i64 (IntKind.i64.wrap ((j : Int) + 1 + 1))), .t (.bool true), .t (.bool true), .t (.bool (!true)), .t (.int .u8 n), .t (.int .u8 (n.tmod 70)), .t (.int .i64 (IntKind.i64.wrap (n.tmod 70))), .dead, .dead, .dead, .dead, .dead, .dead, .dead, .dead, .dead, .dead, .dead, .dead, .dead, .dead, .dead, .dead, .dead, .dead, .dead, .dead, .dead, .dead, .dead, .dead, .dead, .dead, .dead, .dead, .dead, .dead, .dead, .dead, .dead, .dead, .dead, .dead, .dead, .dead, .dead, .dead, .dead, .dead, .dead, .dead, .dead, .dead, .dead, .dead], [(66, .cells [.t (.int .u64 (iv m)), .t (.int .u64 (iv b))])]⟩ := fun x hx => by
      subst hx
      have e : IntKind.i64.wrap ((j : Int) + 1 + 1) = ((j + 1 : Nat) : Int) + 1 := by rw [wrap_i64 ⟨by omega, by omega⟩]; omega
      rw [e]
      exact hC (j + 1) (by omega) (by omega)
    clear hC
    rw [fitsN] at next
    conv => whnf
    repeat' (first | (refine brK_true (by assumption) ?_; conv => whnf) | (refine brK_false (by assumption) ?_; conv => whnf) | (refine brK_of (fun h => ?_) (fun h => ?_) <;> conv => whnf) | (refine reqK_of ?_ ?_; rotate_left; (conv => whnf); rotate_left))
    all_goals (refine next _ ?_; clear next ht; simp only [hw, bv_iv] at *; simp only [fit, *, Bool.not_true, Bool.not_false, Bool.and_true, Bool.true_and, Bool.false_and, Bool.and_false, Bool.true_or, Bool.false_or, Bool.or_true, Bool.or_false])
  · have hle : leI ((j : Int) + 1) 64 = false := le_f.2 (by omega)
    clear hC
    have e : j = 64 := by omega
    subst e
    have hw1 : IntKind.i64.wrap (n.tmod 70 + 1) = n.tmod 70 + 1 := wrap_i64 ⟨by omega, by omega⟩
    cases hf : fitsN m b (n.tmod 70) 64
    · have hR : rightB m b (n.tmod 70) = false := by rw [right_fits, hf]
      conv => whnf
      repeat' (first
        | (refine reqK_of ?_ ?_; rotate_left; (conv => whnf); rotate_left)
        | (refine brK_true ?_ ?_; (focus (simp only [bv_iv, hle, hw, hf, hR, Bool.not_true, Bool.not_false, beq_self_eq_true]; done)); conv => whnf)
        | (refine brK_false ?_ ?_; (focus (simp only [bv_iv, hle, hw, hf, hR, Bool.not_true, Bool.not_false, beq_self_eq_true]; done)); conv => whnf))
      all_goals first | exact ⟨R_iv _, R_iv _⟩ | skip
      all_goals simp only [bv_iv, hw, hR, hf, beq_self_eq_true]
    · have hR : rightB m b (n.tmod 70) = true := by rw [right_fits, hf]
      conv => whnf
      repeat' (first
        | (refine reqK_of ?_ ?_; rotate_left; (conv => whnf); rotate_left)
        | (refine brK_true ?_ ?_; (focus (simp only [bv_iv, hle, hw, hf, hR, Bool.not_true, Bool.not_false, beq_self_eq_true]; done)); conv => whnf)
        | (refine brK_false ?_ ?_; (focus (simp only [bv_iv, hle, hw, hf, hR, Bool.not_true, Bool.not_false, beq_self_eq_true]; done)); conv => whnf))
      all_goals first | exact ⟨R_iv _, R_iv _⟩ | skip
      all_goals simp only [bv_iv, hw, hw1, hR, hf, right_more hR, beq_self_eq_true]
theorem got7 {vs : List T} {x : T} (h : Got (c7 vs) x) : FnOk Tryd.prog tgl 7 vs x := by
  unfold c7 at h
  split at h
  · obtain ⟨hq, e⟩ := got_req h; rw [e]; exact ok7 _ _ _ hq
  · exact (got_no h).elim
end Go.Mx
