/-
  SETS: LISTS.
-/
import Derived.Test.YtpmpkcjcjccboaaDoorSl
set_option linter.unusedVariables false
set_option linter.unusedSimpArgs false
set_option maxRecDepth 20000
set_option maxHeartbeats 4000000
namespace Go.Nx
open Go.RowKit Go.Proofs

theorem at0_up (s : B) {i j : Nat} (h : i < j) (hj : j < (lsL s).length) : at0 (lsL s) (i : Int) < at0 (lsL s) (j : Int) := by
  have hp := List.pairwise_iff_getElem.1 (lsN_sorted s 64) i j (show i < (lsL s).length by omega) hj h
  have e1 : at0 (lsL s) (i : Int) = (lsL s)[i]'(by omega) := by simp [at0, show i < (lsL s).length by omega]
  have e2 : at0 (lsL s) (j : Int) = (lsL s)[j]'hj := by simp [at0, hj]
  rw [e1, e2]; exact hp
theorem of_has {l : List Int} {x : Int} (hx : x ∈ l) (h1 : 1 ≤ x) : has (ofL l) x = leI x 64 := by
  rw [has_ofL, decide_eq_true hx, Bool.and_true, leI_def]
  by_cases h : x ≤ 64
  · rw [obj_iff.2 ⟨h1, h⟩, decide_eq_true h]
  · rw [obj_f (.inr (by omega)), decide_eq_false h]
theorem of_has0 {l : List Int} {x : Int} (h1 : x < 1) : has (ofL l) x = false := by
  rw [has_ofL, obj_f (.inl h1)]; rfl
theorem of_ls (s : B) : ofL (lsL s) = s := ext_has fun o h1 h2 => by
  rw [has_ofL, obj_iff.2 ⟨h1, h2⟩, Bool.true_and, Bool.eq_iff_iff, decide_eq_true_eq, mem_lsL]
theorem ok5 (s : Int) (xs : List T) (hq : R64 s ∧ IsI xs ∧ Sz xs) : FnOk Tryd.prog tgl 5 [.int .u64 s, .list 1 xs] (.bool true) := by
  refine fn_ok (Γ := E4) env_E4 Tryd.func5 low5 ?_
  obtain ⟨h0, ⟨l, rfl, hl⟩, hs⟩ := hq
  have hlen : l.length ≤ 140737488355328 := by unfold Sz maxBytes at hs; rw [is_len] at hs; omega
  have hlb := lsL_len (bv s)
  have hsz : Sz (is (lsL (bv s))) := by unfold Sz maxBytes; rw [is_len]; omega
  have hIl : IsI (is l) := isI_is hl
  have hIs : IsI (is (lsL (bv s))) := isI_is (isI_ls _)
  have hrng : ∀ k : Nat, k < (lsL (bv s)).length → has (bv s) (at0 (lsL (bv s)) (k : Int)) = true := fun k hk => mem_lsL.1 (at0_mem hk)
  conv => whnf
  repeat' (first
    | (refine brK_true rfl ?_; conv => whnf)
    | (refine brK_false rfl ?_; conv => whnf)
    | (refine brK_true (by assumption) ?_; conv => whnf)
    | (refine brK_false (by assumption) ?_; conv => whnf)
    | (refine brK_true ?_ ?_; (focus (simp only [List.length_nil, fx] <;> omega)); conv => whnf)
    | (refine brK_false ?_ ?_; (focus (simp only [List.length_nil, fx] <;> omega)); conv => whnf)
    | ((refine brK_of (fun h => ?_) (fun h => ?_)) <;> (have h2 := h; (try simp only [List.length_nil, fx] at h2); conv => whnf))
    | (refine reqK_of ?_ ?_; (focus (first | decide | omega | assumption | (simp only [List.length_nil, fx] <;> omega) | (simp [keyNew, sameKey, kEq] <;> omega))); conv => whnf)
    | (refine reqK_of ?_ ?_; rotate_left; (conv => whnf); rotate_left)
    | (refine nth_us ?_ ?_ ?_; (focus (first | omega | (simp only [List.length_nil, fx] <;> omega))); (focus (first | omega | (simp only [List.length_nil, fx] <;> omega))); conv => whnf)
    | (refine nth_is ?_ ?_ ?_; (focus (first | omega | (simp only [List.length_nil, fx] <;> omega))); (focus (first | omega | (simp only [List.length_nil, fx] <;> omega))); conv => whnf)
    | (refine nth_bs ?_ ?_ ?_; (focus (first | omega | (simp only [List.length_nil, fx] <;> omega))); (focus (first | omega | (simp only [List.length_nil, fx] <;> omega))); conv => whnf))
  refine loopUp [] [.kill 15, .kill 16, .kill 17, .kill 18, .kill 19, .kill 20, .kill 21, .kill 22, .kill 23, .kill 24, .kill 25, .kill 26, .kill 27, .kill 28, .kill 29, .kill 30, .kill 31, .kill 32, .kill 33, .kill 34, .kill 35, .kill 36, .kill 37, .kill 38, .kill 39, .kill 40, .kill 41, .kill 42, .kill 43, .kill 44, .kill 45, .kill 46, .kill 47, .kill 48, .kill 49, .kill 50, .kill 51, .kill 52, .kill 53, .kill 54, .kill 55, .kill 56, .kill 57] (fun k : Nat => [(7, .t (.int .i64 (k : Int)))]) (fun _ => []) (fun k => k ≤ (lsL (bv s)).length) (fun k => (lsL (bv s)).length - k) 0 (Nat.zero_le _) ?_
  conv => whnf
  refine ⟨⟨rfl, rfl⟩, fun k hk C hC => ?_⟩
  have hw : IntKind.i64.wrap ((k : Int) + 1) = (k : Int) + 1 := wrap_i64 ⟨by omega, by omega⟩
  have hwm : (k : Int) ≤ 0 ∨ IntKind.i64.wrap ((k : Int) - 1) = (k : Int) - 1 := by
    by_cases h : (k : Int) ≤ 0
    · exact .inl h
    · exact .inr (wrap_i64 ⟨by omega, by omega⟩)
  conv => whnf
  repeat' (first
    | (refine brK_true rfl ?_; conv => whnf)
    | (refine brK_false rfl ?_; conv => whnf)
    | (refine brK_true (by assumption) ?_; conv => whnf)
    | (refine brK_false (by assumption) ?_; conv => whnf)
    | (refine brK_true ?_ ?_; (focus (simp only [List.length_nil, fx] <;> omega)); conv => whnf)
    | (refine brK_false ?_ ?_; (focus (simp only [List.length_nil, fx] <;> omega)); conv => whnf)
    | ((refine brK_of (fun h => ?_) (fun h => ?_)) <;> (have h2 := h; (try simp only [List.length_nil, fx] at h2); conv => whnf))
    | (refine reqK_of ?_ ?_; (focus (first | decide | omega | assumption | (simp only [List.length_nil, fx] <;> omega) | (simp [keyNew, sameKey, kEq] <;> omega))); conv => whnf)
    | (refine reqK_of ?_ ?_; rotate_left; (conv => whnf); rotate_left)
    | (refine nth_us ?_ ?_ ?_; (focus (first | omega | (simp only [List.length_nil, fx] <;> omega))); (focus (first | omega | (simp only [List.length_nil, fx] <;> omega))); conv => whnf)
    | (refine nth_is ?_ ?_ ?_; (focus (first | omega | (simp only [List.length_nil, fx] <;> omega))); (focus (first | omega | (simp only [List.length_nil, fx] <;> omega))); conv => whnf)
    | (refine nth_bs ?_ ?_ ?_; (focus (first | omega | (simp only [List.length_nil, fx] <;> omega))); (focus (first | omega | (simp only [List.length_nil, fx] <;> omega))); conv => whnf))
  · exfalso; have := hrng k (by omega); simp_all
  · exfalso; have := has_range (hrng k (by omega)); omega
  · exfalso; have := has_range (hrng k (by omega)); omega
  · exfalso
    obtain ⟨j, rfl⟩ : ∃ j, k = j + 1 := ⟨k - 1, by omega⟩
    have := at0_up (bv s) (i := j) (j := j + 1) (by omega) (by omega)
    have e : IntKind.i64.wrap (((j + 1 : Nat) : Int) - 1) = (j : Int) := by rw [wrap_i64 ⟨by omega, by omega⟩]; omega
    rw [e] at h2
    omega
  · refine loopC (hC (k + 1) (by omega) (by omega)) ?_
    rw [hw, Int.natCast_succ]
    rfl
  · refine loopC (hC (k + 1) (by omega) (by omega)) ?_
    rw [hw, Int.natCast_succ]
    rfl
  · exact ⟨hIl, hs⟩
  · refine loopUp [] [.kill 60, .kill 61, .kill 62, .kill 63, .kill 64, .kill 65, .kill 66, .kill 67, .kill 68, .kill 69, .kill 70, .kill 71, .kill 72, .kill 73, .kill 74, .kill 75, .kill 76, .kill 77, .kill 78, .kill 79, .kill 80, .kill 81, .kill 82, .kill 83, .kill 84] (fun k : Nat => [(9, .t (.int .i64 (k : Int)))]) (fun _ => []) (fun k => k ≤ l.length) (fun k => l.length - k) 0 (Nat.zero_le _) ?_
    conv => whnf
    refine ⟨⟨rfl, rfl⟩, fun k hk C hC => ?_⟩
    have hw : IntKind.i64.wrap ((k : Int) + 1) = (k : Int) + 1 := wrap_i64 ⟨by omega, by omega⟩
    have hR := R_iv (ofL l)
    conv => whnf
    repeat' (first
      | (refine brK_true rfl ?_; conv => whnf)
      | (refine brK_false rfl ?_; conv => whnf)
      | (refine brK_true (by assumption) ?_; conv => whnf)
      | (refine brK_false (by assumption) ?_; conv => whnf)
      | (refine brK_true ?_ ?_; (focus (simp only [List.length_nil, fx] <;> omega)); conv => whnf)
      | (refine brK_false ?_ ?_; (focus (simp only [List.length_nil, fx] <;> omega)); conv => whnf)
      | ((refine brK_of (fun h => ?_) (fun h => ?_)) <;> (have h2 := h; (try simp only [List.length_nil, fx] at h2); conv => whnf))
      | (refine reqK_of ?_ ?_; (focus (first | decide | omega | assumption | (simp only [List.length_nil, fx] <;> omega) | (simp [keyNew, sameKey, kEq] <;> omega))); conv => whnf)
      | (refine reqK_of ?_ ?_; rotate_left; (conv => whnf); rotate_left)
      | (refine nth_us ?_ ?_ ?_; (focus (first | omega | (simp only [List.length_nil, fx] <;> omega))); (focus (first | omega | (simp only [List.length_nil, fx] <;> omega))); conv => whnf)
      | (refine nth_is ?_ ?_ ?_; (focus (first | omega | (simp only [List.length_nil, fx] <;> omega))); (focus (first | omega | (simp only [List.length_nil, fx] <;> omega))); conv => whnf)
      | (refine nth_bs ?_ ?_ ?_; (focus (first | omega | (simp only [List.length_nil, fx] <;> omega))); (focus (first | omega | (simp only [List.length_nil, fx] <;> omega))); conv => whnf))
    · rw [nums_is, bv_iv, of_has (at0_mem (by omega)) (by assumption), eqB_def] at h2
      simp at h2
    · refine loopC (hC (k + 1) (by omega) (by omega)) ?_
      rw [hw, Int.natCast_succ]
      rfl
    · rw [nums_is, bv_iv, of_has0 (by assumption), eqB_def] at h2
      simp at h2
    · refine loopC (hC (k + 1) (by omega) (by omega)) ?_
      rw [hw, Int.natCast_succ]
      rfl
    · exact ⟨hIs, hsz⟩
    · rw [nums_is, bv_iv, is_len, leI_def, decide_eq_true (Int.ofNat_le.2 (ls_len_le l))]
    · exact absurd (by rw [subL_00, nums_is, of_ls, iv_bv h0]) h2
open Classical in
noncomputable def c5 : List T → Ans
  | [.int .u64 s, .list 1 xs] => .req (R64 s ∧ IsI xs ∧ Sz xs) (.bool true)
  | _ => .no
theorem got5 {vs : List T} {x : T} (h : Got (c5 vs) x) : FnOk Tryd.prog tgl 5 vs x := by
  unfold c5 at h
  split at h
  · obtain ⟨hq, e⟩ := got_req h; rw [e]; exact ok5 _ _ hq
  · exact (got_no h).elim
theorem nogl5 (vs : List T) (p : Prop) (d : Decidable p) (sz : Nat) (xs : List T) (h : c5 vs = @Ans.gl p d sz xs) : False := by
  unfold c5 at h
  split at h <;> cases h
theorem pk5 (vs : List T) (p : Prop) (d : Decidable p) (x : T) (h : c5 vs = @Ans.pk p d x) (hp : p) : FnOk Tryd.prog tgl 5 vs x := by
  unfold c5 at h
  split at h
  · cases h
  · cases h
end Go.Nx
