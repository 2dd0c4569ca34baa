/-
  LISTS THE SAME; LAYING; LISTING.
-/
import Derived.Test.YtlgnjeilhjhnkaaCd
set_option linter.unusedVariables false
set_option linter.unusedSimpArgs false
set_option maxRecDepth 20000
set_option maxHeartbeats 4000000
namespace Go.Nx
open Go.RowKit Go.Proofs

def eqL (a b : List Int) : Bool := decide (a = b)
theorem sz_len {l : List Int} (h : Sz (us l)) : l.length ≤ 17592186044416 := by
  unfold Sz maxBytes at h
  rw [us_len] at h
  omega
theorem szi_len {l : List Int} (h : Sz (is l)) : l.length ≤ 17592186044416 := by
  unfold Sz maxBytes at h
  rw [is_len] at h
  omega
theorem take_next {l r : List Int} {k : Nat} (h : l.take k = r.take k) (hl : k < l.length) (hr : k < r.length) (e : at0 l k = at0 r k) : l.take (k + 1) = r.take (k + 1) := by
  rw [List.take_add_one, List.take_add_one, h]
  congr 1
  simp [at0, hl, hr] at e
  simp [hl, hr, e]
theorem eqL_no {l r : List Int} {k : Nat} (hl : k < l.length) (hr : k < r.length) (e : at0 l k ≠ at0 r k) : eqL l r = false := by
  unfold eqL
  rw [decide_eq_false_iff_not]
  intro h; subst h; exact e rfl
theorem ok13 (xs ys : List T) (hq : (IsU xs ∧ Sz xs) ∧ IsU ys) : FnOk Try.prog tgl 13 [.list 1 xs, .list 1 ys] (.bool (eqL (nums xs) (nums ys))) := by
  refine fn_ok (Γ := E0) env_E0 Try.func13 low13 ?_
  obtain ⟨⟨⟨l, rfl, hl⟩, hs⟩, r, rfl, hr⟩ := hq
  have hlen := sz_len hs
  rw [nums_us, nums_us]
  conv => whnf
  repeat' (first
    | (refine brK_true (by assumption) ?_; conv => whnf)
    | (refine brK_false (by assumption) ?_; conv => whnf)
    | (refine brK_true ?_ ?_; (focus (simp only [List.length_nil, not_t, not_f, lt_t, lt_f, le_t, le_f, eq_t, eq_f, us_len, is_len, bs_len, lenL_00] <;> omega)); conv => whnf)
    | (refine brK_false ?_ ?_; (focus (simp only [List.length_nil, not_t, not_f, lt_t, lt_f, le_t, le_f, eq_t, eq_f, us_len, is_len, bs_len, lenL_00] <;> omega)); conv => whnf)
    | ((refine brK_of (fun h => ?_) (fun h => ?_)) <;> (have h2 := h; (try simp only [List.length_nil, not_t, not_f, lt_t, lt_f, le_t, le_f, eq_t, eq_f, us_len, is_len, bs_len, lenL_00] at h2); conv => whnf))
    | (refine reqK_of ?_ ?_; (focus (first | decide | omega | assumption | (simp only [List.length_nil, not_t, not_f, lt_t, lt_f, le_t, le_f, eq_t, eq_f, us_len, is_len, bs_len, lenL_00] <;> omega) | (simp [keyNew, sameKey, kEq] <;> omega))); conv => whnf)
    | (refine reqK_of ?_ ?_; rotate_left; (conv => whnf); rotate_left)
    | (refine nth_us ?_ ?_ ?_; (focus (first | omega | (simp only [List.length_nil, not_t, not_f, lt_t, lt_f, le_t, le_f, eq_t, eq_f, us_len, is_len, bs_len, lenL_00] <;> omega))); (focus (first | omega | (simp only [List.length_nil, not_t, not_f, lt_t, lt_f, le_t, le_f, eq_t, eq_f, us_len, is_len, bs_len, lenL_00] <;> omega))); conv => whnf)
    | (refine nth_is ?_ ?_ ?_; (focus (first | omega | (simp only [List.length_nil, not_t, not_f, lt_t, lt_f, le_t, le_f, eq_t, eq_f, us_len, is_len, bs_len, lenL_00] <;> omega))); (focus (first | omega | (simp only [List.length_nil, not_t, not_f, lt_t, lt_f, le_t, le_f, eq_t, eq_f, us_len, is_len, bs_len, lenL_00] <;> omega))); conv => whnf)
    | (refine nth_bs ?_ ?_ ?_; (focus (first | omega | (simp only [List.length_nil, not_t, not_f, lt_t, lt_f, le_t, le_f, eq_t, eq_f, us_len, is_len, bs_len, lenL_00] <;> omega))); (focus (first | omega | (simp only [List.length_nil, not_t, not_f, lt_t, lt_f, le_t, le_f, eq_t, eq_f, us_len, is_len, bs_len, lenL_00] <;> omega))); conv => whnf))
  · rw [show eqL l r = false by unfold eqL; rw [decide_eq_false_iff_not]; intro e; subst e; exact h2 rfl]
  · have hlr : l.length = r.length := by omega
    refine loopSet [] [.kill 11, .kill 12, .kill 13, .kill 14, .kill 15, .kill 16, .kill 17, .kill 18, .kill 19, .kill 20, .kill 21, .kill 22, .kill 23, .kill 24, .kill 25] (fun k : Nat => [(5, .t (.int .i64 (k : Int)))]) (fun _ => []) (fun k => k ≤ l.length ∧ l.take k = r.take k) (fun k => l.length - k) 0 ⟨Nat.zero_le _, rfl⟩ ?_
    conv => whnf
    refine ⟨⟨rfl, rfl⟩, fun k hk C hC => ?_⟩
    obtain ⟨hk1, hk2⟩ := hk
    conv => whnf
    repeat' (first
      | (refine brK_true (by assumption) ?_; conv => whnf)
      | (refine brK_false (by assumption) ?_; conv => whnf)
      | (refine brK_true ?_ ?_; (focus (simp only [List.length_nil, not_t, not_f, lt_t, lt_f, le_t, le_f, eq_t, eq_f, us_len, is_len, bs_len, lenL_00] <;> omega)); conv => whnf)
      | (refine brK_false ?_ ?_; (focus (simp only [List.length_nil, not_t, not_f, lt_t, lt_f, le_t, le_f, eq_t, eq_f, us_len, is_len, bs_len, lenL_00] <;> omega)); conv => whnf)
      | ((refine brK_of (fun h => ?_) (fun h => ?_)) <;> (have h2 := h; (try simp only [List.length_nil, not_t, not_f, lt_t, lt_f, le_t, le_f, eq_t, eq_f, us_len, is_len, bs_len, lenL_00] at h2); conv => whnf))
      | (refine reqK_of ?_ ?_; (focus (first | decide | omega | assumption | (simp only [List.length_nil, not_t, not_f, lt_t, lt_f, le_t, le_f, eq_t, eq_f, us_len, is_len, bs_len, lenL_00] <;> omega) | (simp [keyNew, sameKey, kEq] <;> omega))); conv => whnf)
      | (refine reqK_of ?_ ?_; rotate_left; (conv => whnf); rotate_left)
      | (refine nth_us ?_ ?_ ?_; (focus (first | omega | (simp only [List.length_nil, not_t, not_f, lt_t, lt_f, le_t, le_f, eq_t, eq_f, us_len, is_len, bs_len, lenL_00] <;> omega))); (focus (first | omega | (simp only [List.length_nil, not_t, not_f, lt_t, lt_f, le_t, le_f, eq_t, eq_f, us_len, is_len, bs_len, lenL_00] <;> omega))); conv => whnf)
      | (refine nth_is ?_ ?_ ?_; (focus (first | omega | (simp only [List.length_nil, not_t, not_f, lt_t, lt_f, le_t, le_f, eq_t, eq_f, us_len, is_len, bs_len, lenL_00] <;> omega))); (focus (first | omega | (simp only [List.length_nil, not_t, not_f, lt_t, lt_f, le_t, le_f, eq_t, eq_f, us_len, is_len, bs_len, lenL_00] <;> omega))); conv => whnf)
      | (refine nth_bs ?_ ?_ ?_; (focus (first | omega | (simp only [List.length_nil, not_t, not_f, lt_t, lt_f, le_t, le_f, eq_t, eq_f, us_len, is_len, bs_len, lenL_00] <;> omega))); (focus (first | omega | (simp only [List.length_nil, not_t, not_f, lt_t, lt_f, le_t, le_f, eq_t, eq_f, us_len, is_len, bs_len, lenL_00] <;> omega))); conv => whnf))
    · rw [eqL_no (k := k) (by omega) (by omega) (by assumption)]
    · refine loopC (hC (k + 1) ⟨by omega, take_next hk2 (by omega) (by omega) (by assumption)⟩ (by omega)) ?_
      have hw : IntKind.i64.wrap ((k : Int) + 1) = (k : Int) + 1 := wrap_i64 ⟨by omega, by omega⟩
      rw [hw]; rfl
    · have hk3 : k = l.length := by omega
      subst hk3
      have : l = r := by rw [← List.take_length (l := l), hk2, hlr, List.take_length]
      subst this
      rw [show eqL l l = true by simp [eqL]]
open Classical in
noncomputable def c13 : List T → Ans
  | [.list 1 xs, .list 1 ys] => .req ((IsU xs ∧ Sz xs) ∧ IsU ys) (.bool (eqL (nums xs) (nums ys)))
  | _ => .no
theorem got13 {vs : List T} {x : T} (h : Got (c13 vs) x) : FnOk Try.prog tgl 13 vs x := by
  unfold c13 at h
  split at h
  · obtain ⟨hq, e⟩ := got_req h; rw [e]; exact ok13 _ _ hq
  · exact (got_no h).elim
theorem nogl13 (vs : List T) (p : Prop) (sz : Nat) (xs : List T) (h : c13 vs = .gl p sz xs) : False := by
  unfold c13 at h
  split at h <;> cases h
theorem ok16 (xs ys : List T) (hq : (IsI xs ∧ Sz xs) ∧ IsI ys) : FnOk Try.prog tgl 16 [.list 1 xs, .list 1 ys] (.bool (eqL (nums xs) (nums ys))) := by
  refine fn_ok (Γ := E0) env_E0 Try.func16 low16 ?_
  obtain ⟨⟨⟨l, rfl, hl⟩, hs⟩, r, rfl, hr⟩ := hq
  have hlen := szi_len hs
  rw [nums_is, nums_is]
  conv => whnf
  repeat' (first
    | (refine brK_true (by assumption) ?_; conv => whnf)
    | (refine brK_false (by assumption) ?_; conv => whnf)
    | (refine brK_true ?_ ?_; (focus (simp only [List.length_nil, not_t, not_f, lt_t, lt_f, le_t, le_f, eq_t, eq_f, us_len, is_len, bs_len, lenL_00] <;> omega)); conv => whnf)
    | (refine brK_false ?_ ?_; (focus (simp only [List.length_nil, not_t, not_f, lt_t, lt_f, le_t, le_f, eq_t, eq_f, us_len, is_len, bs_len, lenL_00] <;> omega)); conv => whnf)
    | ((refine brK_of (fun h => ?_) (fun h => ?_)) <;> (have h2 := h; (try simp only [List.length_nil, not_t, not_f, lt_t, lt_f, le_t, le_f, eq_t, eq_f, us_len, is_len, bs_len, lenL_00] at h2); conv => whnf))
    | (refine reqK_of ?_ ?_; (focus (first | decide | omega | assumption | (simp only [List.length_nil, not_t, not_f, lt_t, lt_f, le_t, le_f, eq_t, eq_f, us_len, is_len, bs_len, lenL_00] <;> omega) | (simp [keyNew, sameKey, kEq] <;> omega))); conv => whnf)
    | (refine reqK_of ?_ ?_; rotate_left; (conv => whnf); rotate_left)
    | (refine nth_us ?_ ?_ ?_; (focus (first | omega | (simp only [List.length_nil, not_t, not_f, lt_t, lt_f, le_t, le_f, eq_t, eq_f, us_len, is_len, bs_len, lenL_00] <;> omega))); (focus (first | omega | (simp only [List.length_nil, not_t, not_f, lt_t, lt_f, le_t, le_f, eq_t, eq_f, us_len, is_len, bs_len, lenL_00] <;> omega))); conv => whnf)
    | (refine nth_is ?_ ?_ ?_; (focus (first | omega | (simp only [List.length_nil, not_t, not_f, lt_t, lt_f, le_t, le_f, eq_t, eq_f, us_len, is_len, bs_len, lenL_00] <;> omega))); (focus (first | omega | (simp only [List.length_nil, not_t, not_f, lt_t, lt_f, le_t, le_f, eq_t, eq_f, us_len, is_len, bs_len, lenL_00] <;> omega))); conv => whnf)
    | (refine nth_bs ?_ ?_ ?_; (focus (first | omega | (simp only [List.length_nil, not_t, not_f, lt_t, lt_f, le_t, le_f, eq_t, eq_f, us_len, is_len, bs_len, lenL_00] <;> omega))); (focus (first | omega | (simp only [List.length_nil, not_t, not_f, lt_t, lt_f, le_t, le_f, eq_t, eq_f, us_len, is_len, bs_len, lenL_00] <;> omega))); conv => whnf))
  · rw [show eqL l r = false by unfold eqL; rw [decide_eq_false_iff_not]; intro e; subst e; exact h2 rfl]
  · have hlr : l.length = r.length := by omega
    refine loopSet [] [.kill 11, .kill 12, .kill 13, .kill 14, .kill 15, .kill 16, .kill 17, .kill 18, .kill 19, .kill 20, .kill 21, .kill 22, .kill 23, .kill 24, .kill 25] (fun k : Nat => [(5, .t (.int .i64 (k : Int)))]) (fun _ => []) (fun k => k ≤ l.length ∧ l.take k = r.take k) (fun k => l.length - k) 0 ⟨Nat.zero_le _, rfl⟩ ?_
    conv => whnf
    refine ⟨⟨rfl, rfl⟩, fun k hk C hC => ?_⟩
    obtain ⟨hk1, hk2⟩ := hk
    conv => whnf
    repeat' (first
      | (refine brK_true (by assumption) ?_; conv => whnf)
      | (refine brK_false (by assumption) ?_; conv => whnf)
      | (refine brK_true ?_ ?_; (focus (simp only [List.length_nil, not_t, not_f, lt_t, lt_f, le_t, le_f, eq_t, eq_f, us_len, is_len, bs_len, lenL_00] <;> omega)); conv => whnf)
      | (refine brK_false ?_ ?_; (focus (simp only [List.length_nil, not_t, not_f, lt_t, lt_f, le_t, le_f, eq_t, eq_f, us_len, is_len, bs_len, lenL_00] <;> omega)); conv => whnf)
      | ((refine brK_of (fun h => ?_) (fun h => ?_)) <;> (have h2 := h; (try simp only [List.length_nil, not_t, not_f, lt_t, lt_f, le_t, le_f, eq_t, eq_f, us_len, is_len, bs_len, lenL_00] at h2); conv => whnf))
      | (refine reqK_of ?_ ?_; (focus (first | decide | omega | assumption | (simp only [List.length_nil, not_t, not_f, lt_t, lt_f, le_t, le_f, eq_t, eq_f, us_len, is_len, bs_len, lenL_00] <;> omega) | (simp [keyNew, sameKey, kEq] <;> omega))); conv => whnf)
      | (refine reqK_of ?_ ?_; rotate_left; (conv => whnf); rotate_left)
      | (refine nth_us ?_ ?_ ?_; (focus (first | omega | (simp only [List.length_nil, not_t, not_f, lt_t, lt_f, le_t, le_f, eq_t, eq_f, us_len, is_len, bs_len, lenL_00] <;> omega))); (focus (first | omega | (simp only [List.length_nil, not_t, not_f, lt_t, lt_f, le_t, le_f, eq_t, eq_f, us_len, is_len, bs_len, lenL_00] <;> omega))); conv => whnf)
      | (refine nth_is ?_ ?_ ?_; (focus (first | omega | (simp only [List.length_nil, not_t, not_f, lt_t, lt_f, le_t, le_f, eq_t, eq_f, us_len, is_len, bs_len, lenL_00] <;> omega))); (focus (first | omega | (simp only [List.length_nil, not_t, not_f, lt_t, lt_f, le_t, le_f, eq_t, eq_f, us_len, is_len, bs_len, lenL_00] <;> omega))); conv => whnf)
      | (refine nth_bs ?_ ?_ ?_; (focus (first | omega | (simp only [List.length_nil, not_t, not_f, lt_t, lt_f, le_t, le_f, eq_t, eq_f, us_len, is_len, bs_len, lenL_00] <;> omega))); (focus (first | omega | (simp only [List.length_nil, not_t, not_f, lt_t, lt_f, le_t, le_f, eq_t, eq_f, us_len, is_len, bs_len, lenL_00] <;> omega))); conv => whnf))
    · rw [eqL_no (k := k) (by omega) (by omega) (by assumption)]
    · refine loopC (hC (k + 1) ⟨by omega, take_next hk2 (by omega) (by omega) (by assumption)⟩ (by omega)) ?_
      have hw : IntKind.i64.wrap ((k : Int) + 1) = (k : Int) + 1 := wrap_i64 ⟨by omega, by omega⟩
      rw [hw]; rfl
    · have hk3 : k = l.length := by omega
      subst hk3
      have : l = r := by rw [← List.take_length (l := l), hk2, hlr, List.take_length]
      subst this
      rw [show eqL l l = true by simp [eqL]]
open Classical in
noncomputable def c16 : List T → Ans
  | [.list 1 xs, .list 1 ys] => .req ((IsI xs ∧ Sz xs) ∧ IsI ys) (.bool (eqL (nums xs) (nums ys)))
  | _ => .no
theorem got16 {vs : List T} {x : T} (h : Got (c16 vs) x) : FnOk Try.prog tgl 16 vs x := by
  unfold c16 at h
  split at h
  · obtain ⟨hq, e⟩ := got_req h; rw [e]; exact ok16 _ _ hq
  · exact (got_no h).elim
theorem nogl16 (vs : List T) (p : Prop) (sz : Nat) (xs : List T) (h : c16 vs = .gl p sz xs) : False := by
  unfold c16 at h
  split at h <;> cases h
theorem ok38 (xs ys : List T) (hq : (IsU xs ∧ Sz xs) ∧ IsU ys) : FnOk Try.prog tgl 38 [.list 1 xs, .list 1 ys] (.bool (eqL (nums xs) (nums ys))) := by
  refine fn_ok (Γ := E0) env_E0 Try.func38 low38 ?_
  obtain ⟨⟨⟨l, rfl, hl⟩, hs⟩, r, rfl, hr⟩ := hq
  have hlen := sz_len hs
  rw [nums_us, nums_us]
  conv => whnf
  repeat' (first
    | (refine brK_true (by assumption) ?_; conv => whnf)
    | (refine brK_false (by assumption) ?_; conv => whnf)
    | (refine brK_true ?_ ?_; (focus (simp only [List.length_nil, not_t, not_f, lt_t, lt_f, le_t, le_f, eq_t, eq_f, us_len, is_len, bs_len, lenL_00] <;> omega)); conv => whnf)
    | (refine brK_false ?_ ?_; (focus (simp only [List.length_nil, not_t, not_f, lt_t, lt_f, le_t, le_f, eq_t, eq_f, us_len, is_len, bs_len, lenL_00] <;> omega)); conv => whnf)
    | ((refine brK_of (fun h => ?_) (fun h => ?_)) <;> (have h2 := h; (try simp only [List.length_nil, not_t, not_f, lt_t, lt_f, le_t, le_f, eq_t, eq_f, us_len, is_len, bs_len, lenL_00] at h2); conv => whnf))
    | (refine reqK_of ?_ ?_; (focus (first | decide | omega | assumption | (simp only [List.length_nil, not_t, not_f, lt_t, lt_f, le_t, le_f, eq_t, eq_f, us_len, is_len, bs_len, lenL_00] <;> omega) | (simp [keyNew, sameKey, kEq] <;> omega))); conv => whnf)
    | (refine reqK_of ?_ ?_; rotate_left; (conv => whnf); rotate_left)
    | (refine nth_us ?_ ?_ ?_; (focus (first | omega | (simp only [List.length_nil, not_t, not_f, lt_t, lt_f, le_t, le_f, eq_t, eq_f, us_len, is_len, bs_len, lenL_00] <;> omega))); (focus (first | omega | (simp only [List.length_nil, not_t, not_f, lt_t, lt_f, le_t, le_f, eq_t, eq_f, us_len, is_len, bs_len, lenL_00] <;> omega))); conv => whnf)
    | (refine nth_is ?_ ?_ ?_; (focus (first | omega | (simp only [List.length_nil, not_t, not_f, lt_t, lt_f, le_t, le_f, eq_t, eq_f, us_len, is_len, bs_len, lenL_00] <;> omega))); (focus (first | omega | (simp only [List.length_nil, not_t, not_f, lt_t, lt_f, le_t, le_f, eq_t, eq_f, us_len, is_len, bs_len, lenL_00] <;> omega))); conv => whnf)
    | (refine nth_bs ?_ ?_ ?_; (focus (first | omega | (simp only [List.length_nil, not_t, not_f, lt_t, lt_f, le_t, le_f, eq_t, eq_f, us_len, is_len, bs_len, lenL_00] <;> omega))); (focus (first | omega | (simp only [List.length_nil, not_t, not_f, lt_t, lt_f, le_t, le_f, eq_t, eq_f, us_len, is_len, bs_len, lenL_00] <;> omega))); conv => whnf))
  · rw [show eqL l r = false by unfold eqL; rw [decide_eq_false_iff_not]; intro e; subst e; exact h2 rfl]
  · have hlr : l.length = r.length := by omega
    refine loopSet [] [.kill 5, .kill 14, .kill 15, .kill 16, .kill 17, .kill 18, .kill 19, .kill 20, .kill 21, .kill 22, .kill 23, .kill 24, .kill 25] (fun k : Nat => [(13, .t (.int .i64 (k : Int)))]) (fun _ => []) (fun k => k ≤ l.length ∧ l.take k = r.take k) (fun k => l.length - k) 0 ⟨Nat.zero_le _, rfl⟩ ?_
    conv => whnf
    refine ⟨⟨rfl, rfl⟩, fun k hk C hC => ?_⟩
    obtain ⟨hk1, hk2⟩ := hk
    conv => whnf
    repeat' (first
      | (refine brK_true (by assumption) ?_; conv => whnf)
      | (refine brK_false (by assumption) ?_; conv => whnf)
      | (refine brK_true ?_ ?_; (focus (simp only [List.length_nil, not_t, not_f, lt_t, lt_f, le_t, le_f, eq_t, eq_f, us_len, is_len, bs_len, lenL_00] <;> omega)); conv => whnf)
      | (refine brK_false ?_ ?_; (focus (simp only [List.length_nil, not_t, not_f, lt_t, lt_f, le_t, le_f, eq_t, eq_f, us_len, is_len, bs_len, lenL_00] <;> omega)); conv => whnf)
      | ((refine brK_of (fun h => ?_) (fun h => ?_)) <;> (have h2 := h; (try simp only [List.length_nil, not_t, not_f, lt_t, lt_f, le_t, le_f, eq_t, eq_f, us_len, is_len, bs_len, lenL_00] at h2); conv => whnf))
      | (refine reqK_of ?_ ?_; (focus (first | decide | omega | assumption | (simp only [List.length_nil, not_t, not_f, lt_t, lt_f, le_t, le_f, eq_t, eq_f, us_len, is_len, bs_len, lenL_00] <;> omega) | (simp [keyNew, sameKey, kEq] <;> omega))); conv => whnf)
      | (refine reqK_of ?_ ?_; rotate_left; (conv => whnf); rotate_left)
      | (refine nth_us ?_ ?_ ?_; (focus (first | omega | (simp only [List.length_nil, not_t, not_f, lt_t, lt_f, le_t, le_f, eq_t, eq_f, us_len, is_len, bs_len, lenL_00] <;> omega))); (focus (first | omega | (simp only [List.length_nil, not_t, not_f, lt_t, lt_f, le_t, le_f, eq_t, eq_f, us_len, is_len, bs_len, lenL_00] <;> omega))); conv => whnf)
      | (refine nth_is ?_ ?_ ?_; (focus (first | omega | (simp only [List.length_nil, not_t, not_f, lt_t, lt_f, le_t, le_f, eq_t, eq_f, us_len, is_len, bs_len, lenL_00] <;> omega))); (focus (first | omega | (simp only [List.length_nil, not_t, not_f, lt_t, lt_f, le_t, le_f, eq_t, eq_f, us_len, is_len, bs_len, lenL_00] <;> omega))); conv => whnf)
      | (refine nth_bs ?_ ?_ ?_; (focus (first | omega | (simp only [List.length_nil, not_t, not_f, lt_t, lt_f, le_t, le_f, eq_t, eq_f, us_len, is_len, bs_len, lenL_00] <;> omega))); (focus (first | omega | (simp only [List.length_nil, not_t, not_f, lt_t, lt_f, le_t, le_f, eq_t, eq_f, us_len, is_len, bs_len, lenL_00] <;> omega))); conv => whnf))
    · rw [eqL_no (k := k) (by omega) (by omega) (by assumption)]
    · refine loopC (hC (k + 1) ⟨by omega, take_next hk2 (by omega) (by omega) (by assumption)⟩ (by omega)) ?_
      have hw : IntKind.i64.wrap ((k : Int) + 1) = (k : Int) + 1 := wrap_i64 ⟨by omega, by omega⟩
      rw [hw]; rfl
    · have hk3 : k = l.length := by omega
      subst hk3
      have : l = r := by rw [← List.take_length (l := l), hk2, hlr, List.take_length]
      subst this
      rw [show eqL l l = true by simp [eqL]]
open Classical in
noncomputable def c38 : List T → Ans
  | [.list 1 xs, .list 1 ys] => .req ((IsU xs ∧ Sz xs) ∧ IsU ys) (.bool (eqL (nums xs) (nums ys)))
  | _ => .no
theorem got38 {vs : List T} {x : T} (h : Got (c38 vs) x) : FnOk Try.prog tgl 38 vs x := by
  unfold c38 at h
  split at h
  · obtain ⟨hq, e⟩ := got_req h; rw [e]; exact ok38 _ _ hq
  · exact (got_no h).elim
theorem nogl38 (vs : List T) (p : Prop) (sz : Nat) (xs : List T) (h : c38 vs = .gl p sz xs) : False := by
  unfold c38 at h
  split at h <;> cases h
theorem ok23 (a b c d : Int) : FnOk Try.prog tgl 23 [.int .i64 a, .int .i64 b, .int .i64 c, .int .i64 d] (Mach.T ⟨a, 0, b, c, 0, d, 0, 0⟩) := by
  refine fn_ok (Γ := E0) env_E0 Try.func23 low23 ?_
  conv => whnf
  repeat' (first
    | (refine brK_true (by assumption) ?_; conv => whnf)
    | (refine brK_false (by assumption) ?_; conv => whnf)
    | (refine brK_true ?_ ?_; (focus (simp only [List.length_nil, not_t, not_f, lt_t, lt_f, le_t, le_f, eq_t, eq_f, us_len, is_len, bs_len, lenL_00] <;> omega)); conv => whnf)
    | (refine brK_false ?_ ?_; (focus (simp only [List.length_nil, not_t, not_f, lt_t, lt_f, le_t, le_f, eq_t, eq_f, us_len, is_len, bs_len, lenL_00] <;> omega)); conv => whnf)
    | ((refine brK_of (fun h => ?_) (fun h => ?_)) <;> (have h2 := h; (try simp only [List.length_nil, not_t, not_f, lt_t, lt_f, le_t, le_f, eq_t, eq_f, us_len, is_len, bs_len, lenL_00] at h2); conv => whnf))
    | (refine reqK_of ?_ ?_; (focus (first | decide | omega | assumption | (simp only [List.length_nil, not_t, not_f, lt_t, lt_f, le_t, le_f, eq_t, eq_f, us_len, is_len, bs_len, lenL_00] <;> omega) | (simp [keyNew, sameKey, kEq] <;> omega))); conv => whnf)
    | (refine reqK_of ?_ ?_; rotate_left; (conv => whnf); rotate_left)
    | (refine nth_us ?_ ?_ ?_; (focus (first | omega | (simp only [List.length_nil, not_t, not_f, lt_t, lt_f, le_t, le_f, eq_t, eq_f, us_len, is_len, bs_len, lenL_00] <;> omega))); (focus (first | omega | (simp only [List.length_nil, not_t, not_f, lt_t, lt_f, le_t, le_f, eq_t, eq_f, us_len, is_len, bs_len, lenL_00] <;> omega))); conv => whnf)
    | (refine nth_is ?_ ?_ ?_; (focus (first | omega | (simp only [List.length_nil, not_t, not_f, lt_t, lt_f, le_t, le_f, eq_t, eq_f, us_len, is_len, bs_len, lenL_00] <;> omega))); (focus (first | omega | (simp only [List.length_nil, not_t, not_f, lt_t, lt_f, le_t, le_f, eq_t, eq_f, us_len, is_len, bs_len, lenL_00] <;> omega))); conv => whnf)
    | (refine nth_bs ?_ ?_ ?_; (focus (first | omega | (simp only [List.length_nil, not_t, not_f, lt_t, lt_f, le_t, le_f, eq_t, eq_f, us_len, is_len, bs_len, lenL_00] <;> omega))); (focus (first | omega | (simp only [List.length_nil, not_t, not_f, lt_t, lt_f, le_t, le_f, eq_t, eq_f, us_len, is_len, bs_len, lenL_00] <;> omega))); conv => whnf))
  rfl
open Classical in
noncomputable def c23 : List T → Ans
  | [.int .i64 a, .int .i64 b, .int .i64 c, .int .i64 d] => .yes (Mach.T ⟨a, 0, b, c, 0, d, 0, 0⟩)
  | _ => .no
theorem got23 {vs : List T} {x : T} (h : Got (c23 vs) x) : FnOk Try.prog tgl 23 vs x := by
  unfold c23 at h
  split at h
  · rw [got_yes h]; exact ok23 _ _ _ _
  · exact (got_no h).elim
theorem nogl23 (vs : List T) (p : Prop) (sz : Nat) (xs : List T) (h : c23 vs = .gl p sz xs) : False := by
  unfold c23 at h
  split at h <;> cases h
theorem ok24 (a b c d : Int) : FnOk Try.prog tgl 24 [.int .i64 a, .int .i64 b, .int .i64 c, .int .i64 d] (Mach.T ⟨a, 0, b, c, 0, d, 0, 0⟩) := by
  refine fn_ok (Γ := E0) env_E0 Try.func24 low24 ?_
  conv => whnf
  repeat' (first
    | (refine brK_true (by assumption) ?_; conv => whnf)
    | (refine brK_false (by assumption) ?_; conv => whnf)
    | (refine brK_true ?_ ?_; (focus (simp only [List.length_nil, not_t, not_f, lt_t, lt_f, le_t, le_f, eq_t, eq_f, us_len, is_len, bs_len, lenL_00] <;> omega)); conv => whnf)
    | (refine brK_false ?_ ?_; (focus (simp only [List.length_nil, not_t, not_f, lt_t, lt_f, le_t, le_f, eq_t, eq_f, us_len, is_len, bs_len, lenL_00] <;> omega)); conv => whnf)
    | ((refine brK_of (fun h => ?_) (fun h => ?_)) <;> (have h2 := h; (try simp only [List.length_nil, not_t, not_f, lt_t, lt_f, le_t, le_f, eq_t, eq_f, us_len, is_len, bs_len, lenL_00] at h2); conv => whnf))
    | (refine reqK_of ?_ ?_; (focus (first | decide | omega | assumption | (simp only [List.length_nil, not_t, not_f, lt_t, lt_f, le_t, le_f, eq_t, eq_f, us_len, is_len, bs_len, lenL_00] <;> omega) | (simp [keyNew, sameKey, kEq] <;> omega))); conv => whnf)
    | (refine reqK_of ?_ ?_; rotate_left; (conv => whnf); rotate_left)
    | (refine nth_us ?_ ?_ ?_; (focus (first | omega | (simp only [List.length_nil, not_t, not_f, lt_t, lt_f, le_t, le_f, eq_t, eq_f, us_len, is_len, bs_len, lenL_00] <;> omega))); (focus (first | omega | (simp only [List.length_nil, not_t, not_f, lt_t, lt_f, le_t, le_f, eq_t, eq_f, us_len, is_len, bs_len, lenL_00] <;> omega))); conv => whnf)
    | (refine nth_is ?_ ?_ ?_; (focus (first | omega | (simp only [List.length_nil, not_t, not_f, lt_t, lt_f, le_t, le_f, eq_t, eq_f, us_len, is_len, bs_len, lenL_00] <;> omega))); (focus (first | omega | (simp only [List.length_nil, not_t, not_f, lt_t, lt_f, le_t, le_f, eq_t, eq_f, us_len, is_len, bs_len, lenL_00] <;> omega))); conv => whnf)
    | (refine nth_bs ?_ ?_ ?_; (focus (first | omega | (simp only [List.length_nil, not_t, not_f, lt_t, lt_f, le_t, le_f, eq_t, eq_f, us_len, is_len, bs_len, lenL_00] <;> omega))); (focus (first | omega | (simp only [List.length_nil, not_t, not_f, lt_t, lt_f, le_t, le_f, eq_t, eq_f, us_len, is_len, bs_len, lenL_00] <;> omega))); conv => whnf))
  rfl
open Classical in
noncomputable def c24 : List T → Ans
  | [.int .i64 a, .int .i64 b, .int .i64 c, .int .i64 d] => .yes (Mach.T ⟨a, 0, b, c, 0, d, 0, 0⟩)
  | _ => .no
theorem got24 {vs : List T} {x : T} (h : Got (c24 vs) x) : FnOk Try.prog tgl 24 vs x := by
  unfold c24 at h
  split at h
  · rw [got_yes h]; exact ok24 _ _ _ _
  · exact (got_no h).elim
theorem nogl24 (vs : List T) (p : Prop) (sz : Nat) (xs : List T) (h : c24 vs = .gl p sz xs) : False := by
  unfold c24 at h
  split at h <;> cases h
theorem ok12 (kind pc head next hh x y out : Int) : FnOk Try.prog tgl 12 [.agg [.int .i64 kind, .int .i64 pc, .int .i64 head, .int .i64 next, .int .u64 hh, .int .i64 x, .int .i64 y, .int .i64 out]] (Mach.T ⟨kind, pc, head, next, hh, x, y, out⟩) := by
  refine fn_ok (Γ := E0) env_E0 Try.func12 low12 ?_
  conv => whnf
  repeat' (first
    | (refine brK_true (by assumption) ?_; conv => whnf)
    | (refine brK_false (by assumption) ?_; conv => whnf)
    | (refine brK_true ?_ ?_; (focus (simp only [List.length_nil, not_t, not_f, lt_t, lt_f, le_t, le_f, eq_t, eq_f, us_len, is_len, bs_len, lenL_00] <;> omega)); conv => whnf)
    | (refine brK_false ?_ ?_; (focus (simp only [List.length_nil, not_t, not_f, lt_t, lt_f, le_t, le_f, eq_t, eq_f, us_len, is_len, bs_len, lenL_00] <;> omega)); conv => whnf)
    | ((refine brK_of (fun h => ?_) (fun h => ?_)) <;> (have h2 := h; (try simp only [List.length_nil, not_t, not_f, lt_t, lt_f, le_t, le_f, eq_t, eq_f, us_len, is_len, bs_len, lenL_00] at h2); conv => whnf))
    | (refine reqK_of ?_ ?_; (focus (first | decide | omega | assumption | (simp only [List.length_nil, not_t, not_f, lt_t, lt_f, le_t, le_f, eq_t, eq_f, us_len, is_len, bs_len, lenL_00] <;> omega) | (simp [keyNew, sameKey, kEq] <;> omega))); conv => whnf)
    | (refine reqK_of ?_ ?_; rotate_left; (conv => whnf); rotate_left)
    | (refine nth_us ?_ ?_ ?_; (focus (first | omega | (simp only [List.length_nil, not_t, not_f, lt_t, lt_f, le_t, le_f, eq_t, eq_f, us_len, is_len, bs_len, lenL_00] <;> omega))); (focus (first | omega | (simp only [List.length_nil, not_t, not_f, lt_t, lt_f, le_t, le_f, eq_t, eq_f, us_len, is_len, bs_len, lenL_00] <;> omega))); conv => whnf)
    | (refine nth_is ?_ ?_ ?_; (focus (first | omega | (simp only [List.length_nil, not_t, not_f, lt_t, lt_f, le_t, le_f, eq_t, eq_f, us_len, is_len, bs_len, lenL_00] <;> omega))); (focus (first | omega | (simp only [List.length_nil, not_t, not_f, lt_t, lt_f, le_t, le_f, eq_t, eq_f, us_len, is_len, bs_len, lenL_00] <;> omega))); conv => whnf)
    | (refine nth_bs ?_ ?_ ?_; (focus (first | omega | (simp only [List.length_nil, not_t, not_f, lt_t, lt_f, le_t, le_f, eq_t, eq_f, us_len, is_len, bs_len, lenL_00] <;> omega))); (focus (first | omega | (simp only [List.length_nil, not_t, not_f, lt_t, lt_f, le_t, le_f, eq_t, eq_f, us_len, is_len, bs_len, lenL_00] <;> omega))); conv => whnf))
  rfl
open Classical in
noncomputable def c12 : List T → Ans
  | [.agg [.int .i64 kind, .int .i64 pc, .int .i64 head, .int .i64 next, .int .u64 hh, .int .i64 x, .int .i64 y, .int .i64 out]] => .yes (Mach.T ⟨kind, pc, head, next, hh, x, y, out⟩)
  | _ => .no
theorem got12 {vs : List T} {x : T} (h : Got (c12 vs) x) : FnOk Try.prog tgl 12 vs x := by
  unfold c12 at h
  split at h
  · rw [got_yes h]; exact ok12 _ _ _ _ _ _ _ _
  · exact (got_no h).elim
theorem nogl12 (vs : List T) (p : Prop) (sz : Nat) (xs : List T) (h : c12 vs = .gl p sz xs) : False := by
  unfold c12 at h
  split at h <;> cases h
noncomputable def lE6 : List (Nat × (List T → Ans)) := (38, c38) :: lE0
noncomputable def iE6 : List (Nat × Pt) := iE0
noncomputable abbrev E6 : Env := En tgl lE6 iE6
theorem env_E6 : EnvOk Try.prog E6 := (env_fn env_E0 (fun _ _ => got38) fun vs p sz xs h _ => (nogl38 vs p sz xs h).elim)
theorem ok28 (xs ys : List T) (hq : (IsU xs ∧ Sz xs) ∧ IsU ys) : FnOk Try.prog tgl 28 [.list 1 xs, .list 1 ys] (.bool (eqL (nums xs) (nums ys))) := by
  refine fn_ok (Γ := E6) env_E6 Try.func28 low28 ?_
  conv => whnf
  repeat' (first
    | (refine brK_true (by assumption) ?_; conv => whnf)
    | (refine brK_false (by assumption) ?_; conv => whnf)
    | (refine brK_true ?_ ?_; (focus (simp only [List.length_nil, not_t, not_f, lt_t, lt_f, le_t, le_f, eq_t, eq_f, us_len, is_len, bs_len, lenL_00] <;> omega)); conv => whnf)
    | (refine brK_false ?_ ?_; (focus (simp only [List.length_nil, not_t, not_f, lt_t, lt_f, le_t, le_f, eq_t, eq_f, us_len, is_len, bs_len, lenL_00] <;> omega)); conv => whnf)
    | ((refine brK_of (fun h => ?_) (fun h => ?_)) <;> (have h2 := h; (try simp only [List.length_nil, not_t, not_f, lt_t, lt_f, le_t, le_f, eq_t, eq_f, us_len, is_len, bs_len, lenL_00] at h2); conv => whnf))
    | (refine reqK_of ?_ ?_; (focus (first | decide | omega | assumption | (simp only [List.length_nil, not_t, not_f, lt_t, lt_f, le_t, le_f, eq_t, eq_f, us_len, is_len, bs_len, lenL_00] <;> omega) | (simp [keyNew, sameKey, kEq] <;> omega))); conv => whnf)
    | (refine reqK_of ?_ ?_; rotate_left; (conv => whnf); rotate_left)
    | (refine nth_us ?_ ?_ ?_; (focus (first | omega | (simp only [List.length_nil, not_t, not_f, lt_t, lt_f, le_t, le_f, eq_t, eq_f, us_len, is_len, bs_len, lenL_00] <;> omega))); (focus (first | omega | (simp only [List.length_nil, not_t, not_f, lt_t, lt_f, le_t, le_f, eq_t, eq_f, us_len, is_len, bs_len, lenL_00] <;> omega))); conv => whnf)
    | (refine nth_is ?_ ?_ ?_; (focus (first | omega | (simp only [List.length_nil, not_t, not_f, lt_t, lt_f, le_t, le_f, eq_t, eq_f, us_len, is_len, bs_len, lenL_00] <;> omega))); (focus (first | omega | (simp only [List.length_nil, not_t, not_f, lt_t, lt_f, le_t, le_f, eq_t, eq_f, us_len, is_len, bs_len, lenL_00] <;> omega))); conv => whnf)
    | (refine nth_bs ?_ ?_ ?_; (focus (first | omega | (simp only [List.length_nil, not_t, not_f, lt_t, lt_f, le_t, le_f, eq_t, eq_f, us_len, is_len, bs_len, lenL_00] <;> omega))); (focus (first | omega | (simp only [List.length_nil, not_t, not_f, lt_t, lt_f, le_t, le_f, eq_t, eq_f, us_len, is_len, bs_len, lenL_00] <;> omega))); conv => whnf))
open Classical in
noncomputable def c28 : List T → Ans
  | [.list 1 xs, .list 1 ys] => .req ((IsU xs ∧ Sz xs) ∧ IsU ys) (.bool (eqL (nums xs) (nums ys)))
  | _ => .no
theorem got28 {vs : List T} {x : T} (h : Got (c28 vs) x) : FnOk Try.prog tgl 28 vs x := by
  unfold c28 at h
  split at h
  · obtain ⟨hq, e⟩ := got_req h; rw [e]; exact ok28 _ _ hq
  · exact (got_no h).elim
theorem nogl28 (vs : List T) (p : Prop) (sz : Nat) (xs : List T) (h : c28 vs = .gl p sz xs) : False := by
  unfold c28 at h
  split at h <;> cases h
end Go.Nx
