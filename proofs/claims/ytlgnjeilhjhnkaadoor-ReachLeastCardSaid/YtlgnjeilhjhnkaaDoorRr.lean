/-
  REACH: the least such set, walked.
-/
import Derived.Test.YtlgnjeilhjhnkaaDoorRq
set_option linter.unusedVariables false
set_option linter.unusedSimpArgs false
set_option maxRecDepth 20000
set_option maxHeartbeats 4000000
namespace Go.Nx
open Go.RowKit Go.Proofs

theorem rch_pred {L : List (List Int)} {s : B} {v : Int} (h : Rch L (fun _ => true) s v) : has s v = true ∨ ∃ o, o ≠ v ∧ Rch L (fun _ => true) s o ∧ edge L o v := by
  obtain ⟨a, e1, e2, e3⟩ := distI_yes h
  cases a with
  | zero => exact .inl e2.1
  | succ a =>
    obtain ⟨o, g1, _, g2⟩ := e2
    refine .inr ⟨o, fun e => ?_, ⟨a, g1⟩, g2⟩
    subst e
    have := e3 a g1
    omega
theorem mod64 {n : Int} (h : R8 n) : IntKind.i64.wrap ((IntKind.i64.wrap n).tmod 64) = n % 64 ∧ (IntKind.i64.wrap n).tmod 64 = n % 64 := by
  unfold R8 at h
  have e : IntKind.i64.wrap n = n := wrap_i64 ⟨by omega, by omega⟩
  rw [e, Int.tmod_eq_emod_of_nonneg h.1]
  exact ⟨wrap_i64 ⟨by omega, by omega⟩, rfl⟩
theorem ok7 (sl : Int) (xs : List T) (s x0 : Int) (hq : (IsR xs ∧ R64 s) ∧ R8 x0) : FnOk Tryd.prog tgl 7 [.agg [.int .i64 sl, .list 1 xs], .int .u64 s, .int .u8 x0] (.bool true) := by
  refine fn_ok (Γ := E13) env_E13 Tryd.func7 low7 ?_
  have hq1 := hq.1
  obtain ⟨⟨⟨L, rfl, hL, hl⟩, hs⟩, hx8⟩ := hq
  have hR : IsR (rs L) := ⟨L, rfl, hL, hl⟩
  by_cases hr : rightB sl L = true
  · obtain ⟨hr1, hr2, hr3, hr4⟩ := rightB_of hr
    obtain ⟨S, hS⟩ : ∃ S, S = rchB L (fun _ => true) (bv s) := ⟨_, rfl⟩
    obtain ⟨n, hn⟩ : ∃ n, n = L.length := ⟨_, rfl⟩
    have hown : ∀ v : Int, 1 ≤ v → v ≤ n → has (own L) v = true := fun v h1 h2 => by
      unfold own
      rw [has_first, obj_t (by omega) (by omega), decide_eq_true (by omega)]; rfl
    have hSo : ∀ v, has S v = true → 1 ≤ v ∧ v ≤ n := fun v hv => by
      rw [hS, has_rchB] at hv
      have h1 := has_range (rch_own hv)
      have h2 := own_le (rch_own hv)
      omega
    have hSe : ∀ o k, has S o = true → getV L o k ≠ 0 → has S (getV L o k) = true := fun o k h1 h2 => by
      have hm := get_mem h2
      have hv := (hr4 o hm.1 hm.2.1).2 _ hm.2.2
      rw [hS, has_rchB] at h1 ⊢
      exact rch_step h1 rfl ⟨hm.2.2, hown _ (by omega) (by omega)⟩
    have hm64 := (mod64 hx8).2
    have hmr : 0 ≤ x0 % 64 ∧ x0 % 64 < 64 := by omega
    obtain ⟨x, hx⟩ : ∃ x, x = x0 % 64 + 1 := ⟨_, rfl⟩
    have hwx : IntKind.i64.wrap (x0 % 64 + 1) = x := by rw [hx]; exact wrap_i64 ⟨by omega, by omega⟩
    conv => whnf
    repeat' (first
      | (refine brK_true (by assumption) ?_; conv => whnf)
      | (refine brK_false (by assumption) ?_; conv => whnf)
      | (refine brK_true ?_ ?_; (focus (simp only [List.length_nil, not_t, not_f, lt_t, lt_f, le_t, le_f, eq_t, eq_f, us_len, is_len, bs_len, lenL_00, rs_len, rowsOf_rs, hr] <;> omega)); conv => whnf)
      | (refine brK_false ?_ ?_; (focus (simp only [List.length_nil, not_t, not_f, lt_t, lt_f, le_t, le_f, eq_t, eq_f, us_len, is_len, bs_len, lenL_00, rs_len, rowsOf_rs, hr] <;> omega)); conv => whnf)
      | ((refine brK_of (fun h => ?_) (fun h => ?_)) <;> (have h2 := h; (try simp only [List.length_nil, not_t, not_f, lt_t, lt_f, le_t, le_f, eq_t, eq_f, us_len, is_len, bs_len, lenL_00, rs_len, rowsOf_rs, hr] at h2); conv => whnf))
      | (refine reqK_of ?_ ?_; (focus (first | decide | omega | assumption | (simp only [List.length_nil, not_t, not_f, lt_t, lt_f, le_t, le_f, eq_t, eq_f, us_len, is_len, bs_len, lenL_00, rs_len, rowsOf_rs, hr] <;> omega) | (simp [keyNew, sameKey, kEq] <;> omega))); conv => whnf)
      | (refine reqK_of ?_ ?_; rotate_left; (conv => whnf); rotate_left)
      | (refine nth_us ?_ ?_ ?_; (focus (first | omega | (simp only [List.length_nil, not_t, not_f, lt_t, lt_f, le_t, le_f, eq_t, eq_f, us_len, is_len, bs_len, lenL_00, rs_len, rowsOf_rs, hr] <;> omega))); (focus (first | omega | (simp only [List.length_nil, not_t, not_f, lt_t, lt_f, le_t, le_f, eq_t, eq_f, us_len, is_len, bs_len, lenL_00, rs_len, rowsOf_rs, hr] <;> omega))); conv => whnf)
      | (refine nth_is ?_ ?_ ?_; (focus (first | omega | (simp only [List.length_nil, not_t, not_f, lt_t, lt_f, le_t, le_f, eq_t, eq_f, us_len, is_len, bs_len, lenL_00, rs_len, rowsOf_rs, hr] <;> omega))); (focus (first | omega | (simp only [List.length_nil, not_t, not_f, lt_t, lt_f, le_t, le_f, eq_t, eq_f, us_len, is_len, bs_len, lenL_00, rs_len, rowsOf_rs, hr] <;> omega))); conv => whnf)
      | (refine nth_bs ?_ ?_ ?_; (focus (first | omega | (simp only [List.length_nil, not_t, not_f, lt_t, lt_f, le_t, le_f, eq_t, eq_f, us_len, is_len, bs_len, lenL_00, rs_len, rowsOf_rs, hr] <;> omega))); (focus (first | omega | (simp only [List.length_nil, not_t, not_f, lt_t, lt_f, le_t, le_f, eq_t, eq_f, us_len, is_len, bs_len, lenL_00, rs_len, rowsOf_rs, hr] <;> omega))); conv => whnf))
    rw [rowsOf_rs, ← hS, rs_len, ← hn]
    refine loopUp [] [.kill 11, .kill 12, .kill 13, .kill 33, .kill 34, .kill 35, .kill 36, .kill 37, .kill 38, .kill 39, .kill 40, .kill 41, .kill 42, .kill 43, .kill 44, .kill 45, .kill 46, .kill 47, .kill 48, .kill 49, .kill 50, .kill 51, .kill 52, .kill 53, .kill 54, .kill 55, .kill 56, .kill 57, .kill 58, .kill 59, .kill 60, .kill 61, .kill 62, .kill 63] (fun i : Nat => [(10, .t (.int .i64 ((i : Int) + 1)))]) (fun _ => []) (fun i => i ≤ n) (fun i => n - i) 0 (Nat.zero_le _) ?_
    conv => whnf
    refine ⟨⟨rfl, rfl⟩, fun i hi C hC => ?_⟩
    have hwi : IntKind.i64.wrap ((i : Int) + 1 + 1) = (i : Int) + 1 + 1 := wrap_i64 ⟨by omega, by omega⟩
    by_cases hlt : i < n
    · conv => whnf
      repeat' (first
        | (refine brK_true (by assumption) ?_; conv => whnf)
        | (refine brK_false (by assumption) ?_; conv => whnf)
        | (refine brK_true ?_ ?_; (focus (simp only [List.length_nil, not_t, not_f, lt_t, lt_f, le_t, le_f, eq_t, eq_f, us_len, is_len, bs_len, lenL_00] <;> omega)); conv => whnf)
        | (refine brK_false ?_ ?_; (focus (simp only [List.length_nil, not_t, not_f, lt_t, lt_f, le_t, le_f, eq_t, eq_f, us_len, is_len, bs_len, lenL_00] <;> omega)); conv => whnf)
        | ((refine brK_of (fun h => ?_) (fun h => ?_)) <;> (have h2 := h; (try simp only [List.length_nil, not_t, not_f, lt_t, lt_f, le_t, le_f, eq_t, eq_f, us_len, is_len, bs_len, lenL_00] at h2); conv => whnf))
        | (refine reqK_of ?_ ?_; (focus (first | decide | omega | assumption | (simp only [List.length_nil, not_t, not_f, lt_t, lt_f, le_t, le_f, eq_t, eq_f, us_len, is_len, bs_len, lenL_00] <;> omega) | (simp [keyNew, sameKey, kEq] <;> omega))); conv => whnf)
        | (refine reqK_of ?_ ?_; rotate_left; (conv => whnf); rotate_left)
        | (refine nth_us ?_ ?_ ?_; (focus (first | omega | (simp only [List.length_nil, not_t, not_f, lt_t, lt_f, le_t, le_f, eq_t, eq_f, us_len, is_len, bs_len, lenL_00] <;> omega))); (focus (first | omega | (simp only [List.length_nil, not_t, not_f, lt_t, lt_f, le_t, le_f, eq_t, eq_f, us_len, is_len, bs_len, lenL_00] <;> omega))); conv => whnf)
        | (refine nth_is ?_ ?_ ?_; (focus (first | omega | (simp only [List.length_nil, not_t, not_f, lt_t, lt_f, le_t, le_f, eq_t, eq_f, us_len, is_len, bs_len, lenL_00] <;> omega))); (focus (first | omega | (simp only [List.length_nil, not_t, not_f, lt_t, lt_f, le_t, le_f, eq_t, eq_f, us_len, is_len, bs_len, lenL_00] <;> omega))); conv => whnf)
        | (refine nth_bs ?_ ?_ ?_; (focus (first | omega | (simp only [List.length_nil, not_t, not_f, lt_t, lt_f, le_t, le_f, eq_t, eq_f, us_len, is_len, bs_len, lenL_00] <;> omega))); (focus (first | omega | (simp only [List.length_nil, not_t, not_f, lt_t, lt_f, le_t, le_f, eq_t, eq_f, us_len, is_len, bs_len, lenL_00] <;> omega))); conv => whnf))
      refine loopUp [] [.kill 12, .kill 13, .kill 38, .kill 39, .kill 40, .kill 41, .kill 42, .kill 43, .kill 44, .kill 45, .kill 46, .kill 47, .kill 48, .kill 49, .kill 50, .kill 51, .kill 52, .kill 53, .kill 54, .kill 55, .kill 56, .kill 57, .kill 58, .kill 59, .kill 60, .kill 61, .kill 62, .kill 63] (fun k : Nat => [(11, .t (.int .i64 (k : Int)))]) (fun _ => []) (fun k => (k : Int) ≤ sl) (fun k => sl.toNat - k) 0 (by first | omega | (simp only; omega)) ?_
      conv => whnf
      refine ⟨⟨rfl, rfl⟩, fun k hk C2 hC2 => ?_⟩
      have hwk : IntKind.i64.wrap ((k : Int) + 1) = (k : Int) + 1 := wrap_i64 ⟨by omega, by omega⟩
      have hse := hSe ((i : Int) + 1) k
      cases hsi : has S ((i : Int) + 1) with
      | true =>
        by_cases hv0 : getV L ((i : Int) + 1) k = 0
        · conv => whnf
          repeat' (first
            | (refine brK_true (by assumption) ?_; conv => whnf)
            | (refine brK_false (by assumption) ?_; conv => whnf)
            | (refine brK_true ?_ ?_; (focus (simp only [List.length_nil, not_t, not_f, lt_t, lt_f, le_t, le_f, eq_t, eq_f, us_len, is_len, bs_len, lenL_00, bv_iv, rowsOf_rs, hsi, hv0] <;> omega)); conv => whnf)
            | (refine brK_false ?_ ?_; (focus (simp only [List.length_nil, not_t, not_f, lt_t, lt_f, le_t, le_f, eq_t, eq_f, us_len, is_len, bs_len, lenL_00, bv_iv, rowsOf_rs, hsi, hv0] <;> omega)); conv => whnf)
            | ((refine brK_of (fun h => ?_) (fun h => ?_)) <;> (have h2 := h; (try simp only [List.length_nil, not_t, not_f, lt_t, lt_f, le_t, le_f, eq_t, eq_f, us_len, is_len, bs_len, lenL_00, bv_iv, rowsOf_rs, hsi, hv0] at h2); conv => whnf))
            | (refine reqK_of ?_ ?_; (focus (first | decide | omega | assumption | (simp only [List.length_nil, not_t, not_f, lt_t, lt_f, le_t, le_f, eq_t, eq_f, us_len, is_len, bs_len, lenL_00, bv_iv, rowsOf_rs, hsi, hv0] <;> omega) | (simp [keyNew, sameKey, kEq] <;> omega))); conv => whnf)
            | (refine reqK_of ?_ ?_; rotate_left; (conv => whnf); rotate_left)
            | (refine nth_us ?_ ?_ ?_; (focus (first | omega | (simp only [List.length_nil, not_t, not_f, lt_t, lt_f, le_t, le_f, eq_t, eq_f, us_len, is_len, bs_len, lenL_00, bv_iv, rowsOf_rs, hsi, hv0] <;> omega))); (focus (first | omega | (simp only [List.length_nil, not_t, not_f, lt_t, lt_f, le_t, le_f, eq_t, eq_f, us_len, is_len, bs_len, lenL_00, bv_iv, rowsOf_rs, hsi, hv0] <;> omega))); conv => whnf)
            | (refine nth_is ?_ ?_ ?_; (focus (first | omega | (simp only [List.length_nil, not_t, not_f, lt_t, lt_f, le_t, le_f, eq_t, eq_f, us_len, is_len, bs_len, lenL_00, bv_iv, rowsOf_rs, hsi, hv0] <;> omega))); (focus (first | omega | (simp only [List.length_nil, not_t, not_f, lt_t, lt_f, le_t, le_f, eq_t, eq_f, us_len, is_len, bs_len, lenL_00, bv_iv, rowsOf_rs, hsi, hv0] <;> omega))); conv => whnf)
            | (refine nth_bs ?_ ?_ ?_; (focus (first | omega | (simp only [List.length_nil, not_t, not_f, lt_t, lt_f, le_t, le_f, eq_t, eq_f, us_len, is_len, bs_len, lenL_00, bv_iv, rowsOf_rs, hsi, hv0] <;> omega))); (focus (first | omega | (simp only [List.length_nil, not_t, not_f, lt_t, lt_f, le_t, le_f, eq_t, eq_f, us_len, is_len, bs_len, lenL_00, bv_iv, rowsOf_rs, hsi, hv0] <;> omega))); conv => whnf))
          · refine loopC (hC2 (k + 1) (by first | omega | (simp only; omega)) (by omega)) ?_
            rw [hwk, Int.natCast_succ]
            rfl
          · refine loopC (hC (i + 1) (by omega) (by omega)) ?_
            rw [hwi, Int.natCast_succ]
            rfl
        · have hsv := hse hsi hv0
          conv => whnf
          repeat' (first
            | (refine brK_true (by assumption) ?_; conv => whnf)
            | (refine brK_false (by assumption) ?_; conv => whnf)
            | (refine brK_true ?_ ?_; (focus (simp only [List.length_nil, not_t, not_f, lt_t, lt_f, le_t, le_f, eq_t, eq_f, us_len, is_len, bs_len, lenL_00, bv_iv, rowsOf_rs, hsi, hsv] <;> omega)); conv => whnf)
            | (refine brK_false ?_ ?_; (focus (simp only [List.length_nil, not_t, not_f, lt_t, lt_f, le_t, le_f, eq_t, eq_f, us_len, is_len, bs_len, lenL_00, bv_iv, rowsOf_rs, hsi, hsv] <;> omega)); conv => whnf)
            | ((refine brK_of (fun h => ?_) (fun h => ?_)) <;> (have h2 := h; (try simp only [List.length_nil, not_t, not_f, lt_t, lt_f, le_t, le_f, eq_t, eq_f, us_len, is_len, bs_len, lenL_00, bv_iv, rowsOf_rs, hsi, hsv] at h2); conv => whnf))
            | (refine reqK_of ?_ ?_; (focus (first | decide | omega | assumption | (simp only [List.length_nil, not_t, not_f, lt_t, lt_f, le_t, le_f, eq_t, eq_f, us_len, is_len, bs_len, lenL_00, bv_iv, rowsOf_rs, hsi, hsv] <;> omega) | (simp [keyNew, sameKey, kEq] <;> omega))); conv => whnf)
            | (refine reqK_of ?_ ?_; rotate_left; (conv => whnf); rotate_left)
            | (refine nth_us ?_ ?_ ?_; (focus (first | omega | (simp only [List.length_nil, not_t, not_f, lt_t, lt_f, le_t, le_f, eq_t, eq_f, us_len, is_len, bs_len, lenL_00, bv_iv, rowsOf_rs, hsi, hsv] <;> omega))); (focus (first | omega | (simp only [List.length_nil, not_t, not_f, lt_t, lt_f, le_t, le_f, eq_t, eq_f, us_len, is_len, bs_len, lenL_00, bv_iv, rowsOf_rs, hsi, hsv] <;> omega))); conv => whnf)
            | (refine nth_is ?_ ?_ ?_; (focus (first | omega | (simp only [List.length_nil, not_t, not_f, lt_t, lt_f, le_t, le_f, eq_t, eq_f, us_len, is_len, bs_len, lenL_00, bv_iv, rowsOf_rs, hsi, hsv] <;> omega))); (focus (first | omega | (simp only [List.length_nil, not_t, not_f, lt_t, lt_f, le_t, le_f, eq_t, eq_f, us_len, is_len, bs_len, lenL_00, bv_iv, rowsOf_rs, hsi, hsv] <;> omega))); conv => whnf)
            | (refine nth_bs ?_ ?_ ?_; (focus (first | omega | (simp only [List.length_nil, not_t, not_f, lt_t, lt_f, le_t, le_f, eq_t, eq_f, us_len, is_len, bs_len, lenL_00, bv_iv, rowsOf_rs, hsi, hsv] <;> omega))); (focus (first | omega | (simp only [List.length_nil, not_t, not_f, lt_t, lt_f, le_t, le_f, eq_t, eq_f, us_len, is_len, bs_len, lenL_00, bv_iv, rowsOf_rs, hsi, hsv] <;> omega))); conv => whnf))
          · refine loopC (hC2 (k + 1) (by first | omega | (simp only; omega)) (by omega)) ?_
            rw [hwk, Int.natCast_succ]
            rfl
          · refine loopC (hC (i + 1) (by omega) (by omega)) ?_
            rw [hwi, Int.natCast_succ]
            rfl
      | false =>
        conv => whnf
        repeat' (first
          | (refine brK_true (by assumption) ?_; conv => whnf)
          | (refine brK_false (by assumption) ?_; conv => whnf)
          | (refine brK_true ?_ ?_; (focus (simp only [List.length_nil, not_t, not_f, lt_t, lt_f, le_t, le_f, eq_t, eq_f, us_len, is_len, bs_len, lenL_00, bv_iv, hsi] <;> omega)); conv => whnf)
          | (refine brK_false ?_ ?_; (focus (simp only [List.length_nil, not_t, not_f, lt_t, lt_f, le_t, le_f, eq_t, eq_f, us_len, is_len, bs_len, lenL_00, bv_iv, hsi] <;> omega)); conv => whnf)
          | ((refine brK_of (fun h => ?_) (fun h => ?_)) <;> (have h2 := h; (try simp only [List.length_nil, not_t, not_f, lt_t, lt_f, le_t, le_f, eq_t, eq_f, us_len, is_len, bs_len, lenL_00, bv_iv, hsi] at h2); conv => whnf))
          | (refine reqK_of ?_ ?_; (focus (first | decide | omega | assumption | (simp only [List.length_nil, not_t, not_f, lt_t, lt_f, le_t, le_f, eq_t, eq_f, us_len, is_len, bs_len, lenL_00, bv_iv, hsi] <;> omega) | (simp [keyNew, sameKey, kEq] <;> omega))); conv => whnf)
          | (refine reqK_of ?_ ?_; rotate_left; (conv => whnf); rotate_left)
          | (refine nth_us ?_ ?_ ?_; (focus (first | omega | (simp only [List.length_nil, not_t, not_f, lt_t, lt_f, le_t, le_f, eq_t, eq_f, us_len, is_len, bs_len, lenL_00, bv_iv, hsi] <;> omega))); (focus (first | omega | (simp only [List.length_nil, not_t, not_f, lt_t, lt_f, le_t, le_f, eq_t, eq_f, us_len, is_len, bs_len, lenL_00, bv_iv, hsi] <;> omega))); conv => whnf)
          | (refine nth_is ?_ ?_ ?_; (focus (first | omega | (simp only [List.length_nil, not_t, not_f, lt_t, lt_f, le_t, le_f, eq_t, eq_f, us_len, is_len, bs_len, lenL_00, bv_iv, hsi] <;> omega))); (focus (first | omega | (simp only [List.length_nil, not_t, not_f, lt_t, lt_f, le_t, le_f, eq_t, eq_f, us_len, is_len, bs_len, lenL_00, bv_iv, hsi] <;> omega))); conv => whnf)
          | (refine nth_bs ?_ ?_ ?_; (focus (first | omega | (simp only [List.length_nil, not_t, not_f, lt_t, lt_f, le_t, le_f, eq_t, eq_f, us_len, is_len, bs_len, lenL_00, bv_iv, hsi] <;> omega))); (focus (first | omega | (simp only [List.length_nil, not_t, not_f, lt_t, lt_f, le_t, le_f, eq_t, eq_f, us_len, is_len, bs_len, lenL_00, bv_iv, hsi] <;> omega))); conv => whnf))
        all_goals
          refine loopC (hC (i + 1) (by omega) (by omega)) ?_
          rw [hwi, Int.natCast_succ]
          rfl
    · have hU1 : under (bv (andI .u64 s (iv (first (n : Int))))) (bv (iv S)) = true := by
        rw [andI_u, bv_iv, bv_iv, bv_iv, under_iff]
        intro o ho
        rw [has_and, Bool.and_eq_true, has_first, Bool.and_eq_true, decide_eq_true_eq] at ho
        have := obj_iff.1 ho.2.1
        rw [hS, has_rchB]
        exact rch_root ho.1 (hown o this.1 ho.2.2)
      have hU2 : under (bv (iv S)) (bv (iv (first (n : Int)))) = true := by
        rw [bv_iv, bv_iv, under_iff]
        intro o ho
        have := hSo o ho
        rw [has_first, obj_t (by omega) (by omega), decide_eq_true this.2]; rfl
      have hroot : has (bv s) x = true → x ≤ n → has S x = true := fun h1 h2 => by
        rw [hS, has_rchB]; exact rch_root h1 (hown x (by omega) h2)
      conv => whnf
      repeat' (first
        | (refine brK_true (by assumption) ?_; conv => whnf)
        | (refine brK_false (by assumption) ?_; conv => whnf)
        | (refine brK_true ?_ ?_; (focus (simp only [List.length_nil, not_t, not_f, lt_t, lt_f, le_t, le_f, eq_t, eq_f, us_len, is_len, bs_len, lenL_00, hm64, hwx] <;> omega)); conv => whnf)
        | (refine brK_false ?_ ?_; (focus (simp only [List.length_nil, not_t, not_f, lt_t, lt_f, le_t, le_f, eq_t, eq_f, us_len, is_len, bs_len, lenL_00, hm64, hwx] <;> omega)); conv => whnf)
        | ((refine brK_of (fun h => ?_) (fun h => ?_)) <;> (have h2 := h; (try simp only [List.length_nil, not_t, not_f, lt_t, lt_f, le_t, le_f, eq_t, eq_f, us_len, is_len, bs_len, lenL_00, hm64, hwx] at h2); conv => whnf))
        | (refine reqK_of ?_ ?_; (focus (first | decide | omega | assumption | (simp only [List.length_nil, not_t, not_f, lt_t, lt_f, le_t, le_f, eq_t, eq_f, us_len, is_len, bs_len, lenL_00, hm64, hwx] <;> omega) | (simp [keyNew, sameKey, kEq] <;> omega))); conv => whnf)
        | (refine reqK_of ?_ ?_; rotate_left; (conv => whnf); rotate_left)
        | (refine nth_us ?_ ?_ ?_; (focus (first | omega | (simp only [List.length_nil, not_t, not_f, lt_t, lt_f, le_t, le_f, eq_t, eq_f, us_len, is_len, bs_len, lenL_00, hm64, hwx] <;> omega))); (focus (first | omega | (simp only [List.length_nil, not_t, not_f, lt_t, lt_f, le_t, le_f, eq_t, eq_f, us_len, is_len, bs_len, lenL_00, hm64, hwx] <;> omega))); conv => whnf)
        | (refine nth_is ?_ ?_ ?_; (focus (first | omega | (simp only [List.length_nil, not_t, not_f, lt_t, lt_f, le_t, le_f, eq_t, eq_f, us_len, is_len, bs_len, lenL_00, hm64, hwx] <;> omega))); (focus (first | omega | (simp only [List.length_nil, not_t, not_f, lt_t, lt_f, le_t, le_f, eq_t, eq_f, us_len, is_len, bs_len, lenL_00, hm64, hwx] <;> omega))); conv => whnf)
        | (refine nth_bs ?_ ?_ ?_; (focus (first | omega | (simp only [List.length_nil, not_t, not_f, lt_t, lt_f, le_t, le_f, eq_t, eq_f, us_len, is_len, bs_len, lenL_00, hm64, hwx] <;> omega))); (focus (first | omega | (simp only [List.length_nil, not_t, not_f, lt_t, lt_f, le_t, le_f, eq_t, eq_f, us_len, is_len, bs_len, lenL_00, hm64, hwx] <;> omega))); conv => whnf))
      all_goals rw [hm64, hwx]
      · refine loopUp [] [.kill 17, .kill 18, .kill 19, .kill 76, .kill 77, .kill 78, .kill 79, .kill 80, .kill 81, .kill 82, .kill 83, .kill 84, .kill 85, .kill 86, .kill 87, .kill 88, .kill 89, .kill 90, .kill 91, .kill 92, .kill 93, .kill 94, .kill 95, .kill 96, .kill 97, .kill 98, .kill 99, .kill 100, .kill 101, .kill 102, .kill 103, .kill 104, .kill 105, .kill 106, .kill 107, .kill 108, .kill 109] (fun a : Nr => [(15, .t (.bool a.near)), (16, .t (.int .i64 ((a.j : Int) + 1)))]) (fun _ => []) (fun a => a.j ≤ n ∧ (a.near = true → has S x = true) ∧ (a.near = false → ¬ (has (bv s) x = true ∧ x ≤ n) ∧ ∀ i k : Nat, i < a.j → (k : Int) < sl → (i : Int) + 1 ≠ x → ¬ (getV L ((i : Int) + 1) k = x ∧ has S ((i : Int) + 1) = true))) (fun a => n - a.j) ⟨0, leI x n⟩ ⟨Nat.zero_le _, fun h => hroot (by assumption) (le_t.1 h), fun h => ⟨fun g => by have := le_f.1 h; omega, fun i k h => absurd h (Nat.not_lt_zero _)⟩⟩ ?_
        conv => whnf
        refine ⟨⟨rfl, rfl⟩, fun a ha C hC => ?_⟩
        obtain ⟨ha1, ha2, ha3⟩ := ha
        have hwi2 : IntKind.i64.wrap ((a.j : Int) + 1 + 1) = (a.j : Int) + 1 + 1 := wrap_i64 ⟨by omega, by omega⟩
        by_cases hlt2 : a.j < n
        · conv => whnf
          repeat' (first
            | (refine brK_true (by assumption) ?_; conv => whnf)
            | (refine brK_false (by assumption) ?_; conv => whnf)
            | (refine brK_true ?_ ?_; (focus (simp only [List.length_nil, not_t, not_f, lt_t, lt_f, le_t, le_f, eq_t, eq_f, us_len, is_len, bs_len, lenL_00] <;> omega)); conv => whnf)
            | (refine brK_false ?_ ?_; (focus (simp only [List.length_nil, not_t, not_f, lt_t, lt_f, le_t, le_f, eq_t, eq_f, us_len, is_len, bs_len, lenL_00] <;> omega)); conv => whnf)
            | ((refine brK_of (fun h => ?_) (fun h => ?_)) <;> (have h2 := h; (try simp only [List.length_nil, not_t, not_f, lt_t, lt_f, le_t, le_f, eq_t, eq_f, us_len, is_len, bs_len, lenL_00] at h2); conv => whnf))
            | (refine reqK_of ?_ ?_; (focus (first | decide | omega | assumption | (simp only [List.length_nil, not_t, not_f, lt_t, lt_f, le_t, le_f, eq_t, eq_f, us_len, is_len, bs_len, lenL_00] <;> omega) | (simp [keyNew, sameKey, kEq] <;> omega))); conv => whnf)
            | (refine reqK_of ?_ ?_; rotate_left; (conv => whnf); rotate_left)
            | (refine nth_us ?_ ?_ ?_; (focus (first | omega | (simp only [List.length_nil, not_t, not_f, lt_t, lt_f, le_t, le_f, eq_t, eq_f, us_len, is_len, bs_len, lenL_00] <;> omega))); (focus (first | omega | (simp only [List.length_nil, not_t, not_f, lt_t, lt_f, le_t, le_f, eq_t, eq_f, us_len, is_len, bs_len, lenL_00] <;> omega))); conv => whnf)
            | (refine nth_is ?_ ?_ ?_; (focus (first | omega | (simp only [List.length_nil, not_t, not_f, lt_t, lt_f, le_t, le_f, eq_t, eq_f, us_len, is_len, bs_len, lenL_00] <;> omega))); (focus (first | omega | (simp only [List.length_nil, not_t, not_f, lt_t, lt_f, le_t, le_f, eq_t, eq_f, us_len, is_len, bs_len, lenL_00] <;> omega))); conv => whnf)
            | (refine nth_bs ?_ ?_ ?_; (focus (first | omega | (simp only [List.length_nil, not_t, not_f, lt_t, lt_f, le_t, le_f, eq_t, eq_f, us_len, is_len, bs_len, lenL_00] <;> omega))); (focus (first | omega | (simp only [List.length_nil, not_t, not_f, lt_t, lt_f, le_t, le_f, eq_t, eq_f, us_len, is_len, bs_len, lenL_00] <;> omega))); conv => whnf))
          refine loopUp [] [.kill 18, .kill 19, .kill 81, .kill 82, .kill 83, .kill 84, .kill 85, .kill 86, .kill 87, .kill 88, .kill 89, .kill 90, .kill 91, .kill 92, .kill 93, .kill 94, .kill 95, .kill 96, .kill 97, .kill 98, .kill 99, .kill 100, .kill 101, .kill 102, .kill 103, .kill 104, .kill 105, .kill 106, .kill 107, .kill 108, .kill 109] (fun b : Nr => [(15, .t (.bool b.near)), (17, .t (.int .i64 (b.j : Int)))]) (fun _ => []) (fun b => (b.j : Int) ≤ sl ∧ (b.near = true → has S x = true) ∧ (b.near = false → a.near = false ∧ ∀ k : Nat, k < b.j → (a.j : Int) + 1 ≠ x → ¬ (getV L ((a.j : Int) + 1) k = x ∧ has S ((a.j : Int) + 1) = true))) (fun b => sl.toNat - b.j) ⟨0, a.near⟩ ⟨by first | omega | (simp only; omega), ha2, fun h => ⟨h, fun k h => absurd h (Nat.not_lt_zero _)⟩⟩ ?_
          conv => whnf
          refine ⟨⟨rfl, rfl⟩, fun b hb C2 hC2 => ?_⟩
          obtain ⟨hb1, hb2, hb3⟩ := hb
          have hwk2 : IntKind.i64.wrap ((b.j : Int) + 1) = (b.j : Int) + 1 := wrap_i64 ⟨by omega, by omega⟩
          have hse2 := hSe ((a.j : Int) + 1) b.j
          by_cases hks : (b.j : Int) < sl
          rotate_left
          · conv => whnf
            repeat' (first
              | (refine brK_true (by assumption) ?_; conv => whnf)
              | (refine brK_false (by assumption) ?_; conv => whnf)
              | (refine brK_true ?_ ?_; (focus (simp only [List.length_nil, not_t, not_f, lt_t, lt_f, le_t, le_f, eq_t, eq_f, us_len, is_len, bs_len, lenL_00, hm64, hwx] <;> omega)); conv => whnf)
              | (refine brK_false ?_ ?_; (focus (simp only [List.length_nil, not_t, not_f, lt_t, lt_f, le_t, le_f, eq_t, eq_f, us_len, is_len, bs_len, lenL_00, hm64, hwx] <;> omega)); conv => whnf)
              | ((refine brK_of (fun h => ?_) (fun h => ?_)) <;> (have h2 := h; (try simp only [List.length_nil, not_t, not_f, lt_t, lt_f, le_t, le_f, eq_t, eq_f, us_len, is_len, bs_len, lenL_00, hm64, hwx] at h2); conv => whnf))
              | (refine reqK_of ?_ ?_; (focus (first | decide | omega | assumption | (simp only [List.length_nil, not_t, not_f, lt_t, lt_f, le_t, le_f, eq_t, eq_f, us_len, is_len, bs_len, lenL_00, hm64, hwx] <;> omega) | (simp [keyNew, sameKey, kEq] <;> omega))); conv => whnf)
              | (refine reqK_of ?_ ?_; rotate_left; (conv => whnf); rotate_left)
              | (refine nth_us ?_ ?_ ?_; (focus (first | omega | (simp only [List.length_nil, not_t, not_f, lt_t, lt_f, le_t, le_f, eq_t, eq_f, us_len, is_len, bs_len, lenL_00, hm64, hwx] <;> omega))); (focus (first | omega | (simp only [List.length_nil, not_t, not_f, lt_t, lt_f, le_t, le_f, eq_t, eq_f, us_len, is_len, bs_len, lenL_00, hm64, hwx] <;> omega))); conv => whnf)
              | (refine nth_is ?_ ?_ ?_; (focus (first | omega | (simp only [List.length_nil, not_t, not_f, lt_t, lt_f, le_t, le_f, eq_t, eq_f, us_len, is_len, bs_len, lenL_00, hm64, hwx] <;> omega))); (focus (first | omega | (simp only [List.length_nil, not_t, not_f, lt_t, lt_f, le_t, le_f, eq_t, eq_f, us_len, is_len, bs_len, lenL_00, hm64, hwx] <;> omega))); conv => whnf)
              | (refine nth_bs ?_ ?_ ?_; (focus (first | omega | (simp only [List.length_nil, not_t, not_f, lt_t, lt_f, le_t, le_f, eq_t, eq_f, us_len, is_len, bs_len, lenL_00, hm64, hwx] <;> omega))); (focus (first | omega | (simp only [List.length_nil, not_t, not_f, lt_t, lt_f, le_t, le_f, eq_t, eq_f, us_len, is_len, bs_len, lenL_00, hm64, hwx] <;> omega))); conv => whnf))
            all_goals
              refine loopC (hC ⟨a.j + 1, b.near⟩ ⟨by first | omega | (simp only; omega), hb2, fun h => ?_⟩ (by first | omega | (simp only; omega))) ?_
              · obtain ⟨g1, g2⟩ := hb3 h
                obtain ⟨g3, g4⟩ := ha3 g1
                refine ⟨g3, fun i k hi hk hix => ?_⟩
                rcases Nat.lt_or_ge i a.j with g | g
                · exact g4 i k g hk hix
                · have ei : i = a.j := by simp only at hi; omega
                  rw [ei] at hix ⊢
                  exact g2 k (by omega) hix
              · rw [hwi2, Int.natCast_succ]
                rfl
          by_cases hne : (a.j : Int) + 1 ≠ x
          rotate_left
          · conv => whnf
            repeat' (first
              | (refine brK_true (by assumption) ?_; conv => whnf)
              | (refine brK_false (by assumption) ?_; conv => whnf)
              | (refine brK_true ?_ ?_; (focus (simp only [List.length_nil, not_t, not_f, lt_t, lt_f, le_t, le_f, eq_t, eq_f, us_len, is_len, bs_len, lenL_00, hm64, hwx] <;> omega)); conv => whnf)
              | (refine brK_false ?_ ?_; (focus (simp only [List.length_nil, not_t, not_f, lt_t, lt_f, le_t, le_f, eq_t, eq_f, us_len, is_len, bs_len, lenL_00, hm64, hwx] <;> omega)); conv => whnf)
              | ((refine brK_of (fun h => ?_) (fun h => ?_)) <;> (have h2 := h; (try simp only [List.length_nil, not_t, not_f, lt_t, lt_f, le_t, le_f, eq_t, eq_f, us_len, is_len, bs_len, lenL_00, hm64, hwx] at h2); conv => whnf))
              | (refine reqK_of ?_ ?_; (focus (first | decide | omega | assumption | (simp only [List.length_nil, not_t, not_f, lt_t, lt_f, le_t, le_f, eq_t, eq_f, us_len, is_len, bs_len, lenL_00, hm64, hwx] <;> omega) | (simp [keyNew, sameKey, kEq] <;> omega))); conv => whnf)
              | (refine reqK_of ?_ ?_; rotate_left; (conv => whnf); rotate_left)
              | (refine nth_us ?_ ?_ ?_; (focus (first | omega | (simp only [List.length_nil, not_t, not_f, lt_t, lt_f, le_t, le_f, eq_t, eq_f, us_len, is_len, bs_len, lenL_00, hm64, hwx] <;> omega))); (focus (first | omega | (simp only [List.length_nil, not_t, not_f, lt_t, lt_f, le_t, le_f, eq_t, eq_f, us_len, is_len, bs_len, lenL_00, hm64, hwx] <;> omega))); conv => whnf)
              | (refine nth_is ?_ ?_ ?_; (focus (first | omega | (simp only [List.length_nil, not_t, not_f, lt_t, lt_f, le_t, le_f, eq_t, eq_f, us_len, is_len, bs_len, lenL_00, hm64, hwx] <;> omega))); (focus (first | omega | (simp only [List.length_nil, not_t, not_f, lt_t, lt_f, le_t, le_f, eq_t, eq_f, us_len, is_len, bs_len, lenL_00, hm64, hwx] <;> omega))); conv => whnf)
              | (refine nth_bs ?_ ?_ ?_; (focus (first | omega | (simp only [List.length_nil, not_t, not_f, lt_t, lt_f, le_t, le_f, eq_t, eq_f, us_len, is_len, bs_len, lenL_00, hm64, hwx] <;> omega))); (focus (first | omega | (simp only [List.length_nil, not_t, not_f, lt_t, lt_f, le_t, le_f, eq_t, eq_f, us_len, is_len, bs_len, lenL_00, hm64, hwx] <;> omega))); conv => whnf))
            all_goals
              refine loopC (hC ⟨a.j + 1, b.near⟩ ⟨by first | omega | (simp only; omega), hb2, fun h => ?_⟩ (by first | omega | (simp only; omega))) ?_
              · obtain ⟨g1, g2⟩ := hb3 h
                obtain ⟨g3, g4⟩ := ha3 g1
                refine ⟨g3, fun i k hi hk hix => ?_⟩
                rcases Nat.lt_or_ge i a.j with g | g
                · exact g4 i k g hk hix
                · have ei : i = a.j := by simp only at hi; omega
                  rw [ei] at hix ⊢
                  exact g2 k (by omega) hix
              · rw [hwi2, Int.natCast_succ]
                rfl
          · cases hnear : b.near with
            | true =>
              conv => whnf
              repeat' (first
                | (refine brK_true (by assumption) ?_; conv => whnf)
                | (refine brK_false (by assumption) ?_; conv => whnf)
                | (refine brK_true ?_ ?_; (focus (simp only [List.length_nil, not_t, not_f, lt_t, lt_f, le_t, le_f, eq_t, eq_f, us_len, is_len, bs_len, lenL_00, hm64, hwx, rowsOf_rs, bv_iv] <;> omega)); conv => whnf)
                | (refine brK_false ?_ ?_; (focus (simp only [List.length_nil, not_t, not_f, lt_t, lt_f, le_t, le_f, eq_t, eq_f, us_len, is_len, bs_len, lenL_00, hm64, hwx, rowsOf_rs, bv_iv] <;> omega)); conv => whnf)
                | ((refine brK_of (fun h => ?_) (fun h => ?_)) <;> (have h2 := h; (try simp only [List.length_nil, not_t, not_f, lt_t, lt_f, le_t, le_f, eq_t, eq_f, us_len, is_len, bs_len, lenL_00, hm64, hwx, rowsOf_rs, bv_iv] at h2); conv => whnf))
                | (refine reqK_of ?_ ?_; (focus (first | decide | omega | assumption | (simp only [List.length_nil, not_t, not_f, lt_t, lt_f, le_t, le_f, eq_t, eq_f, us_len, is_len, bs_len, lenL_00, hm64, hwx, rowsOf_rs, bv_iv] <;> omega) | (simp [keyNew, sameKey, kEq] <;> omega))); conv => whnf)
                | (refine reqK_of ?_ ?_; rotate_left; (conv => whnf); rotate_left)
                | (refine nth_us ?_ ?_ ?_; (focus (first | omega | (simp only [List.length_nil, not_t, not_f, lt_t, lt_f, le_t, le_f, eq_t, eq_f, us_len, is_len, bs_len, lenL_00, hm64, hwx, rowsOf_rs, bv_iv] <;> omega))); (focus (first | omega | (simp only [List.length_nil, not_t, not_f, lt_t, lt_f, le_t, le_f, eq_t, eq_f, us_len, is_len, bs_len, lenL_00, hm64, hwx, rowsOf_rs, bv_iv] <;> omega))); conv => whnf)
                | (refine nth_is ?_ ?_ ?_; (focus (first | omega | (simp only [List.length_nil, not_t, not_f, lt_t, lt_f, le_t, le_f, eq_t, eq_f, us_len, is_len, bs_len, lenL_00, hm64, hwx, rowsOf_rs, bv_iv] <;> omega))); (focus (first | omega | (simp only [List.length_nil, not_t, not_f, lt_t, lt_f, le_t, le_f, eq_t, eq_f, us_len, is_len, bs_len, lenL_00, hm64, hwx, rowsOf_rs, bv_iv] <;> omega))); conv => whnf)
                | (refine nth_bs ?_ ?_ ?_; (focus (first | omega | (simp only [List.length_nil, not_t, not_f, lt_t, lt_f, le_t, le_f, eq_t, eq_f, us_len, is_len, bs_len, lenL_00, hm64, hwx, rowsOf_rs, bv_iv] <;> omega))); (focus (first | omega | (simp only [List.length_nil, not_t, not_f, lt_t, lt_f, le_t, le_f, eq_t, eq_f, us_len, is_len, bs_len, lenL_00, hm64, hwx, rowsOf_rs, bv_iv] <;> omega))); conv => whnf))
              all_goals
                refine loopC (hC2 ⟨b.j + 1, true⟩ ⟨by first | omega | (simp only; omega), fun _ => hb2 hnear, fun h => (by cases h)⟩ (by first | omega | (simp only; omega))) ?_
                rw [hwk2, Int.natCast_succ]
                rfl
            | false =>
              obtain ⟨g1, g2⟩ := hb3 hnear
              by_cases hvx : getV L ((a.j : Int) + 1) b.j = x
              · cases hsa : has S ((a.j : Int) + 1) with
                | true =>
                  have hsx : has S x = true := by rw [← hvx]; exact hse2 hsa (by rw [hvx]; omega)
                  conv => whnf
                  repeat' (first
                    | (refine brK_true (by assumption) ?_; conv => whnf)
                    | (refine brK_false (by assumption) ?_; conv => whnf)
                    | (refine brK_true ?_ ?_; (focus (simp only [List.length_nil, not_t, not_f, lt_t, lt_f, le_t, le_f, eq_t, eq_f, us_len, is_len, bs_len, lenL_00, hm64, hwx, rowsOf_rs, bv_iv, hvx, hsa] <;> omega)); conv => whnf)
                    | (refine brK_false ?_ ?_; (focus (simp only [List.length_nil, not_t, not_f, lt_t, lt_f, le_t, le_f, eq_t, eq_f, us_len, is_len, bs_len, lenL_00, hm64, hwx, rowsOf_rs, bv_iv, hvx, hsa] <;> omega)); conv => whnf)
                    | ((refine brK_of (fun h => ?_) (fun h => ?_)) <;> (have h2 := h; (try simp only [List.length_nil, not_t, not_f, lt_t, lt_f, le_t, le_f, eq_t, eq_f, us_len, is_len, bs_len, lenL_00, hm64, hwx, rowsOf_rs, bv_iv, hvx, hsa] at h2); conv => whnf))
                    | (refine reqK_of ?_ ?_; (focus (first | decide | omega | assumption | (simp only [List.length_nil, not_t, not_f, lt_t, lt_f, le_t, le_f, eq_t, eq_f, us_len, is_len, bs_len, lenL_00, hm64, hwx, rowsOf_rs, bv_iv, hvx, hsa] <;> omega) | (simp [keyNew, sameKey, kEq] <;> omega))); conv => whnf)
                    | (refine reqK_of ?_ ?_; rotate_left; (conv => whnf); rotate_left)
                    | (refine nth_us ?_ ?_ ?_; (focus (first | omega | (simp only [List.length_nil, not_t, not_f, lt_t, lt_f, le_t, le_f, eq_t, eq_f, us_len, is_len, bs_len, lenL_00, hm64, hwx, rowsOf_rs, bv_iv, hvx, hsa] <;> omega))); (focus (first | omega | (simp only [List.length_nil, not_t, not_f, lt_t, lt_f, le_t, le_f, eq_t, eq_f, us_len, is_len, bs_len, lenL_00, hm64, hwx, rowsOf_rs, bv_iv, hvx, hsa] <;> omega))); conv => whnf)
                    | (refine nth_is ?_ ?_ ?_; (focus (first | omega | (simp only [List.length_nil, not_t, not_f, lt_t, lt_f, le_t, le_f, eq_t, eq_f, us_len, is_len, bs_len, lenL_00, hm64, hwx, rowsOf_rs, bv_iv, hvx, hsa] <;> omega))); (focus (first | omega | (simp only [List.length_nil, not_t, not_f, lt_t, lt_f, le_t, le_f, eq_t, eq_f, us_len, is_len, bs_len, lenL_00, hm64, hwx, rowsOf_rs, bv_iv, hvx, hsa] <;> omega))); conv => whnf)
                    | (refine nth_bs ?_ ?_ ?_; (focus (first | omega | (simp only [List.length_nil, not_t, not_f, lt_t, lt_f, le_t, le_f, eq_t, eq_f, us_len, is_len, bs_len, lenL_00, hm64, hwx, rowsOf_rs, bv_iv, hvx, hsa] <;> omega))); (focus (first | omega | (simp only [List.length_nil, not_t, not_f, lt_t, lt_f, le_t, le_f, eq_t, eq_f, us_len, is_len, bs_len, lenL_00, hm64, hwx, rowsOf_rs, bv_iv, hvx, hsa] <;> omega))); conv => whnf))
                  refine loopC (hC2 ⟨b.j + 1, true⟩ ⟨by first | omega | (simp only; omega), fun _ => hsx, fun h => (by cases h)⟩ (by first | omega | (simp only; omega))) ?_
                  rw [hwk2, bv_iv, hsa, Int.natCast_succ]
                  rfl
                | false =>
                  conv => whnf
                  repeat' (first
                    | (refine brK_true (by assumption) ?_; conv => whnf)
                    | (refine brK_false (by assumption) ?_; conv => whnf)
                    | (refine brK_true ?_ ?_; (focus (simp only [List.length_nil, not_t, not_f, lt_t, lt_f, le_t, le_f, eq_t, eq_f, us_len, is_len, bs_len, lenL_00, hm64, hwx, rowsOf_rs, bv_iv, hvx, hsa] <;> omega)); conv => whnf)
                    | (refine brK_false ?_ ?_; (focus (simp only [List.length_nil, not_t, not_f, lt_t, lt_f, le_t, le_f, eq_t, eq_f, us_len, is_len, bs_len, lenL_00, hm64, hwx, rowsOf_rs, bv_iv, hvx, hsa] <;> omega)); conv => whnf)
                    | ((refine brK_of (fun h => ?_) (fun h => ?_)) <;> (have h2 := h; (try simp only [List.length_nil, not_t, not_f, lt_t, lt_f, le_t, le_f, eq_t, eq_f, us_len, is_len, bs_len, lenL_00, hm64, hwx, rowsOf_rs, bv_iv, hvx, hsa] at h2); conv => whnf))
                    | (refine reqK_of ?_ ?_; (focus (first | decide | omega | assumption | (simp only [List.length_nil, not_t, not_f, lt_t, lt_f, le_t, le_f, eq_t, eq_f, us_len, is_len, bs_len, lenL_00, hm64, hwx, rowsOf_rs, bv_iv, hvx, hsa] <;> omega) | (simp [keyNew, sameKey, kEq] <;> omega))); conv => whnf)
                    | (refine reqK_of ?_ ?_; rotate_left; (conv => whnf); rotate_left)
                    | (refine nth_us ?_ ?_ ?_; (focus (first | omega | (simp only [List.length_nil, not_t, not_f, lt_t, lt_f, le_t, le_f, eq_t, eq_f, us_len, is_len, bs_len, lenL_00, hm64, hwx, rowsOf_rs, bv_iv, hvx, hsa] <;> omega))); (focus (first | omega | (simp only [List.length_nil, not_t, not_f, lt_t, lt_f, le_t, le_f, eq_t, eq_f, us_len, is_len, bs_len, lenL_00, hm64, hwx, rowsOf_rs, bv_iv, hvx, hsa] <;> omega))); conv => whnf)
                    | (refine nth_is ?_ ?_ ?_; (focus (first | omega | (simp only [List.length_nil, not_t, not_f, lt_t, lt_f, le_t, le_f, eq_t, eq_f, us_len, is_len, bs_len, lenL_00, hm64, hwx, rowsOf_rs, bv_iv, hvx, hsa] <;> omega))); (focus (first | omega | (simp only [List.length_nil, not_t, not_f, lt_t, lt_f, le_t, le_f, eq_t, eq_f, us_len, is_len, bs_len, lenL_00, hm64, hwx, rowsOf_rs, bv_iv, hvx, hsa] <;> omega))); conv => whnf)
                    | (refine nth_bs ?_ ?_ ?_; (focus (first | omega | (simp only [List.length_nil, not_t, not_f, lt_t, lt_f, le_t, le_f, eq_t, eq_f, us_len, is_len, bs_len, lenL_00, hm64, hwx, rowsOf_rs, bv_iv, hvx, hsa] <;> omega))); (focus (first | omega | (simp only [List.length_nil, not_t, not_f, lt_t, lt_f, le_t, le_f, eq_t, eq_f, us_len, is_len, bs_len, lenL_00, hm64, hwx, rowsOf_rs, bv_iv, hvx, hsa] <;> omega))); conv => whnf))
                  refine loopC (hC2 ⟨b.j + 1, false⟩ ⟨by first | omega | (simp only; omega), fun h => (by cases h), fun _ => ⟨g1, fun k hk hix hh => ?_⟩⟩ (by first | omega | (simp only; omega))) ?_
                  · rcases Nat.lt_or_ge k b.j with g | g
                    · exact g2 k g hix hh
                    · rw [hsa] at hh; exact absurd hh.2 (by decide)
                  · rw [hwk2, bv_iv, hsa, Int.natCast_succ]
                    rfl
              · conv => whnf
                repeat' (first
                  | (refine brK_true (by assumption) ?_; conv => whnf)
                  | (refine brK_false (by assumption) ?_; conv => whnf)
                  | (refine brK_true ?_ ?_; (focus (simp only [List.length_nil, not_t, not_f, lt_t, lt_f, le_t, le_f, eq_t, eq_f, us_len, is_len, bs_len, lenL_00, hm64, hwx, rowsOf_rs, bv_iv] <;> omega)); conv => whnf)
                  | (refine brK_false ?_ ?_; (focus (simp only [List.length_nil, not_t, not_f, lt_t, lt_f, le_t, le_f, eq_t, eq_f, us_len, is_len, bs_len, lenL_00, hm64, hwx, rowsOf_rs, bv_iv] <;> omega)); conv => whnf)
                  | ((refine brK_of (fun h => ?_) (fun h => ?_)) <;> (have h2 := h; (try simp only [List.length_nil, not_t, not_f, lt_t, lt_f, le_t, le_f, eq_t, eq_f, us_len, is_len, bs_len, lenL_00, hm64, hwx, rowsOf_rs, bv_iv] at h2); conv => whnf))
                  | (refine reqK_of ?_ ?_; (focus (first | decide | omega | assumption | (simp only [List.length_nil, not_t, not_f, lt_t, lt_f, le_t, le_f, eq_t, eq_f, us_len, is_len, bs_len, lenL_00, hm64, hwx, rowsOf_rs, bv_iv] <;> omega) | (simp [keyNew, sameKey, kEq] <;> omega))); conv => whnf)
                  | (refine reqK_of ?_ ?_; rotate_left; (conv => whnf); rotate_left)
                  | (refine nth_us ?_ ?_ ?_; (focus (first | omega | (simp only [List.length_nil, not_t, not_f, lt_t, lt_f, le_t, le_f, eq_t, eq_f, us_len, is_len, bs_len, lenL_00, hm64, hwx, rowsOf_rs, bv_iv] <;> omega))); (focus (first | omega | (simp only [List.length_nil, not_t, not_f, lt_t, lt_f, le_t, le_f, eq_t, eq_f, us_len, is_len, bs_len, lenL_00, hm64, hwx, rowsOf_rs, bv_iv] <;> omega))); conv => whnf)
                  | (refine nth_is ?_ ?_ ?_; (focus (first | omega | (simp only [List.length_nil, not_t, not_f, lt_t, lt_f, le_t, le_f, eq_t, eq_f, us_len, is_len, bs_len, lenL_00, hm64, hwx, rowsOf_rs, bv_iv] <;> omega))); (focus (first | omega | (simp only [List.length_nil, not_t, not_f, lt_t, lt_f, le_t, le_f, eq_t, eq_f, us_len, is_len, bs_len, lenL_00, hm64, hwx, rowsOf_rs, bv_iv] <;> omega))); conv => whnf)
                  | (refine nth_bs ?_ ?_ ?_; (focus (first | omega | (simp only [List.length_nil, not_t, not_f, lt_t, lt_f, le_t, le_f, eq_t, eq_f, us_len, is_len, bs_len, lenL_00, hm64, hwx, rowsOf_rs, bv_iv] <;> omega))); (focus (first | omega | (simp only [List.length_nil, not_t, not_f, lt_t, lt_f, le_t, le_f, eq_t, eq_f, us_len, is_len, bs_len, lenL_00, hm64, hwx, rowsOf_rs, bv_iv] <;> omega))); conv => whnf))
                refine loopC (hC2 ⟨b.j + 1, false⟩ ⟨by first | omega | (simp only; omega), fun h => (by cases h), fun _ => ⟨g1, fun k hk hix hh => ?_⟩⟩ (by first | omega | (simp only; omega))) ?_
                · rcases Nat.lt_or_ge k b.j with g | g
                  · exact g2 k g hix hh
                  · have ek : k = b.j := by simp only at hk; omega
                    rw [ek] at hh
                    exact hvx hh.1
                · rw [hwk2, Int.natCast_succ]
                  rfl
        · have hled : has S x = a.near := by
            cases hnear : a.near with
            | true => exact ha2 hnear
            | false =>
              obtain ⟨g3, g4⟩ := ha3 hnear
              cases hsx : has S x with
              | false => rfl
              | true =>
                exfalso
                have hsx' := hsx
                rw [hS, has_rchB] at hsx'
                have hxr := hSo x hsx
                rcases rch_pred hsx' with h | ⟨o, h1, h2, h3⟩
                · exact g3 ⟨h, hxr.2⟩
                · have hoS : has S o = true := by rw [hS, has_rchB]; exact h2
                  have hor := hSo o hoS
                  obtain ⟨k, hk1, hk2⟩ := edge_get ⟨hor.1, by omega⟩ h3.1
                  have hsl := (hr4 o hor.1 (by omega)).1
                  have eo : (((o - 1).toNat : Nat) : Int) + 1 = o := by omega
                  refine g4 (o - 1).toNat k (by omega) (by omega) (by rw [eo]; exact h1) ?_
                  rw [eo]
                  exact ⟨hk2, hoS⟩
          conv => whnf
          repeat' (first
            | (refine brK_true (by assumption) ?_; conv => whnf)
            | (refine brK_false (by assumption) ?_; conv => whnf)
            | (refine brK_true ?_ ?_; (focus (simp only [List.length_nil, not_t, not_f, lt_t, lt_f, le_t, le_f, eq_t, eq_f, us_len, is_len, bs_len, lenL_00, hm64, hwx, hU1, hU2] <;> omega)); conv => whnf)
            | (refine brK_false ?_ ?_; (focus (simp only [List.length_nil, not_t, not_f, lt_t, lt_f, le_t, le_f, eq_t, eq_f, us_len, is_len, bs_len, lenL_00, hm64, hwx, hU1, hU2] <;> omega)); conv => whnf)
            | ((refine brK_of (fun h => ?_) (fun h => ?_)) <;> (have h2 := h; (try simp only [List.length_nil, not_t, not_f, lt_t, lt_f, le_t, le_f, eq_t, eq_f, us_len, is_len, bs_len, lenL_00, hm64, hwx, hU1, hU2] at h2); conv => whnf))
            | (refine reqK_of ?_ ?_; (focus (first | decide | omega | assumption | (simp only [List.length_nil, not_t, not_f, lt_t, lt_f, le_t, le_f, eq_t, eq_f, us_len, is_len, bs_len, lenL_00, hm64, hwx, hU1, hU2] <;> omega) | (simp [keyNew, sameKey, kEq] <;> omega))); conv => whnf)
            | (refine reqK_of ?_ ?_; rotate_left; (conv => whnf); rotate_left)
            | (refine nth_us ?_ ?_ ?_; (focus (first | omega | (simp only [List.length_nil, not_t, not_f, lt_t, lt_f, le_t, le_f, eq_t, eq_f, us_len, is_len, bs_len, lenL_00, hm64, hwx, hU1, hU2] <;> omega))); (focus (first | omega | (simp only [List.length_nil, not_t, not_f, lt_t, lt_f, le_t, le_f, eq_t, eq_f, us_len, is_len, bs_len, lenL_00, hm64, hwx, hU1, hU2] <;> omega))); conv => whnf)
            | (refine nth_is ?_ ?_ ?_; (focus (first | omega | (simp only [List.length_nil, not_t, not_f, lt_t, lt_f, le_t, le_f, eq_t, eq_f, us_len, is_len, bs_len, lenL_00, hm64, hwx, hU1, hU2] <;> omega))); (focus (first | omega | (simp only [List.length_nil, not_t, not_f, lt_t, lt_f, le_t, le_f, eq_t, eq_f, us_len, is_len, bs_len, lenL_00, hm64, hwx, hU1, hU2] <;> omega))); conv => whnf)
            | (refine nth_bs ?_ ?_ ?_; (focus (first | omega | (simp only [List.length_nil, not_t, not_f, lt_t, lt_f, le_t, le_f, eq_t, eq_f, us_len, is_len, bs_len, lenL_00, hm64, hwx, hU1, hU2] <;> omega))); (focus (first | omega | (simp only [List.length_nil, not_t, not_f, lt_t, lt_f, le_t, le_f, eq_t, eq_f, us_len, is_len, bs_len, lenL_00, hm64, hwx, hU1, hU2] <;> omega))); conv => whnf))
          rw [bv_iv, hled, eqB_def]; simp
      · refine loopUp [] [.kill 17, .kill 18, .kill 19, .kill 76, .kill 77, .kill 78, .kill 79, .kill 80, .kill 81, .kill 82, .kill 83, .kill 84, .kill 85, .kill 86, .kill 87, .kill 88, .kill 89, .kill 90, .kill 91, .kill 92, .kill 93, .kill 94, .kill 95, .kill 96, .kill 97, .kill 98, .kill 99, .kill 100, .kill 101, .kill 102, .kill 103, .kill 104, .kill 105, .kill 106, .kill 107, .kill 108, .kill 109] (fun a : Nr => [(15, .t (.bool a.near)), (16, .t (.int .i64 ((a.j : Int) + 1)))]) (fun _ => []) (fun a => a.j ≤ n ∧ (a.near = true → has S x = true) ∧ (a.near = false → ¬ (has (bv s) x = true ∧ x ≤ n) ∧ ∀ i k : Nat, i < a.j → (k : Int) < sl → (i : Int) + 1 ≠ x → ¬ (getV L ((i : Int) + 1) k = x ∧ has S ((i : Int) + 1) = true))) (fun a => n - a.j) ⟨0, false⟩ ⟨Nat.zero_le _, fun h => (by cases h), fun h => ⟨fun g => by simp_all, fun i k h => absurd h (Nat.not_lt_zero _)⟩⟩ ?_
        conv => whnf
        refine ⟨⟨rfl, rfl⟩, fun a ha C hC => ?_⟩
        obtain ⟨ha1, ha2, ha3⟩ := ha
        have hwi2 : IntKind.i64.wrap ((a.j : Int) + 1 + 1) = (a.j : Int) + 1 + 1 := wrap_i64 ⟨by omega, by omega⟩
        by_cases hlt2 : a.j < n
        · conv => whnf
          repeat' (first
            | (refine brK_true (by assumption) ?_; conv => whnf)
            | (refine brK_false (by assumption) ?_; conv => whnf)
            | (refine brK_true ?_ ?_; (focus (simp only [List.length_nil, not_t, not_f, lt_t, lt_f, le_t, le_f, eq_t, eq_f, us_len, is_len, bs_len, lenL_00] <;> omega)); conv => whnf)
            | (refine brK_false ?_ ?_; (focus (simp only [List.length_nil, not_t, not_f, lt_t, lt_f, le_t, le_f, eq_t, eq_f, us_len, is_len, bs_len, lenL_00] <;> omega)); conv => whnf)
            | ((refine brK_of (fun h => ?_) (fun h => ?_)) <;> (have h2 := h; (try simp only [List.length_nil, not_t, not_f, lt_t, lt_f, le_t, le_f, eq_t, eq_f, us_len, is_len, bs_len, lenL_00] at h2); conv => whnf))
            | (refine reqK_of ?_ ?_; (focus (first | decide | omega | assumption | (simp only [List.length_nil, not_t, not_f, lt_t, lt_f, le_t, le_f, eq_t, eq_f, us_len, is_len, bs_len, lenL_00] <;> omega) | (simp [keyNew, sameKey, kEq] <;> omega))); conv => whnf)
            | (refine reqK_of ?_ ?_; rotate_left; (conv => whnf); rotate_left)
            | (refine nth_us ?_ ?_ ?_; (focus (first | omega | (simp only [List.length_nil, not_t, not_f, lt_t, lt_f, le_t, le_f, eq_t, eq_f, us_len, is_len, bs_len, lenL_00] <;> omega))); (focus (first | omega | (simp only [List.length_nil, not_t, not_f, lt_t, lt_f, le_t, le_f, eq_t, eq_f, us_len, is_len, bs_len, lenL_00] <;> omega))); conv => whnf)
            | (refine nth_is ?_ ?_ ?_; (focus (first | omega | (simp only [List.length_nil, not_t, not_f, lt_t, lt_f, le_t, le_f, eq_t, eq_f, us_len, is_len, bs_len, lenL_00] <;> omega))); (focus (first | omega | (simp only [List.length_nil, not_t, not_f, lt_t, lt_f, le_t, le_f, eq_t, eq_f, us_len, is_len, bs_len, lenL_00] <;> omega))); conv => whnf)
            | (refine nth_bs ?_ ?_ ?_; (focus (first | omega | (simp only [List.length_nil, not_t, not_f, lt_t, lt_f, le_t, le_f, eq_t, eq_f, us_len, is_len, bs_len, lenL_00] <;> omega))); (focus (first | omega | (simp only [List.length_nil, not_t, not_f, lt_t, lt_f, le_t, le_f, eq_t, eq_f, us_len, is_len, bs_len, lenL_00] <;> omega))); conv => whnf))
          refine loopUp [] [.kill 18, .kill 19, .kill 81, .kill 82, .kill 83, .kill 84, .kill 85, .kill 86, .kill 87, .kill 88, .kill 89, .kill 90, .kill 91, .kill 92, .kill 93, .kill 94, .kill 95, .kill 96, .kill 97, .kill 98, .kill 99, .kill 100, .kill 101, .kill 102, .kill 103, .kill 104, .kill 105, .kill 106, .kill 107, .kill 108, .kill 109] (fun b : Nr => [(15, .t (.bool b.near)), (17, .t (.int .i64 (b.j : Int)))]) (fun _ => []) (fun b => (b.j : Int) ≤ sl ∧ (b.near = true → has S x = true) ∧ (b.near = false → a.near = false ∧ ∀ k : Nat, k < b.j → (a.j : Int) + 1 ≠ x → ¬ (getV L ((a.j : Int) + 1) k = x ∧ has S ((a.j : Int) + 1) = true))) (fun b => sl.toNat - b.j) ⟨0, a.near⟩ ⟨by first | omega | (simp only; omega), ha2, fun h => ⟨h, fun k h => absurd h (Nat.not_lt_zero _)⟩⟩ ?_
          conv => whnf
          refine ⟨⟨rfl, rfl⟩, fun b hb C2 hC2 => ?_⟩
          obtain ⟨hb1, hb2, hb3⟩ := hb
          have hwk2 : IntKind.i64.wrap ((b.j : Int) + 1) = (b.j : Int) + 1 := wrap_i64 ⟨by omega, by omega⟩
          have hse2 := hSe ((a.j : Int) + 1) b.j
          by_cases hks : (b.j : Int) < sl
          rotate_left
          · conv => whnf
            repeat' (first
              | (refine brK_true (by assumption) ?_; conv => whnf)
              | (refine brK_false (by assumption) ?_; conv => whnf)
              | (refine brK_true ?_ ?_; (focus (simp only [List.length_nil, not_t, not_f, lt_t, lt_f, le_t, le_f, eq_t, eq_f, us_len, is_len, bs_len, lenL_00, hm64, hwx] <;> omega)); conv => whnf)
              | (refine brK_false ?_ ?_; (focus (simp only [List.length_nil, not_t, not_f, lt_t, lt_f, le_t, le_f, eq_t, eq_f, us_len, is_len, bs_len, lenL_00, hm64, hwx] <;> omega)); conv => whnf)
              | ((refine brK_of (fun h => ?_) (fun h => ?_)) <;> (have h2 := h; (try simp only [List.length_nil, not_t, not_f, lt_t, lt_f, le_t, le_f, eq_t, eq_f, us_len, is_len, bs_len, lenL_00, hm64, hwx] at h2); conv => whnf))
              | (refine reqK_of ?_ ?_; (focus (first | decide | omega | assumption | (simp only [List.length_nil, not_t, not_f, lt_t, lt_f, le_t, le_f, eq_t, eq_f, us_len, is_len, bs_len, lenL_00, hm64, hwx] <;> omega) | (simp [keyNew, sameKey, kEq] <;> omega))); conv => whnf)
              | (refine reqK_of ?_ ?_; rotate_left; (conv => whnf); rotate_left)
              | (refine nth_us ?_ ?_ ?_; (focus (first | omega | (simp only [List.length_nil, not_t, not_f, lt_t, lt_f, le_t, le_f, eq_t, eq_f, us_len, is_len, bs_len, lenL_00, hm64, hwx] <;> omega))); (focus (first | omega | (simp only [List.length_nil, not_t, not_f, lt_t, lt_f, le_t, le_f, eq_t, eq_f, us_len, is_len, bs_len, lenL_00, hm64, hwx] <;> omega))); conv => whnf)
              | (refine nth_is ?_ ?_ ?_; (focus (first | omega | (simp only [List.length_nil, not_t, not_f, lt_t, lt_f, le_t, le_f, eq_t, eq_f, us_len, is_len, bs_len, lenL_00, hm64, hwx] <;> omega))); (focus (first | omega | (simp only [List.length_nil, not_t, not_f, lt_t, lt_f, le_t, le_f, eq_t, eq_f, us_len, is_len, bs_len, lenL_00, hm64, hwx] <;> omega))); conv => whnf)
              | (refine nth_bs ?_ ?_ ?_; (focus (first | omega | (simp only [List.length_nil, not_t, not_f, lt_t, lt_f, le_t, le_f, eq_t, eq_f, us_len, is_len, bs_len, lenL_00, hm64, hwx] <;> omega))); (focus (first | omega | (simp only [List.length_nil, not_t, not_f, lt_t, lt_f, le_t, le_f, eq_t, eq_f, us_len, is_len, bs_len, lenL_00, hm64, hwx] <;> omega))); conv => whnf))
            all_goals
              refine loopC (hC ⟨a.j + 1, b.near⟩ ⟨by first | omega | (simp only; omega), hb2, fun h => ?_⟩ (by first | omega | (simp only; omega))) ?_
              · obtain ⟨g1, g2⟩ := hb3 h
                obtain ⟨g3, g4⟩ := ha3 g1
                refine ⟨g3, fun i k hi hk hix => ?_⟩
                rcases Nat.lt_or_ge i a.j with g | g
                · exact g4 i k g hk hix
                · have ei : i = a.j := by simp only at hi; omega
                  rw [ei] at hix ⊢
                  exact g2 k (by omega) hix
              · rw [hwi2, Int.natCast_succ]
                rfl
          by_cases hne : (a.j : Int) + 1 ≠ x
          rotate_left
          · conv => whnf
            repeat' (first
              | (refine brK_true (by assumption) ?_; conv => whnf)
              | (refine brK_false (by assumption) ?_; conv => whnf)
              | (refine brK_true ?_ ?_; (focus (simp only [List.length_nil, not_t, not_f, lt_t, lt_f, le_t, le_f, eq_t, eq_f, us_len, is_len, bs_len, lenL_00, hm64, hwx] <;> omega)); conv => whnf)
              | (refine brK_false ?_ ?_; (focus (simp only [List.length_nil, not_t, not_f, lt_t, lt_f, le_t, le_f, eq_t, eq_f, us_len, is_len, bs_len, lenL_00, hm64, hwx] <;> omega)); conv => whnf)
              | ((refine brK_of (fun h => ?_) (fun h => ?_)) <;> (have h2 := h; (try simp only [List.length_nil, not_t, not_f, lt_t, lt_f, le_t, le_f, eq_t, eq_f, us_len, is_len, bs_len, lenL_00, hm64, hwx] at h2); conv => whnf))
              | (refine reqK_of ?_ ?_; (focus (first | decide | omega | assumption | (simp only [List.length_nil, not_t, not_f, lt_t, lt_f, le_t, le_f, eq_t, eq_f, us_len, is_len, bs_len, lenL_00, hm64, hwx] <;> omega) | (simp [keyNew, sameKey, kEq] <;> omega))); conv => whnf)
              | (refine reqK_of ?_ ?_; rotate_left; (conv => whnf); rotate_left)
              | (refine nth_us ?_ ?_ ?_; (focus (first | omega | (simp only [List.length_nil, not_t, not_f, lt_t, lt_f, le_t, le_f, eq_t, eq_f, us_len, is_len, bs_len, lenL_00, hm64, hwx] <;> omega))); (focus (first | omega | (simp only [List.length_nil, not_t, not_f, lt_t, lt_f, le_t, le_f, eq_t, eq_f, us_len, is_len, bs_len, lenL_00, hm64, hwx] <;> omega))); conv => whnf)
              | (refine nth_is ?_ ?_ ?_; (focus (first | omega | (simp only [List.length_nil, not_t, not_f, lt_t, lt_f, le_t, le_f, eq_t, eq_f, us_len, is_len, bs_len, lenL_00, hm64, hwx] <;> omega))); (focus (first | omega | (simp only [List.length_nil, not_t, not_f, lt_t, lt_f, le_t, le_f, eq_t, eq_f, us_len, is_len, bs_len, lenL_00, hm64, hwx] <;> omega))); conv => whnf)
              | (refine nth_bs ?_ ?_ ?_; (focus (first | omega | (simp only [List.length_nil, not_t, not_f, lt_t, lt_f, le_t, le_f, eq_t, eq_f, us_len, is_len, bs_len, lenL_00, hm64, hwx] <;> omega))); (focus (first | omega | (simp only [List.length_nil, not_t, not_f, lt_t, lt_f, le_t, le_f, eq_t, eq_f, us_len, is_len, bs_len, lenL_00, hm64, hwx] <;> omega))); conv => whnf))
            all_goals
              refine loopC (hC ⟨a.j + 1, b.near⟩ ⟨by first | omega | (simp only; omega), hb2, fun h => ?_⟩ (by first | omega | (simp only; omega))) ?_
              · obtain ⟨g1, g2⟩ := hb3 h
                obtain ⟨g3, g4⟩ := ha3 g1
                refine ⟨g3, fun i k hi hk hix => ?_⟩
                rcases Nat.lt_or_ge i a.j with g | g
                · exact g4 i k g hk hix
                · have ei : i = a.j := by simp only at hi; omega
                  rw [ei] at hix ⊢
                  exact g2 k (by omega) hix
              · rw [hwi2, Int.natCast_succ]
                rfl
          · cases hnear : b.near with
            | true =>
              conv => whnf
              repeat' (first
                | (refine brK_true (by assumption) ?_; conv => whnf)
                | (refine brK_false (by assumption) ?_; conv => whnf)
                | (refine brK_true ?_ ?_; (focus (simp only [List.length_nil, not_t, not_f, lt_t, lt_f, le_t, le_f, eq_t, eq_f, us_len, is_len, bs_len, lenL_00, hm64, hwx, rowsOf_rs, bv_iv] <;> omega)); conv => whnf)
                | (refine brK_false ?_ ?_; (focus (simp only [List.length_nil, not_t, not_f, lt_t, lt_f, le_t, le_f, eq_t, eq_f, us_len, is_len, bs_len, lenL_00, hm64, hwx, rowsOf_rs, bv_iv] <;> omega)); conv => whnf)
                | ((refine brK_of (fun h => ?_) (fun h => ?_)) <;> (have h2 := h; (try simp only [List.length_nil, not_t, not_f, lt_t, lt_f, le_t, le_f, eq_t, eq_f, us_len, is_len, bs_len, lenL_00, hm64, hwx, rowsOf_rs, bv_iv] at h2); conv => whnf))
                | (refine reqK_of ?_ ?_; (focus (first | decide | omega | assumption | (simp only [List.length_nil, not_t, not_f, lt_t, lt_f, le_t, le_f, eq_t, eq_f, us_len, is_len, bs_len, lenL_00, hm64, hwx, rowsOf_rs, bv_iv] <;> omega) | (simp [keyNew, sameKey, kEq] <;> omega))); conv => whnf)
                | (refine reqK_of ?_ ?_; rotate_left; (conv => whnf); rotate_left)
                | (refine nth_us ?_ ?_ ?_; (focus (first | omega | (simp only [List.length_nil, not_t, not_f, lt_t, lt_f, le_t, le_f, eq_t, eq_f, us_len, is_len, bs_len, lenL_00, hm64, hwx, rowsOf_rs, bv_iv] <;> omega))); (focus (first | omega | (simp only [List.length_nil, not_t, not_f, lt_t, lt_f, le_t, le_f, eq_t, eq_f, us_len, is_len, bs_len, lenL_00, hm64, hwx, rowsOf_rs, bv_iv] <;> omega))); conv => whnf)
                | (refine nth_is ?_ ?_ ?_; (focus (first | omega | (simp only [List.length_nil, not_t, not_f, lt_t, lt_f, le_t, le_f, eq_t, eq_f, us_len, is_len, bs_len, lenL_00, hm64, hwx, rowsOf_rs, bv_iv] <;> omega))); (focus (first | omega | (simp only [List.length_nil, not_t, not_f, lt_t, lt_f, le_t, le_f, eq_t, eq_f, us_len, is_len, bs_len, lenL_00, hm64, hwx, rowsOf_rs, bv_iv] <;> omega))); conv => whnf)
                | (refine nth_bs ?_ ?_ ?_; (focus (first | omega | (simp only [List.length_nil, not_t, not_f, lt_t, lt_f, le_t, le_f, eq_t, eq_f, us_len, is_len, bs_len, lenL_00, hm64, hwx, rowsOf_rs, bv_iv] <;> omega))); (focus (first | omega | (simp only [List.length_nil, not_t, not_f, lt_t, lt_f, le_t, le_f, eq_t, eq_f, us_len, is_len, bs_len, lenL_00, hm64, hwx, rowsOf_rs, bv_iv] <;> omega))); conv => whnf))
              all_goals
                refine loopC (hC2 ⟨b.j + 1, true⟩ ⟨by first | omega | (simp only; omega), fun _ => hb2 hnear, fun h => (by cases h)⟩ (by first | omega | (simp only; omega))) ?_
                rw [hwk2, Int.natCast_succ]
                rfl
            | false =>
              obtain ⟨g1, g2⟩ := hb3 hnear
              by_cases hvx : getV L ((a.j : Int) + 1) b.j = x
              · cases hsa : has S ((a.j : Int) + 1) with
                | true =>
                  have hsx : has S x = true := by rw [← hvx]; exact hse2 hsa (by rw [hvx]; omega)
                  conv => whnf
                  repeat' (first
                    | (refine brK_true (by assumption) ?_; conv => whnf)
                    | (refine brK_false (by assumption) ?_; conv => whnf)
                    | (refine brK_true ?_ ?_; (focus (simp only [List.length_nil, not_t, not_f, lt_t, lt_f, le_t, le_f, eq_t, eq_f, us_len, is_len, bs_len, lenL_00, hm64, hwx, rowsOf_rs, bv_iv, hvx, hsa] <;> omega)); conv => whnf)
                    | (refine brK_false ?_ ?_; (focus (simp only [List.length_nil, not_t, not_f, lt_t, lt_f, le_t, le_f, eq_t, eq_f, us_len, is_len, bs_len, lenL_00, hm64, hwx, rowsOf_rs, bv_iv, hvx, hsa] <;> omega)); conv => whnf)
                    | ((refine brK_of (fun h => ?_) (fun h => ?_)) <;> (have h2 := h; (try simp only [List.length_nil, not_t, not_f, lt_t, lt_f, le_t, le_f, eq_t, eq_f, us_len, is_len, bs_len, lenL_00, hm64, hwx, rowsOf_rs, bv_iv, hvx, hsa] at h2); conv => whnf))
                    | (refine reqK_of ?_ ?_; (focus (first | decide | omega | assumption | (simp only [List.length_nil, not_t, not_f, lt_t, lt_f, le_t, le_f, eq_t, eq_f, us_len, is_len, bs_len, lenL_00, hm64, hwx, rowsOf_rs, bv_iv, hvx, hsa] <;> omega) | (simp [keyNew, sameKey, kEq] <;> omega))); conv => whnf)
                    | (refine reqK_of ?_ ?_; rotate_left; (conv => whnf); rotate_left)
                    | (refine nth_us ?_ ?_ ?_; (focus (first | omega | (simp only [List.length_nil, not_t, not_f, lt_t, lt_f, le_t, le_f, eq_t, eq_f, us_len, is_len, bs_len, lenL_00, hm64, hwx, rowsOf_rs, bv_iv, hvx, hsa] <;> omega))); (focus (first | omega | (simp only [List.length_nil, not_t, not_f, lt_t, lt_f, le_t, le_f, eq_t, eq_f, us_len, is_len, bs_len, lenL_00, hm64, hwx, rowsOf_rs, bv_iv, hvx, hsa] <;> omega))); conv => whnf)
                    | (refine nth_is ?_ ?_ ?_; (focus (first | omega | (simp only [List.length_nil, not_t, not_f, lt_t, lt_f, le_t, le_f, eq_t, eq_f, us_len, is_len, bs_len, lenL_00, hm64, hwx, rowsOf_rs, bv_iv, hvx, hsa] <;> omega))); (focus (first | omega | (simp only [List.length_nil, not_t, not_f, lt_t, lt_f, le_t, le_f, eq_t, eq_f, us_len, is_len, bs_len, lenL_00, hm64, hwx, rowsOf_rs, bv_iv, hvx, hsa] <;> omega))); conv => whnf)
                    | (refine nth_bs ?_ ?_ ?_; (focus (first | omega | (simp only [List.length_nil, not_t, not_f, lt_t, lt_f, le_t, le_f, eq_t, eq_f, us_len, is_len, bs_len, lenL_00, hm64, hwx, rowsOf_rs, bv_iv, hvx, hsa] <;> omega))); (focus (first | omega | (simp only [List.length_nil, not_t, not_f, lt_t, lt_f, le_t, le_f, eq_t, eq_f, us_len, is_len, bs_len, lenL_00, hm64, hwx, rowsOf_rs, bv_iv, hvx, hsa] <;> omega))); conv => whnf))
                  refine loopC (hC2 ⟨b.j + 1, true⟩ ⟨by first | omega | (simp only; omega), fun _ => hsx, fun h => (by cases h)⟩ (by first | omega | (simp only; omega))) ?_
                  rw [hwk2, bv_iv, hsa, Int.natCast_succ]
                  rfl
                | false =>
                  conv => whnf
                  repeat' (first
                    | (refine brK_true (by assumption) ?_; conv => whnf)
                    | (refine brK_false (by assumption) ?_; conv => whnf)
                    | (refine brK_true ?_ ?_; (focus (simp only [List.length_nil, not_t, not_f, lt_t, lt_f, le_t, le_f, eq_t, eq_f, us_len, is_len, bs_len, lenL_00, hm64, hwx, rowsOf_rs, bv_iv, hvx, hsa] <;> omega)); conv => whnf)
                    | (refine brK_false ?_ ?_; (focus (simp only [List.length_nil, not_t, not_f, lt_t, lt_f, le_t, le_f, eq_t, eq_f, us_len, is_len, bs_len, lenL_00, hm64, hwx, rowsOf_rs, bv_iv, hvx, hsa] <;> omega)); conv => whnf)
                    | ((refine brK_of (fun h => ?_) (fun h => ?_)) <;> (have h2 := h; (try simp only [List.length_nil, not_t, not_f, lt_t, lt_f, le_t, le_f, eq_t, eq_f, us_len, is_len, bs_len, lenL_00, hm64, hwx, rowsOf_rs, bv_iv, hvx, hsa] at h2); conv => whnf))
                    | (refine reqK_of ?_ ?_; (focus (first | decide | omega | assumption | (simp only [List.length_nil, not_t, not_f, lt_t, lt_f, le_t, le_f, eq_t, eq_f, us_len, is_len, bs_len, lenL_00, hm64, hwx, rowsOf_rs, bv_iv, hvx, hsa] <;> omega) | (simp [keyNew, sameKey, kEq] <;> omega))); conv => whnf)
                    | (refine reqK_of ?_ ?_; rotate_left; (conv => whnf); rotate_left)
                    | (refine nth_us ?_ ?_ ?_; (focus (first | omega | (simp only [List.length_nil, not_t, not_f, lt_t, lt_f, le_t, le_f, eq_t, eq_f, us_len, is_len, bs_len, lenL_00, hm64, hwx, rowsOf_rs, bv_iv, hvx, hsa] <;> omega))); (focus (first | omega | (simp only [List.length_nil, not_t, not_f, lt_t, lt_f, le_t, le_f, eq_t, eq_f, us_len, is_len, bs_len, lenL_00, hm64, hwx, rowsOf_rs, bv_iv, hvx, hsa] <;> omega))); conv => whnf)
                    | (refine nth_is ?_ ?_ ?_; (focus (first | omega | (simp only [List.length_nil, not_t, not_f, lt_t, lt_f, le_t, le_f, eq_t, eq_f, us_len, is_len, bs_len, lenL_00, hm64, hwx, rowsOf_rs, bv_iv, hvx, hsa] <;> omega))); (focus (first | omega | (simp only [List.length_nil, not_t, not_f, lt_t, lt_f, le_t, le_f, eq_t, eq_f, us_len, is_len, bs_len, lenL_00, hm64, hwx, rowsOf_rs, bv_iv, hvx, hsa] <;> omega))); conv => whnf)
                    | (refine nth_bs ?_ ?_ ?_; (focus (first | omega | (simp only [List.length_nil, not_t, not_f, lt_t, lt_f, le_t, le_f, eq_t, eq_f, us_len, is_len, bs_len, lenL_00, hm64, hwx, rowsOf_rs, bv_iv, hvx, hsa] <;> omega))); (focus (first | omega | (simp only [List.length_nil, not_t, not_f, lt_t, lt_f, le_t, le_f, eq_t, eq_f, us_len, is_len, bs_len, lenL_00, hm64, hwx, rowsOf_rs, bv_iv, hvx, hsa] <;> omega))); conv => whnf))
                  refine loopC (hC2 ⟨b.j + 1, false⟩ ⟨by first | omega | (simp only; omega), fun h => (by cases h), fun _ => ⟨g1, fun k hk hix hh => ?_⟩⟩ (by first | omega | (simp only; omega))) ?_
                  · rcases Nat.lt_or_ge k b.j with g | g
                    · exact g2 k g hix hh
                    · rw [hsa] at hh; exact absurd hh.2 (by decide)
                  · rw [hwk2, bv_iv, hsa, Int.natCast_succ]
                    rfl
              · conv => whnf
                repeat' (first
                  | (refine brK_true (by assumption) ?_; conv => whnf)
                  | (refine brK_false (by assumption) ?_; conv => whnf)
                  | (refine brK_true ?_ ?_; (focus (simp only [List.length_nil, not_t, not_f, lt_t, lt_f, le_t, le_f, eq_t, eq_f, us_len, is_len, bs_len, lenL_00, hm64, hwx, rowsOf_rs, bv_iv] <;> omega)); conv => whnf)
                  | (refine brK_false ?_ ?_; (focus (simp only [List.length_nil, not_t, not_f, lt_t, lt_f, le_t, le_f, eq_t, eq_f, us_len, is_len, bs_len, lenL_00, hm64, hwx, rowsOf_rs, bv_iv] <;> omega)); conv => whnf)
                  | ((refine brK_of (fun h => ?_) (fun h => ?_)) <;> (have h2 := h; (try simp only [List.length_nil, not_t, not_f, lt_t, lt_f, le_t, le_f, eq_t, eq_f, us_len, is_len, bs_len, lenL_00, hm64, hwx, rowsOf_rs, bv_iv] at h2); conv => whnf))
                  | (refine reqK_of ?_ ?_; (focus (first | decide | omega | assumption | (simp only [List.length_nil, not_t, not_f, lt_t, lt_f, le_t, le_f, eq_t, eq_f, us_len, is_len, bs_len, lenL_00, hm64, hwx, rowsOf_rs, bv_iv] <;> omega) | (simp [keyNew, sameKey, kEq] <;> omega))); conv => whnf)
                  | (refine reqK_of ?_ ?_; rotate_left; (conv => whnf); rotate_left)
                  | (refine nth_us ?_ ?_ ?_; (focus (first | omega | (simp only [List.length_nil, not_t, not_f, lt_t, lt_f, le_t, le_f, eq_t, eq_f, us_len, is_len, bs_len, lenL_00, hm64, hwx, rowsOf_rs, bv_iv] <;> omega))); (focus (first | omega | (simp only [List.length_nil, not_t, not_f, lt_t, lt_f, le_t, le_f, eq_t, eq_f, us_len, is_len, bs_len, lenL_00, hm64, hwx, rowsOf_rs, bv_iv] <;> omega))); conv => whnf)
                  | (refine nth_is ?_ ?_ ?_; (focus (first | omega | (simp only [List.length_nil, not_t, not_f, lt_t, lt_f, le_t, le_f, eq_t, eq_f, us_len, is_len, bs_len, lenL_00, hm64, hwx, rowsOf_rs, bv_iv] <;> omega))); (focus (first | omega | (simp only [List.length_nil, not_t, not_f, lt_t, lt_f, le_t, le_f, eq_t, eq_f, us_len, is_len, bs_len, lenL_00, hm64, hwx, rowsOf_rs, bv_iv] <;> omega))); conv => whnf)
                  | (refine nth_bs ?_ ?_ ?_; (focus (first | omega | (simp only [List.length_nil, not_t, not_f, lt_t, lt_f, le_t, le_f, eq_t, eq_f, us_len, is_len, bs_len, lenL_00, hm64, hwx, rowsOf_rs, bv_iv] <;> omega))); (focus (first | omega | (simp only [List.length_nil, not_t, not_f, lt_t, lt_f, le_t, le_f, eq_t, eq_f, us_len, is_len, bs_len, lenL_00, hm64, hwx, rowsOf_rs, bv_iv] <;> omega))); conv => whnf))
                refine loopC (hC2 ⟨b.j + 1, false⟩ ⟨by first | omega | (simp only; omega), fun h => (by cases h), fun _ => ⟨g1, fun k hk hix hh => ?_⟩⟩ (by first | omega | (simp only; omega))) ?_
                · rcases Nat.lt_or_ge k b.j with g | g
                  · exact g2 k g hix hh
                  · have ek : k = b.j := by simp only at hk; omega
                    rw [ek] at hh
                    exact hvx hh.1
                · rw [hwk2, Int.natCast_succ]
                  rfl
        · have hled : has S x = a.near := by
            cases hnear : a.near with
            | true => exact ha2 hnear
            | false =>
              obtain ⟨g3, g4⟩ := ha3 hnear
              cases hsx : has S x with
              | false => rfl
              | true =>
                exfalso
                have hsx' := hsx
                rw [hS, has_rchB] at hsx'
                have hxr := hSo x hsx
                rcases rch_pred hsx' with h | ⟨o, h1, h2, h3⟩
                · exact g3 ⟨h, hxr.2⟩
                · have hoS : has S o = true := by rw [hS, has_rchB]; exact h2
                  have hor := hSo o hoS
                  obtain ⟨k, hk1, hk2⟩ := edge_get ⟨hor.1, by omega⟩ h3.1
                  have hsl := (hr4 o hor.1 (by omega)).1
                  have eo : (((o - 1).toNat : Nat) : Int) + 1 = o := by omega
                  refine g4 (o - 1).toNat k (by omega) (by omega) (by rw [eo]; exact h1) ?_
                  rw [eo]
                  exact ⟨hk2, hoS⟩
          conv => whnf
          repeat' (first
            | (refine brK_true (by assumption) ?_; conv => whnf)
            | (refine brK_false (by assumption) ?_; conv => whnf)
            | (refine brK_true ?_ ?_; (focus (simp only [List.length_nil, not_t, not_f, lt_t, lt_f, le_t, le_f, eq_t, eq_f, us_len, is_len, bs_len, lenL_00, hm64, hwx, hU1, hU2] <;> omega)); conv => whnf)
            | (refine brK_false ?_ ?_; (focus (simp only [List.length_nil, not_t, not_f, lt_t, lt_f, le_t, le_f, eq_t, eq_f, us_len, is_len, bs_len, lenL_00, hm64, hwx, hU1, hU2] <;> omega)); conv => whnf)
            | ((refine brK_of (fun h => ?_) (fun h => ?_)) <;> (have h2 := h; (try simp only [List.length_nil, not_t, not_f, lt_t, lt_f, le_t, le_f, eq_t, eq_f, us_len, is_len, bs_len, lenL_00, hm64, hwx, hU1, hU2] at h2); conv => whnf))
            | (refine reqK_of ?_ ?_; (focus (first | decide | omega | assumption | (simp only [List.length_nil, not_t, not_f, lt_t, lt_f, le_t, le_f, eq_t, eq_f, us_len, is_len, bs_len, lenL_00, hm64, hwx, hU1, hU2] <;> omega) | (simp [keyNew, sameKey, kEq] <;> omega))); conv => whnf)
            | (refine reqK_of ?_ ?_; rotate_left; (conv => whnf); rotate_left)
            | (refine nth_us ?_ ?_ ?_; (focus (first | omega | (simp only [List.length_nil, not_t, not_f, lt_t, lt_f, le_t, le_f, eq_t, eq_f, us_len, is_len, bs_len, lenL_00, hm64, hwx, hU1, hU2] <;> omega))); (focus (first | omega | (simp only [List.length_nil, not_t, not_f, lt_t, lt_f, le_t, le_f, eq_t, eq_f, us_len, is_len, bs_len, lenL_00, hm64, hwx, hU1, hU2] <;> omega))); conv => whnf)
            | (refine nth_is ?_ ?_ ?_; (focus (first | omega | (simp only [List.length_nil, not_t, not_f, lt_t, lt_f, le_t, le_f, eq_t, eq_f, us_len, is_len, bs_len, lenL_00, hm64, hwx, hU1, hU2] <;> omega))); (focus (first | omega | (simp only [List.length_nil, not_t, not_f, lt_t, lt_f, le_t, le_f, eq_t, eq_f, us_len, is_len, bs_len, lenL_00, hm64, hwx, hU1, hU2] <;> omega))); conv => whnf)
            | (refine nth_bs ?_ ?_ ?_; (focus (first | omega | (simp only [List.length_nil, not_t, not_f, lt_t, lt_f, le_t, le_f, eq_t, eq_f, us_len, is_len, bs_len, lenL_00, hm64, hwx, hU1, hU2] <;> omega))); (focus (first | omega | (simp only [List.length_nil, not_t, not_f, lt_t, lt_f, le_t, le_f, eq_t, eq_f, us_len, is_len, bs_len, lenL_00, hm64, hwx, hU1, hU2] <;> omega))); conv => whnf))
          rw [bv_iv, hled, eqB_def]; simp
  · rw [Bool.not_eq_true] at hr
    conv => whnf
    repeat' (first
      | (refine brK_true (by assumption) ?_; conv => whnf)
      | (refine brK_false (by assumption) ?_; conv => whnf)
      | (refine brK_true ?_ ?_; (focus (simp only [List.length_nil, not_t, not_f, lt_t, lt_f, le_t, le_f, eq_t, eq_f, us_len, is_len, bs_len, lenL_00, rs_len, rowsOf_rs, hr] <;> omega)); conv => whnf)
      | (refine brK_false ?_ ?_; (focus (simp only [List.length_nil, not_t, not_f, lt_t, lt_f, le_t, le_f, eq_t, eq_f, us_len, is_len, bs_len, lenL_00, rs_len, rowsOf_rs, hr] <;> omega)); conv => whnf)
      | ((refine brK_of (fun h => ?_) (fun h => ?_)) <;> (have h2 := h; (try simp only [List.length_nil, not_t, not_f, lt_t, lt_f, le_t, le_f, eq_t, eq_f, us_len, is_len, bs_len, lenL_00, rs_len, rowsOf_rs, hr] at h2); conv => whnf))
      | (refine reqK_of ?_ ?_; (focus (first | decide | omega | assumption | (simp only [List.length_nil, not_t, not_f, lt_t, lt_f, le_t, le_f, eq_t, eq_f, us_len, is_len, bs_len, lenL_00, rs_len, rowsOf_rs, hr] <;> omega) | (simp [keyNew, sameKey, kEq] <;> omega))); conv => whnf)
      | (refine reqK_of ?_ ?_; rotate_left; (conv => whnf); rotate_left)
      | (refine nth_us ?_ ?_ ?_; (focus (first | omega | (simp only [List.length_nil, not_t, not_f, lt_t, lt_f, le_t, le_f, eq_t, eq_f, us_len, is_len, bs_len, lenL_00, rs_len, rowsOf_rs, hr] <;> omega))); (focus (first | omega | (simp only [List.length_nil, not_t, not_f, lt_t, lt_f, le_t, le_f, eq_t, eq_f, us_len, is_len, bs_len, lenL_00, rs_len, rowsOf_rs, hr] <;> omega))); conv => whnf)
      | (refine nth_is ?_ ?_ ?_; (focus (first | omega | (simp only [List.length_nil, not_t, not_f, lt_t, lt_f, le_t, le_f, eq_t, eq_f, us_len, is_len, bs_len, lenL_00, rs_len, rowsOf_rs, hr] <;> omega))); (focus (first | omega | (simp only [List.length_nil, not_t, not_f, lt_t, lt_f, le_t, le_f, eq_t, eq_f, us_len, is_len, bs_len, lenL_00, rs_len, rowsOf_rs, hr] <;> omega))); conv => whnf)
      | (refine nth_bs ?_ ?_ ?_; (focus (first | omega | (simp only [List.length_nil, not_t, not_f, lt_t, lt_f, le_t, le_f, eq_t, eq_f, us_len, is_len, bs_len, lenL_00, rs_len, rowsOf_rs, hr] <;> omega))); (focus (first | omega | (simp only [List.length_nil, not_t, not_f, lt_t, lt_f, le_t, le_f, eq_t, eq_f, us_len, is_len, bs_len, lenL_00, rs_len, rowsOf_rs, hr] <;> omega))); conv => whnf))
open Classical in
noncomputable def c7 : List T → Ans
  | [.agg [.int .i64 sl, .list 1 xs], .int .u64 s, .int .u8 x0] => .req ((IsR xs ∧ R64 s) ∧ R8 x0) (.bool true)
  | _ => .no
theorem got7 {vs : List T} {x : T} (h : Got (c7 vs) x) : FnOk Tryd.prog tgl 7 vs x := by
  unfold c7 at h
  split at h
  · obtain ⟨hq, e⟩ := got_req h; rw [e]; exact ok7 _ _ _ _ hq
  · exact (got_no h).elim
theorem nogl7 (vs : List T) (p : Prop) (d : Decidable p) (sz : Nat) (xs : List T) (h : c7 vs = @Ans.gl p d sz xs) : False := by
  unfold c7 at h
  split at h <;> cases h
theorem pk7 (vs : List T) (p : Prop) (d : Decidable p) (x : T) (h : c7 vs = @Ans.pk p d x) (hp : p) : FnOk Tryd.prog tgl 7 vs x := by
  unfold c7 at h
  split at h
  · cases h
  · cases h
end Go.Nx
