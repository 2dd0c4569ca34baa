/-
  DEQUES: ITEMS, WHOEVER OWNS THEM (besomref07.Items).
-/
import Derived.Test.YtpdgfajhdeknmaaDn
set_option linter.unusedVariables false
set_option linter.unusedSimpArgs false
set_option maxRecDepth 20000
set_option maxHeartbeats 16000000
namespace Go.Nx
open Go.RowKit Go.Proofs

namespace R
theorem items_p2 (xs : List T) (base cap kind pc b0 c0 b t x out : Int) (hq : (IsU xs ∧ Sz xs) ∧ I64 cap) (hk : kind = 2) (ho : out = 0) (hp : pc = 2) : FnOk Try.prog tgl 11 [.list 1 xs, .int .i64 base, .int .i64 cap, .agg [.int .i64 kind, .int .i64 pc, .int .i64 b0, .int .i64 c0, .int .u64 b, .int .u64 t, .int .i64 x, .int .i64 out]] (.list 1 (is (itemsE (nums xs) base cap true))) := by
  obtain ⟨⟨⟨l, rfl, hl⟩, hs⟩, hcap⟩ := hq
  rw [nums_us]
  have hq1 : IsU (us l) ∧ Sz (us l) := ⟨isU_us hl, hs⟩
  have hz := sz_ne hcap
  have n1 := nums_us l
  have hcl := cl_eq hcap
  have hR0 : R64 (ldV l base) := doV_R hl _ _
  have hR1 : R64 (ldV l (wi (base + 1))) := doV_R hl _ _
  obtain ⟨e, he⟩ : ∃ e, e = wu (ldV l (wi (base + 1)) + 1) := ⟨_, rfl⟩
  have hRe : R64 e := by rw [he]; exact wu_R _
  cases hno : noItems (ldV l base) e cap with
  | true =>
    rw [show itemsE l base cap true = [] by simp [itemsE, ← he, hno]]
    refine FnOk.nilr 1 ?_
    refine fn_ok (Γ := F1) env_F1 Try.func11 low11 ?_
    conv => whnf
    repeat' (first
      | (refine brK_true (by assumption) ?_; conv => whnf)
      | (refine brK_false (by assumption) ?_; conv => whnf)
      | (refine brK_true ?_ ?_; (focus (simp only [List.length_nil, not_t, not_f, lt_t, lt_f, le_t, le_f, eq_t, eq_f, us_len, is_len, bs_len, lenL_00, nums_us] <;> omega)); conv => whnf)
      | (refine brK_false ?_ ?_; (focus (simp only [List.length_nil, not_t, not_f, lt_t, lt_f, le_t, le_f, eq_t, eq_f, us_len, is_len, bs_len, lenL_00, nums_us] <;> omega)); conv => whnf)
      | ((refine brK_of (fun h => ?_) (fun h => ?_)) <;> (have h2 := h; (try simp only [List.length_nil, not_t, not_f, lt_t, lt_f, le_t, le_f, eq_t, eq_f, us_len, is_len, bs_len, lenL_00, nums_us] at h2); conv => whnf))
      | (refine reqK_of ?_ ?_; (focus (first | decide | omega | assumption | (simp only [List.length_nil, not_t, not_f, lt_t, lt_f, le_t, le_f, eq_t, eq_f, us_len, is_len, bs_len, lenL_00, nums_us] <;> omega) | (simp [keyNew, sameKey, kEq] <;> omega))); conv => whnf)
      | (refine reqK_of ?_ ?_; rotate_left; (conv => whnf); rotate_left)
      | (refine nth_us ?_ ?_ ?_; (focus (first | omega | (simp only [List.length_nil, not_t, not_f, lt_t, lt_f, le_t, le_f, eq_t, eq_f, us_len, is_len, bs_len, lenL_00, nums_us] <;> omega))); (focus (first | omega | (simp only [List.length_nil, not_t, not_f, lt_t, lt_f, le_t, le_f, eq_t, eq_f, us_len, is_len, bs_len, lenL_00, nums_us] <;> omega))); conv => whnf)
      | (refine nth_is ?_ ?_ ?_; (focus (first | omega | (simp only [List.length_nil, not_t, not_f, lt_t, lt_f, le_t, le_f, eq_t, eq_f, us_len, is_len, bs_len, lenL_00, nums_us] <;> omega))); (focus (first | omega | (simp only [List.length_nil, not_t, not_f, lt_t, lt_f, le_t, le_f, eq_t, eq_f, us_len, is_len, bs_len, lenL_00, nums_us] <;> omega))); conv => whnf)
      | (refine nth_bs ?_ ?_ ?_; (focus (first | omega | (simp only [List.length_nil, not_t, not_f, lt_t, lt_f, le_t, le_f, eq_t, eq_f, us_len, is_len, bs_len, lenL_00, nums_us] <;> omega))); (focus (first | omega | (simp only [List.length_nil, not_t, not_f, lt_t, lt_f, le_t, le_f, eq_t, eq_f, us_len, is_len, bs_len, lenL_00, nums_us] <;> omega))); conv => whnf))
    all_goals (exfalso; clear hl hs hq1 hz hR0 hRe hR1; simp only [nums_us] at *; simp_all [noItems, le_not_lt, hcl] <;> fail)
  | false =>
    rw [show itemsE l base cap true = itN l base cap (ldV l base) (wu (e - ldV l base)).toNat by simp [itemsE, ← he, hno]]
    refine fn_ok (Γ := F1) env_F1 Try.func11 low11 ?_
    conv => whnf
    repeat' (first
      | (refine brK_true (by assumption) ?_; conv => whnf)
      | (refine brK_false (by assumption) ?_; conv => whnf)
      | (refine brK_true ?_ ?_; (focus (simp only [List.length_nil, not_t, not_f, lt_t, lt_f, le_t, le_f, eq_t, eq_f, us_len, is_len, bs_len, lenL_00, nums_us] <;> omega)); conv => whnf)
      | (refine brK_false ?_ ?_; (focus (simp only [List.length_nil, not_t, not_f, lt_t, lt_f, le_t, le_f, eq_t, eq_f, us_len, is_len, bs_len, lenL_00, nums_us] <;> omega)); conv => whnf)
      | ((refine brK_of (fun h => ?_) (fun h => ?_)) <;> (have h2 := h; (try simp only [List.length_nil, not_t, not_f, lt_t, lt_f, le_t, le_f, eq_t, eq_f, us_len, is_len, bs_len, lenL_00, nums_us] at h2); conv => whnf))
      | (refine reqK_of ?_ ?_; (focus (first | decide | omega | assumption | (simp only [List.length_nil, not_t, not_f, lt_t, lt_f, le_t, le_f, eq_t, eq_f, us_len, is_len, bs_len, lenL_00, nums_us] <;> omega) | (simp [keyNew, sameKey, kEq] <;> omega))); conv => whnf)
      | (refine reqK_of ?_ ?_; rotate_left; (conv => whnf); rotate_left)
      | (refine nth_us ?_ ?_ ?_; (focus (first | omega | (simp only [List.length_nil, not_t, not_f, lt_t, lt_f, le_t, le_f, eq_t, eq_f, us_len, is_len, bs_len, lenL_00, nums_us] <;> omega))); (focus (first | omega | (simp only [List.length_nil, not_t, not_f, lt_t, lt_f, le_t, le_f, eq_t, eq_f, us_len, is_len, bs_len, lenL_00, nums_us] <;> omega))); conv => whnf)
      | (refine nth_is ?_ ?_ ?_; (focus (first | omega | (simp only [List.length_nil, not_t, not_f, lt_t, lt_f, le_t, le_f, eq_t, eq_f, us_len, is_len, bs_len, lenL_00, nums_us] <;> omega))); (focus (first | omega | (simp only [List.length_nil, not_t, not_f, lt_t, lt_f, le_t, le_f, eq_t, eq_f, us_len, is_len, bs_len, lenL_00, nums_us] <;> omega))); conv => whnf)
      | (refine nth_bs ?_ ?_ ?_; (focus (first | omega | (simp only [List.length_nil, not_t, not_f, lt_t, lt_f, le_t, le_f, eq_t, eq_f, us_len, is_len, bs_len, lenL_00, nums_us] <;> omega))); (focus (first | omega | (simp only [List.length_nil, not_t, not_f, lt_t, lt_f, le_t, le_f, eq_t, eq_f, us_len, is_len, bs_len, lenL_00, nums_us] <;> omega))); conv => whnf))
    all_goals first
      | (exfalso; clear hl hs hq1 hz hR0 hRe hR1; simp only [nums_us] at *; simp_all [noItems, le_not_lt, hcl] <;> fail)
      | skip
    all_goals rw [n1]
    all_goals rw [show IntKind.u64.wrap (ldV l (wi (base + 1)) + 1) = e from he.symm]
    have hnn : (wu (e - ldV l base)).toNat ≤ 64 := by
      unfold noItems at hno
      simp only [Bool.or_eq_false_iff, lt_f] at hno
      have := hno.2
      rw [minI_def] at this
      split at this <;> omega
    obtain ⟨q, hq1', hq2, hq3⟩ := wu_mod (e - ldV l base)
    have heq : ∀ k : Nat, k ≤ 64 → (wu (ldV l base + k) = e ↔ (k : Int) = wu (e - ldV l base)) := fun k hk => by
      obtain ⟨q', h1, h2, h3⟩ := wu_mod (ldV l base + k)
      unfold R64 at hR0 hRe
      constructor <;> intro h <;> omega
    refine loopUp [.adopt 13 1001 1] [.kill 80, .kill 81, .kill 82, .kill 83, .kill 84, .kill 85, .kill 86, .kill 87, .kill 88, .kill 89, .kill 90, .kill 91, .kill 92, .kill 93, .keep [157, 73, 71], .ren 157 1001] (fun k : Nat => [(13, .sl 1001 0 none), (14, .t (.int .u64 (wu (ldV l base + k))))]) (fun k => [(1001, .lst 1 (is (itN l base cap (ldV l base) k)) 1)]) (fun k => k ≤ (wu (e - ldV l base)).toNat) (fun k => (wu (e - ldV l base)).toNat - k) 0 (Nat.zero_le _) ?_
    conv => whnf
    refine ⟨⟨?_, rfl⟩, fun k hk C hC => ?_⟩
    · have e0 : wu (ldV l base + ((0 : Nat) : Int)) = ldV l base := by rw [Int.natCast_zero, Int.add_zero]; exact wrap_u64 hR0
      rw [e0]; rfl
    have hk' := heq k (by omega)
    have hil := itN_len l base cap (ldV l base) k
    conv => whnf
    repeat' (first
      | (refine brK_true (by assumption) ?_; conv => whnf)
      | (refine brK_false (by assumption) ?_; conv => whnf)
      | (refine brK_true ?_ ?_; (focus (simp only [List.length_nil, not_t, not_f, lt_t, lt_f, le_t, le_f, eq_t, eq_f, us_len, is_len, bs_len, lenL_00, n1] <;> omega)); conv => whnf)
      | (refine brK_false ?_ ?_; (focus (simp only [List.length_nil, not_t, not_f, lt_t, lt_f, le_t, le_f, eq_t, eq_f, us_len, is_len, bs_len, lenL_00, n1] <;> omega)); conv => whnf)
      | ((refine brK_of (fun h => ?_) (fun h => ?_)) <;> (have h2 := h; (try simp only [List.length_nil, not_t, not_f, lt_t, lt_f, le_t, le_f, eq_t, eq_f, us_len, is_len, bs_len, lenL_00, n1] at h2); conv => whnf))
      | (refine reqK_of ?_ ?_; (focus (first | decide | omega | assumption | (simp only [List.length_nil, not_t, not_f, lt_t, lt_f, le_t, le_f, eq_t, eq_f, us_len, is_len, bs_len, lenL_00, n1] <;> omega) | (simp [keyNew, sameKey, kEq] <;> omega))); conv => whnf)
      | (refine reqK_of ?_ ?_; rotate_left; (conv => whnf); rotate_left)
      | (refine nth_us ?_ ?_ ?_; (focus (first | omega | (simp only [List.length_nil, not_t, not_f, lt_t, lt_f, le_t, le_f, eq_t, eq_f, us_len, is_len, bs_len, lenL_00, n1] <;> omega))); (focus (first | omega | (simp only [List.length_nil, not_t, not_f, lt_t, lt_f, le_t, le_f, eq_t, eq_f, us_len, is_len, bs_len, lenL_00, n1] <;> omega))); conv => whnf)
      | (refine nth_is ?_ ?_ ?_; (focus (first | omega | (simp only [List.length_nil, not_t, not_f, lt_t, lt_f, le_t, le_f, eq_t, eq_f, us_len, is_len, bs_len, lenL_00, n1] <;> omega))); (focus (first | omega | (simp only [List.length_nil, not_t, not_f, lt_t, lt_f, le_t, le_f, eq_t, eq_f, us_len, is_len, bs_len, lenL_00, n1] <;> omega))); conv => whnf)
      | (refine nth_bs ?_ ?_ ?_; (focus (first | omega | (simp only [List.length_nil, not_t, not_f, lt_t, lt_f, le_t, le_f, eq_t, eq_f, us_len, is_len, bs_len, lenL_00, n1] <;> omega))); (focus (first | omega | (simp only [List.length_nil, not_t, not_f, lt_t, lt_f, le_t, le_f, eq_t, eq_f, us_len, is_len, bs_len, lenL_00, n1] <;> omega))); conv => whnf))
    · simp only [maxBytes, is_len, hil, List.length_cons, List.length_nil]; omega
    · have hne : (k : Int) ≠ wu (e - ldV l base) := fun h => by
        have := hk'.2 h
        contradiction
      refine loopC (hC (k + 1) (by omega) (by omega)) ?_
      have ew : wu (wu (ldV l base + (k : Int)) + 1) = wu (ldV l base + ((k + 1 : Nat) : Int)) := by
        obtain ⟨q1, h1, h2, h3⟩ := wu_mod (ldV l base + (k : Int))
        obtain ⟨q2, h4, h5, h6⟩ := wu_mod (wu (ldV l base + (k : Int)) + 1)
        obtain ⟨q3, h7, h8, h9⟩ := wu_mod (ldV l base + ((k + 1 : Nat) : Int))
        omega
      unfold wu at ew
      rw [ew]
      simp only [itN, nums_us, sub_is, ← is_snoc]
      rfl
    · have hke : (k : Int) = wu (e - ldV l base) := hk'.1 (by assumption)
      rw [sub_is, show (wu (e - ldV l base)).toNat = k by omega]
theorem items_p4 (xs : List T) (base cap kind pc b0 c0 b t x out : Int) (hq : (IsU xs ∧ Sz xs) ∧ I64 cap) (hk : kind = 2) (ho : out = 0) (hp : pc = 4) : FnOk Try.prog tgl 11 [.list 1 xs, .int .i64 base, .int .i64 cap, .agg [.int .i64 kind, .int .i64 pc, .int .i64 b0, .int .i64 c0, .int .u64 b, .int .u64 t, .int .i64 x, .int .i64 out]] (.list 1 (is (itemsE (nums xs) base cap true))) := by
  obtain ⟨⟨⟨l, rfl, hl⟩, hs⟩, hcap⟩ := hq
  rw [nums_us]
  have hq1 : IsU (us l) ∧ Sz (us l) := ⟨isU_us hl, hs⟩
  have hz := sz_ne hcap
  have n1 := nums_us l
  have hcl := cl_eq hcap
  have hR0 : R64 (ldV l base) := doV_R hl _ _
  have hR1 : R64 (ldV l (wi (base + 1))) := doV_R hl _ _
  obtain ⟨e, he⟩ : ∃ e, e = wu (ldV l (wi (base + 1)) + 1) := ⟨_, rfl⟩
  have hRe : R64 e := by rw [he]; exact wu_R _
  cases hno : noItems (ldV l base) e cap with
  | true =>
    rw [show itemsE l base cap true = [] by simp [itemsE, ← he, hno]]
    refine FnOk.nilr 1 ?_
    refine fn_ok (Γ := F1) env_F1 Try.func11 low11 ?_
    conv => whnf
    repeat' (first
      | (refine brK_true (by assumption) ?_; conv => whnf)
      | (refine brK_false (by assumption) ?_; conv => whnf)
      | (refine brK_true ?_ ?_; (focus (simp only [List.length_nil, not_t, not_f, lt_t, lt_f, le_t, le_f, eq_t, eq_f, us_len, is_len, bs_len, lenL_00, nums_us] <;> omega)); conv => whnf)
      | (refine brK_false ?_ ?_; (focus (simp only [List.length_nil, not_t, not_f, lt_t, lt_f, le_t, le_f, eq_t, eq_f, us_len, is_len, bs_len, lenL_00, nums_us] <;> omega)); conv => whnf)
      | ((refine brK_of (fun h => ?_) (fun h => ?_)) <;> (have h2 := h; (try simp only [List.length_nil, not_t, not_f, lt_t, lt_f, le_t, le_f, eq_t, eq_f, us_len, is_len, bs_len, lenL_00, nums_us] at h2); conv => whnf))
      | (refine reqK_of ?_ ?_; (focus (first | decide | omega | assumption | (simp only [List.length_nil, not_t, not_f, lt_t, lt_f, le_t, le_f, eq_t, eq_f, us_len, is_len, bs_len, lenL_00, nums_us] <;> omega) | (simp [keyNew, sameKey, kEq] <;> omega))); conv => whnf)
      | (refine reqK_of ?_ ?_; rotate_left; (conv => whnf); rotate_left)
      | (refine nth_us ?_ ?_ ?_; (focus (first | omega | (simp only [List.length_nil, not_t, not_f, lt_t, lt_f, le_t, le_f, eq_t, eq_f, us_len, is_len, bs_len, lenL_00, nums_us] <;> omega))); (focus (first | omega | (simp only [List.length_nil, not_t, not_f, lt_t, lt_f, le_t, le_f, eq_t, eq_f, us_len, is_len, bs_len, lenL_00, nums_us] <;> omega))); conv => whnf)
      | (refine nth_is ?_ ?_ ?_; (focus (first | omega | (simp only [List.length_nil, not_t, not_f, lt_t, lt_f, le_t, le_f, eq_t, eq_f, us_len, is_len, bs_len, lenL_00, nums_us] <;> omega))); (focus (first | omega | (simp only [List.length_nil, not_t, not_f, lt_t, lt_f, le_t, le_f, eq_t, eq_f, us_len, is_len, bs_len, lenL_00, nums_us] <;> omega))); conv => whnf)
      | (refine nth_bs ?_ ?_ ?_; (focus (first | omega | (simp only [List.length_nil, not_t, not_f, lt_t, lt_f, le_t, le_f, eq_t, eq_f, us_len, is_len, bs_len, lenL_00, nums_us] <;> omega))); (focus (first | omega | (simp only [List.length_nil, not_t, not_f, lt_t, lt_f, le_t, le_f, eq_t, eq_f, us_len, is_len, bs_len, lenL_00, nums_us] <;> omega))); conv => whnf))
    all_goals (exfalso; clear hl hs hq1 hz hR0 hRe hR1; simp only [nums_us] at *; simp_all [noItems, le_not_lt, hcl] <;> fail)
  | false =>
    rw [show itemsE l base cap true = itN l base cap (ldV l base) (wu (e - ldV l base)).toNat by simp [itemsE, ← he, hno]]
    refine fn_ok (Γ := F1) env_F1 Try.func11 low11 ?_
    conv => whnf
    repeat' (first
      | (refine brK_true (by assumption) ?_; conv => whnf)
      | (refine brK_false (by assumption) ?_; conv => whnf)
      | (refine brK_true ?_ ?_; (focus (simp only [List.length_nil, not_t, not_f, lt_t, lt_f, le_t, le_f, eq_t, eq_f, us_len, is_len, bs_len, lenL_00, nums_us] <;> omega)); conv => whnf)
      | (refine brK_false ?_ ?_; (focus (simp only [List.length_nil, not_t, not_f, lt_t, lt_f, le_t, le_f, eq_t, eq_f, us_len, is_len, bs_len, lenL_00, nums_us] <;> omega)); conv => whnf)
      | ((refine brK_of (fun h => ?_) (fun h => ?_)) <;> (have h2 := h; (try simp only [List.length_nil, not_t, not_f, lt_t, lt_f, le_t, le_f, eq_t, eq_f, us_len, is_len, bs_len, lenL_00, nums_us] at h2); conv => whnf))
      | (refine reqK_of ?_ ?_; (focus (first | decide | omega | assumption | (simp only [List.length_nil, not_t, not_f, lt_t, lt_f, le_t, le_f, eq_t, eq_f, us_len, is_len, bs_len, lenL_00, nums_us] <;> omega) | (simp [keyNew, sameKey, kEq] <;> omega))); conv => whnf)
      | (refine reqK_of ?_ ?_; rotate_left; (conv => whnf); rotate_left)
      | (refine nth_us ?_ ?_ ?_; (focus (first | omega | (simp only [List.length_nil, not_t, not_f, lt_t, lt_f, le_t, le_f, eq_t, eq_f, us_len, is_len, bs_len, lenL_00, nums_us] <;> omega))); (focus (first | omega | (simp only [List.length_nil, not_t, not_f, lt_t, lt_f, le_t, le_f, eq_t, eq_f, us_len, is_len, bs_len, lenL_00, nums_us] <;> omega))); conv => whnf)
      | (refine nth_is ?_ ?_ ?_; (focus (first | omega | (simp only [List.length_nil, not_t, not_f, lt_t, lt_f, le_t, le_f, eq_t, eq_f, us_len, is_len, bs_len, lenL_00, nums_us] <;> omega))); (focus (first | omega | (simp only [List.length_nil, not_t, not_f, lt_t, lt_f, le_t, le_f, eq_t, eq_f, us_len, is_len, bs_len, lenL_00, nums_us] <;> omega))); conv => whnf)
      | (refine nth_bs ?_ ?_ ?_; (focus (first | omega | (simp only [List.length_nil, not_t, not_f, lt_t, lt_f, le_t, le_f, eq_t, eq_f, us_len, is_len, bs_len, lenL_00, nums_us] <;> omega))); (focus (first | omega | (simp only [List.length_nil, not_t, not_f, lt_t, lt_f, le_t, le_f, eq_t, eq_f, us_len, is_len, bs_len, lenL_00, nums_us] <;> omega))); conv => whnf))
    all_goals first
      | (exfalso; clear hl hs hq1 hz hR0 hRe hR1; simp only [nums_us] at *; simp_all [noItems, le_not_lt, hcl] <;> fail)
      | skip
    all_goals rw [n1]
    all_goals rw [show IntKind.u64.wrap (ldV l (wi (base + 1)) + 1) = e from he.symm]
    have hnn : (wu (e - ldV l base)).toNat ≤ 64 := by
      unfold noItems at hno
      simp only [Bool.or_eq_false_iff, lt_f] at hno
      have := hno.2
      rw [minI_def] at this
      split at this <;> omega
    obtain ⟨q, hq1', hq2, hq3⟩ := wu_mod (e - ldV l base)
    have heq : ∀ k : Nat, k ≤ 64 → (wu (ldV l base + k) = e ↔ (k : Int) = wu (e - ldV l base)) := fun k hk => by
      obtain ⟨q', h1, h2, h3⟩ := wu_mod (ldV l base + k)
      unfold R64 at hR0 hRe
      constructor <;> intro h <;> omega
    refine loopUp [.adopt 13 1001 1] [.kill 80, .kill 81, .kill 82, .kill 83, .kill 84, .kill 85, .kill 86, .kill 87, .kill 88, .kill 89, .kill 90, .kill 91, .kill 92, .kill 93, .keep [157, 73, 71], .ren 157 1001] (fun k : Nat => [(13, .sl 1001 0 none), (14, .t (.int .u64 (wu (ldV l base + k))))]) (fun k => [(1001, .lst 1 (is (itN l base cap (ldV l base) k)) 1)]) (fun k => k ≤ (wu (e - ldV l base)).toNat) (fun k => (wu (e - ldV l base)).toNat - k) 0 (Nat.zero_le _) ?_
    conv => whnf
    refine ⟨⟨?_, rfl⟩, fun k hk C hC => ?_⟩
    · have e0 : wu (ldV l base + ((0 : Nat) : Int)) = ldV l base := by rw [Int.natCast_zero, Int.add_zero]; exact wrap_u64 hR0
      rw [e0]; rfl
    have hk' := heq k (by omega)
    have hil := itN_len l base cap (ldV l base) k
    conv => whnf
    repeat' (first
      | (refine brK_true (by assumption) ?_; conv => whnf)
      | (refine brK_false (by assumption) ?_; conv => whnf)
      | (refine brK_true ?_ ?_; (focus (simp only [List.length_nil, not_t, not_f, lt_t, lt_f, le_t, le_f, eq_t, eq_f, us_len, is_len, bs_len, lenL_00, n1] <;> omega)); conv => whnf)
      | (refine brK_false ?_ ?_; (focus (simp only [List.length_nil, not_t, not_f, lt_t, lt_f, le_t, le_f, eq_t, eq_f, us_len, is_len, bs_len, lenL_00, n1] <;> omega)); conv => whnf)
      | ((refine brK_of (fun h => ?_) (fun h => ?_)) <;> (have h2 := h; (try simp only [List.length_nil, not_t, not_f, lt_t, lt_f, le_t, le_f, eq_t, eq_f, us_len, is_len, bs_len, lenL_00, n1] at h2); conv => whnf))
      | (refine reqK_of ?_ ?_; (focus (first | decide | omega | assumption | (simp only [List.length_nil, not_t, not_f, lt_t, lt_f, le_t, le_f, eq_t, eq_f, us_len, is_len, bs_len, lenL_00, n1] <;> omega) | (simp [keyNew, sameKey, kEq] <;> omega))); conv => whnf)
      | (refine reqK_of ?_ ?_; rotate_left; (conv => whnf); rotate_left)
      | (refine nth_us ?_ ?_ ?_; (focus (first | omega | (simp only [List.length_nil, not_t, not_f, lt_t, lt_f, le_t, le_f, eq_t, eq_f, us_len, is_len, bs_len, lenL_00, n1] <;> omega))); (focus (first | omega | (simp only [List.length_nil, not_t, not_f, lt_t, lt_f, le_t, le_f, eq_t, eq_f, us_len, is_len, bs_len, lenL_00, n1] <;> omega))); conv => whnf)
      | (refine nth_is ?_ ?_ ?_; (focus (first | omega | (simp only [List.length_nil, not_t, not_f, lt_t, lt_f, le_t, le_f, eq_t, eq_f, us_len, is_len, bs_len, lenL_00, n1] <;> omega))); (focus (first | omega | (simp only [List.length_nil, not_t, not_f, lt_t, lt_f, le_t, le_f, eq_t, eq_f, us_len, is_len, bs_len, lenL_00, n1] <;> omega))); conv => whnf)
      | (refine nth_bs ?_ ?_ ?_; (focus (first | omega | (simp only [List.length_nil, not_t, not_f, lt_t, lt_f, le_t, le_f, eq_t, eq_f, us_len, is_len, bs_len, lenL_00, n1] <;> omega))); (focus (first | omega | (simp only [List.length_nil, not_t, not_f, lt_t, lt_f, le_t, le_f, eq_t, eq_f, us_len, is_len, bs_len, lenL_00, n1] <;> omega))); conv => whnf))
    · simp only [maxBytes, is_len, hil, List.length_cons, List.length_nil]; omega
    · have hne : (k : Int) ≠ wu (e - ldV l base) := fun h => by
        have := hk'.2 h
        contradiction
      refine loopC (hC (k + 1) (by omega) (by omega)) ?_
      have ew : wu (wu (ldV l base + (k : Int)) + 1) = wu (ldV l base + ((k + 1 : Nat) : Int)) := by
        obtain ⟨q1, h1, h2, h3⟩ := wu_mod (ldV l base + (k : Int))
        obtain ⟨q2, h4, h5, h6⟩ := wu_mod (wu (ldV l base + (k : Int)) + 1)
        obtain ⟨q3, h7, h8, h9⟩ := wu_mod (ldV l base + ((k + 1 : Nat) : Int))
        omega
      unfold wu at ew
      rw [ew]
      simp only [itN, nums_us, sub_is, ← is_snoc]
      rfl
    · have hke : (k : Int) = wu (e - ldV l base) := hk'.1 (by assumption)
      rw [sub_is, show (wu (e - ldV l base)).toNat = k by omega]
theorem items_p5 (xs : List T) (base cap kind pc b0 c0 b t x out : Int) (hq : (IsU xs ∧ Sz xs) ∧ I64 cap) (hk : kind = 2) (ho : out = 0) (hp : pc = 5) : FnOk Try.prog tgl 11 [.list 1 xs, .int .i64 base, .int .i64 cap, .agg [.int .i64 kind, .int .i64 pc, .int .i64 b0, .int .i64 c0, .int .u64 b, .int .u64 t, .int .i64 x, .int .i64 out]] (.list 1 (is (itemsE (nums xs) base cap true))) := by
  obtain ⟨⟨⟨l, rfl, hl⟩, hs⟩, hcap⟩ := hq
  rw [nums_us]
  have hq1 : IsU (us l) ∧ Sz (us l) := ⟨isU_us hl, hs⟩
  have hz := sz_ne hcap
  have n1 := nums_us l
  have hcl := cl_eq hcap
  have hR0 : R64 (ldV l base) := doV_R hl _ _
  have hR1 : R64 (ldV l (wi (base + 1))) := doV_R hl _ _
  obtain ⟨e, he⟩ : ∃ e, e = wu (ldV l (wi (base + 1)) + 1) := ⟨_, rfl⟩
  have hRe : R64 e := by rw [he]; exact wu_R _
  cases hno : noItems (ldV l base) e cap with
  | true =>
    rw [show itemsE l base cap true = [] by simp [itemsE, ← he, hno]]
    refine FnOk.nilr 1 ?_
    refine fn_ok (Γ := F1) env_F1 Try.func11 low11 ?_
    conv => whnf
    repeat' (first
      | (refine brK_true (by assumption) ?_; conv => whnf)
      | (refine brK_false (by assumption) ?_; conv => whnf)
      | (refine brK_true ?_ ?_; (focus (simp only [List.length_nil, not_t, not_f, lt_t, lt_f, le_t, le_f, eq_t, eq_f, us_len, is_len, bs_len, lenL_00, nums_us] <;> omega)); conv => whnf)
      | (refine brK_false ?_ ?_; (focus (simp only [List.length_nil, not_t, not_f, lt_t, lt_f, le_t, le_f, eq_t, eq_f, us_len, is_len, bs_len, lenL_00, nums_us] <;> omega)); conv => whnf)
      | ((refine brK_of (fun h => ?_) (fun h => ?_)) <;> (have h2 := h; (try simp only [List.length_nil, not_t, not_f, lt_t, lt_f, le_t, le_f, eq_t, eq_f, us_len, is_len, bs_len, lenL_00, nums_us] at h2); conv => whnf))
      | (refine reqK_of ?_ ?_; (focus (first | decide | omega | assumption | (simp only [List.length_nil, not_t, not_f, lt_t, lt_f, le_t, le_f, eq_t, eq_f, us_len, is_len, bs_len, lenL_00, nums_us] <;> omega) | (simp [keyNew, sameKey, kEq] <;> omega))); conv => whnf)
      | (refine reqK_of ?_ ?_; rotate_left; (conv => whnf); rotate_left)
      | (refine nth_us ?_ ?_ ?_; (focus (first | omega | (simp only [List.length_nil, not_t, not_f, lt_t, lt_f, le_t, le_f, eq_t, eq_f, us_len, is_len, bs_len, lenL_00, nums_us] <;> omega))); (focus (first | omega | (simp only [List.length_nil, not_t, not_f, lt_t, lt_f, le_t, le_f, eq_t, eq_f, us_len, is_len, bs_len, lenL_00, nums_us] <;> omega))); conv => whnf)
      | (refine nth_is ?_ ?_ ?_; (focus (first | omega | (simp only [List.length_nil, not_t, not_f, lt_t, lt_f, le_t, le_f, eq_t, eq_f, us_len, is_len, bs_len, lenL_00, nums_us] <;> omega))); (focus (first | omega | (simp only [List.length_nil, not_t, not_f, lt_t, lt_f, le_t, le_f, eq_t, eq_f, us_len, is_len, bs_len, lenL_00, nums_us] <;> omega))); conv => whnf)
      | (refine nth_bs ?_ ?_ ?_; (focus (first | omega | (simp only [List.length_nil, not_t, not_f, lt_t, lt_f, le_t, le_f, eq_t, eq_f, us_len, is_len, bs_len, lenL_00, nums_us] <;> omega))); (focus (first | omega | (simp only [List.length_nil, not_t, not_f, lt_t, lt_f, le_t, le_f, eq_t, eq_f, us_len, is_len, bs_len, lenL_00, nums_us] <;> omega))); conv => whnf))
    all_goals (exfalso; clear hl hs hq1 hz hR0 hRe hR1; simp only [nums_us] at *; simp_all [noItems, le_not_lt, hcl] <;> fail)
  | false =>
    rw [show itemsE l base cap true = itN l base cap (ldV l base) (wu (e - ldV l base)).toNat by simp [itemsE, ← he, hno]]
    refine fn_ok (Γ := F1) env_F1 Try.func11 low11 ?_
    conv => whnf
    repeat' (first
      | (refine brK_true (by assumption) ?_; conv => whnf)
      | (refine brK_false (by assumption) ?_; conv => whnf)
      | (refine brK_true ?_ ?_; (focus (simp only [List.length_nil, not_t, not_f, lt_t, lt_f, le_t, le_f, eq_t, eq_f, us_len, is_len, bs_len, lenL_00, nums_us] <;> omega)); conv => whnf)
      | (refine brK_false ?_ ?_; (focus (simp only [List.length_nil, not_t, not_f, lt_t, lt_f, le_t, le_f, eq_t, eq_f, us_len, is_len, bs_len, lenL_00, nums_us] <;> omega)); conv => whnf)
      | ((refine brK_of (fun h => ?_) (fun h => ?_)) <;> (have h2 := h; (try simp only [List.length_nil, not_t, not_f, lt_t, lt_f, le_t, le_f, eq_t, eq_f, us_len, is_len, bs_len, lenL_00, nums_us] at h2); conv => whnf))
      | (refine reqK_of ?_ ?_; (focus (first | decide | omega | assumption | (simp only [List.length_nil, not_t, not_f, lt_t, lt_f, le_t, le_f, eq_t, eq_f, us_len, is_len, bs_len, lenL_00, nums_us] <;> omega) | (simp [keyNew, sameKey, kEq] <;> omega))); conv => whnf)
      | (refine reqK_of ?_ ?_; rotate_left; (conv => whnf); rotate_left)
      | (refine nth_us ?_ ?_ ?_; (focus (first | omega | (simp only [List.length_nil, not_t, not_f, lt_t, lt_f, le_t, le_f, eq_t, eq_f, us_len, is_len, bs_len, lenL_00, nums_us] <;> omega))); (focus (first | omega | (simp only [List.length_nil, not_t, not_f, lt_t, lt_f, le_t, le_f, eq_t, eq_f, us_len, is_len, bs_len, lenL_00, nums_us] <;> omega))); conv => whnf)
      | (refine nth_is ?_ ?_ ?_; (focus (first | omega | (simp only [List.length_nil, not_t, not_f, lt_t, lt_f, le_t, le_f, eq_t, eq_f, us_len, is_len, bs_len, lenL_00, nums_us] <;> omega))); (focus (first | omega | (simp only [List.length_nil, not_t, not_f, lt_t, lt_f, le_t, le_f, eq_t, eq_f, us_len, is_len, bs_len, lenL_00, nums_us] <;> omega))); conv => whnf)
      | (refine nth_bs ?_ ?_ ?_; (focus (first | omega | (simp only [List.length_nil, not_t, not_f, lt_t, lt_f, le_t, le_f, eq_t, eq_f, us_len, is_len, bs_len, lenL_00, nums_us] <;> omega))); (focus (first | omega | (simp only [List.length_nil, not_t, not_f, lt_t, lt_f, le_t, le_f, eq_t, eq_f, us_len, is_len, bs_len, lenL_00, nums_us] <;> omega))); conv => whnf))
    all_goals first
      | (exfalso; clear hl hs hq1 hz hR0 hRe hR1; simp only [nums_us] at *; simp_all [noItems, le_not_lt, hcl] <;> fail)
      | skip
    all_goals rw [n1]
    all_goals rw [show IntKind.u64.wrap (ldV l (wi (base + 1)) + 1) = e from he.symm]
    have hnn : (wu (e - ldV l base)).toNat ≤ 64 := by
      unfold noItems at hno
      simp only [Bool.or_eq_false_iff, lt_f] at hno
      have := hno.2
      rw [minI_def] at this
      split at this <;> omega
    obtain ⟨q, hq1', hq2, hq3⟩ := wu_mod (e - ldV l base)
    have heq : ∀ k : Nat, k ≤ 64 → (wu (ldV l base + k) = e ↔ (k : Int) = wu (e - ldV l base)) := fun k hk => by
      obtain ⟨q', h1, h2, h3⟩ := wu_mod (ldV l base + k)
      unfold R64 at hR0 hRe
      constructor <;> intro h <;> omega
    refine loopUp [.adopt 13 1001 1] [.kill 80, .kill 81, .kill 82, .kill 83, .kill 84, .kill 85, .kill 86, .kill 87, .kill 88, .kill 89, .kill 90, .kill 91, .kill 92, .kill 93, .keep [157, 73, 71], .ren 157 1001] (fun k : Nat => [(13, .sl 1001 0 none), (14, .t (.int .u64 (wu (ldV l base + k))))]) (fun k => [(1001, .lst 1 (is (itN l base cap (ldV l base) k)) 1)]) (fun k => k ≤ (wu (e - ldV l base)).toNat) (fun k => (wu (e - ldV l base)).toNat - k) 0 (Nat.zero_le _) ?_
    conv => whnf
    refine ⟨⟨?_, rfl⟩, fun k hk C hC => ?_⟩
    · have e0 : wu (ldV l base + ((0 : Nat) : Int)) = ldV l base := by rw [Int.natCast_zero, Int.add_zero]; exact wrap_u64 hR0
      rw [e0]; rfl
    have hk' := heq k (by omega)
    have hil := itN_len l base cap (ldV l base) k
    conv => whnf
    repeat' (first
      | (refine brK_true (by assumption) ?_; conv => whnf)
      | (refine brK_false (by assumption) ?_; conv => whnf)
      | (refine brK_true ?_ ?_; (focus (simp only [List.length_nil, not_t, not_f, lt_t, lt_f, le_t, le_f, eq_t, eq_f, us_len, is_len, bs_len, lenL_00, n1] <;> omega)); conv => whnf)
      | (refine brK_false ?_ ?_; (focus (simp only [List.length_nil, not_t, not_f, lt_t, lt_f, le_t, le_f, eq_t, eq_f, us_len, is_len, bs_len, lenL_00, n1] <;> omega)); conv => whnf)
      | ((refine brK_of (fun h => ?_) (fun h => ?_)) <;> (have h2 := h; (try simp only [List.length_nil, not_t, not_f, lt_t, lt_f, le_t, le_f, eq_t, eq_f, us_len, is_len, bs_len, lenL_00, n1] at h2); conv => whnf))
      | (refine reqK_of ?_ ?_; (focus (first | decide | omega | assumption | (simp only [List.length_nil, not_t, not_f, lt_t, lt_f, le_t, le_f, eq_t, eq_f, us_len, is_len, bs_len, lenL_00, n1] <;> omega) | (simp [keyNew, sameKey, kEq] <;> omega))); conv => whnf)
      | (refine reqK_of ?_ ?_; rotate_left; (conv => whnf); rotate_left)
      | (refine nth_us ?_ ?_ ?_; (focus (first | omega | (simp only [List.length_nil, not_t, not_f, lt_t, lt_f, le_t, le_f, eq_t, eq_f, us_len, is_len, bs_len, lenL_00, n1] <;> omega))); (focus (first | omega | (simp only [List.length_nil, not_t, not_f, lt_t, lt_f, le_t, le_f, eq_t, eq_f, us_len, is_len, bs_len, lenL_00, n1] <;> omega))); conv => whnf)
      | (refine nth_is ?_ ?_ ?_; (focus (first | omega | (simp only [List.length_nil, not_t, not_f, lt_t, lt_f, le_t, le_f, eq_t, eq_f, us_len, is_len, bs_len, lenL_00, n1] <;> omega))); (focus (first | omega | (simp only [List.length_nil, not_t, not_f, lt_t, lt_f, le_t, le_f, eq_t, eq_f, us_len, is_len, bs_len, lenL_00, n1] <;> omega))); conv => whnf)
      | (refine nth_bs ?_ ?_ ?_; (focus (first | omega | (simp only [List.length_nil, not_t, not_f, lt_t, lt_f, le_t, le_f, eq_t, eq_f, us_len, is_len, bs_len, lenL_00, n1] <;> omega))); (focus (first | omega | (simp only [List.length_nil, not_t, not_f, lt_t, lt_f, le_t, le_f, eq_t, eq_f, us_len, is_len, bs_len, lenL_00, n1] <;> omega))); conv => whnf))
    · simp only [maxBytes, is_len, hil, List.length_cons, List.length_nil]; omega
    · have hne : (k : Int) ≠ wu (e - ldV l base) := fun h => by
        have := hk'.2 h
        contradiction
      refine loopC (hC (k + 1) (by omega) (by omega)) ?_
      have ew : wu (wu (ldV l base + (k : Int)) + 1) = wu (ldV l base + ((k + 1 : Nat) : Int)) := by
        obtain ⟨q1, h1, h2, h3⟩ := wu_mod (ldV l base + (k : Int))
        obtain ⟨q2, h4, h5, h6⟩ := wu_mod (wu (ldV l base + (k : Int)) + 1)
        obtain ⟨q3, h7, h8, h9⟩ := wu_mod (ldV l base + ((k + 1 : Nat) : Int))
        omega
      unfold wu at ew
      rw [ew]
      simp only [itN, nums_us, sub_is, ← is_snoc]
      rfl
    · have hke : (k : Int) = wu (e - ldV l base) := hk'.1 (by assumption)
      rw [sub_is, show (wu (e - ldV l base)).toNat = k by omega]
theorem items_p3 (xs : List T) (base cap kind pc b0 c0 b t x out : Int) (hq : (IsU xs ∧ Sz xs) ∧ I64 cap) (hk : kind = 2) (ho : out = 0) (hp : pc = 3) (ht : t = wu (b - 1)) : FnOk Try.prog tgl 11 [.list 1 xs, .int .i64 base, .int .i64 cap, .agg [.int .i64 kind, .int .i64 pc, .int .i64 b0, .int .i64 c0, .int .u64 b, .int .u64 t, .int .i64 x, .int .i64 out]] (.list 1 (is (itemsE (nums xs) base cap true))) := by
  obtain ⟨⟨⟨l, rfl, hl⟩, hs⟩, hcap⟩ := hq
  rw [nums_us]
  have hq1 : IsU (us l) ∧ Sz (us l) := ⟨isU_us hl, hs⟩
  have hz := sz_ne hcap
  have n1 := nums_us l
  have hcl := cl_eq hcap
  have hR0 : R64 (ldV l base) := doV_R hl _ _
  have hR1 : R64 (ldV l (wi (base + 1))) := doV_R hl _ _
  obtain ⟨e, he⟩ : ∃ e, e = wu (ldV l (wi (base + 1)) + 1) := ⟨_, rfl⟩
  have hRe : R64 e := by rw [he]; exact wu_R _
  cases hno : noItems (ldV l base) e cap with
  | true =>
    rw [show itemsE l base cap true = [] by simp [itemsE, ← he, hno]]
    refine FnOk.nilr 1 ?_
    refine fn_ok (Γ := F1) env_F1 Try.func11 low11 ?_
    conv => whnf
    repeat' (first
      | (refine brK_true (by assumption) ?_; conv => whnf)
      | (refine brK_false (by assumption) ?_; conv => whnf)
      | (refine brK_true ?_ ?_; (focus (simp only [List.length_nil, not_t, not_f, lt_t, lt_f, le_t, le_f, eq_t, eq_f, us_len, is_len, bs_len, lenL_00, nums_us] <;> omega)); conv => whnf)
      | (refine brK_false ?_ ?_; (focus (simp only [List.length_nil, not_t, not_f, lt_t, lt_f, le_t, le_f, eq_t, eq_f, us_len, is_len, bs_len, lenL_00, nums_us] <;> omega)); conv => whnf)
      | ((refine brK_of (fun h => ?_) (fun h => ?_)) <;> (have h2 := h; (try simp only [List.length_nil, not_t, not_f, lt_t, lt_f, le_t, le_f, eq_t, eq_f, us_len, is_len, bs_len, lenL_00, nums_us] at h2); conv => whnf))
      | (refine reqK_of ?_ ?_; (focus (first | decide | omega | assumption | (simp only [List.length_nil, not_t, not_f, lt_t, lt_f, le_t, le_f, eq_t, eq_f, us_len, is_len, bs_len, lenL_00, nums_us] <;> omega) | (simp [keyNew, sameKey, kEq] <;> omega))); conv => whnf)
      | (refine reqK_of ?_ ?_; rotate_left; (conv => whnf); rotate_left)
      | (refine nth_us ?_ ?_ ?_; (focus (first | omega | (simp only [List.length_nil, not_t, not_f, lt_t, lt_f, le_t, le_f, eq_t, eq_f, us_len, is_len, bs_len, lenL_00, nums_us] <;> omega))); (focus (first | omega | (simp only [List.length_nil, not_t, not_f, lt_t, lt_f, le_t, le_f, eq_t, eq_f, us_len, is_len, bs_len, lenL_00, nums_us] <;> omega))); conv => whnf)
      | (refine nth_is ?_ ?_ ?_; (focus (first | omega | (simp only [List.length_nil, not_t, not_f, lt_t, lt_f, le_t, le_f, eq_t, eq_f, us_len, is_len, bs_len, lenL_00, nums_us] <;> omega))); (focus (first | omega | (simp only [List.length_nil, not_t, not_f, lt_t, lt_f, le_t, le_f, eq_t, eq_f, us_len, is_len, bs_len, lenL_00, nums_us] <;> omega))); conv => whnf)
      | (refine nth_bs ?_ ?_ ?_; (focus (first | omega | (simp only [List.length_nil, not_t, not_f, lt_t, lt_f, le_t, le_f, eq_t, eq_f, us_len, is_len, bs_len, lenL_00, nums_us] <;> omega))); (focus (first | omega | (simp only [List.length_nil, not_t, not_f, lt_t, lt_f, le_t, le_f, eq_t, eq_f, us_len, is_len, bs_len, lenL_00, nums_us] <;> omega))); conv => whnf))
    all_goals (exfalso; clear hl hs hq1 hz hR0 hRe hR1; simp only [nums_us] at *; simp_all [noItems, le_not_lt, hcl] <;> fail)
  | false =>
    rw [show itemsE l base cap true = itN l base cap (ldV l base) (wu (e - ldV l base)).toNat by simp [itemsE, ← he, hno]]
    refine fn_ok (Γ := F1) env_F1 Try.func11 low11 ?_
    conv => whnf
    repeat' (first
      | (refine brK_true (by assumption) ?_; conv => whnf)
      | (refine brK_false (by assumption) ?_; conv => whnf)
      | (refine brK_true ?_ ?_; (focus (simp only [List.length_nil, not_t, not_f, lt_t, lt_f, le_t, le_f, eq_t, eq_f, us_len, is_len, bs_len, lenL_00, nums_us] <;> omega)); conv => whnf)
      | (refine brK_false ?_ ?_; (focus (simp only [List.length_nil, not_t, not_f, lt_t, lt_f, le_t, le_f, eq_t, eq_f, us_len, is_len, bs_len, lenL_00, nums_us] <;> omega)); conv => whnf)
      | ((refine brK_of (fun h => ?_) (fun h => ?_)) <;> (have h2 := h; (try simp only [List.length_nil, not_t, not_f, lt_t, lt_f, le_t, le_f, eq_t, eq_f, us_len, is_len, bs_len, lenL_00, nums_us] at h2); conv => whnf))
      | (refine reqK_of ?_ ?_; (focus (first | decide | omega | assumption | (simp only [List.length_nil, not_t, not_f, lt_t, lt_f, le_t, le_f, eq_t, eq_f, us_len, is_len, bs_len, lenL_00, nums_us] <;> omega) | (simp [keyNew, sameKey, kEq] <;> omega))); conv => whnf)
      | (refine reqK_of ?_ ?_; rotate_left; (conv => whnf); rotate_left)
      | (refine nth_us ?_ ?_ ?_; (focus (first | omega | (simp only [List.length_nil, not_t, not_f, lt_t, lt_f, le_t, le_f, eq_t, eq_f, us_len, is_len, bs_len, lenL_00, nums_us] <;> omega))); (focus (first | omega | (simp only [List.length_nil, not_t, not_f, lt_t, lt_f, le_t, le_f, eq_t, eq_f, us_len, is_len, bs_len, lenL_00, nums_us] <;> omega))); conv => whnf)
      | (refine nth_is ?_ ?_ ?_; (focus (first | omega | (simp only [List.length_nil, not_t, not_f, lt_t, lt_f, le_t, le_f, eq_t, eq_f, us_len, is_len, bs_len, lenL_00, nums_us] <;> omega))); (focus (first | omega | (simp only [List.length_nil, not_t, not_f, lt_t, lt_f, le_t, le_f, eq_t, eq_f, us_len, is_len, bs_len, lenL_00, nums_us] <;> omega))); conv => whnf)
      | (refine nth_bs ?_ ?_ ?_; (focus (first | omega | (simp only [List.length_nil, not_t, not_f, lt_t, lt_f, le_t, le_f, eq_t, eq_f, us_len, is_len, bs_len, lenL_00, nums_us] <;> omega))); (focus (first | omega | (simp only [List.length_nil, not_t, not_f, lt_t, lt_f, le_t, le_f, eq_t, eq_f, us_len, is_len, bs_len, lenL_00, nums_us] <;> omega))); conv => whnf))
    all_goals first
      | (exfalso; clear hl hs hq1 hz hR0 hRe hR1; simp only [nums_us] at *; simp_all [noItems, le_not_lt, hcl] <;> fail)
      | skip
    all_goals rw [n1]
    all_goals rw [show IntKind.u64.wrap (ldV l (wi (base + 1)) + 1) = e from he.symm]
    have hnn : (wu (e - ldV l base)).toNat ≤ 64 := by
      unfold noItems at hno
      simp only [Bool.or_eq_false_iff, lt_f] at hno
      have := hno.2
      rw [minI_def] at this
      split at this <;> omega
    obtain ⟨q, hq1', hq2, hq3⟩ := wu_mod (e - ldV l base)
    have heq : ∀ k : Nat, k ≤ 64 → (wu (ldV l base + k) = e ↔ (k : Int) = wu (e - ldV l base)) := fun k hk => by
      obtain ⟨q', h1, h2, h3⟩ := wu_mod (ldV l base + k)
      unfold R64 at hR0 hRe
      constructor <;> intro h <;> omega
    refine loopUp [.adopt 13 1001 1] [.kill 80, .kill 81, .kill 82, .kill 83, .kill 84, .kill 85, .kill 86, .kill 87, .kill 88, .kill 89, .kill 90, .kill 91, .kill 92, .kill 93, .keep [157, 73, 71], .ren 157 1001] (fun k : Nat => [(13, .sl 1001 0 none), (14, .t (.int .u64 (wu (ldV l base + k))))]) (fun k => [(1001, .lst 1 (is (itN l base cap (ldV l base) k)) 1)]) (fun k => k ≤ (wu (e - ldV l base)).toNat) (fun k => (wu (e - ldV l base)).toNat - k) 0 (Nat.zero_le _) ?_
    conv => whnf
    refine ⟨⟨?_, rfl⟩, fun k hk C hC => ?_⟩
    · have e0 : wu (ldV l base + ((0 : Nat) : Int)) = ldV l base := by rw [Int.natCast_zero, Int.add_zero]; exact wrap_u64 hR0
      rw [e0]; rfl
    have hk' := heq k (by omega)
    have hil := itN_len l base cap (ldV l base) k
    conv => whnf
    repeat' (first
      | (refine brK_true (by assumption) ?_; conv => whnf)
      | (refine brK_false (by assumption) ?_; conv => whnf)
      | (refine brK_true ?_ ?_; (focus (simp only [List.length_nil, not_t, not_f, lt_t, lt_f, le_t, le_f, eq_t, eq_f, us_len, is_len, bs_len, lenL_00, n1] <;> omega)); conv => whnf)
      | (refine brK_false ?_ ?_; (focus (simp only [List.length_nil, not_t, not_f, lt_t, lt_f, le_t, le_f, eq_t, eq_f, us_len, is_len, bs_len, lenL_00, n1] <;> omega)); conv => whnf)
      | ((refine brK_of (fun h => ?_) (fun h => ?_)) <;> (have h2 := h; (try simp only [List.length_nil, not_t, not_f, lt_t, lt_f, le_t, le_f, eq_t, eq_f, us_len, is_len, bs_len, lenL_00, n1] at h2); conv => whnf))
      | (refine reqK_of ?_ ?_; (focus (first | decide | omega | assumption | (simp only [List.length_nil, not_t, not_f, lt_t, lt_f, le_t, le_f, eq_t, eq_f, us_len, is_len, bs_len, lenL_00, n1] <;> omega) | (simp [keyNew, sameKey, kEq] <;> omega))); conv => whnf)
      | (refine reqK_of ?_ ?_; rotate_left; (conv => whnf); rotate_left)
      | (refine nth_us ?_ ?_ ?_; (focus (first | omega | (simp only [List.length_nil, not_t, not_f, lt_t, lt_f, le_t, le_f, eq_t, eq_f, us_len, is_len, bs_len, lenL_00, n1] <;> omega))); (focus (first | omega | (simp only [List.length_nil, not_t, not_f, lt_t, lt_f, le_t, le_f, eq_t, eq_f, us_len, is_len, bs_len, lenL_00, n1] <;> omega))); conv => whnf)
      | (refine nth_is ?_ ?_ ?_; (focus (first | omega | (simp only [List.length_nil, not_t, not_f, lt_t, lt_f, le_t, le_f, eq_t, eq_f, us_len, is_len, bs_len, lenL_00, n1] <;> omega))); (focus (first | omega | (simp only [List.length_nil, not_t, not_f, lt_t, lt_f, le_t, le_f, eq_t, eq_f, us_len, is_len, bs_len, lenL_00, n1] <;> omega))); conv => whnf)
      | (refine nth_bs ?_ ?_ ?_; (focus (first | omega | (simp only [List.length_nil, not_t, not_f, lt_t, lt_f, le_t, le_f, eq_t, eq_f, us_len, is_len, bs_len, lenL_00, n1] <;> omega))); (focus (first | omega | (simp only [List.length_nil, not_t, not_f, lt_t, lt_f, le_t, le_f, eq_t, eq_f, us_len, is_len, bs_len, lenL_00, n1] <;> omega))); conv => whnf))
    · simp only [maxBytes, is_len, hil, List.length_cons, List.length_nil]; omega
    · have hne : (k : Int) ≠ wu (e - ldV l base) := fun h => by
        have := hk'.2 h
        contradiction
      refine loopC (hC (k + 1) (by omega) (by omega)) ?_
      have ew : wu (wu (ldV l base + (k : Int)) + 1) = wu (ldV l base + ((k + 1 : Nat) : Int)) := by
        obtain ⟨q1, h1, h2, h3⟩ := wu_mod (ldV l base + (k : Int))
        obtain ⟨q2, h4, h5, h6⟩ := wu_mod (wu (ldV l base + (k : Int)) + 1)
        obtain ⟨q3, h7, h8, h9⟩ := wu_mod (ldV l base + ((k + 1 : Nat) : Int))
        omega
      unfold wu at ew
      rw [ew]
      simp only [itN, nums_us, sub_is, ← is_snoc]
      rfl
    · have hke : (k : Int) = wu (e - ldV l base) := hk'.1 (by assumption)
      rw [sub_is, show (wu (e - ldV l base)).toNat = k by omega]
theorem items_n3 (xs : List T) (base cap kind pc b0 c0 b t x out : Int) (hq : (IsU xs ∧ Sz xs) ∧ I64 cap) (hk : kind = 2) (ho : out = 0) (hp : pc = 3) (ht : t ≠ wu (b - 1)) : FnOk Try.prog tgl 11 [.list 1 xs, .int .i64 base, .int .i64 cap, .agg [.int .i64 kind, .int .i64 pc, .int .i64 b0, .int .i64 c0, .int .u64 b, .int .u64 t, .int .i64 x, .int .i64 out]] (.list 1 (is (itemsE (nums xs) base cap false))) := by
  obtain ⟨⟨⟨l, rfl, hl⟩, hs⟩, hcap⟩ := hq
  rw [nums_us]
  have hq1 : IsU (us l) ∧ Sz (us l) := ⟨isU_us hl, hs⟩
  have hz := sz_ne hcap
  have n1 := nums_us l
  have hcl := cl_eq hcap
  have hR0 : R64 (ldV l base) := doV_R hl _ _
  have hR1 : R64 (ldV l (wi (base + 1))) := doV_R hl _ _
  obtain ⟨e, he⟩ : ∃ e, e = ldV l (wi (base + 1)) := ⟨_, rfl⟩
  have hRe : R64 e := by rw [he]; exact hR1
  cases hno : noItems (ldV l base) e cap with
  | true =>
    rw [show itemsE l base cap false = [] by simp [itemsE, ← he, hno]]
    refine FnOk.nilr 1 ?_
    refine fn_ok (Γ := F1) env_F1 Try.func11 low11 ?_
    conv => whnf
    repeat' (first
      | (refine brK_true (by assumption) ?_; conv => whnf)
      | (refine brK_false (by assumption) ?_; conv => whnf)
      | (refine brK_true ?_ ?_; (focus (simp only [List.length_nil, not_t, not_f, lt_t, lt_f, le_t, le_f, eq_t, eq_f, us_len, is_len, bs_len, lenL_00, nums_us] <;> omega)); conv => whnf)
      | (refine brK_false ?_ ?_; (focus (simp only [List.length_nil, not_t, not_f, lt_t, lt_f, le_t, le_f, eq_t, eq_f, us_len, is_len, bs_len, lenL_00, nums_us] <;> omega)); conv => whnf)
      | ((refine brK_of (fun h => ?_) (fun h => ?_)) <;> (have h2 := h; (try simp only [List.length_nil, not_t, not_f, lt_t, lt_f, le_t, le_f, eq_t, eq_f, us_len, is_len, bs_len, lenL_00, nums_us] at h2); conv => whnf))
      | (refine reqK_of ?_ ?_; (focus (first | decide | omega | assumption | (simp only [List.length_nil, not_t, not_f, lt_t, lt_f, le_t, le_f, eq_t, eq_f, us_len, is_len, bs_len, lenL_00, nums_us] <;> omega) | (simp [keyNew, sameKey, kEq] <;> omega))); conv => whnf)
      | (refine reqK_of ?_ ?_; rotate_left; (conv => whnf); rotate_left)
      | (refine nth_us ?_ ?_ ?_; (focus (first | omega | (simp only [List.length_nil, not_t, not_f, lt_t, lt_f, le_t, le_f, eq_t, eq_f, us_len, is_len, bs_len, lenL_00, nums_us] <;> omega))); (focus (first | omega | (simp only [List.length_nil, not_t, not_f, lt_t, lt_f, le_t, le_f, eq_t, eq_f, us_len, is_len, bs_len, lenL_00, nums_us] <;> omega))); conv => whnf)
      | (refine nth_is ?_ ?_ ?_; (focus (first | omega | (simp only [List.length_nil, not_t, not_f, lt_t, lt_f, le_t, le_f, eq_t, eq_f, us_len, is_len, bs_len, lenL_00, nums_us] <;> omega))); (focus (first | omega | (simp only [List.length_nil, not_t, not_f, lt_t, lt_f, le_t, le_f, eq_t, eq_f, us_len, is_len, bs_len, lenL_00, nums_us] <;> omega))); conv => whnf)
      | (refine nth_bs ?_ ?_ ?_; (focus (first | omega | (simp only [List.length_nil, not_t, not_f, lt_t, lt_f, le_t, le_f, eq_t, eq_f, us_len, is_len, bs_len, lenL_00, nums_us] <;> omega))); (focus (first | omega | (simp only [List.length_nil, not_t, not_f, lt_t, lt_f, le_t, le_f, eq_t, eq_f, us_len, is_len, bs_len, lenL_00, nums_us] <;> omega))); conv => whnf))
    all_goals (exfalso; clear hl hs hq1 hz hR0 hRe hR1; simp only [nums_us] at *; simp_all [noItems, le_not_lt, hcl] <;> fail)
  | false =>
    rw [show itemsE l base cap false = itN l base cap (ldV l base) (wu (e - ldV l base)).toNat by simp [itemsE, ← he, hno]]
    refine fn_ok (Γ := F1) env_F1 Try.func11 low11 ?_
    conv => whnf
    repeat' (first
      | (refine brK_true (by assumption) ?_; conv => whnf)
      | (refine brK_false (by assumption) ?_; conv => whnf)
      | (refine brK_true ?_ ?_; (focus (simp only [List.length_nil, not_t, not_f, lt_t, lt_f, le_t, le_f, eq_t, eq_f, us_len, is_len, bs_len, lenL_00, nums_us] <;> omega)); conv => whnf)
      | (refine brK_false ?_ ?_; (focus (simp only [List.length_nil, not_t, not_f, lt_t, lt_f, le_t, le_f, eq_t, eq_f, us_len, is_len, bs_len, lenL_00, nums_us] <;> omega)); conv => whnf)
      | ((refine brK_of (fun h => ?_) (fun h => ?_)) <;> (have h2 := h; (try simp only [List.length_nil, not_t, not_f, lt_t, lt_f, le_t, le_f, eq_t, eq_f, us_len, is_len, bs_len, lenL_00, nums_us] at h2); conv => whnf))
      | (refine reqK_of ?_ ?_; (focus (first | decide | omega | assumption | (simp only [List.length_nil, not_t, not_f, lt_t, lt_f, le_t, le_f, eq_t, eq_f, us_len, is_len, bs_len, lenL_00, nums_us] <;> omega) | (simp [keyNew, sameKey, kEq] <;> omega))); conv => whnf)
      | (refine reqK_of ?_ ?_; rotate_left; (conv => whnf); rotate_left)
      | (refine nth_us ?_ ?_ ?_; (focus (first | omega | (simp only [List.length_nil, not_t, not_f, lt_t, lt_f, le_t, le_f, eq_t, eq_f, us_len, is_len, bs_len, lenL_00, nums_us] <;> omega))); (focus (first | omega | (simp only [List.length_nil, not_t, not_f, lt_t, lt_f, le_t, le_f, eq_t, eq_f, us_len, is_len, bs_len, lenL_00, nums_us] <;> omega))); conv => whnf)
      | (refine nth_is ?_ ?_ ?_; (focus (first | omega | (simp only [List.length_nil, not_t, not_f, lt_t, lt_f, le_t, le_f, eq_t, eq_f, us_len, is_len, bs_len, lenL_00, nums_us] <;> omega))); (focus (first | omega | (simp only [List.length_nil, not_t, not_f, lt_t, lt_f, le_t, le_f, eq_t, eq_f, us_len, is_len, bs_len, lenL_00, nums_us] <;> omega))); conv => whnf)
      | (refine nth_bs ?_ ?_ ?_; (focus (first | omega | (simp only [List.length_nil, not_t, not_f, lt_t, lt_f, le_t, le_f, eq_t, eq_f, us_len, is_len, bs_len, lenL_00, nums_us] <;> omega))); (focus (first | omega | (simp only [List.length_nil, not_t, not_f, lt_t, lt_f, le_t, le_f, eq_t, eq_f, us_len, is_len, bs_len, lenL_00, nums_us] <;> omega))); conv => whnf))
    all_goals first
      | (exfalso; clear hl hs hq1 hz hR0 hRe hR1; simp only [nums_us] at *; simp_all [noItems, le_not_lt, hcl] <;> fail)
      | skip
    all_goals rw [n1]
    all_goals rw [← he]
    have hnn : (wu (e - ldV l base)).toNat ≤ 64 := by
      unfold noItems at hno
      simp only [Bool.or_eq_false_iff, lt_f] at hno
      have := hno.2
      rw [minI_def] at this
      split at this <;> omega
    obtain ⟨q, hq1', hq2, hq3⟩ := wu_mod (e - ldV l base)
    have heq : ∀ k : Nat, k ≤ 64 → (wu (ldV l base + k) = e ↔ (k : Int) = wu (e - ldV l base)) := fun k hk => by
      obtain ⟨q', h1, h2, h3⟩ := wu_mod (ldV l base + k)
      unfold R64 at hR0 hRe
      constructor <;> intro h <;> omega
    refine loopUp [.adopt 13 1001 1] [.kill 80, .kill 81, .kill 82, .kill 83, .kill 84, .kill 85, .kill 86, .kill 87, .kill 88, .kill 89, .kill 90, .kill 91, .kill 92, .kill 93, .keep [157, 73, 71], .ren 157 1001] (fun k : Nat => [(13, .sl 1001 0 none), (14, .t (.int .u64 (wu (ldV l base + k))))]) (fun k => [(1001, .lst 1 (is (itN l base cap (ldV l base) k)) 1)]) (fun k => k ≤ (wu (e - ldV l base)).toNat) (fun k => (wu (e - ldV l base)).toNat - k) 0 (Nat.zero_le _) ?_
    conv => whnf
    refine ⟨⟨?_, rfl⟩, fun k hk C hC => ?_⟩
    · have e0 : wu (ldV l base + ((0 : Nat) : Int)) = ldV l base := by rw [Int.natCast_zero, Int.add_zero]; exact wrap_u64 hR0
      rw [e0]; rfl
    have hk' := heq k (by omega)
    have hil := itN_len l base cap (ldV l base) k
    conv => whnf
    repeat' (first
      | (refine brK_true (by assumption) ?_; conv => whnf)
      | (refine brK_false (by assumption) ?_; conv => whnf)
      | (refine brK_true ?_ ?_; (focus (simp only [List.length_nil, not_t, not_f, lt_t, lt_f, le_t, le_f, eq_t, eq_f, us_len, is_len, bs_len, lenL_00, n1] <;> omega)); conv => whnf)
      | (refine brK_false ?_ ?_; (focus (simp only [List.length_nil, not_t, not_f, lt_t, lt_f, le_t, le_f, eq_t, eq_f, us_len, is_len, bs_len, lenL_00, n1] <;> omega)); conv => whnf)
      | ((refine brK_of (fun h => ?_) (fun h => ?_)) <;> (have h2 := h; (try simp only [List.length_nil, not_t, not_f, lt_t, lt_f, le_t, le_f, eq_t, eq_f, us_len, is_len, bs_len, lenL_00, n1] at h2); conv => whnf))
      | (refine reqK_of ?_ ?_; (focus (first | decide | omega | assumption | (simp only [List.length_nil, not_t, not_f, lt_t, lt_f, le_t, le_f, eq_t, eq_f, us_len, is_len, bs_len, lenL_00, n1] <;> omega) | (simp [keyNew, sameKey, kEq] <;> omega))); conv => whnf)
      | (refine reqK_of ?_ ?_; rotate_left; (conv => whnf); rotate_left)
      | (refine nth_us ?_ ?_ ?_; (focus (first | omega | (simp only [List.length_nil, not_t, not_f, lt_t, lt_f, le_t, le_f, eq_t, eq_f, us_len, is_len, bs_len, lenL_00, n1] <;> omega))); (focus (first | omega | (simp only [List.length_nil, not_t, not_f, lt_t, lt_f, le_t, le_f, eq_t, eq_f, us_len, is_len, bs_len, lenL_00, n1] <;> omega))); conv => whnf)
      | (refine nth_is ?_ ?_ ?_; (focus (first | omega | (simp only [List.length_nil, not_t, not_f, lt_t, lt_f, le_t, le_f, eq_t, eq_f, us_len, is_len, bs_len, lenL_00, n1] <;> omega))); (focus (first | omega | (simp only [List.length_nil, not_t, not_f, lt_t, lt_f, le_t, le_f, eq_t, eq_f, us_len, is_len, bs_len, lenL_00, n1] <;> omega))); conv => whnf)
      | (refine nth_bs ?_ ?_ ?_; (focus (first | omega | (simp only [List.length_nil, not_t, not_f, lt_t, lt_f, le_t, le_f, eq_t, eq_f, us_len, is_len, bs_len, lenL_00, n1] <;> omega))); (focus (first | omega | (simp only [List.length_nil, not_t, not_f, lt_t, lt_f, le_t, le_f, eq_t, eq_f, us_len, is_len, bs_len, lenL_00, n1] <;> omega))); conv => whnf))
    · simp only [maxBytes, is_len, hil, List.length_cons, List.length_nil]; omega
    · have hne : (k : Int) ≠ wu (e - ldV l base) := fun h => by
        have := hk'.2 h
        contradiction
      refine loopC (hC (k + 1) (by omega) (by omega)) ?_
      have ew : wu (wu (ldV l base + (k : Int)) + 1) = wu (ldV l base + ((k + 1 : Nat) : Int)) := by
        obtain ⟨q1, h1, h2, h3⟩ := wu_mod (ldV l base + (k : Int))
        obtain ⟨q2, h4, h5, h6⟩ := wu_mod (wu (ldV l base + (k : Int)) + 1)
        obtain ⟨q3, h7, h8, h9⟩ := wu_mod (ldV l base + ((k + 1 : Nat) : Int))
        omega
      unfold wu at ew
      rw [ew]
      simp only [itN, nums_us, sub_is, ← is_snoc]
      rfl
    · have hke : (k : Int) = wu (e - ldV l base) := hk'.1 (by assumption)
      rw [sub_is, show (wu (e - ldV l base)).toNat = k by omega]
theorem items_nc (xs : List T) (base cap kind pc b0 c0 b t x out : Int) (hq : (IsU xs ∧ Sz xs) ∧ I64 cap) (hk : kind = 2) (ho : out = 0) (hp2 : pc ≠ 2) (hp4 : pc ≠ 4) (hp5 : pc ≠ 5) (hp3 : pc ≠ 3) : FnOk Try.prog tgl 11 [.list 1 xs, .int .i64 base, .int .i64 cap, .agg [.int .i64 kind, .int .i64 pc, .int .i64 b0, .int .i64 c0, .int .u64 b, .int .u64 t, .int .i64 x, .int .i64 out]] (.list 1 (is (itemsE (nums xs) base cap false))) := by
  obtain ⟨⟨⟨l, rfl, hl⟩, hs⟩, hcap⟩ := hq
  rw [nums_us]
  have hq1 : IsU (us l) ∧ Sz (us l) := ⟨isU_us hl, hs⟩
  have hz := sz_ne hcap
  have n1 := nums_us l
  have hcl := cl_eq hcap
  have hR0 : R64 (ldV l base) := doV_R hl _ _
  have hR1 : R64 (ldV l (wi (base + 1))) := doV_R hl _ _
  obtain ⟨e, he⟩ : ∃ e, e = ldV l (wi (base + 1)) := ⟨_, rfl⟩
  have hRe : R64 e := by rw [he]; exact hR1
  cases hno : noItems (ldV l base) e cap with
  | true =>
    rw [show itemsE l base cap false = [] by simp [itemsE, ← he, hno]]
    refine FnOk.nilr 1 ?_
    refine fn_ok (Γ := F1) env_F1 Try.func11 low11 ?_
    conv => whnf
    repeat' (first
      | (refine brK_true (by assumption) ?_; conv => whnf)
      | (refine brK_false (by assumption) ?_; conv => whnf)
      | (refine brK_true ?_ ?_; (focus (simp only [List.length_nil, not_t, not_f, lt_t, lt_f, le_t, le_f, eq_t, eq_f, us_len, is_len, bs_len, lenL_00, nums_us] <;> omega)); conv => whnf)
      | (refine brK_false ?_ ?_; (focus (simp only [List.length_nil, not_t, not_f, lt_t, lt_f, le_t, le_f, eq_t, eq_f, us_len, is_len, bs_len, lenL_00, nums_us] <;> omega)); conv => whnf)
      | ((refine brK_of (fun h => ?_) (fun h => ?_)) <;> (have h2 := h; (try simp only [List.length_nil, not_t, not_f, lt_t, lt_f, le_t, le_f, eq_t, eq_f, us_len, is_len, bs_len, lenL_00, nums_us] at h2); conv => whnf))
      | (refine reqK_of ?_ ?_; (focus (first | decide | omega | assumption | (simp only [List.length_nil, not_t, not_f, lt_t, lt_f, le_t, le_f, eq_t, eq_f, us_len, is_len, bs_len, lenL_00, nums_us] <;> omega) | (simp [keyNew, sameKey, kEq] <;> omega))); conv => whnf)
      | (refine reqK_of ?_ ?_; rotate_left; (conv => whnf); rotate_left)
      | (refine nth_us ?_ ?_ ?_; (focus (first | omega | (simp only [List.length_nil, not_t, not_f, lt_t, lt_f, le_t, le_f, eq_t, eq_f, us_len, is_len, bs_len, lenL_00, nums_us] <;> omega))); (focus (first | omega | (simp only [List.length_nil, not_t, not_f, lt_t, lt_f, le_t, le_f, eq_t, eq_f, us_len, is_len, bs_len, lenL_00, nums_us] <;> omega))); conv => whnf)
      | (refine nth_is ?_ ?_ ?_; (focus (first | omega | (simp only [List.length_nil, not_t, not_f, lt_t, lt_f, le_t, le_f, eq_t, eq_f, us_len, is_len, bs_len, lenL_00, nums_us] <;> omega))); (focus (first | omega | (simp only [List.length_nil, not_t, not_f, lt_t, lt_f, le_t, le_f, eq_t, eq_f, us_len, is_len, bs_len, lenL_00, nums_us] <;> omega))); conv => whnf)
      | (refine nth_bs ?_ ?_ ?_; (focus (first | omega | (simp only [List.length_nil, not_t, not_f, lt_t, lt_f, le_t, le_f, eq_t, eq_f, us_len, is_len, bs_len, lenL_00, nums_us] <;> omega))); (focus (first | omega | (simp only [List.length_nil, not_t, not_f, lt_t, lt_f, le_t, le_f, eq_t, eq_f, us_len, is_len, bs_len, lenL_00, nums_us] <;> omega))); conv => whnf))
    all_goals (exfalso; clear hl hs hq1 hz hR0 hRe hR1; simp only [nums_us] at *; simp_all [noItems, le_not_lt, hcl] <;> fail)
  | false =>
    rw [show itemsE l base cap false = itN l base cap (ldV l base) (wu (e - ldV l base)).toNat by simp [itemsE, ← he, hno]]
    refine fn_ok (Γ := F1) env_F1 Try.func11 low11 ?_
    conv => whnf
    repeat' (first
      | (refine brK_true (by assumption) ?_; conv => whnf)
      | (refine brK_false (by assumption) ?_; conv => whnf)
      | (refine brK_true ?_ ?_; (focus (simp only [List.length_nil, not_t, not_f, lt_t, lt_f, le_t, le_f, eq_t, eq_f, us_len, is_len, bs_len, lenL_00, nums_us] <;> omega)); conv => whnf)
      | (refine brK_false ?_ ?_; (focus (simp only [List.length_nil, not_t, not_f, lt_t, lt_f, le_t, le_f, eq_t, eq_f, us_len, is_len, bs_len, lenL_00, nums_us] <;> omega)); conv => whnf)
      | ((refine brK_of (fun h => ?_) (fun h => ?_)) <;> (have h2 := h; (try simp only [List.length_nil, not_t, not_f, lt_t, lt_f, le_t, le_f, eq_t, eq_f, us_len, is_len, bs_len, lenL_00, nums_us] at h2); conv => whnf))
      | (refine reqK_of ?_ ?_; (focus (first | decide | omega | assumption | (simp only [List.length_nil, not_t, not_f, lt_t, lt_f, le_t, le_f, eq_t, eq_f, us_len, is_len, bs_len, lenL_00, nums_us] <;> omega) | (simp [keyNew, sameKey, kEq] <;> omega))); conv => whnf)
      | (refine reqK_of ?_ ?_; rotate_left; (conv => whnf); rotate_left)
      | (refine nth_us ?_ ?_ ?_; (focus (first | omega | (simp only [List.length_nil, not_t, not_f, lt_t, lt_f, le_t, le_f, eq_t, eq_f, us_len, is_len, bs_len, lenL_00, nums_us] <;> omega))); (focus (first | omega | (simp only [List.length_nil, not_t, not_f, lt_t, lt_f, le_t, le_f, eq_t, eq_f, us_len, is_len, bs_len, lenL_00, nums_us] <;> omega))); conv => whnf)
      | (refine nth_is ?_ ?_ ?_; (focus (first | omega | (simp only [List.length_nil, not_t, not_f, lt_t, lt_f, le_t, le_f, eq_t, eq_f, us_len, is_len, bs_len, lenL_00, nums_us] <;> omega))); (focus (first | omega | (simp only [List.length_nil, not_t, not_f, lt_t, lt_f, le_t, le_f, eq_t, eq_f, us_len, is_len, bs_len, lenL_00, nums_us] <;> omega))); conv => whnf)
      | (refine nth_bs ?_ ?_ ?_; (focus (first | omega | (simp only [List.length_nil, not_t, not_f, lt_t, lt_f, le_t, le_f, eq_t, eq_f, us_len, is_len, bs_len, lenL_00, nums_us] <;> omega))); (focus (first | omega | (simp only [List.length_nil, not_t, not_f, lt_t, lt_f, le_t, le_f, eq_t, eq_f, us_len, is_len, bs_len, lenL_00, nums_us] <;> omega))); conv => whnf))
    all_goals first
      | (exfalso; clear hl hs hq1 hz hR0 hRe hR1; simp only [nums_us] at *; simp_all [noItems, le_not_lt, hcl] <;> fail)
      | skip
    all_goals rw [n1]
    all_goals rw [← he]
    have hnn : (wu (e - ldV l base)).toNat ≤ 64 := by
      unfold noItems at hno
      simp only [Bool.or_eq_false_iff, lt_f] at hno
      have := hno.2
      rw [minI_def] at this
      split at this <;> omega
    obtain ⟨q, hq1', hq2, hq3⟩ := wu_mod (e - ldV l base)
    have heq : ∀ k : Nat, k ≤ 64 → (wu (ldV l base + k) = e ↔ (k : Int) = wu (e - ldV l base)) := fun k hk => by
      obtain ⟨q', h1, h2, h3⟩ := wu_mod (ldV l base + k)
      unfold R64 at hR0 hRe
      constructor <;> intro h <;> omega
    refine loopUp [.adopt 13 1001 1] [.kill 80, .kill 81, .kill 82, .kill 83, .kill 84, .kill 85, .kill 86, .kill 87, .kill 88, .kill 89, .kill 90, .kill 91, .kill 92, .kill 93, .keep [157, 73, 71], .ren 157 1001] (fun k : Nat => [(13, .sl 1001 0 none), (14, .t (.int .u64 (wu (ldV l base + k))))]) (fun k => [(1001, .lst 1 (is (itN l base cap (ldV l base) k)) 1)]) (fun k => k ≤ (wu (e - ldV l base)).toNat) (fun k => (wu (e - ldV l base)).toNat - k) 0 (Nat.zero_le _) ?_
    conv => whnf
    refine ⟨⟨?_, rfl⟩, fun k hk C hC => ?_⟩
    · have e0 : wu (ldV l base + ((0 : Nat) : Int)) = ldV l base := by rw [Int.natCast_zero, Int.add_zero]; exact wrap_u64 hR0
      rw [e0]; rfl
    have hk' := heq k (by omega)
    have hil := itN_len l base cap (ldV l base) k
    conv => whnf
    repeat' (first
      | (refine brK_true (by assumption) ?_; conv => whnf)
      | (refine brK_false (by assumption) ?_; conv => whnf)
      | (refine brK_true ?_ ?_; (focus (simp only [List.length_nil, not_t, not_f, lt_t, lt_f, le_t, le_f, eq_t, eq_f, us_len, is_len, bs_len, lenL_00, n1] <;> omega)); conv => whnf)
      | (refine brK_false ?_ ?_; (focus (simp only [List.length_nil, not_t, not_f, lt_t, lt_f, le_t, le_f, eq_t, eq_f, us_len, is_len, bs_len, lenL_00, n1] <;> omega)); conv => whnf)
      | ((refine brK_of (fun h => ?_) (fun h => ?_)) <;> (have h2 := h; (try simp only [List.length_nil, not_t, not_f, lt_t, lt_f, le_t, le_f, eq_t, eq_f, us_len, is_len, bs_len, lenL_00, n1] at h2); conv => whnf))
      | (refine reqK_of ?_ ?_; (focus (first | decide | omega | assumption | (simp only [List.length_nil, not_t, not_f, lt_t, lt_f, le_t, le_f, eq_t, eq_f, us_len, is_len, bs_len, lenL_00, n1] <;> omega) | (simp [keyNew, sameKey, kEq] <;> omega))); conv => whnf)
      | (refine reqK_of ?_ ?_; rotate_left; (conv => whnf); rotate_left)
      | (refine nth_us ?_ ?_ ?_; (focus (first | omega | (simp only [List.length_nil, not_t, not_f, lt_t, lt_f, le_t, le_f, eq_t, eq_f, us_len, is_len, bs_len, lenL_00, n1] <;> omega))); (focus (first | omega | (simp only [List.length_nil, not_t, not_f, lt_t, lt_f, le_t, le_f, eq_t, eq_f, us_len, is_len, bs_len, lenL_00, n1] <;> omega))); conv => whnf)
      | (refine nth_is ?_ ?_ ?_; (focus (first | omega | (simp only [List.length_nil, not_t, not_f, lt_t, lt_f, le_t, le_f, eq_t, eq_f, us_len, is_len, bs_len, lenL_00, n1] <;> omega))); (focus (first | omega | (simp only [List.length_nil, not_t, not_f, lt_t, lt_f, le_t, le_f, eq_t, eq_f, us_len, is_len, bs_len, lenL_00, n1] <;> omega))); conv => whnf)
      | (refine nth_bs ?_ ?_ ?_; (focus (first | omega | (simp only [List.length_nil, not_t, not_f, lt_t, lt_f, le_t, le_f, eq_t, eq_f, us_len, is_len, bs_len, lenL_00, n1] <;> omega))); (focus (first | omega | (simp only [List.length_nil, not_t, not_f, lt_t, lt_f, le_t, le_f, eq_t, eq_f, us_len, is_len, bs_len, lenL_00, n1] <;> omega))); conv => whnf))
    · simp only [maxBytes, is_len, hil, List.length_cons, List.length_nil]; omega
    · have hne : (k : Int) ≠ wu (e - ldV l base) := fun h => by
        have := hk'.2 h
        contradiction
      refine loopC (hC (k + 1) (by omega) (by omega)) ?_
      have ew : wu (wu (ldV l base + (k : Int)) + 1) = wu (ldV l base + ((k + 1 : Nat) : Int)) := by
        obtain ⟨q1, h1, h2, h3⟩ := wu_mod (ldV l base + (k : Int))
        obtain ⟨q2, h4, h5, h6⟩ := wu_mod (wu (ldV l base + (k : Int)) + 1)
        obtain ⟨q3, h7, h8, h9⟩ := wu_mod (ldV l base + ((k + 1 : Nat) : Int))
        omega
      unfold wu at ew
      rw [ew]
      simp only [itN, nums_us, sub_is, ← is_snoc]
      rfl
    · have hke : (k : Int) = wu (e - ldV l base) := hk'.1 (by assumption)
      rw [sub_is, show (wu (e - ldV l base)).toNat = k by omega]
theorem items_no (xs : List T) (base cap kind pc b0 c0 b t x out : Int) (hq : (IsU xs ∧ Sz xs) ∧ I64 cap) (hk : kind = 2) (ho : out ≠ 0) : FnOk Try.prog tgl 11 [.list 1 xs, .int .i64 base, .int .i64 cap, .agg [.int .i64 kind, .int .i64 pc, .int .i64 b0, .int .i64 c0, .int .u64 b, .int .u64 t, .int .i64 x, .int .i64 out]] (.list 1 (is (itemsE (nums xs) base cap false))) := by
  obtain ⟨⟨⟨l, rfl, hl⟩, hs⟩, hcap⟩ := hq
  rw [nums_us]
  have hq1 : IsU (us l) ∧ Sz (us l) := ⟨isU_us hl, hs⟩
  have hz := sz_ne hcap
  have n1 := nums_us l
  have hcl := cl_eq hcap
  have hR0 : R64 (ldV l base) := doV_R hl _ _
  have hR1 : R64 (ldV l (wi (base + 1))) := doV_R hl _ _
  obtain ⟨e, he⟩ : ∃ e, e = ldV l (wi (base + 1)) := ⟨_, rfl⟩
  have hRe : R64 e := by rw [he]; exact hR1
  cases hno : noItems (ldV l base) e cap with
  | true =>
    rw [show itemsE l base cap false = [] by simp [itemsE, ← he, hno]]
    refine FnOk.nilr 1 ?_
    refine fn_ok (Γ := F1) env_F1 Try.func11 low11 ?_
    conv => whnf
    repeat' (first
      | (refine brK_true (by assumption) ?_; conv => whnf)
      | (refine brK_false (by assumption) ?_; conv => whnf)
      | (refine brK_true ?_ ?_; (focus (simp only [List.length_nil, not_t, not_f, lt_t, lt_f, le_t, le_f, eq_t, eq_f, us_len, is_len, bs_len, lenL_00, nums_us] <;> omega)); conv => whnf)
      | (refine brK_false ?_ ?_; (focus (simp only [List.length_nil, not_t, not_f, lt_t, lt_f, le_t, le_f, eq_t, eq_f, us_len, is_len, bs_len, lenL_00, nums_us] <;> omega)); conv => whnf)
      | ((refine brK_of (fun h => ?_) (fun h => ?_)) <;> (have h2 := h; (try simp only [List.length_nil, not_t, not_f, lt_t, lt_f, le_t, le_f, eq_t, eq_f, us_len, is_len, bs_len, lenL_00, nums_us] at h2); conv => whnf))
      | (refine reqK_of ?_ ?_; (focus (first | decide | omega | assumption | (simp only [List.length_nil, not_t, not_f, lt_t, lt_f, le_t, le_f, eq_t, eq_f, us_len, is_len, bs_len, lenL_00, nums_us] <;> omega) | (simp [keyNew, sameKey, kEq] <;> omega))); conv => whnf)
      | (refine reqK_of ?_ ?_; rotate_left; (conv => whnf); rotate_left)
      | (refine nth_us ?_ ?_ ?_; (focus (first | omega | (simp only [List.length_nil, not_t, not_f, lt_t, lt_f, le_t, le_f, eq_t, eq_f, us_len, is_len, bs_len, lenL_00, nums_us] <;> omega))); (focus (first | omega | (simp only [List.length_nil, not_t, not_f, lt_t, lt_f, le_t, le_f, eq_t, eq_f, us_len, is_len, bs_len, lenL_00, nums_us] <;> omega))); conv => whnf)
      | (refine nth_is ?_ ?_ ?_; (focus (first | omega | (simp only [List.length_nil, not_t, not_f, lt_t, lt_f, le_t, le_f, eq_t, eq_f, us_len, is_len, bs_len, lenL_00, nums_us] <;> omega))); (focus (first | omega | (simp only [List.length_nil, not_t, not_f, lt_t, lt_f, le_t, le_f, eq_t, eq_f, us_len, is_len, bs_len, lenL_00, nums_us] <;> omega))); conv => whnf)
      | (refine nth_bs ?_ ?_ ?_; (focus (first | omega | (simp only [List.length_nil, not_t, not_f, lt_t, lt_f, le_t, le_f, eq_t, eq_f, us_len, is_len, bs_len, lenL_00, nums_us] <;> omega))); (focus (first | omega | (simp only [List.length_nil, not_t, not_f, lt_t, lt_f, le_t, le_f, eq_t, eq_f, us_len, is_len, bs_len, lenL_00, nums_us] <;> omega))); conv => whnf))
    all_goals (exfalso; clear hl hs hq1 hz hR0 hRe hR1; simp only [nums_us] at *; simp_all [noItems, le_not_lt, hcl] <;> fail)
  | false =>
    rw [show itemsE l base cap false = itN l base cap (ldV l base) (wu (e - ldV l base)).toNat by simp [itemsE, ← he, hno]]
    refine fn_ok (Γ := F1) env_F1 Try.func11 low11 ?_
    conv => whnf
    repeat' (first
      | (refine brK_true (by assumption) ?_; conv => whnf)
      | (refine brK_false (by assumption) ?_; conv => whnf)
      | (refine brK_true ?_ ?_; (focus (simp only [List.length_nil, not_t, not_f, lt_t, lt_f, le_t, le_f, eq_t, eq_f, us_len, is_len, bs_len, lenL_00, nums_us] <;> omega)); conv => whnf)
      | (refine brK_false ?_ ?_; (focus (simp only [List.length_nil, not_t, not_f, lt_t, lt_f, le_t, le_f, eq_t, eq_f, us_len, is_len, bs_len, lenL_00, nums_us] <;> omega)); conv => whnf)
      | ((refine brK_of (fun h => ?_) (fun h => ?_)) <;> (have h2 := h; (try simp only [List.length_nil, not_t, not_f, lt_t, lt_f, le_t, le_f, eq_t, eq_f, us_len, is_len, bs_len, lenL_00, nums_us] at h2); conv => whnf))
      | (refine reqK_of ?_ ?_; (focus (first | decide | omega | assumption | (simp only [List.length_nil, not_t, not_f, lt_t, lt_f, le_t, le_f, eq_t, eq_f, us_len, is_len, bs_len, lenL_00, nums_us] <;> omega) | (simp [keyNew, sameKey, kEq] <;> omega))); conv => whnf)
      | (refine reqK_of ?_ ?_; rotate_left; (conv => whnf); rotate_left)
      | (refine nth_us ?_ ?_ ?_; (focus (first | omega | (simp only [List.length_nil, not_t, not_f, lt_t, lt_f, le_t, le_f, eq_t, eq_f, us_len, is_len, bs_len, lenL_00, nums_us] <;> omega))); (focus (first | omega | (simp only [List.length_nil, not_t, not_f, lt_t, lt_f, le_t, le_f, eq_t, eq_f, us_len, is_len, bs_len, lenL_00, nums_us] <;> omega))); conv => whnf)
      | (refine nth_is ?_ ?_ ?_; (focus (first | omega | (simp only [List.length_nil, not_t, not_f, lt_t, lt_f, le_t, le_f, eq_t, eq_f, us_len, is_len, bs_len, lenL_00, nums_us] <;> omega))); (focus (first | omega | (simp only [List.length_nil, not_t, not_f, lt_t, lt_f, le_t, le_f, eq_t, eq_f, us_len, is_len, bs_len, lenL_00, nums_us] <;> omega))); conv => whnf)
      | (refine nth_bs ?_ ?_ ?_; (focus (first | omega | (simp only [List.length_nil, not_t, not_f, lt_t, lt_f, le_t, le_f, eq_t, eq_f, us_len, is_len, bs_len, lenL_00, nums_us] <;> omega))); (focus (first | omega | (simp only [List.length_nil, not_t, not_f, lt_t, lt_f, le_t, le_f, eq_t, eq_f, us_len, is_len, bs_len, lenL_00, nums_us] <;> omega))); conv => whnf))
    all_goals first
      | (exfalso; clear hl hs hq1 hz hR0 hRe hR1; simp only [nums_us] at *; simp_all [noItems, le_not_lt, hcl] <;> fail)
      | skip
    all_goals rw [n1]
    all_goals rw [← he]
    have hnn : (wu (e - ldV l base)).toNat ≤ 64 := by
      unfold noItems at hno
      simp only [Bool.or_eq_false_iff, lt_f] at hno
      have := hno.2
      rw [minI_def] at this
      split at this <;> omega
    obtain ⟨q, hq1', hq2, hq3⟩ := wu_mod (e - ldV l base)
    have heq : ∀ k : Nat, k ≤ 64 → (wu (ldV l base + k) = e ↔ (k : Int) = wu (e - ldV l base)) := fun k hk => by
      obtain ⟨q', h1, h2, h3⟩ := wu_mod (ldV l base + k)
      unfold R64 at hR0 hRe
      constructor <;> intro h <;> omega
    refine loopUp [.adopt 13 1001 1] [.kill 80, .kill 81, .kill 82, .kill 83, .kill 84, .kill 85, .kill 86, .kill 87, .kill 88, .kill 89, .kill 90, .kill 91, .kill 92, .kill 93, .keep [157, 73, 71], .ren 157 1001] (fun k : Nat => [(13, .sl 1001 0 none), (14, .t (.int .u64 (wu (ldV l base + k))))]) (fun k => [(1001, .lst 1 (is (itN l base cap (ldV l base) k)) 1)]) (fun k => k ≤ (wu (e - ldV l base)).toNat) (fun k => (wu (e - ldV l base)).toNat - k) 0 (Nat.zero_le _) ?_
    conv => whnf
    refine ⟨⟨?_, rfl⟩, fun k hk C hC => ?_⟩
    · have e0 : wu (ldV l base + ((0 : Nat) : Int)) = ldV l base := by rw [Int.natCast_zero, Int.add_zero]; exact wrap_u64 hR0
      rw [e0]; rfl
    have hk' := heq k (by omega)
    have hil := itN_len l base cap (ldV l base) k
    conv => whnf
    repeat' (first
      | (refine brK_true (by assumption) ?_; conv => whnf)
      | (refine brK_false (by assumption) ?_; conv => whnf)
      | (refine brK_true ?_ ?_; (focus (simp only [List.length_nil, not_t, not_f, lt_t, lt_f, le_t, le_f, eq_t, eq_f, us_len, is_len, bs_len, lenL_00, n1] <;> omega)); conv => whnf)
      | (refine brK_false ?_ ?_; (focus (simp only [List.length_nil, not_t, not_f, lt_t, lt_f, le_t, le_f, eq_t, eq_f, us_len, is_len, bs_len, lenL_00, n1] <;> omega)); conv => whnf)
      | ((refine brK_of (fun h => ?_) (fun h => ?_)) <;> (have h2 := h; (try simp only [List.length_nil, not_t, not_f, lt_t, lt_f, le_t, le_f, eq_t, eq_f, us_len, is_len, bs_len, lenL_00, n1] at h2); conv => whnf))
      | (refine reqK_of ?_ ?_; (focus (first | decide | omega | assumption | (simp only [List.length_nil, not_t, not_f, lt_t, lt_f, le_t, le_f, eq_t, eq_f, us_len, is_len, bs_len, lenL_00, n1] <;> omega) | (simp [keyNew, sameKey, kEq] <;> omega))); conv => whnf)
      | (refine reqK_of ?_ ?_; rotate_left; (conv => whnf); rotate_left)
      | (refine nth_us ?_ ?_ ?_; (focus (first | omega | (simp only [List.length_nil, not_t, not_f, lt_t, lt_f, le_t, le_f, eq_t, eq_f, us_len, is_len, bs_len, lenL_00, n1] <;> omega))); (focus (first | omega | (simp only [List.length_nil, not_t, not_f, lt_t, lt_f, le_t, le_f, eq_t, eq_f, us_len, is_len, bs_len, lenL_00, n1] <;> omega))); conv => whnf)
      | (refine nth_is ?_ ?_ ?_; (focus (first | omega | (simp only [List.length_nil, not_t, not_f, lt_t, lt_f, le_t, le_f, eq_t, eq_f, us_len, is_len, bs_len, lenL_00, n1] <;> omega))); (focus (first | omega | (simp only [List.length_nil, not_t, not_f, lt_t, lt_f, le_t, le_f, eq_t, eq_f, us_len, is_len, bs_len, lenL_00, n1] <;> omega))); conv => whnf)
      | (refine nth_bs ?_ ?_ ?_; (focus (first | omega | (simp only [List.length_nil, not_t, not_f, lt_t, lt_f, le_t, le_f, eq_t, eq_f, us_len, is_len, bs_len, lenL_00, n1] <;> omega))); (focus (first | omega | (simp only [List.length_nil, not_t, not_f, lt_t, lt_f, le_t, le_f, eq_t, eq_f, us_len, is_len, bs_len, lenL_00, n1] <;> omega))); conv => whnf))
    · simp only [maxBytes, is_len, hil, List.length_cons, List.length_nil]; omega
    · have hne : (k : Int) ≠ wu (e - ldV l base) := fun h => by
        have := hk'.2 h
        contradiction
      refine loopC (hC (k + 1) (by omega) (by omega)) ?_
      have ew : wu (wu (ldV l base + (k : Int)) + 1) = wu (ldV l base + ((k + 1 : Nat) : Int)) := by
        obtain ⟨q1, h1, h2, h3⟩ := wu_mod (ldV l base + (k : Int))
        obtain ⟨q2, h4, h5, h6⟩ := wu_mod (wu (ldV l base + (k : Int)) + 1)
        obtain ⟨q3, h7, h8, h9⟩ := wu_mod (ldV l base + ((k + 1 : Nat) : Int))
        omega
      unfold wu at ew
      rw [ew]
      simp only [itN, nums_us, sub_is, ← is_snoc]
      rfl
    · have hke : (k : Int) = wu (e - ldV l base) := hk'.1 (by assumption)
      rw [sub_is, show (wu (e - ldV l base)).toNat = k by omega]
theorem items_nk (xs : List T) (base cap kind pc b0 c0 b t x out : Int) (hq : (IsU xs ∧ Sz xs) ∧ I64 cap) (hk : kind ≠ 2) : FnOk Try.prog tgl 11 [.list 1 xs, .int .i64 base, .int .i64 cap, .agg [.int .i64 kind, .int .i64 pc, .int .i64 b0, .int .i64 c0, .int .u64 b, .int .u64 t, .int .i64 x, .int .i64 out]] (.list 1 (is (itemsE (nums xs) base cap false))) := by
  obtain ⟨⟨⟨l, rfl, hl⟩, hs⟩, hcap⟩ := hq
  rw [nums_us]
  have hq1 : IsU (us l) ∧ Sz (us l) := ⟨isU_us hl, hs⟩
  have hz := sz_ne hcap
  have n1 := nums_us l
  have hcl := cl_eq hcap
  have hR0 : R64 (ldV l base) := doV_R hl _ _
  have hR1 : R64 (ldV l (wi (base + 1))) := doV_R hl _ _
  obtain ⟨e, he⟩ : ∃ e, e = ldV l (wi (base + 1)) := ⟨_, rfl⟩
  have hRe : R64 e := by rw [he]; exact hR1
  cases hno : noItems (ldV l base) e cap with
  | true =>
    rw [show itemsE l base cap false = [] by simp [itemsE, ← he, hno]]
    refine FnOk.nilr 1 ?_
    refine fn_ok (Γ := F1) env_F1 Try.func11 low11 ?_
    conv => whnf
    repeat' (first
      | (refine brK_true (by assumption) ?_; conv => whnf)
      | (refine brK_false (by assumption) ?_; conv => whnf)
      | (refine brK_true ?_ ?_; (focus (simp only [List.length_nil, not_t, not_f, lt_t, lt_f, le_t, le_f, eq_t, eq_f, us_len, is_len, bs_len, lenL_00, nums_us] <;> omega)); conv => whnf)
      | (refine brK_false ?_ ?_; (focus (simp only [List.length_nil, not_t, not_f, lt_t, lt_f, le_t, le_f, eq_t, eq_f, us_len, is_len, bs_len, lenL_00, nums_us] <;> omega)); conv => whnf)
      | ((refine brK_of (fun h => ?_) (fun h => ?_)) <;> (have h2 := h; (try simp only [List.length_nil, not_t, not_f, lt_t, lt_f, le_t, le_f, eq_t, eq_f, us_len, is_len, bs_len, lenL_00, nums_us] at h2); conv => whnf))
      | (refine reqK_of ?_ ?_; (focus (first | decide | omega | assumption | (simp only [List.length_nil, not_t, not_f, lt_t, lt_f, le_t, le_f, eq_t, eq_f, us_len, is_len, bs_len, lenL_00, nums_us] <;> omega) | (simp [keyNew, sameKey, kEq] <;> omega))); conv => whnf)
      | (refine reqK_of ?_ ?_; rotate_left; (conv => whnf); rotate_left)
      | (refine nth_us ?_ ?_ ?_; (focus (first | omega | (simp only [List.length_nil, not_t, not_f, lt_t, lt_f, le_t, le_f, eq_t, eq_f, us_len, is_len, bs_len, lenL_00, nums_us] <;> omega))); (focus (first | omega | (simp only [List.length_nil, not_t, not_f, lt_t, lt_f, le_t, le_f, eq_t, eq_f, us_len, is_len, bs_len, lenL_00, nums_us] <;> omega))); conv => whnf)
      | (refine nth_is ?_ ?_ ?_; (focus (first | omega | (simp only [List.length_nil, not_t, not_f, lt_t, lt_f, le_t, le_f, eq_t, eq_f, us_len, is_len, bs_len, lenL_00, nums_us] <;> omega))); (focus (first | omega | (simp only [List.length_nil, not_t, not_f, lt_t, lt_f, le_t, le_f, eq_t, eq_f, us_len, is_len, bs_len, lenL_00, nums_us] <;> omega))); conv => whnf)
      | (refine nth_bs ?_ ?_ ?_; (focus (first | omega | (simp only [List.length_nil, not_t, not_f, lt_t, lt_f, le_t, le_f, eq_t, eq_f, us_len, is_len, bs_len, lenL_00, nums_us] <;> omega))); (focus (first | omega | (simp only [List.length_nil, not_t, not_f, lt_t, lt_f, le_t, le_f, eq_t, eq_f, us_len, is_len, bs_len, lenL_00, nums_us] <;> omega))); conv => whnf))
    all_goals (exfalso; clear hl hs hq1 hz hR0 hRe hR1; simp only [nums_us] at *; simp_all [noItems, le_not_lt, hcl] <;> fail)
  | false =>
    rw [show itemsE l base cap false = itN l base cap (ldV l base) (wu (e - ldV l base)).toNat by simp [itemsE, ← he, hno]]
    refine fn_ok (Γ := F1) env_F1 Try.func11 low11 ?_
    conv => whnf
    repeat' (first
      | (refine brK_true (by assumption) ?_; conv => whnf)
      | (refine brK_false (by assumption) ?_; conv => whnf)
      | (refine brK_true ?_ ?_; (focus (simp only [List.length_nil, not_t, not_f, lt_t, lt_f, le_t, le_f, eq_t, eq_f, us_len, is_len, bs_len, lenL_00, nums_us] <;> omega)); conv => whnf)
      | (refine brK_false ?_ ?_; (focus (simp only [List.length_nil, not_t, not_f, lt_t, lt_f, le_t, le_f, eq_t, eq_f, us_len, is_len, bs_len, lenL_00, nums_us] <;> omega)); conv => whnf)
      | ((refine brK_of (fun h => ?_) (fun h => ?_)) <;> (have h2 := h; (try simp only [List.length_nil, not_t, not_f, lt_t, lt_f, le_t, le_f, eq_t, eq_f, us_len, is_len, bs_len, lenL_00, nums_us] at h2); conv => whnf))
      | (refine reqK_of ?_ ?_; (focus (first | decide | omega | assumption | (simp only [List.length_nil, not_t, not_f, lt_t, lt_f, le_t, le_f, eq_t, eq_f, us_len, is_len, bs_len, lenL_00, nums_us] <;> omega) | (simp [keyNew, sameKey, kEq] <;> omega))); conv => whnf)
      | (refine reqK_of ?_ ?_; rotate_left; (conv => whnf); rotate_left)
      | (refine nth_us ?_ ?_ ?_; (focus (first | omega | (simp only [List.length_nil, not_t, not_f, lt_t, lt_f, le_t, le_f, eq_t, eq_f, us_len, is_len, bs_len, lenL_00, nums_us] <;> omega))); (focus (first | omega | (simp only [List.length_nil, not_t, not_f, lt_t, lt_f, le_t, le_f, eq_t, eq_f, us_len, is_len, bs_len, lenL_00, nums_us] <;> omega))); conv => whnf)
      | (refine nth_is ?_ ?_ ?_; (focus (first | omega | (simp only [List.length_nil, not_t, not_f, lt_t, lt_f, le_t, le_f, eq_t, eq_f, us_len, is_len, bs_len, lenL_00, nums_us] <;> omega))); (focus (first | omega | (simp only [List.length_nil, not_t, not_f, lt_t, lt_f, le_t, le_f, eq_t, eq_f, us_len, is_len, bs_len, lenL_00, nums_us] <;> omega))); conv => whnf)
      | (refine nth_bs ?_ ?_ ?_; (focus (first | omega | (simp only [List.length_nil, not_t, not_f, lt_t, lt_f, le_t, le_f, eq_t, eq_f, us_len, is_len, bs_len, lenL_00, nums_us] <;> omega))); (focus (first | omega | (simp only [List.length_nil, not_t, not_f, lt_t, lt_f, le_t, le_f, eq_t, eq_f, us_len, is_len, bs_len, lenL_00, nums_us] <;> omega))); conv => whnf))
    all_goals first
      | (exfalso; clear hl hs hq1 hz hR0 hRe hR1; simp only [nums_us] at *; simp_all [noItems, le_not_lt, hcl] <;> fail)
      | skip
    all_goals rw [n1]
    all_goals rw [← he]
    have hnn : (wu (e - ldV l base)).toNat ≤ 64 := by
      unfold noItems at hno
      simp only [Bool.or_eq_false_iff, lt_f] at hno
      have := hno.2
      rw [minI_def] at this
      split at this <;> omega
    obtain ⟨q, hq1', hq2, hq3⟩ := wu_mod (e - ldV l base)
    have heq : ∀ k : Nat, k ≤ 64 → (wu (ldV l base + k) = e ↔ (k : Int) = wu (e - ldV l base)) := fun k hk => by
      obtain ⟨q', h1, h2, h3⟩ := wu_mod (ldV l base + k)
      unfold R64 at hR0 hRe
      constructor <;> intro h <;> omega
    refine loopUp [.adopt 13 1001 1] [.kill 80, .kill 81, .kill 82, .kill 83, .kill 84, .kill 85, .kill 86, .kill 87, .kill 88, .kill 89, .kill 90, .kill 91, .kill 92, .kill 93, .keep [157, 73, 71], .ren 157 1001] (fun k : Nat => [(13, .sl 1001 0 none), (14, .t (.int .u64 (wu (ldV l base + k))))]) (fun k => [(1001, .lst 1 (is (itN l base cap (ldV l base) k)) 1)]) (fun k => k ≤ (wu (e - ldV l base)).toNat) (fun k => (wu (e - ldV l base)).toNat - k) 0 (Nat.zero_le _) ?_
    conv => whnf
    refine ⟨⟨?_, rfl⟩, fun k hk C hC => ?_⟩
    · have e0 : wu (ldV l base + ((0 : Nat) : Int)) = ldV l base := by rw [Int.natCast_zero, Int.add_zero]; exact wrap_u64 hR0
      rw [e0]; rfl
    have hk' := heq k (by omega)
    have hil := itN_len l base cap (ldV l base) k
    conv => whnf
    repeat' (first
      | (refine brK_true (by assumption) ?_; conv => whnf)
      | (refine brK_false (by assumption) ?_; conv => whnf)
      | (refine brK_true ?_ ?_; (focus (simp only [List.length_nil, not_t, not_f, lt_t, lt_f, le_t, le_f, eq_t, eq_f, us_len, is_len, bs_len, lenL_00, n1] <;> omega)); conv => whnf)
      | (refine brK_false ?_ ?_; (focus (simp only [List.length_nil, not_t, not_f, lt_t, lt_f, le_t, le_f, eq_t, eq_f, us_len, is_len, bs_len, lenL_00, n1] <;> omega)); conv => whnf)
      | ((refine brK_of (fun h => ?_) (fun h => ?_)) <;> (have h2 := h; (try simp only [List.length_nil, not_t, not_f, lt_t, lt_f, le_t, le_f, eq_t, eq_f, us_len, is_len, bs_len, lenL_00, n1] at h2); conv => whnf))
      | (refine reqK_of ?_ ?_; (focus (first | decide | omega | assumption | (simp only [List.length_nil, not_t, not_f, lt_t, lt_f, le_t, le_f, eq_t, eq_f, us_len, is_len, bs_len, lenL_00, n1] <;> omega) | (simp [keyNew, sameKey, kEq] <;> omega))); conv => whnf)
      | (refine reqK_of ?_ ?_; rotate_left; (conv => whnf); rotate_left)
      | (refine nth_us ?_ ?_ ?_; (focus (first | omega | (simp only [List.length_nil, not_t, not_f, lt_t, lt_f, le_t, le_f, eq_t, eq_f, us_len, is_len, bs_len, lenL_00, n1] <;> omega))); (focus (first | omega | (simp only [List.length_nil, not_t, not_f, lt_t, lt_f, le_t, le_f, eq_t, eq_f, us_len, is_len, bs_len, lenL_00, n1] <;> omega))); conv => whnf)
      | (refine nth_is ?_ ?_ ?_; (focus (first | omega | (simp only [List.length_nil, not_t, not_f, lt_t, lt_f, le_t, le_f, eq_t, eq_f, us_len, is_len, bs_len, lenL_00, n1] <;> omega))); (focus (first | omega | (simp only [List.length_nil, not_t, not_f, lt_t, lt_f, le_t, le_f, eq_t, eq_f, us_len, is_len, bs_len, lenL_00, n1] <;> omega))); conv => whnf)
      | (refine nth_bs ?_ ?_ ?_; (focus (first | omega | (simp only [List.length_nil, not_t, not_f, lt_t, lt_f, le_t, le_f, eq_t, eq_f, us_len, is_len, bs_len, lenL_00, n1] <;> omega))); (focus (first | omega | (simp only [List.length_nil, not_t, not_f, lt_t, lt_f, le_t, le_f, eq_t, eq_f, us_len, is_len, bs_len, lenL_00, n1] <;> omega))); conv => whnf))
    · simp only [maxBytes, is_len, hil, List.length_cons, List.length_nil]; omega
    · have hne : (k : Int) ≠ wu (e - ldV l base) := fun h => by
        have := hk'.2 h
        contradiction
      refine loopC (hC (k + 1) (by omega) (by omega)) ?_
      have ew : wu (wu (ldV l base + (k : Int)) + 1) = wu (ldV l base + ((k + 1 : Nat) : Int)) := by
        obtain ⟨q1, h1, h2, h3⟩ := wu_mod (ldV l base + (k : Int))
        obtain ⟨q2, h4, h5, h6⟩ := wu_mod (wu (ldV l base + (k : Int)) + 1)
        obtain ⟨q3, h7, h8, h9⟩ := wu_mod (ldV l base + ((k + 1 : Nat) : Int))
        omega
      unfold wu at ew
      rw [ew]
      simp only [itN, nums_us, sub_is, ← is_snoc]
      rfl
    · have hke : (k : Int) = wu (e - ldV l base) := hk'.1 (by assumption)
      rw [sub_is, show (wu (e - ldV l base)).toNat = k by omega]
end R
namespace G
theorem ok11 (xs : List T) (base cap kind pc b0 c0 b t x out : Int) (hq : (IsU xs ∧ Sz xs) ∧ I64 cap) : FnOk Try.prog tgl 11 [.list 1 xs, .int .i64 base, .int .i64 cap, .agg [.int .i64 kind, .int .i64 pc, .int .i64 b0, .int .i64 c0, .int .u64 b, .int .u64 t, .int .i64 x, .int .i64 out]] (.list 1 (is (itemsE (nums xs) base cap (popsB kind pc b t out)))) := by
  by_cases hk : kind = 2
  · by_cases ho : out = 0
    · by_cases h2 : pc = 2
      · rw [show popsB kind pc b t out = true by simp [popsB, *]]; exact R.items_p2 _ _ _ _ _ _ _ _ _ _ _ hq hk ho h2
      by_cases h4 : pc = 4
      · rw [show popsB kind pc b t out = true by simp [popsB, *]]; exact R.items_p4 _ _ _ _ _ _ _ _ _ _ _ hq hk ho h4
      by_cases h5 : pc = 5
      · rw [show popsB kind pc b t out = true by simp [popsB, *]]; exact R.items_p5 _ _ _ _ _ _ _ _ _ _ _ hq hk ho h5
      by_cases h3 : pc = 3
      · by_cases ht : t = wu (b - 1)
        · rw [show popsB kind pc b t out = true by simp [popsB, *]]; exact R.items_p3 _ _ _ _ _ _ _ _ _ _ _ hq hk ho h3 ht
        · rw [show popsB kind pc b t out = false by simp [popsB, *]]; exact R.items_n3 _ _ _ _ _ _ _ _ _ _ _ hq hk ho h3 ht
      rw [show popsB kind pc b t out = false by simp [popsB, *]]; exact R.items_nc _ _ _ _ _ _ _ _ _ _ _ hq hk ho h2 h4 h5 h3
    · rw [show popsB kind pc b t out = false by simp [popsB, *]]; exact R.items_no _ _ _ _ _ _ _ _ _ _ _ hq hk ho
  · rw [show popsB kind pc b t out = false by simp [popsB, *]]; exact R.items_nk _ _ _ _ _ _ _ _ _ _ _ hq hk
open Classical in
noncomputable def c11 : List T → Ans
  | [.list 1 xs, .int .i64 base, .int .i64 cap, .agg [.int .i64 kind, .int .i64 pc, .int .i64 b0, .int .i64 c0, .int .u64 b, .int .u64 t, .int .i64 x, .int .i64 out]] => .req ((IsU xs ∧ Sz xs) ∧ I64 cap) (.list 1 (is (itemsE (nums xs) base cap (popsB kind pc b t out))))
  | _ => .no
theorem got11 {vs : List T} {x : T} (h : Got (c11 vs) x) : FnOk Try.prog tgl 11 vs x := by
  unfold c11 at h
  split at h
  · obtain ⟨hq, e⟩ := got_req h; rw [e]; exact ok11 _ _ _ _ _ _ _ _ _ _ _ hq
  · exact (got_no h).elim
theorem nogl11 (vs : List T) (p : Prop) (d : Decidable p) (sz : Nat) (xs : List T) (h : c11 vs = @Ans.gl p d sz xs) : False := by
  unfold c11 at h
  split at h <;> cases h
theorem pk11 (vs : List T) (p : Prop) (d : Decidable p) (x : T) (h : c11 vs = @Ans.pk p d x) (hp : p) : FnOk Try.prog tgl 11 vs x := by
  unfold c11 at h
  split at h
  · cases h
  · cases h
end G
end Go.Nx
