/-
  DEQUES: ITEMS, WHOEVER OWNS THEM (deque.Items).
-/
import Derived.Test.YtommbfigioeghaaGh
set_option linter.unusedVariables false
set_option linter.unusedSimpArgs false
set_option maxRecDepth 20000
set_option maxHeartbeats 16000000
namespace Go.Nx
open Go.RowKit Go.Proofs


/-- the items; p: an owner is about to pop -/
def itemsE (m : List Int) (base cap : Int) (p : Bool) : List Int :=
  let e := if p then wu (ldV m (wi (base + 1)) + 1) else ldV m (wi (base + 1))
  if noItems (ldV m base) e cap = true then [] else itN m base cap (ldV m base) (wu (e - ldV m base)).toNat
theorem cl_eq {cap : Int} (h : I64 cap) : IntKind.u64.wrap (minI (maxI cap 1) 64) = minI (wu (maxI cap 1)) 64 := by
  have h1 : 1 ≤ maxI cap 1 ∧ maxI cap 1 < 9223372036854775808 := by rw [maxI_def]; unfold I64 at h; split <;> omega
  have h2 : wu (maxI cap 1) = maxI cap 1 := wrap_u64 ⟨by omega, by omega⟩
  rw [h2]
  exact wrap_u64 (by rw [minI_def]; unfold R64; split <;> constructor <;> omega)
def popsB (kind pc b t out : Int) : Bool := decide (kind = 2 ∧ out = 0 ∧ (pc = 2 ∨ pc = 4 ∨ pc = 5 ∨ pc = 3 ∧ t = wu (b - 1)))
theorem items_p2 (xs : List T) (base cap kind pc b0 c0 b t x out : Int) (hq : (IsU xs ∧ Sz xs) ∧ I64 cap) (hk : kind = 2) (ho : out = 0) (hp : pc = 2) : FnOk Try.prog tgl 37 [.list 1 xs, .int .i64 base, .int .i64 cap, .agg [.int .i64 kind, .int .i64 pc, .int .i64 b0, .int .i64 c0, .int .u64 b, .int .u64 t, .int .i64 x, .int .i64 out]] (.list 1 (is (itemsE (nums xs) base cap true))) := by
  obtain ⟨⟨⟨l, rfl, hl⟩, hs⟩, hcap⟩ := hq
  rw [nums_us]
  have hq1 : IsU (us l) ∧ Sz (us l) := ⟨isU_us hl, hs⟩
  have hz := sz_ne hcap
  have n1 := nums_us l
  have hcl := cl_eq hcap
  have hR0 : R64 (ldV l base) := doV_R hl _ _
  have hR1 : R64 (ldV l (wi (base + 1))) := doV_R hl _ _
  obtain ⟨e, he⟩ : ∃ e, e = wu (ldV l (wi (base + 1)) + 1) := ⟨_, rfl⟩
  have hRe : R64 e := by rw [he]; exact wu_R _
  cases hno : noItems (ldV l base) e cap with
  | true =>
    rw [show itemsE l base cap true = [] by simp [itemsE, ← he, hno]]
    refine FnOk.nilr 1 ?_
    refine fn_ok (Γ := E9) env_E9 Try.func37 low37 ?_
    conv => whnf
    repeat' (first
      | (refine brK_true rfl ?_; conv => whnf)
      | (refine brK_false rfl ?_; conv => whnf)
      | (refine brK_true (by assumption) ?_; conv => whnf)
      | (refine brK_false (by assumption) ?_; conv => whnf)
      | (refine brK_true ?_ ?_; (focus (simp only [List.length_nil, fx, nums_us] <;> omega)); conv => whnf)
      | (refine brK_false ?_ ?_; (focus (simp only [List.length_nil, fx, nums_us] <;> omega)); conv => whnf)
      | ((refine brK_of (fun h => ?_) (fun h => ?_)) <;> (have h2 := h; (try simp only [List.length_nil, fx, nums_us] at h2); conv => whnf))
      | (refine reqK_of ?_ ?_; (focus (first | decide | omega | assumption | (simp only [List.length_nil, fx, nums_us] <;> omega) | (simp [keyNew, sameKey, kEq] <;> omega))); conv => whnf)
      | (refine reqK_of ?_ ?_; rotate_left; (conv => whnf); rotate_left)
      | (refine nth_us ?_ ?_ ?_; (focus (first | omega | (simp only [List.length_nil, fx, nums_us] <;> omega))); (focus (first | omega | (simp only [List.length_nil, fx, nums_us] <;> omega))); conv => whnf)
      | (refine nth_is ?_ ?_ ?_; (focus (first | omega | (simp only [List.length_nil, fx, nums_us] <;> omega))); (focus (first | omega | (simp only [List.length_nil, fx, nums_us] <;> omega))); conv => whnf)
      | (refine nth_bs ?_ ?_ ?_; (focus (first | omega | (simp only [List.length_nil, fx, nums_us] <;> omega))); (focus (first | omega | (simp only [List.length_nil, fx, nums_us] <;> omega))); conv => whnf))
    all_goals (exfalso; clear hl hs hq1 hz hR0 hRe hR1; simp only [nums_us] at *; simp_all [noItems] <;> fail)
  | false =>
    rw [show itemsE l base cap true = itN l base cap (ldV l base) (wu (e - ldV l base)).toNat by simp [itemsE, ← he, hno]]
    refine fn_ok (Γ := E9) env_E9 Try.func37 low37 ?_
    conv => whnf
    repeat' (first
      | (refine brK_true rfl ?_; conv => whnf)
      | (refine brK_false rfl ?_; conv => whnf)
      | (refine brK_true (by assumption) ?_; conv => whnf)
      | (refine brK_false (by assumption) ?_; conv => whnf)
      | (refine brK_true ?_ ?_; (focus (simp only [List.length_nil, fx, nums_us] <;> omega)); conv => whnf)
      | (refine brK_false ?_ ?_; (focus (simp only [List.length_nil, fx, nums_us] <;> omega)); conv => whnf)
      | ((refine brK_of (fun h => ?_) (fun h => ?_)) <;> (have h2 := h; (try simp only [List.length_nil, fx, nums_us] at h2); conv => whnf))
      | (refine reqK_of ?_ ?_; (focus (first | decide | omega | assumption | (simp only [List.length_nil, fx, nums_us] <;> omega) | (simp [keyNew, sameKey, kEq] <;> omega))); conv => whnf)
      | (refine reqK_of ?_ ?_; rotate_left; (conv => whnf); rotate_left)
      | (refine nth_us ?_ ?_ ?_; (focus (first | omega | (simp only [List.length_nil, fx, nums_us] <;> omega))); (focus (first | omega | (simp only [List.length_nil, fx, nums_us] <;> omega))); conv => whnf)
      | (refine nth_is ?_ ?_ ?_; (focus (first | omega | (simp only [List.length_nil, fx, nums_us] <;> omega))); (focus (first | omega | (simp only [List.length_nil, fx, nums_us] <;> omega))); conv => whnf)
      | (refine nth_bs ?_ ?_ ?_; (focus (first | omega | (simp only [List.length_nil, fx, nums_us] <;> omega))); (focus (first | omega | (simp only [List.length_nil, fx, nums_us] <;> omega))); conv => whnf))
    all_goals first
      | (exfalso; clear hl hs hq1 hz hR0 hRe hR1; simp only [nums_us] at *; simp_all [noItems] <;> fail)
      | skip
    all_goals rw [n1]
    all_goals rw [show IntKind.u64.wrap (ldV l (wi (base + 1)) + 1) = e from he.symm]
    have hnn : (wu (e - ldV l base)).toNat ≤ 64 := by
      unfold noItems at hno
      simp only [Bool.or_eq_false_iff, lt_f] at hno
      have := hno.2
      rw [minI_def] at this
      split at this <;> omega
    obtain ⟨q, hq1', hq2, hq3⟩ := wu_mod (e - ldV l base)
    have heq : ∀ k : Nat, k ≤ 64 → (wu (ldV l base + k) = e ↔ (k : Int) = wu (e - ldV l base)) := fun k hk => by
      obtain ⟨q', h1, h2, h3⟩ := wu_mod (ldV l base + k)
      unfold R64 at hR0 hRe
      constructor <;> intro h <;> omega
    refine loopUp [.adopt 12 1001 1] [.kill 62, .kill 63, .kill 64, .kill 65, .kill 66, .kill 67, .kill 68, .kill 69, .kill 70, .kill 71, .kill 72, .kill 73, .kill 74, .keep [138, 73, 71], .ren 138 1001] (fun k : Nat => [(12, .sl 1001 0 none), (13, .t (.int .u64 (wu (ldV l base + k))))]) (fun k => [(1001, .lst 1 (is (itN l base cap (ldV l base) k)) 1)]) (fun k => k ≤ (wu (e - ldV l base)).toNat) (fun k => (wu (e - ldV l base)).toNat - k) 0 (Nat.zero_le _) ?_
    conv => whnf
    refine ⟨⟨?_, rfl⟩, fun k hk C hC => ?_⟩
    · have e0 : wu (ldV l base + ((0 : Nat) : Int)) = ldV l base := by rw [Int.natCast_zero, Int.add_zero]; exact wrap_u64 hR0
      rw [e0]; rfl
    have hk' := heq k (by omega)
    have hil := itN_len l base cap (ldV l base) k
    conv => whnf
    repeat' (first
      | (refine brK_true rfl ?_; conv => whnf)
      | (refine brK_false rfl ?_; conv => whnf)
      | (refine brK_true (by assumption) ?_; conv => whnf)
      | (refine brK_false (by assumption) ?_; conv => whnf)
      | (refine brK_true ?_ ?_; (focus (simp only [List.length_nil, fx, n1] <;> omega)); conv => whnf)
      | (refine brK_false ?_ ?_; (focus (simp only [List.length_nil, fx, n1] <;> omega)); conv => whnf)
      | ((refine brK_of (fun h => ?_) (fun h => ?_)) <;> (have h2 := h; (try simp only [List.length_nil, fx, n1] at h2); conv => whnf))
      | (refine reqK_of ?_ ?_; (focus (first | decide | omega | assumption | (simp only [List.length_nil, fx, n1] <;> omega) | (simp [keyNew, sameKey, kEq] <;> omega))); conv => whnf)
      | (refine reqK_of ?_ ?_; rotate_left; (conv => whnf); rotate_left)
      | (refine nth_us ?_ ?_ ?_; (focus (first | omega | (simp only [List.length_nil, fx, n1] <;> omega))); (focus (first | omega | (simp only [List.length_nil, fx, n1] <;> omega))); conv => whnf)
      | (refine nth_is ?_ ?_ ?_; (focus (first | omega | (simp only [List.length_nil, fx, n1] <;> omega))); (focus (first | omega | (simp only [List.length_nil, fx, n1] <;> omega))); conv => whnf)
      | (refine nth_bs ?_ ?_ ?_; (focus (first | omega | (simp only [List.length_nil, fx, n1] <;> omega))); (focus (first | omega | (simp only [List.length_nil, fx, n1] <;> omega))); conv => whnf))
    · simp only [maxBytes, is_len, hil, List.length_cons, List.length_nil]; omega
    · have hne : (k : Int) ≠ wu (e - ldV l base) := fun h => by
        have := hk'.2 h
        contradiction
      refine loopC (hC (k + 1) (by omega) (by omega)) ?_
      have ew : wu (wu (ldV l base + (k : Int)) + 1) = wu (ldV l base + ((k + 1 : Nat) : Int)) := by
        obtain ⟨q1, h1, h2, h3⟩ := wu_mod (ldV l base + (k : Int))
        obtain ⟨q2, h4, h5, h6⟩ := wu_mod (wu (ldV l base + (k : Int)) + 1)
        obtain ⟨q3, h7, h8, h9⟩ := wu_mod (ldV l base + ((k + 1 : Nat) : Int))
        omega
      unfold wu at ew
      rw [ew]
      simp only [itN, nums_us, sub_is, ← is_snoc]
      rfl
    · have hke : (k : Int) = wu (e - ldV l base) := hk'.1 (by assumption)
      rw [sub_is, show (wu (e - ldV l base)).toNat = k by omega]
theorem items_p4 (xs : List T) (base cap kind pc b0 c0 b t x out : Int) (hq : (IsU xs ∧ Sz xs) ∧ I64 cap) (hk : kind = 2) (ho : out = 0) (hp : pc = 4) : FnOk Try.prog tgl 37 [.list 1 xs, .int .i64 base, .int .i64 cap, .agg [.int .i64 kind, .int .i64 pc, .int .i64 b0, .int .i64 c0, .int .u64 b, .int .u64 t, .int .i64 x, .int .i64 out]] (.list 1 (is (itemsE (nums xs) base cap true))) := by
  obtain ⟨⟨⟨l, rfl, hl⟩, hs⟩, hcap⟩ := hq
  rw [nums_us]
  have hq1 : IsU (us l) ∧ Sz (us l) := ⟨isU_us hl, hs⟩
  have hz := sz_ne hcap
  have n1 := nums_us l
  have hcl := cl_eq hcap
  have hR0 : R64 (ldV l base) := doV_R hl _ _
  have hR1 : R64 (ldV l (wi (base + 1))) := doV_R hl _ _
  obtain ⟨e, he⟩ : ∃ e, e = wu (ldV l (wi (base + 1)) + 1) := ⟨_, rfl⟩
  have hRe : R64 e := by rw [he]; exact wu_R _
  cases hno : noItems (ldV l base) e cap with
  | true =>
    rw [show itemsE l base cap true = [] by simp [itemsE, ← he, hno]]
    refine FnOk.nilr 1 ?_
    refine fn_ok (Γ := E9) env_E9 Try.func37 low37 ?_
    conv => whnf
    repeat' (first
      | (refine brK_true rfl ?_; conv => whnf)
      | (refine brK_false rfl ?_; conv => whnf)
      | (refine brK_true (by assumption) ?_; conv => whnf)
      | (refine brK_false (by assumption) ?_; conv => whnf)
      | (refine brK_true ?_ ?_; (focus (simp only [List.length_nil, fx, nums_us] <;> omega)); conv => whnf)
      | (refine brK_false ?_ ?_; (focus (simp only [List.length_nil, fx, nums_us] <;> omega)); conv => whnf)
      | ((refine brK_of (fun h => ?_) (fun h => ?_)) <;> (have h2 := h; (try simp only [List.length_nil, fx, nums_us] at h2); conv => whnf))
      | (refine reqK_of ?_ ?_; (focus (first | decide | omega | assumption | (simp only [List.length_nil, fx, nums_us] <;> omega) | (simp [keyNew, sameKey, kEq] <;> omega))); conv => whnf)
      | (refine reqK_of ?_ ?_; rotate_left; (conv => whnf); rotate_left)
      | (refine nth_us ?_ ?_ ?_; (focus (first | omega | (simp only [List.length_nil, fx, nums_us] <;> omega))); (focus (first | omega | (simp only [List.length_nil, fx, nums_us] <;> omega))); conv => whnf)
      | (refine nth_is ?_ ?_ ?_; (focus (first | omega | (simp only [List.length_nil, fx, nums_us] <;> omega))); (focus (first | omega | (simp only [List.length_nil, fx, nums_us] <;> omega))); conv => whnf)
      | (refine nth_bs ?_ ?_ ?_; (focus (first | omega | (simp only [List.length_nil, fx, nums_us] <;> omega))); (focus (first | omega | (simp only [List.length_nil, fx, nums_us] <;> omega))); conv => whnf))
    all_goals (exfalso; clear hl hs hq1 hz hR0 hRe hR1; simp only [nums_us] at *; simp_all [noItems] <;> fail)
  | false =>
    rw [show itemsE l base cap true = itN l base cap (ldV l base) (wu (e - ldV l base)).toNat by simp [itemsE, ← he, hno]]
    refine fn_ok (Γ := E9) env_E9 Try.func37 low37 ?_
    conv => whnf
    repeat' (first
      | (refine brK_true rfl ?_; conv => whnf)
      | (refine brK_false rfl ?_; conv => whnf)
      | (refine brK_true (by assumption) ?_; conv => whnf)
      | (refine brK_false (by assumption) ?_; conv => whnf)
      | (refine brK_true ?_ ?_; (focus (simp only [List.length_nil, fx, nums_us] <;> omega)); conv => whnf)
      | (refine brK_false ?_ ?_; (focus (simp only [List.length_nil, fx, nums_us] <;> omega)); conv => whnf)
      | ((refine brK_of (fun h => ?_) (fun h => ?_)) <;> (have h2 := h; (try simp only [List.length_nil, fx, nums_us] at h2); conv => whnf))
      | (refine reqK_of ?_ ?_; (focus (first | decide | omega | assumption | (simp only [List.length_nil, fx, nums_us] <;> omega) | (simp [keyNew, sameKey, kEq] <;> omega))); conv => whnf)
      | (refine reqK_of ?_ ?_; rotate_left; (conv => whnf); rotate_left)
      | (refine nth_us ?_ ?_ ?_; (focus (first | omega | (simp only [List.length_nil, fx, nums_us] <;> omega))); (focus (first | omega | (simp only [List.length_nil, fx, nums_us] <;> omega))); conv => whnf)
      | (refine nth_is ?_ ?_ ?_; (focus (first | omega | (simp only [List.length_nil, fx, nums_us] <;> omega))); (focus (first | omega | (simp only [List.length_nil, fx, nums_us] <;> omega))); conv => whnf)
      | (refine nth_bs ?_ ?_ ?_; (focus (first | omega | (simp only [List.length_nil, fx, nums_us] <;> omega))); (focus (first | omega | (simp only [List.length_nil, fx, nums_us] <;> omega))); conv => whnf))
    all_goals first
      | (exfalso; clear hl hs hq1 hz hR0 hRe hR1; simp only [nums_us] at *; simp_all [noItems] <;> fail)
      | skip
    all_goals rw [n1]
    all_goals rw [show IntKind.u64.wrap (ldV l (wi (base + 1)) + 1) = e from he.symm]
    have hnn : (wu (e - ldV l base)).toNat ≤ 64 := by
      unfold noItems at hno
      simp only [Bool.or_eq_false_iff, lt_f] at hno
      have := hno.2
      rw [minI_def] at this
      split at this <;> omega
    obtain ⟨q, hq1', hq2, hq3⟩ := wu_mod (e - ldV l base)
    have heq : ∀ k : Nat, k ≤ 64 → (wu (ldV l base + k) = e ↔ (k : Int) = wu (e - ldV l base)) := fun k hk => by
      obtain ⟨q', h1, h2, h3⟩ := wu_mod (ldV l base + k)
      unfold R64 at hR0 hRe
      constructor <;> intro h <;> omega
    refine loopUp [.adopt 12 1001 1] [.kill 62, .kill 63, .kill 64, .kill 65, .kill 66, .kill 67, .kill 68, .kill 69, .kill 70, .kill 71, .kill 72, .kill 73, .kill 74, .keep [138, 73, 71], .ren 138 1001] (fun k : Nat => [(12, .sl 1001 0 none), (13, .t (.int .u64 (wu (ldV l base + k))))]) (fun k => [(1001, .lst 1 (is (itN l base cap (ldV l base) k)) 1)]) (fun k => k ≤ (wu (e - ldV l base)).toNat) (fun k => (wu (e - ldV l base)).toNat - k) 0 (Nat.zero_le _) ?_
    conv => whnf
    refine ⟨⟨?_, rfl⟩, fun k hk C hC => ?_⟩
    · have e0 : wu (ldV l base + ((0 : Nat) : Int)) = ldV l base := by rw [Int.natCast_zero, Int.add_zero]; exact wrap_u64 hR0
      rw [e0]; rfl
    have hk' := heq k (by omega)
    have hil := itN_len l base cap (ldV l base) k
    conv => whnf
    repeat' (first
      | (refine brK_true rfl ?_; conv => whnf)
      | (refine brK_false rfl ?_; conv => whnf)
      | (refine brK_true (by assumption) ?_; conv => whnf)
      | (refine brK_false (by assumption) ?_; conv => whnf)
      | (refine brK_true ?_ ?_; (focus (simp only [List.length_nil, fx, n1] <;> omega)); conv => whnf)
      | (refine brK_false ?_ ?_; (focus (simp only [List.length_nil, fx, n1] <;> omega)); conv => whnf)
      | ((refine brK_of (fun h => ?_) (fun h => ?_)) <;> (have h2 := h; (try simp only [List.length_nil, fx, n1] at h2); conv => whnf))
      | (refine reqK_of ?_ ?_; (focus (first | decide | omega | assumption | (simp only [List.length_nil, fx, n1] <;> omega) | (simp [keyNew, sameKey, kEq] <;> omega))); conv => whnf)
      | (refine reqK_of ?_ ?_; rotate_left; (conv => whnf); rotate_left)
      | (refine nth_us ?_ ?_ ?_; (focus (first | omega | (simp only [List.length_nil, fx, n1] <;> omega))); (focus (first | omega | (simp only [List.length_nil, fx, n1] <;> omega))); conv => whnf)
      | (refine nth_is ?_ ?_ ?_; (focus (first | omega | (simp only [List.length_nil, fx, n1] <;> omega))); (focus (first | omega | (simp only [List.length_nil, fx, n1] <;> omega))); conv => whnf)
      | (refine nth_bs ?_ ?_ ?_; (focus (first | omega | (simp only [List.length_nil, fx, n1] <;> omega))); (focus (first | omega | (simp only [List.length_nil, fx, n1] <;> omega))); conv => whnf))
    · simp only [maxBytes, is_len, hil, List.length_cons, List.length_nil]; omega
    · have hne : (k : Int) ≠ wu (e - ldV l base) := fun h => by
        have := hk'.2 h
        contradiction
      refine loopC (hC (k + 1) (by omega) (by omega)) ?_
      have ew : wu (wu (ldV l base + (k : Int)) + 1) = wu (ldV l base + ((k + 1 : Nat) : Int)) := by
        obtain ⟨q1, h1, h2, h3⟩ := wu_mod (ldV l base + (k : Int))
        obtain ⟨q2, h4, h5, h6⟩ := wu_mod (wu (ldV l base + (k : Int)) + 1)
        obtain ⟨q3, h7, h8, h9⟩ := wu_mod (ldV l base + ((k + 1 : Nat) : Int))
        omega
      unfold wu at ew
      rw [ew]
      simp only [itN, nums_us, sub_is, ← is_snoc]
      rfl
    · have hke : (k : Int) = wu (e - ldV l base) := hk'.1 (by assumption)
      rw [sub_is, show (wu (e - ldV l base)).toNat = k by omega]
theorem items_p5 (xs : List T) (base cap kind pc b0 c0 b t x out : Int) (hq : (IsU xs ∧ Sz xs) ∧ I64 cap) (hk : kind = 2) (ho : out = 0) (hp : pc = 5) : FnOk Try.prog tgl 37 [.list 1 xs, .int .i64 base, .int .i64 cap, .agg [.int .i64 kind, .int .i64 pc, .int .i64 b0, .int .i64 c0, .int .u64 b, .int .u64 t, .int .i64 x, .int .i64 out]] (.list 1 (is (itemsE (nums xs) base cap true))) := by
  obtain ⟨⟨⟨l, rfl, hl⟩, hs⟩, hcap⟩ := hq
  rw [nums_us]
  have hq1 : IsU (us l) ∧ Sz (us l) := ⟨isU_us hl, hs⟩
  have hz := sz_ne hcap
  have n1 := nums_us l
  have hcl := cl_eq hcap
  have hR0 : R64 (ldV l base) := doV_R hl _ _
  have hR1 : R64 (ldV l (wi (base + 1))) := doV_R hl _ _
  obtain ⟨e, he⟩ : ∃ e, e = wu (ldV l (wi (base + 1)) + 1) := ⟨_, rfl⟩
  have hRe : R64 e := by rw [he]; exact wu_R _
  cases hno : noItems (ldV l base) e cap with
  | true =>
    rw [show itemsE l base cap true = [] by simp [itemsE, ← he, hno]]
    refine FnOk.nilr 1 ?_
    refine fn_ok (Γ := E9) env_E9 Try.func37 low37 ?_
    conv => whnf
    repeat' (first
      | (refine brK_true rfl ?_; conv => whnf)
      | (refine brK_false rfl ?_; conv => whnf)
      | (refine brK_true (by assumption) ?_; conv => whnf)
      | (refine brK_false (by assumption) ?_; conv => whnf)
      | (refine brK_true ?_ ?_; (focus (simp only [List.length_nil, fx, nums_us] <;> omega)); conv => whnf)
      | (refine brK_false ?_ ?_; (focus (simp only [List.length_nil, fx, nums_us] <;> omega)); conv => whnf)
      | ((refine brK_of (fun h => ?_) (fun h => ?_)) <;> (have h2 := h; (try simp only [List.length_nil, fx, nums_us] at h2); conv => whnf))
      | (refine reqK_of ?_ ?_; (focus (first | decide | omega | assumption | (simp only [List.length_nil, fx, nums_us] <;> omega) | (simp [keyNew, sameKey, kEq] <;> omega))); conv => whnf)
      | (refine reqK_of ?_ ?_; rotate_left; (conv => whnf); rotate_left)
      | (refine nth_us ?_ ?_ ?_; (focus (first | omega | (simp only [List.length_nil, fx, nums_us] <;> omega))); (focus (first | omega | (simp only [List.length_nil, fx, nums_us] <;> omega))); conv => whnf)
      | (refine nth_is ?_ ?_ ?_; (focus (first | omega | (simp only [List.length_nil, fx, nums_us] <;> omega))); (focus (first | omega | (simp only [List.length_nil, fx, nums_us] <;> omega))); conv => whnf)
      | (refine nth_bs ?_ ?_ ?_; (focus (first | omega | (simp only [List.length_nil, fx, nums_us] <;> omega))); (focus (first | omega | (simp only [List.length_nil, fx, nums_us] <;> omega))); conv => whnf))
    all_goals (exfalso; clear hl hs hq1 hz hR0 hRe hR1; simp only [nums_us] at *; simp_all [noItems] <;> fail)
  | false =>
    rw [show itemsE l base cap true = itN l base cap (ldV l base) (wu (e - ldV l base)).toNat by simp [itemsE, ← he, hno]]
    refine fn_ok (Γ := E9) env_E9 Try.func37 low37 ?_
    conv => whnf
    repeat' (first
      | (refine brK_true rfl ?_; conv => whnf)
      | (refine brK_false rfl ?_; conv => whnf)
      | (refine brK_true (by assumption) ?_; conv => whnf)
      | (refine brK_false (by assumption) ?_; conv => whnf)
      | (refine brK_true ?_ ?_; (focus (simp only [List.length_nil, fx, nums_us] <;> omega)); conv => whnf)
      | (refine brK_false ?_ ?_; (focus (simp only [List.length_nil, fx, nums_us] <;> omega)); conv => whnf)
      | ((refine brK_of (fun h => ?_) (fun h => ?_)) <;> (have h2 := h; (try simp only [List.length_nil, fx, nums_us] at h2); conv => whnf))
      | (refine reqK_of ?_ ?_; (focus (first | decide | omega | assumption | (simp only [List.length_nil, fx, nums_us] <;> omega) | (simp [keyNew, sameKey, kEq] <;> omega))); conv => whnf)
      | (refine reqK_of ?_ ?_; rotate_left; (conv => whnf); rotate_left)
      | (refine nth_us ?_ ?_ ?_; (focus (first | omega | (simp only [List.length_nil, fx, nums_us] <;> omega))); (focus (first | omega | (simp only [List.length_nil, fx, nums_us] <;> omega))); conv => whnf)
      | (refine nth_is ?_ ?_ ?_; (focus (first | omega | (simp only [List.length_nil, fx, nums_us] <;> omega))); (focus (first | omega | (simp only [List.length_nil, fx, nums_us] <;> omega))); conv => whnf)
      | (refine nth_bs ?_ ?_ ?_; (focus (first | omega | (simp only [List.length_nil, fx, nums_us] <;> omega))); (focus (first | omega | (simp only [List.length_nil, fx, nums_us] <;> omega))); conv => whnf))
    all_goals first
      | (exfalso; clear hl hs hq1 hz hR0 hRe hR1; simp only [nums_us] at *; simp_all [noItems] <;> fail)
      | skip
    all_goals rw [n1]
    all_goals rw [show IntKind.u64.wrap (ldV l (wi (base + 1)) + 1) = e from he.symm]
    have hnn : (wu (e - ldV l base)).toNat ≤ 64 := by
      unfold noItems at hno
      simp only [Bool.or_eq_false_iff, lt_f] at hno
      have := hno.2
      rw [minI_def] at this
      split at this <;> omega
    obtain ⟨q, hq1', hq2, hq3⟩ := wu_mod (e - ldV l base)
    have heq : ∀ k : Nat, k ≤ 64 → (wu (ldV l base + k) = e ↔ (k : Int) = wu (e - ldV l base)) := fun k hk => by
      obtain ⟨q', h1, h2, h3⟩ := wu_mod (ldV l base + k)
      unfold R64 at hR0 hRe
      constructor <;> intro h <;> omega
    refine loopUp [.adopt 12 1001 1] [.kill 62, .kill 63, .kill 64, .kill 65, .kill 66, .kill 67, .kill 68, .kill 69, .kill 70, .kill 71, .kill 72, .kill 73, .kill 74, .keep [138, 73, 71], .ren 138 1001] (fun k : Nat => [(12, .sl 1001 0 none), (13, .t (.int .u64 (wu (ldV l base + k))))]) (fun k => [(1001, .lst 1 (is (itN l base cap (ldV l base) k)) 1)]) (fun k => k ≤ (wu (e - ldV l base)).toNat) (fun k => (wu (e - ldV l base)).toNat - k) 0 (Nat.zero_le _) ?_
    conv => whnf
    refine ⟨⟨?_, rfl⟩, fun k hk C hC => ?_⟩
    · have e0 : wu (ldV l base + ((0 : Nat) : Int)) = ldV l base := by rw [Int.natCast_zero, Int.add_zero]; exact wrap_u64 hR0
      rw [e0]; rfl
    have hk' := heq k (by omega)
    have hil := itN_len l base cap (ldV l base) k
    conv => whnf
    repeat' (first
      | (refine brK_true rfl ?_; conv => whnf)
      | (refine brK_false rfl ?_; conv => whnf)
      | (refine brK_true (by assumption) ?_; conv => whnf)
      | (refine brK_false (by assumption) ?_; conv => whnf)
      | (refine brK_true ?_ ?_; (focus (simp only [List.length_nil, fx, n1] <;> omega)); conv => whnf)
      | (refine brK_false ?_ ?_; (focus (simp only [List.length_nil, fx, n1] <;> omega)); conv => whnf)
      | ((refine brK_of (fun h => ?_) (fun h => ?_)) <;> (have h2 := h; (try simp only [List.length_nil, fx, n1] at h2); conv => whnf))
      | (refine reqK_of ?_ ?_; (focus (first | decide | omega | assumption | (simp only [List.length_nil, fx, n1] <;> omega) | (simp [keyNew, sameKey, kEq] <;> omega))); conv => whnf)
      | (refine reqK_of ?_ ?_; rotate_left; (conv => whnf); rotate_left)
      | (refine nth_us ?_ ?_ ?_; (focus (first | omega | (simp only [List.length_nil, fx, n1] <;> omega))); (focus (first | omega | (simp only [List.length_nil, fx, n1] <;> omega))); conv => whnf)
      | (refine nth_is ?_ ?_ ?_; (focus (first | omega | (simp only [List.length_nil, fx, n1] <;> omega))); (focus (first | omega | (simp only [List.length_nil, fx, n1] <;> omega))); conv => whnf)
      | (refine nth_bs ?_ ?_ ?_; (focus (first | omega | (simp only [List.length_nil, fx, n1] <;> omega))); (focus (first | omega | (simp only [List.length_nil, fx, n1] <;> omega))); conv => whnf))
    · simp only [maxBytes, is_len, hil, List.length_cons, List.length_nil]; omega
    · have hne : (k : Int) ≠ wu (e - ldV l base) := fun h => by
        have := hk'.2 h
        contradiction
      refine loopC (hC (k + 1) (by omega) (by omega)) ?_
      have ew : wu (wu (ldV l base + (k : Int)) + 1) = wu (ldV l base + ((k + 1 : Nat) : Int)) := by
        obtain ⟨q1, h1, h2, h3⟩ := wu_mod (ldV l base + (k : Int))
        obtain ⟨q2, h4, h5, h6⟩ := wu_mod (wu (ldV l base + (k : Int)) + 1)
        obtain ⟨q3, h7, h8, h9⟩ := wu_mod (ldV l base + ((k + 1 : Nat) : Int))
        omega
      unfold wu at ew
      rw [ew]
      simp only [itN, nums_us, sub_is, ← is_snoc]
      rfl
    · have hke : (k : Int) = wu (e - ldV l base) := hk'.1 (by assumption)
      rw [sub_is, show (wu (e - ldV l base)).toNat = k by omega]
theorem items_p3 (xs : List T) (base cap kind pc b0 c0 b t x out : Int) (hq : (IsU xs ∧ Sz xs) ∧ I64 cap) (hk : kind = 2) (ho : out = 0) (hp : pc = 3) (ht : t = wu (b - 1)) : FnOk Try.prog tgl 37 [.list 1 xs, .int .i64 base, .int .i64 cap, .agg [.int .i64 kind, .int .i64 pc, .int .i64 b0, .int .i64 c0, .int .u64 b, .int .u64 t, .int .i64 x, .int .i64 out]] (.list 1 (is (itemsE (nums xs) base cap true))) := by
  obtain ⟨⟨⟨l, rfl, hl⟩, hs⟩, hcap⟩ := hq
  rw [nums_us]
  have hq1 : IsU (us l) ∧ Sz (us l) := ⟨isU_us hl, hs⟩
  have hz := sz_ne hcap
  have n1 := nums_us l
  have hcl := cl_eq hcap
  have hR0 : R64 (ldV l base) := doV_R hl _ _
  have hR1 : R64 (ldV l (wi (base + 1))) := doV_R hl _ _
  obtain ⟨e, he⟩ : ∃ e, e = wu (ldV l (wi (base + 1)) + 1) := ⟨_, rfl⟩
  have hRe : R64 e := by rw [he]; exact wu_R _
  cases hno : noItems (ldV l base) e cap with
  | true =>
    rw [show itemsE l base cap true = [] by simp [itemsE, ← he, hno]]
    refine FnOk.nilr 1 ?_
    refine fn_ok (Γ := E9) env_E9 Try.func37 low37 ?_
    conv => whnf
    repeat' (first
      | (refine brK_true rfl ?_; conv => whnf)
      | (refine brK_false rfl ?_; conv => whnf)
      | (refine brK_true (by assumption) ?_; conv => whnf)
      | (refine brK_false (by assumption) ?_; conv => whnf)
      | (refine brK_true ?_ ?_; (focus (simp only [List.length_nil, fx, nums_us] <;> omega)); conv => whnf)
      | (refine brK_false ?_ ?_; (focus (simp only [List.length_nil, fx, nums_us] <;> omega)); conv => whnf)
      | ((refine brK_of (fun h => ?_) (fun h => ?_)) <;> (have h2 := h; (try simp only [List.length_nil, fx, nums_us] at h2); conv => whnf))
      | (refine reqK_of ?_ ?_; (focus (first | decide | omega | assumption | (simp only [List.length_nil, fx, nums_us] <;> omega) | (simp [keyNew, sameKey, kEq] <;> omega))); conv => whnf)
      | (refine reqK_of ?_ ?_; rotate_left; (conv => whnf); rotate_left)
      | (refine nth_us ?_ ?_ ?_; (focus (first | omega | (simp only [List.length_nil, fx, nums_us] <;> omega))); (focus (first | omega | (simp only [List.length_nil, fx, nums_us] <;> omega))); conv => whnf)
      | (refine nth_is ?_ ?_ ?_; (focus (first | omega | (simp only [List.length_nil, fx, nums_us] <;> omega))); (focus (first | omega | (simp only [List.length_nil, fx, nums_us] <;> omega))); conv => whnf)
      | (refine nth_bs ?_ ?_ ?_; (focus (first | omega | (simp only [List.length_nil, fx, nums_us] <;> omega))); (focus (first | omega | (simp only [List.length_nil, fx, nums_us] <;> omega))); conv => whnf))
    all_goals (exfalso; clear hl hs hq1 hz hR0 hRe hR1; simp only [nums_us] at *; simp_all [noItems] <;> fail)
  | false =>
    rw [show itemsE l base cap true = itN l base cap (ldV l base) (wu (e - ldV l base)).toNat by simp [itemsE, ← he, hno]]
    refine fn_ok (Γ := E9) env_E9 Try.func37 low37 ?_
    conv => whnf
    repeat' (first
      | (refine brK_true rfl ?_; conv => whnf)
      | (refine brK_false rfl ?_; conv => whnf)
      | (refine brK_true (by assumption) ?_; conv => whnf)
      | (refine brK_false (by assumption) ?_; conv => whnf)
      | (refine brK_true ?_ ?_; (focus (simp only [List.length_nil, fx, nums_us] <;> omega)); conv => whnf)
      | (refine brK_false ?_ ?_; (focus (simp only [List.length_nil, fx, nums_us] <;> omega)); conv => whnf)
      | ((refine brK_of (fun h => ?_) (fun h => ?_)) <;> (have h2 := h; (try simp only [List.length_nil, fx, nums_us] at h2); conv => whnf))
      | (refine reqK_of ?_ ?_; (focus (first | decide | omega | assumption | (simp only [List.length_nil, fx, nums_us] <;> omega) | (simp [keyNew, sameKey, kEq] <;> omega))); conv => whnf)
      | (refine reqK_of ?_ ?_; rotate_left; (conv => whnf); rotate_left)
      | (refine nth_us ?_ ?_ ?_; (focus (first | omega | (simp only [List.length_nil, fx, nums_us] <;> omega))); (focus (first | omega | (simp only [List.length_nil, fx, nums_us] <;> omega))); conv => whnf)
      | (refine nth_is ?_ ?_ ?_; (focus (first | omega | (simp only [List.length_nil, fx, nums_us] <;> omega))); (focus (first | omega | (simp only [List.length_nil, fx, nums_us] <;> omega))); conv => whnf)
      | (refine nth_bs ?_ ?_ ?_; (focus (first | omega | (simp only [List.length_nil, fx, nums_us] <;> omega))); (focus (first | omega | (simp only [List.length_nil, fx, nums_us] <;> omega))); conv => whnf))
    all_goals first
      | (exfalso; clear hl hs hq1 hz hR0 hRe hR1; simp only [nums_us] at *; simp_all [noItems] <;> fail)
      | skip
    all_goals rw [n1]
    all_goals rw [show IntKind.u64.wrap (ldV l (wi (base + 1)) + 1) = e from he.symm]
    have hnn : (wu (e - ldV l base)).toNat ≤ 64 := by
      unfold noItems at hno
      simp only [Bool.or_eq_false_iff, lt_f] at hno
      have := hno.2
      rw [minI_def] at this
      split at this <;> omega
    obtain ⟨q, hq1', hq2, hq3⟩ := wu_mod (e - ldV l base)
    have heq : ∀ k : Nat, k ≤ 64 → (wu (ldV l base + k) = e ↔ (k : Int) = wu (e - ldV l base)) := fun k hk => by
      obtain ⟨q', h1, h2, h3⟩ := wu_mod (ldV l base + k)
      unfold R64 at hR0 hRe
      constructor <;> intro h <;> omega
    refine loopUp [.adopt 12 1001 1] [.kill 62, .kill 63, .kill 64, .kill 65, .kill 66, .kill 67, .kill 68, .kill 69, .kill 70, .kill 71, .kill 72, .kill 73, .kill 74, .keep [138, 73, 71], .ren 138 1001] (fun k : Nat => [(12, .sl 1001 0 none), (13, .t (.int .u64 (wu (ldV l base + k))))]) (fun k => [(1001, .lst 1 (is (itN l base cap (ldV l base) k)) 1)]) (fun k => k ≤ (wu (e - ldV l base)).toNat) (fun k => (wu (e - ldV l base)).toNat - k) 0 (Nat.zero_le _) ?_
    conv => whnf
    refine ⟨⟨?_, rfl⟩, fun k hk C hC => ?_⟩
    · have e0 : wu (ldV l base + ((0 : Nat) : Int)) = ldV l base := by rw [Int.natCast_zero, Int.add_zero]; exact wrap_u64 hR0
      rw [e0]; rfl
    have hk' := heq k (by omega)
    have hil := itN_len l base cap (ldV l base) k
    conv => whnf
    repeat' (first
      | (refine brK_true rfl ?_; conv => whnf)
      | (refine brK_false rfl ?_; conv => whnf)
      | (refine brK_true (by assumption) ?_; conv => whnf)
      | (refine brK_false (by assumption) ?_; conv => whnf)
      | (refine brK_true ?_ ?_; (focus (simp only [List.length_nil, fx, n1] <;> omega)); conv => whnf)
      | (refine brK_false ?_ ?_; (focus (simp only [List.length_nil, fx, n1] <;> omega)); conv => whnf)
      | ((refine brK_of (fun h => ?_) (fun h => ?_)) <;> (have h2 := h; (try simp only [List.length_nil, fx, n1] at h2); conv => whnf))
      | (refine reqK_of ?_ ?_; (focus (first | decide | omega | assumption | (simp only [List.length_nil, fx, n1] <;> omega) | (simp [keyNew, sameKey, kEq] <;> omega))); conv => whnf)
      | (refine reqK_of ?_ ?_; rotate_left; (conv => whnf); rotate_left)
      | (refine nth_us ?_ ?_ ?_; (focus (first | omega | (simp only [List.length_nil, fx, n1] <;> omega))); (focus (first | omega | (simp only [List.length_nil, fx, n1] <;> omega))); conv => whnf)
      | (refine nth_is ?_ ?_ ?_; (focus (first | omega | (simp only [List.length_nil, fx, n1] <;> omega))); (focus (first | omega | (simp only [List.length_nil, fx, n1] <;> omega))); conv => whnf)
      | (refine nth_bs ?_ ?_ ?_; (focus (first | omega | (simp only [List.length_nil, fx, n1] <;> omega))); (focus (first | omega | (simp only [List.length_nil, fx, n1] <;> omega))); conv => whnf))
    · simp only [maxBytes, is_len, hil, List.length_cons, List.length_nil]; omega
    · have hne : (k : Int) ≠ wu (e - ldV l base) := fun h => by
        have := hk'.2 h
        contradiction
      refine loopC (hC (k + 1) (by omega) (by omega)) ?_
      have ew : wu (wu (ldV l base + (k : Int)) + 1) = wu (ldV l base + ((k + 1 : Nat) : Int)) := by
        obtain ⟨q1, h1, h2, h3⟩ := wu_mod (ldV l base + (k : Int))
        obtain ⟨q2, h4, h5, h6⟩ := wu_mod (wu (ldV l base + (k : Int)) + 1)
        obtain ⟨q3, h7, h8, h9⟩ := wu_mod (ldV l base + ((k + 1 : Nat) : Int))
        omega
      unfold wu at ew
      rw [ew]
      simp only [itN, nums_us, sub_is, ← is_snoc]
      rfl
    · have hke : (k : Int) = wu (e - ldV l base) := hk'.1 (by assumption)
      rw [sub_is, show (wu (e - ldV l base)).toNat = k by omega]
theorem items_n3 (xs : List T) (base cap kind pc b0 c0 b t x out : Int) (hq : (IsU xs ∧ Sz xs) ∧ I64 cap) (hk : kind = 2) (ho : out = 0) (hp : pc = 3) (ht : t ≠ wu (b - 1)) : FnOk Try.prog tgl 37 [.list 1 xs, .int .i64 base, .int .i64 cap, .agg [.int .i64 kind, .int .i64 pc, .int .i64 b0, .int .i64 c0, .int .u64 b, .int .u64 t, .int .i64 x, .int .i64 out]] (.list 1 (is (itemsE (nums xs) base cap false))) := by
  obtain ⟨⟨⟨l, rfl, hl⟩, hs⟩, hcap⟩ := hq
  rw [nums_us]
  have hq1 : IsU (us l) ∧ Sz (us l) := ⟨isU_us hl, hs⟩
  have hz := sz_ne hcap
  have n1 := nums_us l
  have hcl := cl_eq hcap
  have hR0 : R64 (ldV l base) := doV_R hl _ _
  have hR1 : R64 (ldV l (wi (base + 1))) := doV_R hl _ _
  obtain ⟨e, he⟩ : ∃ e, e = ldV l (wi (base + 1)) := ⟨_, rfl⟩
  have hRe : R64 e := by rw [he]; exact hR1
  cases hno : noItems (ldV l base) e cap with
  | true =>
    rw [show itemsE l base cap false = [] by simp [itemsE, ← he, hno]]
    refine FnOk.nilr 1 ?_
    refine fn_ok (Γ := E9) env_E9 Try.func37 low37 ?_
    conv => whnf
    repeat' (first
      | (refine brK_true rfl ?_; conv => whnf)
      | (refine brK_false rfl ?_; conv => whnf)
      | (refine brK_true (by assumption) ?_; conv => whnf)
      | (refine brK_false (by assumption) ?_; conv => whnf)
      | (refine brK_true ?_ ?_; (focus (simp only [List.length_nil, fx, nums_us] <;> omega)); conv => whnf)
      | (refine brK_false ?_ ?_; (focus (simp only [List.length_nil, fx, nums_us] <;> omega)); conv => whnf)
      | ((refine brK_of (fun h => ?_) (fun h => ?_)) <;> (have h2 := h; (try simp only [List.length_nil, fx, nums_us] at h2); conv => whnf))
      | (refine reqK_of ?_ ?_; (focus (first | decide | omega | assumption | (simp only [List.length_nil, fx, nums_us] <;> omega) | (simp [keyNew, sameKey, kEq] <;> omega))); conv => whnf)
      | (refine reqK_of ?_ ?_; rotate_left; (conv => whnf); rotate_left)
      | (refine nth_us ?_ ?_ ?_; (focus (first | omega | (simp only [List.length_nil, fx, nums_us] <;> omega))); (focus (first | omega | (simp only [List.length_nil, fx, nums_us] <;> omega))); conv => whnf)
      | (refine nth_is ?_ ?_ ?_; (focus (first | omega | (simp only [List.length_nil, fx, nums_us] <;> omega))); (focus (first | omega | (simp only [List.length_nil, fx, nums_us] <;> omega))); conv => whnf)
      | (refine nth_bs ?_ ?_ ?_; (focus (first | omega | (simp only [List.length_nil, fx, nums_us] <;> omega))); (focus (first | omega | (simp only [List.length_nil, fx, nums_us] <;> omega))); conv => whnf))
    all_goals (exfalso; clear hl hs hq1 hz hR0 hRe hR1; simp only [nums_us] at *; simp_all [noItems] <;> fail)
  | false =>
    rw [show itemsE l base cap false = itN l base cap (ldV l base) (wu (e - ldV l base)).toNat by simp [itemsE, ← he, hno]]
    refine fn_ok (Γ := E9) env_E9 Try.func37 low37 ?_
    conv => whnf
    repeat' (first
      | (refine brK_true rfl ?_; conv => whnf)
      | (refine brK_false rfl ?_; conv => whnf)
      | (refine brK_true (by assumption) ?_; conv => whnf)
      | (refine brK_false (by assumption) ?_; conv => whnf)
      | (refine brK_true ?_ ?_; (focus (simp only [List.length_nil, fx, nums_us] <;> omega)); conv => whnf)
      | (refine brK_false ?_ ?_; (focus (simp only [List.length_nil, fx, nums_us] <;> omega)); conv => whnf)
      | ((refine brK_of (fun h => ?_) (fun h => ?_)) <;> (have h2 := h; (try simp only [List.length_nil, fx, nums_us] at h2); conv => whnf))
      | (refine reqK_of ?_ ?_; (focus (first | decide | omega | assumption | (simp only [List.length_nil, fx, nums_us] <;> omega) | (simp [keyNew, sameKey, kEq] <;> omega))); conv => whnf)
      | (refine reqK_of ?_ ?_; rotate_left; (conv => whnf); rotate_left)
      | (refine nth_us ?_ ?_ ?_; (focus (first | omega | (simp only [List.length_nil, fx, nums_us] <;> omega))); (focus (first | omega | (simp only [List.length_nil, fx, nums_us] <;> omega))); conv => whnf)
      | (refine nth_is ?_ ?_ ?_; (focus (first | omega | (simp only [List.length_nil, fx, nums_us] <;> omega))); (focus (first | omega | (simp only [List.length_nil, fx, nums_us] <;> omega))); conv => whnf)
      | (refine nth_bs ?_ ?_ ?_; (focus (first | omega | (simp only [List.length_nil, fx, nums_us] <;> omega))); (focus (first | omega | (simp only [List.length_nil, fx, nums_us] <;> omega))); conv => whnf))
    all_goals first
      | (exfalso; clear hl hs hq1 hz hR0 hRe hR1; simp only [nums_us] at *; simp_all [noItems] <;> fail)
      | skip
    all_goals rw [n1]
    all_goals rw [← he]
    have hnn : (wu (e - ldV l base)).toNat ≤ 64 := by
      unfold noItems at hno
      simp only [Bool.or_eq_false_iff, lt_f] at hno
      have := hno.2
      rw [minI_def] at this
      split at this <;> omega
    obtain ⟨q, hq1', hq2, hq3⟩ := wu_mod (e - ldV l base)
    have heq : ∀ k : Nat, k ≤ 64 → (wu (ldV l base + k) = e ↔ (k : Int) = wu (e - ldV l base)) := fun k hk => by
      obtain ⟨q', h1, h2, h3⟩ := wu_mod (ldV l base + k)
      unfold R64 at hR0 hRe
      constructor <;> intro h <;> omega
    refine loopUp [.adopt 12 1001 1] [.kill 62, .kill 63, .kill 64, .kill 65, .kill 66, .kill 67, .kill 68, .kill 69, .kill 70, .kill 71, .kill 72, .kill 73, .kill 74, .keep [138, 73, 71], .ren 138 1001] (fun k : Nat => [(12, .sl 1001 0 none), (13, .t (.int .u64 (wu (ldV l base + k))))]) (fun k => [(1001, .lst 1 (is (itN l base cap (ldV l base) k)) 1)]) (fun k => k ≤ (wu (e - ldV l base)).toNat) (fun k => (wu (e - ldV l base)).toNat - k) 0 (Nat.zero_le _) ?_
    conv => whnf
    refine ⟨⟨?_, rfl⟩, fun k hk C hC => ?_⟩
    · have e0 : wu (ldV l base + ((0 : Nat) : Int)) = ldV l base := by rw [Int.natCast_zero, Int.add_zero]; exact wrap_u64 hR0
      rw [e0]; rfl
    have hk' := heq k (by omega)
    have hil := itN_len l base cap (ldV l base) k
    conv => whnf
    repeat' (first
      | (refine brK_true rfl ?_; conv => whnf)
      | (refine brK_false rfl ?_; conv => whnf)
      | (refine brK_true (by assumption) ?_; conv => whnf)
      | (refine brK_false (by assumption) ?_; conv => whnf)
      | (refine brK_true ?_ ?_; (focus (simp only [List.length_nil, fx, n1] <;> omega)); conv => whnf)
      | (refine brK_false ?_ ?_; (focus (simp only [List.length_nil, fx, n1] <;> omega)); conv => whnf)
      | ((refine brK_of (fun h => ?_) (fun h => ?_)) <;> (have h2 := h; (try simp only [List.length_nil, fx, n1] at h2); conv => whnf))
      | (refine reqK_of ?_ ?_; (focus (first | decide | omega | assumption | (simp only [List.length_nil, fx, n1] <;> omega) | (simp [keyNew, sameKey, kEq] <;> omega))); conv => whnf)
      | (refine reqK_of ?_ ?_; rotate_left; (conv => whnf); rotate_left)
      | (refine nth_us ?_ ?_ ?_; (focus (first | omega | (simp only [List.length_nil, fx, n1] <;> omega))); (focus (first | omega | (simp only [List.length_nil, fx, n1] <;> omega))); conv => whnf)
      | (refine nth_is ?_ ?_ ?_; (focus (first | omega | (simp only [List.length_nil, fx, n1] <;> omega))); (focus (first | omega | (simp only [List.length_nil, fx, n1] <;> omega))); conv => whnf)
      | (refine nth_bs ?_ ?_ ?_; (focus (first | omega | (simp only [List.length_nil, fx, n1] <;> omega))); (focus (first | omega | (simp only [List.length_nil, fx, n1] <;> omega))); conv => whnf))
    · simp only [maxBytes, is_len, hil, List.length_cons, List.length_nil]; omega
    · have hne : (k : Int) ≠ wu (e - ldV l base) := fun h => by
        have := hk'.2 h
        contradiction
      refine loopC (hC (k + 1) (by omega) (by omega)) ?_
      have ew : wu (wu (ldV l base + (k : Int)) + 1) = wu (ldV l base + ((k + 1 : Nat) : Int)) := by
        obtain ⟨q1, h1, h2, h3⟩ := wu_mod (ldV l base + (k : Int))
        obtain ⟨q2, h4, h5, h6⟩ := wu_mod (wu (ldV l base + (k : Int)) + 1)
        obtain ⟨q3, h7, h8, h9⟩ := wu_mod (ldV l base + ((k + 1 : Nat) : Int))
        omega
      unfold wu at ew
      rw [ew]
      simp only [itN, nums_us, sub_is, ← is_snoc]
      rfl
    · have hke : (k : Int) = wu (e - ldV l base) := hk'.1 (by assumption)
      rw [sub_is, show (wu (e - ldV l base)).toNat = k by omega]
theorem items_nc (xs : List T) (base cap kind pc b0 c0 b t x out : Int) (hq : (IsU xs ∧ Sz xs) ∧ I64 cap) (hk : kind = 2) (ho : out = 0) (hp2 : pc ≠ 2) (hp4 : pc ≠ 4) (hp5 : pc ≠ 5) (hp3 : pc ≠ 3) : FnOk Try.prog tgl 37 [.list 1 xs, .int .i64 base, .int .i64 cap, .agg [.int .i64 kind, .int .i64 pc, .int .i64 b0, .int .i64 c0, .int .u64 b, .int .u64 t, .int .i64 x, .int .i64 out]] (.list 1 (is (itemsE (nums xs) base cap false))) := by
  obtain ⟨⟨⟨l, rfl, hl⟩, hs⟩, hcap⟩ := hq
  rw [nums_us]
  have hq1 : IsU (us l) ∧ Sz (us l) := ⟨isU_us hl, hs⟩
  have hz := sz_ne hcap
  have n1 := nums_us l
  have hcl := cl_eq hcap
  have hR0 : R64 (ldV l base) := doV_R hl _ _
  have hR1 : R64 (ldV l (wi (base + 1))) := doV_R hl _ _
  obtain ⟨e, he⟩ : ∃ e, e = ldV l (wi (base + 1)) := ⟨_, rfl⟩
  have hRe : R64 e := by rw [he]; exact hR1
  cases hno : noItems (ldV l base) e cap with
  | true =>
    rw [show itemsE l base cap false = [] by simp [itemsE, ← he, hno]]
    refine FnOk.nilr 1 ?_
    refine fn_ok (Γ := E9) env_E9 Try.func37 low37 ?_
    conv => whnf
    repeat' (first
      | (refine brK_true rfl ?_; conv => whnf)
      | (refine brK_false rfl ?_; conv => whnf)
      | (refine brK_true (by assumption) ?_; conv => whnf)
      | (refine brK_false (by assumption) ?_; conv => whnf)
      | (refine brK_true ?_ ?_; (focus (simp only [List.length_nil, fx, nums_us] <;> omega)); conv => whnf)
      | (refine brK_false ?_ ?_; (focus (simp only [List.length_nil, fx, nums_us] <;> omega)); conv => whnf)
      | ((refine brK_of (fun h => ?_) (fun h => ?_)) <;> (have h2 := h; (try simp only [List.length_nil, fx, nums_us] at h2); conv => whnf))
      | (refine reqK_of ?_ ?_; (focus (first | decide | omega | assumption | (simp only [List.length_nil, fx, nums_us] <;> omega) | (simp [keyNew, sameKey, kEq] <;> omega))); conv => whnf)
      | (refine reqK_of ?_ ?_; rotate_left; (conv => whnf); rotate_left)
      | (refine nth_us ?_ ?_ ?_; (focus (first | omega | (simp only [List.length_nil, fx, nums_us] <;> omega))); (focus (first | omega | (simp only [List.length_nil, fx, nums_us] <;> omega))); conv => whnf)
      | (refine nth_is ?_ ?_ ?_; (focus (first | omega | (simp only [List.length_nil, fx, nums_us] <;> omega))); (focus (first | omega | (simp only [List.length_nil, fx, nums_us] <;> omega))); conv => whnf)
      | (refine nth_bs ?_ ?_ ?_; (focus (first | omega | (simp only [List.length_nil, fx, nums_us] <;> omega))); (focus (first | omega | (simp only [List.length_nil, fx, nums_us] <;> omega))); conv => whnf))
    all_goals (exfalso; clear hl hs hq1 hz hR0 hRe hR1; simp only [nums_us] at *; simp_all [noItems] <;> fail)
  | false =>
    rw [show itemsE l base cap false = itN l base cap (ldV l base) (wu (e - ldV l base)).toNat by simp [itemsE, ← he, hno]]
    refine fn_ok (Γ := E9) env_E9 Try.func37 low37 ?_
    conv => whnf
    repeat' (first
      | (refine brK_true rfl ?_; conv => whnf)
      | (refine brK_false rfl ?_; conv => whnf)
      | (refine brK_true (by assumption) ?_; conv => whnf)
      | (refine brK_false (by assumption) ?_; conv => whnf)
      | (refine brK_true ?_ ?_; (focus (simp only [List.length_nil, fx, nums_us] <;> omega)); conv => whnf)
      | (refine brK_false ?_ ?_; (focus (simp only [List.length_nil, fx, nums_us] <;> omega)); conv => whnf)
      | ((refine brK_of (fun h => ?_) (fun h => ?_)) <;> (have h2 := h; (try simp only [List.length_nil, fx, nums_us] at h2); conv => whnf))
      | (refine reqK_of ?_ ?_; (focus (first | decide | omega | assumption | (simp only [List.length_nil, fx, nums_us] <;> omega) | (simp [keyNew, sameKey, kEq] <;> omega))); conv => whnf)
      | (refine reqK_of ?_ ?_; rotate_left; (conv => whnf); rotate_left)
      | (refine nth_us ?_ ?_ ?_; (focus (first | omega | (simp only [List.length_nil, fx, nums_us] <;> omega))); (focus (first | omega | (simp only [List.length_nil, fx, nums_us] <;> omega))); conv => whnf)
      | (refine nth_is ?_ ?_ ?_; (focus (first | omega | (simp only [List.length_nil, fx, nums_us] <;> omega))); (focus (first | omega | (simp only [List.length_nil, fx, nums_us] <;> omega))); conv => whnf)
      | (refine nth_bs ?_ ?_ ?_; (focus (first | omega | (simp only [List.length_nil, fx, nums_us] <;> omega))); (focus (first | omega | (simp only [List.length_nil, fx, nums_us] <;> omega))); conv => whnf))
    all_goals first
      | (exfalso; clear hl hs hq1 hz hR0 hRe hR1; simp only [nums_us] at *; simp_all [noItems] <;> fail)
      | skip
    all_goals rw [n1]
    all_goals rw [← he]
    have hnn : (wu (e - ldV l base)).toNat ≤ 64 := by
      unfold noItems at hno
      simp only [Bool.or_eq_false_iff, lt_f] at hno
      have := hno.2
      rw [minI_def] at this
      split at this <;> omega
    obtain ⟨q, hq1', hq2, hq3⟩ := wu_mod (e - ldV l base)
    have heq : ∀ k : Nat, k ≤ 64 → (wu (ldV l base + k) = e ↔ (k : Int) = wu (e - ldV l base)) := fun k hk => by
      obtain ⟨q', h1, h2, h3⟩ := wu_mod (ldV l base + k)
      unfold R64 at hR0 hRe
      constructor <;> intro h <;> omega
    refine loopUp [.adopt 12 1001 1] [.kill 62, .kill 63, .kill 64, .kill 65, .kill 66, .kill 67, .kill 68, .kill 69, .kill 70, .kill 71, .kill 72, .kill 73, .kill 74, .keep [138, 73, 71], .ren 138 1001] (fun k : Nat => [(12, .sl 1001 0 none), (13, .t (.int .u64 (wu (ldV l base + k))))]) (fun k => [(1001, .lst 1 (is (itN l base cap (ldV l base) k)) 1)]) (fun k => k ≤ (wu (e - ldV l base)).toNat) (fun k => (wu (e - ldV l base)).toNat - k) 0 (Nat.zero_le _) ?_
    conv => whnf
    refine ⟨⟨?_, rfl⟩, fun k hk C hC => ?_⟩
    · have e0 : wu (ldV l base + ((0 : Nat) : Int)) = ldV l base := by rw [Int.natCast_zero, Int.add_zero]; exact wrap_u64 hR0
      rw [e0]; rfl
    have hk' := heq k (by omega)
    have hil := itN_len l base cap (ldV l base) k
    conv => whnf
    repeat' (first
      | (refine brK_true rfl ?_; conv => whnf)
      | (refine brK_false rfl ?_; conv => whnf)
      | (refine brK_true (by assumption) ?_; conv => whnf)
      | (refine brK_false (by assumption) ?_; conv => whnf)
      | (refine brK_true ?_ ?_; (focus (simp only [List.length_nil, fx, n1] <;> omega)); conv => whnf)
      | (refine brK_false ?_ ?_; (focus (simp only [List.length_nil, fx, n1] <;> omega)); conv => whnf)
      | ((refine brK_of (fun h => ?_) (fun h => ?_)) <;> (have h2 := h; (try simp only [List.length_nil, fx, n1] at h2); conv => whnf))
      | (refine reqK_of ?_ ?_; (focus (first | decide | omega | assumption | (simp only [List.length_nil, fx, n1] <;> omega) | (simp [keyNew, sameKey, kEq] <;> omega))); conv => whnf)
      | (refine reqK_of ?_ ?_; rotate_left; (conv => whnf); rotate_left)
      | (refine nth_us ?_ ?_ ?_; (focus (first | omega | (simp only [List.length_nil, fx, n1] <;> omega))); (focus (first | omega | (simp only [List.length_nil, fx, n1] <;> omega))); conv => whnf)
      | (refine nth_is ?_ ?_ ?_; (focus (first | omega | (simp only [List.length_nil, fx, n1] <;> omega))); (focus (first | omega | (simp only [List.length_nil, fx, n1] <;> omega))); conv => whnf)
      | (refine nth_bs ?_ ?_ ?_; (focus (first | omega | (simp only [List.length_nil, fx, n1] <;> omega))); (focus (first | omega | (simp only [List.length_nil, fx, n1] <;> omega))); conv => whnf))
    · simp only [maxBytes, is_len, hil, List.length_cons, List.length_nil]; omega
    · have hne : (k : Int) ≠ wu (e - ldV l base) := fun h => by
        have := hk'.2 h
        contradiction
      refine loopC (hC (k + 1) (by omega) (by omega)) ?_
      have ew : wu (wu (ldV l base + (k : Int)) + 1) = wu (ldV l base + ((k + 1 : Nat) : Int)) := by
        obtain ⟨q1, h1, h2, h3⟩ := wu_mod (ldV l base + (k : Int))
        obtain ⟨q2, h4, h5, h6⟩ := wu_mod (wu (ldV l base + (k : Int)) + 1)
        obtain ⟨q3, h7, h8, h9⟩ := wu_mod (ldV l base + ((k + 1 : Nat) : Int))
        omega
      unfold wu at ew
      rw [ew]
      simp only [itN, nums_us, sub_is, ← is_snoc]
      rfl
    · have hke : (k : Int) = wu (e - ldV l base) := hk'.1 (by assumption)
      rw [sub_is, show (wu (e - ldV l base)).toNat = k by omega]
theorem items_no (xs : List T) (base cap kind pc b0 c0 b t x out : Int) (hq : (IsU xs ∧ Sz xs) ∧ I64 cap) (hk : kind = 2) (ho : out ≠ 0) : FnOk Try.prog tgl 37 [.list 1 xs, .int .i64 base, .int .i64 cap, .agg [.int .i64 kind, .int .i64 pc, .int .i64 b0, .int .i64 c0, .int .u64 b, .int .u64 t, .int .i64 x, .int .i64 out]] (.list 1 (is (itemsE (nums xs) base cap false))) := by
  obtain ⟨⟨⟨l, rfl, hl⟩, hs⟩, hcap⟩ := hq
  rw [nums_us]
  have hq1 : IsU (us l) ∧ Sz (us l) := ⟨isU_us hl, hs⟩
  have hz := sz_ne hcap
  have n1 := nums_us l
  have hcl := cl_eq hcap
  have hR0 : R64 (ldV l base) := doV_R hl _ _
  have hR1 : R64 (ldV l (wi (base + 1))) := doV_R hl _ _
  obtain ⟨e, he⟩ : ∃ e, e = ldV l (wi (base + 1)) := ⟨_, rfl⟩
  have hRe : R64 e := by rw [he]; exact hR1
  cases hno : noItems (ldV l base) e cap with
  | true =>
    rw [show itemsE l base cap false = [] by simp [itemsE, ← he, hno]]
    refine FnOk.nilr 1 ?_
    refine fn_ok (Γ := E9) env_E9 Try.func37 low37 ?_
    conv => whnf
    repeat' (first
      | (refine brK_true rfl ?_; conv => whnf)
      | (refine brK_false rfl ?_; conv => whnf)
      | (refine brK_true (by assumption) ?_; conv => whnf)
      | (refine brK_false (by assumption) ?_; conv => whnf)
      | (refine brK_true ?_ ?_; (focus (simp only [List.length_nil, fx, nums_us] <;> omega)); conv => whnf)
      | (refine brK_false ?_ ?_; (focus (simp only [List.length_nil, fx, nums_us] <;> omega)); conv => whnf)
      | ((refine brK_of (fun h => ?_) (fun h => ?_)) <;> (have h2 := h; (try simp only [List.length_nil, fx, nums_us] at h2); conv => whnf))
      | (refine reqK_of ?_ ?_; (focus (first | decide | omega | assumption | (simp only [List.length_nil, fx, nums_us] <;> omega) | (simp [keyNew, sameKey, kEq] <;> omega))); conv => whnf)
      | (refine reqK_of ?_ ?_; rotate_left; (conv => whnf); rotate_left)
      | (refine nth_us ?_ ?_ ?_; (focus (first | omega | (simp only [List.length_nil, fx, nums_us] <;> omega))); (focus (first | omega | (simp only [List.length_nil, fx, nums_us] <;> omega))); conv => whnf)
      | (refine nth_is ?_ ?_ ?_; (focus (first | omega | (simp only [List.length_nil, fx, nums_us] <;> omega))); (focus (first | omega | (simp only [List.length_nil, fx, nums_us] <;> omega))); conv => whnf)
      | (refine nth_bs ?_ ?_ ?_; (focus (first | omega | (simp only [List.length_nil, fx, nums_us] <;> omega))); (focus (first | omega | (simp only [List.length_nil, fx, nums_us] <;> omega))); conv => whnf))
    all_goals (exfalso; clear hl hs hq1 hz hR0 hRe hR1; simp only [nums_us] at *; simp_all [noItems] <;> fail)
  | false =>
    rw [show itemsE l base cap false = itN l base cap (ldV l base) (wu (e - ldV l base)).toNat by simp [itemsE, ← he, hno]]
    refine fn_ok (Γ := E9) env_E9 Try.func37 low37 ?_
    conv => whnf
    repeat' (first
      | (refine brK_true rfl ?_; conv => whnf)
      | (refine brK_false rfl ?_; conv => whnf)
      | (refine brK_true (by assumption) ?_; conv => whnf)
      | (refine brK_false (by assumption) ?_; conv => whnf)
      | (refine brK_true ?_ ?_; (focus (simp only [List.length_nil, fx, nums_us] <;> omega)); conv => whnf)
      | (refine brK_false ?_ ?_; (focus (simp only [List.length_nil, fx, nums_us] <;> omega)); conv => whnf)
      | ((refine brK_of (fun h => ?_) (fun h => ?_)) <;> (have h2 := h; (try simp only [List.length_nil, fx, nums_us] at h2); conv => whnf))
      | (refine reqK_of ?_ ?_; (focus (first | decide | omega | assumption | (simp only [List.length_nil, fx, nums_us] <;> omega) | (simp [keyNew, sameKey, kEq] <;> omega))); conv => whnf)
      | (refine reqK_of ?_ ?_; rotate_left; (conv => whnf); rotate_left)
      | (refine nth_us ?_ ?_ ?_; (focus (first | omega | (simp only [List.length_nil, fx, nums_us] <;> omega))); (focus (first | omega | (simp only [List.length_nil, fx, nums_us] <;> omega))); conv => whnf)
      | (refine nth_is ?_ ?_ ?_; (focus (first | omega | (simp only [List.length_nil, fx, nums_us] <;> omega))); (focus (first | omega | (simp only [List.length_nil, fx, nums_us] <;> omega))); conv => whnf)
      | (refine nth_bs ?_ ?_ ?_; (focus (first | omega | (simp only [List.length_nil, fx, nums_us] <;> omega))); (focus (first | omega | (simp only [List.length_nil, fx, nums_us] <;> omega))); conv => whnf))
    all_goals first
      | (exfalso; clear hl hs hq1 hz hR0 hRe hR1; simp only [nums_us] at *; simp_all [noItems] <;> fail)
      | skip
    all_goals rw [n1]
    all_goals rw [← he]
    have hnn : (wu (e - ldV l base)).toNat ≤ 64 := by
      unfold noItems at hno
      simp only [Bool.or_eq_false_iff, lt_f] at hno
      have := hno.2
      rw [minI_def] at this
      split at this <;> omega
    obtain ⟨q, hq1', hq2, hq3⟩ := wu_mod (e - ldV l base)
    have heq : ∀ k : Nat, k ≤ 64 → (wu (ldV l base + k) = e ↔ (k : Int) = wu (e - ldV l base)) := fun k hk => by
      obtain ⟨q', h1, h2, h3⟩ := wu_mod (ldV l base + k)
      unfold R64 at hR0 hRe
      constructor <;> intro h <;> omega
    refine loopUp [.adopt 12 1001 1] [.kill 62, .kill 63, .kill 64, .kill 65, .kill 66, .kill 67, .kill 68, .kill 69, .kill 70, .kill 71, .kill 72, .kill 73, .kill 74, .keep [138, 73, 71], .ren 138 1001] (fun k : Nat => [(12, .sl 1001 0 none), (13, .t (.int .u64 (wu (ldV l base + k))))]) (fun k => [(1001, .lst 1 (is (itN l base cap (ldV l base) k)) 1)]) (fun k => k ≤ (wu (e - ldV l base)).toNat) (fun k => (wu (e - ldV l base)).toNat - k) 0 (Nat.zero_le _) ?_
    conv => whnf
    refine ⟨⟨?_, rfl⟩, fun k hk C hC => ?_⟩
    · have e0 : wu (ldV l base + ((0 : Nat) : Int)) = ldV l base := by rw [Int.natCast_zero, Int.add_zero]; exact wrap_u64 hR0
      rw [e0]; rfl
    have hk' := heq k (by omega)
    have hil := itN_len l base cap (ldV l base) k
    conv => whnf
    repeat' (first
      | (refine brK_true rfl ?_; conv => whnf)
      | (refine brK_false rfl ?_; conv => whnf)
      | (refine brK_true (by assumption) ?_; conv => whnf)
      | (refine brK_false (by assumption) ?_; conv => whnf)
      | (refine brK_true ?_ ?_; (focus (simp only [List.length_nil, fx, n1] <;> omega)); conv => whnf)
      | (refine brK_false ?_ ?_; (focus (simp only [List.length_nil, fx, n1] <;> omega)); conv => whnf)
      | ((refine brK_of (fun h => ?_) (fun h => ?_)) <;> (have h2 := h; (try simp only [List.length_nil, fx, n1] at h2); conv => whnf))
      | (refine reqK_of ?_ ?_; (focus (first | decide | omega | assumption | (simp only [List.length_nil, fx, n1] <;> omega) | (simp [keyNew, sameKey, kEq] <;> omega))); conv => whnf)
      | (refine reqK_of ?_ ?_; rotate_left; (conv => whnf); rotate_left)
      | (refine nth_us ?_ ?_ ?_; (focus (first | omega | (simp only [List.length_nil, fx, n1] <;> omega))); (focus (first | omega | (simp only [List.length_nil, fx, n1] <;> omega))); conv => whnf)
      | (refine nth_is ?_ ?_ ?_; (focus (first | omega | (simp only [List.length_nil, fx, n1] <;> omega))); (focus (first | omega | (simp only [List.length_nil, fx, n1] <;> omega))); conv => whnf)
      | (refine nth_bs ?_ ?_ ?_; (focus (first | omega | (simp only [List.length_nil, fx, n1] <;> omega))); (focus (first | omega | (simp only [List.length_nil, fx, n1] <;> omega))); conv => whnf))
    · simp only [maxBytes, is_len, hil, List.length_cons, List.length_nil]; omega
    · have hne : (k : Int) ≠ wu (e - ldV l base) := fun h => by
        have := hk'.2 h
        contradiction
      refine loopC (hC (k + 1) (by omega) (by omega)) ?_
      have ew : wu (wu (ldV l base + (k : Int)) + 1) = wu (ldV l base + ((k + 1 : Nat) : Int)) := by
        obtain ⟨q1, h1, h2, h3⟩ := wu_mod (ldV l base + (k : Int))
        obtain ⟨q2, h4, h5, h6⟩ := wu_mod (wu (ldV l base + (k : Int)) + 1)
        obtain ⟨q3, h7, h8, h9⟩ := wu_mod (ldV l base + ((k + 1 : Nat) : Int))
        omega
      unfold wu at ew
      rw [ew]
      simp only [itN, nums_us, sub_is, ← is_snoc]
      rfl
    · have hke : (k : Int) = wu (e - ldV l base) := hk'.1 (by assumption)
      rw [sub_is, show (wu (e - ldV l base)).toNat = k by omega]
theorem items_nk (xs : List T) (base cap kind pc b0 c0 b t x out : Int) (hq : (IsU xs ∧ Sz xs) ∧ I64 cap) (hk : kind ≠ 2) : FnOk Try.prog tgl 37 [.list 1 xs, .int .i64 base, .int .i64 cap, .agg [.int .i64 kind, .int .i64 pc, .int .i64 b0, .int .i64 c0, .int .u64 b, .int .u64 t, .int .i64 x, .int .i64 out]] (.list 1 (is (itemsE (nums xs) base cap false))) := by
  obtain ⟨⟨⟨l, rfl, hl⟩, hs⟩, hcap⟩ := hq
  rw [nums_us]
  have hq1 : IsU (us l) ∧ Sz (us l) := ⟨isU_us hl, hs⟩
  have hz := sz_ne hcap
  have n1 := nums_us l
  have hcl := cl_eq hcap
  have hR0 : R64 (ldV l base) := doV_R hl _ _
  have hR1 : R64 (ldV l (wi (base + 1))) := doV_R hl _ _
  obtain ⟨e, he⟩ : ∃ e, e = ldV l (wi (base + 1)) := ⟨_, rfl⟩
  have hRe : R64 e := by rw [he]; exact hR1
  cases hno : noItems (ldV l base) e cap with
  | true =>
    rw [show itemsE l base cap false = [] by simp [itemsE, ← he, hno]]
    refine FnOk.nilr 1 ?_
    refine fn_ok (Γ := E9) env_E9 Try.func37 low37 ?_
    conv => whnf
    repeat' (first
      | (refine brK_true rfl ?_; conv => whnf)
      | (refine brK_false rfl ?_; conv => whnf)
      | (refine brK_true (by assumption) ?_; conv => whnf)
      | (refine brK_false (by assumption) ?_; conv => whnf)
      | (refine brK_true ?_ ?_; (focus (simp only [List.length_nil, fx, nums_us] <;> omega)); conv => whnf)
      | (refine brK_false ?_ ?_; (focus (simp only [List.length_nil, fx, nums_us] <;> omega)); conv => whnf)
      | ((refine brK_of (fun h => ?_) (fun h => ?_)) <;> (have h2 := h; (try simp only [List.length_nil, fx, nums_us] at h2); conv => whnf))
      | (refine reqK_of ?_ ?_; (focus (first | decide | omega | assumption | (simp only [List.length_nil, fx, nums_us] <;> omega) | (simp [keyNew, sameKey, kEq] <;> omega))); conv => whnf)
      | (refine reqK_of ?_ ?_; rotate_left; (conv => whnf); rotate_left)
      | (refine nth_us ?_ ?_ ?_; (focus (first | omega | (simp only [List.length_nil, fx, nums_us] <;> omega))); (focus (first | omega | (simp only [List.length_nil, fx, nums_us] <;> omega))); conv => whnf)
      | (refine nth_is ?_ ?_ ?_; (focus (first | omega | (simp only [List.length_nil, fx, nums_us] <;> omega))); (focus (first | omega | (simp only [List.length_nil, fx, nums_us] <;> omega))); conv => whnf)
      | (refine nth_bs ?_ ?_ ?_; (focus (first | omega | (simp only [List.length_nil, fx, nums_us] <;> omega))); (focus (first | omega | (simp only [List.length_nil, fx, nums_us] <;> omega))); conv => whnf))
    all_goals (exfalso; clear hl hs hq1 hz hR0 hRe hR1; simp only [nums_us] at *; simp_all [noItems] <;> fail)
  | false =>
    rw [show itemsE l base cap false = itN l base cap (ldV l base) (wu (e - ldV l base)).toNat by simp [itemsE, ← he, hno]]
    refine fn_ok (Γ := E9) env_E9 Try.func37 low37 ?_
    conv => whnf
    repeat' (first
      | (refine brK_true rfl ?_; conv => whnf)
      | (refine brK_false rfl ?_; conv => whnf)
      | (refine brK_true (by assumption) ?_; conv => whnf)
      | (refine brK_false (by assumption) ?_; conv => whnf)
      | (refine brK_true ?_ ?_; (focus (simp only [List.length_nil, fx, nums_us] <;> omega)); conv => whnf)
      | (refine brK_false ?_ ?_; (focus (simp only [List.length_nil, fx, nums_us] <;> omega)); conv => whnf)
      | ((refine brK_of (fun h => ?_) (fun h => ?_)) <;> (have h2 := h; (try simp only [List.length_nil, fx, nums_us] at h2); conv => whnf))
      | (refine reqK_of ?_ ?_; (focus (first | decide | omega | assumption | (simp only [List.length_nil, fx, nums_us] <;> omega) | (simp [keyNew, sameKey, kEq] <;> omega))); conv => whnf)
      | (refine reqK_of ?_ ?_; rotate_left; (conv => whnf); rotate_left)
      | (refine nth_us ?_ ?_ ?_; (focus (first | omega | (simp only [List.length_nil, fx, nums_us] <;> omega))); (focus (first | omega | (simp only [List.length_nil, fx, nums_us] <;> omega))); conv => whnf)
      | (refine nth_is ?_ ?_ ?_; (focus (first | omega | (simp only [List.length_nil, fx, nums_us] <;> omega))); (focus (first | omega | (simp only [List.length_nil, fx, nums_us] <;> omega))); conv => whnf)
      | (refine nth_bs ?_ ?_ ?_; (focus (first | omega | (simp only [List.length_nil, fx, nums_us] <;> omega))); (focus (first | omega | (simp only [List.length_nil, fx, nums_us] <;> omega))); conv => whnf))
    all_goals first
      | (exfalso; clear hl hs hq1 hz hR0 hRe hR1; simp only [nums_us] at *; simp_all [noItems] <;> fail)
      | skip
    all_goals rw [n1]
    all_goals rw [← he]
    have hnn : (wu (e - ldV l base)).toNat ≤ 64 := by
      unfold noItems at hno
      simp only [Bool.or_eq_false_iff, lt_f] at hno
      have := hno.2
      rw [minI_def] at this
      split at this <;> omega
    obtain ⟨q, hq1', hq2, hq3⟩ := wu_mod (e - ldV l base)
    have heq : ∀ k : Nat, k ≤ 64 → (wu (ldV l base + k) = e ↔ (k : Int) = wu (e - ldV l base)) := fun k hk => by
      obtain ⟨q', h1, h2, h3⟩ := wu_mod (ldV l base + k)
      unfold R64 at hR0 hRe
      constructor <;> intro h <;> omega
    refine loopUp [.adopt 12 1001 1] [.kill 62, .kill 63, .kill 64, .kill 65, .kill 66, .kill 67, .kill 68, .kill 69, .kill 70, .kill 71, .kill 72, .kill 73, .kill 74, .keep [138, 73, 71], .ren 138 1001] (fun k : Nat => [(12, .sl 1001 0 none), (13, .t (.int .u64 (wu (ldV l base + k))))]) (fun k => [(1001, .lst 1 (is (itN l base cap (ldV l base) k)) 1)]) (fun k => k ≤ (wu (e - ldV l base)).toNat) (fun k => (wu (e - ldV l base)).toNat - k) 0 (Nat.zero_le _) ?_
    conv => whnf
    refine ⟨⟨?_, rfl⟩, fun k hk C hC => ?_⟩
    · have e0 : wu (ldV l base + ((0 : Nat) : Int)) = ldV l base := by rw [Int.natCast_zero, Int.add_zero]; exact wrap_u64 hR0
      rw [e0]; rfl
    have hk' := heq k (by omega)
    have hil := itN_len l base cap (ldV l base) k
    conv => whnf
    repeat' (first
      | (refine brK_true rfl ?_; conv => whnf)
      | (refine brK_false rfl ?_; conv => whnf)
      | (refine brK_true (by assumption) ?_; conv => whnf)
      | (refine brK_false (by assumption) ?_; conv => whnf)
      | (refine brK_true ?_ ?_; (focus (simp only [List.length_nil, fx, n1] <;> omega)); conv => whnf)
      | (refine brK_false ?_ ?_; (focus (simp only [List.length_nil, fx, n1] <;> omega)); conv => whnf)
      | ((refine brK_of (fun h => ?_) (fun h => ?_)) <;> (have h2 := h; (try simp only [List.length_nil, fx, n1] at h2); conv => whnf))
      | (refine reqK_of ?_ ?_; (focus (first | decide | omega | assumption | (simp only [List.length_nil, fx, n1] <;> omega) | (simp [keyNew, sameKey, kEq] <;> omega))); conv => whnf)
      | (refine reqK_of ?_ ?_; rotate_left; (conv => whnf); rotate_left)
      | (refine nth_us ?_ ?_ ?_; (focus (first | omega | (simp only [List.length_nil, fx, n1] <;> omega))); (focus (first | omega | (simp only [List.length_nil, fx, n1] <;> omega))); conv => whnf)
      | (refine nth_is ?_ ?_ ?_; (focus (first | omega | (simp only [List.length_nil, fx, n1] <;> omega))); (focus (first | omega | (simp only [List.length_nil, fx, n1] <;> omega))); conv => whnf)
      | (refine nth_bs ?_ ?_ ?_; (focus (first | omega | (simp only [List.length_nil, fx, n1] <;> omega))); (focus (first | omega | (simp only [List.length_nil, fx, n1] <;> omega))); conv => whnf))
    · simp only [maxBytes, is_len, hil, List.length_cons, List.length_nil]; omega
    · have hne : (k : Int) ≠ wu (e - ldV l base) := fun h => by
        have := hk'.2 h
        contradiction
      refine loopC (hC (k + 1) (by omega) (by omega)) ?_
      have ew : wu (wu (ldV l base + (k : Int)) + 1) = wu (ldV l base + ((k + 1 : Nat) : Int)) := by
        obtain ⟨q1, h1, h2, h3⟩ := wu_mod (ldV l base + (k : Int))
        obtain ⟨q2, h4, h5, h6⟩ := wu_mod (wu (ldV l base + (k : Int)) + 1)
        obtain ⟨q3, h7, h8, h9⟩ := wu_mod (ldV l base + ((k + 1 : Nat) : Int))
        omega
      unfold wu at ew
      rw [ew]
      simp only [itN, nums_us, sub_is, ← is_snoc]
      rfl
    · have hke : (k : Int) = wu (e - ldV l base) := hk'.1 (by assumption)
      rw [sub_is, show (wu (e - ldV l base)).toNat = k by omega]
namespace G
theorem ok37 (xs : List T) (base cap kind pc b0 c0 b t x out : Int) (hq : (IsU xs ∧ Sz xs) ∧ I64 cap) : FnOk Try.prog tgl 37 [.list 1 xs, .int .i64 base, .int .i64 cap, .agg [.int .i64 kind, .int .i64 pc, .int .i64 b0, .int .i64 c0, .int .u64 b, .int .u64 t, .int .i64 x, .int .i64 out]] (.list 1 (is (itemsE (nums xs) base cap (popsB kind pc b t out)))) := by
  by_cases hk : kind = 2
  · by_cases ho : out = 0
    · by_cases h2 : pc = 2
      · rw [show popsB kind pc b t out = true by simp [popsB, *]]; exact items_p2 _ _ _ _ _ _ _ _ _ _ _ hq hk ho h2
      by_cases h4 : pc = 4
      · rw [show popsB kind pc b t out = true by simp [popsB, *]]; exact items_p4 _ _ _ _ _ _ _ _ _ _ _ hq hk ho h4
      by_cases h5 : pc = 5
      · rw [show popsB kind pc b t out = true by simp [popsB, *]]; exact items_p5 _ _ _ _ _ _ _ _ _ _ _ hq hk ho h5
      by_cases h3 : pc = 3
      · by_cases ht : t = wu (b - 1)
        · rw [show popsB kind pc b t out = true by simp [popsB, *]]; exact items_p3 _ _ _ _ _ _ _ _ _ _ _ hq hk ho h3 ht
        · rw [show popsB kind pc b t out = false by simp [popsB, *]]; exact items_n3 _ _ _ _ _ _ _ _ _ _ _ hq hk ho h3 ht
      rw [show popsB kind pc b t out = false by simp [popsB, *]]; exact items_nc _ _ _ _ _ _ _ _ _ _ _ hq hk ho h2 h4 h5 h3
    · rw [show popsB kind pc b t out = false by simp [popsB, *]]; exact items_no _ _ _ _ _ _ _ _ _ _ _ hq hk ho
  · rw [show popsB kind pc b t out = false by simp [popsB, *]]; exact items_nk _ _ _ _ _ _ _ _ _ _ _ hq hk
open Classical in
noncomputable def c37 : List T → Ans
  | [.list 1 xs, .int .i64 base, .int .i64 cap, .agg [.int .i64 kind, .int .i64 pc, .int .i64 b0, .int .i64 c0, .int .u64 b, .int .u64 t, .int .i64 x, .int .i64 out]] => .req ((IsU xs ∧ Sz xs) ∧ I64 cap) (.list 1 (is (itemsE (nums xs) base cap (popsB kind pc b t out))))
  | _ => .no
theorem got37 {vs : List T} {x : T} (h : Got (c37 vs) x) : FnOk Try.prog tgl 37 vs x := by
  unfold c37 at h
  split at h
  · obtain ⟨hq, e⟩ := got_req h; rw [e]; exact ok37 _ _ _ _ _ _ _ _ _ _ _ hq
  · exact (got_no h).elim
theorem nogl37 (vs : List T) (p : Prop) (d : Decidable p) (sz : Nat) (xs : List T) (h : c37 vs = @Ans.gl p d sz xs) : False := by
  unfold c37 at h
  split at h <;> cases h
theorem pk37 (vs : List T) (p : Prop) (d : Decidable p) (x : T) (h : c37 vs = @Ans.pk p d x) (hp : p) : FnOk Try.prog tgl 37 vs x := by
  unfold c37 at h
  split at h
  · cases h
  · cases h
end G
end Go.Nx
