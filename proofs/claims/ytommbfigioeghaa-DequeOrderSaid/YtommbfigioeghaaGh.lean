/-
  DEQUES: NEW CELLS; ITEMS.
-/
import Derived.Test.YtommbfigioeghaaGg
set_option linter.unusedVariables false
set_option linter.unusedSimpArgs false
set_option maxRecDepth 20000
set_option maxHeartbeats 4000000
namespace Go.Nx
open Go.RowKit Go.Proofs

theorem FnOk.nilr {P : Program} {gl : Nat → Option (List T)} {f : FuncId} {vs : List T} (sz : Nat) (h : FnOk P gl f vs .nils) : FnOk P gl f vs (.list sz []) := by
  refine ⟨h.1, fun S w args hlt hgl hsz hrel => (h.2 S w args hlt hgl hsz hrel).mono fun e w' ⟨v, he, hr, hb⟩ => ⟨v, he, nil_list sz hr, hb⟩⟩
theorem rep_us (n : Nat) : List.replicate n (T.int .u64 0) = us (List.replicate n 0) := by simp [us]
def nCells (n : Int) : Int := minI (maxI n 1) 64
def cellsL (n : Int) : List Int := ((List.replicate (2 + nCells n).toNat 0).set 0 1).set 1 1
theorem nCells_in (n : Int) : 1 ≤ nCells n ∧ nCells n ≤ 64 := by unfold nCells; rw [minI_def, maxI_def]; split <;> split <;> omega
theorem ok59 (n : Int) : FnOk Try.prog tgl 59 [.int .i64 n] (.list 1 (us (cellsL n))) := by
  refine fn_ok (Γ := E8) env_E8 Try.func59 low59 ?_
  have hn := nCells_in n
  unfold nCells at hn
  have hw : IntKind.i64.wrap (2 + minI (maxI n 1) 64) = 2 + minI (maxI n 1) 64 := wrap_i64 ⟨by omega, by omega⟩
  conv => whnf
  repeat' (first
    | (refine brK_true rfl ?_; conv => whnf)
    | (refine brK_false rfl ?_; conv => whnf)
    | (refine brK_true (by assumption) ?_; conv => whnf)
    | (refine brK_false (by assumption) ?_; conv => whnf)
    | (refine brK_true ?_ ?_; (focus (simp only [List.length_nil, fx, hw, List.length_replicate, List.length_set, natadd0] <;> omega)); conv => whnf)
    | (refine brK_false ?_ ?_; (focus (simp only [List.length_nil, fx, hw, List.length_replicate, List.length_set, natadd0] <;> omega)); conv => whnf)
    | ((refine brK_of (fun h => ?_) (fun h => ?_)) <;> (have h2 := h; (try simp only [List.length_nil, fx, hw, List.length_replicate, List.length_set, natadd0] at h2); conv => whnf))
    | (refine reqK_of ?_ ?_; (focus (first | decide | omega | assumption | (simp only [List.length_nil, fx, hw, List.length_replicate, List.length_set, natadd0] <;> omega) | (simp [keyNew, sameKey, kEq] <;> omega))); conv => whnf)
    | (refine reqK_of ?_ ?_; rotate_left; (conv => whnf); rotate_left)
    | (refine nth_us ?_ ?_ ?_; (focus (first | omega | (simp only [List.length_nil, fx, hw, List.length_replicate, List.length_set, natadd0] <;> omega))); (focus (first | omega | (simp only [List.length_nil, fx, hw, List.length_replicate, List.length_set, natadd0] <;> omega))); conv => whnf)
    | (refine nth_is ?_ ?_ ?_; (focus (first | omega | (simp only [List.length_nil, fx, hw, List.length_replicate, List.length_set, natadd0] <;> omega))); (focus (first | omega | (simp only [List.length_nil, fx, hw, List.length_replicate, List.length_set, natadd0] <;> omega))); conv => whnf)
    | (refine nth_bs ?_ ?_ ?_; (focus (first | omega | (simp only [List.length_nil, fx, hw, List.length_replicate, List.length_set, natadd0] <;> omega))); (focus (first | omega | (simp only [List.length_nil, fx, hw, List.length_replicate, List.length_set, natadd0] <;> omega))); conv => whnf))
  · rw [hw]
    unfold maxBytes
    omega
  · rw [subL_00, hw]
    simp only [natadd0, rep_us, us_set, cellsL, nCells]
    rfl
open Classical in
noncomputable def c59 : List T → Ans
  | [.int .i64 n] => .yes (.list 1 (us (cellsL n)))
  | _ => .no
theorem got59 {vs : List T} {x : T} (h : Got (c59 vs) x) : FnOk Try.prog tgl 59 vs x := by
  unfold c59 at h
  split at h
  · rw [got_yes h]; exact ok59 _
  · exact (got_no h).elim
theorem nogl59 (vs : List T) (p : Prop) (d : Decidable p) (sz : Nat) (xs : List T) (h : c59 vs = @Ans.gl p d sz xs) : False := by
  unfold c59 at h
  split at h <;> cases h
theorem pk59 (vs : List T) (p : Prop) (d : Decidable p) (x : T) (h : c59 vs = @Ans.pk p d x) (hp : p) : FnOk Try.prog tgl 59 vs x := by
  unfold c59 at h
  split at h
  · cases h
  · cases h
theorem is_snoc (a : List Int) (n : Int) : is a ++ [T.int .i64 n] = is (a ++ [n]) := by simp [is]
def itN (m : List Int) (base cap top : Int) : Nat → List Int
  | 0 => []
  | k + 1 => itN m base cap top k ++ [wi (ldV m (plR base cap (wu (top + k))))]
theorem itN_len (m : List Int) (base cap top : Int) (k : Nat) : (itN m base cap top k).length = k := by
  induction k with
  | zero => rfl
  | succ k ih => simp [itN, ih]
def noItems (top e cap : Int) : Bool := !ltI 0 (wi (wu (e - top))) || ltI (minI (wu (maxI cap 1)) 64) (wu (e - top))
/-- the items, where no owner is about to pop -/
def itemsL (m : List Int) (base cap : Int) : List Int :=
  if noItems (ldV m base) (ldV m (wi (base + 1))) cap = true then [] else itN m base cap (ldV m base) (wu (ldV m (wi (base + 1)) - ldV m base)).toNat
theorem wu_mod (n : Int) : ∃ q : Int, wu n = n + q * 18446744073709551616 ∧ 0 ≤ wu n ∧ wu n < 18446744073709551616 := by
  have : wu n = n % 18446744073709551616 := IntKind.wrap_u64 n
  refine ⟨-(n / 18446744073709551616), ?_, ?_, ?_⟩ <;> omega
theorem sub_is (L : List Int) : subL (is L) 0 none = is L := rfl
noncomputable def lE9 : List (Nat × (List T → Ans)) := (59, c59) :: (36, c36) :: lE8
noncomputable def iE9 : List (Nat × Pt) := iE8
noncomputable abbrev E9 : Env := En tgl lE9 iE9
theorem env_E9 : EnvOk Try.prog E9 := (env_fn (env_fn env_E8 (fun _ _ => got36) (fun vs p d sz xs h _ => (nogl36 vs p d sz xs h).elim) pk36) (fun _ _ => got59) (fun vs p d sz xs h _ => (nogl59 vs p d sz xs h).elim) pk59)
theorem ok37 (xs : List T) (base cap kind pc b0 c0 b t x out : Int) (hq : ((IsU xs ∧ Sz xs) ∧ I64 cap) ∧ (kind ≠ 2 ∨ out ≠ 0)) : FnOk Try.prog tgl 37 [.list 1 xs, .int .i64 base, .int .i64 cap, .agg [.int .i64 kind, .int .i64 pc, .int .i64 b0, .int .i64 c0, .int .u64 b, .int .u64 t, .int .i64 x, .int .i64 out]] (.list 1 (is (itemsL (nums xs) base cap))) := by
  obtain ⟨⟨⟨⟨l, rfl, hl⟩, hs⟩, hcap⟩, hko⟩ := hq
  rw [nums_us]
  have hq1 : IsU (us l) ∧ Sz (us l) := ⟨isU_us hl, hs⟩
  have hz := sz_ne hcap
  have n1 := nums_us l
  have hR0 : R64 (ldV l base) := doV_R hl _ _
  have hRe : R64 (ldV l (wi (base + 1))) := doV_R hl _ _
  obtain ⟨e, he⟩ : ∃ e, e = ldV l (wi (base + 1)) := ⟨_, rfl⟩
  rw [← he] at hRe
  cases hno : noItems (ldV l base) e cap with
  | true =>
    rw [show itemsL l base cap = [] by simp [itemsL, ← he, hno]]
    refine FnOk.nilr 1 ?_
    refine fn_ok (Γ := E9) env_E9 Try.func37 low37 ?_
    by_cases hk : kind = 2
    · have ho : out ≠ 0 := by omega
      conv => whnf
      repeat' (first
        | (refine brK_true rfl ?_; conv => whnf)
        | (refine brK_false rfl ?_; conv => whnf)
        | (refine brK_true (by assumption) ?_; conv => whnf)
        | (refine brK_false (by assumption) ?_; conv => whnf)
        | (refine brK_true ?_ ?_; (focus (simp only [List.length_nil, fx, nums_us] <;> omega)); conv => whnf)
        | (refine brK_false ?_ ?_; (focus (simp only [List.length_nil, fx, nums_us] <;> omega)); conv => whnf)
        | ((refine brK_of (fun h => ?_) (fun h => ?_)) <;> (have h2 := h; (try simp only [List.length_nil, fx, nums_us] at h2); conv => whnf))
        | (refine reqK_of ?_ ?_; (focus (first | decide | omega | assumption | (simp only [List.length_nil, fx, nums_us] <;> omega) | (simp [keyNew, sameKey, kEq] <;> omega))); conv => whnf)
        | (refine reqK_of ?_ ?_; rotate_left; (conv => whnf); rotate_left)
        | (refine nth_us ?_ ?_ ?_; (focus (first | omega | (simp only [List.length_nil, fx, nums_us] <;> omega))); (focus (first | omega | (simp only [List.length_nil, fx, nums_us] <;> omega))); conv => whnf)
        | (refine nth_is ?_ ?_ ?_; (focus (first | omega | (simp only [List.length_nil, fx, nums_us] <;> omega))); (focus (first | omega | (simp only [List.length_nil, fx, nums_us] <;> omega))); conv => whnf)
        | (refine nth_bs ?_ ?_ ?_; (focus (first | omega | (simp only [List.length_nil, fx, nums_us] <;> omega))); (focus (first | omega | (simp only [List.length_nil, fx, nums_us] <;> omega))); conv => whnf))
      all_goals (exfalso; clear hl hs hq1 hz hR0 hRe; simp only [nums_us, ← he] at *; simp_all [noItems])
    · conv => whnf
      repeat' (first
        | (refine brK_true rfl ?_; conv => whnf)
        | (refine brK_false rfl ?_; conv => whnf)
        | (refine brK_true (by assumption) ?_; conv => whnf)
        | (refine brK_false (by assumption) ?_; conv => whnf)
        | (refine brK_true ?_ ?_; (focus (simp only [List.length_nil, fx, nums_us] <;> omega)); conv => whnf)
        | (refine brK_false ?_ ?_; (focus (simp only [List.length_nil, fx, nums_us] <;> omega)); conv => whnf)
        | ((refine brK_of (fun h => ?_) (fun h => ?_)) <;> (have h2 := h; (try simp only [List.length_nil, fx, nums_us] at h2); conv => whnf))
        | (refine reqK_of ?_ ?_; (focus (first | decide | omega | assumption | (simp only [List.length_nil, fx, nums_us] <;> omega) | (simp [keyNew, sameKey, kEq] <;> omega))); conv => whnf)
        | (refine reqK_of ?_ ?_; rotate_left; (conv => whnf); rotate_left)
        | (refine nth_us ?_ ?_ ?_; (focus (first | omega | (simp only [List.length_nil, fx, nums_us] <;> omega))); (focus (first | omega | (simp only [List.length_nil, fx, nums_us] <;> omega))); conv => whnf)
        | (refine nth_is ?_ ?_ ?_; (focus (first | omega | (simp only [List.length_nil, fx, nums_us] <;> omega))); (focus (first | omega | (simp only [List.length_nil, fx, nums_us] <;> omega))); conv => whnf)
        | (refine nth_bs ?_ ?_ ?_; (focus (first | omega | (simp only [List.length_nil, fx, nums_us] <;> omega))); (focus (first | omega | (simp only [List.length_nil, fx, nums_us] <;> omega))); conv => whnf))
      all_goals (exfalso; clear hl hs hq1 hz hR0 hRe; simp only [nums_us, ← he] at *; simp_all [noItems])
  | false =>
    rw [show itemsL l base cap = itN l base cap (ldV l base) (wu (e - ldV l base)).toNat by simp [itemsL, ← he, hno]]
    refine fn_ok (Γ := E9) env_E9 Try.func37 low37 ?_
    have tail : True := trivial
    by_cases hk : kind = 2
    · have ho : out ≠ 0 := by omega
      conv => whnf
      repeat' (first
        | (refine brK_true rfl ?_; conv => whnf)
        | (refine brK_false rfl ?_; conv => whnf)
        | (refine brK_true (by assumption) ?_; conv => whnf)
        | (refine brK_false (by assumption) ?_; conv => whnf)
        | (refine brK_true ?_ ?_; (focus (simp only [List.length_nil, fx, nums_us] <;> omega)); conv => whnf)
        | (refine brK_false ?_ ?_; (focus (simp only [List.length_nil, fx, nums_us] <;> omega)); conv => whnf)
        | ((refine brK_of (fun h => ?_) (fun h => ?_)) <;> (have h2 := h; (try simp only [List.length_nil, fx, nums_us] at h2); conv => whnf))
        | (refine reqK_of ?_ ?_; (focus (first | decide | omega | assumption | (simp only [List.length_nil, fx, nums_us] <;> omega) | (simp [keyNew, sameKey, kEq] <;> omega))); conv => whnf)
        | (refine reqK_of ?_ ?_; rotate_left; (conv => whnf); rotate_left)
        | (refine nth_us ?_ ?_ ?_; (focus (first | omega | (simp only [List.length_nil, fx, nums_us] <;> omega))); (focus (first | omega | (simp only [List.length_nil, fx, nums_us] <;> omega))); conv => whnf)
        | (refine nth_is ?_ ?_ ?_; (focus (first | omega | (simp only [List.length_nil, fx, nums_us] <;> omega))); (focus (first | omega | (simp only [List.length_nil, fx, nums_us] <;> omega))); conv => whnf)
        | (refine nth_bs ?_ ?_ ?_; (focus (first | omega | (simp only [List.length_nil, fx, nums_us] <;> omega))); (focus (first | omega | (simp only [List.length_nil, fx, nums_us] <;> omega))); conv => whnf))
      all_goals first
        | (exfalso; clear hl hs hq1 hz hR0 hRe; simp only [nums_us, ← he] at *; simp_all [noItems] <;> fail)
        | skip
      all_goals rw [n1, ← he]
      have hnn : (wu (e - ldV l base)).toNat ≤ 64 := by
        unfold noItems at hno
        simp only [Bool.or_eq_false_iff, lt_f] at hno
        have := hno.2
        rw [minI_def] at this
        split at this <;> omega
      obtain ⟨q, hq1', hq2, hq3⟩ := wu_mod (e - ldV l base)
      have heq : ∀ k : Nat, k ≤ 64 → (wu (ldV l base + k) = e ↔ (k : Int) = wu (e - ldV l base)) := fun k hk => by
        obtain ⟨q', h1, h2, h3⟩ := wu_mod (ldV l base + k)
        unfold R64 at hR0 hRe
        constructor <;> intro h <;> omega
      refine loopUp [.adopt 12 1001 1] [.kill 62, .kill 63, .kill 64, .kill 65, .kill 66, .kill 67, .kill 68, .kill 69, .kill 70, .kill 71, .kill 72, .kill 73, .kill 74, .keep [138, 73, 71], .ren 138 1001] (fun k : Nat => [(12, .sl 1001 0 none), (13, .t (.int .u64 (wu (ldV l base + k))))]) (fun k => [(1001, .lst 1 (is (itN l base cap (ldV l base) k)) 1)]) (fun k => k ≤ (wu (e - ldV l base)).toNat) (fun k => (wu (e - ldV l base)).toNat - k) 0 (Nat.zero_le _) ?_
      conv => whnf
      refine ⟨⟨?_, rfl⟩, fun k hk C hC => ?_⟩
      · have e0 : wu (ldV l base + ((0 : Nat) : Int)) = ldV l base := by rw [Int.natCast_zero, Int.add_zero]; exact wrap_u64 hR0
        rw [e0]; rfl
      have hk' := heq k (by omega)
      have hil := itN_len l base cap (ldV l base) k
      conv => whnf
      repeat' (first
        | (refine brK_true rfl ?_; conv => whnf)
        | (refine brK_false rfl ?_; conv => whnf)
        | (refine brK_true (by assumption) ?_; conv => whnf)
        | (refine brK_false (by assumption) ?_; conv => whnf)
        | (refine brK_true ?_ ?_; (focus (simp only [List.length_nil, fx, n1] <;> omega)); conv => whnf)
        | (refine brK_false ?_ ?_; (focus (simp only [List.length_nil, fx, n1] <;> omega)); conv => whnf)
        | ((refine brK_of (fun h => ?_) (fun h => ?_)) <;> (have h2 := h; (try simp only [List.length_nil, fx, n1] at h2); conv => whnf))
        | (refine reqK_of ?_ ?_; (focus (first | decide | omega | assumption | (simp only [List.length_nil, fx, n1] <;> omega) | (simp [keyNew, sameKey, kEq] <;> omega))); conv => whnf)
        | (refine reqK_of ?_ ?_; rotate_left; (conv => whnf); rotate_left)
        | (refine nth_us ?_ ?_ ?_; (focus (first | omega | (simp only [List.length_nil, fx, n1] <;> omega))); (focus (first | omega | (simp only [List.length_nil, fx, n1] <;> omega))); conv => whnf)
        | (refine nth_is ?_ ?_ ?_; (focus (first | omega | (simp only [List.length_nil, fx, n1] <;> omega))); (focus (first | omega | (simp only [List.length_nil, fx, n1] <;> omega))); conv => whnf)
        | (refine nth_bs ?_ ?_ ?_; (focus (first | omega | (simp only [List.length_nil, fx, n1] <;> omega))); (focus (first | omega | (simp only [List.length_nil, fx, n1] <;> omega))); conv => whnf))
      · simp only [maxBytes, is_len, hil, List.length_cons, List.length_nil]; omega
      · have hne : (k : Int) ≠ wu (e - ldV l base) := fun h => by
          have := hk'.2 h
          contradiction
        refine loopC (hC (k + 1) (by omega) (by omega)) ?_
        have ew : wu (wu (ldV l base + (k : Int)) + 1) = wu (ldV l base + ((k + 1 : Nat) : Int)) := by
          obtain ⟨q1, h1, h2, h3⟩ := wu_mod (ldV l base + (k : Int))
          obtain ⟨q2, h4, h5, h6⟩ := wu_mod (wu (ldV l base + (k : Int)) + 1)
          obtain ⟨q3, h7, h8, h9⟩ := wu_mod (ldV l base + ((k + 1 : Nat) : Int))
          omega
        unfold wu at ew
        rw [ew]
        simp only [itN, nums_us, sub_is, ← is_snoc]
        rfl
      · have hke : (k : Int) = wu (e - ldV l base) := hk'.1 (by assumption)
        rw [sub_is, show (wu (e - ldV l base)).toNat = k by omega]
    · conv => whnf
      repeat' (first
        | (refine brK_true rfl ?_; conv => whnf)
        | (refine brK_false rfl ?_; conv => whnf)
        | (refine brK_true (by assumption) ?_; conv => whnf)
        | (refine brK_false (by assumption) ?_; conv => whnf)
        | (refine brK_true ?_ ?_; (focus (simp only [List.length_nil, fx, nums_us] <;> omega)); conv => whnf)
        | (refine brK_false ?_ ?_; (focus (simp only [List.length_nil, fx, nums_us] <;> omega)); conv => whnf)
        | ((refine brK_of (fun h => ?_) (fun h => ?_)) <;> (have h2 := h; (try simp only [List.length_nil, fx, nums_us] at h2); conv => whnf))
        | (refine reqK_of ?_ ?_; (focus (first | decide | omega | assumption | (simp only [List.length_nil, fx, nums_us] <;> omega) | (simp [keyNew, sameKey, kEq] <;> omega))); conv => whnf)
        | (refine reqK_of ?_ ?_; rotate_left; (conv => whnf); rotate_left)
        | (refine nth_us ?_ ?_ ?_; (focus (first | omega | (simp only [List.length_nil, fx, nums_us] <;> omega))); (focus (first | omega | (simp only [List.length_nil, fx, nums_us] <;> omega))); conv => whnf)
        | (refine nth_is ?_ ?_ ?_; (focus (first | omega | (simp only [List.length_nil, fx, nums_us] <;> omega))); (focus (first | omega | (simp only [List.length_nil, fx, nums_us] <;> omega))); conv => whnf)
        | (refine nth_bs ?_ ?_ ?_; (focus (first | omega | (simp only [List.length_nil, fx, nums_us] <;> omega))); (focus (first | omega | (simp only [List.length_nil, fx, nums_us] <;> omega))); conv => whnf))
      all_goals first
        | (exfalso; clear hl hs hq1 hz hR0 hRe; simp only [nums_us, ← he] at *; simp_all [noItems] <;> fail)
        | skip
      all_goals rw [n1, ← he]
      have hnn : (wu (e - ldV l base)).toNat ≤ 64 := by
        unfold noItems at hno
        simp only [Bool.or_eq_false_iff, lt_f] at hno
        have := hno.2
        rw [minI_def] at this
        split at this <;> omega
      obtain ⟨q, hq1', hq2, hq3⟩ := wu_mod (e - ldV l base)
      have heq : ∀ k : Nat, k ≤ 64 → (wu (ldV l base + k) = e ↔ (k : Int) = wu (e - ldV l base)) := fun k hk => by
        obtain ⟨q', h1, h2, h3⟩ := wu_mod (ldV l base + k)
        unfold R64 at hR0 hRe
        constructor <;> intro h <;> omega
      refine loopUp [.adopt 12 1001 1] [.kill 62, .kill 63, .kill 64, .kill 65, .kill 66, .kill 67, .kill 68, .kill 69, .kill 70, .kill 71, .kill 72, .kill 73, .kill 74, .keep [138, 73, 71], .ren 138 1001] (fun k : Nat => [(12, .sl 1001 0 none), (13, .t (.int .u64 (wu (ldV l base + k))))]) (fun k => [(1001, .lst 1 (is (itN l base cap (ldV l base) k)) 1)]) (fun k => k ≤ (wu (e - ldV l base)).toNat) (fun k => (wu (e - ldV l base)).toNat - k) 0 (Nat.zero_le _) ?_
      conv => whnf
      refine ⟨⟨?_, rfl⟩, fun k hk C hC => ?_⟩
      · have e0 : wu (ldV l base + ((0 : Nat) : Int)) = ldV l base := by rw [Int.natCast_zero, Int.add_zero]; exact wrap_u64 hR0
        rw [e0]; rfl
      have hk' := heq k (by omega)
      have hil := itN_len l base cap (ldV l base) k
      conv => whnf
      repeat' (first
        | (refine brK_true rfl ?_; conv => whnf)
        | (refine brK_false rfl ?_; conv => whnf)
        | (refine brK_true (by assumption) ?_; conv => whnf)
        | (refine brK_false (by assumption) ?_; conv => whnf)
        | (refine brK_true ?_ ?_; (focus (simp only [List.length_nil, fx, n1] <;> omega)); conv => whnf)
        | (refine brK_false ?_ ?_; (focus (simp only [List.length_nil, fx, n1] <;> omega)); conv => whnf)
        | ((refine brK_of (fun h => ?_) (fun h => ?_)) <;> (have h2 := h; (try simp only [List.length_nil, fx, n1] at h2); conv => whnf))
        | (refine reqK_of ?_ ?_; (focus (first | decide | omega | assumption | (simp only [List.length_nil, fx, n1] <;> omega) | (simp [keyNew, sameKey, kEq] <;> omega))); conv => whnf)
        | (refine reqK_of ?_ ?_; rotate_left; (conv => whnf); rotate_left)
        | (refine nth_us ?_ ?_ ?_; (focus (first | omega | (simp only [List.length_nil, fx, n1] <;> omega))); (focus (first | omega | (simp only [List.length_nil, fx, n1] <;> omega))); conv => whnf)
        | (refine nth_is ?_ ?_ ?_; (focus (first | omega | (simp only [List.length_nil, fx, n1] <;> omega))); (focus (first | omega | (simp only [List.length_nil, fx, n1] <;> omega))); conv => whnf)
        | (refine nth_bs ?_ ?_ ?_; (focus (first | omega | (simp only [List.length_nil, fx, n1] <;> omega))); (focus (first | omega | (simp only [List.length_nil, fx, n1] <;> omega))); conv => whnf))
      · simp only [maxBytes, is_len, hil, List.length_cons, List.length_nil]; omega
      · have hne : (k : Int) ≠ wu (e - ldV l base) := fun h => by
          have := hk'.2 h
          contradiction
        refine loopC (hC (k + 1) (by omega) (by omega)) ?_
        have ew : wu (wu (ldV l base + (k : Int)) + 1) = wu (ldV l base + ((k + 1 : Nat) : Int)) := by
          obtain ⟨q1, h1, h2, h3⟩ := wu_mod (ldV l base + (k : Int))
          obtain ⟨q2, h4, h5, h6⟩ := wu_mod (wu (ldV l base + (k : Int)) + 1)
          obtain ⟨q3, h7, h8, h9⟩ := wu_mod (ldV l base + ((k + 1 : Nat) : Int))
          omega
        unfold wu at ew
        rw [ew]
        simp only [itN, nums_us, sub_is, ← is_snoc]
        rfl
      · have hke : (k : Int) = wu (e - ldV l base) := hk'.1 (by assumption)
        rw [sub_is, show (wu (e - ldV l base)).toNat = k by omega]
open Classical in
noncomputable def c37 : List T → Ans
  | [.list 1 xs, .int .i64 base, .int .i64 cap, .agg [.int .i64 kind, .int .i64 pc, .int .i64 b0, .int .i64 c0, .int .u64 b, .int .u64 t, .int .i64 x, .int .i64 out]] => .req (((IsU xs ∧ Sz xs) ∧ I64 cap) ∧ (kind ≠ 2 ∨ out ≠ 0)) (.list 1 (is (itemsL (nums xs) base cap)))
  | _ => .no
theorem got37 {vs : List T} {x : T} (h : Got (c37 vs) x) : FnOk Try.prog tgl 37 vs x := by
  unfold c37 at h
  split at h
  · obtain ⟨hq, e⟩ := got_req h; rw [e]; exact ok37 _ _ _ _ _ _ _ _ _ _ _ hq
  · exact (got_no h).elim
theorem nogl37 (vs : List T) (p : Prop) (d : Decidable p) (sz : Nat) (xs : List T) (h : c37 vs = @Ans.gl p d sz xs) : False := by
  unfold c37 at h
  split at h <;> cases h
theorem pk37 (vs : List T) (p : Prop) (d : Decidable p) (x : T) (h : c37 vs = @Ans.pk p d x) (hp : p) : FnOk Try.prog tgl 37 vs x := by
  unfold c37 at h
  split at h
  · cases h
  · cases h
end Go.Nx
