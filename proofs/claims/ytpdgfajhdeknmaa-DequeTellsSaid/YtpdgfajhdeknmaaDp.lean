/-
  DEQUE TELLS: walked.
-/
import Derived.Test.YtpdgfajhdeknmaaDo
set_option linter.unusedVariables false
set_option linter.unusedSimpArgs false
set_option maxRecDepth 20000
set_option maxHeartbeats 16000000
namespace Go.Nx
open Go.RowKit Go.Proofs

theorem ok14 (n : Int) : FnOk Try.prog tgl 14 [.int .i64 n] (.list 1 (us (cellsL n))) := by
  refine fn_ok (Γ := E8) env_E8 Try.func14 low14 ?_
  have hn := nCells_in n
  unfold nCells at hn
  conv => whnf
  repeat' (first
    | (refine brK_true (by assumption) ?_; conv => whnf)
    | (refine brK_false (by assumption) ?_; conv => whnf)
    | (refine brK_true ?_ ?_; (focus (simp only [List.length_nil, not_t, not_f, lt_t, lt_f, le_t, le_f, eq_t, eq_f, us_len, is_len, bs_len, lenL_00, List.length_replicate, List.length_set, natadd0] <;> omega)); conv => whnf)
    | (refine brK_false ?_ ?_; (focus (simp only [List.length_nil, not_t, not_f, lt_t, lt_f, le_t, le_f, eq_t, eq_f, us_len, is_len, bs_len, lenL_00, List.length_replicate, List.length_set, natadd0] <;> omega)); conv => whnf)
    | ((refine brK_of (fun h => ?_) (fun h => ?_)) <;> (have h2 := h; (try simp only [List.length_nil, not_t, not_f, lt_t, lt_f, le_t, le_f, eq_t, eq_f, us_len, is_len, bs_len, lenL_00, List.length_replicate, List.length_set, natadd0] at h2); conv => whnf))
    | (refine reqK_of ?_ ?_; (focus (first | decide | omega | assumption | (simp only [List.length_nil, not_t, not_f, lt_t, lt_f, le_t, le_f, eq_t, eq_f, us_len, is_len, bs_len, lenL_00, List.length_replicate, List.length_set, natadd0] <;> omega) | (simp [keyNew, sameKey, kEq] <;> omega))); conv => whnf)
    | (refine reqK_of ?_ ?_; rotate_left; (conv => whnf); rotate_left)
    | (refine nth_us ?_ ?_ ?_; (focus (first | omega | (simp only [List.length_nil, not_t, not_f, lt_t, lt_f, le_t, le_f, eq_t, eq_f, us_len, is_len, bs_len, lenL_00, List.length_replicate, List.length_set, natadd0] <;> omega))); (focus (first | omega | (simp only [List.length_nil, not_t, not_f, lt_t, lt_f, le_t, le_f, eq_t, eq_f, us_len, is_len, bs_len, lenL_00, List.length_replicate, List.length_set, natadd0] <;> omega))); conv => whnf)
    | (refine nth_is ?_ ?_ ?_; (focus (first | omega | (simp only [List.length_nil, not_t, not_f, lt_t, lt_f, le_t, le_f, eq_t, eq_f, us_len, is_len, bs_len, lenL_00, List.length_replicate, List.length_set, natadd0] <;> omega))); (focus (first | omega | (simp only [List.length_nil, not_t, not_f, lt_t, lt_f, le_t, le_f, eq_t, eq_f, us_len, is_len, bs_len, lenL_00, List.length_replicate, List.length_set, natadd0] <;> omega))); conv => whnf)
    | (refine nth_bs ?_ ?_ ?_; (focus (first | omega | (simp only [List.length_nil, not_t, not_f, lt_t, lt_f, le_t, le_f, eq_t, eq_f, us_len, is_len, bs_len, lenL_00, List.length_replicate, List.length_set, natadd0] <;> omega))); (focus (first | omega | (simp only [List.length_nil, not_t, not_f, lt_t, lt_f, le_t, le_f, eq_t, eq_f, us_len, is_len, bs_len, lenL_00, List.length_replicate, List.length_set, natadd0] <;> omega))); conv => whnf))
  · unfold maxBytes; omega
  · simp only [List.length_replicate, List.length_cons, List.length_nil]; unfold maxBytes; omega
  · rw [subL_00]
    have e : cellsL n = 1 :: 1 :: List.replicate (minI (maxI n 1) 64).toNat 0 := by
      unfold cellsL nCells
      rw [show (2 + minI (maxI n 1) 64).toNat = (minI (maxI n 1) 64).toNat + 1 + 1 by omega, List.replicate_succ, List.replicate_succ]
      rfl
    rw [e]
    simp only [us, List.map_cons, List.map_replicate, List.cons_append, List.nil_append]
open Classical in
noncomputable def c14 : List T → Ans
  | [.int .i64 n] => .yes (.list 1 (us (cellsL n)))
  | _ => .no
theorem got14 {vs : List T} {x : T} (h : Got (c14 vs) x) : FnOk Try.prog tgl 14 vs x := by
  unfold c14 at h
  split at h
  · rw [got_yes h]; exact ok14 _
  · exact (got_no h).elim
theorem nogl14 (vs : List T) (p : Prop) (d : Decidable p) (sz : Nat) (xs : List T) (h : c14 vs = @Ans.gl p d sz xs) : False := by
  unfold c14 at h
  split at h <;> cases h
theorem pk14 (vs : List T) (p : Prop) (d : Decidable p) (x : T) (h : c14 vs = @Ans.pk p d x) (hp : p) : FnOk Try.prog tgl 14 vs x := by
  unfold c14 at h
  split at h
  · cases h
  · cases h
theorem ok16 (a b c d : Int) : FnOk Try.prog tgl 16 [.int .i64 a, .int .i64 b, .int .i64 c, .int .i64 d] (DM.T ⟨a, 0, b, c, 0, 0, d, 0⟩) := by
  refine fn_ok (Γ := E3) env_E3 Try.func16 low16 ?_
  conv => whnf
  repeat' (first
    | (refine brK_true (by assumption) ?_; conv => whnf)
    | (refine brK_false (by assumption) ?_; conv => whnf)
    | (refine brK_true ?_ ?_; (focus (simp only [List.length_nil, not_t, not_f, lt_t, lt_f, le_t, le_f, eq_t, eq_f, us_len, is_len, bs_len, lenL_00] <;> omega)); conv => whnf)
    | (refine brK_false ?_ ?_; (focus (simp only [List.length_nil, not_t, not_f, lt_t, lt_f, le_t, le_f, eq_t, eq_f, us_len, is_len, bs_len, lenL_00] <;> omega)); conv => whnf)
    | ((refine brK_of (fun h => ?_) (fun h => ?_)) <;> (have h2 := h; (try simp only [List.length_nil, not_t, not_f, lt_t, lt_f, le_t, le_f, eq_t, eq_f, us_len, is_len, bs_len, lenL_00] at h2); conv => whnf))
    | (refine reqK_of ?_ ?_; (focus (first | decide | omega | assumption | (simp only [List.length_nil, not_t, not_f, lt_t, lt_f, le_t, le_f, eq_t, eq_f, us_len, is_len, bs_len, lenL_00] <;> omega) | (simp [keyNew, sameKey, kEq] <;> omega))); conv => whnf)
    | (refine reqK_of ?_ ?_; rotate_left; (conv => whnf); rotate_left)
    | (refine nth_us ?_ ?_ ?_; (focus (first | omega | (simp only [List.length_nil, not_t, not_f, lt_t, lt_f, le_t, le_f, eq_t, eq_f, us_len, is_len, bs_len, lenL_00] <;> omega))); (focus (first | omega | (simp only [List.length_nil, not_t, not_f, lt_t, lt_f, le_t, le_f, eq_t, eq_f, us_len, is_len, bs_len, lenL_00] <;> omega))); conv => whnf)
    | (refine nth_is ?_ ?_ ?_; (focus (first | omega | (simp only [List.length_nil, not_t, not_f, lt_t, lt_f, le_t, le_f, eq_t, eq_f, us_len, is_len, bs_len, lenL_00] <;> omega))); (focus (first | omega | (simp only [List.length_nil, not_t, not_f, lt_t, lt_f, le_t, le_f, eq_t, eq_f, us_len, is_len, bs_len, lenL_00] <;> omega))); conv => whnf)
    | (refine nth_bs ?_ ?_ ?_; (focus (first | omega | (simp only [List.length_nil, not_t, not_f, lt_t, lt_f, le_t, le_f, eq_t, eq_f, us_len, is_len, bs_len, lenL_00] <;> omega))); (focus (first | omega | (simp only [List.length_nil, not_t, not_f, lt_t, lt_f, le_t, le_f, eq_t, eq_f, us_len, is_len, bs_len, lenL_00] <;> omega))); conv => whnf))
  rfl
open Classical in
noncomputable def c16 : List T → Ans
  | [.int .i64 a, .int .i64 b, .int .i64 c, .int .i64 d] => .yes (DM.T ⟨a, 0, b, c, 0, 0, d, 0⟩)
  | _ => .no
theorem got16 {vs : List T} {x : T} (h : Got (c16 vs) x) : FnOk Try.prog tgl 16 vs x := by
  unfold c16 at h
  split at h
  · rw [got_yes h]; exact ok16 _ _ _ _
  · exact (got_no h).elim
theorem nogl16 (vs : List T) (p : Prop) (d : Decidable p) (sz : Nat) (xs : List T) (h : c16 vs = @Ans.gl p d sz xs) : False := by
  unfold c16 at h
  split at h <;> cases h
theorem pk16 (vs : List T) (p : Prop) (d : Decidable p) (x : T) (h : c16 vs = @Ans.pk p d x) (hp : p) : FnOk Try.prog tgl 16 vs x := by
  unfold c16 at h
  split at h
  · cases h
  · cases h
theorem ok9 (kind pc base cap b t x out : Int) : FnOk Try.prog tgl 9 [.agg [.int .i64 kind, .int .i64 pc, .int .i64 base, .int .i64 cap, .int .u64 b, .int .u64 t, .int .i64 x, .int .i64 out]] (.agg [.int .i64 kind, .int .i64 pc, .int .i64 base, .int .i64 cap, .int .u64 b, .int .u64 t, .int .i64 x, .int .i64 out]) := by
  refine fn_ok (Γ := E3) env_E3 Try.func9 low9 ?_
  conv => whnf
  repeat' (first
    | (refine brK_true (by assumption) ?_; conv => whnf)
    | (refine brK_false (by assumption) ?_; conv => whnf)
    | (refine brK_true ?_ ?_; (focus (simp only [List.length_nil, not_t, not_f, lt_t, lt_f, le_t, le_f, eq_t, eq_f, us_len, is_len, bs_len, lenL_00] <;> omega)); conv => whnf)
    | (refine brK_false ?_ ?_; (focus (simp only [List.length_nil, not_t, not_f, lt_t, lt_f, le_t, le_f, eq_t, eq_f, us_len, is_len, bs_len, lenL_00] <;> omega)); conv => whnf)
    | ((refine brK_of (fun h => ?_) (fun h => ?_)) <;> (have h2 := h; (try simp only [List.length_nil, not_t, not_f, lt_t, lt_f, le_t, le_f, eq_t, eq_f, us_len, is_len, bs_len, lenL_00] at h2); conv => whnf))
    | (refine reqK_of ?_ ?_; (focus (first | decide | omega | assumption | (simp only [List.length_nil, not_t, not_f, lt_t, lt_f, le_t, le_f, eq_t, eq_f, us_len, is_len, bs_len, lenL_00] <;> omega) | (simp [keyNew, sameKey, kEq] <;> omega))); conv => whnf)
    | (refine reqK_of ?_ ?_; rotate_left; (conv => whnf); rotate_left)
    | (refine nth_us ?_ ?_ ?_; (focus (first | omega | (simp only [List.length_nil, not_t, not_f, lt_t, lt_f, le_t, le_f, eq_t, eq_f, us_len, is_len, bs_len, lenL_00] <;> omega))); (focus (first | omega | (simp only [List.length_nil, not_t, not_f, lt_t, lt_f, le_t, le_f, eq_t, eq_f, us_len, is_len, bs_len, lenL_00] <;> omega))); conv => whnf)
    | (refine nth_is ?_ ?_ ?_; (focus (first | omega | (simp only [List.length_nil, not_t, not_f, lt_t, lt_f, le_t, le_f, eq_t, eq_f, us_len, is_len, bs_len, lenL_00] <;> omega))); (focus (first | omega | (simp only [List.length_nil, not_t, not_f, lt_t, lt_f, le_t, le_f, eq_t, eq_f, us_len, is_len, bs_len, lenL_00] <;> omega))); conv => whnf)
    | (refine nth_bs ?_ ?_ ?_; (focus (first | omega | (simp only [List.length_nil, not_t, not_f, lt_t, lt_f, le_t, le_f, eq_t, eq_f, us_len, is_len, bs_len, lenL_00] <;> omega))); (focus (first | omega | (simp only [List.length_nil, not_t, not_f, lt_t, lt_f, le_t, le_f, eq_t, eq_f, us_len, is_len, bs_len, lenL_00] <;> omega))); conv => whnf))
open Classical in
noncomputable def c9 : List T → Ans
  | [.agg [.int .i64 kind, .int .i64 pc, .int .i64 base, .int .i64 cap, .int .u64 b, .int .u64 t, .int .i64 x, .int .i64 out]] => .yes (.agg [.int .i64 kind, .int .i64 pc, .int .i64 base, .int .i64 cap, .int .u64 b, .int .u64 t, .int .i64 x, .int .i64 out])
  | _ => .no
theorem got9 {vs : List T} {x : T} (h : Got (c9 vs) x) : FnOk Try.prog tgl 9 vs x := by
  unfold c9 at h
  split at h
  · rw [got_yes h]; exact ok9 _ _ _ _ _ _ _ _
  · exact (got_no h).elim
theorem nogl9 (vs : List T) (p : Prop) (d : Decidable p) (sz : Nat) (xs : List T) (h : c9 vs = @Ans.gl p d sz xs) : False := by
  unfold c9 at h
  split at h <;> cases h
theorem pk9 (vs : List T) (p : Prop) (d : Decidable p) (x : T) (h : c9 vs = @Ans.pk p d x) (hp : p) : FnOk Try.prog tgl 9 vs x := by
  unfold c9 at h
  split at h
  · cases h
  · cases h
theorem itemsE_len (m : List Int) (base cap : Int) (p : Bool) : (itemsE m base cap p).length ≤ 64 := by
  have h64 : ∀ e : Int, noItems (ldV m base) e cap = false → (wu (e - ldV m base)).toNat ≤ 64 := fun e hno => by
    unfold noItems at hno
    simp only [Bool.or_eq_false_iff, lt_f] at hno
    have := hno.2
    rw [minI_def] at this
    split at this <;> omega
  unfold itemsE
  dsimp only
  split
  · split
    · simp
    · rename_i h
      rw [itN_len]
      exact h64 _ (by simpa using h)
  · split
    · simp
    · rename_i h
      rw [itN_len]
      exact h64 _ (by simpa using h)
theorem cells_R (n : Int) : ∀ x ∈ cellsL n, R64 x := by
  unfold cellsL
  refine set_R (set_R (fun x hx => ?_) 0 (by unfold R64; omega)) 1 (by unfold R64; omega)
  have := List.eq_of_mem_replicate hx
  unfold R64; omega
theorem cells_Sz (n : Int) : Sz (us (cellsL n)) := by
  have := nCells_in n
  unfold Sz cellsL maxBytes
  rw [us_len, List.length_set, List.length_set, List.length_replicate]
  omega
namespace G
noncomputable def lF3 : List (Nat × (List T → Ans)) := (8, c8) :: (10, c10) :: (11, c11) :: (14, c14) :: (16, c16) :: (9, c9) :: lF2
noncomputable def iF3 : List (Nat × Pt) := iF2
noncomputable abbrev F3 : Env := En tgl lF3 iF3
theorem env_F3 : EnvOk Try.prog F3 := (env_fn (env_fn (env_fn (env_fn (env_fn (env_fn env_F2 (fun _ _ => got9) (fun vs p d sz xs h _ => (nogl9 vs p d sz xs h).elim) pk9) (fun _ _ => got16) (fun vs p d sz xs h _ => (nogl16 vs p d sz xs h).elim) pk16) (fun _ _ => got14) (fun vs p d sz xs h _ => (nogl14 vs p d sz xs h).elim) pk14) (fun _ _ => got11) (fun vs p d sz xs h _ => (nogl11 vs p d sz xs h).elim) pk11) (fun _ _ => got10) (fun vs p d sz xs h _ => (nogl10 vs p d sz xs h).elim) pk10) (fun _ _ => got8) (fun vs p d sz xs h _ => (nogl8 vs p d sz xs h).elim) pk8)
theorem ok3 (xs : List T) (kind pc base cap b t x out n : Int) (hq : ((((IsU xs ∧ Sz xs) ∧ R64 b) ∧ I64 base ∧ I64 cap) ∧ I64 n) ∧ R64 t) : FnOk Try.prog tgl 3 [.list 1 xs, .agg [.int .i64 kind, .int .i64 pc, .int .i64 base, .int .i64 cap, .int .u64 b, .int .u64 t, .int .i64 x, .int .i64 out], .int .i64 n] (.bool true) := by
  refine fn_ok (Γ := F3) env_F3 Try.func3 low3 ?_
  obtain ⟨⟨⟨⟨⟨⟨l, rfl, hl⟩, hs⟩, hb64⟩, hbase, hcap⟩, hn⟩, ht64⟩ := hq
  have hq1 : IsU (us l) ∧ Sz (us l) := ⟨isU_us hl, hs⟩
  obtain ⟨d, hd⟩ : ∃ d : DM, d = ⟨kind, pc, base, cap, b, t, x, out⟩ := ⟨_, rfl⟩
  have hbd : R64 d.b := by rw [hd]; exact hb64
  have hbt : R64 d.t := by rw [hd]; exact ht64
  have hL := dstep_len l d hbd
  have hq2 : (IsU (us (dstep l d).1) ∧ Sz (us (dstep l d).1)) ∧ IsU (us (dstep l d).1) := ⟨⟨isU_us (dmach_R hl hbd hbt).1, by unfold Sz at hs ⊢; rw [us_len] at hs ⊢; omega⟩, isU_us (dmach_R hl hbd hbt).1⟩
  have hq3 : (IsU (us (cellsL n)) ∧ Sz (us (cellsL n))) ∧ IsU (us (cellsL n)) := ⟨⟨isU_us (cells_R n), cells_Sz n⟩, isU_us (cells_R n)⟩
  have hqc : (IsU (us l) ∧ Sz (us l)) ∧ I64 cap := ⟨hq1, hcap⟩
  have hqn : (IsU (us l) ∧ Sz (us l)) ∧ I64 n := ⟨hq1, hn⟩
  obtain ⟨w, hw0⟩ : ∃ w, w = itemsE l base n (popsB kind pc b t out) := ⟨_, rfl⟩
  have hwl : w.length ≤ 64 := by rw [hw0]; exact itemsE_len _ _ _ _
  conv => whnf
  repeat' (first
    | (refine brK_true (by assumption) ?_; conv => whnf)
    | (refine brK_false (by assumption) ?_; conv => whnf)
    | (refine brK_true ?_ ?_; (focus (simp only [List.length_nil, not_t, not_f, lt_t, lt_f, le_t, le_f, eq_t, eq_f, us_len, is_len, bs_len, lenL_00] <;> omega)); conv => whnf)
    | (refine brK_false ?_ ?_; (focus (simp only [List.length_nil, not_t, not_f, lt_t, lt_f, le_t, le_f, eq_t, eq_f, us_len, is_len, bs_len, lenL_00] <;> omega)); conv => whnf)
    | ((refine brK_of (fun h => ?_) (fun h => ?_)) <;> (have h2 := h; (try simp only [List.length_nil, not_t, not_f, lt_t, lt_f, le_t, le_f, eq_t, eq_f, us_len, is_len, bs_len, lenL_00] at h2); conv => whnf))
    | (refine reqK_of ?_ ?_; (focus (first | decide | omega | assumption | (simp only [List.length_nil, not_t, not_f, lt_t, lt_f, le_t, le_f, eq_t, eq_f, us_len, is_len, bs_len, lenL_00] <;> omega) | (simp [keyNew, sameKey, kEq] <;> omega))); conv => whnf)
    | (refine reqK_of ?_ ?_; rotate_left; (conv => whnf); rotate_left)
    | (refine nth_us ?_ ?_ ?_; (focus (first | omega | (simp only [List.length_nil, not_t, not_f, lt_t, lt_f, le_t, le_f, eq_t, eq_f, us_len, is_len, bs_len, lenL_00] <;> omega))); (focus (first | omega | (simp only [List.length_nil, not_t, not_f, lt_t, lt_f, le_t, le_f, eq_t, eq_f, us_len, is_len, bs_len, lenL_00] <;> omega))); conv => whnf)
    | (refine nth_is ?_ ?_ ?_; (focus (first | omega | (simp only [List.length_nil, not_t, not_f, lt_t, lt_f, le_t, le_f, eq_t, eq_f, us_len, is_len, bs_len, lenL_00] <;> omega))); (focus (first | omega | (simp only [List.length_nil, not_t, not_f, lt_t, lt_f, le_t, le_f, eq_t, eq_f, us_len, is_len, bs_len, lenL_00] <;> omega))); conv => whnf)
    | (refine nth_bs ?_ ?_ ?_; (focus (first | omega | (simp only [List.length_nil, not_t, not_f, lt_t, lt_f, le_t, le_f, eq_t, eq_f, us_len, is_len, bs_len, lenL_00] <;> omega))); (focus (first | omega | (simp only [List.length_nil, not_t, not_f, lt_t, lt_f, le_t, le_f, eq_t, eq_f, us_len, is_len, bs_len, lenL_00] <;> omega))); conv => whnf))
  all_goals first
    | exact hqc
    | exact hqn
    | skip
  rw [← hd, nums_us, ← hw0]
  have hlw := is_len w
  refine loopUp [] [.kill 49, .kill 50, .kill 51, .kill 52, .kill 53, .kill 54, .kill 55, .kill 56, .kill 57, .kill 58, .kill 59, .kill 60, .kill 61, .kill 62, .kill 63] (fun k : Nat => [(14, .t (.int .i64 (k : Int)))]) (fun _ => []) (fun k => k ≤ w.length) (fun k => w.length - k) 0 (Nat.zero_le _) ?_
  conv => whnf
  refine ⟨⟨rfl, rfl⟩, fun k hk C hC => ?_⟩
  have hw : IntKind.i64.wrap ((k : Int) + 1) = (k : Int) + 1 := wrap_i64 ⟨by omega, by omega⟩
  conv => whnf
  repeat' (first
    | (refine brK_true (by assumption) ?_; conv => whnf)
    | (refine brK_false (by assumption) ?_; conv => whnf)
    | (refine brK_true ?_ ?_; (focus (simp only [List.length_nil, not_t, not_f, lt_t, lt_f, le_t, le_f, eq_t, eq_f, us_len, is_len, bs_len, lenL_00, eqI_self, nums_us, eqL_self, Bool.and_self, Bool.not_true] <;> omega)); conv => whnf)
    | (refine brK_false ?_ ?_; (focus (simp only [List.length_nil, not_t, not_f, lt_t, lt_f, le_t, le_f, eq_t, eq_f, us_len, is_len, bs_len, lenL_00, eqI_self, nums_us, eqL_self, Bool.and_self, Bool.not_true] <;> omega)); conv => whnf)
    | ((refine brK_of (fun h => ?_) (fun h => ?_)) <;> (have h2 := h; (try simp only [List.length_nil, not_t, not_f, lt_t, lt_f, le_t, le_f, eq_t, eq_f, us_len, is_len, bs_len, lenL_00, eqI_self, nums_us, eqL_self, Bool.and_self, Bool.not_true] at h2); conv => whnf))
    | (refine reqK_of ?_ ?_; (focus (first | decide | omega | assumption | (simp only [List.length_nil, not_t, not_f, lt_t, lt_f, le_t, le_f, eq_t, eq_f, us_len, is_len, bs_len, lenL_00, eqI_self, nums_us, eqL_self, Bool.and_self, Bool.not_true] <;> omega) | (simp [keyNew, sameKey, kEq] <;> omega))); conv => whnf)
    | (refine reqK_of ?_ ?_; rotate_left; (conv => whnf); rotate_left)
    | (refine nth_us ?_ ?_ ?_; (focus (first | omega | (simp only [List.length_nil, not_t, not_f, lt_t, lt_f, le_t, le_f, eq_t, eq_f, us_len, is_len, bs_len, lenL_00, eqI_self, nums_us, eqL_self, Bool.and_self, Bool.not_true] <;> omega))); (focus (first | omega | (simp only [List.length_nil, not_t, not_f, lt_t, lt_f, le_t, le_f, eq_t, eq_f, us_len, is_len, bs_len, lenL_00, eqI_self, nums_us, eqL_self, Bool.and_self, Bool.not_true] <;> omega))); conv => whnf)
    | (refine nth_is ?_ ?_ ?_; (focus (first | omega | (simp only [List.length_nil, not_t, not_f, lt_t, lt_f, le_t, le_f, eq_t, eq_f, us_len, is_len, bs_len, lenL_00, eqI_self, nums_us, eqL_self, Bool.and_self, Bool.not_true] <;> omega))); (focus (first | omega | (simp only [List.length_nil, not_t, not_f, lt_t, lt_f, le_t, le_f, eq_t, eq_f, us_len, is_len, bs_len, lenL_00, eqI_self, nums_us, eqL_self, Bool.and_self, Bool.not_true] <;> omega))); conv => whnf)
    | (refine nth_bs ?_ ?_ ?_; (focus (first | omega | (simp only [List.length_nil, not_t, not_f, lt_t, lt_f, le_t, le_f, eq_t, eq_f, us_len, is_len, bs_len, lenL_00, eqI_self, nums_us, eqL_self, Bool.and_self, Bool.not_true] <;> omega))); (focus (first | omega | (simp only [List.length_nil, not_t, not_f, lt_t, lt_f, le_t, le_f, eq_t, eq_f, us_len, is_len, bs_len, lenL_00, eqI_self, nums_us, eqL_self, Bool.and_self, Bool.not_true] <;> omega))); conv => whnf))
  · refine loopC (hC (k + 1) (by omega) (by omega)) ?_
    rw [hw, Int.natCast_succ]
    rfl
  · simp only [eqI_self, Bool.and_self]
open Classical in
noncomputable def c3 : List T → Ans
  | [.list 1 xs, .agg [.int .i64 kind, .int .i64 pc, .int .i64 base, .int .i64 cap, .int .u64 b, .int .u64 t, .int .i64 x, .int .i64 out], .int .i64 n] => .req (((((IsU xs ∧ Sz xs) ∧ R64 b) ∧ I64 base ∧ I64 cap) ∧ I64 n) ∧ R64 t) (.bool true)
  | _ => .no
theorem got3 {vs : List T} {x : T} (h : Got (c3 vs) x) : FnOk Try.prog tgl 3 vs x := by
  unfold c3 at h
  split at h
  · obtain ⟨hq, e⟩ := got_req h; rw [e]; exact ok3 _ _ _ _ _ _ _ _ _ _ hq
  · exact (got_no h).elim
theorem nogl3 (vs : List T) (p : Prop) (d : Decidable p) (sz : Nat) (xs : List T) (h : c3 vs = @Ans.gl p d sz xs) : False := by
  unfold c3 at h
  split at h <;> cases h
theorem pk3 (vs : List T) (p : Prop) (d : Decidable p) (x : T) (h : c3 vs = @Ans.pk p d x) (hp : p) : FnOk Try.prog tgl 3 vs x := by
  unfold c3 at h
  split at h
  · cases h
  · cases h
end G
end Go.Nx
