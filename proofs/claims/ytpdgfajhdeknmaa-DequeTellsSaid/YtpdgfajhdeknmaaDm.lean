/-
  THE DOCUMENT's DEQUE: A STEP.
-/
import Derived.Test.YtpdgfajhdeknmaaDh
set_option linter.unusedVariables false
set_option linter.unusedSimpArgs false
set_option maxRecDepth 20000
set_option maxHeartbeats 16000000
namespace Go.Nx
open Go.RowKit Go.Proofs

theorem le_not_lt (a b : Int) : leI a b = !ltI b a := by rw [leI_def, ltI_def, Bool.eq_iff_iff]; simp
theorem ok30 (kind pc base cap b t x out i : Int) (hq : I64 cap) : FnOk Try.prog tgl 30 [.agg [.int .i64 kind, .int .i64 pc, .int .i64 base, .int .i64 cap, .int .u64 b, .int .u64 t, .int .i64 x, .int .i64 out], .int .u64 i] (.int .i64 (plR base cap i)) := by
  refine fn_ok (Γ := E3) env_E3 Try.func30 low30 ?_
  have hz := sz_ne hq
  conv => whnf
  repeat' (first
    | (refine brK_true (by assumption) ?_; conv => whnf)
    | (refine brK_false (by assumption) ?_; conv => whnf)
    | (refine brK_true ?_ ?_; (focus (simp only [List.length_nil, not_t, not_f, lt_t, lt_f, le_t, le_f, eq_t, eq_f, us_len, is_len, bs_len, lenL_00] <;> omega)); conv => whnf)
    | (refine brK_false ?_ ?_; (focus (simp only [List.length_nil, not_t, not_f, lt_t, lt_f, le_t, le_f, eq_t, eq_f, us_len, is_len, bs_len, lenL_00] <;> omega)); conv => whnf)
    | ((refine brK_of (fun h => ?_) (fun h => ?_)) <;> (have h2 := h; (try simp only [List.length_nil, not_t, not_f, lt_t, lt_f, le_t, le_f, eq_t, eq_f, us_len, is_len, bs_len, lenL_00] at h2); conv => whnf))
    | (refine reqK_of ?_ ?_; (focus (first | decide | omega | assumption | (simp only [List.length_nil, not_t, not_f, lt_t, lt_f, le_t, le_f, eq_t, eq_f, us_len, is_len, bs_len, lenL_00] <;> omega) | (simp [keyNew, sameKey, kEq] <;> omega))); conv => whnf)
    | (refine reqK_of ?_ ?_; rotate_left; (conv => whnf); rotate_left)
    | (refine nth_us ?_ ?_ ?_; (focus (first | omega | (simp only [List.length_nil, not_t, not_f, lt_t, lt_f, le_t, le_f, eq_t, eq_f, us_len, is_len, bs_len, lenL_00] <;> omega))); (focus (first | omega | (simp only [List.length_nil, not_t, not_f, lt_t, lt_f, le_t, le_f, eq_t, eq_f, us_len, is_len, bs_len, lenL_00] <;> omega))); conv => whnf)
    | (refine nth_is ?_ ?_ ?_; (focus (first | omega | (simp only [List.length_nil, not_t, not_f, lt_t, lt_f, le_t, le_f, eq_t, eq_f, us_len, is_len, bs_len, lenL_00] <;> omega))); (focus (first | omega | (simp only [List.length_nil, not_t, not_f, lt_t, lt_f, le_t, le_f, eq_t, eq_f, us_len, is_len, bs_len, lenL_00] <;> omega))); conv => whnf)
    | (refine nth_bs ?_ ?_ ?_; (focus (first | omega | (simp only [List.length_nil, not_t, not_f, lt_t, lt_f, le_t, le_f, eq_t, eq_f, us_len, is_len, bs_len, lenL_00] <;> omega))); (focus (first | omega | (simp only [List.length_nil, not_t, not_f, lt_t, lt_f, le_t, le_f, eq_t, eq_f, us_len, is_len, bs_len, lenL_00] <;> omega))); conv => whnf))
  rfl
open Classical in
noncomputable def c30 : List T → Ans
  | [.agg [.int .i64 kind, .int .i64 pc, .int .i64 base, .int .i64 cap, .int .u64 b, .int .u64 t, .int .i64 x, .int .i64 out], .int .u64 i] => .req (I64 cap) (.int .i64 (plR base cap i))
  | _ => .no
theorem got30 {vs : List T} {x : T} (h : Got (c30 vs) x) : FnOk Try.prog tgl 30 vs x := by
  unfold c30 at h
  split at h
  · obtain ⟨hq, e⟩ := got_req h; rw [e]; exact ok30 _ _ _ _ _ _ _ _ _ hq
  · exact (got_no h).elim
theorem nogl30 (vs : List T) (p : Prop) (d : Decidable p) (sz : Nat) (xs : List T) (h : c30 vs = @Ans.gl p d sz xs) : False := by
  unfold c30 at h
  split at h <;> cases h
theorem pk30 (vs : List T) (p : Prop) (d : Decidable p) (x : T) (h : c30 vs = @Ans.pk p d x) (hp : p) : FnOk Try.prog tgl 30 vs x := by
  unfold c30 at h
  split at h
  · cases h
  · cases h
theorem ok47 (xs : List T) (at1 a b : Int) (hq : IsU xs ∧ Sz xs) : FnOk Try.prog tgl 47 [.list 1 xs, .int .i64 at1, .int .u64 a, .int .u64 b] (.tup [.list 1 (us (doL (nums xs) 3 at1 a b)), .bool (doB (nums xs) 3 at1 a)]) := by
  refine fn_ok (Γ := E3) env_E3 Try.func47 low47 ?_
  conv => whnf
  repeat' (first | (refine brK_true (by assumption) ?_; conv => whnf) | (refine brK_false (by assumption) ?_; conv => whnf) | (refine brK_of (fun h => ?_) (fun h => ?_) <;> conv => whnf) | (refine reqK_of ?_ ?_; (focus (first | decide | omega | assumption | (simp [keyNew, sameKey, kEq] <;> omega))); conv => whnf) | (refine reqK_of ?_ ?_; rotate_left; (conv => whnf); rotate_left))
open Classical in
noncomputable def c47 : List T → Ans
  | [.list 1 xs, .int .i64 at1, .int .u64 a, .int .u64 b] => .req (IsU xs ∧ Sz xs) (.tup [.list 1 (us (doL (nums xs) 3 at1 a b)), .bool (doB (nums xs) 3 at1 a)])
  | _ => .no
theorem got47 {vs : List T} {x : T} (h : Got (c47 vs) x) : FnOk Try.prog tgl 47 vs x := by
  unfold c47 at h
  split at h
  · obtain ⟨hq, e⟩ := got_req h; rw [e]; exact ok47 _ _ _ _ hq
  · exact (got_no h).elim
theorem nogl47 (vs : List T) (p : Prop) (d : Decidable p) (sz : Nat) (xs : List T) (h : c47 vs = @Ans.gl p d sz xs) : False := by
  unfold c47 at h
  split at h <;> cases h
theorem pk47 (vs : List T) (p : Prop) (d : Decidable p) (x : T) (h : c47 vs = @Ans.pk p d x) (hp : p) : FnOk Try.prog tgl 47 vs x := by
  unfold c47 at h
  split at h
  · cases h
  · cases h
noncomputable def lF1 : List (Nat × (List T → Ans)) := (30, c30) :: (47, c47) :: (29, c29) :: (46, c46) :: lE9
noncomputable def iF1 : List (Nat × Pt) := iE9
noncomputable abbrev F1 : Env := En tgl lF1 iF1
theorem env_F1 : EnvOk Try.prog F1 := (env_fn (env_fn (env_fn (env_fn env_E9 (fun _ _ => got46) (fun vs p d sz xs h _ => (nogl46 vs p d sz xs h).elim) pk46) (fun _ _ => got29) (fun vs p d sz xs h _ => (nogl29 vs p d sz xs h).elim) pk29) (fun _ _ => got47) (fun vs p d sz xs h _ => (nogl47 vs p d sz xs h).elim) pk47) (fun _ _ => got30) (fun vs p d sz xs h _ => (nogl30 vs p d sz xs h).elim) pk30)
theorem ok20 (xs : List T) (pc base cap b t x : Int) (hq : (IsU xs ∧ Sz xs) ∧ I64 cap) : FnOk Try.prog tgl 20 [.list 1 xs, .agg [.int .i64 1, .int .i64 pc, .int .i64 base, .int .i64 cap, .int .u64 b, .int .u64 t, .int .i64 x, .int .i64 0]] (.tup [.list 1 (us (dstep (nums xs) ⟨1, pc, base, cap, b, t, x, 0⟩).1), (dstep (nums xs) ⟨1, pc, base, cap, b, t, x, 0⟩).2.T]) := by
  refine fn_ok (Γ := F1) env_F1 Try.func20 low20 ?_
  obtain ⟨hq', hcap⟩ := hq
  have hq1 := hq'
  obtain ⟨⟨l, rfl, hl⟩, hs⟩ := hq'
  have n1 := nums_us l
  rw [n1]
  conv => whnf
  repeat' (first
    | (refine brK_true (by assumption) ?_; conv => whnf)
    | (refine brK_false (by assumption) ?_; conv => whnf)
    | (refine brK_true ?_ ?_; (focus (simp only [List.length_nil, not_t, not_f, lt_t, lt_f, le_t, le_f, eq_t, eq_f, us_len, is_len, bs_len, lenL_00] <;> omega)); conv => whnf)
    | (refine brK_false ?_ ?_; (focus (simp only [List.length_nil, not_t, not_f, lt_t, lt_f, le_t, le_f, eq_t, eq_f, us_len, is_len, bs_len, lenL_00] <;> omega)); conv => whnf)
    | ((refine brK_of (fun h => ?_) (fun h => ?_)) <;> (have h2 := h; (try simp only [List.length_nil, not_t, not_f, lt_t, lt_f, le_t, le_f, eq_t, eq_f, us_len, is_len, bs_len, lenL_00] at h2); conv => whnf))
    | (refine reqK_of ?_ ?_; (focus (first | decide | omega | assumption | (simp only [List.length_nil, not_t, not_f, lt_t, lt_f, le_t, le_f, eq_t, eq_f, us_len, is_len, bs_len, lenL_00] <;> omega) | (simp [keyNew, sameKey, kEq] <;> omega))); conv => whnf)
    | (refine reqK_of ?_ ?_; rotate_left; (conv => whnf); rotate_left)
    | (refine nth_us ?_ ?_ ?_; (focus (first | omega | (simp only [List.length_nil, not_t, not_f, lt_t, lt_f, le_t, le_f, eq_t, eq_f, us_len, is_len, bs_len, lenL_00] <;> omega))); (focus (first | omega | (simp only [List.length_nil, not_t, not_f, lt_t, lt_f, le_t, le_f, eq_t, eq_f, us_len, is_len, bs_len, lenL_00] <;> omega))); conv => whnf)
    | (refine nth_is ?_ ?_ ?_; (focus (first | omega | (simp only [List.length_nil, not_t, not_f, lt_t, lt_f, le_t, le_f, eq_t, eq_f, us_len, is_len, bs_len, lenL_00] <;> omega))); (focus (first | omega | (simp only [List.length_nil, not_t, not_f, lt_t, lt_f, le_t, le_f, eq_t, eq_f, us_len, is_len, bs_len, lenL_00] <;> omega))); conv => whnf)
    | (refine nth_bs ?_ ?_ ?_; (focus (first | omega | (simp only [List.length_nil, not_t, not_f, lt_t, lt_f, le_t, le_f, eq_t, eq_f, us_len, is_len, bs_len, lenL_00] <;> omega))); (focus (first | omega | (simp only [List.length_nil, not_t, not_f, lt_t, lt_f, le_t, le_f, eq_t, eq_f, us_len, is_len, bs_len, lenL_00] <;> omega))); conv => whnf))
  all_goals first
    | (refine dstep_eq ?_; clear hq1 hl hs; simp only [nums_us] at *; simp_all [dstep, plR, w01, w11, w21, w31, w41, w51, w61, wz1, wz2, wz3, wz4, wz5, wz6, wz7] <;> fail)
    | trace_state
open Classical in
noncomputable def c20 : List T → Ans
  | [.list 1 xs, .agg [.int .i64 1, .int .i64 pc, .int .i64 base, .int .i64 cap, .int .u64 b, .int .u64 t, .int .i64 x, .int .i64 0]] => .req ((IsU xs ∧ Sz xs) ∧ I64 cap) (.tup [.list 1 (us (dstep (nums xs) ⟨1, pc, base, cap, b, t, x, 0⟩).1), (dstep (nums xs) ⟨1, pc, base, cap, b, t, x, 0⟩).2.T])
  | _ => .no
theorem got20 {vs : List T} {x : T} (h : Got (c20 vs) x) : FnOk Try.prog tgl 20 vs x := by
  unfold c20 at h
  split at h
  · obtain ⟨hq, e⟩ := got_req h; rw [e]; exact ok20 _ _ _ _ _ _ _ hq
  · exact (got_no h).elim
theorem nogl20 (vs : List T) (p : Prop) (d : Decidable p) (sz : Nat) (xs : List T) (h : c20 vs = @Ans.gl p d sz xs) : False := by
  unfold c20 at h
  split at h <;> cases h
theorem pk20 (vs : List T) (p : Prop) (d : Decidable p) (x : T) (h : c20 vs = @Ans.pk p d x) (hp : p) : FnOk Try.prog tgl 20 vs x := by
  unfold c20 at h
  split at h
  · cases h
  · cases h
theorem ok21 (xs : List T) (pc base cap b t x : Int) (hq : (IsU xs ∧ Sz xs) ∧ I64 cap) : FnOk Try.prog tgl 21 [.list 1 xs, .agg [.int .i64 2, .int .i64 pc, .int .i64 base, .int .i64 cap, .int .u64 b, .int .u64 t, .int .i64 x, .int .i64 0]] (.tup [.list 1 (us (dstep (nums xs) ⟨2, pc, base, cap, b, t, x, 0⟩).1), (dstep (nums xs) ⟨2, pc, base, cap, b, t, x, 0⟩).2.T]) := by
  refine fn_ok (Γ := F1) env_F1 Try.func21 low21 ?_
  obtain ⟨hq', hcap⟩ := hq
  have hq1 := hq'
  obtain ⟨⟨l, rfl, hl⟩, hs⟩ := hq'
  have n1 := nums_us l
  rw [n1]
  conv => whnf
  repeat' (first
    | (refine brK_true (by assumption) ?_; conv => whnf)
    | (refine brK_false (by assumption) ?_; conv => whnf)
    | (refine brK_true ?_ ?_; (focus (simp only [List.length_nil, not_t, not_f, lt_t, lt_f, le_t, le_f, eq_t, eq_f, us_len, is_len, bs_len, lenL_00] <;> omega)); conv => whnf)
    | (refine brK_false ?_ ?_; (focus (simp only [List.length_nil, not_t, not_f, lt_t, lt_f, le_t, le_f, eq_t, eq_f, us_len, is_len, bs_len, lenL_00] <;> omega)); conv => whnf)
    | ((refine brK_of (fun h => ?_) (fun h => ?_)) <;> (have h2 := h; (try simp only [List.length_nil, not_t, not_f, lt_t, lt_f, le_t, le_f, eq_t, eq_f, us_len, is_len, bs_len, lenL_00] at h2); conv => whnf))
    | (refine reqK_of ?_ ?_; (focus (first | decide | omega | assumption | (simp only [List.length_nil, not_t, not_f, lt_t, lt_f, le_t, le_f, eq_t, eq_f, us_len, is_len, bs_len, lenL_00] <;> omega) | (simp [keyNew, sameKey, kEq] <;> omega))); conv => whnf)
    | (refine reqK_of ?_ ?_; rotate_left; (conv => whnf); rotate_left)
    | (refine nth_us ?_ ?_ ?_; (focus (first | omega | (simp only [List.length_nil, not_t, not_f, lt_t, lt_f, le_t, le_f, eq_t, eq_f, us_len, is_len, bs_len, lenL_00] <;> omega))); (focus (first | omega | (simp only [List.length_nil, not_t, not_f, lt_t, lt_f, le_t, le_f, eq_t, eq_f, us_len, is_len, bs_len, lenL_00] <;> omega))); conv => whnf)
    | (refine nth_is ?_ ?_ ?_; (focus (first | omega | (simp only [List.length_nil, not_t, not_f, lt_t, lt_f, le_t, le_f, eq_t, eq_f, us_len, is_len, bs_len, lenL_00] <;> omega))); (focus (first | omega | (simp only [List.length_nil, not_t, not_f, lt_t, lt_f, le_t, le_f, eq_t, eq_f, us_len, is_len, bs_len, lenL_00] <;> omega))); conv => whnf)
    | (refine nth_bs ?_ ?_ ?_; (focus (first | omega | (simp only [List.length_nil, not_t, not_f, lt_t, lt_f, le_t, le_f, eq_t, eq_f, us_len, is_len, bs_len, lenL_00] <;> omega))); (focus (first | omega | (simp only [List.length_nil, not_t, not_f, lt_t, lt_f, le_t, le_f, eq_t, eq_f, us_len, is_len, bs_len, lenL_00] <;> omega))); conv => whnf))
  all_goals first
    | (refine dstep_eq ?_; clear hq1 hl hs; simp only [nums_us] at *; simp_all [dstep, plR, w01, w11, w21, w31, w41, w51, w61, wz1, wz2, wz3, wz4, wz5, wz6, wz7] <;> fail)
    | trace_state
open Classical in
noncomputable def c21 : List T → Ans
  | [.list 1 xs, .agg [.int .i64 2, .int .i64 pc, .int .i64 base, .int .i64 cap, .int .u64 b, .int .u64 t, .int .i64 x, .int .i64 0]] => .req ((IsU xs ∧ Sz xs) ∧ I64 cap) (.tup [.list 1 (us (dstep (nums xs) ⟨2, pc, base, cap, b, t, x, 0⟩).1), (dstep (nums xs) ⟨2, pc, base, cap, b, t, x, 0⟩).2.T])
  | _ => .no
theorem got21 {vs : List T} {x : T} (h : Got (c21 vs) x) : FnOk Try.prog tgl 21 vs x := by
  unfold c21 at h
  split at h
  · obtain ⟨hq, e⟩ := got_req h; rw [e]; exact ok21 _ _ _ _ _ _ _ hq
  · exact (got_no h).elim
theorem nogl21 (vs : List T) (p : Prop) (d : Decidable p) (sz : Nat) (xs : List T) (h : c21 vs = @Ans.gl p d sz xs) : False := by
  unfold c21 at h
  split at h <;> cases h
theorem pk21 (vs : List T) (p : Prop) (d : Decidable p) (x : T) (h : c21 vs = @Ans.pk p d x) (hp : p) : FnOk Try.prog tgl 21 vs x := by
  unfold c21 at h
  split at h
  · cases h
  · cases h
theorem ok22 (xs : List T) (pc base cap b t x : Int) (hq : (IsU xs ∧ Sz xs) ∧ I64 cap) : FnOk Try.prog tgl 22 [.list 1 xs, .agg [.int .i64 3, .int .i64 pc, .int .i64 base, .int .i64 cap, .int .u64 b, .int .u64 t, .int .i64 x, .int .i64 0]] (.tup [.list 1 (us (dstep (nums xs) ⟨3, pc, base, cap, b, t, x, 0⟩).1), (dstep (nums xs) ⟨3, pc, base, cap, b, t, x, 0⟩).2.T]) := by
  refine fn_ok (Γ := F1) env_F1 Try.func22 low22 ?_
  obtain ⟨hq', hcap⟩ := hq
  have hq1 := hq'
  obtain ⟨⟨l, rfl, hl⟩, hs⟩ := hq'
  have n1 := nums_us l
  rw [n1]
  conv => whnf
  repeat' (first
    | (refine brK_true (by assumption) ?_; conv => whnf)
    | (refine brK_false (by assumption) ?_; conv => whnf)
    | (refine brK_true ?_ ?_; (focus (simp only [List.length_nil, not_t, not_f, lt_t, lt_f, le_t, le_f, eq_t, eq_f, us_len, is_len, bs_len, lenL_00] <;> omega)); conv => whnf)
    | (refine brK_false ?_ ?_; (focus (simp only [List.length_nil, not_t, not_f, lt_t, lt_f, le_t, le_f, eq_t, eq_f, us_len, is_len, bs_len, lenL_00] <;> omega)); conv => whnf)
    | ((refine brK_of (fun h => ?_) (fun h => ?_)) <;> (have h2 := h; (try simp only [List.length_nil, not_t, not_f, lt_t, lt_f, le_t, le_f, eq_t, eq_f, us_len, is_len, bs_len, lenL_00] at h2); conv => whnf))
    | (refine reqK_of ?_ ?_; (focus (first | decide | omega | assumption | (simp only [List.length_nil, not_t, not_f, lt_t, lt_f, le_t, le_f, eq_t, eq_f, us_len, is_len, bs_len, lenL_00] <;> omega) | (simp [keyNew, sameKey, kEq] <;> omega))); conv => whnf)
    | (refine reqK_of ?_ ?_; rotate_left; (conv => whnf); rotate_left)
    | (refine nth_us ?_ ?_ ?_; (focus (first | omega | (simp only [List.length_nil, not_t, not_f, lt_t, lt_f, le_t, le_f, eq_t, eq_f, us_len, is_len, bs_len, lenL_00] <;> omega))); (focus (first | omega | (simp only [List.length_nil, not_t, not_f, lt_t, lt_f, le_t, le_f, eq_t, eq_f, us_len, is_len, bs_len, lenL_00] <;> omega))); conv => whnf)
    | (refine nth_is ?_ ?_ ?_; (focus (first | omega | (simp only [List.length_nil, not_t, not_f, lt_t, lt_f, le_t, le_f, eq_t, eq_f, us_len, is_len, bs_len, lenL_00] <;> omega))); (focus (first | omega | (simp only [List.length_nil, not_t, not_f, lt_t, lt_f, le_t, le_f, eq_t, eq_f, us_len, is_len, bs_len, lenL_00] <;> omega))); conv => whnf)
    | (refine nth_bs ?_ ?_ ?_; (focus (first | omega | (simp only [List.length_nil, not_t, not_f, lt_t, lt_f, le_t, le_f, eq_t, eq_f, us_len, is_len, bs_len, lenL_00] <;> omega))); (focus (first | omega | (simp only [List.length_nil, not_t, not_f, lt_t, lt_f, le_t, le_f, eq_t, eq_f, us_len, is_len, bs_len, lenL_00] <;> omega))); conv => whnf))
  all_goals first
    | (refine dstep_eq ?_; clear hq1 hl hs; simp only [nums_us] at *; simp_all [le_not_lt, dstep, plR, w01, w11, w21, w31, w41, w51, w61, wz1, wz2, wz3, wz4, wz5, wz6, wz7] <;> fail)
    | trace_state
open Classical in
noncomputable def c22 : List T → Ans
  | [.list 1 xs, .agg [.int .i64 3, .int .i64 pc, .int .i64 base, .int .i64 cap, .int .u64 b, .int .u64 t, .int .i64 x, .int .i64 0]] => .req ((IsU xs ∧ Sz xs) ∧ I64 cap) (.tup [.list 1 (us (dstep (nums xs) ⟨3, pc, base, cap, b, t, x, 0⟩).1), (dstep (nums xs) ⟨3, pc, base, cap, b, t, x, 0⟩).2.T])
  | _ => .no
theorem got22 {vs : List T} {x : T} (h : Got (c22 vs) x) : FnOk Try.prog tgl 22 vs x := by
  unfold c22 at h
  split at h
  · obtain ⟨hq, e⟩ := got_req h; rw [e]; exact ok22 _ _ _ _ _ _ _ hq
  · exact (got_no h).elim
theorem nogl22 (vs : List T) (p : Prop) (d : Decidable p) (sz : Nat) (xs : List T) (h : c22 vs = @Ans.gl p d sz xs) : False := by
  unfold c22 at h
  split at h <;> cases h
theorem pk22 (vs : List T) (p : Prop) (d : Decidable p) (x : T) (h : c22 vs = @Ans.pk p d x) (hp : p) : FnOk Try.prog tgl 22 vs x := by
  unfold c22 at h
  split at h
  · cases h
  · cases h
noncomputable def lF2 : List (Nat × (List T → Ans)) := (20, c20) :: (21, c21) :: (22, c22) :: lF1
noncomputable def iF2 : List (Nat × Pt) := iF1
noncomputable abbrev F2 : Env := En tgl lF2 iF2
theorem env_F2 : EnvOk Try.prog F2 := (env_fn (env_fn (env_fn env_F1 (fun _ _ => got22) (fun vs p d sz xs h _ => (nogl22 vs p d sz xs h).elim) pk22) (fun _ _ => got21) (fun vs p d sz xs h _ => (nogl21 vs p d sz xs h).elim) pk21) (fun _ _ => got20) (fun vs p d sz xs h _ => (nogl20 vs p d sz xs h).elim) pk20)
theorem ok8 (xs : List T) (kind pc base cap b t x out : Int) (hq : (IsU xs ∧ Sz xs) ∧ I64 cap) : FnOk Try.prog tgl 8 [.list 1 xs, .agg [.int .i64 kind, .int .i64 pc, .int .i64 base, .int .i64 cap, .int .u64 b, .int .u64 t, .int .i64 x, .int .i64 out]] (.tup [.list 1 (us (dstep (nums xs) ⟨kind, pc, base, cap, b, t, x, out⟩).1), (dstep (nums xs) ⟨kind, pc, base, cap, b, t, x, out⟩).2.T]) := by
  refine fn_ok (Γ := F2) env_F2 Try.func8 low8 ?_
  have hcc := hq
  obtain ⟨hq', hcap⟩ := hq
  obtain ⟨⟨l, rfl, hl⟩, hs⟩ := hq'
  have n1 := nums_us l
  by_cases ho : out = 0
  · subst ho
    by_cases h1 : kind = 1
    · subst h1
      conv => whnf
      repeat' (first
        | (refine brK_true (by assumption) ?_; conv => whnf)
        | (refine brK_false (by assumption) ?_; conv => whnf)
        | (refine brK_true ?_ ?_; (focus (simp only [List.length_nil, not_t, not_f, lt_t, lt_f, le_t, le_f, eq_t, eq_f, us_len, is_len, bs_len, lenL_00] <;> omega)); conv => whnf)
        | (refine brK_false ?_ ?_; (focus (simp only [List.length_nil, not_t, not_f, lt_t, lt_f, le_t, le_f, eq_t, eq_f, us_len, is_len, bs_len, lenL_00] <;> omega)); conv => whnf)
        | ((refine brK_of (fun h => ?_) (fun h => ?_)) <;> (have h2 := h; (try simp only [List.length_nil, not_t, not_f, lt_t, lt_f, le_t, le_f, eq_t, eq_f, us_len, is_len, bs_len, lenL_00] at h2); conv => whnf))
        | (refine reqK_of ?_ ?_; (focus (first | decide | omega | assumption | (simp only [List.length_nil, not_t, not_f, lt_t, lt_f, le_t, le_f, eq_t, eq_f, us_len, is_len, bs_len, lenL_00] <;> omega) | (simp [keyNew, sameKey, kEq] <;> omega))); conv => whnf)
        | (refine reqK_of ?_ ?_; rotate_left; (conv => whnf); rotate_left)
        | (refine nth_us ?_ ?_ ?_; (focus (first | omega | (simp only [List.length_nil, not_t, not_f, lt_t, lt_f, le_t, le_f, eq_t, eq_f, us_len, is_len, bs_len, lenL_00] <;> omega))); (focus (first | omega | (simp only [List.length_nil, not_t, not_f, lt_t, lt_f, le_t, le_f, eq_t, eq_f, us_len, is_len, bs_len, lenL_00] <;> omega))); conv => whnf)
        | (refine nth_is ?_ ?_ ?_; (focus (first | omega | (simp only [List.length_nil, not_t, not_f, lt_t, lt_f, le_t, le_f, eq_t, eq_f, us_len, is_len, bs_len, lenL_00] <;> omega))); (focus (first | omega | (simp only [List.length_nil, not_t, not_f, lt_t, lt_f, le_t, le_f, eq_t, eq_f, us_len, is_len, bs_len, lenL_00] <;> omega))); conv => whnf)
        | (refine nth_bs ?_ ?_ ?_; (focus (first | omega | (simp only [List.length_nil, not_t, not_f, lt_t, lt_f, le_t, le_f, eq_t, eq_f, us_len, is_len, bs_len, lenL_00] <;> omega))); (focus (first | omega | (simp only [List.length_nil, not_t, not_f, lt_t, lt_f, le_t, le_f, eq_t, eq_f, us_len, is_len, bs_len, lenL_00] <;> omega))); conv => whnf))
      all_goals rfl
    · by_cases h2 : kind = 2
      · subst h2
        conv => whnf
        repeat' (first
          | (refine brK_true (by assumption) ?_; conv => whnf)
          | (refine brK_false (by assumption) ?_; conv => whnf)
          | (refine brK_true ?_ ?_; (focus (simp only [List.length_nil, not_t, not_f, lt_t, lt_f, le_t, le_f, eq_t, eq_f, us_len, is_len, bs_len, lenL_00] <;> omega)); conv => whnf)
          | (refine brK_false ?_ ?_; (focus (simp only [List.length_nil, not_t, not_f, lt_t, lt_f, le_t, le_f, eq_t, eq_f, us_len, is_len, bs_len, lenL_00] <;> omega)); conv => whnf)
          | ((refine brK_of (fun h => ?_) (fun h => ?_)) <;> (have h2 := h; (try simp only [List.length_nil, not_t, not_f, lt_t, lt_f, le_t, le_f, eq_t, eq_f, us_len, is_len, bs_len, lenL_00] at h2); conv => whnf))
          | (refine reqK_of ?_ ?_; (focus (first | decide | omega | assumption | (simp only [List.length_nil, not_t, not_f, lt_t, lt_f, le_t, le_f, eq_t, eq_f, us_len, is_len, bs_len, lenL_00] <;> omega) | (simp [keyNew, sameKey, kEq] <;> omega))); conv => whnf)
          | (refine reqK_of ?_ ?_; rotate_left; (conv => whnf); rotate_left)
          | (refine nth_us ?_ ?_ ?_; (focus (first | omega | (simp only [List.length_nil, not_t, not_f, lt_t, lt_f, le_t, le_f, eq_t, eq_f, us_len, is_len, bs_len, lenL_00] <;> omega))); (focus (first | omega | (simp only [List.length_nil, not_t, not_f, lt_t, lt_f, le_t, le_f, eq_t, eq_f, us_len, is_len, bs_len, lenL_00] <;> omega))); conv => whnf)
          | (refine nth_is ?_ ?_ ?_; (focus (first | omega | (simp only [List.length_nil, not_t, not_f, lt_t, lt_f, le_t, le_f, eq_t, eq_f, us_len, is_len, bs_len, lenL_00] <;> omega))); (focus (first | omega | (simp only [List.length_nil, not_t, not_f, lt_t, lt_f, le_t, le_f, eq_t, eq_f, us_len, is_len, bs_len, lenL_00] <;> omega))); conv => whnf)
          | (refine nth_bs ?_ ?_ ?_; (focus (first | omega | (simp only [List.length_nil, not_t, not_f, lt_t, lt_f, le_t, le_f, eq_t, eq_f, us_len, is_len, bs_len, lenL_00] <;> omega))); (focus (first | omega | (simp only [List.length_nil, not_t, not_f, lt_t, lt_f, le_t, le_f, eq_t, eq_f, us_len, is_len, bs_len, lenL_00] <;> omega))); conv => whnf))
        all_goals rfl
      · by_cases h3 : kind = 3
        · subst h3
          conv => whnf
          repeat' (first
            | (refine brK_true (by assumption) ?_; conv => whnf)
            | (refine brK_false (by assumption) ?_; conv => whnf)
            | (refine brK_true ?_ ?_; (focus (simp only [List.length_nil, not_t, not_f, lt_t, lt_f, le_t, le_f, eq_t, eq_f, us_len, is_len, bs_len, lenL_00] <;> omega)); conv => whnf)
            | (refine brK_false ?_ ?_; (focus (simp only [List.length_nil, not_t, not_f, lt_t, lt_f, le_t, le_f, eq_t, eq_f, us_len, is_len, bs_len, lenL_00] <;> omega)); conv => whnf)
            | ((refine brK_of (fun h => ?_) (fun h => ?_)) <;> (have h2 := h; (try simp only [List.length_nil, not_t, not_f, lt_t, lt_f, le_t, le_f, eq_t, eq_f, us_len, is_len, bs_len, lenL_00] at h2); conv => whnf))
            | (refine reqK_of ?_ ?_; (focus (first | decide | omega | assumption | (simp only [List.length_nil, not_t, not_f, lt_t, lt_f, le_t, le_f, eq_t, eq_f, us_len, is_len, bs_len, lenL_00] <;> omega) | (simp [keyNew, sameKey, kEq] <;> omega))); conv => whnf)
            | (refine reqK_of ?_ ?_; rotate_left; (conv => whnf); rotate_left)
            | (refine nth_us ?_ ?_ ?_; (focus (first | omega | (simp only [List.length_nil, not_t, not_f, lt_t, lt_f, le_t, le_f, eq_t, eq_f, us_len, is_len, bs_len, lenL_00] <;> omega))); (focus (first | omega | (simp only [List.length_nil, not_t, not_f, lt_t, lt_f, le_t, le_f, eq_t, eq_f, us_len, is_len, bs_len, lenL_00] <;> omega))); conv => whnf)
            | (refine nth_is ?_ ?_ ?_; (focus (first | omega | (simp only [List.length_nil, not_t, not_f, lt_t, lt_f, le_t, le_f, eq_t, eq_f, us_len, is_len, bs_len, lenL_00] <;> omega))); (focus (first | omega | (simp only [List.length_nil, not_t, not_f, lt_t, lt_f, le_t, le_f, eq_t, eq_f, us_len, is_len, bs_len, lenL_00] <;> omega))); conv => whnf)
            | (refine nth_bs ?_ ?_ ?_; (focus (first | omega | (simp only [List.length_nil, not_t, not_f, lt_t, lt_f, le_t, le_f, eq_t, eq_f, us_len, is_len, bs_len, lenL_00] <;> omega))); (focus (first | omega | (simp only [List.length_nil, not_t, not_f, lt_t, lt_f, le_t, le_f, eq_t, eq_f, us_len, is_len, bs_len, lenL_00] <;> omega))); conv => whnf))
          all_goals rfl
        · conv => whnf
          repeat' (first
            | (refine brK_true (by assumption) ?_; conv => whnf)
            | (refine brK_false (by assumption) ?_; conv => whnf)
            | (refine brK_true ?_ ?_; (focus (simp only [List.length_nil, not_t, not_f, lt_t, lt_f, le_t, le_f, eq_t, eq_f, us_len, is_len, bs_len, lenL_00] <;> omega)); conv => whnf)
            | (refine brK_false ?_ ?_; (focus (simp only [List.length_nil, not_t, not_f, lt_t, lt_f, le_t, le_f, eq_t, eq_f, us_len, is_len, bs_len, lenL_00] <;> omega)); conv => whnf)
            | ((refine brK_of (fun h => ?_) (fun h => ?_)) <;> (have h2 := h; (try simp only [List.length_nil, not_t, not_f, lt_t, lt_f, le_t, le_f, eq_t, eq_f, us_len, is_len, bs_len, lenL_00] at h2); conv => whnf))
            | (refine reqK_of ?_ ?_; (focus (first | decide | omega | assumption | (simp only [List.length_nil, not_t, not_f, lt_t, lt_f, le_t, le_f, eq_t, eq_f, us_len, is_len, bs_len, lenL_00] <;> omega) | (simp [keyNew, sameKey, kEq] <;> omega))); conv => whnf)
            | (refine reqK_of ?_ ?_; rotate_left; (conv => whnf); rotate_left)
            | (refine nth_us ?_ ?_ ?_; (focus (first | omega | (simp only [List.length_nil, not_t, not_f, lt_t, lt_f, le_t, le_f, eq_t, eq_f, us_len, is_len, bs_len, lenL_00] <;> omega))); (focus (first | omega | (simp only [List.length_nil, not_t, not_f, lt_t, lt_f, le_t, le_f, eq_t, eq_f, us_len, is_len, bs_len, lenL_00] <;> omega))); conv => whnf)
            | (refine nth_is ?_ ?_ ?_; (focus (first | omega | (simp only [List.length_nil, not_t, not_f, lt_t, lt_f, le_t, le_f, eq_t, eq_f, us_len, is_len, bs_len, lenL_00] <;> omega))); (focus (first | omega | (simp only [List.length_nil, not_t, not_f, lt_t, lt_f, le_t, le_f, eq_t, eq_f, us_len, is_len, bs_len, lenL_00] <;> omega))); conv => whnf)
            | (refine nth_bs ?_ ?_ ?_; (focus (first | omega | (simp only [List.length_nil, not_t, not_f, lt_t, lt_f, le_t, le_f, eq_t, eq_f, us_len, is_len, bs_len, lenL_00] <;> omega))); (focus (first | omega | (simp only [List.length_nil, not_t, not_f, lt_t, lt_f, le_t, le_f, eq_t, eq_f, us_len, is_len, bs_len, lenL_00] <;> omega))); conv => whnf))
          all_goals (refine dstep_eq ?_; rw [n1]; simp [dstep, h1, h2, h3])
  · conv => whnf
    repeat' (first
      | (refine brK_true (by assumption) ?_; conv => whnf)
      | (refine brK_false (by assumption) ?_; conv => whnf)
      | (refine brK_true ?_ ?_; (focus (simp only [List.length_nil, not_t, not_f, lt_t, lt_f, le_t, le_f, eq_t, eq_f, us_len, is_len, bs_len, lenL_00] <;> omega)); conv => whnf)
      | (refine brK_false ?_ ?_; (focus (simp only [List.length_nil, not_t, not_f, lt_t, lt_f, le_t, le_f, eq_t, eq_f, us_len, is_len, bs_len, lenL_00] <;> omega)); conv => whnf)
      | ((refine brK_of (fun h => ?_) (fun h => ?_)) <;> (have h2 := h; (try simp only [List.length_nil, not_t, not_f, lt_t, lt_f, le_t, le_f, eq_t, eq_f, us_len, is_len, bs_len, lenL_00] at h2); conv => whnf))
      | (refine reqK_of ?_ ?_; (focus (first | decide | omega | assumption | (simp only [List.length_nil, not_t, not_f, lt_t, lt_f, le_t, le_f, eq_t, eq_f, us_len, is_len, bs_len, lenL_00] <;> omega) | (simp [keyNew, sameKey, kEq] <;> omega))); conv => whnf)
      | (refine reqK_of ?_ ?_; rotate_left; (conv => whnf); rotate_left)
      | (refine nth_us ?_ ?_ ?_; (focus (first | omega | (simp only [List.length_nil, not_t, not_f, lt_t, lt_f, le_t, le_f, eq_t, eq_f, us_len, is_len, bs_len, lenL_00] <;> omega))); (focus (first | omega | (simp only [List.length_nil, not_t, not_f, lt_t, lt_f, le_t, le_f, eq_t, eq_f, us_len, is_len, bs_len, lenL_00] <;> omega))); conv => whnf)
      | (refine nth_is ?_ ?_ ?_; (focus (first | omega | (simp only [List.length_nil, not_t, not_f, lt_t, lt_f, le_t, le_f, eq_t, eq_f, us_len, is_len, bs_len, lenL_00] <;> omega))); (focus (first | omega | (simp only [List.length_nil, not_t, not_f, lt_t, lt_f, le_t, le_f, eq_t, eq_f, us_len, is_len, bs_len, lenL_00] <;> omega))); conv => whnf)
      | (refine nth_bs ?_ ?_ ?_; (focus (first | omega | (simp only [List.length_nil, not_t, not_f, lt_t, lt_f, le_t, le_f, eq_t, eq_f, us_len, is_len, bs_len, lenL_00] <;> omega))); (focus (first | omega | (simp only [List.length_nil, not_t, not_f, lt_t, lt_f, le_t, le_f, eq_t, eq_f, us_len, is_len, bs_len, lenL_00] <;> omega))); conv => whnf))
    all_goals (refine dstep_eq ?_; rw [n1]; simp [dstep, ho])
open Classical in
noncomputable def c8 : List T → Ans
  | [.list 1 xs, .agg [.int .i64 kind, .int .i64 pc, .int .i64 base, .int .i64 cap, .int .u64 b, .int .u64 t, .int .i64 x, .int .i64 out]] => .req ((IsU xs ∧ Sz xs) ∧ I64 cap) (.tup [.list 1 (us (dstep (nums xs) ⟨kind, pc, base, cap, b, t, x, out⟩).1), (dstep (nums xs) ⟨kind, pc, base, cap, b, t, x, out⟩).2.T])
  | _ => .no
theorem got8 {vs : List T} {x : T} (h : Got (c8 vs) x) : FnOk Try.prog tgl 8 vs x := by
  unfold c8 at h
  split at h
  · obtain ⟨hq, e⟩ := got_req h; rw [e]; exact ok8 _ _ _ _ _ _ _ _ _ hq
  · exact (got_no h).elim
theorem nogl8 (vs : List T) (p : Prop) (d : Decidable p) (sz : Nat) (xs : List T) (h : c8 vs = @Ans.gl p d sz xs) : False := by
  unfold c8 at h
  split at h <;> cases h
theorem pk8 (vs : List T) (p : Prop) (d : Decidable p) (x : T) (h : c8 vs = @Ans.pk p d x) (hp : p) : FnOk Try.prog tgl 8 vs x := by
  unfold c8 at h
  split at h
  · cases h
  · cases h
end Go.Nx
