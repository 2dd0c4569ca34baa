/-
  WHAT CAN BE REACHED: the small functions, the document's.
-/
import Derived.Test.YtlgnjeilhjhnkaaDoorRd
import Derived.Test.YtlgnjeilhjhnkaaDoorRn
set_option linter.unusedVariables false
set_option linter.unusedSimpArgs false
set_option maxRecDepth 20000
set_option maxHeartbeats 4000000
namespace Go.Nx
open Go.RowKit Go.Proofs

theorem maxOf (x : Int) : minI x 64 = min x 64 := by rw [minI_def]; split <;> omega
def orS (a b : Int) : B := bv a ||| bv b
theorem ok25 (sl : Int) (xs : List T) (hq : IsR xs) : FnOk Tryd.prog tgl 25 [.agg [.int .i64 sl, .list 1 xs]] (.int .u64 (iv (own (rowsOf xs)))) := by
  refine fn_ok (Γ := E3) env_E3 Tryd.func25 low25 ?_
  obtain ⟨L, rfl, hL, hl⟩ := hq
  conv => whnf
  repeat' (first
    | (refine brK_true (by assumption) ?_; conv => whnf)
    | (refine brK_false (by assumption) ?_; conv => whnf)
    | (refine brK_true ?_ ?_; (focus (simp only [List.length_nil, not_t, not_f, lt_t, lt_f, le_t, le_f, eq_t, eq_f, us_len, is_len, bs_len, lenL_00] <;> omega)); conv => whnf)
    | (refine brK_false ?_ ?_; (focus (simp only [List.length_nil, not_t, not_f, lt_t, lt_f, le_t, le_f, eq_t, eq_f, us_len, is_len, bs_len, lenL_00] <;> omega)); conv => whnf)
    | ((refine brK_of (fun h => ?_) (fun h => ?_)) <;> (have h2 := h; (try simp only [List.length_nil, not_t, not_f, lt_t, lt_f, le_t, le_f, eq_t, eq_f, us_len, is_len, bs_len, lenL_00] at h2); conv => whnf))
    | (refine reqK_of ?_ ?_; (focus (first | decide | omega | assumption | (simp only [List.length_nil, not_t, not_f, lt_t, lt_f, le_t, le_f, eq_t, eq_f, us_len, is_len, bs_len, lenL_00] <;> omega) | (simp [keyNew, sameKey, kEq] <;> omega))); conv => whnf)
    | (refine reqK_of ?_ ?_; rotate_left; (conv => whnf); rotate_left)
    | (refine nth_us ?_ ?_ ?_; (focus (first | omega | (simp only [List.length_nil, not_t, not_f, lt_t, lt_f, le_t, le_f, eq_t, eq_f, us_len, is_len, bs_len, lenL_00] <;> omega))); (focus (first | omega | (simp only [List.length_nil, not_t, not_f, lt_t, lt_f, le_t, le_f, eq_t, eq_f, us_len, is_len, bs_len, lenL_00] <;> omega))); conv => whnf)
    | (refine nth_is ?_ ?_ ?_; (focus (first | omega | (simp only [List.length_nil, not_t, not_f, lt_t, lt_f, le_t, le_f, eq_t, eq_f, us_len, is_len, bs_len, lenL_00] <;> omega))); (focus (first | omega | (simp only [List.length_nil, not_t, not_f, lt_t, lt_f, le_t, le_f, eq_t, eq_f, us_len, is_len, bs_len, lenL_00] <;> omega))); conv => whnf)
    | (refine nth_bs ?_ ?_ ?_; (focus (first | omega | (simp only [List.length_nil, not_t, not_f, lt_t, lt_f, le_t, le_f, eq_t, eq_f, us_len, is_len, bs_len, lenL_00] <;> omega))); (focus (first | omega | (simp only [List.length_nil, not_t, not_f, lt_t, lt_f, le_t, le_f, eq_t, eq_f, us_len, is_len, bs_len, lenL_00] <;> omega))); conv => whnf))
  rw [rs_len, rowsOf_rs]; rfl
open Classical in
noncomputable def c25 : List T → Ans
  | [.agg [.int .i64 sl, .list 1 xs]] => .req (IsR xs) (.int .u64 (iv (own (rowsOf xs))))
  | _ => .no
theorem got25 {vs : List T} {x : T} (h : Got (c25 vs) x) : FnOk Tryd.prog tgl 25 vs x := by
  unfold c25 at h
  split at h
  · obtain ⟨hq, e⟩ := got_req h; rw [e]; exact ok25 _ _ hq
  · exact (got_no h).elim
theorem nogl25 (vs : List T) (p : Prop) (d : Decidable p) (sz : Nat) (xs : List T) (h : c25 vs = @Ans.gl p d sz xs) : False := by
  unfold c25 at h
  split at h <;> cases h
theorem pk25 (vs : List T) (p : Prop) (d : Decidable p) (x : T) (h : c25 vs = @Ans.pk p d x) (hp : p) : FnOk Tryd.prog tgl 25 vs x := by
  unfold c25 at h
  split at h
  · cases h
  · cases h
theorem ok29 (o : Int) : FnOk Tryd.prog tgl 29 [.int .i64 o] (.bool true) := by
  refine fn_ok (Γ := E3) env_E3 Tryd.func29 low29 ?_
  conv => whnf
  repeat' (first | (refine brK_true (by assumption) ?_; conv => whnf) | (refine brK_false (by assumption) ?_; conv => whnf) | (refine brK_of (fun h => ?_) (fun h => ?_) <;> conv => whnf) | (refine reqK_of ?_ ?_; (focus (first | decide | omega | assumption | (simp [keyNew, sameKey, kEq] <;> omega))); conv => whnf) | (refine reqK_of ?_ ?_; rotate_left; (conv => whnf); rotate_left))
open Classical in
noncomputable def c29 : List T → Ans
  | [.int .i64 o] => .yes (.bool true)
  | _ => .no
theorem got29 {vs : List T} {x : T} (h : Got (c29 vs) x) : FnOk Tryd.prog tgl 29 vs x := by
  unfold c29 at h
  split at h
  · rw [got_yes h]; exact ok29 _
  · exact (got_no h).elim
theorem nogl29 (vs : List T) (p : Prop) (d : Decidable p) (sz : Nat) (xs : List T) (h : c29 vs = @Ans.gl p d sz xs) : False := by
  unfold c29 at h
  split at h <;> cases h
theorem pk29 (vs : List T) (p : Prop) (d : Decidable p) (x : T) (h : c29 vs = @Ans.pk p d x) (hp : p) : FnOk Tryd.prog tgl 29 vs x := by
  unfold c29 at h
  split at h
  · cases h
  · cases h
theorem ok24 (o : Int) : FnOk Tryd.prog tgl 24 [.int .i64 o] (.bool true) := by
  refine fn_ok (Γ := E3) env_E3 Tryd.func24 low24 ?_
  conv => whnf
  repeat' (first | (refine brK_true (by assumption) ?_; conv => whnf) | (refine brK_false (by assumption) ?_; conv => whnf) | (refine brK_of (fun h => ?_) (fun h => ?_) <;> conv => whnf) | (refine reqK_of ?_ ?_; (focus (first | decide | omega | assumption | (simp [keyNew, sameKey, kEq] <;> omega))); conv => whnf) | (refine reqK_of ?_ ?_; rotate_left; (conv => whnf); rotate_left))
open Classical in
noncomputable def c24 : List T → Ans
  | [.int .i64 o] => .yes (.bool true)
  | _ => .no
theorem got24 {vs : List T} {x : T} (h : Got (c24 vs) x) : FnOk Tryd.prog tgl 24 vs x := by
  unfold c24 at h
  split at h
  · rw [got_yes h]; exact ok24 _
  · exact (got_no h).elim
theorem nogl24 (vs : List T) (p : Prop) (d : Decidable p) (sz : Nat) (xs : List T) (h : c24 vs = @Ans.gl p d sz xs) : False := by
  unfold c24 at h
  split at h <;> cases h
theorem pk24 (vs : List T) (p : Prop) (d : Decidable p) (x : T) (h : c24 vs = @Ans.pk p d x) (hp : p) : FnOk Tryd.prog tgl 24 vs x := by
  unfold c24 at h
  split at h
  · cases h
  · cases h
theorem ok30 (o a b : Int) : FnOk Tryd.prog tgl 30 [.int .i64 o, .ref [.int .u64 a], .ref [.int .u64 b]] (.bool (has (orS a b) o)) := by
  refine fn_ok (Γ := E3) env_E3 Tryd.func30 low30 ?_
  conv => whnf
  repeat' (first | (refine brK_true (by assumption) ?_; conv => whnf) | (refine brK_false (by assumption) ?_; conv => whnf) | (refine brK_of (fun h => ?_) (fun h => ?_) <;> conv => whnf) | (refine reqK_of ?_ ?_; (focus (first | decide | omega | assumption | (simp [keyNew, sameKey, kEq] <;> omega))); conv => whnf) | (refine reqK_of ?_ ?_; rotate_left; (conv => whnf); rotate_left))
  rw [orI_u, bv_iv]; rfl
open Classical in
noncomputable def c30 : List T → Ans
  | [.int .i64 o, .ref [.int .u64 a], .ref [.int .u64 b]] => .yes (.bool (has (orS a b) o))
  | _ => .no
theorem got30 {vs : List T} {x : T} (h : Got (c30 vs) x) : FnOk Tryd.prog tgl 30 vs x := by
  unfold c30 at h
  split at h
  · rw [got_yes h]; exact ok30 _ _ _
  · exact (got_no h).elim
theorem nogl30 (vs : List T) (p : Prop) (d : Decidable p) (sz : Nat) (xs : List T) (h : c30 vs = @Ans.gl p d sz xs) : False := by
  unfold c30 at h
  split at h <;> cases h
theorem pk30 (vs : List T) (p : Prop) (d : Decidable p) (x : T) (h : c30 vs = @Ans.pk p d x) (hp : p) : FnOk Tryd.prog tgl 30 vs x := by
  unfold c30 at h
  split at h
  · cases h
  · cases h
noncomputable def lE4 : List (Nat × (List T → Ans)) := (25, c25) :: (29, c29) :: (24, c24) :: (30, c30) :: lE3
noncomputable def iE4 : List (Nat × Pt) := iE3
noncomputable abbrev E4 : Env := En tgl lE4 iE4
theorem env_E4 : EnvOk Tryd.prog E4 := (env_fn (env_fn (env_fn (env_fn env_E3 (fun _ _ => got30) (fun vs p d sz xs h _ => (nogl30 vs p d sz xs h).elim) pk30) (fun _ _ => got24) (fun vs p d sz xs h _ => (nogl24 vs p d sz xs h).elim) pk24) (fun _ _ => got29) (fun vs p d sz xs h _ => (nogl29 vs p d sz xs h).elim) pk29) (fun _ _ => got25) (fun vs p d sz xs h _ => (nogl25 vs p d sz xs h).elim) pk25)
theorem ok27 (sl : Int) (xs : List T) (s : Int) (hq : (IsR xs ∧ R64 s) ∧ under (bv s) (own (rowsOf xs)) = true) : FnOk Tryd.prog tgl 27 [.agg [.int .i64 sl, .list 1 xs], .int .u64 s] (.int .u64 (iv (nextB (rowsOf xs) (bv s)))) := by
  refine fn_ok (Γ := E4) env_E4 Tryd.func27 low27 ?_
  obtain ⟨⟨⟨L, rfl, hL, hl⟩, hs⟩, hu⟩ := hq
  rw [rowsOf_rs] at hu ⊢
  rw [under_iff] at hu
  have hR : IsR (rs L) := ⟨L, rfl, hL, hl⟩
  have hll := lsL_len (bv s)
  conv => whnf
  repeat' (first
    | (refine brK_true (by assumption) ?_; conv => whnf)
    | (refine brK_false (by assumption) ?_; conv => whnf)
    | (refine brK_true ?_ ?_; (focus (simp only [List.length_nil, not_t, not_f, lt_t, lt_f, le_t, le_f, eq_t, eq_f, us_len, is_len, bs_len, lenL_00] <;> omega)); conv => whnf)
    | (refine brK_false ?_ ?_; (focus (simp only [List.length_nil, not_t, not_f, lt_t, lt_f, le_t, le_f, eq_t, eq_f, us_len, is_len, bs_len, lenL_00] <;> omega)); conv => whnf)
    | ((refine brK_of (fun h => ?_) (fun h => ?_)) <;> (have h2 := h; (try simp only [List.length_nil, not_t, not_f, lt_t, lt_f, le_t, le_f, eq_t, eq_f, us_len, is_len, bs_len, lenL_00] at h2); conv => whnf))
    | (refine reqK_of ?_ ?_; (focus (first | decide | omega | assumption | (simp only [List.length_nil, not_t, not_f, lt_t, lt_f, le_t, le_f, eq_t, eq_f, us_len, is_len, bs_len, lenL_00] <;> omega) | (simp [keyNew, sameKey, kEq] <;> omega))); conv => whnf)
    | (refine reqK_of ?_ ?_; rotate_left; (conv => whnf); rotate_left)
    | (refine nth_us ?_ ?_ ?_; (focus (first | omega | (simp only [List.length_nil, not_t, not_f, lt_t, lt_f, le_t, le_f, eq_t, eq_f, us_len, is_len, bs_len, lenL_00] <;> omega))); (focus (first | omega | (simp only [List.length_nil, not_t, not_f, lt_t, lt_f, le_t, le_f, eq_t, eq_f, us_len, is_len, bs_len, lenL_00] <;> omega))); conv => whnf)
    | (refine nth_is ?_ ?_ ?_; (focus (first | omega | (simp only [List.length_nil, not_t, not_f, lt_t, lt_f, le_t, le_f, eq_t, eq_f, us_len, is_len, bs_len, lenL_00] <;> omega))); (focus (first | omega | (simp only [List.length_nil, not_t, not_f, lt_t, lt_f, le_t, le_f, eq_t, eq_f, us_len, is_len, bs_len, lenL_00] <;> omega))); conv => whnf)
    | (refine nth_bs ?_ ?_ ?_; (focus (first | omega | (simp only [List.length_nil, not_t, not_f, lt_t, lt_f, le_t, le_f, eq_t, eq_f, us_len, is_len, bs_len, lenL_00] <;> omega))); (focus (first | omega | (simp only [List.length_nil, not_t, not_f, lt_t, lt_f, le_t, le_f, eq_t, eq_f, us_len, is_len, bs_len, lenL_00] <;> omega))); conv => whnf))
  refine loopUp [] [.kill 10, .kill 11, .kill 12, .kill 13, .kill 14, .kill 15, .kill 16, .kill 17, .kill 18, .kill 19, .kill 20, .kill 21, .kill 22, .kill 23, .kill 24, .kill 25, .kill 26, .kill 27, .kill 28, .kill 29, .kill 30] (fun k : Nat => [(5, .t (.int .u64 (iv (nextL L ((lsL (bv s)).take k))))), (7, .t (.int .i64 (k : Int)))]) (fun _ => []) (fun k => k ≤ (lsL (bv s)).length) (fun k => (lsL (bv s)).length - k) 0 (Nat.zero_le _) ?_
  conv => whnf
  refine ⟨⟨rfl, rfl⟩, fun k hk C hC => ?_⟩
  have hw : IntKind.i64.wrap ((k : Int) + 1) = (k : Int) + 1 := wrap_i64 ⟨by omega, by omega⟩
  by_cases hlt : k < (lsL (bv s)).length
  · obtain ⟨o, ho⟩ : ∃ o, at0 (lsL (bv s)) k = o := ⟨_, rfl⟩
    have hm : o ∈ lsL (bv s) := by rw [← ho]; exact at0_mem (by omega)
    have how := hu o (mem_lsL.1 hm)
    have hr := has_range how
    have hle := own_le how
    have hw2 : IntKind.i64.wrap (o - 1) = o - 1 := wrap_i64 ⟨by omega, by omega⟩
    have hrow := hl _ (row_mem hr.1 hle)
    conv => whnf
    repeat' (first
      | (refine brK_true (by assumption) ?_; conv => whnf)
      | (refine brK_false (by assumption) ?_; conv => whnf)
      | (refine brK_true ?_ ?_; (focus (simp only [List.length_nil, not_t, not_f, lt_t, lt_f, le_t, le_f, eq_t, eq_f, us_len, is_len, bs_len, lenL_00, ho, hw2, rs_len] <;> omega)); conv => whnf)
      | (refine brK_false ?_ ?_; (focus (simp only [List.length_nil, not_t, not_f, lt_t, lt_f, le_t, le_f, eq_t, eq_f, us_len, is_len, bs_len, lenL_00, ho, hw2, rs_len] <;> omega)); conv => whnf)
      | ((refine brK_of (fun h => ?_) (fun h => ?_)) <;> (have h2 := h; (try simp only [List.length_nil, not_t, not_f, lt_t, lt_f, le_t, le_f, eq_t, eq_f, us_len, is_len, bs_len, lenL_00, ho, hw2, rs_len] at h2); conv => whnf))
      | (refine reqK_of ?_ ?_; (focus (first | decide | omega | assumption | (simp only [List.length_nil, not_t, not_f, lt_t, lt_f, le_t, le_f, eq_t, eq_f, us_len, is_len, bs_len, lenL_00, ho, hw2, rs_len] <;> omega) | (simp [keyNew, sameKey, kEq] <;> omega))); conv => whnf)
      | (refine reqK_of ?_ ?_; rotate_left; (conv => whnf); rotate_left)
      | (refine nth_rs ?_ ?_ ?_; (focus (first | omega | (simp only [List.length_nil, not_t, not_f, lt_t, lt_f, le_t, le_f, eq_t, eq_f, us_len, is_len, bs_len, lenL_00, ho, hw2, rs_len] <;> omega))); (focus (first | omega | (simp only [List.length_nil, not_t, not_f, lt_t, lt_f, le_t, le_f, eq_t, eq_f, us_len, is_len, bs_len, lenL_00, ho, hw2, rs_len] <;> omega))); conv => whnf)
      | (refine nth_us ?_ ?_ ?_; (focus (first | omega | (simp only [List.length_nil, not_t, not_f, lt_t, lt_f, le_t, le_f, eq_t, eq_f, us_len, is_len, bs_len, lenL_00, ho, hw2, rs_len] <;> omega))); (focus (first | omega | (simp only [List.length_nil, not_t, not_f, lt_t, lt_f, le_t, le_f, eq_t, eq_f, us_len, is_len, bs_len, lenL_00, ho, hw2, rs_len] <;> omega))); conv => whnf)
      | (refine nth_is ?_ ?_ ?_; (focus (first | omega | (simp only [List.length_nil, not_t, not_f, lt_t, lt_f, le_t, le_f, eq_t, eq_f, us_len, is_len, bs_len, lenL_00, ho, hw2, rs_len] <;> omega))); (focus (first | omega | (simp only [List.length_nil, not_t, not_f, lt_t, lt_f, le_t, le_f, eq_t, eq_f, us_len, is_len, bs_len, lenL_00, ho, hw2, rs_len] <;> omega))); conv => whnf)
      | (refine nth_bs ?_ ?_ ?_; (focus (first | omega | (simp only [List.length_nil, not_t, not_f, lt_t, lt_f, le_t, le_f, eq_t, eq_f, us_len, is_len, bs_len, lenL_00, ho, hw2, rs_len] <;> omega))); (focus (first | omega | (simp only [List.length_nil, not_t, not_f, lt_t, lt_f, le_t, le_f, eq_t, eq_f, us_len, is_len, bs_len, lenL_00, ho, hw2, rs_len] <;> omega))); conv => whnf))
    · simp only [ho, hw2, show o - 1 + 1 = o by omega]; exact hrow
    · refine loopC (hC (k + 1) (by omega) (by omega)) ?_
      rw [ho, hw2, hw, show o - 1 + 1 = o by omega, nums_is, rowsOf_rs, andI_u, orI_u, bv_iv, bv_iv, bv_iv, bv_iv, nextL_take L hlt, ho, Int.natCast_succ]
      rfl
  · conv => whnf
    repeat' (first
      | (refine brK_true (by assumption) ?_; conv => whnf)
      | (refine brK_false (by assumption) ?_; conv => whnf)
      | (refine brK_true ?_ ?_; (focus (simp only [List.length_nil, not_t, not_f, lt_t, lt_f, le_t, le_f, eq_t, eq_f, us_len, is_len, bs_len, lenL_00] <;> omega)); conv => whnf)
      | (refine brK_false ?_ ?_; (focus (simp only [List.length_nil, not_t, not_f, lt_t, lt_f, le_t, le_f, eq_t, eq_f, us_len, is_len, bs_len, lenL_00] <;> omega)); conv => whnf)
      | ((refine brK_of (fun h => ?_) (fun h => ?_)) <;> (have h2 := h; (try simp only [List.length_nil, not_t, not_f, lt_t, lt_f, le_t, le_f, eq_t, eq_f, us_len, is_len, bs_len, lenL_00] at h2); conv => whnf))
      | (refine reqK_of ?_ ?_; (focus (first | decide | omega | assumption | (simp only [List.length_nil, not_t, not_f, lt_t, lt_f, le_t, le_f, eq_t, eq_f, us_len, is_len, bs_len, lenL_00] <;> omega) | (simp [keyNew, sameKey, kEq] <;> omega))); conv => whnf)
      | (refine reqK_of ?_ ?_; rotate_left; (conv => whnf); rotate_left)
      | (refine nth_us ?_ ?_ ?_; (focus (first | omega | (simp only [List.length_nil, not_t, not_f, lt_t, lt_f, le_t, le_f, eq_t, eq_f, us_len, is_len, bs_len, lenL_00] <;> omega))); (focus (first | omega | (simp only [List.length_nil, not_t, not_f, lt_t, lt_f, le_t, le_f, eq_t, eq_f, us_len, is_len, bs_len, lenL_00] <;> omega))); conv => whnf)
      | (refine nth_is ?_ ?_ ?_; (focus (first | omega | (simp only [List.length_nil, not_t, not_f, lt_t, lt_f, le_t, le_f, eq_t, eq_f, us_len, is_len, bs_len, lenL_00] <;> omega))); (focus (first | omega | (simp only [List.length_nil, not_t, not_f, lt_t, lt_f, le_t, le_f, eq_t, eq_f, us_len, is_len, bs_len, lenL_00] <;> omega))); conv => whnf)
      | (refine nth_bs ?_ ?_ ?_; (focus (first | omega | (simp only [List.length_nil, not_t, not_f, lt_t, lt_f, le_t, le_f, eq_t, eq_f, us_len, is_len, bs_len, lenL_00] <;> omega))); (focus (first | omega | (simp only [List.length_nil, not_t, not_f, lt_t, lt_f, le_t, le_f, eq_t, eq_f, us_len, is_len, bs_len, lenL_00] <;> omega))); conv => whnf))
    rw [List.take_of_length_le (by omega)]; rfl
open Classical in
noncomputable def c27 : List T → Ans
  | [.agg [.int .i64 sl, .list 1 xs], .int .u64 s] => .req ((IsR xs ∧ R64 s) ∧ under (bv s) (own (rowsOf xs)) = true) (.int .u64 (iv (nextB (rowsOf xs) (bv s))))
  | _ => .no
theorem got27 {vs : List T} {x : T} (h : Got (c27 vs) x) : FnOk Tryd.prog tgl 27 vs x := by
  unfold c27 at h
  split at h
  · obtain ⟨hq, e⟩ := got_req h; rw [e]; exact ok27 _ _ _ hq
  · exact (got_no h).elim
theorem nogl27 (vs : List T) (p : Prop) (d : Decidable p) (sz : Nat) (xs : List T) (h : c27 vs = @Ans.gl p d sz xs) : False := by
  unfold c27 at h
  split at h <;> cases h
theorem pk27 (vs : List T) (p : Prop) (d : Decidable p) (x : T) (h : c27 vs = @Ans.pk p d x) (hp : p) : FnOk Tryd.prog tgl 27 vs x := by
  unfold c27 at h
  split at h
  · cases h
  · cases h
noncomputable def lE5 : List (Nat × (List T → Ans)) := (27, c27) :: lE4
noncomputable def iE5 : List (Nat × Pt) := iE4
noncomputable abbrev E5 : Env := En tgl lE5 iE5
theorem env_E5 : EnvOk Tryd.prog E5 := (env_fn env_E4 (fun _ _ => got27) (fun vs p d sz xs h _ => (nogl27 vs p d sz xs h).elim) pk27)
theorem own_sub {L : List (List Int)} {x y : B} (h : ∀ o, has x o = true → has (own L) o = true) : under (x &&& y) (own L) = true := by
  rw [under_iff]
  intro o ho
  rw [has_and, Bool.and_eq_true] at ho
  exact h o ho.1
theorem ok16 (sl : Int) (xs : List T) (s v : Int) (hq : IsR xs ∧ R64 s ∧ R64 v) : FnOk Tryd.prog tgl 16 [.agg [.int .i64 sl, .list 1 xs], .int .u64 s, .int .u64 v] (.int .u64 (iv (rchB (rowsOf xs) (has (orS s v)) (bv s)))) := by
  refine fn_ok (Γ := E5) env_E5 Tryd.func16 low16 ?_
  obtain ⟨⟨L, rfl, hL, hl⟩, hs, hv⟩ := hq
  rw [rowsOf_rs]
  have hR : IsR (rs L) := ⟨L, rfl, hL, hl⟩
  conv => whnf
  repeat' (first
    | (refine brK_true (by assumption) ?_; conv => whnf)
    | (refine brK_false (by assumption) ?_; conv => whnf)
    | (refine brK_true ?_ ?_; (focus (simp only [List.length_nil, not_t, not_f, lt_t, lt_f, le_t, le_f, eq_t, eq_f, us_len, is_len, bs_len, lenL_00] <;> omega)); conv => whnf)
    | (refine brK_false ?_ ?_; (focus (simp only [List.length_nil, not_t, not_f, lt_t, lt_f, le_t, le_f, eq_t, eq_f, us_len, is_len, bs_len, lenL_00] <;> omega)); conv => whnf)
    | ((refine brK_of (fun h => ?_) (fun h => ?_)) <;> (have h2 := h; (try simp only [List.length_nil, not_t, not_f, lt_t, lt_f, le_t, le_f, eq_t, eq_f, us_len, is_len, bs_len, lenL_00] at h2); conv => whnf))
    | (refine reqK_of ?_ ?_; (focus (first | decide | omega | assumption | (simp only [List.length_nil, not_t, not_f, lt_t, lt_f, le_t, le_f, eq_t, eq_f, us_len, is_len, bs_len, lenL_00] <;> omega) | (simp [keyNew, sameKey, kEq] <;> omega))); conv => whnf)
    | (refine reqK_of ?_ ?_; rotate_left; (conv => whnf); rotate_left)
    | (refine nth_us ?_ ?_ ?_; (focus (first | omega | (simp only [List.length_nil, not_t, not_f, lt_t, lt_f, le_t, le_f, eq_t, eq_f, us_len, is_len, bs_len, lenL_00] <;> omega))); (focus (first | omega | (simp only [List.length_nil, not_t, not_f, lt_t, lt_f, le_t, le_f, eq_t, eq_f, us_len, is_len, bs_len, lenL_00] <;> omega))); conv => whnf)
    | (refine nth_is ?_ ?_ ?_; (focus (first | omega | (simp only [List.length_nil, not_t, not_f, lt_t, lt_f, le_t, le_f, eq_t, eq_f, us_len, is_len, bs_len, lenL_00] <;> omega))); (focus (first | omega | (simp only [List.length_nil, not_t, not_f, lt_t, lt_f, le_t, le_f, eq_t, eq_f, us_len, is_len, bs_len, lenL_00] <;> omega))); conv => whnf)
    | (refine nth_bs ?_ ?_ ?_; (focus (first | omega | (simp only [List.length_nil, not_t, not_f, lt_t, lt_f, le_t, le_f, eq_t, eq_f, us_len, is_len, bs_len, lenL_00] <;> omega))); (focus (first | omega | (simp only [List.length_nil, not_t, not_f, lt_t, lt_f, le_t, le_f, eq_t, eq_f, us_len, is_len, bs_len, lenL_00] <;> omega))); conv => whnf))
  rw [rowsOf_rs, andI_u, bv_iv]
  refine loopUp [] [.kill 8, .kill 14, .kill 15, .kill 16, .kill 17, .kill 18, .kill 19, .kill 20, .kill 21, .kill 22, .kill 23, .kill 24, .kill 25, .kill 26, .kill 27] (fun x : B => [(7, .t (.int .u64 (iv x)))]) (fun _ => []) (fun x => VInv L (has (orS s v)) (bv s) x) (fun x => 18446744073709551616 - x.toNat) (bv s &&& own L) (VInv.init L _ _) ?_
  conv => whnf
  refine ⟨⟨rfl, rfl⟩, fun x hx C hC => ?_⟩
  have hxo : ∀ o, has x o = true → has (own L) o = true := fun o ho => rch_own (hx.snd o ho)
  have hu := own_sub (y := (bv s &&& own L) ||| bv v) hxo
  have hand : andI .u64 (iv x) (orI .u64 (iv (bv s &&& own L)) v) = iv (x &&& (bv s &&& own L ||| bv v)) := by rw [orI_u, andI_u, bv_iv, bv_iv, bv_iv]
  have hy : ∀ o, has (x &&& (bv s &&& own L ||| bv v)) o = true ↔ has x o = true ∧ has (orS s v) o = true := fun o => by
    rw [has_and, Bool.and_eq_true, has_or, has_and]
    unfold orS
    rw [has_or]
    constructor
    · rintro ⟨h1, h2⟩; rw [hxo o h1, Bool.and_true] at h2; exact ⟨h1, h2⟩
    · rintro ⟨h1, h2⟩; rw [hxo o h1, Bool.and_true]; exact ⟨h1, h2⟩
  have hor : orI .u64 (iv x) (iv (nextB L (x &&& (bv s &&& own L ||| bv v)))) = iv (x ||| nextB L (x &&& (bv s &&& own L ||| bv v))) := by rw [orI_u, bv_iv, bv_iv]
  have hfold : orI .u64 (iv x) (iv (nextB (rowsOf (rs L)) (bv (andI .u64 (iv x) (orI .u64 (iv (bv s &&& own L)) v))))) = iv (x ||| nextB L (x &&& (bv s &&& own L ||| bv v))) := by rw [hand, rowsOf_rs, bv_iv, hor]
  conv => whnf
  repeat' (first
    | (refine brK_true (by assumption) ?_; conv => whnf)
    | (refine brK_false (by assumption) ?_; conv => whnf)
    | (refine brK_true ?_ ?_; (focus (simp only [List.length_nil, not_t, not_f, lt_t, lt_f, le_t, le_f, eq_t, eq_f, us_len, is_len, bs_len, lenL_00] <;> omega)); conv => whnf)
    | (refine brK_false ?_ ?_; (focus (simp only [List.length_nil, not_t, not_f, lt_t, lt_f, le_t, le_f, eq_t, eq_f, us_len, is_len, bs_len, lenL_00] <;> omega)); conv => whnf)
    | ((refine brK_of (fun h => ?_) (fun h => ?_)) <;> (have h2 := h; (try simp only [List.length_nil, not_t, not_f, lt_t, lt_f, le_t, le_f, eq_t, eq_f, us_len, is_len, bs_len, lenL_00] at h2); conv => whnf))
    | (refine reqK_of ?_ ?_; (focus (first | decide | omega | assumption | (simp only [List.length_nil, not_t, not_f, lt_t, lt_f, le_t, le_f, eq_t, eq_f, us_len, is_len, bs_len, lenL_00] <;> omega) | (simp [keyNew, sameKey, kEq] <;> omega))); conv => whnf)
    | (refine reqK_of ?_ ?_; rotate_left; (conv => whnf); rotate_left)
    | (refine nth_us ?_ ?_ ?_; (focus (first | omega | (simp only [List.length_nil, not_t, not_f, lt_t, lt_f, le_t, le_f, eq_t, eq_f, us_len, is_len, bs_len, lenL_00] <;> omega))); (focus (first | omega | (simp only [List.length_nil, not_t, not_f, lt_t, lt_f, le_t, le_f, eq_t, eq_f, us_len, is_len, bs_len, lenL_00] <;> omega))); conv => whnf)
    | (refine nth_is ?_ ?_ ?_; (focus (first | omega | (simp only [List.length_nil, not_t, not_f, lt_t, lt_f, le_t, le_f, eq_t, eq_f, us_len, is_len, bs_len, lenL_00] <;> omega))); (focus (first | omega | (simp only [List.length_nil, not_t, not_f, lt_t, lt_f, le_t, le_f, eq_t, eq_f, us_len, is_len, bs_len, lenL_00] <;> omega))); conv => whnf)
    | (refine nth_bs ?_ ?_ ?_; (focus (first | omega | (simp only [List.length_nil, not_t, not_f, lt_t, lt_f, le_t, le_f, eq_t, eq_f, us_len, is_len, bs_len, lenL_00] <;> omega))); (focus (first | omega | (simp only [List.length_nil, not_t, not_f, lt_t, lt_f, le_t, le_f, eq_t, eq_f, us_len, is_len, bs_len, lenL_00] <;> omega))); conv => whnf))
  · rw [hand, rowsOf_rs, bv_iv]; exact ⟨⟨hR, R_iv _⟩, hu⟩
  · have h3 : eqI (orI .u64 (iv x) (iv (nextB (rowsOf (rs L)) (bv (andI .u64 (iv x) (orI .u64 (iv (bv s &&& own L)) v)))))) (iv x) = true := by assumption
    rw [hfold, eqI_iv, beq_iff_eq] at h3
    rw [← hx.fin hy h3]
  · have h3 : eqI (orI .u64 (iv x) (iv (nextB (rowsOf (rs L)) (bv (andI .u64 (iv x) (orI .u64 (iv (bv s &&& own L)) v)))))) (iv x) = false := by assumption
    rw [hfold, eqI_iv] at h3
    have h4 := or_lt h3
    have h5 := (x ||| nextB L (x &&& (bv s &&& own L ||| bv v))).isLt
    refine loopC (hC (x ||| nextB L (x &&& (bv s &&& own L ||| bv v))) (hx.step hy) (by omega)) ?_
    rw [hfold]
    rfl
open Classical in
noncomputable def c16 : List T → Ans
  | [.agg [.int .i64 sl, .list 1 xs], .int .u64 s, .int .u64 v] => .req (IsR xs ∧ R64 s ∧ R64 v) (.int .u64 (iv (rchB (rowsOf xs) (has (orS s v)) (bv s))))
  | _ => .no
theorem got16 {vs : List T} {x : T} (h : Got (c16 vs) x) : FnOk Tryd.prog tgl 16 vs x := by
  unfold c16 at h
  split at h
  · obtain ⟨hq, e⟩ := got_req h; rw [e]; exact ok16 _ _ _ _ hq
  · exact (got_no h).elim
theorem nogl16 (vs : List T) (p : Prop) (d : Decidable p) (sz : Nat) (xs : List T) (h : c16 vs = @Ans.gl p d sz xs) : False := by
  unfold c16 at h
  split at h <;> cases h
theorem pk16 (vs : List T) (p : Prop) (d : Decidable p) (x : T) (h : c16 vs = @Ans.pk p d x) (hp : p) : FnOk Tryd.prog tgl 16 vs x := by
  unfold c16 at h
  split at h
  · cases h
  · cases h
noncomputable def lE6 : List (Nat × (List T → Ans)) := (16, c16) :: lE5
noncomputable def iE6 : List (Nat × Pt) := iE5
noncomputable abbrev E6 : Env := En tgl lE6 iE6
theorem env_E6 : EnvOk Tryd.prog E6 := (env_fn env_E5 (fun _ _ => got16) (fun vs p d sz xs h _ => (nogl16 vs p d sz xs h).elim) pk16)
theorem ok14 (sl : Int) (xs : List T) (s : Int) (hq : IsR xs ∧ R64 s) : FnOk Tryd.prog tgl 14 [.agg [.int .i64 sl, .list 1 xs], .int .u64 s] (.int .u64 (iv (rchB (rowsOf xs) (fun _ => true) (bv s)))) := by
  refine fn_ok (Γ := E6) env_E6 Tryd.func14 low14 ?_
  obtain ⟨⟨L, rfl, hL, hl⟩, hs⟩ := hq
  rw [rowsOf_rs]
  have hR : IsR (rs L) := ⟨L, rfl, hL, hl⟩
  have hO := R_iv (own L)
  conv => whnf
  repeat' (first
    | (refine brK_true (by assumption) ?_; conv => whnf)
    | (refine brK_false (by assumption) ?_; conv => whnf)
    | (refine brK_true ?_ ?_; (focus (simp only [List.length_nil, not_t, not_f, lt_t, lt_f, le_t, le_f, eq_t, eq_f, us_len, is_len, bs_len, lenL_00, rowsOf_rs] <;> omega)); conv => whnf)
    | (refine brK_false ?_ ?_; (focus (simp only [List.length_nil, not_t, not_f, lt_t, lt_f, le_t, le_f, eq_t, eq_f, us_len, is_len, bs_len, lenL_00, rowsOf_rs] <;> omega)); conv => whnf)
    | ((refine brK_of (fun h => ?_) (fun h => ?_)) <;> (have h2 := h; (try simp only [List.length_nil, not_t, not_f, lt_t, lt_f, le_t, le_f, eq_t, eq_f, us_len, is_len, bs_len, lenL_00, rowsOf_rs] at h2); conv => whnf))
    | (refine reqK_of ?_ ?_; (focus (first | decide | omega | assumption | (simp only [List.length_nil, not_t, not_f, lt_t, lt_f, le_t, le_f, eq_t, eq_f, us_len, is_len, bs_len, lenL_00, rowsOf_rs] <;> omega) | (simp [keyNew, sameKey, kEq] <;> omega))); conv => whnf)
    | (refine reqK_of ?_ ?_; rotate_left; (conv => whnf); rotate_left)
    | (refine nth_us ?_ ?_ ?_; (focus (first | omega | (simp only [List.length_nil, not_t, not_f, lt_t, lt_f, le_t, le_f, eq_t, eq_f, us_len, is_len, bs_len, lenL_00, rowsOf_rs] <;> omega))); (focus (first | omega | (simp only [List.length_nil, not_t, not_f, lt_t, lt_f, le_t, le_f, eq_t, eq_f, us_len, is_len, bs_len, lenL_00, rowsOf_rs] <;> omega))); conv => whnf)
    | (refine nth_is ?_ ?_ ?_; (focus (first | omega | (simp only [List.length_nil, not_t, not_f, lt_t, lt_f, le_t, le_f, eq_t, eq_f, us_len, is_len, bs_len, lenL_00, rowsOf_rs] <;> omega))); (focus (first | omega | (simp only [List.length_nil, not_t, not_f, lt_t, lt_f, le_t, le_f, eq_t, eq_f, us_len, is_len, bs_len, lenL_00, rowsOf_rs] <;> omega))); conv => whnf)
    | (refine nth_bs ?_ ?_ ?_; (focus (first | omega | (simp only [List.length_nil, not_t, not_f, lt_t, lt_f, le_t, le_f, eq_t, eq_f, us_len, is_len, bs_len, lenL_00, rowsOf_rs] <;> omega))); (focus (first | omega | (simp only [List.length_nil, not_t, not_f, lt_t, lt_f, le_t, le_f, eq_t, eq_f, us_len, is_len, bs_len, lenL_00, rowsOf_rs] <;> omega))); conv => whnf))
  · rw [rowsOf_rs]; exact ⟨hR, hs, hO⟩
  · rw [rowsOf_rs]
    congr 2
    refine rchB_congr (fun o ho => ?_) fun o ho => rfl
    unfold orS
    rw [has_or, bv_iv, ho, Bool.or_true]
open Classical in
noncomputable def c14 : List T → Ans
  | [.agg [.int .i64 sl, .list 1 xs], .int .u64 s] => .req (IsR xs ∧ R64 s) (.int .u64 (iv (rchB (rowsOf xs) (fun _ => true) (bv s))))
  | _ => .no
theorem got14 {vs : List T} {x : T} (h : Got (c14 vs) x) : FnOk Tryd.prog tgl 14 vs x := by
  unfold c14 at h
  split at h
  · obtain ⟨hq, e⟩ := got_req h; rw [e]; exact ok14 _ _ _ hq
  · exact (got_no h).elim
theorem nogl14 (vs : List T) (p : Prop) (d : Decidable p) (sz : Nat) (xs : List T) (h : c14 vs = @Ans.gl p d sz xs) : False := by
  unfold c14 at h
  split at h <;> cases h
theorem pk14 (vs : List T) (p : Prop) (d : Decidable p) (x : T) (h : c14 vs = @Ans.pk p d x) (hp : p) : FnOk Tryd.prog tgl 14 vs x := by
  unfold c14 at h
  split at h
  · cases h
  · cases h
end Go.Nx
