/-
  THE SETS' LOOPS.
-/
import Derived.Test.YtlgnjeilhjhnkaaDoorRc
import Derived.Test.YtlgnjeilhjhnkaaDoorRn
set_option linter.unusedVariables false
set_option linter.unusedSimpArgs false
set_option maxRecDepth 20000
set_option maxHeartbeats 4000000
namespace Go.Nx
open Go.RowKit Go.Proofs

theorem is_snoc (a : List Int) (n : Int) : is a ++ [T.int .i64 n] = is (a ++ [n]) := by simp [is]
theorem ok40 (n : Int) : FnOk Tryd.prog tgl 40 [.int .i64 n] (.int .u64 (iv (first n))) := by
  refine fn_ok (Γ := E2) env_E2 Tryd.func40 low40 ?_
  conv => whnf
  refine loopUp [] [.kill 5, .kill 6, .kill 7, .kill 8, .kill 9, .kill 10, .kill 11, .kill 12, .kill 13, .kill 14, .kill 15, .kill 16] (fun k : Nat => [(3, .t (.int .u64 (iv (first k)))), (4, .t (.int .i64 ((k : Int) + 1)))]) (fun _ => []) (fun k => k ≤ 64 ∧ (k = 0 ∨ (k : Int) ≤ n)) (fun k => 64 - k) 0 ⟨Nat.zero_le _, .inl rfl⟩ ?_
  conv => whnf
  refine ⟨⟨by rw [show ((0 : Nat) : Int) = 0 from rfl, first_small 0 (by omega)]; rfl, rfl⟩, fun k hk C hC => ?_⟩
  obtain ⟨g1, g2⟩ := hk
  have hw : IntKind.i64.wrap ((k : Int) + 1 + 1) = (k : Int) + 1 + 1 := wrap_i64 ⟨by omega, by omega⟩
  have hR := R_iv (first (k : Int))
  conv => whnf
  repeat' (first
    | (refine brK_true (by assumption) ?_; conv => whnf)
    | (refine brK_false (by assumption) ?_; conv => whnf)
    | (refine brK_true ?_ ?_; (focus (simp only [List.length_nil, not_t, not_f, lt_t, lt_f, le_t, le_f, eq_t, eq_f, us_len, is_len, bs_len, lenL_00] <;> omega)); conv => whnf)
    | (refine brK_false ?_ ?_; (focus (simp only [List.length_nil, not_t, not_f, lt_t, lt_f, le_t, le_f, eq_t, eq_f, us_len, is_len, bs_len, lenL_00] <;> omega)); conv => whnf)
    | ((refine brK_of (fun h => ?_) (fun h => ?_)) <;> (have h2 := h; (try simp only [List.length_nil, not_t, not_f, lt_t, lt_f, le_t, le_f, eq_t, eq_f, us_len, is_len, bs_len, lenL_00] at h2); conv => whnf))
    | (refine reqK_of ?_ ?_; (focus (first | decide | omega | assumption | (simp only [List.length_nil, not_t, not_f, lt_t, lt_f, le_t, le_f, eq_t, eq_f, us_len, is_len, bs_len, lenL_00] <;> omega) | (simp [keyNew, sameKey, kEq] <;> omega))); conv => whnf)
    | (refine reqK_of ?_ ?_; rotate_left; (conv => whnf); rotate_left)
    | (refine nth_us ?_ ?_ ?_; (focus (first | omega | (simp only [List.length_nil, not_t, not_f, lt_t, lt_f, le_t, le_f, eq_t, eq_f, us_len, is_len, bs_len, lenL_00] <;> omega))); (focus (first | omega | (simp only [List.length_nil, not_t, not_f, lt_t, lt_f, le_t, le_f, eq_t, eq_f, us_len, is_len, bs_len, lenL_00] <;> omega))); conv => whnf)
    | (refine nth_is ?_ ?_ ?_; (focus (first | omega | (simp only [List.length_nil, not_t, not_f, lt_t, lt_f, le_t, le_f, eq_t, eq_f, us_len, is_len, bs_len, lenL_00] <;> omega))); (focus (first | omega | (simp only [List.length_nil, not_t, not_f, lt_t, lt_f, le_t, le_f, eq_t, eq_f, us_len, is_len, bs_len, lenL_00] <;> omega))); conv => whnf)
    | (refine nth_bs ?_ ?_ ?_; (focus (first | omega | (simp only [List.length_nil, not_t, not_f, lt_t, lt_f, le_t, le_f, eq_t, eq_f, us_len, is_len, bs_len, lenL_00] <;> omega))); (focus (first | omega | (simp only [List.length_nil, not_t, not_f, lt_t, lt_f, le_t, le_f, eq_t, eq_f, us_len, is_len, bs_len, lenL_00] <;> omega))); conv => whnf))
  · refine loopC (hC (k + 1) ⟨by omega, by omega⟩ (by omega)) ?_
    rw [hw, bv_iv]
    have := first_add ((k : Int) + 1) (by omega) (by omega)
    rw [show ((k : Int) + 1 - 1) = (k : Int) by omega] at this
    rw [this, Int.natCast_succ]
    rfl
  · rw [show (k : Int) = 64 by omega, ← first_big n (by omega)]
  · have e : first (k : Int) = first n := by
      rcases g2 with g2 | g2
      · subst g2; rw [first_small _ (by omega), first_small _ (by omega)]
      · rw [show (k : Int) = n by omega]
    rw [e]
open Classical in
noncomputable def c40 : List T → Ans
  | [.int .i64 n] => .yes (.int .u64 (iv (first n)))
  | _ => .no
theorem got40 {vs : List T} {x : T} (h : Got (c40 vs) x) : FnOk Tryd.prog tgl 40 vs x := by
  unfold c40 at h
  split at h
  · rw [got_yes h]; exact ok40 _
  · exact (got_no h).elim
theorem nogl40 (vs : List T) (p : Prop) (d : Decidable p) (sz : Nat) (xs : List T) (h : c40 vs = @Ans.gl p d sz xs) : False := by
  unfold c40 at h
  split at h <;> cases h
theorem pk40 (vs : List T) (p : Prop) (d : Decidable p) (x : T) (h : c40 vs = @Ans.pk p d x) (hp : p) : FnOk Tryd.prog tgl 40 vs x := by
  unfold c40 at h
  split at h
  · cases h
  · cases h
theorem ok42 (s : Int) (hq : R64 s) : FnOk Tryd.prog tgl 42 [.int .u64 s] (.list 1 (is (lsL (bv s)))) := by
  refine fn_ok (Γ := E2) env_E2 Tryd.func42 low42 ?_
  conv => whnf
  refine loopFn [.adopt 3 1001 1] (fun s => nzIf 79 s [.kill 5, .kill 6, .kill 7, .kill 8, .kill 9, .kill 10, .kill 11, .kill 12, .kill 13, .kill 14, .kill 15, .keep [79], .ren 79 1001] [.kill 5, .kill 6, .kill 7, .kill 8, .kill 9, .kill 10, .kill 11, .kill 12, .kill 13, .kill 14, .kill 15]) (fun k : Nat => [(3, .sl 1001 0 none), (4, .t (.int .i64 ((k : Int) + 1)))]) (fun k => [(1001, .lst 1 (is (lsN (bv s) k)) 1)]) (fun k => k ≤ 64) (fun k => 64 - k) 0 (Nat.zero_le _) ?_
  conv => whnf
  refine ⟨⟨rfl, rfl⟩, fun k hk C hC => ?_⟩
  have hw : IntKind.i64.wrap ((k : Int) + 1 + 1) = (k : Int) + 1 + 1 := wrap_i64 ⟨by omega, by omega⟩
  have hl := lsN_len (bv s) k
  conv => whnf
  repeat' (first
    | (refine brK_true (by assumption) ?_; conv => whnf)
    | (refine brK_false (by assumption) ?_; conv => whnf)
    | (refine brK_true ?_ ?_; (focus (simp only [List.length_nil, not_t, not_f, lt_t, lt_f, le_t, le_f, eq_t, eq_f, us_len, is_len, bs_len, lenL_00] <;> omega)); conv => whnf)
    | (refine brK_false ?_ ?_; (focus (simp only [List.length_nil, not_t, not_f, lt_t, lt_f, le_t, le_f, eq_t, eq_f, us_len, is_len, bs_len, lenL_00] <;> omega)); conv => whnf)
    | ((refine brK_of (fun h => ?_) (fun h => ?_)) <;> (have h2 := h; (try simp only [List.length_nil, not_t, not_f, lt_t, lt_f, le_t, le_f, eq_t, eq_f, us_len, is_len, bs_len, lenL_00] at h2); conv => whnf))
    | (refine reqK_of ?_ ?_; (focus (first | decide | omega | assumption | (simp only [List.length_nil, not_t, not_f, lt_t, lt_f, le_t, le_f, eq_t, eq_f, us_len, is_len, bs_len, lenL_00] <;> omega) | (simp [keyNew, sameKey, kEq] <;> omega))); conv => whnf)
    | (refine reqK_of ?_ ?_; rotate_left; (conv => whnf); rotate_left)
    | (refine nth_us ?_ ?_ ?_; (focus (first | omega | (simp only [List.length_nil, not_t, not_f, lt_t, lt_f, le_t, le_f, eq_t, eq_f, us_len, is_len, bs_len, lenL_00] <;> omega))); (focus (first | omega | (simp only [List.length_nil, not_t, not_f, lt_t, lt_f, le_t, le_f, eq_t, eq_f, us_len, is_len, bs_len, lenL_00] <;> omega))); conv => whnf)
    | (refine nth_is ?_ ?_ ?_; (focus (first | omega | (simp only [List.length_nil, not_t, not_f, lt_t, lt_f, le_t, le_f, eq_t, eq_f, us_len, is_len, bs_len, lenL_00] <;> omega))); (focus (first | omega | (simp only [List.length_nil, not_t, not_f, lt_t, lt_f, le_t, le_f, eq_t, eq_f, us_len, is_len, bs_len, lenL_00] <;> omega))); conv => whnf)
    | (refine nth_bs ?_ ?_ ?_; (focus (first | omega | (simp only [List.length_nil, not_t, not_f, lt_t, lt_f, le_t, le_f, eq_t, eq_f, us_len, is_len, bs_len, lenL_00] <;> omega))); (focus (first | omega | (simp only [List.length_nil, not_t, not_f, lt_t, lt_f, le_t, le_f, eq_t, eq_f, us_len, is_len, bs_len, lenL_00] <;> omega))); conv => whnf))
  · simp only [maxBytes, is_len, List.length_cons, List.length_nil]; omega
  · refine loopC (hC (k + 1) (by omega) (by omega)) ?_
    have h1 : has (bv s) ((k : Int) + 1) = true := by assumption
    rw [hw, subL_00, is_snoc, lsN, if_pos h1, Int.natCast_succ]
    rfl
  · refine loopC (hC (k + 1) (by omega) (by omega)) ?_
    have h1 : has (bv s) ((k : Int) + 1) = false := by assumption
    rw [hw, lsN, if_neg (by rw [h1]; decide), Int.natCast_succ]
    rfl
  · rw [show k = 64 by omega]; rfl
open Classical in
noncomputable def c42 : List T → Ans
  | [.int .u64 s] => .req (R64 s) (.list 1 (is (lsL (bv s))))
  | _ => .no
theorem got42 {vs : List T} {x : T} (h : Got (c42 vs) x) : FnOk Tryd.prog tgl 42 vs x := by
  unfold c42 at h
  split at h
  · obtain ⟨hq, e⟩ := got_req h; rw [e]; exact ok42 _ hq
  · exact (got_no h).elim
theorem nogl42 (vs : List T) (p : Prop) (d : Decidable p) (sz : Nat) (xs : List T) (h : c42 vs = @Ans.gl p d sz xs) : False := by
  unfold c42 at h
  split at h <;> cases h
theorem pk42 (vs : List T) (p : Prop) (d : Decidable p) (x : T) (h : c42 vs = @Ans.pk p d x) (hp : p) : FnOk Tryd.prog tgl 42 vs x := by
  unfold c42 at h
  split at h
  · cases h
  · cases h
theorem ofL_take {l : List Int} {k : Nat} (h : k < l.length) : ofL (l.take (k + 1)) = add (ofL (l.take k)) (at0 l k) := by
  have e : l[k]? = some (at0 l k) := by simp [at0, h]
  rw [List.take_add_one, e]
  exact ofL_snoc _ _
theorem ok43 (xs : List T) (hq : IsI xs ∧ Sz xs) : FnOk Tryd.prog tgl 43 [.list 1 xs] (.int .u64 (iv (ofL (nums xs)))) := by
  refine fn_ok (Γ := E2) env_E2 Tryd.func43 low43 ?_
  obtain ⟨⟨l, rfl, hl⟩, hs⟩ := hq
  rw [nums_is]
  have hlen : l.length ≤ 140737488355328 := by unfold Sz maxBytes at hs; rw [is_len] at hs; omega
  conv => whnf
  refine loopUp [] [.kill 5, .kill 6, .kill 7, .kill 8, .kill 9, .kill 10, .kill 11, .kill 12, .kill 13, .kill 14, .kill 15, .kill 16] (fun k : Nat => [(3, .t (.int .u64 (iv (ofL (l.take k))))), (4, .t (.int .i64 (k : Int)))]) (fun _ => []) (fun k => k ≤ l.length) (fun k => l.length - k) 0 (Nat.zero_le _) ?_
  conv => whnf
  refine ⟨⟨rfl, rfl⟩, fun k hk C hC => ?_⟩
  have hw : IntKind.i64.wrap ((k : Int) + 1) = (k : Int) + 1 := wrap_i64 ⟨by omega, by omega⟩
  have hR := R_iv (ofL (l.take k))
  conv => whnf
  repeat' (first
    | (refine brK_true (by assumption) ?_; conv => whnf)
    | (refine brK_false (by assumption) ?_; conv => whnf)
    | (refine brK_true ?_ ?_; (focus (simp only [List.length_nil, not_t, not_f, lt_t, lt_f, le_t, le_f, eq_t, eq_f, us_len, is_len, bs_len, lenL_00] <;> omega)); conv => whnf)
    | (refine brK_false ?_ ?_; (focus (simp only [List.length_nil, not_t, not_f, lt_t, lt_f, le_t, le_f, eq_t, eq_f, us_len, is_len, bs_len, lenL_00] <;> omega)); conv => whnf)
    | ((refine brK_of (fun h => ?_) (fun h => ?_)) <;> (have h2 := h; (try simp only [List.length_nil, not_t, not_f, lt_t, lt_f, le_t, le_f, eq_t, eq_f, us_len, is_len, bs_len, lenL_00] at h2); conv => whnf))
    | (refine reqK_of ?_ ?_; (focus (first | decide | omega | assumption | (simp only [List.length_nil, not_t, not_f, lt_t, lt_f, le_t, le_f, eq_t, eq_f, us_len, is_len, bs_len, lenL_00] <;> omega) | (simp [keyNew, sameKey, kEq] <;> omega))); conv => whnf)
    | (refine reqK_of ?_ ?_; rotate_left; (conv => whnf); rotate_left)
    | (refine nth_us ?_ ?_ ?_; (focus (first | omega | (simp only [List.length_nil, not_t, not_f, lt_t, lt_f, le_t, le_f, eq_t, eq_f, us_len, is_len, bs_len, lenL_00] <;> omega))); (focus (first | omega | (simp only [List.length_nil, not_t, not_f, lt_t, lt_f, le_t, le_f, eq_t, eq_f, us_len, is_len, bs_len, lenL_00] <;> omega))); conv => whnf)
    | (refine nth_is ?_ ?_ ?_; (focus (first | omega | (simp only [List.length_nil, not_t, not_f, lt_t, lt_f, le_t, le_f, eq_t, eq_f, us_len, is_len, bs_len, lenL_00] <;> omega))); (focus (first | omega | (simp only [List.length_nil, not_t, not_f, lt_t, lt_f, le_t, le_f, eq_t, eq_f, us_len, is_len, bs_len, lenL_00] <;> omega))); conv => whnf)
    | (refine nth_bs ?_ ?_ ?_; (focus (first | omega | (simp only [List.length_nil, not_t, not_f, lt_t, lt_f, le_t, le_f, eq_t, eq_f, us_len, is_len, bs_len, lenL_00] <;> omega))); (focus (first | omega | (simp only [List.length_nil, not_t, not_f, lt_t, lt_f, le_t, le_f, eq_t, eq_f, us_len, is_len, bs_len, lenL_00] <;> omega))); conv => whnf))
  · refine loopC (hC (k + 1) (by omega) (by omega)) ?_
    rw [hw, bv_iv, ← ofL_take (by omega), Int.natCast_succ]
    rfl
  · rw [List.take_of_length_le (by omega)]
open Classical in
noncomputable def c43 : List T → Ans
  | [.list 1 xs] => .req (IsI xs ∧ Sz xs) (.int .u64 (iv (ofL (nums xs))))
  | _ => .no
theorem got43 {vs : List T} {x : T} (h : Got (c43 vs) x) : FnOk Tryd.prog tgl 43 vs x := by
  unfold c43 at h
  split at h
  · obtain ⟨hq, e⟩ := got_req h; rw [e]; exact ok43 _ hq
  · exact (got_no h).elim
theorem nogl43 (vs : List T) (p : Prop) (d : Decidable p) (sz : Nat) (xs : List T) (h : c43 vs = @Ans.gl p d sz xs) : False := by
  unfold c43 at h
  split at h <;> cases h
theorem pk43 (vs : List T) (p : Prop) (d : Decidable p) (x : T) (h : c43 vs = @Ans.pk p d x) (hp : p) : FnOk Tryd.prog tgl 43 vs x := by
  unfold c43 at h
  split at h
  · cases h
  · cases h
noncomputable def lE3 : List (Nat × (List T → Ans)) := (39, c39) :: (40, c40) :: (42, c42) :: (43, c43) :: lE2
noncomputable def iE3 : List (Nat × Pt) := iE2
noncomputable abbrev E3 : Env := En tgl lE3 iE3
theorem env_E3 : EnvOk Tryd.prog E3 := (env_fn (env_fn (env_fn (env_fn env_E2 (fun _ _ => got43) (fun vs p d sz xs h _ => (nogl43 vs p d sz xs h).elim) pk43) (fun _ _ => got42) (fun vs p d sz xs h _ => (nogl42 vs p d sz xs h).elim) pk42) (fun _ _ => got40) (fun vs p d sz xs h _ => (nogl40 vs p d sz xs h).elim) pk40) (fun _ _ => got39) gl39 pk39)
end Go.Nx
