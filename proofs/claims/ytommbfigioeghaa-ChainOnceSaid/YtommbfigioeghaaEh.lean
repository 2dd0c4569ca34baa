/-
  conv => whnf
  repeat' (first
    | (refine brK_true (by assumption) ?_; conv => whnf)
    | (refine brK_false (by assumption) ?_; conv => whnf)
    | (refine brK_true ?_ ?_; (focus (simp only [List.length_nil, not_t, not_f, lt_t, lt_f, le_t, le_f, eq_t, eq_f, us_len, is_len, bs_len, lenL_00, NING ALONE.] <;> omega)); conv => whnf)
    | (refine brK_false ?_ ?_; (focus (simp only [List.length_nil, not_t, not_f, lt_t, lt_f, le_t, le_f, eq_t, eq_f, us_len, is_len, bs_len, lenL_00, NING ALONE.] <;> omega)); conv => whnf)
    | ((refine brK_of (fun h => ?_) (fun h => ?_)) <;> (have h2 := h; (try simp only [List.length_nil, not_t, not_f, lt_t, lt_f, le_t, le_f, eq_t, eq_f, us_len, is_len, bs_len, lenL_00, NING ALONE.] at h2); conv => whnf))
    | (refine reqK_of ?_ ?_; (focus (first | decide | omega | assumption | (simp only [List.length_nil, not_t, not_f, lt_t, lt_f, le_t, le_f, eq_t, eq_f, us_len, is_len, bs_len, lenL_00, NING ALONE.] <;> omega) | (simp [keyNew, sameKey, kEq] <;> omega))); conv => whnf)
    | (refine reqK_of ?_ ?_; rotate_left; (conv => whnf); rotate_left)
    | (refine nth_us ?_ ?_ ?_; (focus (first | omega | (simp only [List.length_nil, not_t, not_f, lt_t, lt_f, le_t, le_f, eq_t, eq_f, us_len, is_len, bs_len, lenL_00, NING ALONE.] <;> omega))); (focus (first | omega | (simp only [List.length_nil, not_t, not_f, lt_t, lt_f, le_t, le_f, eq_t, eq_f, us_len, is_len, bs_len, lenL_00, NING ALONE.] <;> omega))); conv => whnf)
    | (refine nth_is ?_ ?_ ?_; (focus (first | omega | (simp only [List.length_nil, not_t, not_f, lt_t, lt_f, le_t, le_f, eq_t, eq_f, us_len, is_len, bs_len, lenL_00, NING ALONE.] <;> omega))); (focus (first | omega | (simp only [List.length_nil, not_t, not_f, lt_t, lt_f, le_t, le_f, eq_t, eq_f, us_len, is_len, bs_len, lenL_00, NING ALONE.] <;> omega))); conv => whnf)
    | (refine nth_bs ?_ ?_ ?_; (focus (first | omega | (simp only [List.length_nil, not_t, not_f, lt_t, lt_f, le_t, le_f, eq_t, eq_f, us_len, is_len, bs_len, lenL_00, NING ALONE.] <;> omega))); (focus (first | omega | (simp only [List.length_nil, not_t, not_f, lt_t, lt_f, le_t, le_f, eq_t, eq_f, us_len, is_len, bs_len, lenL_00, NING ALONE.] <;> omega))); conv => whnf))
-/
import Derived.Test.YtommbfigioeghaaEg
set_option linter.unusedVariables false
set_option linter.unusedSimpArgs false
set_option maxRecDepth 20000
set_option maxHeartbeats 4000000
namespace Go.Nx
open Go.RowKit Go.Proofs

def goK (l : List Int) (c : Mach) : Nat → Nat → Nat
  | 0, k => k
  | f + 1, k => if (runN l c k).2.out = 0 then goK l c f (k + 1) else k
def runK (l : List Int) (c : Mach) (most : Int) : Nat := goK l c most.toNat 0
theorem goK_go {l : List Int} {c : Mach} {most : Int} {k : Nat} (h1 : (k : Int) < most) (h2 : (runN l c k).2.out = 0) : goK l c (most.toNat - k) k = goK l c (most.toNat - (k + 1)) (k + 1) := by
  rw [show most.toNat - k = (most.toNat - (k + 1)) + 1 by omega, goK, if_pos h2]
theorem goK_stop {l : List Int} {c : Mach} {most : Int} {k : Nat} (h : most ≤ (k : Int) ∨ (runN l c k).2.out ≠ 0) : goK l c (most.toNat - k) k = k := by
  by_cases e : (k : Int) < most
  · rw [show most.toNat - k = (most.toNat - (k + 1)) + 1 by omega, goK, if_neg]
    rcases h with h | h
    · omega
    · exact h
  · rw [show most.toNat - k = 0 by omega, goK]
noncomputable def lE9 : List (Nat × (List T → Ans)) := (42, c42) :: (41, c41) :: (43, c43) :: (39, c39) :: (44, c44) :: lE8
noncomputable def iE9 : List (Nat × Pt) := iE8
noncomputable abbrev E9 : Env := En tgl lE9 iE9
theorem env_E9 : EnvOk Try.prog E9 := (env_fn (env_fn (env_fn (env_fn (env_fn env_E8 (fun _ _ => got44) (fun vs p d sz xs h _ => (nogl44 vs p d sz xs h).elim) pk44) (fun _ _ => got39) (fun vs p d sz xs h _ => (nogl39 vs p d sz xs h).elim) pk39) (fun _ _ => got43) (fun vs p d sz xs h _ => (nogl43 vs p d sz xs h).elim) pk43) (fun _ _ => got41) (fun vs p d sz xs h _ => (nogl41 vs p d sz xs h).elim) pk41) (fun _ _ => got42) (fun vs p d sz xs h _ => (nogl42 vs p d sz xs h).elim) pk42)
theorem ok40 (xs : List T) (kind pc head next hh x y out most : Int) (hq : ((IsU xs ∧ Sz xs) ∧ R64 hh) ∧ most ≤ 1000) : FnOk Try.prog tgl 40 [.list 1 xs, .agg [.int .i64 kind, .int .i64 pc, .int .i64 head, .int .i64 next, .int .u64 hh, .int .i64 x, .int .i64 y, .int .i64 out], .int .i64 most] (.tup [.list 1 (us (runN (nums xs) ⟨kind, pc, head, next, hh, x, y, out⟩ (runK (nums xs) ⟨kind, pc, head, next, hh, x, y, out⟩ most)).1), (runN (nums xs) ⟨kind, pc, head, next, hh, x, y, out⟩ (runK (nums xs) ⟨kind, pc, head, next, hh, x, y, out⟩ most)).2.T, .int .i64 (runK (nums xs) ⟨kind, pc, head, next, hh, x, y, out⟩ most : Nat)]) := by
  refine fn_ok (Γ := E9) env_E9 Try.func40 low40 ?_
  obtain ⟨⟨⟨⟨l, rfl, hl⟩, hs⟩, hh64⟩, hm⟩ := hq
  rw [nums_us]
  have hinv := runN_inv (l := l) (c := ⟨kind, pc, head, next, hh, x, y, out⟩) hl hh64 hs
  have h0 : runN l ⟨kind, pc, head, next, hh, x, y, out⟩ 0 = (l, ⟨kind, pc, head, next, hh, x, y, out⟩) := rfl
  have hsu : ∀ k, runN l ⟨kind, pc, head, next, hh, x, y, out⟩ (k + 1) = (stepL (runN l ⟨kind, pc, head, next, hh, x, y, out⟩ k).1 (runN l ⟨kind, pc, head, next, hh, x, y, out⟩ k).2, stepC (runN l ⟨kind, pc, head, next, hh, x, y, out⟩ k).1 (runN l ⟨kind, pc, head, next, hh, x, y, out⟩ k).2) := fun k => rfl
  generalize hc : (⟨kind, pc, head, next, hh, x, y, out⟩ : Mach) = c at hinv h0 hsu ⊢
  conv => whnf
  repeat' (first
    | (refine brK_true (by assumption) ?_; conv => whnf)
    | (refine brK_false (by assumption) ?_; conv => whnf)
    | (refine brK_true ?_ ?_; (focus (simp only [List.length_nil, not_t, not_f, lt_t, lt_f, le_t, le_f, eq_t, eq_f, us_len, is_len, bs_len, lenL_00] <;> omega)); conv => whnf)
    | (refine brK_false ?_ ?_; (focus (simp only [List.length_nil, not_t, not_f, lt_t, lt_f, le_t, le_f, eq_t, eq_f, us_len, is_len, bs_len, lenL_00] <;> omega)); conv => whnf)
    | ((refine brK_of (fun h => ?_) (fun h => ?_)) <;> (have h2 := h; (try simp only [List.length_nil, not_t, not_f, lt_t, lt_f, le_t, le_f, eq_t, eq_f, us_len, is_len, bs_len, lenL_00] at h2); conv => whnf))
    | (refine reqK_of ?_ ?_; (focus (first | decide | omega | assumption | (simp only [List.length_nil, not_t, not_f, lt_t, lt_f, le_t, le_f, eq_t, eq_f, us_len, is_len, bs_len, lenL_00] <;> omega) | (simp [keyNew, sameKey, kEq] <;> omega))); conv => whnf)
    | (refine reqK_of ?_ ?_; rotate_left; (conv => whnf); rotate_left)
    | (refine nth_us ?_ ?_ ?_; (focus (first | omega | (simp only [List.length_nil, not_t, not_f, lt_t, lt_f, le_t, le_f, eq_t, eq_f, us_len, is_len, bs_len, lenL_00] <;> omega))); (focus (first | omega | (simp only [List.length_nil, not_t, not_f, lt_t, lt_f, le_t, le_f, eq_t, eq_f, us_len, is_len, bs_len, lenL_00] <;> omega))); conv => whnf)
    | (refine nth_is ?_ ?_ ?_; (focus (first | omega | (simp only [List.length_nil, not_t, not_f, lt_t, lt_f, le_t, le_f, eq_t, eq_f, us_len, is_len, bs_len, lenL_00] <;> omega))); (focus (first | omega | (simp only [List.length_nil, not_t, not_f, lt_t, lt_f, le_t, le_f, eq_t, eq_f, us_len, is_len, bs_len, lenL_00] <;> omega))); conv => whnf)
    | (refine nth_bs ?_ ?_ ?_; (focus (first | omega | (simp only [List.length_nil, not_t, not_f, lt_t, lt_f, le_t, le_f, eq_t, eq_f, us_len, is_len, bs_len, lenL_00] <;> omega))); (focus (first | omega | (simp only [List.length_nil, not_t, not_f, lt_t, lt_f, le_t, le_f, eq_t, eq_f, us_len, is_len, bs_len, lenL_00] <;> omega))); conv => whnf))
  refine loopSet [] [.kill 10, .kill 11, .kill 12, .kill 13, .kill 14, .kill 15, .kill 16, .kill 17, .kill 18, .kill 19, .kill 20, .kill 21, .kill 22, .kill 23, .kill 24, .kill 25] (fun k : Nat => [(0, .t (.list 1 (us (runN l c k).1))), (9, .t (.int .i64 (k : Int)))])
    (fun k => [(71, .cells [.t (.int .i64 0), .t (.int .i64 0), .t (.int .i64 0), .t (.int .i64 0), .t (.int .u64 0), .t (.int .i64 0), .t (.int .i64 0), .t (.int .i64 0)]), (68, .cells [.t (.int .i64 (runN l c k).2.kind), .t (.int .i64 (runN l c k).2.pc), .t (.int .i64 (runN l c k).2.head), .t (.int .i64 (runN l c k).2.next), .t (.int .u64 (runN l c k).2.h), .t (.int .i64 (runN l c k).2.x), .t (.int .i64 (runN l c k).2.y), .t (.int .i64 (runN l c k).2.out)])])
    (fun k => (k = 0 ∨ (k : Int) ≤ most) ∧ runK l c most = goK l c (most.toNat - k) k) (fun k => most.toNat - k) 0 ⟨.inl rfl, rfl⟩ ?_
  conv => whnf
  refine ⟨⟨?_, ?_⟩, fun k hk C hC => ?_⟩
  · rw [h0]; rfl
  · rw [h0, ← hc]; rfl
  obtain ⟨hk1, hk2⟩ := hk
  have hk' := (hinv k).1
  conv => whnf
  repeat' (first
    | (refine brK_true (by assumption) ?_; conv => whnf)
    | (refine brK_false (by assumption) ?_; conv => whnf)
    | (refine brK_true ?_ ?_; (focus (simp only [List.length_nil, not_t, not_f, lt_t, lt_f, le_t, le_f, eq_t, eq_f, us_len, is_len, bs_len, lenL_00] <;> omega)); conv => whnf)
    | (refine brK_false ?_ ?_; (focus (simp only [List.length_nil, not_t, not_f, lt_t, lt_f, le_t, le_f, eq_t, eq_f, us_len, is_len, bs_len, lenL_00] <;> omega)); conv => whnf)
    | ((refine brK_of (fun h => ?_) (fun h => ?_)) <;> (have h2 := h; (try simp only [List.length_nil, not_t, not_f, lt_t, lt_f, le_t, le_f, eq_t, eq_f, us_len, is_len, bs_len, lenL_00] at h2); conv => whnf))
    | (refine reqK_of ?_ ?_; (focus (first | decide | omega | assumption | (simp only [List.length_nil, not_t, not_f, lt_t, lt_f, le_t, le_f, eq_t, eq_f, us_len, is_len, bs_len, lenL_00] <;> omega) | (simp [keyNew, sameKey, kEq] <;> omega))); conv => whnf)
    | (refine reqK_of ?_ ?_; rotate_left; (conv => whnf); rotate_left)
    | (refine nth_us ?_ ?_ ?_; (focus (first | omega | (simp only [List.length_nil, not_t, not_f, lt_t, lt_f, le_t, le_f, eq_t, eq_f, us_len, is_len, bs_len, lenL_00] <;> omega))); (focus (first | omega | (simp only [List.length_nil, not_t, not_f, lt_t, lt_f, le_t, le_f, eq_t, eq_f, us_len, is_len, bs_len, lenL_00] <;> omega))); conv => whnf)
    | (refine nth_is ?_ ?_ ?_; (focus (first | omega | (simp only [List.length_nil, not_t, not_f, lt_t, lt_f, le_t, le_f, eq_t, eq_f, us_len, is_len, bs_len, lenL_00] <;> omega))); (focus (first | omega | (simp only [List.length_nil, not_t, not_f, lt_t, lt_f, le_t, le_f, eq_t, eq_f, us_len, is_len, bs_len, lenL_00] <;> omega))); conv => whnf)
    | (refine nth_bs ?_ ?_ ?_; (focus (first | omega | (simp only [List.length_nil, not_t, not_f, lt_t, lt_f, le_t, le_f, eq_t, eq_f, us_len, is_len, bs_len, lenL_00] <;> omega))); (focus (first | omega | (simp only [List.length_nil, not_t, not_f, lt_t, lt_f, le_t, le_f, eq_t, eq_f, us_len, is_len, bs_len, lenL_00] <;> omega))); conv => whnf))
  · have hw : IntKind.i64.wrap ((k : Int) + 1) = (k : Int) + 1 := wrap_i64 ⟨by omega, by omega⟩
    refine loopC (hC (k + 1) ⟨.inr (by omega), by rw [hk2]; exact goK_go (by assumption) (by assumption)⟩ (by omega)) ?_
    rw [hsu, hw, Int.natCast_succ]
    simp only [setL, List.set_cons_zero, List.set_cons_succ, nums_us]
  · rw [hk2, goK_stop (.inr (by assumption))]; rfl
  · rw [hk2, goK_stop (.inl (by assumption))]; rfl
open Classical in
noncomputable def c40 : List T → Ans
  | [.list 1 xs, .agg [.int .i64 kind, .int .i64 pc, .int .i64 head, .int .i64 next, .int .u64 hh, .int .i64 x, .int .i64 y, .int .i64 out], .int .i64 most] => .req (((IsU xs ∧ Sz xs) ∧ R64 hh) ∧ most ≤ 1000) (.tup [.list 1 (us (runN (nums xs) ⟨kind, pc, head, next, hh, x, y, out⟩ (runK (nums xs) ⟨kind, pc, head, next, hh, x, y, out⟩ most)).1), (runN (nums xs) ⟨kind, pc, head, next, hh, x, y, out⟩ (runK (nums xs) ⟨kind, pc, head, next, hh, x, y, out⟩ most)).2.T, .int .i64 (runK (nums xs) ⟨kind, pc, head, next, hh, x, y, out⟩ most : Nat)])
  | _ => .no
theorem got40 {vs : List T} {x : T} (h : Got (c40 vs) x) : FnOk Try.prog tgl 40 vs x := by
  unfold c40 at h
  split at h
  · obtain ⟨hq, e⟩ := got_req h; rw [e]; exact ok40 _ _ _ _ _ _ _ _ _ _ hq
  · exact (got_no h).elim
theorem nogl40 (vs : List T) (p : Prop) (d : Decidable p) (sz : Nat) (xs : List T) (h : c40 vs = @Ans.gl p d sz xs) : False := by
  unfold c40 at h
  split at h <;> cases h
theorem pk40 (vs : List T) (p : Prop) (d : Decidable p) (x : T) (h : c40 vs = @Ans.pk p d x) (hp : p) : FnOk Try.prog tgl 40 vs x := by
  unfold c40 at h
  split at h
  · cases h
  · cases h
end Go.Nx
