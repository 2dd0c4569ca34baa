/-
  conv => whnf
  repeat' (first
    | (refine brK_true (by assumption) ?_; conv => whnf)
    | (refine brK_false (by assumption) ?_; conv => whnf)
    | (refine brK_true ?_ ?_; (focus (simp only [List.length_nil, not_t, not_f, lt_t, lt_f, le_t, le_f, eq_t, eq_f, us_len, is_len, bs_len, lenL_00, NING ALONE.] <;> omega)); conv => whnf)
    | (refine brK_false ?_ ?_; (focus (simp only [List.length_nil, not_t, not_f, lt_t, lt_f, le_t, le_f, eq_t, eq_f, us_len, is_len, bs_len, lenL_00, NING ALONE.] <;> omega)); conv => whnf)
    | ((refine brK_of (fun h => ?_) (fun h => ?_)) <;> (have h2 := h; (try simp only [List.length_nil, not_t, not_f, lt_t, lt_f, le_t, le_f, eq_t, eq_f, us_len, is_len, bs_len, lenL_00, NING ALONE.] at h2); conv => whnf))
    | (refine reqK_of ?_ ?_; (focus (first | decide | omega | assumption | (simp only [List.length_nil, not_t, not_f, lt_t, lt_f, le_t, le_f, eq_t, eq_f, us_len, is_len, bs_len, lenL_00, NING ALONE.] <;> omega) | (simp [keyNew, sameKey, kEq] <;> omega))); conv => whnf)
    | (refine reqK_of ?_ ?_; rotate_left; (conv => whnf); rotate_left)
    | (refine nth_us ?_ ?_ ?_; (focus (first | omega | (simp only [List.length_nil, not_t, not_f, lt_t, lt_f, le_t, le_f, eq_t, eq_f, us_len, is_len, bs_len, lenL_00, NING ALONE.] <;> omega))); (focus (first | omega | (simp only [List.length_nil, not_t, not_f, lt_t, lt_f, le_t, le_f, eq_t, eq_f, us_len, is_len, bs_len, lenL_00, NING ALONE.] <;> omega))); conv => whnf)
    | (refine nth_is ?_ ?_ ?_; (focus (first | omega | (simp only [List.length_nil, not_t, not_f, lt_t, lt_f, le_t, le_f, eq_t, eq_f, us_len, is_len, bs_len, lenL_00, NING ALONE.] <;> omega))); (focus (first | omega | (simp only [List.length_nil, not_t, not_f, lt_t, lt_f, le_t, le_f, eq_t, eq_f, us_len, is_len, bs_len, lenL_00, NING ALONE.] <;> omega))); conv => whnf)
    | (refine nth_bs ?_ ?_ ?_; (focus (first | omega | (simp only [List.length_nil, not_t, not_f, lt_t, lt_f, le_t, le_f, eq_t, eq_f, us_len, is_len, bs_len, lenL_00, NING ALONE.] <;> omega))); (focus (first | omega | (simp only [List.length_nil, not_t, not_f, lt_t, lt_f, le_t, le_f, eq_t, eq_f, us_len, is_len, bs_len, lenL_00, NING ALONE.] <;> omega))); conv => whnf))
-/
import Derived.Test.YtlgnjeilhjhnkaaCg
set_option linter.unusedVariables false
set_option linter.unusedSimpArgs false
set_option maxRecDepth 20000
set_option maxHeartbeats 4000000
namespace Go.Nx
open Go.RowKit Go.Proofs

def goK (l : List Int) (c : Mach) : Nat → Nat → Nat
  | 0, k => k
  | f + 1, k => if (runN l c k).2.out = 0 then goK l c f (k + 1) else k
def runK (l : List Int) (c : Mach) (most : Int) : Nat := goK l c most.toNat 0
theorem goK_go {l : List Int} {c : Mach} {most : Int} {k : Nat} (h1 : (k : Int) < most) (h2 : (runN l c k).2.out = 0) : goK l c (most.toNat - k) k = goK l c (most.toNat - (k + 1)) (k + 1) := by
  rw [show most.toNat - k = (most.toNat - (k + 1)) + 1 by omega, goK, if_pos h2]
theorem goK_stop {l : List Int} {c : Mach} {most : Int} {k : Nat} (h : most ≤ (k : Int) ∨ (runN l c k).2.out ≠ 0) : goK l c (most.toNat - k) k = k := by
  by_cases e : (k : Int) < most
  · rw [show most.toNat - k = (most.toNat - (k + 1)) + 1 by omega, goK, if_neg]
    rcases h with h | h
    · omega
    · exact h
  · rw [show most.toNat - k = 0 by omega, goK]
noncomputable def lE9 : List (Nat × (List T → Ans)) := (10, c10) :: (11, c11) :: (23, c23) :: (24, c24) :: (12, c12) :: (13, c13) :: (16, c16) :: (28, c28) :: (14, c14) :: (15, c15) :: (17, c17) :: (18, c18) :: lE8
noncomputable def iE9 : List (Nat × Pt) := iE8
noncomputable abbrev E9 : Env := En tgl lE9 iE9
theorem env_E9 : EnvOk Try.prog E9 := (env_fn (env_fn (env_fn (env_fn (env_fn (env_fn (env_fn (env_fn (env_fn (env_fn (env_fn (env_fn env_E8 (fun _ _ => got18) fun vs p sz xs h _ => (nogl18 vs p sz xs h).elim) (fun _ _ => got17) fun vs p sz xs h _ => (nogl17 vs p sz xs h).elim) (fun _ _ => got15) fun vs p sz xs h _ => (nogl15 vs p sz xs h).elim) (fun _ _ => got14) fun vs p sz xs h _ => (nogl14 vs p sz xs h).elim) (fun _ _ => got28) fun vs p sz xs h _ => (nogl28 vs p sz xs h).elim) (fun _ _ => got16) fun vs p sz xs h _ => (nogl16 vs p sz xs h).elim) (fun _ _ => got13) fun vs p sz xs h _ => (nogl13 vs p sz xs h).elim) (fun _ _ => got12) fun vs p sz xs h _ => (nogl12 vs p sz xs h).elim) (fun _ _ => got24) fun vs p sz xs h _ => (nogl24 vs p sz xs h).elim) (fun _ _ => got23) fun vs p sz xs h _ => (nogl23 vs p sz xs h).elim) (fun _ _ => got11) fun vs p sz xs h _ => (nogl11 vs p sz xs h).elim) (fun _ _ => got10) fun vs p sz xs h _ => (nogl10 vs p sz xs h).elim)
theorem ok27 (xs : List T) (kind pc head next hh x y out most : Int) (hq : ((IsU xs ∧ Sz xs) ∧ R64 hh) ∧ most ≤ 1000) : FnOk Try.prog tgl 27 [.list 1 xs, .agg [.int .i64 kind, .int .i64 pc, .int .i64 head, .int .i64 next, .int .u64 hh, .int .i64 x, .int .i64 y, .int .i64 out], .int .i64 most] (.tup [.list 1 (us (runN (nums xs) ⟨kind, pc, head, next, hh, x, y, out⟩ (runK (nums xs) ⟨kind, pc, head, next, hh, x, y, out⟩ most)).1), (runN (nums xs) ⟨kind, pc, head, next, hh, x, y, out⟩ (runK (nums xs) ⟨kind, pc, head, next, hh, x, y, out⟩ most)).2.T, .int .i64 (runK (nums xs) ⟨kind, pc, head, next, hh, x, y, out⟩ most : Nat)]) := by
  refine fn_ok (Γ := E9) env_E9 Try.func27 low27 ?_
  obtain ⟨⟨⟨⟨l, rfl, hl⟩, hs⟩, hh64⟩, hm⟩ := hq
  rw [nums_us]
  have hinv := runN_inv (l := l) (c := ⟨kind, pc, head, next, hh, x, y, out⟩) hl hh64 hs
  have h0 : runN l ⟨kind, pc, head, next, hh, x, y, out⟩ 0 = (l, ⟨kind, pc, head, next, hh, x, y, out⟩) := rfl
  have hsu : ∀ k, runN l ⟨kind, pc, head, next, hh, x, y, out⟩ (k + 1) = (stepL (runN l ⟨kind, pc, head, next, hh, x, y, out⟩ k).1 (runN l ⟨kind, pc, head, next, hh, x, y, out⟩ k).2, stepC (runN l ⟨kind, pc, head, next, hh, x, y, out⟩ k).1 (runN l ⟨kind, pc, head, next, hh, x, y, out⟩ k).2) := fun k => rfl
  generalize hc : (⟨kind, pc, head, next, hh, x, y, out⟩ : Mach) = c at hinv h0 hsu ⊢
  conv => whnf
  repeat' (first
    | (refine brK_true (by assumption) ?_; conv => whnf)
    | (refine brK_false (by assumption) ?_; conv => whnf)
    | (refine brK_true ?_ ?_; (focus (simp only [List.length_nil, not_t, not_f, lt_t, lt_f, le_t, le_f, eq_t, eq_f, us_len, is_len, bs_len, lenL_00] <;> omega)); conv => whnf)
    | (refine brK_false ?_ ?_; (focus (simp only [List.length_nil, not_t, not_f, lt_t, lt_f, le_t, le_f, eq_t, eq_f, us_len, is_len, bs_len, lenL_00] <;> omega)); conv => whnf)
    | ((refine brK_of (fun h => ?_) (fun h => ?_)) <;> (have h2 := h; (try simp only [List.length_nil, not_t, not_f, lt_t, lt_f, le_t, le_f, eq_t, eq_f, us_len, is_len, bs_len, lenL_00] at h2); conv => whnf))
    | (refine reqK_of ?_ ?_; (focus (first | decide | omega | assumption | (simp only [List.length_nil, not_t, not_f, lt_t, lt_f, le_t, le_f, eq_t, eq_f, us_len, is_len, bs_len, lenL_00] <;> omega) | (simp [keyNew, sameKey, kEq] <;> omega))); conv => whnf)
    | (refine reqK_of ?_ ?_; rotate_left; (conv => whnf); rotate_left)
    | (refine nth_us ?_ ?_ ?_; (focus (first | omega | (simp only [List.length_nil, not_t, not_f, lt_t, lt_f, le_t, le_f, eq_t, eq_f, us_len, is_len, bs_len, lenL_00] <;> omega))); (focus (first | omega | (simp only [List.length_nil, not_t, not_f, lt_t, lt_f, le_t, le_f, eq_t, eq_f, us_len, is_len, bs_len, lenL_00] <;> omega))); conv => whnf)
    | (refine nth_is ?_ ?_ ?_; (focus (first | omega | (simp only [List.length_nil, not_t, not_f, lt_t, lt_f, le_t, le_f, eq_t, eq_f, us_len, is_len, bs_len, lenL_00] <;> omega))); (focus (first | omega | (simp only [List.length_nil, not_t, not_f, lt_t, lt_f, le_t, le_f, eq_t, eq_f, us_len, is_len, bs_len, lenL_00] <;> omega))); conv => whnf)
    | (refine nth_bs ?_ ?_ ?_; (focus (first | omega | (simp only [List.length_nil, not_t, not_f, lt_t, lt_f, le_t, le_f, eq_t, eq_f, us_len, is_len, bs_len, lenL_00] <;> omega))); (focus (first | omega | (simp only [List.length_nil, not_t, not_f, lt_t, lt_f, le_t, le_f, eq_t, eq_f, us_len, is_len, bs_len, lenL_00] <;> omega))); conv => whnf))
  refine loopSet [] [.kill 10, .kill 11, .kill 12, .kill 13, .kill 14, .kill 15, .kill 16, .kill 17, .kill 18, .kill 19, .kill 20, .kill 21, .kill 22, .kill 23, .kill 24, .kill 25] (fun k : Nat => [(0, .t (.list 1 (us (runN l c k).1))), (9, .t (.int .i64 (k : Int)))])
    (fun k => [(71, .cells [.t (.int .i64 0), .t (.int .i64 0), .t (.int .i64 0), .t (.int .i64 0), .t (.int .u64 0), .t (.int .i64 0), .t (.int .i64 0), .t (.int .i64 0)]), (68, .cells [.t (.int .i64 (runN l c k).2.kind), .t (.int .i64 (runN l c k).2.pc), .t (.int .i64 (runN l c k).2.head), .t (.int .i64 (runN l c k).2.next), .t (.int .u64 (runN l c k).2.h), .t (.int .i64 (runN l c k).2.x), .t (.int .i64 (runN l c k).2.y), .t (.int .i64 (runN l c k).2.out)])])
    (fun k => (k = 0 ∨ (k : Int) ≤ most) ∧ runK l c most = goK l c (most.toNat - k) k) (fun k => most.toNat - k) 0 ⟨.inl rfl, rfl⟩ ?_
  conv => whnf
  refine ⟨⟨?_, ?_⟩, fun k hk C hC => ?_⟩
  · rw [h0]; rfl
  · rw [h0, ← hc]; rfl
  obtain ⟨hk1, hk2⟩ := hk
  have hk' := (hinv k).1
  conv => whnf
  repeat' (first
    | (refine brK_true (by assumption) ?_; conv => whnf)
    | (refine brK_false (by assumption) ?_; conv => whnf)
    | (refine brK_true ?_ ?_; (focus (simp only [List.length_nil, not_t, not_f, lt_t, lt_f, le_t, le_f, eq_t, eq_f, us_len, is_len, bs_len, lenL_00] <;> omega)); conv => whnf)
    | (refine brK_false ?_ ?_; (focus (simp only [List.length_nil, not_t, not_f, lt_t, lt_f, le_t, le_f, eq_t, eq_f, us_len, is_len, bs_len, lenL_00] <;> omega)); conv => whnf)
    | ((refine brK_of (fun h => ?_) (fun h => ?_)) <;> (have h2 := h; (try simp only [List.length_nil, not_t, not_f, lt_t, lt_f, le_t, le_f, eq_t, eq_f, us_len, is_len, bs_len, lenL_00] at h2); conv => whnf))
    | (refine reqK_of ?_ ?_; (focus (first | decide | omega | assumption | (simp only [List.length_nil, not_t, not_f, lt_t, lt_f, le_t, le_f, eq_t, eq_f, us_len, is_len, bs_len, lenL_00] <;> omega) | (simp [keyNew, sameKey, kEq] <;> omega))); conv => whnf)
    | (refine reqK_of ?_ ?_; rotate_left; (conv => whnf); rotate_left)
    | (refine nth_us ?_ ?_ ?_; (focus (first | omega | (simp only [List.length_nil, not_t, not_f, lt_t, lt_f, le_t, le_f, eq_t, eq_f, us_len, is_len, bs_len, lenL_00] <;> omega))); (focus (first | omega | (simp only [List.length_nil, not_t, not_f, lt_t, lt_f, le_t, le_f, eq_t, eq_f, us_len, is_len, bs_len, lenL_00] <;> omega))); conv => whnf)
    | (refine nth_is ?_ ?_ ?_; (focus (first | omega | (simp only [List.length_nil, not_t, not_f, lt_t, lt_f, le_t, le_f, eq_t, eq_f, us_len, is_len, bs_len, lenL_00] <;> omega))); (focus (first | omega | (simp only [List.length_nil, not_t, not_f, lt_t, lt_f, le_t, le_f, eq_t, eq_f, us_len, is_len, bs_len, lenL_00] <;> omega))); conv => whnf)
    | (refine nth_bs ?_ ?_ ?_; (focus (first | omega | (simp only [List.length_nil, not_t, not_f, lt_t, lt_f, le_t, le_f, eq_t, eq_f, us_len, is_len, bs_len, lenL_00] <;> omega))); (focus (first | omega | (simp only [List.length_nil, not_t, not_f, lt_t, lt_f, le_t, le_f, eq_t, eq_f, us_len, is_len, bs_len, lenL_00] <;> omega))); conv => whnf))
  · have hw : IntKind.i64.wrap ((k : Int) + 1) = (k : Int) + 1 := wrap_i64 ⟨by omega, by omega⟩
    refine loopC (hC (k + 1) ⟨.inr (by omega), by rw [hk2]; exact goK_go (by assumption) (by assumption)⟩ (by omega)) ?_
    rw [hsu, hw, Int.natCast_succ]
    simp only [setL, List.set_cons_zero, List.set_cons_succ, nums_us]
  · rw [hk2, goK_stop (.inr (by assumption))]; rfl
  · rw [hk2, goK_stop (.inl (by assumption))]; rfl
open Classical in
noncomputable def c27 : List T → Ans
  | [.list 1 xs, .agg [.int .i64 kind, .int .i64 pc, .int .i64 head, .int .i64 next, .int .u64 hh, .int .i64 x, .int .i64 y, .int .i64 out], .int .i64 most] => .req (((IsU xs ∧ Sz xs) ∧ R64 hh) ∧ most ≤ 1000) (.tup [.list 1 (us (runN (nums xs) ⟨kind, pc, head, next, hh, x, y, out⟩ (runK (nums xs) ⟨kind, pc, head, next, hh, x, y, out⟩ most)).1), (runN (nums xs) ⟨kind, pc, head, next, hh, x, y, out⟩ (runK (nums xs) ⟨kind, pc, head, next, hh, x, y, out⟩ most)).2.T, .int .i64 (runK (nums xs) ⟨kind, pc, head, next, hh, x, y, out⟩ most : Nat)])
  | _ => .no
theorem got27 {vs : List T} {x : T} (h : Got (c27 vs) x) : FnOk Try.prog tgl 27 vs x := by
  unfold c27 at h
  split at h
  · obtain ⟨hq, e⟩ := got_req h; rw [e]; exact ok27 _ _ _ _ _ _ _ _ _ _ hq
  · exact (got_no h).elim
theorem nogl27 (vs : List T) (p : Prop) (sz : Nat) (xs : List T) (h : c27 vs = .gl p sz xs) : False := by
  unfold c27 at h
  split at h <;> cases h
end Go.Nx
