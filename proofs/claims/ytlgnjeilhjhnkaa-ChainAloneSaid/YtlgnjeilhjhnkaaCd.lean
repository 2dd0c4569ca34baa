/-
  THE DOCUMENT's STEP.
-/
import Derived.Test.YtlgnjeilhjhnkaaCc
set_option linter.unusedVariables false
set_option linter.unusedSimpArgs false
set_option maxRecDepth 20000
set_option maxHeartbeats 4000000
namespace Go.Nx
open Go.RowKit Go.Proofs

noncomputable def lE5 : List (Nat × (List T → Ans)) := (21, c21) :: (22, c22) :: lE3
noncomputable def iE5 : List (Nat × Pt) := iE3
noncomputable abbrev E5 : Env := En tgl lE5 iE5
theorem env_E5 : EnvOk Try.prog E5 := (env_fn (env_fn env_E3 (fun _ _ => got22) fun vs p sz xs h _ => (nogl22 vs p sz xs h).elim) (fun _ _ => got21) fun vs p sz xs h _ => (nogl21 vs p sz xs h).elim)
theorem ok11 (xs : List T) (kind pc head next hh x y out : Int) (hq : (IsU xs ∧ Sz xs) ∧ R64 hh) : FnOk Try.prog tgl 11 [.list 1 xs, .agg [.int .i64 kind, .int .i64 pc, .int .i64 head, .int .i64 next, .int .u64 hh, .int .i64 x, .int .i64 y, .int .i64 out]] (.tup [.list 1 (us (stepL (nums xs) ⟨kind, pc, head, next, hh, x, y, out⟩)), (stepC (nums xs) ⟨kind, pc, head, next, hh, x, y, out⟩).T]) := by
  refine fn_ok (Γ := E5) env_E5 Try.func11 low11 ?_
  obtain ⟨hq', hh64⟩ := hq
  obtain ⟨l, rfl, hl⟩ := hq'.1
  have hld : ∀ i, R64 (ldV (nums (us l)) i) := fun i => by rw [nums_us]; exact doV_R hl _ _
  rw [show us (stepL (nums (us l)) ⟨kind, pc, head, next, hh, x, y, out⟩) = us (stepL l ⟨kind, pc, head, next, hh, x, y, out⟩) by rw [nums_us], show (stepC (nums (us l)) ⟨kind, pc, head, next, hh, x, y, out⟩).T = (stepC l ⟨kind, pc, head, next, hh, x, y, out⟩).T by rw [nums_us]]
  conv => whnf
  repeat' (first | (refine brK_true (by assumption) ?_; conv => whnf) | (refine brK_false (by assumption) ?_; conv => whnf) | (refine brK_of (fun h => ?_) (fun h => ?_) <;> conv => whnf) | (refine reqK_of ?_ ?_; (focus (first | decide | omega | assumption | (simp [keyNew, sameKey, kEq] <;> omega))); conv => whnf) | (refine reqK_of ?_ ?_; rotate_left; (conv => whnf); rotate_left))
  all_goals (try (exact hld _))
  all_goals simp only [nums_us, us_len, not_t, not_f, lt_t, lt_f, le_t, le_f, eq_t, eq_f, mask_low, wrap_nd, wrapu_nd] at *
  all_goals clear hq' hl hld
  all_goals first
    | (exfalso; omega)
    | (have hn : ¬ act ⟨kind, pc, head, next, hh, x, y, out⟩ := by simp only [act]; omega
       exact step_eq ⟨by rw [stepL, if_neg hn], by rw [stepC, if_neg hn]⟩)
    | (have ha : act ⟨kind, pc, head, next, hh, x, y, out⟩ := by simp only [act]; omega
       obtain rfl : out = 0 := ha.1
       first
         | (have e : pc = 0 := by omega
            subst e)
         | (have e : pc = 1 := by omega
            subst e)
         | (have e : pc = 2 := by omega
            subst e)
       first
         | (have e : kind = 2 := by omega
            subst e)
         | (have e : kind = 1 := by omega
            subst e)
       refine step_eq ⟨?_, ?_⟩
       · simp [stepL, ha, vn]
       · first
           | (have e2 : doB l 3 head hh = true := by assumption
              simp [stepC, ha, e2, w01, w11, w21, wm1, w1, w2, w3, w0] <;> fail)
           | (have e2 : doB l 3 head hh = false := by assumption
              simp [stepC, ha, e2, w01, w11, w21, wm1, w1, w2, w3, w0] <;> fail)
           | (have e2 : nd (ldV l head) = 0 := by assumption
              simp [stepC, ha, e2, w01, w11, w21, wm1, w1, w2, w3, w0] <;> fail)
           | (have e2 : nd (ldV l head) ≠ 0 := by assumption
              simp [stepC, ha, e2, w01, w11, w21, wm1, w1, w2, w3, w0] <;> fail)
           | (simp [stepC, ha, w01, w11, w21, wm1, w1, w2, w3, w0] <;> fail)
           | trace_state)
    | trace_state
open Classical in
noncomputable def c11 : List T → Ans
  | [.list 1 xs, .agg [.int .i64 kind, .int .i64 pc, .int .i64 head, .int .i64 next, .int .u64 hh, .int .i64 x, .int .i64 y, .int .i64 out]] => .req ((IsU xs ∧ Sz xs) ∧ R64 hh) (.tup [.list 1 (us (stepL (nums xs) ⟨kind, pc, head, next, hh, x, y, out⟩)), (stepC (nums xs) ⟨kind, pc, head, next, hh, x, y, out⟩).T])
  | _ => .no
theorem got11 {vs : List T} {x : T} (h : Got (c11 vs) x) : FnOk Try.prog tgl 11 vs x := by
  unfold c11 at h
  split at h
  · obtain ⟨hq, e⟩ := got_req h; rw [e]; exact ok11 _ _ _ _ _ _ _ _ _ hq
  · exact (got_no h).elim
theorem nogl11 (vs : List T) (p : Prop) (sz : Nat) (xs : List T) (h : c11 vs = .gl p sz xs) : False := by
  unfold c11 at h
  split at h <;> cases h
end Go.Nx
