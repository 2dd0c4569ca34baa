/-
  CHAIN TELLS.
-/
import Derived.Test.YtlgnjeilhjhnkaaCi
set_option linter.unusedVariables false
set_option linter.unusedSimpArgs false
set_option maxRecDepth 20000
set_option maxHeartbeats 4000000
namespace Go.Nx
open Go.RowKit Go.Proofs

theorem eqL_self (a : List Int) : eqL a a = true := by simp [eqL]
theorem wrapi_I (n : Int) : I64 (IntKind.i64.wrap n) := by
  rw [IntKind.wrap_i64]; unfold I64; omega
theorem nd_I (h : Int) : I64 (nd h) := by have := R_nd h; unfold I64; omega
theorem stepL_inv {l : List Int} {c : Mach} (hl : ∀ n ∈ l, R64 n) (hs : Sz (us l)) (hc : R64 c.h) : IsU (us (stepL l c)) ∧ Sz (us (stepL l c)) := ⟨isU_us (mach_R hl hc).1, sz_of hs (stepL_len l c)⟩
theorem layL_inv {m : List Int} {hd nx : Int} {r : List Int} (hm : ∀ n ∈ m, R64 n) (hs : Sz (us m)) : IsU (us (layL m hd nx r)) ∧ Sz (us (layL m hd nx r)) := by
  have h : (∀ n ∈ layN m nx r r.length, R64 n) ∧ (layN m nx r r.length).length = m.length := by
    generalize r.length = k
    induction k with
    | zero => exact ⟨hm, rfl⟩
    | succ k ih => exact ⟨stL_R ih.1 _ (wrapu_R _), by rw [layN, stL_len]; exact ih.2⟩
  refine ⟨isU_us (stL_R h.1 _ (R_pk _ _)), sz_of hs ?_⟩
  rw [layL, stL_len]; exact h.2
theorem goL_inv {l : List Int} {nx mo : Int} : ∀ (f : Nat) (out : List Int) (x : Int), (∀ n ∈ out, I64 n) → out.length ≤ 1000 → I64 x → (∀ n ∈ goL l nx mo f out x, I64 n) ∧ (goL l nx mo f out x).length ≤ 1000
  | 0, out, x, h1, h2, _ => ⟨h1, h2⟩
  | f + 1, out, x, h1, h2, h3 => by
    rw [goL]
    split
    · refine goL_inv f _ _ (fun n hn => ?_) (by simp; omega) (wrapi_I _)
      rcases List.mem_append.1 hn with h | h
      · exact h1 n h
      · simp at h; subst h; exact h3
    · exact ⟨h1, h2⟩
theorem listL_inv (l : List Int) (hd nx mo : Int) : IsI (is (listL l hd nx mo)) ∧ Sz (is (listL l hd nx mo)) := by
  obtain ⟨h1, h2⟩ := goL_inv (l := l) (nx := nx) (mo := mo) 1001 [] (nd (ldV l hd)) (fun n h => by cases h) (by simp) (nd_I _)
  refine ⟨isI_is h1, ?_⟩
  unfold Sz maxBytes
  rw [is_len]
  unfold listL; omega
noncomputable def lEA : List (Nat × (List T → Ans)) := (27, c27) :: lE9
noncomputable def iEA : List (Nat × Pt) := iE9
noncomputable abbrev EA : Env := En tgl lEA iEA
theorem env_EA : EnvOk Try.prog EA := (env_fn env_E9 (fun _ _ => got27) fun vs p sz xs h _ => (nogl27 vs p sz xs h).elim)
noncomputable def lEB : List (Nat × (List T → Ans)) := (9, c9) :: lEA
noncomputable def iEB : List (Nat × Pt) := iEA
noncomputable abbrev EB : Env := En tgl lEB iEB
theorem env_EB : EnvOk Try.prog EB := (env_fn env_EA (fun _ _ => got9) fun vs p sz xs h _ => (nogl9 vs p sz xs h).elim)
theorem ok3 (xs : List T) (kind pc head next hh x y out most v : Int) (ys : List T) (hq : (((IsU xs ∧ Sz xs) ∧ R64 hh) ∧ IsI ys ∧ Sz ys) ∧ R64 v) : FnOk Try.prog tgl 3 [.list 1 xs, .agg [.int .i64 kind, .int .i64 pc, .int .i64 head, .int .i64 next, .int .u64 hh, .int .i64 x, .int .i64 y, .int .i64 out], .list 1 ys, .int .i64 most, .int .u64 v] (.bool true) := by
  refine fn_ok (Γ := EB) env_EB Try.func3 low3 ?_
  obtain ⟨⟨⟨hq1, hh64⟩, hi⟩, hv⟩ := hq
  obtain ⟨⟨l, rfl, hl⟩, hs⟩ := hq1
  have hq1 : IsU (us l) ∧ Sz (us l) := ⟨isU_us hl, hs⟩
  have n1 := nums_us l
  conv => whnf
  repeat' (first
    | (refine brK_true (by assumption) ?_; conv => whnf)
    | (refine brK_false (by assumption) ?_; conv => whnf)
    | (refine brK_true ?_ ?_; (focus (simp only [List.length_nil, not_t, not_f, lt_t, lt_f, le_t, le_f, eq_t, eq_f, us_len, is_len, bs_len, lenL_00, eqL_self, eqI_self, Bool.and_self, Bool.not_true] <;> omega)); conv => whnf)
    | (refine brK_false ?_ ?_; (focus (simp only [List.length_nil, not_t, not_f, lt_t, lt_f, le_t, le_f, eq_t, eq_f, us_len, is_len, bs_len, lenL_00, eqL_self, eqI_self, Bool.and_self, Bool.not_true] <;> omega)); conv => whnf)
    | ((refine brK_of (fun h => ?_) (fun h => ?_)) <;> (have h2 := h; (try simp only [List.length_nil, not_t, not_f, lt_t, lt_f, le_t, le_f, eq_t, eq_f, us_len, is_len, bs_len, lenL_00, eqL_self, eqI_self, Bool.and_self, Bool.not_true] at h2); conv => whnf))
    | (refine reqK_of ?_ ?_; (focus (first | decide | omega | assumption | (simp only [List.length_nil, not_t, not_f, lt_t, lt_f, le_t, le_f, eq_t, eq_f, us_len, is_len, bs_len, lenL_00, eqL_self, eqI_self, Bool.and_self, Bool.not_true] <;> omega) | (simp [keyNew, sameKey, kEq] <;> omega))); conv => whnf)
    | (refine reqK_of ?_ ?_; rotate_left; (conv => whnf); rotate_left)
    | (refine nth_us ?_ ?_ ?_; (focus (first | omega | (simp only [List.length_nil, not_t, not_f, lt_t, lt_f, le_t, le_f, eq_t, eq_f, us_len, is_len, bs_len, lenL_00, eqL_self, eqI_self, Bool.and_self, Bool.not_true] <;> omega))); (focus (first | omega | (simp only [List.length_nil, not_t, not_f, lt_t, lt_f, le_t, le_f, eq_t, eq_f, us_len, is_len, bs_len, lenL_00, eqL_self, eqI_self, Bool.and_self, Bool.not_true] <;> omega))); conv => whnf)
    | (refine nth_is ?_ ?_ ?_; (focus (first | omega | (simp only [List.length_nil, not_t, not_f, lt_t, lt_f, le_t, le_f, eq_t, eq_f, us_len, is_len, bs_len, lenL_00, eqL_self, eqI_self, Bool.and_self, Bool.not_true] <;> omega))); (focus (first | omega | (simp only [List.length_nil, not_t, not_f, lt_t, lt_f, le_t, le_f, eq_t, eq_f, us_len, is_len, bs_len, lenL_00, eqL_self, eqI_self, Bool.and_self, Bool.not_true] <;> omega))); conv => whnf)
    | (refine nth_bs ?_ ?_ ?_; (focus (first | omega | (simp only [List.length_nil, not_t, not_f, lt_t, lt_f, le_t, le_f, eq_t, eq_f, us_len, is_len, bs_len, lenL_00, eqL_self, eqI_self, Bool.and_self, Bool.not_true] <;> omega))); (focus (first | omega | (simp only [List.length_nil, not_t, not_f, lt_t, lt_f, le_t, le_f, eq_t, eq_f, us_len, is_len, bs_len, lenL_00, eqL_self, eqI_self, Bool.and_self, Bool.not_true] <;> omega))); conv => whnf))
  all_goals first
    | exact ⟨hq1, hh64⟩
    | exact ⟨hq1, hi⟩
    | (rw [n1]; exact ⟨stepL_inv hl hs hh64, (stepL_inv hl hs hh64).1⟩)
    | (rw [n1]; exact ⟨layL_inv hl hs, (layL_inv hl hs).1⟩)
    | (rw [n1]; exact ⟨listL_inv _ _ _ _, (listL_inv _ _ _ _).1⟩)
    | rfl
    | (simp [eqI_self] <;> fail)
    | trace_state
open Classical in
noncomputable def c3 : List T → Ans
  | [.list 1 xs, .agg [.int .i64 kind, .int .i64 pc, .int .i64 head, .int .i64 next, .int .u64 hh, .int .i64 x, .int .i64 y, .int .i64 out], .list 1 ys, .int .i64 most, .int .u64 v] => .req ((((IsU xs ∧ Sz xs) ∧ R64 hh) ∧ IsI ys ∧ Sz ys) ∧ R64 v) (.bool true)
  | _ => .no
theorem got3 {vs : List T} {x : T} (h : Got (c3 vs) x) : FnOk Try.prog tgl 3 vs x := by
  unfold c3 at h
  split at h
  · obtain ⟨hq, e⟩ := got_req h; rw [e]; exact ok3 _ _ _ _ _ _ _ _ _ _ _ _ hq
  · exact (got_no h).elim
theorem nogl3 (vs : List T) (p : Prop) (sz : Nat) (xs : List T) (h : c3 vs = .gl p sz xs) : False := by
  unfold c3 at h
  split at h <;> cases h
end Go.Nx
