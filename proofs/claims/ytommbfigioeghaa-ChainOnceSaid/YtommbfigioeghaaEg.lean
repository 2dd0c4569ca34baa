/-
  LISTING; RUNNING ALONE.
-/
import Derived.Test.YtommbfigioeghaaEf
set_option linter.unusedVariables false
set_option linter.unusedSimpArgs false
set_option maxRecDepth 20000
set_option maxHeartbeats 4000000
namespace Go.Nx
open Go.RowKit Go.Proofs

theorem mach_R {l : List Int} {c : Mach} (hl : ∀ n ∈ l, R64 n) (hc : R64 c.h) : (∀ n ∈ stepL l c, R64 n) ∧ R64 (stepC l c).h := by
  constructor
  · unfold stepL
    repeat' split
    all_goals first
      | exact hl
      | exact stL_R hl _ (by have := R_nd c.h; unfold R64; omega)
      | exact doL_R hl _ _ hc (R_pk _ _)
  · unfold stepC
    repeat' split
    all_goals first
      | exact hc
      | exact doV_R hl _ _
theorem stepL_len (l : List Int) (c : Mach) : (stepL l c).length = l.length := by
  unfold stepL
  repeat' split
  all_goals first
    | rfl
    | exact stL_len _ _ _
    | exact doL_len _ _ _ _ _
/-- so many steps alone, till it ends -/
def runN (l : List Int) (c : Mach) : Nat → List Int × Mach
  | 0 => (l, c)
  | k + 1 => (stepL (runN l c k).1 (runN l c k).2, stepC (runN l c k).1 (runN l c k).2)
theorem runN_inv {l : List Int} {c : Mach} (hl : ∀ n ∈ l, R64 n) (hc : R64 c.h) (hs : Sz (us l)) (k : Nat) : (IsU (us (runN l c k).1) ∧ Sz (us (runN l c k).1)) ∧ R64 (runN l c k).2.h := by
  have : ((∀ n ∈ (runN l c k).1, R64 n) ∧ (runN l c k).1.length = l.length) ∧ R64 (runN l c k).2.h := by
    induction k with
    | zero => exact ⟨⟨hl, rfl⟩, hc⟩
    | succ k ih =>
      obtain ⟨h1, h2⟩ := mach_R ih.1.1 ih.2
      exact ⟨⟨h1, by rw [runN, stepL_len]; exact ih.1.2⟩, h2⟩
  exact ⟨⟨isU_us this.1.1, sz_of hs this.1.2⟩, this.2⟩
def lsN (l : List Int) (hd nx : Int) : Nat → List Int × Int
  | 0 => ([], nd (ldV l hd))
  | k + 1 => ((lsN l hd nx k).1 ++ [(lsN l hd nx k).2], IntKind.i64.wrap (ldV l (IntKind.i64.wrap (nx + (lsN l hd nx k).2))))
theorem lsN_len (l : List Int) (hd nx : Int) (k : Nat) : (lsN l hd nx k).1.length = k := by
  induction k with
  | zero => rfl
  | succ k ih => simp [lsN, ih]
def goL (l : List Int) (nx mo : Int) : Nat → List Int → Int → List Int
  | 0, out, _ => out
  | f + 1, out, x => if x ≠ 0 ∧ (out.length : Int) < mo ∧ out.length < 1000 then goL l nx mo f (out ++ [x]) (IntKind.i64.wrap (ldV l (IntKind.i64.wrap (nx + x)))) else out
def listL (l : List Int) (hd nx mo : Int) : List Int := goL l nx mo 1001 [] (nd (ldV l hd))
theorem goL_go {l : List Int} {hd nx mo : Int} {k : Nat} (hk : k < 1000) (h1 : (lsN l hd nx k).2 ≠ 0) (h2 : (k : Int) < mo) : goL l nx mo (1001 - k) (lsN l hd nx k).1 (lsN l hd nx k).2 = goL l nx mo (1001 - (k + 1)) (lsN l hd nx (k + 1)).1 (lsN l hd nx (k + 1)).2 := by
  have hlen := lsN_len l hd nx k
  rw [show 1001 - k = (1001 - (k + 1)) + 1 by omega, goL, if_pos ⟨h1, by omega, by omega⟩]
  rfl
theorem goL_stop {l : List Int} {hd nx mo : Int} {k : Nat} (hk : k ≤ 1000) (h : (lsN l hd nx k).2 = 0 ∨ mo ≤ (k : Int) ∨ 1000 ≤ k) : goL l nx mo (1001 - k) (lsN l hd nx k).1 (lsN l hd nx k).2 = (lsN l hd nx k).1 := by
  have hlen := lsN_len l hd nx k
  rw [show 1001 - k = (1000 - k) + 1 by omega, goL, if_neg]
  omega
theorem is_snoc (a : List Int) (n : Int) : is a ++ [T.int .i64 n] = is (a ++ [n]) := by simp [is]
noncomputable def lE8 : List (Nat × (List T → Ans)) := lE7
noncomputable def iE8 : List (Nat × Pt) := iE7
noncomputable abbrev E8 : Env := En tgl lE8 iE8
theorem env_E8 : EnvOk Try.prog E8 := env_E7
theorem ok44 (xs : List T) (hd nx mo : Int) (hq : IsU xs ∧ Sz xs) : FnOk Try.prog tgl 44 [.list 1 xs, .int .i64 hd, .int .i64 nx, .int .i64 mo] (.list 1 (is (listL (nums xs) hd nx mo))) := by
  refine fn_ok (Γ := E8) env_E8 Try.func44 low44 ?_
  have hq' := hq
  obtain ⟨⟨l, rfl, hl⟩, hs⟩ := hq
  have hR0 : ∀ i, R64 (ldV (nums (us l)) i) := fun i => by rw [nums_us]; exact doV_R hl _ _
  have hR1 := hR0 hd
  rw [show listL (nums (us l)) hd nx mo = listL l hd nx mo by rw [nums_us]]
  conv => whnf
  repeat' (first
    | (refine brK_true (by assumption) ?_; conv => whnf)
    | (refine brK_false (by assumption) ?_; conv => whnf)
    | (refine brK_true ?_ ?_; (focus (simp only [List.length_nil, not_t, not_f, lt_t, lt_f, le_t, le_f, eq_t, eq_f, us_len, is_len, bs_len, lenL_00] <;> omega)); conv => whnf)
    | (refine brK_false ?_ ?_; (focus (simp only [List.length_nil, not_t, not_f, lt_t, lt_f, le_t, le_f, eq_t, eq_f, us_len, is_len, bs_len, lenL_00] <;> omega)); conv => whnf)
    | ((refine brK_of (fun h => ?_) (fun h => ?_)) <;> (have h2 := h; (try simp only [List.length_nil, not_t, not_f, lt_t, lt_f, le_t, le_f, eq_t, eq_f, us_len, is_len, bs_len, lenL_00] at h2); conv => whnf))
    | (refine reqK_of ?_ ?_; (focus (first | decide | omega | assumption | (simp only [List.length_nil, not_t, not_f, lt_t, lt_f, le_t, le_f, eq_t, eq_f, us_len, is_len, bs_len, lenL_00] <;> omega) | (simp [keyNew, sameKey, kEq] <;> omega))); conv => whnf)
    | (refine reqK_of ?_ ?_; rotate_left; (conv => whnf); rotate_left)
    | (refine nth_us ?_ ?_ ?_; (focus (first | omega | (simp only [List.length_nil, not_t, not_f, lt_t, lt_f, le_t, le_f, eq_t, eq_f, us_len, is_len, bs_len, lenL_00] <;> omega))); (focus (first | omega | (simp only [List.length_nil, not_t, not_f, lt_t, lt_f, le_t, le_f, eq_t, eq_f, us_len, is_len, bs_len, lenL_00] <;> omega))); conv => whnf)
    | (refine nth_is ?_ ?_ ?_; (focus (first | omega | (simp only [List.length_nil, not_t, not_f, lt_t, lt_f, le_t, le_f, eq_t, eq_f, us_len, is_len, bs_len, lenL_00] <;> omega))); (focus (first | omega | (simp only [List.length_nil, not_t, not_f, lt_t, lt_f, le_t, le_f, eq_t, eq_f, us_len, is_len, bs_len, lenL_00] <;> omega))); conv => whnf)
    | (refine nth_bs ?_ ?_ ?_; (focus (first | omega | (simp only [List.length_nil, not_t, not_f, lt_t, lt_f, le_t, le_f, eq_t, eq_f, us_len, is_len, bs_len, lenL_00] <;> omega))); (focus (first | omega | (simp only [List.length_nil, not_t, not_f, lt_t, lt_f, le_t, le_f, eq_t, eq_f, us_len, is_len, bs_len, lenL_00] <;> omega))); conv => whnf))
  refine loopSet [.adopt 9 1000 1] [.kill 15, .kill 16, .kill 17, .kill 18, .kill 19, .kill 20, .kill 21, .kill 22, .kill 23, .kill 24, .kill 25, .kill 26, .kill 27, .kill 28, .kill 29, .kill 30, .kill 31, .kill 32, .kill 33, .gc, .ren 97 1000] (fun k : Nat => [(9, .sl 1000 0 none), (10, .t (.int .i64 (lsN l hd nx k).2))]) (fun k => [(1000, .lst 1 (is (lsN l hd nx k).1) 1)])
    (fun k => k ≤ 1000 ∧ listL l hd nx mo = goL l nx mo (1001 - k) (lsN l hd nx k).1 (lsN l hd nx k).2) (fun k => 1000 - k) 0 ⟨by omega, rfl⟩ ?_
  conv => whnf
  refine ⟨⟨?_, rfl⟩, fun k hk C hC => ?_⟩
  · simp only [nums_us]; rfl
  obtain ⟨hk1, hk2⟩ := hk
  have hlen := lsN_len l hd nx k
  conv => whnf
  repeat' (first
    | (refine brK_true (by assumption) ?_; conv => whnf)
    | (refine brK_false (by assumption) ?_; conv => whnf)
    | (refine brK_true ?_ ?_; (focus (simp only [List.length_nil, not_t, not_f, lt_t, lt_f, le_t, le_f, eq_t, eq_f, us_len, is_len, bs_len, lenL_00, minI_def] <;> omega)); conv => whnf)
    | (refine brK_false ?_ ?_; (focus (simp only [List.length_nil, not_t, not_f, lt_t, lt_f, le_t, le_f, eq_t, eq_f, us_len, is_len, bs_len, lenL_00, minI_def] <;> omega)); conv => whnf)
    | ((refine brK_of (fun h => ?_) (fun h => ?_)) <;> (have h2 := h; (try simp only [List.length_nil, not_t, not_f, lt_t, lt_f, le_t, le_f, eq_t, eq_f, us_len, is_len, bs_len, lenL_00, minI_def] at h2); conv => whnf))
    | (refine reqK_of ?_ ?_; (focus (first | decide | omega | assumption | (simp only [List.length_nil, not_t, not_f, lt_t, lt_f, le_t, le_f, eq_t, eq_f, us_len, is_len, bs_len, lenL_00, minI_def] <;> omega) | (simp [keyNew, sameKey, kEq] <;> omega))); conv => whnf)
    | (refine reqK_of ?_ ?_; rotate_left; (conv => whnf); rotate_left)
    | (refine nth_us ?_ ?_ ?_; (focus (first | omega | (simp only [List.length_nil, not_t, not_f, lt_t, lt_f, le_t, le_f, eq_t, eq_f, us_len, is_len, bs_len, lenL_00, minI_def] <;> omega))); (focus (first | omega | (simp only [List.length_nil, not_t, not_f, lt_t, lt_f, le_t, le_f, eq_t, eq_f, us_len, is_len, bs_len, lenL_00, minI_def] <;> omega))); conv => whnf)
    | (refine nth_is ?_ ?_ ?_; (focus (first | omega | (simp only [List.length_nil, not_t, not_f, lt_t, lt_f, le_t, le_f, eq_t, eq_f, us_len, is_len, bs_len, lenL_00, minI_def] <;> omega))); (focus (first | omega | (simp only [List.length_nil, not_t, not_f, lt_t, lt_f, le_t, le_f, eq_t, eq_f, us_len, is_len, bs_len, lenL_00, minI_def] <;> omega))); conv => whnf)
    | (refine nth_bs ?_ ?_ ?_; (focus (first | omega | (simp only [List.length_nil, not_t, not_f, lt_t, lt_f, le_t, le_f, eq_t, eq_f, us_len, is_len, bs_len, lenL_00, minI_def] <;> omega))); (focus (first | omega | (simp only [List.length_nil, not_t, not_f, lt_t, lt_f, le_t, le_f, eq_t, eq_f, us_len, is_len, bs_len, lenL_00, minI_def] <;> omega))); conv => whnf))
  · rw [is_len, hlen]; simp only [List.length_cons, List.length_nil, maxBytes]; omega
  · have h3 : (k : Int) < mo ∧ k < 1000 := by
      rw [hlen] at h2
      split at h2 <;> omega
    refine loopC (hC (k + 1) ⟨by omega, by rw [hk2]; exact goL_go h3.2 (by assumption) h3.1⟩ (by omega)) ?_
    simp only [lsN, setL, List.set_cons_zero, List.set_cons_succ, nums_us, subL_00, is_snoc]
    rfl
  · rw [subL_00, hk2, goL_stop hk1 ?_]
    rw [hlen] at h2
    split at h2 <;> omega
  · rw [subL_00, hk2, goL_stop hk1 (.inl (by assumption))]
open Classical in
noncomputable def c44 : List T → Ans
  | [.list 1 xs, .int .i64 hd, .int .i64 nx, .int .i64 mo] => .req (IsU xs ∧ Sz xs) (.list 1 (is (listL (nums xs) hd nx mo)))
  | _ => .no
theorem got44 {vs : List T} {x : T} (h : Got (c44 vs) x) : FnOk Try.prog tgl 44 vs x := by
  unfold c44 at h
  split at h
  · obtain ⟨hq, e⟩ := got_req h; rw [e]; exact ok44 _ _ _ _ hq
  · exact (got_no h).elim
theorem nogl44 (vs : List T) (p : Prop) (d : Decidable p) (sz : Nat) (xs : List T) (h : c44 vs = @Ans.gl p d sz xs) : False := by
  unfold c44 at h
  split at h <;> cases h
theorem pk44 (vs : List T) (p : Prop) (d : Decidable p) (x : T) (h : c44 vs = @Ans.pk p d x) (hp : p) : FnOk Try.prog tgl 44 vs x := by
  unfold c44 at h
  split at h
  · cases h
  · cases h
end Go.Nx
