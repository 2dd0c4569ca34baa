/-
  DEQUES: NEW CELLS; RUNNING ALONE; ITEMS.
-/
import Derived.Test.YtommbfigioeghaaGd
set_option linter.unusedVariables false
set_option linter.unusedSimpArgs false
set_option maxRecDepth 20000
set_option maxHeartbeats 4000000
namespace Go.Nx
open Go.RowKit Go.Proofs

theorem sz_of {l r : List Int} (h : Sz (us l)) (e : r.length = l.length) : Sz (us r) := by unfold Sz at *; rw [us_len] at *; rw [e]; exact h
theorem stL_R {l : List Int} (hl : ∀ n ∈ l, R64 n) (i : Int) {v : Int} (hv : R64 v) : ∀ n ∈ stL l i v, R64 n := doL_R hl _ _ hv (by unfold R64; omega)
theorem wu_R (n : Int) : R64 (wu n) := wrapu_R n
theorem dmach_R {l : List Int} {d : DM} (hl : ∀ n ∈ l, R64 n) (hb : R64 d.b) (ht : R64 d.t) : (∀ n ∈ (dstep l d).1, R64 n) ∧ R64 (dstep l d).2.b ∧ R64 (dstep l d).2.t := by
  let Q : List Int × DM → Prop := fun X => (∀ n ∈ X.1, R64 n) ∧ R64 X.2.b ∧ R64 X.2.t
  have ld : ∀ i, R64 (ldV l i) := fun i => doV_R hl _ _
  show Q (dstep l d)
  unfold dstep
  repeat' (refine ite_q (Q := Q) ?_ ?_)
  all_goals first
    | exact ⟨hl, hb, ht⟩
    | exact ⟨hl, ld _, ht⟩
    | exact ⟨hl, hb, ld _⟩
    | exact ⟨stL_R hl _ (wu_R _), hb, ht⟩
    | exact ⟨stL_R hl _ hb, hb, ht⟩
    | exact ⟨doL_R hl _ _ ht (wu_R _), hb, ht⟩
    | (refine ⟨doL_R hl _ _ ht (wu_R _), ?_, ?_⟩ <;> (dsimp only; split <;> assumption))
/-- so many steps alone -/
def dN (l : List Int) (d : DM) : Nat → List Int × DM
  | 0 => (l, d)
  | k + 1 => dstep (dN l d k).1 (dN l d k).2
theorem dN_front (m : List Int) (c : DM) (k : Nat) : dN m c (k + 1) = dN (dstep m c).1 (dstep m c).2 k := by
  induction k with
  | zero => rfl
  | succ k ih => rw [dN, ih]; rfl
theorem dN_inv {l : List Int} {d : DM} (hl : ∀ n ∈ l, R64 n) (hb : R64 d.b) (ht : R64 d.t) (hs : Sz (us l)) (k : Nat) : ((IsU (us (dN l d k).1) ∧ Sz (us (dN l d k).1)) ∧ (dN l d k).2.cap = d.cap) ∧ R64 (dN l d k).2.b ∧ R64 (dN l d k).2.t := by
  have : (((∀ n ∈ (dN l d k).1, R64 n) ∧ (dN l d k).1.length = l.length) ∧ (dN l d k).2.cap = d.cap) ∧ R64 (dN l d k).2.b ∧ R64 (dN l d k).2.t := by
    induction k with
    | zero => exact ⟨⟨⟨hl, rfl⟩, rfl⟩, hb, ht⟩
    | succ k ih =>
      obtain ⟨h1, h2, h3⟩ := dmach_R ih.1.1.1 ih.2.1 ih.2.2
      exact ⟨⟨⟨h1, by rw [dN, dstep_len _ _ ih.2.1]; exact ih.1.1.2⟩, by rw [dN, (dstep_keep _ _).2.2]; exact ih.1.2⟩, h2, h3⟩
  exact ⟨⟨⟨isU_us this.1.1.1, sz_of hs this.1.1.2⟩, this.1.2⟩, this.2⟩
def dgoK (l : List Int) (c : DM) : Nat → Nat → Nat
  | 0, k => k
  | f + 1, k => if (dN l c k).2.out = 0 then dgoK l c f (k + 1) else k
def drunK (l : List Int) (c : DM) (most : Int) : Nat := dgoK l c most.toNat 0
theorem dgoK_go {l : List Int} {c : DM} {most : Int} {k : Nat} (h1 : (k : Int) < most) (h2 : (dN l c k).2.out = 0) : dgoK l c (most.toNat - k) k = dgoK l c (most.toNat - (k + 1)) (k + 1) := by
  rw [show most.toNat - k = (most.toNat - (k + 1)) + 1 by omega, dgoK, if_pos h2]
theorem dgoK_stop {l : List Int} {c : DM} {most : Int} {k : Nat} (h : most ≤ (k : Int) ∨ (dN l c k).2.out ≠ 0) : dgoK l c (most.toNat - k) k = k := by
  by_cases e : (k : Int) < most
  · rw [show most.toNat - k = (most.toNat - (k + 1)) + 1 by omega, dgoK, if_neg]
    rcases h with h | h
    · omega
    · exact h
  · rw [show most.toNat - k = 0 by omega, dgoK]
theorem ok60 (a b c d : Int) : FnOk Try.prog tgl 60 [.int .i64 a, .int .i64 b, .int .i64 c, .int .i64 d] (DM.T ⟨a, 0, b, c, 0, 0, d, 0⟩) := by
  refine fn_ok (Γ := E3) env_E3 Try.func60 low60 ?_
  conv => whnf
  repeat' (first
    | (refine brK_true rfl ?_; conv => whnf)
    | (refine brK_false rfl ?_; conv => whnf)
    | (refine brK_true (by assumption) ?_; conv => whnf)
    | (refine brK_false (by assumption) ?_; conv => whnf)
    | (refine brK_true ?_ ?_; (focus (simp only [List.length_nil, fx] <;> omega)); conv => whnf)
    | (refine brK_false ?_ ?_; (focus (simp only [List.length_nil, fx] <;> omega)); conv => whnf)
    | ((refine brK_of (fun h => ?_) (fun h => ?_)) <;> (have h2 := h; (try simp only [List.length_nil, fx] at h2); conv => whnf))
    | (refine reqK_of ?_ ?_; (focus (first | decide | omega | assumption | (simp only [List.length_nil, fx] <;> omega) | (simp [keyNew, sameKey, kEq] <;> omega))); conv => whnf)
    | (refine reqK_of ?_ ?_; rotate_left; (conv => whnf); rotate_left)
    | (refine nth_us ?_ ?_ ?_; (focus (first | omega | (simp only [List.length_nil, fx] <;> omega))); (focus (first | omega | (simp only [List.length_nil, fx] <;> omega))); conv => whnf)
    | (refine nth_is ?_ ?_ ?_; (focus (first | omega | (simp only [List.length_nil, fx] <;> omega))); (focus (first | omega | (simp only [List.length_nil, fx] <;> omega))); conv => whnf)
    | (refine nth_bs ?_ ?_ ?_; (focus (first | omega | (simp only [List.length_nil, fx] <;> omega))); (focus (first | omega | (simp only [List.length_nil, fx] <;> omega))); conv => whnf))
  rfl
open Classical in
noncomputable def c60 : List T → Ans
  | [.int .i64 a, .int .i64 b, .int .i64 c, .int .i64 d] => .yes (DM.T ⟨a, 0, b, c, 0, 0, d, 0⟩)
  | _ => .no
theorem got60 {vs : List T} {x : T} (h : Got (c60 vs) x) : FnOk Try.prog tgl 60 vs x := by
  unfold c60 at h
  split at h
  · rw [got_yes h]; exact ok60 _ _ _ _
  · exact (got_no h).elim
theorem nogl60 (vs : List T) (p : Prop) (d : Decidable p) (sz : Nat) (xs : List T) (h : c60 vs = @Ans.gl p d sz xs) : False := by
  unfold c60 at h
  split at h <;> cases h
theorem pk60 (vs : List T) (p : Prop) (d : Decidable p) (x : T) (h : c60 vs = @Ans.pk p d x) (hp : p) : FnOk Try.prog tgl 60 vs x := by
  unfold c60 at h
  split at h
  · cases h
  · cases h
noncomputable def lE8 : List (Nat × (List T → Ans)) := (60, c60) :: lE7
noncomputable def iE8 : List (Nat × Pt) := iE7
noncomputable abbrev E8 : Env := En tgl lE8 iE8
theorem env_E8 : EnvOk Try.prog E8 := (env_fn env_E7 (fun _ _ => got60) (fun vs p d sz xs h _ => (nogl60 vs p d sz xs h).elim) pk60)
theorem ok36 (xs : List T) (kind pc base cap b t x out most : Int) (hq : (((IsU xs ∧ Sz xs) ∧ I64 cap) ∧ R64 b ∧ R64 t) ∧ most ≤ 1000) : FnOk Try.prog tgl 36 [.list 1 xs, .agg [.int .i64 kind, .int .i64 pc, .int .i64 base, .int .i64 cap, .int .u64 b, .int .u64 t, .int .i64 x, .int .i64 out], .int .i64 most] (.tup [.list 1 (us (dN (nums xs) ⟨kind, pc, base, cap, b, t, x, out⟩ (drunK (nums xs) ⟨kind, pc, base, cap, b, t, x, out⟩ most)).1), (dN (nums xs) ⟨kind, pc, base, cap, b, t, x, out⟩ (drunK (nums xs) ⟨kind, pc, base, cap, b, t, x, out⟩ most)).2.T, .int .i64 (drunK (nums xs) ⟨kind, pc, base, cap, b, t, x, out⟩ most : Nat)]) := by
  refine fn_ok (Γ := E8) env_E8 Try.func36 low36 ?_
  obtain ⟨⟨⟨⟨⟨l, rfl, hl⟩, hs⟩, hcap⟩, hb64, ht64⟩, hm⟩ := hq
  rw [nums_us]
  have hinv := dN_inv (l := l) (d := ⟨kind, pc, base, cap, b, t, x, out⟩) hl hb64 ht64 hs
  have h0 : dN l ⟨kind, pc, base, cap, b, t, x, out⟩ 0 = (l, ⟨kind, pc, base, cap, b, t, x, out⟩) := rfl
  have hsu : ∀ k, dN l ⟨kind, pc, base, cap, b, t, x, out⟩ (k + 1) = dstep (dN l ⟨kind, pc, base, cap, b, t, x, out⟩ k).1 (dN l ⟨kind, pc, base, cap, b, t, x, out⟩ k).2 := fun k => rfl
  have hcc : (⟨kind, pc, base, cap, b, t, x, out⟩ : DM).cap = cap := rfl
  generalize hc : (⟨kind, pc, base, cap, b, t, x, out⟩ : DM) = c at hinv h0 hsu hcc ⊢
  conv => whnf
  repeat' (first
    | (refine brK_true rfl ?_; conv => whnf)
    | (refine brK_false rfl ?_; conv => whnf)
    | (refine brK_true (by assumption) ?_; conv => whnf)
    | (refine brK_false (by assumption) ?_; conv => whnf)
    | (refine brK_true ?_ ?_; (focus (simp only [List.length_nil, fx] <;> omega)); conv => whnf)
    | (refine brK_false ?_ ?_; (focus (simp only [List.length_nil, fx] <;> omega)); conv => whnf)
    | ((refine brK_of (fun h => ?_) (fun h => ?_)) <;> (have h2 := h; (try simp only [List.length_nil, fx] at h2); conv => whnf))
    | (refine reqK_of ?_ ?_; (focus (first | decide | omega | assumption | (simp only [List.length_nil, fx] <;> omega) | (simp [keyNew, sameKey, kEq] <;> omega))); conv => whnf)
    | (refine reqK_of ?_ ?_; rotate_left; (conv => whnf); rotate_left)
    | (refine nth_us ?_ ?_ ?_; (focus (first | omega | (simp only [List.length_nil, fx] <;> omega))); (focus (first | omega | (simp only [List.length_nil, fx] <;> omega))); conv => whnf)
    | (refine nth_is ?_ ?_ ?_; (focus (first | omega | (simp only [List.length_nil, fx] <;> omega))); (focus (first | omega | (simp only [List.length_nil, fx] <;> omega))); conv => whnf)
    | (refine nth_bs ?_ ?_ ?_; (focus (first | omega | (simp only [List.length_nil, fx] <;> omega))); (focus (first | omega | (simp only [List.length_nil, fx] <;> omega))); conv => whnf))
  refine loopUp [] [.kill 10, .kill 11, .kill 12, .kill 13, .kill 14, .kill 15, .kill 16, .kill 17, .kill 18, .kill 19, .kill 20, .kill 21, .kill 22, .kill 23, .kill 24, .kill 25] (fun k : Nat => [(0, .t (.list 1 (us (dN l c k).1))), (9, .t (.int .i64 (k : Int)))])
    (fun k => [(68, .cells [.t (.int .i64 (dN l c k).2.kind), .t (.int .i64 (dN l c k).2.pc), .t (.int .i64 (dN l c k).2.base), .t (.int .i64 (dN l c k).2.cap), .t (.int .u64 (dN l c k).2.b), .t (.int .u64 (dN l c k).2.t), .t (.int .i64 (dN l c k).2.x), .t (.int .i64 (dN l c k).2.out)])])
    (fun k => (k = 0 ∨ (k : Int) ≤ most) ∧ drunK l c most = dgoK l c (most.toNat - k) k) (fun k => most.toNat - k) 0 ⟨.inl rfl, rfl⟩ ?_
  conv => whnf
  refine ⟨⟨?_, ?_⟩, fun k hk C hC => ?_⟩
  · rw [h0]; rfl
  · rw [h0, ← hc]; rfl
  obtain ⟨hk1, hk2⟩ := hk
  have hk' : (IsU (us (dN l c k).1) ∧ Sz (us (dN l c k).1)) ∧ I64 (dN l c k).2.cap := ⟨(hinv k).1.1, by rw [(hinv k).1.2, hcc]; exact hcap⟩
  conv => whnf
  repeat' (first
    | (refine brK_true rfl ?_; conv => whnf)
    | (refine brK_false rfl ?_; conv => whnf)
    | (refine brK_true (by assumption) ?_; conv => whnf)
    | (refine brK_false (by assumption) ?_; conv => whnf)
    | (refine brK_true ?_ ?_; (focus (simp only [List.length_nil, fx] <;> omega)); conv => whnf)
    | (refine brK_false ?_ ?_; (focus (simp only [List.length_nil, fx] <;> omega)); conv => whnf)
    | ((refine brK_of (fun h => ?_) (fun h => ?_)) <;> (have h2 := h; (try simp only [List.length_nil, fx] at h2); conv => whnf))
    | (refine reqK_of ?_ ?_; (focus (first | decide | omega | assumption | (simp only [List.length_nil, fx] <;> omega) | (simp [keyNew, sameKey, kEq] <;> omega))); conv => whnf)
    | (refine reqK_of ?_ ?_; rotate_left; (conv => whnf); rotate_left)
    | (refine nth_us ?_ ?_ ?_; (focus (first | omega | (simp only [List.length_nil, fx] <;> omega))); (focus (first | omega | (simp only [List.length_nil, fx] <;> omega))); conv => whnf)
    | (refine nth_is ?_ ?_ ?_; (focus (first | omega | (simp only [List.length_nil, fx] <;> omega))); (focus (first | omega | (simp only [List.length_nil, fx] <;> omega))); conv => whnf)
    | (refine nth_bs ?_ ?_ ?_; (focus (first | omega | (simp only [List.length_nil, fx] <;> omega))); (focus (first | omega | (simp only [List.length_nil, fx] <;> omega))); conv => whnf))
  · have hw : IntKind.i64.wrap ((k : Int) + 1) = (k : Int) + 1 := wrap_i64 ⟨by omega, by omega⟩
    refine loopC (hC (k + 1) ⟨.inr (by omega), by rw [hk2]; exact dgoK_go (by assumption) (by assumption)⟩ (by omega)) ?_
    rw [hsu, hw, Int.natCast_succ]
    simp only [setL, List.set_cons_zero, List.set_cons_succ, nums_us]
    rfl
  · rw [hk2, dgoK_stop (.inr (by assumption))]; rfl
  · rw [hk2, dgoK_stop (.inl (by assumption))]; rfl
open Classical in
noncomputable def c36 : List T → Ans
  | [.list 1 xs, .agg [.int .i64 kind, .int .i64 pc, .int .i64 base, .int .i64 cap, .int .u64 b, .int .u64 t, .int .i64 x, .int .i64 out], .int .i64 most] => .req ((((IsU xs ∧ Sz xs) ∧ I64 cap) ∧ R64 b ∧ R64 t) ∧ most ≤ 1000) (.tup [.list 1 (us (dN (nums xs) ⟨kind, pc, base, cap, b, t, x, out⟩ (drunK (nums xs) ⟨kind, pc, base, cap, b, t, x, out⟩ most)).1), (dN (nums xs) ⟨kind, pc, base, cap, b, t, x, out⟩ (drunK (nums xs) ⟨kind, pc, base, cap, b, t, x, out⟩ most)).2.T, .int .i64 (drunK (nums xs) ⟨kind, pc, base, cap, b, t, x, out⟩ most : Nat)])
  | _ => .no
theorem got36 {vs : List T} {x : T} (h : Got (c36 vs) x) : FnOk Try.prog tgl 36 vs x := by
  unfold c36 at h
  split at h
  · obtain ⟨hq, e⟩ := got_req h; rw [e]; exact ok36 _ _ _ _ _ _ _ _ _ _ hq
  · exact (got_no h).elim
theorem nogl36 (vs : List T) (p : Prop) (d : Decidable p) (sz : Nat) (xs : List T) (h : c36 vs = @Ans.gl p d sz xs) : False := by
  unfold c36 at h
  split at h <;> cases h
theorem pk36 (vs : List T) (p : Prop) (d : Decidable p) (x : T) (h : c36 vs = @Ans.pk p d x) (hp : p) : FnOk Try.prog tgl 36 vs x := by
  unfold c36 at h
  split at h
  · cases h
  · cases h
end Go.Nx
