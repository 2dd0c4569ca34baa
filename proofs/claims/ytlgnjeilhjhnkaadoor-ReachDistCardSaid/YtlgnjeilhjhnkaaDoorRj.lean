/-
  REACH: three laws, walked.
-/
import Derived.Test.YtlgnjeilhjhnkaaDoorRi
set_option linter.unusedVariables false
set_option linter.unusedSimpArgs false
set_option maxRecDepth 20000
set_option maxHeartbeats 4000000
namespace Go.Nx
open Go.RowKit Go.Proofs

theorem ok10 (sl : Int) (xs : List T) : FnOk Tryd.prog tgl 10 [.agg [.int .i64 sl, .list 1 xs]] (.agg [.int .i64 sl, .list 1 xs]) := by
  refine fn_ok (Γ := E7) env_E7 Tryd.func10 low10 ?_
  conv => whnf
  repeat' (first | (refine brK_true (by assumption) ?_; conv => whnf) | (refine brK_false (by assumption) ?_; conv => whnf) | (refine brK_of (fun h => ?_) (fun h => ?_) <;> conv => whnf) | (refine reqK_of ?_ ?_; (focus (first | decide | omega | assumption | (simp [keyNew, sameKey, kEq] <;> omega))); conv => whnf) | (refine reqK_of ?_ ?_; rotate_left; (conv => whnf); rotate_left))
open Classical in
noncomputable def c10 : List T → Ans
  | [.agg [.int .i64 sl, .list 1 xs]] => .yes (.agg [.int .i64 sl, .list 1 xs])
  | _ => .no
theorem got10 {vs : List T} {x : T} (h : Got (c10 vs) x) : FnOk Tryd.prog tgl 10 vs x := by
  unfold c10 at h
  split at h
  · rw [got_yes h]; exact ok10 _ _
  · exact (got_no h).elim
theorem nogl10 (vs : List T) (p : Prop) (d : Decidable p) (sz : Nat) (xs : List T) (h : c10 vs = @Ans.gl p d sz xs) : False := by
  unfold c10 at h
  split at h <;> cases h
theorem pk10 (vs : List T) (p : Prop) (d : Decidable p) (x : T) (h : c10 vs = @Ans.pk p d x) (hp : p) : FnOk Tryd.prog tgl 10 vs x := by
  unfold c10 at h
  split at h
  · cases h
  · cases h
noncomputable def lE8 : List (Nat × (List T → Ans)) := (10, c10) :: (13, c13) :: (15, c15) :: (11, c11) :: (36, c36) :: (9, c9) :: lE7
noncomputable def iE8 : List (Nat × Pt) := iE7
noncomputable abbrev E8 : Env := En tgl lE8 iE8
theorem env_E8 : EnvOk Tryd.prog E8 := (env_fn (env_fn (env_fn (env_fn (env_fn (env_fn env_E7 (fun _ _ => got9) (fun vs p d sz xs h _ => (nogl9 vs p d sz xs h).elim) pk9) (fun _ _ => got36) (fun vs p d sz xs h _ => (nogl36 vs p d sz xs h).elim) pk36) (fun _ _ => got11) (fun vs p d sz xs h _ => (nogl11 vs p d sz xs h).elim) pk11) (fun _ _ => got15) (fun vs p d sz xs h _ => (nogl15 vs p d sz xs h).elim) pk15) (fun _ _ => got13) (fun vs p d sz xs h _ => (nogl13 vs p d sz xs h).elim) pk13) (fun _ _ => got10) (fun vs p d sz xs h _ => (nogl10 vs p d sz xs h).elim) pk10)
theorem distL_len (L : List (List Int)) (op : Int → Bool) (s : B) : (distL L op s).length = min L.length 64 := by simp [distL]
/-- monotone -/
theorem rch_mono {L : List (List Int)} {op op' : Int → Bool} {s s' : B} (h1 : ∀ o, op o = true → op' o = true) (h2 : ∀ o, has s o = true → has s' o = true) {v : Int} (h : Rch L op s v) : Rch L op' s' v :=
  rch_ind (Q := Rch L op' s') (fun v a b => rch_root (h2 v a) b) (fun o v _ a b c => rch_step a (h1 o b) c) h
theorem rchB_under {L : List (List Int)} {op op' : Int → Bool} {s s' : B} (h1 : ∀ o, op o = true → op' o = true) (h2 : ∀ o, has s o = true → has s' o = true) : under (rchB L op s) (rchB L op' s') = true := by
  rw [under_iff]; intro o ho; rw [has_rchB] at ho ⊢; exact rch_mono h1 h2 ho
theorem has_orS (a b o : Int) : has (orS a b) o = (has (bv a) o || has (bv b) o) := by unfold orS; rw [has_or]
theorem ok3 (sl : Int) (xs : List T) (s v : Int) (hq : IsR xs ∧ R64 s ∧ R64 v) : FnOk Tryd.prog tgl 3 [.agg [.int .i64 sl, .list 1 xs], .int .u64 s, .int .u64 v] (.bool true) := by
  refine fn_ok (Γ := E8) env_E8 Tryd.func3 low3 ?_
  have hq2 := hq
  obtain ⟨hR, hs, hv⟩ := hq
  have hq1 : IsR xs ∧ R64 s := ⟨hR, hs⟩
  obtain ⟨l, hl⟩ : ∃ l, l = distL (rowsOf xs) (fun _ => true) (bv s) := ⟨_, rfl⟩
  have hll : l.length ≤ 64 := by rw [hl, distL_len]; omega
  conv => whnf
  repeat' (first
    | (refine brK_true (by assumption) ?_; conv => whnf)
    | (refine brK_false (by assumption) ?_; conv => whnf)
    | (refine brK_true ?_ ?_; (focus (simp only [List.length_nil, not_t, not_f, lt_t, lt_f, le_t, le_f, eq_t, eq_f, us_len, is_len, bs_len, lenL_00] <;> omega)); conv => whnf)
    | (refine brK_false ?_ ?_; (focus (simp only [List.length_nil, not_t, not_f, lt_t, lt_f, le_t, le_f, eq_t, eq_f, us_len, is_len, bs_len, lenL_00] <;> omega)); conv => whnf)
    | ((refine brK_of (fun h => ?_) (fun h => ?_)) <;> (have h2 := h; (try simp only [List.length_nil, not_t, not_f, lt_t, lt_f, le_t, le_f, eq_t, eq_f, us_len, is_len, bs_len, lenL_00] at h2); conv => whnf))
    | (refine reqK_of ?_ ?_; (focus (first | decide | omega | assumption | (simp only [List.length_nil, not_t, not_f, lt_t, lt_f, le_t, le_f, eq_t, eq_f, us_len, is_len, bs_len, lenL_00] <;> omega) | (simp [keyNew, sameKey, kEq] <;> omega))); conv => whnf)
    | (refine reqK_of ?_ ?_; rotate_left; (conv => whnf); rotate_left)
    | (refine nth_us ?_ ?_ ?_; (focus (first | omega | (simp only [List.length_nil, not_t, not_f, lt_t, lt_f, le_t, le_f, eq_t, eq_f, us_len, is_len, bs_len, lenL_00] <;> omega))); (focus (first | omega | (simp only [List.length_nil, not_t, not_f, lt_t, lt_f, le_t, le_f, eq_t, eq_f, us_len, is_len, bs_len, lenL_00] <;> omega))); conv => whnf)
    | (refine nth_is ?_ ?_ ?_; (focus (first | omega | (simp only [List.length_nil, not_t, not_f, lt_t, lt_f, le_t, le_f, eq_t, eq_f, us_len, is_len, bs_len, lenL_00] <;> omega))); (focus (first | omega | (simp only [List.length_nil, not_t, not_f, lt_t, lt_f, le_t, le_f, eq_t, eq_f, us_len, is_len, bs_len, lenL_00] <;> omega))); conv => whnf)
    | (refine nth_bs ?_ ?_ ?_; (focus (first | omega | (simp only [List.length_nil, not_t, not_f, lt_t, lt_f, le_t, le_f, eq_t, eq_f, us_len, is_len, bs_len, lenL_00] <;> omega))); (focus (first | omega | (simp only [List.length_nil, not_t, not_f, lt_t, lt_f, le_t, le_f, eq_t, eq_f, us_len, is_len, bs_len, lenL_00] <;> omega))); conv => whnf))
  rw [← hl]
  refine loopUp [] [.kill 28, .kill 29, .kill 30, .kill 31, .kill 32, .kill 33, .kill 34, .kill 35, .kill 36, .kill 37, .kill 38, .kill 39, .kill 40, .kill 41, .kill 42] (fun k : Nat => [(11, .t (.int .i64 (k : Int)))]) (fun _ => []) (fun k => k ≤ l.length) (fun k => l.length - k) 0 (Nat.zero_le _) ?_
  conv => whnf
  refine ⟨⟨rfl, rfl⟩, fun k hk C hC => ?_⟩
  have hw : IntKind.i64.wrap ((k : Int) + 1) = (k : Int) + 1 := wrap_i64 ⟨by omega, by omega⟩
  have hge : leI (0 : Int) 0 = true := by simp [leI_def]
  conv => whnf
  repeat' (first
    | (refine brK_true (by assumption) ?_; conv => whnf)
    | (refine brK_false (by assumption) ?_; conv => whnf)
    | (refine brK_true ?_ ?_; (focus (simp only [List.length_nil, not_t, not_f, lt_t, lt_f, le_t, le_f, eq_t, eq_f, us_len, is_len, bs_len, lenL_00, eqI_self] <;> omega)); conv => whnf)
    | (refine brK_false ?_ ?_; (focus (simp only [List.length_nil, not_t, not_f, lt_t, lt_f, le_t, le_f, eq_t, eq_f, us_len, is_len, bs_len, lenL_00, eqI_self] <;> omega)); conv => whnf)
    | ((refine brK_of (fun h => ?_) (fun h => ?_)) <;> (have h2 := h; (try simp only [List.length_nil, not_t, not_f, lt_t, lt_f, le_t, le_f, eq_t, eq_f, us_len, is_len, bs_len, lenL_00, eqI_self] at h2); conv => whnf))
    | (refine reqK_of ?_ ?_; (focus (first | decide | omega | assumption | (simp only [List.length_nil, not_t, not_f, lt_t, lt_f, le_t, le_f, eq_t, eq_f, us_len, is_len, bs_len, lenL_00, eqI_self] <;> omega) | (simp [keyNew, sameKey, kEq] <;> omega))); conv => whnf)
    | (refine reqK_of ?_ ?_; rotate_left; (conv => whnf); rotate_left)
    | (refine nth_us ?_ ?_ ?_; (focus (first | omega | (simp only [List.length_nil, not_t, not_f, lt_t, lt_f, le_t, le_f, eq_t, eq_f, us_len, is_len, bs_len, lenL_00, eqI_self] <;> omega))); (focus (first | omega | (simp only [List.length_nil, not_t, not_f, lt_t, lt_f, le_t, le_f, eq_t, eq_f, us_len, is_len, bs_len, lenL_00, eqI_self] <;> omega))); conv => whnf)
    | (refine nth_is ?_ ?_ ?_; (focus (first | omega | (simp only [List.length_nil, not_t, not_f, lt_t, lt_f, le_t, le_f, eq_t, eq_f, us_len, is_len, bs_len, lenL_00, eqI_self] <;> omega))); (focus (first | omega | (simp only [List.length_nil, not_t, not_f, lt_t, lt_f, le_t, le_f, eq_t, eq_f, us_len, is_len, bs_len, lenL_00, eqI_self] <;> omega))); conv => whnf)
    | (refine nth_bs ?_ ?_ ?_; (focus (first | omega | (simp only [List.length_nil, not_t, not_f, lt_t, lt_f, le_t, le_f, eq_t, eq_f, us_len, is_len, bs_len, lenL_00, eqI_self] <;> omega))); (focus (first | omega | (simp only [List.length_nil, not_t, not_f, lt_t, lt_f, le_t, le_f, eq_t, eq_f, us_len, is_len, bs_len, lenL_00, eqI_self] <;> omega))); conv => whnf))
  · refine loopC (hC (k + 1) (by omega) (by omega)) ?_
    rw [hw, Int.natCast_succ]
    rfl
  · rw [eqI_self]
open Classical in
noncomputable def c3 : List T → Ans
  | [.agg [.int .i64 sl, .list 1 xs], .int .u64 s, .int .u64 v] => .req (IsR xs ∧ R64 s ∧ R64 v) (.bool true)
  | _ => .no
theorem got3 {vs : List T} {x : T} (h : Got (c3 vs) x) : FnOk Tryd.prog tgl 3 vs x := by
  unfold c3 at h
  split at h
  · obtain ⟨hq, e⟩ := got_req h; rw [e]; exact ok3 _ _ _ _ hq
  · exact (got_no h).elim
theorem nogl3 (vs : List T) (p : Prop) (d : Decidable p) (sz : Nat) (xs : List T) (h : c3 vs = @Ans.gl p d sz xs) : False := by
  unfold c3 at h
  split at h <;> cases h
theorem pk3 (vs : List T) (p : Prop) (d : Decidable p) (x : T) (h : c3 vs = @Ans.pk p d x) (hp : p) : FnOk Tryd.prog tgl 3 vs x := by
  unfold c3 at h
  split at h
  · cases h
  · cases h
theorem rch_self (L : List (List Int)) (s : B) : rchB L (fun _ => true) (rchB L (fun _ => true) s) = rchB L (fun _ => true) s := by
  apply ext_has
  intro v _ _
  rw [Bool.eq_iff_iff, has_rchB, has_rchB]
  constructor
  · exact rch_ind (Q := Rch L (fun _ => true) s) (fun v a _ => has_rchB.1 a) (fun o v _ a b c => rch_step a b c)
  · intro h; exact rch_root (has_rchB.2 h) (rch_own h)
theorem rch_union (L : List (List Int)) (op : Int → Bool) (a b : B) : rchB L op (a ||| b) = rchB L op a ||| rchB L op b := by
  apply ext_has
  intro v _ _
  rw [Bool.eq_iff_iff, has_rchB, has_or, Bool.or_eq_true, has_rchB, has_rchB]
  constructor
  · refine rch_ind (Q := fun v => Rch L op a v ∨ Rch L op b v) (fun v h1 h2 => ?_) (fun o v _ h1 h2 h3 => ?_)
    · rw [has_or, Bool.or_eq_true] at h1
      exact h1.elim (fun h => .inl (rch_root h h2)) (fun h => .inr (rch_root h h2))
    · exact h1.elim (fun h => .inl (rch_step h h2 h3)) (fun h => .inr (rch_step h h2 h3))
  · rintro (h | h)
    · exact rch_mono (fun _ h => h) (fun o h => by rw [has_or, h]; rfl) h
    · exact rch_mono (fun _ h => h) (fun o h => by rw [has_or, h, Bool.or_true]) h
theorem ok4 (sl : Int) (xs : List T) (a b : Int) (hq : IsR xs ∧ R64 a ∧ R64 b) : FnOk Tryd.prog tgl 4 [.agg [.int .i64 sl, .list 1 xs], .int .u64 a, .int .u64 b] (.bool true) := by
  refine fn_ok (Γ := E8) env_E8 Tryd.func4 low4 ?_
  obtain ⟨hR, ha, hb⟩ := hq
  have hq1 : IsR xs ∧ R64 a := ⟨hR, ha⟩
  have hq2 : IsR xs ∧ R64 b := ⟨hR, hb⟩
  have hq3 : IsR xs ∧ R64 (iv (rchB (rowsOf xs) (fun _ => true) (bv a))) := ⟨hR, R_iv _⟩
  have hq4 : IsR xs ∧ R64 (orI .u64 a b) := ⟨hR, by rw [orI_u]; exact R_iv _⟩
  have e1 : iv (rchB (rowsOf xs) (fun _ => true) (bv (iv (rchB (rowsOf xs) (fun _ => true) (bv a))))) = iv (rchB (rowsOf xs) (fun _ => true) (bv a)) := by rw [bv_iv, rch_self]
  have e2 : iv (rchB (rowsOf xs) (fun _ => true) (bv (orI .u64 a b))) = orI .u64 (iv (rchB (rowsOf xs) (fun _ => true) (bv a))) (iv (rchB (rowsOf xs) (fun _ => true) (bv b))) := by rw [orI_u, orI_u, bv_iv, bv_iv, bv_iv, rch_union]
  have e3 : under (bv (iv (rchB (rowsOf xs) (fun _ => true) (bv a)))) (bv (iv (rchB (rowsOf xs) (fun _ => true) (bv (orI .u64 a b))))) = true := by
    rw [orI_u, bv_iv, bv_iv, bv_iv]
    exact rchB_under (fun _ h => h) (fun o h => by rw [has_or, h]; rfl)
  conv => whnf
  repeat' (first
    | (refine brK_true (by assumption) ?_; conv => whnf)
    | (refine brK_false (by assumption) ?_; conv => whnf)
    | (refine brK_true ?_ ?_; (focus (simp only [List.length_nil, not_t, not_f, lt_t, lt_f, le_t, le_f, eq_t, eq_f, us_len, is_len, bs_len, lenL_00, e1, e2, eqI_self] <;> omega)); conv => whnf)
    | (refine brK_false ?_ ?_; (focus (simp only [List.length_nil, not_t, not_f, lt_t, lt_f, le_t, le_f, eq_t, eq_f, us_len, is_len, bs_len, lenL_00, e1, e2, eqI_self] <;> omega)); conv => whnf)
    | ((refine brK_of (fun h => ?_) (fun h => ?_)) <;> (have h2 := h; (try simp only [List.length_nil, not_t, not_f, lt_t, lt_f, le_t, le_f, eq_t, eq_f, us_len, is_len, bs_len, lenL_00, e1, e2, eqI_self] at h2); conv => whnf))
    | (refine reqK_of ?_ ?_; (focus (first | decide | omega | assumption | (simp only [List.length_nil, not_t, not_f, lt_t, lt_f, le_t, le_f, eq_t, eq_f, us_len, is_len, bs_len, lenL_00, e1, e2, eqI_self] <;> omega) | (simp [keyNew, sameKey, kEq] <;> omega))); conv => whnf)
    | (refine reqK_of ?_ ?_; rotate_left; (conv => whnf); rotate_left)
    | (refine nth_us ?_ ?_ ?_; (focus (first | omega | (simp only [List.length_nil, not_t, not_f, lt_t, lt_f, le_t, le_f, eq_t, eq_f, us_len, is_len, bs_len, lenL_00, e1, e2, eqI_self] <;> omega))); (focus (first | omega | (simp only [List.length_nil, not_t, not_f, lt_t, lt_f, le_t, le_f, eq_t, eq_f, us_len, is_len, bs_len, lenL_00, e1, e2, eqI_self] <;> omega))); conv => whnf)
    | (refine nth_is ?_ ?_ ?_; (focus (first | omega | (simp only [List.length_nil, not_t, not_f, lt_t, lt_f, le_t, le_f, eq_t, eq_f, us_len, is_len, bs_len, lenL_00, e1, e2, eqI_self] <;> omega))); (focus (first | omega | (simp only [List.length_nil, not_t, not_f, lt_t, lt_f, le_t, le_f, eq_t, eq_f, us_len, is_len, bs_len, lenL_00, e1, e2, eqI_self] <;> omega))); conv => whnf)
    | (refine nth_bs ?_ ?_ ?_; (focus (first | omega | (simp only [List.length_nil, not_t, not_f, lt_t, lt_f, le_t, le_f, eq_t, eq_f, us_len, is_len, bs_len, lenL_00, e1, e2, eqI_self] <;> omega))); (focus (first | omega | (simp only [List.length_nil, not_t, not_f, lt_t, lt_f, le_t, le_f, eq_t, eq_f, us_len, is_len, bs_len, lenL_00, e1, e2, eqI_self] <;> omega))); conv => whnf))
  all_goals first
    | rw [e3]
    | skip
open Classical in
noncomputable def c4 : List T → Ans
  | [.agg [.int .i64 sl, .list 1 xs], .int .u64 a, .int .u64 b] => .req (IsR xs ∧ R64 a ∧ R64 b) (.bool true)
  | _ => .no
theorem got4 {vs : List T} {x : T} (h : Got (c4 vs) x) : FnOk Tryd.prog tgl 4 vs x := by
  unfold c4 at h
  split at h
  · obtain ⟨hq, e⟩ := got_req h; rw [e]; exact ok4 _ _ _ _ hq
  · exact (got_no h).elim
theorem nogl4 (vs : List T) (p : Prop) (d : Decidable p) (sz : Nat) (xs : List T) (h : c4 vs = @Ans.gl p d sz xs) : False := by
  unfold c4 at h
  split at h <;> cases h
theorem pk4 (vs : List T) (p : Prop) (d : Decidable p) (x : T) (h : c4 vs = @Ans.pk p d x) (hp : p) : FnOk Tryd.prog tgl 4 vs x := by
  unfold c4 at h
  split at h
  · cases h
  · cases h
theorem ok5 (sl : Int) (xs : List T) (s a b : Int) (hq : IsR xs ∧ R64 s ∧ R64 a ∧ R64 b) : FnOk Tryd.prog tgl 5 [.agg [.int .i64 sl, .list 1 xs], .int .u64 s, .int .u64 a, .int .u64 b] (.bool true) := by
  refine fn_ok (Γ := E8) env_E8 Tryd.func5 low5 ?_
  obtain ⟨hR, hs, ha, hb⟩ := hq
  have hq1 : IsR xs ∧ R64 s := ⟨hR, hs⟩
  have hq2 : IsR xs ∧ R64 (andI .u64 s a) := ⟨hR, by rw [andI_u]; exact R_iv _⟩
  obtain ⟨L, hL⟩ : ∃ L, L = rowsOf xs := ⟨_, rfl⟩
  obtain ⟨X, hX⟩ : ∃ X, X = rchB L (has (orS s a)) (bv s) := ⟨_, rfl⟩
  have hXs : iv (rchB (rowsOf xs) (has (orS s a)) (bv s)) = iv X := by rw [hX, hL]
  have e1 : iv (rchB (rowsOf xs) (has (orS s (iv (first 64)))) (bv s)) = iv (rchB (rowsOf xs) (fun _ => true) (bv s)) := by
    congr 1
    refine rchB_congr (fun o ho => ?_) fun o ho => rfl
    have := obj_iff.1 (own_obj ho)
    rw [has_orS, bv_iv, has_first, own_obj ho, decide_eq_true this.2]; simp
  have e2 : under (bv (iv (rchB (rowsOf xs) (has (orS s a)) (bv s)))) (bv (iv (rchB (rowsOf xs) (has (orS s (orI .u64 a b))) (bv s)))) = true := by
    rw [bv_iv, bv_iv]
    refine rchB_under (fun o h => ?_) (fun o h => h)
    rw [has_orS, Bool.or_eq_true] at h ⊢
    rw [orI_u, bv_iv, has_or, Bool.or_eq_true]
    exact h.elim .inl fun h => .inr (.inl h)
  have e3 : under (bv (iv (rchB (rowsOf xs) (has (orS s a)) (bv s)))) (bv (iv (rchB (rowsOf xs) (fun _ => true) (bv s)))) = true := by
    rw [bv_iv, bv_iv]
    exact rchB_under (fun o h => rfl) (fun o h => h)
  have e4 : iv (rchB (rowsOf xs) (has (orS s (andI .u64 (iv (rchB (rowsOf xs) (has (orS s a)) (bv s))) a))) (bv s)) = iv (rchB (rowsOf xs) (has (orS s a)) (bv s)) := by
    congr 1
    apply ext_has
    intro v _ _
    rw [Bool.eq_iff_iff, has_rchB, has_rchB]
    have ho : ∀ o, has (orS s (andI .u64 (iv (rchB (rowsOf xs) (has (orS s a)) (bv s))) a)) o = true ↔ has (bv s) o = true ∨ (Rch (rowsOf xs) (has (orS s a)) (bv s) o ∧ has (bv a) o = true) := fun o => by
      rw [has_orS, andI_u, bv_iv, bv_iv, has_and, Bool.or_eq_true, Bool.and_eq_true, has_rchB]
    constructor
    · refine rch_mono (fun o h => ?_) (fun o h => h)
      rw [has_orS, Bool.or_eq_true]
      exact ((ho o).1 h).elim .inl fun h => .inr h.2
    · refine rch_ind (fun v h1 h2 => rch_root h1 h2) (fun o v h1 h2 h3 h4 => rch_step h2 ((ho o).2 ?_) h4)
      rw [has_orS, Bool.or_eq_true] at h3
      exact h3.elim .inl fun h => .inr ⟨h1, h⟩
  have e5 : iv (rchB (rowsOf xs) (has (orS (andI .u64 s a) (orI .u64 (orI .u64 a b) (andI .u64 s a)))) (bv (andI .u64 s a))) = iv (rchB (rowsOf xs) (has (orS (andI .u64 s a) (orI .u64 a b))) (bv (andI .u64 s a))) := by
    congr 1
    refine rchB_congr (fun o ho => ?_) fun o ho => rfl
    rw [has_orS, has_orS, orI_u (orI .u64 a b), bv_iv, has_or]
    cases has (bv (andI .u64 s a)) o <;> simp
  conv => whnf
  repeat' (first
    | (refine brK_true (by assumption) ?_; conv => whnf)
    | (refine brK_false (by assumption) ?_; conv => whnf)
    | (refine brK_true ?_ ?_; (focus (simp only [List.length_nil, not_t, not_f, lt_t, lt_f, le_t, le_f, eq_t, eq_f, us_len, is_len, bs_len, lenL_00, e1, e4, e5, eqI_self] <;> omega)); conv => whnf)
    | (refine brK_false ?_ ?_; (focus (simp only [List.length_nil, not_t, not_f, lt_t, lt_f, le_t, le_f, eq_t, eq_f, us_len, is_len, bs_len, lenL_00, e1, e4, e5, eqI_self] <;> omega)); conv => whnf)
    | ((refine brK_of (fun h => ?_) (fun h => ?_)) <;> (have h2 := h; (try simp only [List.length_nil, not_t, not_f, lt_t, lt_f, le_t, le_f, eq_t, eq_f, us_len, is_len, bs_len, lenL_00, e1, e4, e5, eqI_self] at h2); conv => whnf))
    | (refine reqK_of ?_ ?_; (focus (first | decide | omega | assumption | (simp only [List.length_nil, not_t, not_f, lt_t, lt_f, le_t, le_f, eq_t, eq_f, us_len, is_len, bs_len, lenL_00, e1, e4, e5, eqI_self] <;> omega) | (simp [keyNew, sameKey, kEq] <;> omega))); conv => whnf)
    | (refine reqK_of ?_ ?_; rotate_left; (conv => whnf); rotate_left)
    | (refine nth_us ?_ ?_ ?_; (focus (first | omega | (simp only [List.length_nil, not_t, not_f, lt_t, lt_f, le_t, le_f, eq_t, eq_f, us_len, is_len, bs_len, lenL_00, e1, e4, e5, eqI_self] <;> omega))); (focus (first | omega | (simp only [List.length_nil, not_t, not_f, lt_t, lt_f, le_t, le_f, eq_t, eq_f, us_len, is_len, bs_len, lenL_00, e1, e4, e5, eqI_self] <;> omega))); conv => whnf)
    | (refine nth_is ?_ ?_ ?_; (focus (first | omega | (simp only [List.length_nil, not_t, not_f, lt_t, lt_f, le_t, le_f, eq_t, eq_f, us_len, is_len, bs_len, lenL_00, e1, e4, e5, eqI_self] <;> omega))); (focus (first | omega | (simp only [List.length_nil, not_t, not_f, lt_t, lt_f, le_t, le_f, eq_t, eq_f, us_len, is_len, bs_len, lenL_00, e1, e4, e5, eqI_self] <;> omega))); conv => whnf)
    | (refine nth_bs ?_ ?_ ?_; (focus (first | omega | (simp only [List.length_nil, not_t, not_f, lt_t, lt_f, le_t, le_f, eq_t, eq_f, us_len, is_len, bs_len, lenL_00, e1, e4, e5, eqI_self] <;> omega))); (focus (first | omega | (simp only [List.length_nil, not_t, not_f, lt_t, lt_f, le_t, le_f, eq_t, eq_f, us_len, is_len, bs_len, lenL_00, e1, e4, e5, eqI_self] <;> omega))); conv => whnf))
  rw [e5, eqI_self]
open Classical in
noncomputable def c5 : List T → Ans
  | [.agg [.int .i64 sl, .list 1 xs], .int .u64 s, .int .u64 a, .int .u64 b] => .req (IsR xs ∧ R64 s ∧ R64 a ∧ R64 b) (.bool true)
  | _ => .no
theorem got5 {vs : List T} {x : T} (h : Got (c5 vs) x) : FnOk Tryd.prog tgl 5 vs x := by
  unfold c5 at h
  split at h
  · obtain ⟨hq, e⟩ := got_req h; rw [e]; exact ok5 _ _ _ _ _ hq
  · exact (got_no h).elim
theorem nogl5 (vs : List T) (p : Prop) (d : Decidable p) (sz : Nat) (xs : List T) (h : c5 vs = @Ans.gl p d sz xs) : False := by
  unfold c5 at h
  split at h <;> cases h
theorem pk5 (vs : List T) (p : Prop) (d : Decidable p) (x : T) (h : c5 vs = @Ans.pk p d x) (hp : p) : FnOk Tryd.prog tgl 5 vs x := by
  unfold c5 at h
  split at h
  · cases h
  · cases h
end Go.Nx
