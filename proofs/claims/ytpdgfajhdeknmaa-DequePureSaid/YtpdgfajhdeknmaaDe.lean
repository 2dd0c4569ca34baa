/-
  DEQUE PURE: walked.
-/
import Derived.Test.YtpdgfajhdeknmaaDd
set_option linter.unusedVariables false
set_option linter.unusedSimpArgs false
set_option maxRecDepth 20000
set_option maxHeartbeats 4000000
namespace Go.Nx
open Go.RowKit Go.Proofs

noncomputable def lE8 : List (Nat × (List T → Ans)) := (18, c18) :: lE7
noncomputable def iE8 : List (Nat × Pt) := iE7
noncomputable abbrev E8 : Env := En tgl lE8 iE8
theorem env_E8 : EnvOk Try.prog E8 := (env_fn env_E7 (fun _ _ => got18) (fun vs p sz xs h _ => (nogl18 vs p sz xs h).elim) pk18)
theorem ok5 (xs : List T) (kind pc base cap b t x out : Int) (hq : ((IsU xs ∧ Sz xs) ∧ R64 b) ∧ I64 base ∧ I64 cap) : FnOk Try.prog tgl 5 [.list 1 xs, .agg [.int .i64 kind, .int .i64 pc, .int .i64 base, .int .i64 cap, .int .u64 b, .int .u64 t, .int .i64 x, .int .i64 out]] (.bool true) := by
  refine fn_ok (Γ := E8) env_E8 Try.func5 low5 ?_
  obtain ⟨⟨⟨⟨l, rfl, hl⟩, hs⟩, hb64⟩, hbase, hcap⟩ := hq
  have hq1 : IsU (us l) ∧ Sz (us l) := ⟨isU_us hl, hs⟩
  have hlen := sz_len hs
  obtain ⟨d, hd⟩ : ∃ d : DM, d = ⟨kind, pc, base, cap, b, t, x, out⟩ := ⟨_, rfl⟩
  have e1 : d.kind = kind := by rw [hd]
  have e2 : d.base = base := by rw [hd]
  have e3 : d.cap = cap := by rw [hd]
  have e4 : d.out = out := by rw [hd]
  have e5 : d.b = b := by rw [hd]
  have hbd : R64 d.b := by rw [e5]; exact hb64
  have hL := dstep_len l d hbd
  have hcnt := dcnt l d hbd
  obtain ⟨k1, k2, k3⟩ := dstep_keep l d
  have hcs : ∀ k : Nat, at0 (dstep l d).1 k ≠ at0 l k → cntN (dstep l d).1 l (k + 1) = cntN (dstep l d).1 l k + 1 := fun k h => by rw [cntN, if_pos h]
  have hcz : ∀ k : Nat, at0 (dstep l d).1 k = at0 l k → cntN (dstep l d).1 l (k + 1) = cntN (dstep l d).1 l k := fun k h => by rw [cntN, if_neg (by simpa using h)]; omega
  have hin : ∀ k : Nat, k < l.length → at0 (dstep l d).1 k ≠ at0 l k → base ≤ k ∧ wi (wi ((k : Int) - base) - 2) < maxI cap 1 := fun k hk hne => by
    rcases dstep_set l d hbd with h | ⟨j, v, hp, h0, h1, h⟩
    · rw [h] at hne; exact absurd rfl hne
    · have hj : j = k := by
        rw [h, at0_setI _ _ _ _ h0 (by omega)] at hne
        split at hne
        · rename_i h'; exact h'.1
        · exact absurd rfl hne
      subst hj
      have := pl_in (d := d) (by rw [e3]; exact hcap) (by rw [e2]; exact hbase) h0 (by omega) hp
      rw [e2, e3] at this
      exact this
  have hse : eqL l l = true := eqL_self l
  have hqc : (IsU (us l) ∧ Sz (us l)) ∧ I64 cap := ⟨hq1, hcap⟩
  by_cases ho : out = 0
  · conv => whnf
    repeat' (first
      | (refine brK_true (by assumption) ?_; conv => whnf)
      | (refine brK_false (by assumption) ?_; conv => whnf)
      | (refine brK_true ?_ ?_; (focus (simp only [List.length_nil, not_t, not_f, lt_t, lt_f, le_t, le_f, eq_t, eq_f, us_len, is_len, bs_len, lenL_00] <;> omega)); conv => whnf)
      | (refine brK_false ?_ ?_; (focus (simp only [List.length_nil, not_t, not_f, lt_t, lt_f, le_t, le_f, eq_t, eq_f, us_len, is_len, bs_len, lenL_00] <;> omega)); conv => whnf)
      | ((refine brK_of (fun h => ?_) (fun h => ?_)) <;> (have h2 := h; (try simp only [List.length_nil, not_t, not_f, lt_t, lt_f, le_t, le_f, eq_t, eq_f, us_len, is_len, bs_len, lenL_00] at h2); conv => whnf))
      | (refine reqK_of ?_ ?_; (focus (first | decide | omega | assumption | (simp only [List.length_nil, not_t, not_f, lt_t, lt_f, le_t, le_f, eq_t, eq_f, us_len, is_len, bs_len, lenL_00] <;> omega) | (simp [keyNew, sameKey, kEq] <;> omega))); conv => whnf)
      | (refine reqK_of ?_ ?_; rotate_left; (conv => whnf); rotate_left)
      | (refine nth_us ?_ ?_ ?_; (focus (first | omega | (simp only [List.length_nil, not_t, not_f, lt_t, lt_f, le_t, le_f, eq_t, eq_f, us_len, is_len, bs_len, lenL_00] <;> omega))); (focus (first | omega | (simp only [List.length_nil, not_t, not_f, lt_t, lt_f, le_t, le_f, eq_t, eq_f, us_len, is_len, bs_len, lenL_00] <;> omega))); conv => whnf)
      | (refine nth_is ?_ ?_ ?_; (focus (first | omega | (simp only [List.length_nil, not_t, not_f, lt_t, lt_f, le_t, le_f, eq_t, eq_f, us_len, is_len, bs_len, lenL_00] <;> omega))); (focus (first | omega | (simp only [List.length_nil, not_t, not_f, lt_t, lt_f, le_t, le_f, eq_t, eq_f, us_len, is_len, bs_len, lenL_00] <;> omega))); conv => whnf)
      | (refine nth_bs ?_ ?_ ?_; (focus (first | omega | (simp only [List.length_nil, not_t, not_f, lt_t, lt_f, le_t, le_f, eq_t, eq_f, us_len, is_len, bs_len, lenL_00] <;> omega))); (focus (first | omega | (simp only [List.length_nil, not_t, not_f, lt_t, lt_f, le_t, le_f, eq_t, eq_f, us_len, is_len, bs_len, lenL_00] <;> omega))); conv => whnf))
    rw [← hd, nums_us]
    refine loopUp [] [.kill 22, .kill 23, .kill 24, .kill 25, .kill 26, .kill 27, .kill 28, .kill 29, .kill 30, .kill 31, .kill 32, .kill 33, .kill 34, .kill 35, .kill 36, .kill 37, .kill 38, .kill 39, .kill 40, .kill 41, .kill 42, .kill 43, .kill 44, .kill 45, .kill 46, .kill 47, .kill 48, .kill 49, .kill 50, .kill 51, .kill 52, .kill 53, .kill 54, .kill 55, .kill 56, .kill 57, .kill 58, .kill 59] (fun k : Nat => [(9, .t (.int .i64 (cntN (dstep l d).1 l k))), (10, .t (.int .i64 (k : Int)))]) (fun _ => []) (fun k => k ≤ l.length) (fun k => l.length - k) 0 (Nat.zero_le _) ?_
    conv => whnf
    refine ⟨⟨rfl, rfl⟩, fun k hk C hC => ?_⟩
    have hw : IntKind.i64.wrap ((k : Int) + 1) = (k : Int) + 1 := wrap_i64 ⟨by omega, by omega⟩
    have hcn := hcnt k
    have hw2 : IntKind.i64.wrap (cntN (dstep l d).1 l k + 1) = cntN (dstep l d).1 l k + 1 := wrap_i64 ⟨by omega, by omega⟩
    conv => whnf
    repeat' (first
      | (refine brK_true (by assumption) ?_; conv => whnf)
      | (refine brK_false (by assumption) ?_; conv => whnf)
      | (refine brK_true ?_ ?_; (focus (simp only [List.length_nil, not_t, not_f, lt_t, lt_f, le_t, le_f, eq_t, eq_f, us_len, is_len, bs_len, lenL_00, subL_00, nums_us, hse] <;> omega)); conv => whnf)
      | (refine brK_false ?_ ?_; (focus (simp only [List.length_nil, not_t, not_f, lt_t, lt_f, le_t, le_f, eq_t, eq_f, us_len, is_len, bs_len, lenL_00, subL_00, nums_us, hse] <;> omega)); conv => whnf)
      | ((refine brK_of (fun h => ?_) (fun h => ?_)) <;> (have h2 := h; (try simp only [List.length_nil, not_t, not_f, lt_t, lt_f, le_t, le_f, eq_t, eq_f, us_len, is_len, bs_len, lenL_00, subL_00, nums_us, hse] at h2); conv => whnf))
      | (refine reqK_of ?_ ?_; (focus (first | decide | omega | assumption | (simp only [List.length_nil, not_t, not_f, lt_t, lt_f, le_t, le_f, eq_t, eq_f, us_len, is_len, bs_len, lenL_00, subL_00, nums_us, hse] <;> omega) | (simp [keyNew, sameKey, kEq] <;> omega))); conv => whnf)
      | (refine reqK_of ?_ ?_; rotate_left; (conv => whnf); rotate_left)
      | (refine nth_us ?_ ?_ ?_; (focus (first | omega | (simp only [List.length_nil, not_t, not_f, lt_t, lt_f, le_t, le_f, eq_t, eq_f, us_len, is_len, bs_len, lenL_00, subL_00, nums_us, hse] <;> omega))); (focus (first | omega | (simp only [List.length_nil, not_t, not_f, lt_t, lt_f, le_t, le_f, eq_t, eq_f, us_len, is_len, bs_len, lenL_00, subL_00, nums_us, hse] <;> omega))); conv => whnf)
      | (refine nth_is ?_ ?_ ?_; (focus (first | omega | (simp only [List.length_nil, not_t, not_f, lt_t, lt_f, le_t, le_f, eq_t, eq_f, us_len, is_len, bs_len, lenL_00, subL_00, nums_us, hse] <;> omega))); (focus (first | omega | (simp only [List.length_nil, not_t, not_f, lt_t, lt_f, le_t, le_f, eq_t, eq_f, us_len, is_len, bs_len, lenL_00, subL_00, nums_us, hse] <;> omega))); conv => whnf)
      | (refine nth_bs ?_ ?_ ?_; (focus (first | omega | (simp only [List.length_nil, not_t, not_f, lt_t, lt_f, le_t, le_f, eq_t, eq_f, us_len, is_len, bs_len, lenL_00, subL_00, nums_us, hse] <;> omega))); (focus (first | omega | (simp only [List.length_nil, not_t, not_f, lt_t, lt_f, le_t, le_f, eq_t, eq_f, us_len, is_len, bs_len, lenL_00, subL_00, nums_us, hse] <;> omega))); conv => whnf))
    all_goals first
      | (have hb := hin k (by omega) (by assumption)
         unfold wi at hb
         exfalso; omega)
      | (refine loopC (hC (k + 1) (by omega) (by omega)) ?_
         rw [hw, hw2, hcs k (by assumption), Int.natCast_succ]
         rfl)
      | (refine loopC (hC (k + 1) (by omega) (by omega)) ?_
         rw [hw, hcz k (by assumption), Int.natCast_succ]
         rfl)
      | exact ⟨hq1, hq1.1⟩
      | rw [eq_t.2 (k3.trans e3)]
  · have hz : d.out ≠ 0 := by rw [e4]; exact ho
    conv => whnf
    repeat' (first
      | (refine brK_true (by assumption) ?_; conv => whnf)
      | (refine brK_false (by assumption) ?_; conv => whnf)
      | (refine brK_true ?_ ?_; (focus (simp only [List.length_nil, not_t, not_f, lt_t, lt_f, le_t, le_f, eq_t, eq_f, us_len, is_len, bs_len, lenL_00] <;> omega)); conv => whnf)
      | (refine brK_false ?_ ?_; (focus (simp only [List.length_nil, not_t, not_f, lt_t, lt_f, le_t, le_f, eq_t, eq_f, us_len, is_len, bs_len, lenL_00] <;> omega)); conv => whnf)
      | ((refine brK_of (fun h => ?_) (fun h => ?_)) <;> (have h2 := h; (try simp only [List.length_nil, not_t, not_f, lt_t, lt_f, le_t, le_f, eq_t, eq_f, us_len, is_len, bs_len, lenL_00] at h2); conv => whnf))
      | (refine reqK_of ?_ ?_; (focus (first | decide | omega | assumption | (simp only [List.length_nil, not_t, not_f, lt_t, lt_f, le_t, le_f, eq_t, eq_f, us_len, is_len, bs_len, lenL_00] <;> omega) | (simp [keyNew, sameKey, kEq] <;> omega))); conv => whnf)
      | (refine reqK_of ?_ ?_; rotate_left; (conv => whnf); rotate_left)
      | (refine nth_us ?_ ?_ ?_; (focus (first | omega | (simp only [List.length_nil, not_t, not_f, lt_t, lt_f, le_t, le_f, eq_t, eq_f, us_len, is_len, bs_len, lenL_00] <;> omega))); (focus (first | omega | (simp only [List.length_nil, not_t, not_f, lt_t, lt_f, le_t, le_f, eq_t, eq_f, us_len, is_len, bs_len, lenL_00] <;> omega))); conv => whnf)
      | (refine nth_is ?_ ?_ ?_; (focus (first | omega | (simp only [List.length_nil, not_t, not_f, lt_t, lt_f, le_t, le_f, eq_t, eq_f, us_len, is_len, bs_len, lenL_00] <;> omega))); (focus (first | omega | (simp only [List.length_nil, not_t, not_f, lt_t, lt_f, le_t, le_f, eq_t, eq_f, us_len, is_len, bs_len, lenL_00] <;> omega))); conv => whnf)
      | (refine nth_bs ?_ ?_ ?_; (focus (first | omega | (simp only [List.length_nil, not_t, not_f, lt_t, lt_f, le_t, le_f, eq_t, eq_f, us_len, is_len, bs_len, lenL_00] <;> omega))); (focus (first | omega | (simp only [List.length_nil, not_t, not_f, lt_t, lt_f, le_t, le_f, eq_t, eq_f, us_len, is_len, bs_len, lenL_00] <;> omega))); conv => whnf))
    rw [← hd, nums_us, dstep_no hz]
    dsimp only
    rw [hd]
    have hcz : ∀ k : Nat, cntN l l (k + 1) = cntN l l k := fun k => by rw [cnt_same, cnt_same]
    refine loopUp [] [.kill 22, .kill 23, .kill 24, .kill 25, .kill 26, .kill 27, .kill 28, .kill 29, .kill 30, .kill 31, .kill 32, .kill 33, .kill 34, .kill 35, .kill 36, .kill 37, .kill 38, .kill 39, .kill 40, .kill 41, .kill 42, .kill 43, .kill 44, .kill 45, .kill 46, .kill 47, .kill 48, .kill 49, .kill 50, .kill 51, .kill 52, .kill 53, .kill 54, .kill 55, .kill 56, .kill 57, .kill 58, .kill 59] (fun k : Nat => [(9, .t (.int .i64 (cntN l l k))), (10, .t (.int .i64 (k : Int)))]) (fun _ => []) (fun k => k ≤ l.length) (fun k => l.length - k) 0 (Nat.zero_le _) ?_
    conv => whnf
    refine ⟨⟨rfl, rfl⟩, fun k hk C hC => ?_⟩
    have hw : IntKind.i64.wrap ((k : Int) + 1) = (k : Int) + 1 := wrap_i64 ⟨by omega, by omega⟩
    have hck : cntN l l k = 0 := cnt_same l k
    conv => whnf
    repeat' (first
      | (refine brK_true (by assumption) ?_; conv => whnf)
      | (refine brK_false (by assumption) ?_; conv => whnf)
      | (refine brK_true ?_ ?_; (focus (simp only [List.length_nil, not_t, not_f, lt_t, lt_f, le_t, le_f, eq_t, eq_f, us_len, is_len, bs_len, lenL_00, eqI_self, Bool.and_self] <;> omega)); conv => whnf)
      | (refine brK_false ?_ ?_; (focus (simp only [List.length_nil, not_t, not_f, lt_t, lt_f, le_t, le_f, eq_t, eq_f, us_len, is_len, bs_len, lenL_00, eqI_self, Bool.and_self] <;> omega)); conv => whnf)
      | ((refine brK_of (fun h => ?_) (fun h => ?_)) <;> (have h2 := h; (try simp only [List.length_nil, not_t, not_f, lt_t, lt_f, le_t, le_f, eq_t, eq_f, us_len, is_len, bs_len, lenL_00, eqI_self, Bool.and_self] at h2); conv => whnf))
      | (refine reqK_of ?_ ?_; (focus (first | decide | omega | assumption | (simp only [List.length_nil, not_t, not_f, lt_t, lt_f, le_t, le_f, eq_t, eq_f, us_len, is_len, bs_len, lenL_00, eqI_self, Bool.and_self] <;> omega) | (simp [keyNew, sameKey, kEq] <;> omega))); conv => whnf)
      | (refine reqK_of ?_ ?_; rotate_left; (conv => whnf); rotate_left)
      | (refine nth_us ?_ ?_ ?_; (focus (first | omega | (simp only [List.length_nil, not_t, not_f, lt_t, lt_f, le_t, le_f, eq_t, eq_f, us_len, is_len, bs_len, lenL_00, eqI_self, Bool.and_self] <;> omega))); (focus (first | omega | (simp only [List.length_nil, not_t, not_f, lt_t, lt_f, le_t, le_f, eq_t, eq_f, us_len, is_len, bs_len, lenL_00, eqI_self, Bool.and_self] <;> omega))); conv => whnf)
      | (refine nth_is ?_ ?_ ?_; (focus (first | omega | (simp only [List.length_nil, not_t, not_f, lt_t, lt_f, le_t, le_f, eq_t, eq_f, us_len, is_len, bs_len, lenL_00, eqI_self, Bool.and_self] <;> omega))); (focus (first | omega | (simp only [List.length_nil, not_t, not_f, lt_t, lt_f, le_t, le_f, eq_t, eq_f, us_len, is_len, bs_len, lenL_00, eqI_self, Bool.and_self] <;> omega))); conv => whnf)
      | (refine nth_bs ?_ ?_ ?_; (focus (first | omega | (simp only [List.length_nil, not_t, not_f, lt_t, lt_f, le_t, le_f, eq_t, eq_f, us_len, is_len, bs_len, lenL_00, eqI_self, Bool.and_self] <;> omega))); (focus (first | omega | (simp only [List.length_nil, not_t, not_f, lt_t, lt_f, le_t, le_f, eq_t, eq_f, us_len, is_len, bs_len, lenL_00, eqI_self, Bool.and_self] <;> omega))); conv => whnf))
    · refine loopC (hC (k + 1) (by omega) (by omega)) ?_
      rw [hw, hcz, Int.natCast_succ]
      simp only [setL, setO, List.set_cons_zero, List.set_cons_succ]
    · simp only [eqI_self, Bool.and_self]
open Classical in
noncomputable def c5 : List T → Ans
  | [.list 1 xs, .agg [.int .i64 kind, .int .i64 pc, .int .i64 base, .int .i64 cap, .int .u64 b, .int .u64 t, .int .i64 x, .int .i64 out]] => .req (((IsU xs ∧ Sz xs) ∧ R64 b) ∧ I64 base ∧ I64 cap) (.bool true)
  | _ => .no
theorem got5 {vs : List T} {x : T} (h : Got (c5 vs) x) : FnOk Try.prog tgl 5 vs x := by
  unfold c5 at h
  split at h
  · obtain ⟨hq, e⟩ := got_req h; rw [e]; exact ok5 _ _ _ _ _ _ _ _ _ hq
  · exact (got_no h).elim
theorem nogl5 (vs : List T) (p : Prop) (sz : Nat) (xs : List T) (h : c5 vs = .gl p sz xs) : False := by
  unfold c5 at h
  split at h <;> cases h
theorem pk5 (vs : List T) (p : Prop) (d : Decidable p) (x : T) (h : c5 vs = @Ans.pk p d x) (hp : p) : FnOk Try.prog tgl 5 vs x := by
  unfold c5 at h
  split at h
  · cases h
  · cases h
end Go.Nx
