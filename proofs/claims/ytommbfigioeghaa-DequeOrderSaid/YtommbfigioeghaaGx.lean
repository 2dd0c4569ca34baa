/-
  DEQUES: THE WORLD, STEP BY STEP: THE OWNER.
-/
import Derived.Test.YtommbfigioeghaaGw
set_option linter.unusedVariables false
set_option linter.unusedSimpArgs false
set_option maxRecDepth 20000
set_option maxHeartbeats 16000000
namespace Go.Nx
open Go.RowKit Go.Proofs

theorem stepQ_own {w : Wq} {n : Int} (h : ¬ n % 5 < 3) : stepQ w n = (let r := dstep w.m (ownA w n).1
  ⟨r.1, w.cap, r.2, w.thief, if r.2.out = 1 ∧ r.2.kind = 1 then addB w.pushed r.2.x 1 else w.pushed, if r.2.out = 1 ∧ r.2.kind = 2 then addB w.got r.2.x 1 else w.got, (ownA w n).2⟩) := by
  unfold stepQ; rw [if_neg h]
theorem qs_own {w : Wq} {a b : Bool} {n : Int} (hn : R8 n) (h3 : ¬ n % 5 < 3) (hw : QOk w a b) {base : Nat} {R : V → Own → Prop}
    (hR : R (.t (.tup [])) (ownQ (stepQ w n) (nilA w a n) (nilB w b n))) : inl WB m35 base [.ptr 1001 0, .t (.int .u8 n)] (ownQ w a b) R := by
  unfold R8 at hn
  have hk : IntKind.i64.wrap (n.tmod 5) = n % 5 := by rw [Int.tmod_eq_emod_of_nonneg hn.1]; exact wrap_i64 ⟨by omega, by omega⟩
  have hwn : IntKind.u8.wrap (n.tdiv 5) = n / 5 := by
    rw [Int.tdiv_eq_ediv_of_nonneg hn.1]
    unfold IntKind.wrap
    have e : (n / 5) % (2 : Int) ^ IntKind.bits .u8 = n / 5 := Int.emod_eq_of_lt (by omega) (by show n / 5 < 256; omega)
    simp only [e]
    rfl
  have hk2 : (n / 5).tmod 2 = n / 5 % 2 := Int.tmod_eq_emod_of_nonneg (by omega)
  have hst := stepQ_own (w := w) h3
  have hna : nilA w a n = (a && !(decide ((stepQ w n).owner.out = 1 ∧ (stepQ w n).owner.kind = 1))) := by unfold nilA; rw [if_neg h3]
  have hnb : nilB w b n = (b && !(decide ((stepQ w n).owner.out = 1 ∧ (stepQ w n).owner.kind = 2))) := by unfold nilB; rw [if_neg h3]
  rw [hna, hnb, hst] at hR
  clear hna hnb hst
  obtain ⟨m, cap, owner, thief, pushed, got, next⟩ := w
  obtain ⟨⟨hm, hs⟩, hcap, hl3, htc, hoc, hnx, hpu, hgo⟩ := hw
  simp only at hm hs hcap hl3 htc hoc hnx hpu hgo
  have hm1 : (minI 1 1000).toNat = 1 := by rw [minI_def]; rfl
  have hq1 : (IsU (us m) ∧ Sz (us m)) := ⟨isU_us hm, hs⟩
  have hqP : ∀ d : DM, I64 d.x → (IsI (is pushed) ∧ ((is pushed).length + (minI 1 1000).toNat) * 8 ≤ maxBytes) ∧ I64 (dstep (nums (us m)) d).2.x ∧ I64 1 := fun d h => by
    rw [hm1, is_len]
    exact ⟨⟨isI_is hpu.2.1, by unfold maxBytes; have := hpu.2.2; omega⟩, dstep_x _ h, by unfold I64; omega⟩
  have hqG : ∀ d : DM, I64 d.x → (IsI (is got) ∧ ((is got).length + (minI 1 1000).toNat) * 8 ≤ maxBytes) ∧ I64 (dstep (nums (us m)) d).2.x ∧ I64 1 := fun d h => by
    rw [hm1, is_len]
    exact ⟨⟨isI_is hgo.2.1, by unfold maxBytes; have := hgo.2.2; omega⟩, dstep_x _ h, by unfold I64; omega⟩
  have hqN : ∀ d : DM, I64 d.x → I64 (dstep (nums (us m)) d).2.x ∧ 0 ≤ (1 : Int) ∧ (1 : Int) ≤ 1000 := fun d h => ⟨dstep_x _ h, by omega, by omega⟩
  have h00 : I64 0 := by unfold I64; omega
  have hpn := hpu.1
  have hgn := hgo.1
  cases a <;> cases b
  all_goals unfold inl ownQ
  all_goals dsimp only
  all_goals (try (have hpe : pushed = [] := hpn rfl))
  all_goals (try (have hge : got = [] := hgn rfl))
  · conv => whnf
    repeat' (first
      | (refine brK_true rfl ?_; conv => whnf)
      | (refine brK_false rfl ?_; conv => whnf)
      | (refine brK_true (by assumption) ?_; conv => whnf)
      | (refine brK_false (by assumption) ?_; conv => whnf)
      | (refine brK_true ?_ ?_; (focus (simp only [List.length_nil, fx, hk, hwn, hk2] <;> omega)); conv => whnf)
      | (refine brK_false ?_ ?_; (focus (simp only [List.length_nil, fx, hk, hwn, hk2] <;> omega)); conv => whnf)
      | ((refine brK_of (fun h => ?_) (fun h => ?_)) <;> (have h2 := h; (try simp only [List.length_nil, fx, hk, hwn, hk2] at h2); conv => whnf))
      | (refine reqK_of ?_ ?_; (focus (first | decide | omega | assumption | (simp only [List.length_nil, fx, hk, hwn, hk2] <;> omega) | (simp [keyNew, sameKey, kEq] <;> omega))); conv => whnf)
      | (refine reqK_of ?_ ?_; rotate_left; (conv => whnf); rotate_left)
      | (refine nth_us ?_ ?_ ?_; (focus (first | omega | (simp only [List.length_nil, fx, hk, hwn, hk2] <;> omega))); (focus (first | omega | (simp only [List.length_nil, fx, hk, hwn, hk2] <;> omega))); conv => whnf)
      | (refine nth_is ?_ ?_ ?_; (focus (first | omega | (simp only [List.length_nil, fx, hk, hwn, hk2] <;> omega))); (focus (first | omega | (simp only [List.length_nil, fx, hk, hwn, hk2] <;> omega))); conv => whnf)
      | (refine nth_bs ?_ ?_ ?_; (focus (first | omega | (simp only [List.length_nil, fx, hk, hwn, hk2] <;> omega))); (focus (first | omega | (simp only [List.length_nil, fx, hk, hwn, hk2] <;> omega))); conv => whnf))
    all_goals first
      | exact ⟨hq1, hcap⟩
      | exact ⟨hq1, hoc.1⟩
      | exact hqP _ h00
      | exact hqP _ hnx
      | exact hqP _ hoc.2
      | exact hqG _ h00
      | exact hqG _ hnx
      | exact hqG _ hoc.2
      | exact hqN _ h00
      | exact hqN _ hnx
      | exact hqN _ hoc.2
      | skip
    all_goals clear hqP hqG hqN hpn hgn hq1
    all_goals refine cast (congrArg (R _) ?_) hR
    all_goals simp only [nums_us, ownA, dm_eta] at *
    all_goals simp_all [ownQ, pvT, DM.T]

  · conv => whnf
    repeat' (first
      | (refine brK_true rfl ?_; conv => whnf)
      | (refine brK_false rfl ?_; conv => whnf)
      | (refine brK_true (by assumption) ?_; conv => whnf)
      | (refine brK_false (by assumption) ?_; conv => whnf)
      | (refine brK_true ?_ ?_; (focus (simp only [List.length_nil, fx, hk, hwn, hk2] <;> omega)); conv => whnf)
      | (refine brK_false ?_ ?_; (focus (simp only [List.length_nil, fx, hk, hwn, hk2] <;> omega)); conv => whnf)
      | ((refine brK_of (fun h => ?_) (fun h => ?_)) <;> (have h2 := h; (try simp only [List.length_nil, fx, hk, hwn, hk2] at h2); conv => whnf))
      | (refine reqK_of ?_ ?_; (focus (first | decide | omega | assumption | (simp only [List.length_nil, fx, hk, hwn, hk2] <;> omega) | (simp [keyNew, sameKey, kEq] <;> omega))); conv => whnf)
      | (refine reqK_of ?_ ?_; rotate_left; (conv => whnf); rotate_left)
      | (refine nth_us ?_ ?_ ?_; (focus (first | omega | (simp only [List.length_nil, fx, hk, hwn, hk2] <;> omega))); (focus (first | omega | (simp only [List.length_nil, fx, hk, hwn, hk2] <;> omega))); conv => whnf)
      | (refine nth_is ?_ ?_ ?_; (focus (first | omega | (simp only [List.length_nil, fx, hk, hwn, hk2] <;> omega))); (focus (first | omega | (simp only [List.length_nil, fx, hk, hwn, hk2] <;> omega))); conv => whnf)
      | (refine nth_bs ?_ ?_ ?_; (focus (first | omega | (simp only [List.length_nil, fx, hk, hwn, hk2] <;> omega))); (focus (first | omega | (simp only [List.length_nil, fx, hk, hwn, hk2] <;> omega))); conv => whnf))
    all_goals first
      | exact ⟨hq1, hcap⟩
      | exact ⟨hq1, hoc.1⟩
      | exact hqP _ h00
      | exact hqP _ hnx
      | exact hqP _ hoc.2
      | exact hqG _ h00
      | exact hqG _ hnx
      | exact hqG _ hoc.2
      | exact hqN _ h00
      | exact hqN _ hnx
      | exact hqN _ hoc.2
      | skip
    all_goals clear hqP hqG hqN hpn hgn hq1
    all_goals refine cast (congrArg (R _) ?_) hR
    all_goals simp only [nums_us, ownA, dm_eta] at *
    all_goals simp_all [ownQ, pvT, DM.T]

  · conv => whnf
    repeat' (first
      | (refine brK_true rfl ?_; conv => whnf)
      | (refine brK_false rfl ?_; conv => whnf)
      | (refine brK_true (by assumption) ?_; conv => whnf)
      | (refine brK_false (by assumption) ?_; conv => whnf)
      | (refine brK_true ?_ ?_; (focus (simp only [List.length_nil, fx, hk, hwn, hk2] <;> omega)); conv => whnf)
      | (refine brK_false ?_ ?_; (focus (simp only [List.length_nil, fx, hk, hwn, hk2] <;> omega)); conv => whnf)
      | ((refine brK_of (fun h => ?_) (fun h => ?_)) <;> (have h2 := h; (try simp only [List.length_nil, fx, hk, hwn, hk2] at h2); conv => whnf))
      | (refine reqK_of ?_ ?_; (focus (first | decide | omega | assumption | (simp only [List.length_nil, fx, hk, hwn, hk2] <;> omega) | (simp [keyNew, sameKey, kEq] <;> omega))); conv => whnf)
      | (refine reqK_of ?_ ?_; rotate_left; (conv => whnf); rotate_left)
      | (refine nth_us ?_ ?_ ?_; (focus (first | omega | (simp only [List.length_nil, fx, hk, hwn, hk2] <;> omega))); (focus (first | omega | (simp only [List.length_nil, fx, hk, hwn, hk2] <;> omega))); conv => whnf)
      | (refine nth_is ?_ ?_ ?_; (focus (first | omega | (simp only [List.length_nil, fx, hk, hwn, hk2] <;> omega))); (focus (first | omega | (simp only [List.length_nil, fx, hk, hwn, hk2] <;> omega))); conv => whnf)
      | (refine nth_bs ?_ ?_ ?_; (focus (first | omega | (simp only [List.length_nil, fx, hk, hwn, hk2] <;> omega))); (focus (first | omega | (simp only [List.length_nil, fx, hk, hwn, hk2] <;> omega))); conv => whnf))
    all_goals first
      | exact ⟨hq1, hcap⟩
      | exact ⟨hq1, hoc.1⟩
      | exact hqP _ h00
      | exact hqP _ hnx
      | exact hqP _ hoc.2
      | exact hqG _ h00
      | exact hqG _ hnx
      | exact hqG _ hoc.2
      | exact hqN _ h00
      | exact hqN _ hnx
      | exact hqN _ hoc.2
      | skip
    all_goals clear hqP hqG hqN hpn hgn hq1
    all_goals refine cast (congrArg (R _) ?_) hR
    all_goals simp only [nums_us, ownA, dm_eta] at *
    all_goals simp_all [ownQ, pvT, DM.T]

  · conv => whnf
    repeat' (first
      | (refine brK_true rfl ?_; conv => whnf)
      | (refine brK_false rfl ?_; conv => whnf)
      | (refine brK_true (by assumption) ?_; conv => whnf)
      | (refine brK_false (by assumption) ?_; conv => whnf)
      | (refine brK_true ?_ ?_; (focus (simp only [List.length_nil, fx, hk, hwn, hk2] <;> omega)); conv => whnf)
      | (refine brK_false ?_ ?_; (focus (simp only [List.length_nil, fx, hk, hwn, hk2] <;> omega)); conv => whnf)
      | ((refine brK_of (fun h => ?_) (fun h => ?_)) <;> (have h2 := h; (try simp only [List.length_nil, fx, hk, hwn, hk2] at h2); conv => whnf))
      | (refine reqK_of ?_ ?_; (focus (first | decide | omega | assumption | (simp only [List.length_nil, fx, hk, hwn, hk2] <;> omega) | (simp [keyNew, sameKey, kEq] <;> omega))); conv => whnf)
      | (refine reqK_of ?_ ?_; rotate_left; (conv => whnf); rotate_left)
      | (refine nth_us ?_ ?_ ?_; (focus (first | omega | (simp only [List.length_nil, fx, hk, hwn, hk2] <;> omega))); (focus (first | omega | (simp only [List.length_nil, fx, hk, hwn, hk2] <;> omega))); conv => whnf)
      | (refine nth_is ?_ ?_ ?_; (focus (first | omega | (simp only [List.length_nil, fx, hk, hwn, hk2] <;> omega))); (focus (first | omega | (simp only [List.length_nil, fx, hk, hwn, hk2] <;> omega))); conv => whnf)
      | (refine nth_bs ?_ ?_ ?_; (focus (first | omega | (simp only [List.length_nil, fx, hk, hwn, hk2] <;> omega))); (focus (first | omega | (simp only [List.length_nil, fx, hk, hwn, hk2] <;> omega))); conv => whnf))
    all_goals first
      | exact ⟨hq1, hcap⟩
      | exact ⟨hq1, hoc.1⟩
      | exact hqP _ h00
      | exact hqP _ hnx
      | exact hqP _ hoc.2
      | exact hqG _ h00
      | exact hqG _ hnx
      | exact hqG _ hoc.2
      | exact hqN _ h00
      | exact hqN _ hnx
      | exact hqN _ hoc.2
      | skip
    all_goals clear hqP hqG hqN hpn hgn hq1
    all_goals refine cast (congrArg (R _) ?_) hR
    all_goals simp only [nums_us, ownA, dm_eta] at *
    all_goals simp_all [ownQ, pvT, DM.T]

theorem inl_qstep {w : Wq} {a b : Bool} {n : Int} (hn : R8 n) (hw : QOk w a b) {base : Nat} {R : V → Own → Prop}
    (hR : R (.t (.tup [])) (ownQ (stepQ w n) (nilA w a n) (nilB w b n))) : inl WB m35 base [.ptr 1001 0, .t (.int .u8 n)] (ownQ w a b) R := by
  by_cases h3 : n % 5 < 3
  · unfold R8 at hn
    have hk : IntKind.i64.wrap (n.tmod 5) = n % 5 := by rw [Int.tmod_eq_emod_of_nonneg hn.1]; exact wrap_i64 ⟨by omega, by omega⟩
    have hst : stepQ w n = stealQ w (n % 5).toNat := by unfold stepQ; rw [if_pos h3]
    rw [hst, show nilA w a n = a by unfold nilA; rw [if_pos h3], show nilB w b n = (b && decide ((dstep w.m (dAt w.thief (n % 5).toNat)).2.out ≠ 1)) by unfold nilB; rw [if_pos h3]] at hR
    unfold inl ownQ
    conv => whnf
    repeat' (first
      | (refine brK_true rfl ?_; conv => whnf)
      | (refine brK_false rfl ?_; conv => whnf)
      | (refine brK_true (by assumption) ?_; conv => whnf)
      | (refine brK_false (by assumption) ?_; conv => whnf)
      | (refine brK_true ?_ ?_; (focus (simp only [List.length_nil, fx, hk] <;> omega)); conv => whnf)
      | (refine brK_false ?_ ?_; (focus (simp only [List.length_nil, fx, hk] <;> omega)); conv => whnf)
      | ((refine brK_of (fun h => ?_) (fun h => ?_)) <;> (have h2 := h; (try simp only [List.length_nil, fx, hk] at h2); conv => whnf))
      | (refine reqK_of ?_ ?_; (focus (first | decide | omega | assumption | (simp only [List.length_nil, fx, hk] <;> omega) | (simp [keyNew, sameKey, kEq] <;> omega))); conv => whnf)
      | (refine reqK_of ?_ ?_; rotate_left; (conv => whnf); rotate_left)
      | (refine nth_us ?_ ?_ ?_; (focus (first | omega | (simp only [List.length_nil, fx, hk] <;> omega))); (focus (first | omega | (simp only [List.length_nil, fx, hk] <;> omega))); conv => whnf)
      | (refine nth_is ?_ ?_ ?_; (focus (first | omega | (simp only [List.length_nil, fx, hk] <;> omega))); (focus (first | omega | (simp only [List.length_nil, fx, hk] <;> omega))); conv => whnf)
      | (refine nth_bs ?_ ?_ ?_; (focus (first | omega | (simp only [List.length_nil, fx, hk] <;> omega))); (focus (first | omega | (simp only [List.length_nil, fx, hk] <;> omega))); conv => whnf))
    refine ⟨w, a, b, (n % 5).toNat, ?_, rfl, by omega, hw, ?_⟩
    · rw [hk, Int.toNat_of_nonneg (by omega)]; rfl
    · conv => whnf
      repeat' (first
        | (refine brK_true rfl ?_; conv => whnf)
        | (refine brK_false rfl ?_; conv => whnf)
        | (refine brK_true (by assumption) ?_; conv => whnf)
        | (refine brK_false (by assumption) ?_; conv => whnf)
        | (refine brK_true ?_ ?_; (focus (simp only [List.length_nil, fx] <;> omega)); conv => whnf)
        | (refine brK_false ?_ ?_; (focus (simp only [List.length_nil, fx] <;> omega)); conv => whnf)
        | ((refine brK_of (fun h => ?_) (fun h => ?_)) <;> (have h2 := h; (try simp only [List.length_nil, fx] at h2); conv => whnf))
        | (refine reqK_of ?_ ?_; (focus (first | decide | omega | assumption | (simp only [List.length_nil, fx] <;> omega) | (simp [keyNew, sameKey, kEq] <;> omega))); conv => whnf)
        | (refine reqK_of ?_ ?_; rotate_left; (conv => whnf); rotate_left)
        | (refine nth_us ?_ ?_ ?_; (focus (first | omega | (simp only [List.length_nil, fx] <;> omega))); (focus (first | omega | (simp only [List.length_nil, fx] <;> omega))); conv => whnf)
        | (refine nth_is ?_ ?_ ?_; (focus (first | omega | (simp only [List.length_nil, fx] <;> omega))); (focus (first | omega | (simp only [List.length_nil, fx] <;> omega))); conv => whnf)
        | (refine nth_bs ?_ ?_ ?_; (focus (first | omega | (simp only [List.length_nil, fx] <;> omega))); (focus (first | omega | (simp only [List.length_nil, fx] <;> omega))); conv => whnf))
      exact hR
  · exact qs_own hn h3 hw hR
def ptStep : Pt := fun _ args own R => ∃ (w : Wq) (a b : Bool) (n : Int), args = [.ptr 1001 0, .t (.int .u8 n)] ∧ own = ownQ w a b ∧ R8 n ∧ QOk w a b ∧ R (.t (.tup [])) (ownQ (stepQ w n) (nilA w a n) (nilB w b n))
theorem ptStep_ok (base : Nat) (args : List V) (own : Own) (R : V → Own → Prop) (h : ptStep base args own R) : FnV Try.prog tgl 35 args own R := by
  obtain ⟨w, a, b, n, rfl, rfl, hk, hw, hR⟩ := h
  exact inl_ok (base := base) env_WB Try.func35 low35 (inl_qstep hk hw hR)
noncomputable def lWC : List (Nat × (List T → Ans)) := lWB
noncomputable def iWC : List (Nat × Pt) := (35, ptStep) :: iWB
noncomputable abbrev WC : Env := En tgl lWC iWC
theorem env_WC : EnvOk Try.prog WC := env_ptB env_WB ptStep_ok
end Go.Nx
