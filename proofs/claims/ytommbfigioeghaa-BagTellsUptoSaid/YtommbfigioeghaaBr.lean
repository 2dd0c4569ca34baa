/-
  BAGS: SORTED, THE SAME.
-/
import Derived.Test.YtommbfigioeghaaEa
import Derived.Test.YtommbfigioeghaaBm
import Derived.Test.YtommbfigioeghaaEs0
import Derived.Test.YtommbfigioeghaaBt
set_option linter.unusedVariables false
set_option linter.unusedSimpArgs false
set_option maxRecDepth 20000
set_option maxHeartbeats 4000000
namespace Go.Nx
open Go.RowKit Go.Proofs

noncomputable def lB0 : List (Nat × (List T → Ans)) := []
noncomputable def iB0 : List (Nat × Pt) := []
noncomputable abbrev B0 : Env := En tgl lB0 iB0
theorem env_B0 : EnvOk Try.prog B0 := env_nil
def ptSort : Pt := fun _ args own R =>
  (∃ k l, args = [.sl k 0 none] ∧ look k own = some (.lst 1 (is l) 0) ∧ l.length ≤ 140737488355328 ∧ R (.t (.tup [])) (upd k (.lst 1 (is (srt l)) 0) own)) ∨ args = [.t .nils] ∧ R (.t (.tup [])) own
theorem enter_sort : Enter Try.prog 76 := by
  exact enter_low Try.func76 low76
theorem ptSort_ok (base : Nat) (args : List V) (own : Own) (R : V → Own → Prop) (h : ptSort base args own R) : FnV Try.prog tgl 76 args own R := by
  rcases h with ⟨k, l, rfl, hl, hn, hR⟩ | ⟨rfl, hR⟩
  · exact sort_fnv enter_sort (fun blk off cap zs w h1 h2 h3 => Try.slices_Sort blk off cap zs w h1 h2 h3) (fun p cap w => (Try.slices_Sort_none p cap w).mono fun e w' ⟨h1, h2⟩ => ⟨h1, 0, #[], by rw [h2]; rfl⟩) hl hn hR
  · exact sort_fnv_nil enter_sort (fun p cap w => (Try.slices_Sort_none p cap w).mono fun e w' ⟨h1, h2⟩ => ⟨h1, 0, #[], by rw [h2]; rfl⟩) hR
noncomputable def lS0 : List (Nat × (List T → Ans)) := lB0
noncomputable def iS0 : List (Nat × Pt) := (76, ptSort) :: iB0
noncomputable abbrev S0 : Env := En tgl lS0 iS0
theorem env_S0 : EnvOk Try.prog S0 := env_ptB env_B0 ptSort_ok
noncomputable def lS1 : List (Nat × (List T → Ans)) := lS0
noncomputable def iS1 : List (Nat × Pt) := (55, inl B0 m55) :: iS0
noncomputable abbrev S1 : Env := En tgl lS1 iS1
theorem env_S1 : EnvOk Try.prog S1 := (env_in env_S0 env_B0 Try.func55 low55)
theorem ok48 (xs : List T) (hq : IsI xs ∧ SzB xs) : FnOk Try.prog tgl 48 [.list 1 xs] (.list 1 (is (srt (nums xs)))) := by
  obtain ⟨⟨l, rfl, hl⟩, hs⟩ := hq
  have hlen := sz_lenB hs
  rw [nums_is]
  refine fn_okN (Γ := S1) env_S1 Try.func48 low48 ?_
  conv => whnf
  repeat' (first
    | (refine brK_true rfl ?_; conv => whnf)
    | (refine brK_false rfl ?_; conv => whnf)
    | (refine brK_true (by assumption) ?_; conv => whnf)
    | (refine brK_false (by assumption) ?_; conv => whnf)
    | (refine brK_true ?_ ?_; (focus (simp only [List.length_nil, fx] <;> omega)); conv => whnf)
    | (refine brK_false ?_ ?_; (focus (simp only [List.length_nil, fx] <;> omega)); conv => whnf)
    | ((refine brK_of (fun h => ?_) (fun h => ?_)) <;> (have h2 := h; (try simp only [List.length_nil, fx] at h2); conv => whnf))
    | (refine reqK_of ?_ ?_; (focus (first | decide | omega | assumption | (simp only [List.length_nil, fx] <;> omega) | (simp [keyNew, sameKey, kEq] <;> omega))); conv => whnf)
    | (refine reqK_of ?_ ?_; rotate_left; (conv => whnf); rotate_left)
    | (refine nth_us ?_ ?_ ?_; (focus (first | omega | (simp only [List.length_nil, fx] <;> omega))); (focus (first | omega | (simp only [List.length_nil, fx] <;> omega))); conv => whnf)
    | (refine nth_is ?_ ?_ ?_; (focus (first | omega | (simp only [List.length_nil, fx] <;> omega))); (focus (first | omega | (simp only [List.length_nil, fx] <;> omega))); conv => whnf)
    | (refine nth_bs ?_ ?_ ?_; (focus (first | omega | (simp only [List.length_nil, fx] <;> omega))); (focus (first | omega | (simp only [List.length_nil, fx] <;> omega))); conv => whnf))
  refine altK_of ?_ (fun hnil => ?_)
  · conv => whnf
    repeat' (first
      | (refine brK_true rfl ?_; conv => whnf)
      | (refine brK_false rfl ?_; conv => whnf)
      | (refine brK_true (by assumption) ?_; conv => whnf)
      | (refine brK_false (by assumption) ?_; conv => whnf)
      | (refine brK_true ?_ ?_; (focus (simp only [List.length_nil, fx] <;> omega)); conv => whnf)
      | (refine brK_false ?_ ?_; (focus (simp only [List.length_nil, fx] <;> omega)); conv => whnf)
      | ((refine brK_of (fun h => ?_) (fun h => ?_)) <;> (have h2 := h; (try simp only [List.length_nil, fx] at h2); conv => whnf))
      | (refine reqK_of ?_ ?_; (focus (first | decide | omega | assumption | (simp only [List.length_nil, fx] <;> omega) | (simp [keyNew, sameKey, kEq] <;> omega))); conv => whnf)
      | (refine reqK_of ?_ ?_; rotate_left; (conv => whnf); rotate_left)
      | (refine nth_us ?_ ?_ ?_; (focus (first | omega | (simp only [List.length_nil, fx] <;> omega))); (focus (first | omega | (simp only [List.length_nil, fx] <;> omega))); conv => whnf)
      | (refine nth_is ?_ ?_ ?_; (focus (first | omega | (simp only [List.length_nil, fx] <;> omega))); (focus (first | omega | (simp only [List.length_nil, fx] <;> omega))); conv => whnf)
      | (refine nth_bs ?_ ?_ ?_; (focus (first | omega | (simp only [List.length_nil, fx] <;> omega))); (focus (first | omega | (simp only [List.length_nil, fx] <;> omega))); conv => whnf))
    all_goals first
      | (refine .inl ⟨_, l, rfl, rfl, by omega, ?_⟩
         conv => whnf
         repeat' (first
           | (refine brK_true rfl ?_; conv => whnf)
           | (refine brK_false rfl ?_; conv => whnf)
           | (refine brK_true (by assumption) ?_; conv => whnf)
           | (refine brK_false (by assumption) ?_; conv => whnf)
           | (refine brK_true ?_ ?_; (focus (simp only [List.length_nil, fx, subL_00] <;> omega)); conv => whnf)
           | (refine brK_false ?_ ?_; (focus (simp only [List.length_nil, fx, subL_00] <;> omega)); conv => whnf)
           | ((refine brK_of (fun h => ?_) (fun h => ?_)) <;> (have h2 := h; (try simp only [List.length_nil, fx, subL_00] at h2); conv => whnf))
           | (refine reqK_of ?_ ?_; (focus (first | decide | omega | assumption | (simp only [List.length_nil, fx, subL_00] <;> omega) | (simp [keyNew, sameKey, kEq] <;> omega))); conv => whnf)
           | (refine reqK_of ?_ ?_; rotate_left; (conv => whnf); rotate_left)
           | (refine nth_us ?_ ?_ ?_; (focus (first | omega | (simp only [List.length_nil, fx, subL_00] <;> omega))); (focus (first | omega | (simp only [List.length_nil, fx, subL_00] <;> omega))); conv => whnf)
           | (refine nth_is ?_ ?_ ?_; (focus (first | omega | (simp only [List.length_nil, fx, subL_00] <;> omega))); (focus (first | omega | (simp only [List.length_nil, fx, subL_00] <;> omega))); conv => whnf)
           | (refine nth_bs ?_ ?_ ?_; (focus (first | omega | (simp only [List.length_nil, fx, subL_00] <;> omega))); (focus (first | omega | (simp only [List.length_nil, fx, subL_00] <;> omega))); conv => whnf))
         exact .inl (by rw [subL_00]))
      | skip
  · have hnil := is_nil_iff.1 hnil
    subst hnil
    conv => whnf
    repeat' (first
      | (refine brK_true rfl ?_; conv => whnf)
      | (refine brK_false rfl ?_; conv => whnf)
      | (refine brK_true (by assumption) ?_; conv => whnf)
      | (refine brK_false (by assumption) ?_; conv => whnf)
      | (refine brK_true ?_ ?_; (focus (simp only [List.length_nil, fx] <;> omega)); conv => whnf)
      | (refine brK_false ?_ ?_; (focus (simp only [List.length_nil, fx] <;> omega)); conv => whnf)
      | ((refine brK_of (fun h => ?_) (fun h => ?_)) <;> (have h2 := h; (try simp only [List.length_nil, fx] at h2); conv => whnf))
      | (refine reqK_of ?_ ?_; (focus (first | decide | omega | assumption | (simp only [List.length_nil, fx] <;> omega) | (simp [keyNew, sameKey, kEq] <;> omega))); conv => whnf)
      | (refine reqK_of ?_ ?_; rotate_left; (conv => whnf); rotate_left)
      | (refine nth_us ?_ ?_ ?_; (focus (first | omega | (simp only [List.length_nil, fx] <;> omega))); (focus (first | omega | (simp only [List.length_nil, fx] <;> omega))); conv => whnf)
      | (refine nth_is ?_ ?_ ?_; (focus (first | omega | (simp only [List.length_nil, fx] <;> omega))); (focus (first | omega | (simp only [List.length_nil, fx] <;> omega))); conv => whnf)
      | (refine nth_bs ?_ ?_ ?_; (focus (first | omega | (simp only [List.length_nil, fx] <;> omega))); (focus (first | omega | (simp only [List.length_nil, fx] <;> omega))); conv => whnf))
    refine .inr ⟨rfl, ?_⟩
    conv => whnf
    repeat' (first
      | (refine brK_true rfl ?_; conv => whnf)
      | (refine brK_false rfl ?_; conv => whnf)
      | (refine brK_true (by assumption) ?_; conv => whnf)
      | (refine brK_false (by assumption) ?_; conv => whnf)
      | (refine brK_true ?_ ?_; (focus (simp only [List.length_nil, fx] <;> omega)); conv => whnf)
      | (refine brK_false ?_ ?_; (focus (simp only [List.length_nil, fx] <;> omega)); conv => whnf)
      | ((refine brK_of (fun h => ?_) (fun h => ?_)) <;> (have h2 := h; (try simp only [List.length_nil, fx] at h2); conv => whnf))
      | (refine reqK_of ?_ ?_; (focus (first | decide | omega | assumption | (simp only [List.length_nil, fx] <;> omega) | (simp [keyNew, sameKey, kEq] <;> omega))); conv => whnf)
      | (refine reqK_of ?_ ?_; rotate_left; (conv => whnf); rotate_left)
      | (refine nth_us ?_ ?_ ?_; (focus (first | omega | (simp only [List.length_nil, fx] <;> omega))); (focus (first | omega | (simp only [List.length_nil, fx] <;> omega))); conv => whnf)
      | (refine nth_is ?_ ?_ ?_; (focus (first | omega | (simp only [List.length_nil, fx] <;> omega))); (focus (first | omega | (simp only [List.length_nil, fx] <;> omega))); conv => whnf)
      | (refine nth_bs ?_ ?_ ?_; (focus (first | omega | (simp only [List.length_nil, fx] <;> omega))); (focus (first | omega | (simp only [List.length_nil, fx] <;> omega))); conv => whnf))
    exact .inr ⟨rfl, 1, by unfold srt; rw [List.mergeSort_nil]; rfl⟩
theorem ok48_2  : FnOk Try.prog tgl 48 [.nils] (.list 1 []) := by
  refine fn_okN (Γ := S1) env_S1 Try.func48 low48 ?_
  conv => whnf
  repeat' (first
    | (refine brK_true rfl ?_; conv => whnf)
    | (refine brK_false rfl ?_; conv => whnf)
    | (refine brK_true (by assumption) ?_; conv => whnf)
    | (refine brK_false (by assumption) ?_; conv => whnf)
    | (refine brK_true ?_ ?_; (focus (simp only [List.length_nil, fx] <;> omega)); conv => whnf)
    | (refine brK_false ?_ ?_; (focus (simp only [List.length_nil, fx] <;> omega)); conv => whnf)
    | ((refine brK_of (fun h => ?_) (fun h => ?_)) <;> (have h2 := h; (try simp only [List.length_nil, fx] at h2); conv => whnf))
    | (refine reqK_of ?_ ?_; (focus (first | decide | omega | assumption | (simp only [List.length_nil, fx] <;> omega) | (simp [keyNew, sameKey, kEq] <;> omega))); conv => whnf)
    | (refine reqK_of ?_ ?_; rotate_left; (conv => whnf); rotate_left)
    | (refine nth_us ?_ ?_ ?_; (focus (first | omega | (simp only [List.length_nil, fx] <;> omega))); (focus (first | omega | (simp only [List.length_nil, fx] <;> omega))); conv => whnf)
    | (refine nth_is ?_ ?_ ?_; (focus (first | omega | (simp only [List.length_nil, fx] <;> omega))); (focus (first | omega | (simp only [List.length_nil, fx] <;> omega))); conv => whnf)
    | (refine nth_bs ?_ ?_ ?_; (focus (first | omega | (simp only [List.length_nil, fx] <;> omega))); (focus (first | omega | (simp only [List.length_nil, fx] <;> omega))); conv => whnf))
  refine .inr ⟨rfl, ?_⟩
  conv => whnf
  repeat' (first
    | (refine brK_true rfl ?_; conv => whnf)
    | (refine brK_false rfl ?_; conv => whnf)
    | (refine brK_true (by assumption) ?_; conv => whnf)
    | (refine brK_false (by assumption) ?_; conv => whnf)
    | (refine brK_true ?_ ?_; (focus (simp only [List.length_nil, fx] <;> omega)); conv => whnf)
    | (refine brK_false ?_ ?_; (focus (simp only [List.length_nil, fx] <;> omega)); conv => whnf)
    | ((refine brK_of (fun h => ?_) (fun h => ?_)) <;> (have h2 := h; (try simp only [List.length_nil, fx] at h2); conv => whnf))
    | (refine reqK_of ?_ ?_; (focus (first | decide | omega | assumption | (simp only [List.length_nil, fx] <;> omega) | (simp [keyNew, sameKey, kEq] <;> omega))); conv => whnf)
    | (refine reqK_of ?_ ?_; rotate_left; (conv => whnf); rotate_left)
    | (refine nth_us ?_ ?_ ?_; (focus (first | omega | (simp only [List.length_nil, fx] <;> omega))); (focus (first | omega | (simp only [List.length_nil, fx] <;> omega))); conv => whnf)
    | (refine nth_is ?_ ?_ ?_; (focus (first | omega | (simp only [List.length_nil, fx] <;> omega))); (focus (first | omega | (simp only [List.length_nil, fx] <;> omega))); conv => whnf)
    | (refine nth_bs ?_ ?_ ?_; (focus (first | omega | (simp only [List.length_nil, fx] <;> omega))); (focus (first | omega | (simp only [List.length_nil, fx] <;> omega))); conv => whnf))
  exact .inr ⟨rfl, 1, rfl⟩
open Classical in
noncomputable def c48 : List T → Ans
  | [.list 1 xs] => .req (IsI xs ∧ SzB xs) (.list 1 (is (srt (nums xs))))
  | [.nils] => .yes (.list 1 [])
  | _ => .no
theorem got48 {vs : List T} {x : T} (h : Got (c48 vs) x) : FnOk Try.prog tgl 48 vs x := by
  unfold c48 at h
  split at h
  · obtain ⟨hq, e⟩ := got_req h; rw [e]; exact ok48 _ hq
  · rw [got_yes h]; exact ok48_2
  · exact (got_no h).elim
theorem nogl48 (vs : List T) (p : Prop) (d : Decidable p) (sz : Nat) (xs : List T) (h : c48 vs = @Ans.gl p d sz xs) : False := by
  unfold c48 at h
  split at h <;> cases h
theorem pk48 (vs : List T) (p : Prop) (d : Decidable p) (x : T) (h : c48 vs = @Ans.pk p d x) (hp : p) : FnOk Try.prog tgl 48 vs x := by
  unfold c48 at h
  split at h
  · cases h
  · cases h
  · cases h
noncomputable def lS2 : List (Nat × (List T → Ans)) := (48, c48) :: lS0
noncomputable def iS2 : List (Nat × Pt) := iS0
noncomputable abbrev S2 : Env := En tgl lS2 iS2
theorem env_S2 : EnvOk Try.prog S2 := (env_fn env_S0 (fun _ _ => got48) (fun vs p d sz xs h _ => (nogl48 vs p d sz xs h).elim) pk48)
theorem ok47 (xs ys : List T) (hq : (IsI xs ∧ SzB xs) ∧ IsI ys) : FnOk Try.prog tgl 47 [.list 1 xs, .list 1 ys] (.bool (eqNs (nums xs) (nums ys))) := by
  refine fn_ok (Γ := B0) env_B0 Try.func47 low47 ?_
  obtain ⟨⟨⟨l, rfl, hl⟩, hs⟩, r, rfl, hr⟩ := hq
  have hlen := sz_lenB hs
  rw [nums_is, nums_is]
  conv => whnf
  repeat' (first
    | (refine brK_true rfl ?_; conv => whnf)
    | (refine brK_false rfl ?_; conv => whnf)
    | (refine brK_true (by assumption) ?_; conv => whnf)
    | (refine brK_false (by assumption) ?_; conv => whnf)
    | (refine brK_true ?_ ?_; (focus (simp only [List.length_nil, fx] <;> omega)); conv => whnf)
    | (refine brK_false ?_ ?_; (focus (simp only [List.length_nil, fx] <;> omega)); conv => whnf)
    | ((refine brK_of (fun h => ?_) (fun h => ?_)) <;> (have h2 := h; (try simp only [List.length_nil, fx] at h2); conv => whnf))
    | (refine reqK_of ?_ ?_; (focus (first | decide | omega | assumption | (simp only [List.length_nil, fx] <;> omega) | (simp [keyNew, sameKey, kEq] <;> omega))); conv => whnf)
    | (refine reqK_of ?_ ?_; rotate_left; (conv => whnf); rotate_left)
    | (refine nth_us ?_ ?_ ?_; (focus (first | omega | (simp only [List.length_nil, fx] <;> omega))); (focus (first | omega | (simp only [List.length_nil, fx] <;> omega))); conv => whnf)
    | (refine nth_is ?_ ?_ ?_; (focus (first | omega | (simp only [List.length_nil, fx] <;> omega))); (focus (first | omega | (simp only [List.length_nil, fx] <;> omega))); conv => whnf)
    | (refine nth_bs ?_ ?_ ?_; (focus (first | omega | (simp only [List.length_nil, fx] <;> omega))); (focus (first | omega | (simp only [List.length_nil, fx] <;> omega))); conv => whnf))
  · rw [show eqNs l r = false by unfold eqNs; rw [decide_eq_false_iff_not]; intro e; subst e; exact h2 rfl]
  · have hlr : l.length = r.length := by omega
    refine loopSet [] [.kill 5, .kill 14, .kill 15, .kill 16, .kill 17, .kill 18, .kill 19, .kill 20, .kill 21, .kill 22, .kill 23, .kill 24, .kill 25] (fun k : Nat => [(13, .t (.int .i64 (k : Int)))]) (fun _ => []) (fun k => k ≤ l.length ∧ l.take k = r.take k) (fun k => l.length - k) 0 ⟨Nat.zero_le _, rfl⟩ ?_
    conv => whnf
    refine ⟨⟨rfl, rfl⟩, fun k hk C hC => ?_⟩
    obtain ⟨hk1, hk2⟩ := hk
    conv => whnf
    repeat' (first
      | (refine brK_true rfl ?_; conv => whnf)
      | (refine brK_false rfl ?_; conv => whnf)
      | (refine brK_true (by assumption) ?_; conv => whnf)
      | (refine brK_false (by assumption) ?_; conv => whnf)
      | (refine brK_true ?_ ?_; (focus (simp only [List.length_nil, fx] <;> omega)); conv => whnf)
      | (refine brK_false ?_ ?_; (focus (simp only [List.length_nil, fx] <;> omega)); conv => whnf)
      | ((refine brK_of (fun h => ?_) (fun h => ?_)) <;> (have h2 := h; (try simp only [List.length_nil, fx] at h2); conv => whnf))
      | (refine reqK_of ?_ ?_; (focus (first | decide | omega | assumption | (simp only [List.length_nil, fx] <;> omega) | (simp [keyNew, sameKey, kEq] <;> omega))); conv => whnf)
      | (refine reqK_of ?_ ?_; rotate_left; (conv => whnf); rotate_left)
      | (refine nth_us ?_ ?_ ?_; (focus (first | omega | (simp only [List.length_nil, fx] <;> omega))); (focus (first | omega | (simp only [List.length_nil, fx] <;> omega))); conv => whnf)
      | (refine nth_is ?_ ?_ ?_; (focus (first | omega | (simp only [List.length_nil, fx] <;> omega))); (focus (first | omega | (simp only [List.length_nil, fx] <;> omega))); conv => whnf)
      | (refine nth_bs ?_ ?_ ?_; (focus (first | omega | (simp only [List.length_nil, fx] <;> omega))); (focus (first | omega | (simp only [List.length_nil, fx] <;> omega))); conv => whnf))
    · rw [eqNs_no (k := k) (by omega) (by omega) (by assumption)]
    · refine loopC (hC (k + 1) ⟨by omega, take_nextB hk2 (by omega) (by omega) (by assumption)⟩ (by omega)) ?_
      have hw : IntKind.i64.wrap ((k : Int) + 1) = (k : Int) + 1 := wrap_i64 ⟨by omega, by omega⟩
      rw [hw]; rfl
    · have hk3 : k = l.length := by omega
      subst hk3
      have : l = r := by rw [← List.take_length (l := l), hk2, hlr, List.take_length]
      subst this
      rw [show eqNs l l = true by simp [eqNs]]
open Classical in
noncomputable def c47 : List T → Ans
  | [.list 1 xs, .list 1 ys] => .req ((IsI xs ∧ SzB xs) ∧ IsI ys) (.bool (eqNs (nums xs) (nums ys)))
  | _ => .no
theorem got47 {vs : List T} {x : T} (h : Got (c47 vs) x) : FnOk Try.prog tgl 47 vs x := by
  unfold c47 at h
  split at h
  · obtain ⟨hq, e⟩ := got_req h; rw [e]; exact ok47 _ _ hq
  · exact (got_no h).elim
theorem nogl47 (vs : List T) (p : Prop) (d : Decidable p) (sz : Nat) (xs : List T) (h : c47 vs = @Ans.gl p d sz xs) : False := by
  unfold c47 at h
  split at h <;> cases h
theorem pk47 (vs : List T) (p : Prop) (d : Decidable p) (x : T) (h : c47 vs = @Ans.pk p d x) (hp : p) : FnOk Try.prog tgl 47 vs x := by
  unfold c47 at h
  split at h
  · cases h
  · cases h
noncomputable def lS3 : List (Nat × (List T → Ans)) := (47, c47) :: lS2
noncomputable def iS3 : List (Nat × Pt) := iS2
noncomputable abbrev S3 : Env := En tgl lS3 iS3
theorem env_S3 : EnvOk Try.prog S3 := (env_fn env_S2 (fun _ _ => got47) (fun vs p d sz xs h _ => (nogl47 vs p d sz xs h).elim) pk47)
theorem ok16 (xs ys : List T) (hq : (IsI xs ∧ SzB xs) ∧ (IsI ys ∧ SzB ys)) : FnOk Try.prog tgl 16 [.list 1 xs, .list 1 ys] (.bool (eqNs (srt (nums xs)) (srt (nums ys)))) := by
  refine fn_ok (Γ := S3) env_S3 Try.func16 low16 ?_
  obtain ⟨⟨⟨l, rfl, hl⟩, hs⟩, ⟨r, rfl, hr⟩, hs2⟩ := hq
  have q1 : IsI (is l) ∧ SzB (is l) := ⟨⟨l, rfl, hl⟩, hs⟩
  have q2 : IsI (is r) ∧ SzB (is r) := ⟨⟨r, rfl, hr⟩, hs2⟩
  have q3 : (IsI (is (srt l)) ∧ SzB (is (srt l))) ∧ IsI (is (srt r)) := ⟨⟨isI_srt hl, sz_srt hs⟩, isI_srt hr⟩
  rw [nums_is, nums_is]
  conv => whnf
  repeat' (first
    | (refine brK_true rfl ?_; conv => whnf)
    | (refine brK_false rfl ?_; conv => whnf)
    | (refine brK_true (by assumption) ?_; conv => whnf)
    | (refine brK_false (by assumption) ?_; conv => whnf)
    | (refine brK_true ?_ ?_; (focus (simp only [List.length_nil, fx] <;> omega)); conv => whnf)
    | (refine brK_false ?_ ?_; (focus (simp only [List.length_nil, fx] <;> omega)); conv => whnf)
    | ((refine brK_of (fun h => ?_) (fun h => ?_)) <;> (have h2 := h; (try simp only [List.length_nil, fx] at h2); conv => whnf))
    | (refine reqK_of ?_ ?_; (focus (first | decide | omega | assumption | (simp only [List.length_nil, fx] <;> omega) | (simp [keyNew, sameKey, kEq] <;> omega))); conv => whnf)
    | (refine reqK_of ?_ ?_; rotate_left; (conv => whnf); rotate_left)
    | (refine nth_us ?_ ?_ ?_; (focus (first | omega | (simp only [List.length_nil, fx] <;> omega))); (focus (first | omega | (simp only [List.length_nil, fx] <;> omega))); conv => whnf)
    | (refine nth_is ?_ ?_ ?_; (focus (first | omega | (simp only [List.length_nil, fx] <;> omega))); (focus (first | omega | (simp only [List.length_nil, fx] <;> omega))); conv => whnf)
    | (refine nth_bs ?_ ?_ ?_; (focus (first | omega | (simp only [List.length_nil, fx] <;> omega))); (focus (first | omega | (simp only [List.length_nil, fx] <;> omega))); conv => whnf))
  simp only [nums_is]
open Classical in
noncomputable def c16 : List T → Ans
  | [.list 1 xs, .list 1 ys] => .req ((IsI xs ∧ SzB xs) ∧ (IsI ys ∧ SzB ys)) (.bool (eqNs (srt (nums xs)) (srt (nums ys))))
  | _ => .no
theorem got16 {vs : List T} {x : T} (h : Got (c16 vs) x) : FnOk Try.prog tgl 16 vs x := by
  unfold c16 at h
  split at h
  · obtain ⟨hq, e⟩ := got_req h; rw [e]; exact ok16 _ _ hq
  · exact (got_no h).elim
theorem nogl16 (vs : List T) (p : Prop) (d : Decidable p) (sz : Nat) (xs : List T) (h : c16 vs = @Ans.gl p d sz xs) : False := by
  unfold c16 at h
  split at h <;> cases h
theorem pk16 (vs : List T) (p : Prop) (d : Decidable p) (x : T) (h : c16 vs = @Ans.pk p d x) (hp : p) : FnOk Try.prog tgl 16 vs x := by
  unfold c16 at h
  split at h
  · cases h
  · cases h
end Go.Nx
