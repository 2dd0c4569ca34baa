/-
  ALL NODES, WHEREVER THEY ARE: walked.
-/
import Derived.Test.YtommbfigioeghaaEu
import Derived.Test.YtommbfigioeghaaBr
set_option linter.unusedVariables false
set_option linter.unusedSimpArgs false
set_option maxRecDepth 20000
set_option maxHeartbeats 16000000
namespace Go.Nx
open Go.RowKit Go.Proofs

theorem fltN_succ (l : List Int) (k : Nat) (hk : k < l.length) : flt (l.take (k + 1)) = if 0 < at0 l k then flt (l.take k) ++ [at0 l k] else flt (l.take k) := by
  have e : l.take (k + 1) = l.take k ++ [at0 l k] := by
    rw [List.take_add_one]; simp [at0, hk]
  rw [e]
  unfold flt
  rw [List.filter_append]
  by_cases h : 0 < at0 l k
  · rw [if_pos h]; simp [lt_t.2 h]
  · rw [if_neg h]
    have : ltI 0 (at0 l k) = false := by rw [lt_f]; omega
    simp [this]
theorem flt_len (l : List Int) : (flt l).length ≤ l.length := List.length_filter_le _ _
def ndKey : Nat := 91246
theorem inl_nodes {w : Wd} (hw : WOk w) {R : V → Own → Prop} (hR : R (.sl ndKey 0 none) ((ndKey, .lst 1 (is (nodesL w)) 1) :: ownW w)) (hb : (nodesL w).length ≤ 200) : inl EW m17 91136 [.ptr 1001 0] (ownW w) R := by
  obtain ⟨m, who, has, swap⟩ := w
  obtain ⟨⟨hm, hsz⟩, h5, h5'⟩ := hw
  simp only at hm hsz h5 h5'
  unfold nodesL at hb
  simp only [List.length_append] at hb
  unfold inl ownW
  conv => whnf
  repeat' (first
    | (refine brK_true (by assumption) ?_; conv => whnf)
    | (refine brK_false (by assumption) ?_; conv => whnf)
    | (refine brK_true ?_ ?_; (focus (simp only [List.length_nil, not_t, not_f, lt_t, lt_f, le_t, le_f, eq_t, eq_f, us_len, is_len, bs_len, lenL_00, natadd0, ms_len, is_len, List.length_set] <;> omega)); conv => whnf)
    | (refine brK_false ?_ ?_; (focus (simp only [List.length_nil, not_t, not_f, lt_t, lt_f, le_t, le_f, eq_t, eq_f, us_len, is_len, bs_len, lenL_00, natadd0, ms_len, is_len, List.length_set] <;> omega)); conv => whnf)
    | ((refine brK_of (fun h => ?_) (fun h => ?_)) <;> (have h2 := h; (try simp only [List.length_nil, not_t, not_f, lt_t, lt_f, le_t, le_f, eq_t, eq_f, us_len, is_len, bs_len, lenL_00, natadd0, ms_len, is_len, List.length_set] at h2); conv => whnf))
    | (refine reqK_of ?_ ?_; (focus (first | decide | omega | assumption | (simp only [List.length_nil, not_t, not_f, lt_t, lt_f, le_t, le_f, eq_t, eq_f, us_len, is_len, bs_len, lenL_00, natadd0, ms_len, is_len, List.length_set] <;> omega) | (simp [keyNew, sameKey, kEq] <;> omega))); conv => whnf)
    | (refine reqK_of ?_ ?_; rotate_left; (conv => whnf); rotate_left)
    | (refine nth_ms ?_ ?_ ?_; (focus (first | omega | (simp only [List.length_nil, not_t, not_f, lt_t, lt_f, le_t, le_f, eq_t, eq_f, us_len, is_len, bs_len, lenL_00, natadd0, ms_len, is_len, List.length_set] <;> omega))); (focus (first | omega | (simp only [List.length_nil, not_t, not_f, lt_t, lt_f, le_t, le_f, eq_t, eq_f, us_len, is_len, bs_len, lenL_00, natadd0, ms_len, is_len, List.length_set] <;> omega))); conv => whnf)
    | (refine nth_us ?_ ?_ ?_; (focus (first | omega | (simp only [List.length_nil, not_t, not_f, lt_t, lt_f, le_t, le_f, eq_t, eq_f, us_len, is_len, bs_len, lenL_00, natadd0, ms_len, is_len, List.length_set] <;> omega))); (focus (first | omega | (simp only [List.length_nil, not_t, not_f, lt_t, lt_f, le_t, le_f, eq_t, eq_f, us_len, is_len, bs_len, lenL_00, natadd0, ms_len, is_len, List.length_set] <;> omega))); conv => whnf)
    | (refine nth_is ?_ ?_ ?_; (focus (first | omega | (simp only [List.length_nil, not_t, not_f, lt_t, lt_f, le_t, le_f, eq_t, eq_f, us_len, is_len, bs_len, lenL_00, natadd0, ms_len, is_len, List.length_set] <;> omega))); (focus (first | omega | (simp only [List.length_nil, not_t, not_f, lt_t, lt_f, le_t, le_f, eq_t, eq_f, us_len, is_len, bs_len, lenL_00, natadd0, ms_len, is_len, List.length_set] <;> omega))); conv => whnf)
    | (refine nth_bs ?_ ?_ ?_; (focus (first | omega | (simp only [List.length_nil, not_t, not_f, lt_t, lt_f, le_t, le_f, eq_t, eq_f, us_len, is_len, bs_len, lenL_00, natadd0, ms_len, is_len, List.length_set] <;> omega))); (focus (first | omega | (simp only [List.length_nil, not_t, not_f, lt_t, lt_f, le_t, le_f, eq_t, eq_f, us_len, is_len, bs_len, lenL_00, natadd0, ms_len, is_len, List.length_set] <;> omega))); conv => whnf))
  refine loopFn [.adopt 3 2001 1] (fun s => nzIf 91232 s [.kill 6, .kill 7, .kill 8, .kill 9, .kill 10, .kill 11, .kill 12, .kill 13, .kill 14, .kill 15, .kill 16, .kill 17, .kill 18, .kill 19, .kill 20, .kill 21, .kill 22, .kill 23, .kill 24, .kill 25, .kill 26, .kill 27, .kill 28, .kill 29, .kill 30, .kill 31, .kill 32, .keep [91232, 1001, 1002, 1003], .ren 91232 2001] [.kill 6, .kill 7, .kill 8, .kill 9, .kill 10, .kill 11, .kill 12, .kill 13, .kill 14, .kill 15, .kill 16, .kill 17, .kill 18, .kill 19, .kill 20, .kill 21, .kill 22, .kill 23, .kill 24, .kill 25, .kill 26, .kill 27, .kill 28, .kill 29, .kill 30, .kill 31, .kill 32]) (fun j : Nat => [(3, .sl 2001 0 none), (4, .t (.int .i64 (j : Int)))]) (fun j => (2001, .lst 1 (is (flt (has.take j))) 1) :: ownW ⟨m, who, has, swap⟩) (fun j => j ≤ has.length) (fun j => has.length - j) 0 (Nat.zero_le _) ?_
  conv => whnf
  refine ⟨⟨rfl, rfl⟩, fun j hj D hD => ?_⟩
  have hfl := flt_len (has.take j)
  have hfl2 : (has.take j).length ≤ has.length := by simp; omega
  have hwj : IntKind.i64.wrap ((j : Int) + 1) = (j : Int) + 1 := wrap_i64 ⟨by omega, by omega⟩
  have hsu : IsU (us m) ∧ Sz (us m) := ⟨isU_us hm, hsz⟩
  have hjn : ((Nat.add 0 (j : Int).toNat : Nat) : Int) = (j : Int) := by simp
  conv => whnf
  repeat' (first
    | (refine brK_true (by assumption) ?_; conv => whnf)
    | (refine brK_false (by assumption) ?_; conv => whnf)
    | (refine brK_true ?_ ?_; (focus (simp only [List.length_nil, not_t, not_f, lt_t, lt_f, le_t, le_f, eq_t, eq_f, us_len, is_len, bs_len, lenL_00, List.length_append, List.length_cons, hjn, nums_us, maxBytes, List.length_take] <;> omega)); conv => whnf)
    | (refine brK_false ?_ ?_; (focus (simp only [List.length_nil, not_t, not_f, lt_t, lt_f, le_t, le_f, eq_t, eq_f, us_len, is_len, bs_len, lenL_00, List.length_append, List.length_cons, hjn, nums_us, maxBytes, List.length_take] <;> omega)); conv => whnf)
    | ((refine brK_of (fun h => ?_) (fun h => ?_)) <;> (have h2 := h; (try simp only [List.length_nil, not_t, not_f, lt_t, lt_f, le_t, le_f, eq_t, eq_f, us_len, is_len, bs_len, lenL_00, List.length_append, List.length_cons, hjn, nums_us, maxBytes, List.length_take] at h2); conv => whnf))
    | (refine reqK_of ?_ ?_; (focus (first | decide | omega | assumption | (simp only [List.length_nil, not_t, not_f, lt_t, lt_f, le_t, le_f, eq_t, eq_f, us_len, is_len, bs_len, lenL_00, List.length_append, List.length_cons, hjn, nums_us, maxBytes, List.length_take] <;> omega) | (simp [keyNew, sameKey, kEq] <;> omega))); conv => whnf)
    | (refine reqK_of ?_ ?_; rotate_left; (conv => whnf); rotate_left)
    | (refine nth_us ?_ ?_ ?_; (focus (first | omega | (simp only [List.length_nil, not_t, not_f, lt_t, lt_f, le_t, le_f, eq_t, eq_f, us_len, is_len, bs_len, lenL_00, List.length_append, List.length_cons, hjn, nums_us, maxBytes, List.length_take] <;> omega))); (focus (first | omega | (simp only [List.length_nil, not_t, not_f, lt_t, lt_f, le_t, le_f, eq_t, eq_f, us_len, is_len, bs_len, lenL_00, List.length_append, List.length_cons, hjn, nums_us, maxBytes, List.length_take] <;> omega))); conv => whnf)
    | (refine nth_is ?_ ?_ ?_; (focus (first | omega | (simp only [List.length_nil, not_t, not_f, lt_t, lt_f, le_t, le_f, eq_t, eq_f, us_len, is_len, bs_len, lenL_00, List.length_append, List.length_cons, hjn, nums_us, maxBytes, List.length_take] <;> omega))); (focus (first | omega | (simp only [List.length_nil, not_t, not_f, lt_t, lt_f, le_t, le_f, eq_t, eq_f, us_len, is_len, bs_len, lenL_00, List.length_append, List.length_cons, hjn, nums_us, maxBytes, List.length_take] <;> omega))); conv => whnf)
    | (refine nth_bs ?_ ?_ ?_; (focus (first | omega | (simp only [List.length_nil, not_t, not_f, lt_t, lt_f, le_t, le_f, eq_t, eq_f, us_len, is_len, bs_len, lenL_00, List.length_append, List.length_cons, hjn, nums_us, maxBytes, List.length_take] <;> omega))); (focus (first | omega | (simp only [List.length_nil, not_t, not_f, lt_t, lt_f, le_t, le_f, eq_t, eq_f, us_len, is_len, bs_len, lenL_00, List.length_append, List.length_cons, hjn, nums_us, maxBytes, List.length_take] <;> omega))); conv => whnf))
  · refine loopC (hD (j + 1) (by omega) (by omega)) ?_
    have e1 : is (flt (has.take (j + 1))) = subL (is (flt (has.take j))) 0 none ++ [T.int .i64 (at0 has ((Nat.add 0 (j : Int).toNat : Nat) : Int))] := by
      rw [subL_00, hjn, fltN_succ _ _ (by omega), if_pos (by assumption), is_snoc]
    rw [e1, hwj, Int.natCast_succ]
    rfl
  · refine loopC (hD (j + 1) (by omega) (by omega)) ?_
    have e1 : flt (has.take (j + 1)) = flt (has.take j) := by
      rw [fltN_succ _ _ (by omega), if_neg (by omega)]
    rw [e1, hwj, Int.natCast_succ]
    rfl
  · have hjl : has.take j = has := List.take_of_length_le (by omega)
    rw [subL_00, hjl, List.length_append, is_len, is_len, is_len, nums_us]
    unfold maxBytes
    simp only
    omega
  · have hjl : has.take j = has := List.take_of_length_le (by omega)
    have e3 : subL (subL (is (flt (has.take j))) 0 none ++ is (listL (nums (us m)) 0 1 50)) 0 none ++ is (listL (nums (us m)) 1 1 50) = is (nodesL ⟨m, who, has, swap⟩) := by
      rw [subL_00, subL_00, hjl, nums_us]
      simp only [nodesL, is, List.map_append]
    rw [e3]
    exact hR
noncomputable def lEW : List (Nat × (List T → Ans)) := lEB
def ptNodes : Pt := fun base args own R => base = 91136 ∧ ∃ w, args = [.ptr 1001 0] ∧ own = ownW w ∧ WOk w ∧ (nodesL w).length ≤ 200 ∧ R (.sl ndKey 0 none) ((ndKey, .lst 1 (is (nodesL w)) 1) :: ownW w)
theorem ptNodes_ok (base : Nat) (args : List V) (own : Own) (R : V → Own → Prop) (h : ptNodes base args own R) : FnV Try.prog tgl 17 args own R := by
  obtain ⟨rfl, w, rfl, rfl, hw, hb, hR⟩ := h
  exact inl_ok env_EW Try.func17 low17 (inl_nodes hw hR hb)
noncomputable def iEY : List (Nat × Pt) := (17, ptNodes) :: iEW
noncomputable def lEY : List (Nat × (List T → Ans)) := lEW
noncomputable abbrev EY : Env := En tgl lEY iEY
theorem env_EY : EnvOk Try.prog EY := env_pt env_EW ptNodes_ok
noncomputable def lEX : List (Nat × (List T → Ans)) := (16, c16) :: lEY
noncomputable def iEX : List (Nat × Pt) := iEY
noncomputable abbrev EX : Env := En tgl lEX iEX
theorem env_EX : EnvOk Try.prog EX := (env_fn env_EY (fun _ _ => got16) (fun vs p d sz xs h _ => (nogl16 vs p d sz xs h).elim) pk16)
theorem ok3 (xs : List T) (hq : IsB xs ∧ Szb xs) : FnOk Try.prog tgl 3 [.list 1 xs] (.bool true) := by
  refine fn_ok (Γ := EX) env_EX Try.func3 low3 ?_
  obtain ⟨⟨l, rfl, hl⟩, hs⟩ := hq
  have hlen : l.length ≤ 140737488355328 := by unfold Szb maxBytes at hs; rw [bs_len] at hs; exact hs
  conv => whnf
  repeat' (first
    | (refine brK_true (by assumption) ?_; conv => whnf)
    | (refine brK_false (by assumption) ?_; conv => whnf)
    | (refine brK_true ?_ ?_; (focus (simp only [List.length_nil, not_t, not_f, lt_t, lt_f, le_t, le_f, eq_t, eq_f, us_len, is_len, bs_len, lenL_00] <;> omega)); conv => whnf)
    | (refine brK_false ?_ ?_; (focus (simp only [List.length_nil, not_t, not_f, lt_t, lt_f, le_t, le_f, eq_t, eq_f, us_len, is_len, bs_len, lenL_00] <;> omega)); conv => whnf)
    | ((refine brK_of (fun h => ?_) (fun h => ?_)) <;> (have h2 := h; (try simp only [List.length_nil, not_t, not_f, lt_t, lt_f, le_t, le_f, eq_t, eq_f, us_len, is_len, bs_len, lenL_00] at h2); conv => whnf))
    | (refine reqK_of ?_ ?_; (focus (first | decide | omega | assumption | (simp only [List.length_nil, not_t, not_f, lt_t, lt_f, le_t, le_f, eq_t, eq_f, us_len, is_len, bs_len, lenL_00] <;> omega) | (simp [keyNew, sameKey, kEq] <;> omega))); conv => whnf)
    | (refine reqK_of ?_ ?_; rotate_left; (conv => whnf); rotate_left)
    | (refine nth_us ?_ ?_ ?_; (focus (first | omega | (simp only [List.length_nil, not_t, not_f, lt_t, lt_f, le_t, le_f, eq_t, eq_f, us_len, is_len, bs_len, lenL_00] <;> omega))); (focus (first | omega | (simp only [List.length_nil, not_t, not_f, lt_t, lt_f, le_t, le_f, eq_t, eq_f, us_len, is_len, bs_len, lenL_00] <;> omega))); conv => whnf)
    | (refine nth_is ?_ ?_ ?_; (focus (first | omega | (simp only [List.length_nil, not_t, not_f, lt_t, lt_f, le_t, le_f, eq_t, eq_f, us_len, is_len, bs_len, lenL_00] <;> omega))); (focus (first | omega | (simp only [List.length_nil, not_t, not_f, lt_t, lt_f, le_t, le_f, eq_t, eq_f, us_len, is_len, bs_len, lenL_00] <;> omega))); conv => whnf)
    | (refine nth_bs ?_ ?_ ?_; (focus (first | omega | (simp only [List.length_nil, not_t, not_f, lt_t, lt_f, le_t, le_f, eq_t, eq_f, us_len, is_len, bs_len, lenL_00] <;> omega))); (focus (first | omega | (simp only [List.length_nil, not_t, not_f, lt_t, lt_f, le_t, le_f, eq_t, eq_f, us_len, is_len, bs_len, lenL_00] <;> omega))); conv => whnf))
  refine ⟨rfl, rfl, ?_⟩
  conv => whnf
  repeat' (first
    | (refine brK_true (by assumption) ?_; conv => whnf)
    | (refine brK_false (by assumption) ?_; conv => whnf)
    | (refine brK_true ?_ ?_; (focus (simp only [List.length_nil, not_t, not_f, lt_t, lt_f, le_t, le_f, eq_t, eq_f, us_len, is_len, bs_len, lenL_00] <;> omega)); conv => whnf)
    | (refine brK_false ?_ ?_; (focus (simp only [List.length_nil, not_t, not_f, lt_t, lt_f, le_t, le_f, eq_t, eq_f, us_len, is_len, bs_len, lenL_00] <;> omega)); conv => whnf)
    | ((refine brK_of (fun h => ?_) (fun h => ?_)) <;> (have h2 := h; (try simp only [List.length_nil, not_t, not_f, lt_t, lt_f, le_t, le_f, eq_t, eq_f, us_len, is_len, bs_len, lenL_00] at h2); conv => whnf))
    | (refine reqK_of ?_ ?_; (focus (first | decide | omega | assumption | (simp only [List.length_nil, not_t, not_f, lt_t, lt_f, le_t, le_f, eq_t, eq_f, us_len, is_len, bs_len, lenL_00] <;> omega) | (simp [keyNew, sameKey, kEq] <;> omega))); conv => whnf)
    | (refine reqK_of ?_ ?_; rotate_left; (conv => whnf); rotate_left)
    | (refine nth_us ?_ ?_ ?_; (focus (first | omega | (simp only [List.length_nil, not_t, not_f, lt_t, lt_f, le_t, le_f, eq_t, eq_f, us_len, is_len, bs_len, lenL_00] <;> omega))); (focus (first | omega | (simp only [List.length_nil, not_t, not_f, lt_t, lt_f, le_t, le_f, eq_t, eq_f, us_len, is_len, bs_len, lenL_00] <;> omega))); conv => whnf)
    | (refine nth_is ?_ ?_ ?_; (focus (first | omega | (simp only [List.length_nil, not_t, not_f, lt_t, lt_f, le_t, le_f, eq_t, eq_f, us_len, is_len, bs_len, lenL_00] <;> omega))); (focus (first | omega | (simp only [List.length_nil, not_t, not_f, lt_t, lt_f, le_t, le_f, eq_t, eq_f, us_len, is_len, bs_len, lenL_00] <;> omega))); conv => whnf)
    | (refine nth_bs ?_ ?_ ?_; (focus (first | omega | (simp only [List.length_nil, not_t, not_f, lt_t, lt_f, le_t, le_f, eq_t, eq_f, us_len, is_len, bs_len, lenL_00] <;> omega))); (focus (first | omega | (simp only [List.length_nil, not_t, not_f, lt_t, lt_f, le_t, le_f, eq_t, eq_f, us_len, is_len, bs_len, lenL_00] <;> omega))); conv => whnf))
  refine loopSet [.kill 9, .ren 68 1001, .ren 1000000000000000000000000000013 1002, .ren 1000000000000000000000000000012 1003] [.kill 10, .kill 11, .kill 12, .kill 13, .kill 14, .kill 15, .kill 16, .kill 17, .kill 18, .kill 19, .kill 20, .kill 21, .kill 22, .kill 23, .kill 24, .kill 25, .kill 26, .kill 27, .kill 28, .keep [1001, 1002, 1003]] (fun k : Nat => [(5, .t (.int .i64 (k : Int)))]) (fun k => ownW (wN l k)) (fun k => k ≤ l.length ∧ k ≤ 400) (fun k => l.length - k) 0 ⟨Nat.zero_le _, by omega⟩ ?_
  conv => whnf
  refine ⟨⟨rfl, rfl⟩, fun k hk C hC => ?_⟩
  obtain ⟨hk1, hk2⟩ := hk
  conv => whnf
  repeat' (first
    | (refine brK_true (by assumption) ?_; conv => whnf)
    | (refine brK_false (by assumption) ?_; conv => whnf)
    | (refine brK_true ?_ ?_; (focus (simp only [List.length_nil, not_t, not_f, lt_t, lt_f, le_t, le_f, eq_t, eq_f, us_len, is_len, bs_len, lenL_00] <;> omega)); conv => whnf)
    | (refine brK_false ?_ ?_; (focus (simp only [List.length_nil, not_t, not_f, lt_t, lt_f, le_t, le_f, eq_t, eq_f, us_len, is_len, bs_len, lenL_00] <;> omega)); conv => whnf)
    | ((refine brK_of (fun h => ?_) (fun h => ?_)) <;> (have h2 := h; (try simp only [List.length_nil, not_t, not_f, lt_t, lt_f, le_t, le_f, eq_t, eq_f, us_len, is_len, bs_len, lenL_00] at h2); conv => whnf))
    | (refine reqK_of ?_ ?_; (focus (first | decide | omega | assumption | (simp only [List.length_nil, not_t, not_f, lt_t, lt_f, le_t, le_f, eq_t, eq_f, us_len, is_len, bs_len, lenL_00] <;> omega) | (simp [keyNew, sameKey, kEq] <;> omega))); conv => whnf)
    | (refine reqK_of ?_ ?_; rotate_left; (conv => whnf); rotate_left)
    | (refine nth_us ?_ ?_ ?_; (focus (first | omega | (simp only [List.length_nil, not_t, not_f, lt_t, lt_f, le_t, le_f, eq_t, eq_f, us_len, is_len, bs_len, lenL_00] <;> omega))); (focus (first | omega | (simp only [List.length_nil, not_t, not_f, lt_t, lt_f, le_t, le_f, eq_t, eq_f, us_len, is_len, bs_len, lenL_00] <;> omega))); conv => whnf)
    | (refine nth_is ?_ ?_ ?_; (focus (first | omega | (simp only [List.length_nil, not_t, not_f, lt_t, lt_f, le_t, le_f, eq_t, eq_f, us_len, is_len, bs_len, lenL_00] <;> omega))); (focus (first | omega | (simp only [List.length_nil, not_t, not_f, lt_t, lt_f, le_t, le_f, eq_t, eq_f, us_len, is_len, bs_len, lenL_00] <;> omega))); conv => whnf)
    | (refine nth_bs ?_ ?_ ?_; (focus (first | omega | (simp only [List.length_nil, not_t, not_f, lt_t, lt_f, le_t, le_f, eq_t, eq_f, us_len, is_len, bs_len, lenL_00] <;> omega))); (focus (first | omega | (simp only [List.length_nil, not_t, not_f, lt_t, lt_f, le_t, le_f, eq_t, eq_f, us_len, is_len, bs_len, lenL_00] <;> omega))); conv => whnf))
  · rename_i hlt
    have hlt' : k < l.length ∧ k < 400 := by omega
    have hb : R8 (at0 l k) := hl _ (at0_mem (by simp; omega))
    have hi := wN_inv hl (k := k) (by omega) hk1
    have hi2 := wN_inv hl (k := k + 1) (by omega) (by omega)
    obtain ⟨Ls, hone⟩ := one_wN hl (k := k + 1) (by omega) (by omega)
    refine ⟨wN l k, at0 l k, rfl, rfl, hb, hi.wok, ?_⟩
    have e : stepW (wN l k) (at0 l k) = wN l (k + 1) := rfl
    rw [e]
    have hperm := nodes_perm hi2 hone
    have hnl := hperm.length_eq
    have hC1 := hC (k + 1) ⟨by omega, by omega⟩ (by omega)
    have hok := hi2.wok
    have hw : IntKind.i64.wrap ((k : Int) + 1) = (k : Int) + 1 := wrap_i64 ⟨by omega, by omega⟩
    have hsr : srt (nodesL (wN l (k + 1))) = srt [1, 2, 3, 4, 5, 6, 7, 8] := srt_eq.2 hperm
    conv => whnf
    repeat' (first
      | (refine brK_true (by assumption) ?_; conv => whnf)
      | (refine brK_false (by assumption) ?_; conv => whnf)
      | (refine brK_true ?_ ?_; (focus (simp only [List.length_nil, not_t, not_f, lt_t, lt_f, le_t, le_f, eq_t, eq_f, us_len, is_len, bs_len, lenL_00] <;> omega)); conv => whnf)
      | (refine brK_false ?_ ?_; (focus (simp only [List.length_nil, not_t, not_f, lt_t, lt_f, le_t, le_f, eq_t, eq_f, us_len, is_len, bs_len, lenL_00] <;> omega)); conv => whnf)
      | ((refine brK_of (fun h => ?_) (fun h => ?_)) <;> (have h2 := h; (try simp only [List.length_nil, not_t, not_f, lt_t, lt_f, le_t, le_f, eq_t, eq_f, us_len, is_len, bs_len, lenL_00] at h2); conv => whnf))
      | (refine reqK_of ?_ ?_; (focus (first | decide | omega | assumption | (simp only [List.length_nil, not_t, not_f, lt_t, lt_f, le_t, le_f, eq_t, eq_f, us_len, is_len, bs_len, lenL_00] <;> omega) | (simp [keyNew, sameKey, kEq] <;> omega))); conv => whnf)
      | (refine reqK_of ?_ ?_; rotate_left; (conv => whnf); rotate_left)
      | (refine nth_us ?_ ?_ ?_; (focus (first | omega | (simp only [List.length_nil, not_t, not_f, lt_t, lt_f, le_t, le_f, eq_t, eq_f, us_len, is_len, bs_len, lenL_00] <;> omega))); (focus (first | omega | (simp only [List.length_nil, not_t, not_f, lt_t, lt_f, le_t, le_f, eq_t, eq_f, us_len, is_len, bs_len, lenL_00] <;> omega))); conv => whnf)
      | (refine nth_is ?_ ?_ ?_; (focus (first | omega | (simp only [List.length_nil, not_t, not_f, lt_t, lt_f, le_t, le_f, eq_t, eq_f, us_len, is_len, bs_len, lenL_00] <;> omega))); (focus (first | omega | (simp only [List.length_nil, not_t, not_f, lt_t, lt_f, le_t, le_f, eq_t, eq_f, us_len, is_len, bs_len, lenL_00] <;> omega))); conv => whnf)
      | (refine nth_bs ?_ ?_ ?_; (focus (first | omega | (simp only [List.length_nil, not_t, not_f, lt_t, lt_f, le_t, le_f, eq_t, eq_f, us_len, is_len, bs_len, lenL_00] <;> omega))); (focus (first | omega | (simp only [List.length_nil, not_t, not_f, lt_t, lt_f, le_t, le_f, eq_t, eq_f, us_len, is_len, bs_len, lenL_00] <;> omega))); conv => whnf))
    refine ⟨rfl, wN l (k + 1), rfl, rfl, hok, by rw [hnl]; decide, ?_⟩
    have e8 : [T.int .i64 1, T.int .i64 2, T.int .i64 3, T.int .i64 4, T.int .i64 5, T.int .i64 6, T.int .i64 7, T.int .i64 8] = is [1, 2, 3, 4, 5, 6, 7, 8] := rfl
    have hI8 : ∀ n ∈ ([1, 2, 3, 4, 5, 6, 7, 8] : List Int), I64 n := fun n hn => by simp at hn; unfold I64; omega
    have hIn : ∀ n ∈ nodesL (wN l (k + 1)), I64 n := fun n hn => hI8 n (hperm.mem_iff.1 hn)
    have hq : (IsI (subL (is (nodesL (wN l (k + 1)))) 0 none) ∧ SzB (subL (is (nodesL (wN l (k + 1)))) 0 none)) ∧ IsI [T.int .i64 1, T.int .i64 2, T.int .i64 3, T.int .i64 4, T.int .i64 5, T.int .i64 6, T.int .i64 7, T.int .i64 8] ∧ SzB [T.int .i64 1, T.int .i64 2, T.int .i64 3, T.int .i64 4, T.int .i64 5, T.int .i64 6, T.int .i64 7, T.int .i64 8] := by
      rw [subL_00, e8]
      refine ⟨⟨isI_is hIn, ?_⟩, isI_is hI8, ?_⟩
      · unfold SzB maxBytes; rw [is_len, hnl]; decide
      · unfold SzB maxBytes; rw [is_len]; decide
    have hqe : eqNs (srt (nums (subL (is (nodesL (wN l (k + 1)))) 0 none))) (srt (nums [T.int .i64 1, T.int .i64 2, T.int .i64 3, T.int .i64 4, T.int .i64 5, T.int .i64 6, T.int .i64 7, T.int .i64 8])) = true := by
      rw [subL_00, e8, nums_is, nums_is, hsr]; exact eqNs_self _
    conv => whnf
    repeat' (first
      | (refine brK_true (by assumption) ?_; conv => whnf)
      | (refine brK_false (by assumption) ?_; conv => whnf)
      | (refine brK_true ?_ ?_; (focus (simp only [List.length_nil, not_t, not_f, lt_t, lt_f, le_t, le_f, eq_t, eq_f, us_len, is_len, bs_len, lenL_00, hqe, Bool.not_true] <;> omega)); conv => whnf)
      | (refine brK_false ?_ ?_; (focus (simp only [List.length_nil, not_t, not_f, lt_t, lt_f, le_t, le_f, eq_t, eq_f, us_len, is_len, bs_len, lenL_00, hqe, Bool.not_true] <;> omega)); conv => whnf)
      | ((refine brK_of (fun h => ?_) (fun h => ?_)) <;> (have h2 := h; (try simp only [List.length_nil, not_t, not_f, lt_t, lt_f, le_t, le_f, eq_t, eq_f, us_len, is_len, bs_len, lenL_00, hqe, Bool.not_true] at h2); conv => whnf))
      | (refine reqK_of ?_ ?_; (focus (first | decide | omega | assumption | (simp only [List.length_nil, not_t, not_f, lt_t, lt_f, le_t, le_f, eq_t, eq_f, us_len, is_len, bs_len, lenL_00, hqe, Bool.not_true] <;> omega) | (simp [keyNew, sameKey, kEq] <;> omega))); conv => whnf)
      | (refine reqK_of ?_ ?_; rotate_left; (conv => whnf); rotate_left)
      | (refine nth_us ?_ ?_ ?_; (focus (first | omega | (simp only [List.length_nil, not_t, not_f, lt_t, lt_f, le_t, le_f, eq_t, eq_f, us_len, is_len, bs_len, lenL_00, hqe, Bool.not_true] <;> omega))); (focus (first | omega | (simp only [List.length_nil, not_t, not_f, lt_t, lt_f, le_t, le_f, eq_t, eq_f, us_len, is_len, bs_len, lenL_00, hqe, Bool.not_true] <;> omega))); conv => whnf)
      | (refine nth_is ?_ ?_ ?_; (focus (first | omega | (simp only [List.length_nil, not_t, not_f, lt_t, lt_f, le_t, le_f, eq_t, eq_f, us_len, is_len, bs_len, lenL_00, hqe, Bool.not_true] <;> omega))); (focus (first | omega | (simp only [List.length_nil, not_t, not_f, lt_t, lt_f, le_t, le_f, eq_t, eq_f, us_len, is_len, bs_len, lenL_00, hqe, Bool.not_true] <;> omega))); conv => whnf)
      | (refine nth_bs ?_ ?_ ?_; (focus (first | omega | (simp only [List.length_nil, not_t, not_f, lt_t, lt_f, le_t, le_f, eq_t, eq_f, us_len, is_len, bs_len, lenL_00, hqe, Bool.not_true] <;> omega))); (focus (first | omega | (simp only [List.length_nil, not_t, not_f, lt_t, lt_f, le_t, le_f, eq_t, eq_f, us_len, is_len, bs_len, lenL_00, hqe, Bool.not_true] <;> omega))); conv => whnf))
    all_goals first
      | exact hq
      | (refine loopC hC1 ?_
         rw [hw, Int.natCast_succ]
         rfl)
      | skip
    all_goals trace_state
  all_goals trace_state
open Classical in
noncomputable def c3 : List T → Ans
  | [.list 1 xs] => .req (IsB xs ∧ Szb xs) (.bool true)
  | _ => .no
theorem got3 {vs : List T} {x : T} (h : Got (c3 vs) x) : FnOk Try.prog tgl 3 vs x := by
  unfold c3 at h
  split at h
  · obtain ⟨hq, e⟩ := got_req h; rw [e]; exact ok3 _ hq
  · exact (got_no h).elim
theorem nogl3 (vs : List T) (p : Prop) (d : Decidable p) (sz : Nat) (xs : List T) (h : c3 vs = @Ans.gl p d sz xs) : False := by
  unfold c3 at h
  split at h <;> cases h
theorem pk3 (vs : List T) (p : Prop) (d : Decidable p) (x : T) (h : c3 vs = @Ans.pk p d x) (hp : p) : FnOk Try.prog tgl 3 vs x := by
  unfold c3 at h
  split at h
  · cases h
  · cases h
end Go.Nx
