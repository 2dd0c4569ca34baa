/-
  CHAIN PURE.
-/
import Derived.Test.YtlgnjeilhjhnkaaCj
set_option linter.unusedVariables false
set_option linter.unusedSimpArgs false
set_option maxRecDepth 20000
set_option maxHeartbeats 4000000
namespace Go.Nx
open Go.RowKit Go.Proofs

def cntN (a b : List Int) : Nat → Int
  | 0 => 0
  | k + 1 => cntN a b k + if at0 a k ≠ at0 b k then 1 else 0
theorem cnt_same (a : List Int) (k : Nat) : cntN a a k = 0 := by
  induction k with
  | zero => rfl
  | succ k ih => simp [cntN, ih]
theorem at0_set (l : List Int) (i : Nat) (v : Int) (k : Nat) : at0 (l.set i v) k = if i = k ∧ k < l.length then v else at0 l k := by
  unfold at0
  rw [List.getElem?_set]
  simp only [Int.toNat_natCast]
  by_cases h : i = k
  · subst h
    by_cases h2 : i < l.length
    · simp [h2]
    · simp [h2]
  · simp [h]
theorem cnt_set (l : List Int) (i : Nat) (v : Int) (k : Nat) : cntN (l.set i v) l k = if i < k ∧ i < l.length ∧ v ≠ at0 l i then 1 else 0 := by
  induction k with
  | zero => simp [cntN]
  | succ k ih =>
    rw [cntN, ih, at0_set]
    by_cases h : i = k
    · subst h
      by_cases h2 : i < l.length
      · by_cases h3 : v = at0 l i <;> simp [h2, h3]
      · simp [h2]
    · simp only [h, false_and, if_false, ne_eq, not_true_eq_false]
      by_cases h4 : i < k
      · have : i < k + 1 := by omega
        simp [h4, this]
      · have : ¬ i < k + 1 := by omega
        simp [h4, this]
theorem cnt_do (l : List Int) (kd i a b : Int) (k : Nat) : 0 ≤ cntN (doL l kd i a b) l k ∧ cntN (doL l kd i a b) l k ≤ 1 := by
  unfold doL
  repeat' split
  all_goals first
    | (rw [cnt_same]; omega)
    | (rw [cnt_set]; split <;> omega)
theorem cnt_step (l : List Int) (c : Mach) (k : Nat) : 0 ≤ cntN (stepL l c) l k ∧ cntN (stepL l c) l k ≤ 1 := by
  unfold stepL
  repeat' split
  all_goals first
    | (rw [cnt_same]; omega)
    | exact cnt_do _ _ _ _ _ _
theorem stepL_no {l : List Int} {c : Mach} (h : c.out ≠ 0) : stepL l c = l := by
  have : ¬ act c := fun h' => h h'.1
  rw [stepL, if_neg this]
theorem stepC_no {l : List Int} {c : Mach} (h : c.out ≠ 0) : stepC l c = c := by
  have : ¬ act c := fun h' => h h'.1
  rw [stepC, if_neg this]
theorem stepC_keep (l : List Int) (c : Mach) : (stepC l c).kind = c.kind ∧ (stepC l c).head = c.head ∧ (stepC l c).next = c.next := by
  unfold stepC
  repeat' split
  all_goals simp
theorem ok8 (xs : List T) (kind pc head next hh x y out : Int) (hq : (IsU xs ∧ Sz xs) ∧ R64 hh) : FnOk Try.prog tgl 8 [.list 1 xs, .agg [.int .i64 kind, .int .i64 pc, .int .i64 head, .int .i64 next, .int .u64 hh, .int .i64 x, .int .i64 y, .int .i64 out]] (.bool true) := by
  refine fn_ok (Γ := EB) env_EB Try.func8 low8 ?_
  obtain ⟨⟨⟨l, rfl, hl⟩, hs⟩, hh64⟩ := hq
  have hq1 : IsU (us l) ∧ Sz (us l) := ⟨isU_us hl, hs⟩
  have hlen := sz_len hs
  obtain ⟨c, hc⟩ : ∃ c : Mach, c = ⟨kind, pc, head, next, hh, x, y, out⟩ := ⟨_, rfl⟩
  have hL := stepL_len l c
  have hcnt := cnt_step l c
  have hk := stepC_keep l c
  have e1 : c.kind = kind := by rw [hc]
  have e2 : c.head = head := by rw [hc]
  have e3 : c.next = next := by rw [hc]
  have e4 : c.out = out := by rw [hc]
  obtain ⟨k1, k2, k3⟩ := hk
  have hse : eqL l l = true := eqL_self l
  have hcs : ∀ k : Nat, at0 (stepL l c) k ≠ at0 l k → cntN (stepL l c) l (k + 1) = cntN (stepL l c) l k + 1 := fun k h => by rw [cntN, if_pos h]
  have hcz : ∀ k : Nat, at0 (stepL l c) k = at0 l k → cntN (stepL l c) l (k + 1) = cntN (stepL l c) l k := fun k h => by rw [cntN, if_neg (by simpa using h)]; omega
  by_cases ho : out = 0
  · conv => whnf
    repeat' (first
      | (refine brK_true (by assumption) ?_; conv => whnf)
      | (refine brK_false (by assumption) ?_; conv => whnf)
      | (refine brK_true ?_ ?_; (focus (simp only [List.length_nil, not_t, not_f, lt_t, lt_f, le_t, le_f, eq_t, eq_f, us_len, is_len, bs_len, lenL_00] <;> omega)); conv => whnf)
      | (refine brK_false ?_ ?_; (focus (simp only [List.length_nil, not_t, not_f, lt_t, lt_f, le_t, le_f, eq_t, eq_f, us_len, is_len, bs_len, lenL_00] <;> omega)); conv => whnf)
      | ((refine brK_of (fun h => ?_) (fun h => ?_)) <;> (have h2 := h; (try simp only [List.length_nil, not_t, not_f, lt_t, lt_f, le_t, le_f, eq_t, eq_f, us_len, is_len, bs_len, lenL_00] at h2); conv => whnf))
      | (refine reqK_of ?_ ?_; (focus (first | decide | omega | assumption | (simp only [List.length_nil, not_t, not_f, lt_t, lt_f, le_t, le_f, eq_t, eq_f, us_len, is_len, bs_len, lenL_00] <;> omega) | (simp [keyNew, sameKey, kEq] <;> omega))); conv => whnf)
      | (refine reqK_of ?_ ?_; rotate_left; (conv => whnf); rotate_left)
      | (refine nth_us ?_ ?_ ?_; (focus (first | omega | (simp only [List.length_nil, not_t, not_f, lt_t, lt_f, le_t, le_f, eq_t, eq_f, us_len, is_len, bs_len, lenL_00] <;> omega))); (focus (first | omega | (simp only [List.length_nil, not_t, not_f, lt_t, lt_f, le_t, le_f, eq_t, eq_f, us_len, is_len, bs_len, lenL_00] <;> omega))); conv => whnf)
      | (refine nth_is ?_ ?_ ?_; (focus (first | omega | (simp only [List.length_nil, not_t, not_f, lt_t, lt_f, le_t, le_f, eq_t, eq_f, us_len, is_len, bs_len, lenL_00] <;> omega))); (focus (first | omega | (simp only [List.length_nil, not_t, not_f, lt_t, lt_f, le_t, le_f, eq_t, eq_f, us_len, is_len, bs_len, lenL_00] <;> omega))); conv => whnf)
      | (refine nth_bs ?_ ?_ ?_; (focus (first | omega | (simp only [List.length_nil, not_t, not_f, lt_t, lt_f, le_t, le_f, eq_t, eq_f, us_len, is_len, bs_len, lenL_00] <;> omega))); (focus (first | omega | (simp only [List.length_nil, not_t, not_f, lt_t, lt_f, le_t, le_f, eq_t, eq_f, us_len, is_len, bs_len, lenL_00] <;> omega))); conv => whnf))
    rw [← hc, nums_us]
    refine loopUp [] [.kill 22, .kill 23, .kill 24, .kill 25, .kill 26, .kill 27, .kill 28, .kill 29, .kill 30, .kill 31, .kill 32, .kill 33, .kill 34, .kill 35, .kill 36, .kill 37, .kill 38, .kill 39, .kill 40, .kill 41, .kill 42, .kill 43, .kill 44] (fun k : Nat => [(9, .t (.int .i64 (cntN (stepL l c) l k))), (10, .t (.int .i64 (k : Int)))]) (fun _ => []) (fun k => k ≤ l.length) (fun k => l.length - k) 0 (Nat.zero_le _) ?_
    conv => whnf
    refine ⟨⟨rfl, rfl⟩, fun k hk C hC => ?_⟩
    have hw : IntKind.i64.wrap ((k : Int) + 1) = (k : Int) + 1 := wrap_i64 ⟨by omega, by omega⟩
    have hcn := hcnt k
    have hw2 : IntKind.i64.wrap (cntN (stepL l c) l k + 1) = cntN (stepL l c) l k + 1 := wrap_i64 ⟨by omega, by omega⟩
    conv => whnf
    repeat' (first
      | (refine brK_true (by assumption) ?_; conv => whnf)
      | (refine brK_false (by assumption) ?_; conv => whnf)
      | (refine brK_true ?_ ?_; (focus (simp only [List.length_nil, not_t, not_f, lt_t, lt_f, le_t, le_f, eq_t, eq_f, us_len, is_len, bs_len, lenL_00] <;> omega)); conv => whnf)
      | (refine brK_false ?_ ?_; (focus (simp only [List.length_nil, not_t, not_f, lt_t, lt_f, le_t, le_f, eq_t, eq_f, us_len, is_len, bs_len, lenL_00] <;> omega)); conv => whnf)
      | ((refine brK_of (fun h => ?_) (fun h => ?_)) <;> (have h2 := h; (try simp only [List.length_nil, not_t, not_f, lt_t, lt_f, le_t, le_f, eq_t, eq_f, us_len, is_len, bs_len, lenL_00] at h2); conv => whnf))
      | (refine reqK_of ?_ ?_; (focus (first | decide | omega | assumption | (simp only [List.length_nil, not_t, not_f, lt_t, lt_f, le_t, le_f, eq_t, eq_f, us_len, is_len, bs_len, lenL_00] <;> omega) | (simp [keyNew, sameKey, kEq] <;> omega))); conv => whnf)
      | (refine reqK_of ?_ ?_; rotate_left; (conv => whnf); rotate_left)
      | (refine nth_us ?_ ?_ ?_; (focus (first | omega | (simp only [List.length_nil, not_t, not_f, lt_t, lt_f, le_t, le_f, eq_t, eq_f, us_len, is_len, bs_len, lenL_00] <;> omega))); (focus (first | omega | (simp only [List.length_nil, not_t, not_f, lt_t, lt_f, le_t, le_f, eq_t, eq_f, us_len, is_len, bs_len, lenL_00] <;> omega))); conv => whnf)
      | (refine nth_is ?_ ?_ ?_; (focus (first | omega | (simp only [List.length_nil, not_t, not_f, lt_t, lt_f, le_t, le_f, eq_t, eq_f, us_len, is_len, bs_len, lenL_00] <;> omega))); (focus (first | omega | (simp only [List.length_nil, not_t, not_f, lt_t, lt_f, le_t, le_f, eq_t, eq_f, us_len, is_len, bs_len, lenL_00] <;> omega))); conv => whnf)
      | (refine nth_bs ?_ ?_ ?_; (focus (first | omega | (simp only [List.length_nil, not_t, not_f, lt_t, lt_f, le_t, le_f, eq_t, eq_f, us_len, is_len, bs_len, lenL_00] <;> omega))); (focus (first | omega | (simp only [List.length_nil, not_t, not_f, lt_t, lt_f, le_t, le_f, eq_t, eq_f, us_len, is_len, bs_len, lenL_00] <;> omega))); conv => whnf))
    · refine loopC (hC (k + 1) (by omega) (by omega)) ?_
      rw [hw, hw2, hcs k (by assumption), Int.natCast_succ]
      simp only [setL, setO, List.set_cons_zero, List.set_cons_succ]
    · refine loopC (hC (k + 1) (by omega) (by omega)) ?_
      rw [hw, hcz k (by assumption), Int.natCast_succ]
      simp only [setL, setO, List.set_cons_zero, List.set_cons_succ]
    · exact ⟨hq1, hq1.1⟩
    · rw [eq_t.2 (k3.trans e3)]
    · simp only [subL_00, nums_us, eqL_self] at h; cases h
  · have hz : c.out ≠ 0 := by rw [e4]; exact ho
    conv => whnf
    repeat' (first
      | (refine brK_true (by assumption) ?_; conv => whnf)
      | (refine brK_false (by assumption) ?_; conv => whnf)
      | (refine brK_true ?_ ?_; (focus (simp only [List.length_nil, not_t, not_f, lt_t, lt_f, le_t, le_f, eq_t, eq_f, us_len, is_len, bs_len, lenL_00] <;> omega)); conv => whnf)
      | (refine brK_false ?_ ?_; (focus (simp only [List.length_nil, not_t, not_f, lt_t, lt_f, le_t, le_f, eq_t, eq_f, us_len, is_len, bs_len, lenL_00] <;> omega)); conv => whnf)
      | ((refine brK_of (fun h => ?_) (fun h => ?_)) <;> (have h2 := h; (try simp only [List.length_nil, not_t, not_f, lt_t, lt_f, le_t, le_f, eq_t, eq_f, us_len, is_len, bs_len, lenL_00] at h2); conv => whnf))
      | (refine reqK_of ?_ ?_; (focus (first | decide | omega | assumption | (simp only [List.length_nil, not_t, not_f, lt_t, lt_f, le_t, le_f, eq_t, eq_f, us_len, is_len, bs_len, lenL_00] <;> omega) | (simp [keyNew, sameKey, kEq] <;> omega))); conv => whnf)
      | (refine reqK_of ?_ ?_; rotate_left; (conv => whnf); rotate_left)
      | (refine nth_us ?_ ?_ ?_; (focus (first | omega | (simp only [List.length_nil, not_t, not_f, lt_t, lt_f, le_t, le_f, eq_t, eq_f, us_len, is_len, bs_len, lenL_00] <;> omega))); (focus (first | omega | (simp only [List.length_nil, not_t, not_f, lt_t, lt_f, le_t, le_f, eq_t, eq_f, us_len, is_len, bs_len, lenL_00] <;> omega))); conv => whnf)
      | (refine nth_is ?_ ?_ ?_; (focus (first | omega | (simp only [List.length_nil, not_t, not_f, lt_t, lt_f, le_t, le_f, eq_t, eq_f, us_len, is_len, bs_len, lenL_00] <;> omega))); (focus (first | omega | (simp only [List.length_nil, not_t, not_f, lt_t, lt_f, le_t, le_f, eq_t, eq_f, us_len, is_len, bs_len, lenL_00] <;> omega))); conv => whnf)
      | (refine nth_bs ?_ ?_ ?_; (focus (first | omega | (simp only [List.length_nil, not_t, not_f, lt_t, lt_f, le_t, le_f, eq_t, eq_f, us_len, is_len, bs_len, lenL_00] <;> omega))); (focus (first | omega | (simp only [List.length_nil, not_t, not_f, lt_t, lt_f, le_t, le_f, eq_t, eq_f, us_len, is_len, bs_len, lenL_00] <;> omega))); conv => whnf))
    rw [← hc, nums_us, stepL_no hz, stepC_no hz, hc]
    have hcz : ∀ k : Nat, cntN l l (k + 1) = cntN l l k := fun k => by rw [cnt_same, cnt_same]
    refine loopUp [] [.kill 22, .kill 23, .kill 24, .kill 25, .kill 26, .kill 27, .kill 28, .kill 29, .kill 30, .kill 31, .kill 32, .kill 33, .kill 34, .kill 35, .kill 36, .kill 37, .kill 38, .kill 39, .kill 40, .kill 41, .kill 42, .kill 43, .kill 44] (fun k : Nat => [(9, .t (.int .i64 (cntN l l k))), (10, .t (.int .i64 (k : Int)))]) (fun _ => []) (fun k => k ≤ l.length) (fun k => l.length - k) 0 (Nat.zero_le _) ?_
    conv => whnf
    refine ⟨⟨rfl, rfl⟩, fun k hk C hC => ?_⟩
    have hw : IntKind.i64.wrap ((k : Int) + 1) = (k : Int) + 1 := wrap_i64 ⟨by omega, by omega⟩
    have hck : cntN l l k = 0 := cnt_same l k
    conv => whnf
    repeat' (first
      | (refine brK_true (by assumption) ?_; conv => whnf)
      | (refine brK_false (by assumption) ?_; conv => whnf)
      | (refine brK_true ?_ ?_; (focus (simp only [List.length_nil, not_t, not_f, lt_t, lt_f, le_t, le_f, eq_t, eq_f, us_len, is_len, bs_len, lenL_00, eqI_self, Bool.and_self] <;> omega)); conv => whnf)
      | (refine brK_false ?_ ?_; (focus (simp only [List.length_nil, not_t, not_f, lt_t, lt_f, le_t, le_f, eq_t, eq_f, us_len, is_len, bs_len, lenL_00, eqI_self, Bool.and_self] <;> omega)); conv => whnf)
      | ((refine brK_of (fun h => ?_) (fun h => ?_)) <;> (have h2 := h; (try simp only [List.length_nil, not_t, not_f, lt_t, lt_f, le_t, le_f, eq_t, eq_f, us_len, is_len, bs_len, lenL_00, eqI_self, Bool.and_self] at h2); conv => whnf))
      | (refine reqK_of ?_ ?_; (focus (first | decide | omega | assumption | (simp only [List.length_nil, not_t, not_f, lt_t, lt_f, le_t, le_f, eq_t, eq_f, us_len, is_len, bs_len, lenL_00, eqI_self, Bool.and_self] <;> omega) | (simp [keyNew, sameKey, kEq] <;> omega))); conv => whnf)
      | (refine reqK_of ?_ ?_; rotate_left; (conv => whnf); rotate_left)
      | (refine nth_us ?_ ?_ ?_; (focus (first | omega | (simp only [List.length_nil, not_t, not_f, lt_t, lt_f, le_t, le_f, eq_t, eq_f, us_len, is_len, bs_len, lenL_00, eqI_self, Bool.and_self] <;> omega))); (focus (first | omega | (simp only [List.length_nil, not_t, not_f, lt_t, lt_f, le_t, le_f, eq_t, eq_f, us_len, is_len, bs_len, lenL_00, eqI_self, Bool.and_self] <;> omega))); conv => whnf)
      | (refine nth_is ?_ ?_ ?_; (focus (first | omega | (simp only [List.length_nil, not_t, not_f, lt_t, lt_f, le_t, le_f, eq_t, eq_f, us_len, is_len, bs_len, lenL_00, eqI_self, Bool.and_self] <;> omega))); (focus (first | omega | (simp only [List.length_nil, not_t, not_f, lt_t, lt_f, le_t, le_f, eq_t, eq_f, us_len, is_len, bs_len, lenL_00, eqI_self, Bool.and_self] <;> omega))); conv => whnf)
      | (refine nth_bs ?_ ?_ ?_; (focus (first | omega | (simp only [List.length_nil, not_t, not_f, lt_t, lt_f, le_t, le_f, eq_t, eq_f, us_len, is_len, bs_len, lenL_00, eqI_self, Bool.and_self] <;> omega))); (focus (first | omega | (simp only [List.length_nil, not_t, not_f, lt_t, lt_f, le_t, le_f, eq_t, eq_f, us_len, is_len, bs_len, lenL_00, eqI_self, Bool.and_self] <;> omega))); conv => whnf))
    · refine loopC (hC (k + 1) (by omega) (by omega)) ?_
      rw [hw, hcz, Int.natCast_succ]
      simp only [setL, setO, List.set_cons_zero, List.set_cons_succ]
    · rw [eqI_self]
open Classical in
noncomputable def c8 : List T → Ans
  | [.list 1 xs, .agg [.int .i64 kind, .int .i64 pc, .int .i64 head, .int .i64 next, .int .u64 hh, .int .i64 x, .int .i64 y, .int .i64 out]] => .req ((IsU xs ∧ Sz xs) ∧ R64 hh) (.bool true)
  | _ => .no
theorem got8 {vs : List T} {x : T} (h : Got (c8 vs) x) : FnOk Try.prog tgl 8 vs x := by
  unfold c8 at h
  split at h
  · obtain ⟨hq, e⟩ := got_req h; rw [e]; exact ok8 _ _ _ _ _ _ _ _ _ hq
  · exact (got_no h).elim
theorem nogl8 (vs : List T) (p : Prop) (sz : Nat) (xs : List T) (h : c8 vs = .gl p sz xs) : False := by
  unfold c8 at h
  split at h <;> cases h
end Go.Nx
