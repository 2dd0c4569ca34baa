/-
  REACH: the distances' law, walked.
-/
import Derived.Test.YtlgnjeilhjhnkaaDoorRp
set_option linter.unusedVariables false
set_option linter.unusedSimpArgs false
set_option maxRecDepth 20000
set_option maxHeartbeats 4000000
namespace Go.Nx
open Go.RowKit Go.Proofs

noncomputable def lE13 : List (Nat × (List T → Ans)) := (19, c19) :: (21, c21) :: lE12
noncomputable def iE13 : List (Nat × Pt) := iE12
noncomputable abbrev E13 : Env := En tgl lE13 iE13
theorem env_E13 : EnvOk Tryd.prog E13 := (env_fn (env_fn env_E12 (fun _ _ => got21) (fun vs p d sz xs h _ => (nogl21 vs p d sz xs h).elim) pk21) (fun _ _ => got19) (fun vs p d sz xs h _ => (nogl19 vs p d sz xs h).elim) pk19)
theorem rightB_of {sl : Int} {L : List (List Int)} (h : rightB sl L = true) : 1 ≤ sl ∧ sl ≤ 4 ∧ L.length ≤ 64 ∧ ∀ o : Int, 1 ≤ o → o ≤ L.length → ((row L o).length : Int) = sl ∧ ∀ v ∈ row L o, 0 ≤ v ∧ v ≤ L.length := by
  unfold rightB at h
  rw [Bool.and_eq_true, decide_eq_true_eq, Bool.not_eq_true'] at h
  refine ⟨h.1.1, h.1.2.1, h.1.2.2, fun o h1 h2 => ?_⟩
  have := List.any_eq_false.1 h.2 _ (row_mem h1 h2)
  unfold oddR at this
  simp only [Bool.or_eq_true, decide_eq_true_eq, not_or, Decidable.not_not, ne_eq] at this
  refine ⟨this.1, fun v hv => ?_⟩
  have h3 : ¬ (row L o).any (badV L.length) = true := this.2
  rw [Bool.not_eq_true] at h3
  have h4 := List.any_eq_false.1 h3 v hv
  unfold badV at h4
  simp only [Bool.or_eq_true, decide_eq_true_eq, not_or] at h4
  omega
/-- an edge is a slot -/
theorem edge_get {L : List (List Int)} {o v : Int} (ho : 1 ≤ o ∧ o ≤ L.length) (h : v ∈ row L o) : ∃ k : Nat, k < (row L o).length ∧ getV L o k = v := by
  obtain ⟨k, hk⟩ := List.mem_iff_getElem?.1 h
  have hlt := (List.getElem?_eq_some_iff.1 hk).1
  refine ⟨k, hlt, ?_⟩
  rw [getV, if_pos ⟨ho.1, ho.2, by omega, by omega⟩]
  unfold at0
  rw [Int.toNat_natCast, hk]; rfl
theorem get_mem {L : List (List Int)} {o k : Int} (h : getV L o k ≠ 0) : 1 ≤ o ∧ o ≤ L.length ∧ getV L o k ∈ row L o := by
  unfold getV at h ⊢
  split
  · rename_i h1
    exact ⟨h1.1, h1.2.1, at0_mem (by omega)⟩
  · rename_i h1; rw [if_neg h1] at h; exact absurd rfl h
structure Nr where
  j : Nat
  near : Bool
theorem ok6 (sl : Int) (xs : List T) (s : Int) (hq : IsR xs ∧ R64 s) : FnOk Tryd.prog tgl 6 [.agg [.int .i64 sl, .list 1 xs], .int .u64 s] (.bool true) := by
  refine fn_ok (Γ := E13) env_E13 Tryd.func6 low6 ?_
  have hq1 := hq
  obtain ⟨⟨L, rfl, hL, hl⟩, hs⟩ := hq
  have hR : IsR (rs L) := ⟨L, rfl, hL, hl⟩
  by_cases hr : rightB sl L = true
  · obtain ⟨hr1, hr2, hr3, hr4⟩ := rightB_of hr
    obtain ⟨D, hD⟩ : ∃ D : Int → Int, D = distI L (fun _ => true) (bv s) := ⟨_, rfl⟩
    obtain ⟨d, hd⟩ : ∃ d, d = distL L (fun _ => true) (bv s) := ⟨_, rfl⟩
    obtain ⟨n, hn⟩ : ∃ n, n = L.length := ⟨_, rfl⟩
    have hdl : d.length = n := by rw [hd, distL_len]; omega
    have hdv : ∀ i : Nat, i < n → at0 d i = D ((i : Int) + 1) := fun i hi => by
      rw [hd, hD]
      unfold at0 distL
      rw [Int.toNat_natCast, List.getElem?_map, List.getElem?_range (by omega)]; rfl
    have hDr : ∀ v, -1 ≤ D v ∧ D v ≤ 64 ∧ (0 ≤ D v ↔ Rch L (fun _ => true) (bv s) v) := fun v => by
      rw [hD]
      have h1 := distI_range L (fun _ => true) (bv s) v
      refine ⟨h1.1, ?_, h1.2⟩
      by_cases h : Rch L (fun _ => true) (bv s) v
      · have := distI_le L (fun _ => true) (bv s) h; omega
      · rw [distI_no h]; omega
    have hown : ∀ v : Int, 1 ≤ v → v ≤ n → has (own L) v = true := fun v h1 h2 => by
      unfold own
      rw [has_first, obj_t (by omega) (by omega), decide_eq_true (by omega)]; rfl
    have hDe : ∀ o v, 0 ≤ D o → edge L o v → 0 ≤ D v ∧ D v ≤ D o + 1 := fun o v h1 h2 => by
      rw [hD] at h1 ⊢
      obtain ⟨a, e1, e2, e3⟩ := distI_yes ((distI_range L (fun _ => true) (bv s) o).2.1 h1)
      have hv : Lev L (fun _ => true) (bv s) (a + 1) v := ⟨o, e2, rfl, h2⟩
      obtain ⟨b, f1, f2, f3⟩ := distI_yes ⟨_, hv⟩
      have := f3 _ hv
      rw [e1, f1]; omega
    have hD0 : ∀ v : Int, 1 ≤ v → v ≤ n → (D v = 0 ↔ has (bv s) v = true) := fun v h1 h2 => by
      rw [hD]
      constructor
      · intro h
        obtain ⟨a, e1, e2, e3⟩ := distI_yes ((distI_range L (fun _ => true) (bv s) v).2.1 (by omega))
        obtain rfl : a = 0 := by omega
        exact e2.1
      · intro h
        have hz := distI_eq (L := L) (op := fun _ => true) (s := bv s) (v := v) (d := 0) ⟨h, hown v h1 h2⟩ fun k _ => Nat.zero_le _
        simpa using hz
    have hDp : ∀ v, 0 < D v → ∃ o, edge L o v ∧ 0 ≤ D o ∧ D o = D v - 1 := fun v h => by
      have hv := ((hDr v).2.2).1 (by omega)
      rw [hD] at h ⊢
      obtain ⟨a, e1, e2, e3⟩ := distI_yes hv
      obtain ⟨c, rfl⟩ : ∃ c, a = c + 1 := ⟨a - 1, by omega⟩
      obtain ⟨o, g1, _, g2⟩ := e2
      obtain ⟨b, f1, f2, f3⟩ := distI_yes ⟨c, g1⟩
      have h1 := f3 c g1
      have h2 := e3 (b + 1) ⟨o, f2, rfl, g2⟩
      refine ⟨o, g2, ?_, ?_⟩ <;> omega
    have hS : ∀ v, has (rchB L (fun _ => true) (bv s)) v = decide (0 ≤ D v) := fun v => by
      rw [Bool.eq_iff_iff, has_rchB, decide_eq_true_eq, (hDr v).2.2]
    have hdl2 : (distL L (fun _ => true) (bv s)).length = L.length := by rw [← hd, hdl, hn]
    conv => whnf
    repeat' (first
      | (refine brK_true (by assumption) ?_; conv => whnf)
      | (refine brK_false (by assumption) ?_; conv => whnf)
      | (refine brK_true ?_ ?_; (focus (simp only [List.length_nil, not_t, not_f, lt_t, lt_f, le_t, le_f, eq_t, eq_f, us_len, is_len, bs_len, lenL_00, rs_len, rowsOf_rs, hr, hdl2] <;> omega)); conv => whnf)
      | (refine brK_false ?_ ?_; (focus (simp only [List.length_nil, not_t, not_f, lt_t, lt_f, le_t, le_f, eq_t, eq_f, us_len, is_len, bs_len, lenL_00, rs_len, rowsOf_rs, hr, hdl2] <;> omega)); conv => whnf)
      | ((refine brK_of (fun h => ?_) (fun h => ?_)) <;> (have h2 := h; (try simp only [List.length_nil, not_t, not_f, lt_t, lt_f, le_t, le_f, eq_t, eq_f, us_len, is_len, bs_len, lenL_00, rs_len, rowsOf_rs, hr, hdl2] at h2); conv => whnf))
      | (refine reqK_of ?_ ?_; (focus (first | decide | omega | assumption | (simp only [List.length_nil, not_t, not_f, lt_t, lt_f, le_t, le_f, eq_t, eq_f, us_len, is_len, bs_len, lenL_00, rs_len, rowsOf_rs, hr, hdl2] <;> omega) | (simp [keyNew, sameKey, kEq] <;> omega))); conv => whnf)
      | (refine reqK_of ?_ ?_; rotate_left; (conv => whnf); rotate_left)
      | (refine nth_us ?_ ?_ ?_; (focus (first | omega | (simp only [List.length_nil, not_t, not_f, lt_t, lt_f, le_t, le_f, eq_t, eq_f, us_len, is_len, bs_len, lenL_00, rs_len, rowsOf_rs, hr, hdl2] <;> omega))); (focus (first | omega | (simp only [List.length_nil, not_t, not_f, lt_t, lt_f, le_t, le_f, eq_t, eq_f, us_len, is_len, bs_len, lenL_00, rs_len, rowsOf_rs, hr, hdl2] <;> omega))); conv => whnf)
      | (refine nth_is ?_ ?_ ?_; (focus (first | omega | (simp only [List.length_nil, not_t, not_f, lt_t, lt_f, le_t, le_f, eq_t, eq_f, us_len, is_len, bs_len, lenL_00, rs_len, rowsOf_rs, hr, hdl2] <;> omega))); (focus (first | omega | (simp only [List.length_nil, not_t, not_f, lt_t, lt_f, le_t, le_f, eq_t, eq_f, us_len, is_len, bs_len, lenL_00, rs_len, rowsOf_rs, hr, hdl2] <;> omega))); conv => whnf)
      | (refine nth_bs ?_ ?_ ?_; (focus (first | omega | (simp only [List.length_nil, not_t, not_f, lt_t, lt_f, le_t, le_f, eq_t, eq_f, us_len, is_len, bs_len, lenL_00, rs_len, rowsOf_rs, hr, hdl2] <;> omega))); (focus (first | omega | (simp only [List.length_nil, not_t, not_f, lt_t, lt_f, le_t, le_f, eq_t, eq_f, us_len, is_len, bs_len, lenL_00, rs_len, rowsOf_rs, hr, hdl2] <;> omega))); conv => whnf))
    rw [rowsOf_rs, ← hd]
    refine loopUp [] [.kill 9, .kill 10, .kill 11, .kill 12, .kill 13, .kill 33, .kill 34, .kill 35, .kill 36, .kill 37, .kill 38, .kill 39, .kill 40, .kill 41, .kill 42, .kill 43, .kill 44, .kill 45, .kill 46, .kill 47, .kill 48, .kill 49, .kill 50, .kill 51, .kill 52, .kill 53, .kill 54, .kill 55, .kill 56, .kill 57, .kill 58, .kill 59, .kill 60, .kill 61, .kill 62, .kill 63, .kill 64, .kill 65, .kill 66, .kill 67, .kill 68, .kill 69, .kill 70, .kill 71, .kill 72, .kill 73, .kill 74, .kill 75, .kill 76, .kill 77, .kill 78, .kill 79, .kill 80, .kill 81, .kill 82, .kill 83, .kill 84, .kill 85, .kill 86, .kill 87, .kill 88, .kill 89, .kill 90, .kill 91, .kill 92, .kill 93, .kill 94, .kill 95, .kill 96, .kill 97, .kill 98, .kill 99, .kill 100, .kill 101, .kill 102, .kill 103, .kill 104, .kill 105, .kill 106, .kill 107, .kill 108, .kill 109, .kill 110, .kill 111, .kill 112, .kill 113, .kill 114, .kill 115, .kill 116, .kill 117, .kill 118, .kill 119, .kill 120, .kill 121, .kill 122, .kill 123, .kill 124, .kill 125, .kill 126, .kill 127, .kill 128, .kill 129, .kill 130, .kill 131, .kill 132, .kill 133, .kill 134, .kill 135, .kill 136] (fun i : Nat => [(8, .t (.int .i64 (i : Int)))]) (fun _ => []) (fun i => i ≤ n) (fun i => n - i) 0 (Nat.zero_le _) ?_
    conv => whnf
    refine ⟨⟨rfl, rfl⟩, fun i hi C hC => ?_⟩
    by_cases hlt : i < n
    · have hwi : IntKind.i64.wrap ((i : Int) + 1) = (i : Int) + 1 := wrap_i64 ⟨by omega, by omega⟩
      have hdi := hdv i hlt
      have hri := hDr ((i : Int) + 1)
      have h0i := hD0 ((i : Int) + 1) (by omega) (by omega)
      have hb1 : eqB (leI 0 (at0 d i)) (has (rchB L (fun _ => true) (bv s)) ((i : Int) + 1)) = true := by
        rw [eqB_def, hS, leI_def, hdi]; simp
      have hb2 : eqB (eqI (at0 d i) 0) (has (bv s) ((i : Int) + 1)) = true := by
        rw [eqB_def, eqI_def, hdi, beq_iff_eq, Bool.eq_iff_iff, beq_iff_eq]; exact h0i
      conv => whnf
      repeat' (first
        | (refine brK_true (by assumption) ?_; conv => whnf)
        | (refine brK_false (by assumption) ?_; conv => whnf)
        | (refine brK_true ?_ ?_; (focus (simp only [List.length_nil, not_t, not_f, lt_t, lt_f, le_t, le_f, eq_t, eq_f, us_len, is_len, bs_len, lenL_00, hwi, hdl, bv_iv, hb1, hb2, rowsOf_rs] <;> omega)); conv => whnf)
        | (refine brK_false ?_ ?_; (focus (simp only [List.length_nil, not_t, not_f, lt_t, lt_f, le_t, le_f, eq_t, eq_f, us_len, is_len, bs_len, lenL_00, hwi, hdl, bv_iv, hb1, hb2, rowsOf_rs] <;> omega)); conv => whnf)
        | ((refine brK_of (fun h => ?_) (fun h => ?_)) <;> (have h2 := h; (try simp only [List.length_nil, not_t, not_f, lt_t, lt_f, le_t, le_f, eq_t, eq_f, us_len, is_len, bs_len, lenL_00, hwi, hdl, bv_iv, hb1, hb2, rowsOf_rs] at h2); conv => whnf))
        | (refine reqK_of ?_ ?_; (focus (first | decide | omega | assumption | (simp only [List.length_nil, not_t, not_f, lt_t, lt_f, le_t, le_f, eq_t, eq_f, us_len, is_len, bs_len, lenL_00, hwi, hdl, bv_iv, hb1, hb2, rowsOf_rs] <;> omega) | (simp [keyNew, sameKey, kEq] <;> omega))); conv => whnf)
        | (refine reqK_of ?_ ?_; rotate_left; (conv => whnf); rotate_left)
        | (refine nth_us ?_ ?_ ?_; (focus (first | omega | (simp only [List.length_nil, not_t, not_f, lt_t, lt_f, le_t, le_f, eq_t, eq_f, us_len, is_len, bs_len, lenL_00, hwi, hdl, bv_iv, hb1, hb2, rowsOf_rs] <;> omega))); (focus (first | omega | (simp only [List.length_nil, not_t, not_f, lt_t, lt_f, le_t, le_f, eq_t, eq_f, us_len, is_len, bs_len, lenL_00, hwi, hdl, bv_iv, hb1, hb2, rowsOf_rs] <;> omega))); conv => whnf)
        | (refine nth_is ?_ ?_ ?_; (focus (first | omega | (simp only [List.length_nil, not_t, not_f, lt_t, lt_f, le_t, le_f, eq_t, eq_f, us_len, is_len, bs_len, lenL_00, hwi, hdl, bv_iv, hb1, hb2, rowsOf_rs] <;> omega))); (focus (first | omega | (simp only [List.length_nil, not_t, not_f, lt_t, lt_f, le_t, le_f, eq_t, eq_f, us_len, is_len, bs_len, lenL_00, hwi, hdl, bv_iv, hb1, hb2, rowsOf_rs] <;> omega))); conv => whnf)
        | (refine nth_bs ?_ ?_ ?_; (focus (first | omega | (simp only [List.length_nil, not_t, not_f, lt_t, lt_f, le_t, le_f, eq_t, eq_f, us_len, is_len, bs_len, lenL_00, hwi, hdl, bv_iv, hb1, hb2, rowsOf_rs] <;> omega))); (focus (first | omega | (simp only [List.length_nil, not_t, not_f, lt_t, lt_f, le_t, le_f, eq_t, eq_f, us_len, is_len, bs_len, lenL_00, hwi, hdl, bv_iv, hb1, hb2, rowsOf_rs] <;> omega))); conv => whnf))
      obtain ⟨hit, hhit⟩ : ∃ hit : Nat → Nat → Prop, hit = fun (j k : Nat) => getV L ((j : Int) + 1) (k : Int) = (i : Int) + 1 ∧ 0 ≤ D ((j : Int) + 1) ∧ D ((j : Int) + 1) = D ((i : Int) + 1) - 1 := ⟨_, rfl⟩
      refine loopUp [] [.kill 11, .kill 12, .kill 13, .kill 66, .kill 67, .kill 68, .kill 69, .kill 70, .kill 71, .kill 72, .kill 73, .kill 74, .kill 75, .kill 76, .kill 77, .kill 78, .kill 79, .kill 80, .kill 81, .kill 82, .kill 83, .kill 84, .kill 85, .kill 86, .kill 87, .kill 88, .kill 89, .kill 90, .kill 91, .kill 92, .kill 93, .kill 94, .kill 95, .kill 96, .kill 97, .kill 98, .kill 99, .kill 100, .kill 101, .kill 102, .kill 103, .kill 104, .kill 105, .kill 106, .kill 107, .kill 108, .kill 109, .kill 110, .kill 111, .kill 112, .kill 113, .kill 114, .kill 115, .kill 116, .kill 117, .kill 118, .kill 119, .kill 120, .kill 121, .kill 122, .kill 123, .kill 124, .kill 125, .kill 126, .kill 127, .kill 128, .kill 129, .kill 130, .kill 131, .kill 132, .kill 133, .kill 134] (fun a : Nr => [(9, .t (.bool a.near)), (10, .t (.int .i64 (a.j : Int)))]) (fun _ => []) (fun a => a.j ≤ n ∧ (a.near = false → 0 < D ((i : Int) + 1) ∧ ∀ j k : Nat, j < a.j → (k : Int) < sl → ¬ hit j k)) (fun a => n - a.j) ⟨0, leI (at0 d i) 0⟩ ⟨Nat.zero_le _, fun h => ⟨by rw [le_f, hdi] at h; exact h, fun j k h => absurd h (Nat.not_lt_zero _)⟩⟩ ?_
      conv => whnf
      refine ⟨⟨rfl, rfl⟩, fun a ha C2 hC2 => ?_⟩
      obtain ⟨ha1, ha2⟩ := ha
      have hwj : IntKind.i64.wrap ((a.j : Int) + 1) = (a.j : Int) + 1 := wrap_i64 ⟨by omega, by omega⟩
      by_cases hjn : a.j < n
      · have hdj := hdv a.j hjn
        have hrj := hDr ((a.j : Int) + 1)
        have hrow := hr4 ((a.j : Int) + 1) (by omega) (by omega)
        conv => whnf
        repeat' (first
          | (refine brK_true (by assumption) ?_; conv => whnf)
          | (refine brK_false (by assumption) ?_; conv => whnf)
          | (refine brK_true ?_ ?_; (focus (simp only [List.length_nil, not_t, not_f, lt_t, lt_f, le_t, le_f, eq_t, eq_f, us_len, is_len, bs_len, lenL_00, hdl] <;> omega)); conv => whnf)
          | (refine brK_false ?_ ?_; (focus (simp only [List.length_nil, not_t, not_f, lt_t, lt_f, le_t, le_f, eq_t, eq_f, us_len, is_len, bs_len, lenL_00, hdl] <;> omega)); conv => whnf)
          | ((refine brK_of (fun h => ?_) (fun h => ?_)) <;> (have h2 := h; (try simp only [List.length_nil, not_t, not_f, lt_t, lt_f, le_t, le_f, eq_t, eq_f, us_len, is_len, bs_len, lenL_00, hdl] at h2); conv => whnf))
          | (refine reqK_of ?_ ?_; (focus (first | decide | omega | assumption | (simp only [List.length_nil, not_t, not_f, lt_t, lt_f, le_t, le_f, eq_t, eq_f, us_len, is_len, bs_len, lenL_00, hdl] <;> omega) | (simp [keyNew, sameKey, kEq] <;> omega))); conv => whnf)
          | (refine reqK_of ?_ ?_; rotate_left; (conv => whnf); rotate_left)
          | (refine nth_us ?_ ?_ ?_; (focus (first | omega | (simp only [List.length_nil, not_t, not_f, lt_t, lt_f, le_t, le_f, eq_t, eq_f, us_len, is_len, bs_len, lenL_00, hdl] <;> omega))); (focus (first | omega | (simp only [List.length_nil, not_t, not_f, lt_t, lt_f, le_t, le_f, eq_t, eq_f, us_len, is_len, bs_len, lenL_00, hdl] <;> omega))); conv => whnf)
          | (refine nth_is ?_ ?_ ?_; (focus (first | omega | (simp only [List.length_nil, not_t, not_f, lt_t, lt_f, le_t, le_f, eq_t, eq_f, us_len, is_len, bs_len, lenL_00, hdl] <;> omega))); (focus (first | omega | (simp only [List.length_nil, not_t, not_f, lt_t, lt_f, le_t, le_f, eq_t, eq_f, us_len, is_len, bs_len, lenL_00, hdl] <;> omega))); conv => whnf)
          | (refine nth_bs ?_ ?_ ?_; (focus (first | omega | (simp only [List.length_nil, not_t, not_f, lt_t, lt_f, le_t, le_f, eq_t, eq_f, us_len, is_len, bs_len, lenL_00, hdl] <;> omega))); (focus (first | omega | (simp only [List.length_nil, not_t, not_f, lt_t, lt_f, le_t, le_f, eq_t, eq_f, us_len, is_len, bs_len, lenL_00, hdl] <;> omega))); conv => whnf))
        refine loopUp [] [.kill 12, .kill 13, .kill 72, .kill 73, .kill 74, .kill 75, .kill 76, .kill 77, .kill 78, .kill 79, .kill 80, .kill 81, .kill 82, .kill 83, .kill 84, .kill 85, .kill 86, .kill 87, .kill 88, .kill 89, .kill 90, .kill 91, .kill 92, .kill 93, .kill 94, .kill 95, .kill 96, .kill 97, .kill 98, .kill 99, .kill 100, .kill 101, .kill 102, .kill 103, .kill 104, .kill 105, .kill 106, .kill 107, .kill 108, .kill 109, .kill 110, .kill 111, .kill 112, .kill 113, .kill 114, .kill 115, .kill 116, .kill 117, .kill 118, .kill 119, .kill 120, .kill 121, .kill 122, .kill 123, .kill 124, .kill 125, .kill 126, .kill 127, .kill 128, .kill 129, .kill 130, .kill 131, .kill 132, .kill 133, .kill 134] (fun b : Nr => [(9, .t (.bool b.near)), (11, .t (.int .i64 (b.j : Int)))]) (fun _ => []) (fun b => (b.j : Int) ≤ sl ∧ (b.near = false → a.near = false ∧ ∀ k : Nat, k < b.j → ¬ hit a.j k)) (fun b => sl.toNat - b.j) ⟨0, a.near⟩ ⟨by simp only; omega, fun h => ⟨h, fun k h => absurd h (Nat.not_lt_zero _)⟩⟩ ?_
        conv => whnf
        refine ⟨⟨rfl, rfl⟩, fun b hb C3 hC3 => ?_⟩
        obtain ⟨hb1', hb2'⟩ := hb
        have hwk : IntKind.i64.wrap ((b.j : Int) + 1) = (b.j : Int) + 1 := wrap_i64 ⟨by omega, by omega⟩
        have hwd1 : IntKind.i64.wrap (at0 d a.j + 1) = at0 d a.j + 1 := wrap_i64 ⟨by omega, by omega⟩
        have hwd2 : IntKind.i64.wrap (at0 d i - 1) = at0 d i - 1 := wrap_i64 ⟨by omega, by omega⟩
        by_cases hks : (b.j : Int) < sl
        · have hno : getV L ((a.j : Int) + 1) b.j = (i : Int) + 1 → 0 ≤ at0 d a.j → at0 d i ≤ at0 d a.j + 1 := fun h1 h2 => by
            have hm := get_mem (L := L) (o := (a.j : Int) + 1) (k := b.j) (by rw [h1]; omega)
            rw [h1] at hm
            rw [hdi, hdj]
            exact (hDe _ _ (by rw [← hdj]; exact h2) ⟨hm.2.2, hown _ (by omega) (by omega)⟩).2
          have hin : hit a.j b.j ↔ getV L ((a.j : Int) + 1) b.j = (i : Int) + 1 ∧ 0 ≤ at0 d a.j ∧ at0 d a.j = at0 d i - 1 := by rw [hhit, hdi, hdj]
          cases hnear : b.near with
          | true =>
            conv => whnf
            repeat' (first
              | (refine brK_true (by assumption) ?_; conv => whnf)
              | (refine brK_false (by assumption) ?_; conv => whnf)
              | (refine brK_true ?_ ?_; (focus (simp only [List.length_nil, not_t, not_f, lt_t, lt_f, le_t, le_f, eq_t, eq_f, us_len, is_len, bs_len, lenL_00, hwi, hwj, hwd1, hwd2, hdl, rowsOf_rs] <;> omega)); conv => whnf)
              | (refine brK_false ?_ ?_; (focus (simp only [List.length_nil, not_t, not_f, lt_t, lt_f, le_t, le_f, eq_t, eq_f, us_len, is_len, bs_len, lenL_00, hwi, hwj, hwd1, hwd2, hdl, rowsOf_rs] <;> omega)); conv => whnf)
              | ((refine brK_of (fun h => ?_) (fun h => ?_)) <;> (have h2 := h; (try simp only [List.length_nil, not_t, not_f, lt_t, lt_f, le_t, le_f, eq_t, eq_f, us_len, is_len, bs_len, lenL_00, hwi, hwj, hwd1, hwd2, hdl, rowsOf_rs] at h2); conv => whnf))
              | (refine reqK_of ?_ ?_; (focus (first | decide | omega | assumption | (simp only [List.length_nil, not_t, not_f, lt_t, lt_f, le_t, le_f, eq_t, eq_f, us_len, is_len, bs_len, lenL_00, hwi, hwj, hwd1, hwd2, hdl, rowsOf_rs] <;> omega) | (simp [keyNew, sameKey, kEq] <;> omega))); conv => whnf)
              | (refine reqK_of ?_ ?_; rotate_left; (conv => whnf); rotate_left)
              | (refine nth_us ?_ ?_ ?_; (focus (first | omega | (simp only [List.length_nil, not_t, not_f, lt_t, lt_f, le_t, le_f, eq_t, eq_f, us_len, is_len, bs_len, lenL_00, hwi, hwj, hwd1, hwd2, hdl, rowsOf_rs] <;> omega))); (focus (first | omega | (simp only [List.length_nil, not_t, not_f, lt_t, lt_f, le_t, le_f, eq_t, eq_f, us_len, is_len, bs_len, lenL_00, hwi, hwj, hwd1, hwd2, hdl, rowsOf_rs] <;> omega))); conv => whnf)
              | (refine nth_is ?_ ?_ ?_; (focus (first | omega | (simp only [List.length_nil, not_t, not_f, lt_t, lt_f, le_t, le_f, eq_t, eq_f, us_len, is_len, bs_len, lenL_00, hwi, hwj, hwd1, hwd2, hdl, rowsOf_rs] <;> omega))); (focus (first | omega | (simp only [List.length_nil, not_t, not_f, lt_t, lt_f, le_t, le_f, eq_t, eq_f, us_len, is_len, bs_len, lenL_00, hwi, hwj, hwd1, hwd2, hdl, rowsOf_rs] <;> omega))); conv => whnf)
              | (refine nth_bs ?_ ?_ ?_; (focus (first | omega | (simp only [List.length_nil, not_t, not_f, lt_t, lt_f, le_t, le_f, eq_t, eq_f, us_len, is_len, bs_len, lenL_00, hwi, hwj, hwd1, hwd2, hdl, rowsOf_rs] <;> omega))); (focus (first | omega | (simp only [List.length_nil, not_t, not_f, lt_t, lt_f, le_t, le_f, eq_t, eq_f, us_len, is_len, bs_len, lenL_00, hwi, hwj, hwd1, hwd2, hdl, rowsOf_rs] <;> omega))); conv => whnf))
            all_goals
              refine loopC (hC3 ⟨b.j + 1, true⟩ ⟨by simp only; omega, fun h => by cases h⟩ (by simp only; omega)) ?_
              rw [hwk, Int.natCast_succ]
              rfl
          | false =>
            obtain ⟨hb3, hb4⟩ := hb2' hnear
            conv => whnf
            repeat' (first
              | (refine brK_true (by assumption) ?_; conv => whnf)
              | (refine brK_false (by assumption) ?_; conv => whnf)
              | (refine brK_true ?_ ?_; (focus (simp only [List.length_nil, not_t, not_f, lt_t, lt_f, le_t, le_f, eq_t, eq_f, us_len, is_len, bs_len, lenL_00, hwi, hwj, hwd1, hwd2, hdl, rowsOf_rs] <;> omega)); conv => whnf)
              | (refine brK_false ?_ ?_; (focus (simp only [List.length_nil, not_t, not_f, lt_t, lt_f, le_t, le_f, eq_t, eq_f, us_len, is_len, bs_len, lenL_00, hwi, hwj, hwd1, hwd2, hdl, rowsOf_rs] <;> omega)); conv => whnf)
              | ((refine brK_of (fun h => ?_) (fun h => ?_)) <;> (have h2 := h; (try simp only [List.length_nil, not_t, not_f, lt_t, lt_f, le_t, le_f, eq_t, eq_f, us_len, is_len, bs_len, lenL_00, hwi, hwj, hwd1, hwd2, hdl, rowsOf_rs] at h2); conv => whnf))
              | (refine reqK_of ?_ ?_; (focus (first | decide | omega | assumption | (simp only [List.length_nil, not_t, not_f, lt_t, lt_f, le_t, le_f, eq_t, eq_f, us_len, is_len, bs_len, lenL_00, hwi, hwj, hwd1, hwd2, hdl, rowsOf_rs] <;> omega) | (simp [keyNew, sameKey, kEq] <;> omega))); conv => whnf)
              | (refine reqK_of ?_ ?_; rotate_left; (conv => whnf); rotate_left)
              | (refine nth_us ?_ ?_ ?_; (focus (first | omega | (simp only [List.length_nil, not_t, not_f, lt_t, lt_f, le_t, le_f, eq_t, eq_f, us_len, is_len, bs_len, lenL_00, hwi, hwj, hwd1, hwd2, hdl, rowsOf_rs] <;> omega))); (focus (first | omega | (simp only [List.length_nil, not_t, not_f, lt_t, lt_f, le_t, le_f, eq_t, eq_f, us_len, is_len, bs_len, lenL_00, hwi, hwj, hwd1, hwd2, hdl, rowsOf_rs] <;> omega))); conv => whnf)
              | (refine nth_is ?_ ?_ ?_; (focus (first | omega | (simp only [List.length_nil, not_t, not_f, lt_t, lt_f, le_t, le_f, eq_t, eq_f, us_len, is_len, bs_len, lenL_00, hwi, hwj, hwd1, hwd2, hdl, rowsOf_rs] <;> omega))); (focus (first | omega | (simp only [List.length_nil, not_t, not_f, lt_t, lt_f, le_t, le_f, eq_t, eq_f, us_len, is_len, bs_len, lenL_00, hwi, hwj, hwd1, hwd2, hdl, rowsOf_rs] <;> omega))); conv => whnf)
              | (refine nth_bs ?_ ?_ ?_; (focus (first | omega | (simp only [List.length_nil, not_t, not_f, lt_t, lt_f, le_t, le_f, eq_t, eq_f, us_len, is_len, bs_len, lenL_00, hwi, hwj, hwd1, hwd2, hdl, rowsOf_rs] <;> omega))); (focus (first | omega | (simp only [List.length_nil, not_t, not_f, lt_t, lt_f, le_t, le_f, eq_t, eq_f, us_len, is_len, bs_len, lenL_00, hwi, hwj, hwd1, hwd2, hdl, rowsOf_rs] <;> omega))); conv => whnf))
            · refine loopC (hC3 ⟨b.j + 1, eqI (at0 d a.j) (at0 d i - 1)⟩ ⟨by simp only; omega, fun h => ⟨hb3, fun k hk hh => ?_⟩⟩ (by simp only; omega)) ?_
              · rw [eq_f] at h
                rcases Nat.lt_or_ge k b.j with g | g
                · exact hb4 k g hh
                · have ek : k = b.j := by simp only at hk; omega
                  rw [ek] at hh
                  exact h (hin.1 hh).2.2
              · rw [hwk, hwd2, Int.natCast_succ]
                rfl
            all_goals
              refine loopC (hC3 ⟨b.j + 1, false⟩ ⟨by simp only; omega, fun h => ⟨hb3, fun k hk hh => ?_⟩⟩ (by simp only; omega)) ?_
              · rcases Nat.lt_or_ge k b.j with g | g
                · exact hb4 k g hh
                · have ek : k = b.j := by simp only at hk; omega
                  rw [ek] at hh
                  have := hin.1 hh
                  omega
              · rw [hwk, Int.natCast_succ]
                rfl
        · conv => whnf
          repeat' (first
            | (refine brK_true (by assumption) ?_; conv => whnf)
            | (refine brK_false (by assumption) ?_; conv => whnf)
            | (refine brK_true ?_ ?_; (focus (simp only [List.length_nil, not_t, not_f, lt_t, lt_f, le_t, le_f, eq_t, eq_f, us_len, is_len, bs_len, lenL_00] <;> omega)); conv => whnf)
            | (refine brK_false ?_ ?_; (focus (simp only [List.length_nil, not_t, not_f, lt_t, lt_f, le_t, le_f, eq_t, eq_f, us_len, is_len, bs_len, lenL_00] <;> omega)); conv => whnf)
            | ((refine brK_of (fun h => ?_) (fun h => ?_)) <;> (have h2 := h; (try simp only [List.length_nil, not_t, not_f, lt_t, lt_f, le_t, le_f, eq_t, eq_f, us_len, is_len, bs_len, lenL_00] at h2); conv => whnf))
            | (refine reqK_of ?_ ?_; (focus (first | decide | omega | assumption | (simp only [List.length_nil, not_t, not_f, lt_t, lt_f, le_t, le_f, eq_t, eq_f, us_len, is_len, bs_len, lenL_00] <;> omega) | (simp [keyNew, sameKey, kEq] <;> omega))); conv => whnf)
            | (refine reqK_of ?_ ?_; rotate_left; (conv => whnf); rotate_left)
            | (refine nth_us ?_ ?_ ?_; (focus (first | omega | (simp only [List.length_nil, not_t, not_f, lt_t, lt_f, le_t, le_f, eq_t, eq_f, us_len, is_len, bs_len, lenL_00] <;> omega))); (focus (first | omega | (simp only [List.length_nil, not_t, not_f, lt_t, lt_f, le_t, le_f, eq_t, eq_f, us_len, is_len, bs_len, lenL_00] <;> omega))); conv => whnf)
            | (refine nth_is ?_ ?_ ?_; (focus (first | omega | (simp only [List.length_nil, not_t, not_f, lt_t, lt_f, le_t, le_f, eq_t, eq_f, us_len, is_len, bs_len, lenL_00] <;> omega))); (focus (first | omega | (simp only [List.length_nil, not_t, not_f, lt_t, lt_f, le_t, le_f, eq_t, eq_f, us_len, is_len, bs_len, lenL_00] <;> omega))); conv => whnf)
            | (refine nth_bs ?_ ?_ ?_; (focus (first | omega | (simp only [List.length_nil, not_t, not_f, lt_t, lt_f, le_t, le_f, eq_t, eq_f, us_len, is_len, bs_len, lenL_00] <;> omega))); (focus (first | omega | (simp only [List.length_nil, not_t, not_f, lt_t, lt_f, le_t, le_f, eq_t, eq_f, us_len, is_len, bs_len, lenL_00] <;> omega))); conv => whnf))
          refine loopC (hC2 ⟨a.j + 1, b.near⟩ ⟨by simp only; omega, fun h => ?_⟩ (by simp only; omega)) ?_
          · obtain ⟨g1, g2⟩ := hb2' h
            obtain ⟨g3, g4⟩ := ha2 g1
            refine ⟨g3, fun j k hj hk => ?_⟩
            rcases Nat.lt_or_ge j a.j with g | g
            · exact g4 j k g hk
            · have ej : j = a.j := by simp only at hj; omega
              rw [ej]
              exact g2 k (by omega)
          · rw [hwj, Int.natCast_succ]
            rfl
      · have hnt : a.near = true := by
          cases hnear : a.near with
          | true => rfl
          | false =>
            exfalso
            obtain ⟨g1, g2⟩ := ha2 hnear
            obtain ⟨o, he, h0, h1⟩ := hDp _ g1
            have hoo := has_range (rch_own ((hDr o).2.2.1 h0))
            have hol := own_le (rch_own ((hDr o).2.2.1 h0))
            obtain ⟨k, hk1, hk2⟩ := edge_get ⟨hoo.1, hol⟩ he.1
            have hsl := (hr4 o hoo.1 hol).1
            refine g2 (o - 1).toNat k (by omega) (by omega) ?_
            have eo : (((o - 1).toNat : Nat) : Int) + 1 = o := by omega
            rw [hhit]
            simp only [eo]
            exact ⟨hk2, h0, h1⟩
        conv => whnf
        repeat' (first
          | (refine brK_true (by assumption) ?_; conv => whnf)
          | (refine brK_false (by assumption) ?_; conv => whnf)
          | (refine brK_true ?_ ?_; (focus (simp only [List.length_nil, not_t, not_f, lt_t, lt_f, le_t, le_f, eq_t, eq_f, us_len, is_len, bs_len, lenL_00, hdl, hnt] <;> omega)); conv => whnf)
          | (refine brK_false ?_ ?_; (focus (simp only [List.length_nil, not_t, not_f, lt_t, lt_f, le_t, le_f, eq_t, eq_f, us_len, is_len, bs_len, lenL_00, hdl, hnt] <;> omega)); conv => whnf)
          | ((refine brK_of (fun h => ?_) (fun h => ?_)) <;> (have h2 := h; (try simp only [List.length_nil, not_t, not_f, lt_t, lt_f, le_t, le_f, eq_t, eq_f, us_len, is_len, bs_len, lenL_00, hdl, hnt] at h2); conv => whnf))
          | (refine reqK_of ?_ ?_; (focus (first | decide | omega | assumption | (simp only [List.length_nil, not_t, not_f, lt_t, lt_f, le_t, le_f, eq_t, eq_f, us_len, is_len, bs_len, lenL_00, hdl, hnt] <;> omega) | (simp [keyNew, sameKey, kEq] <;> omega))); conv => whnf)
          | (refine reqK_of ?_ ?_; rotate_left; (conv => whnf); rotate_left)
          | (refine nth_us ?_ ?_ ?_; (focus (first | omega | (simp only [List.length_nil, not_t, not_f, lt_t, lt_f, le_t, le_f, eq_t, eq_f, us_len, is_len, bs_len, lenL_00, hdl, hnt] <;> omega))); (focus (first | omega | (simp only [List.length_nil, not_t, not_f, lt_t, lt_f, le_t, le_f, eq_t, eq_f, us_len, is_len, bs_len, lenL_00, hdl, hnt] <;> omega))); conv => whnf)
          | (refine nth_is ?_ ?_ ?_; (focus (first | omega | (simp only [List.length_nil, not_t, not_f, lt_t, lt_f, le_t, le_f, eq_t, eq_f, us_len, is_len, bs_len, lenL_00, hdl, hnt] <;> omega))); (focus (first | omega | (simp only [List.length_nil, not_t, not_f, lt_t, lt_f, le_t, le_f, eq_t, eq_f, us_len, is_len, bs_len, lenL_00, hdl, hnt] <;> omega))); conv => whnf)
          | (refine nth_bs ?_ ?_ ?_; (focus (first | omega | (simp only [List.length_nil, not_t, not_f, lt_t, lt_f, le_t, le_f, eq_t, eq_f, us_len, is_len, bs_len, lenL_00, hdl, hnt] <;> omega))); (focus (first | omega | (simp only [List.length_nil, not_t, not_f, lt_t, lt_f, le_t, le_f, eq_t, eq_f, us_len, is_len, bs_len, lenL_00, hdl, hnt] <;> omega))); conv => whnf))
        refine loopC (hC (i + 1) (by omega) (by omega)) ?_
        rw [hwi, Int.natCast_succ]
        rfl
    · conv => whnf
      repeat' (first
        | (refine brK_true (by assumption) ?_; conv => whnf)
        | (refine brK_false (by assumption) ?_; conv => whnf)
        | (refine brK_true ?_ ?_; (focus (simp only [List.length_nil, not_t, not_f, lt_t, lt_f, le_t, le_f, eq_t, eq_f, us_len, is_len, bs_len, lenL_00, hdl] <;> omega)); conv => whnf)
        | (refine brK_false ?_ ?_; (focus (simp only [List.length_nil, not_t, not_f, lt_t, lt_f, le_t, le_f, eq_t, eq_f, us_len, is_len, bs_len, lenL_00, hdl] <;> omega)); conv => whnf)
        | ((refine brK_of (fun h => ?_) (fun h => ?_)) <;> (have h2 := h; (try simp only [List.length_nil, not_t, not_f, lt_t, lt_f, le_t, le_f, eq_t, eq_f, us_len, is_len, bs_len, lenL_00, hdl] at h2); conv => whnf))
        | (refine reqK_of ?_ ?_; (focus (first | decide | omega | assumption | (simp only [List.length_nil, not_t, not_f, lt_t, lt_f, le_t, le_f, eq_t, eq_f, us_len, is_len, bs_len, lenL_00, hdl] <;> omega) | (simp [keyNew, sameKey, kEq] <;> omega))); conv => whnf)
        | (refine reqK_of ?_ ?_; rotate_left; (conv => whnf); rotate_left)
        | (refine nth_us ?_ ?_ ?_; (focus (first | omega | (simp only [List.length_nil, not_t, not_f, lt_t, lt_f, le_t, le_f, eq_t, eq_f, us_len, is_len, bs_len, lenL_00, hdl] <;> omega))); (focus (first | omega | (simp only [List.length_nil, not_t, not_f, lt_t, lt_f, le_t, le_f, eq_t, eq_f, us_len, is_len, bs_len, lenL_00, hdl] <;> omega))); conv => whnf)
        | (refine nth_is ?_ ?_ ?_; (focus (first | omega | (simp only [List.length_nil, not_t, not_f, lt_t, lt_f, le_t, le_f, eq_t, eq_f, us_len, is_len, bs_len, lenL_00, hdl] <;> omega))); (focus (first | omega | (simp only [List.length_nil, not_t, not_f, lt_t, lt_f, le_t, le_f, eq_t, eq_f, us_len, is_len, bs_len, lenL_00, hdl] <;> omega))); conv => whnf)
        | (refine nth_bs ?_ ?_ ?_; (focus (first | omega | (simp only [List.length_nil, not_t, not_f, lt_t, lt_f, le_t, le_f, eq_t, eq_f, us_len, is_len, bs_len, lenL_00, hdl] <;> omega))); (focus (first | omega | (simp only [List.length_nil, not_t, not_f, lt_t, lt_f, le_t, le_f, eq_t, eq_f, us_len, is_len, bs_len, lenL_00, hdl] <;> omega))); conv => whnf))
  · rw [Bool.not_eq_true] at hr
    conv => whnf
    repeat' (first
      | (refine brK_true (by assumption) ?_; conv => whnf)
      | (refine brK_false (by assumption) ?_; conv => whnf)
      | (refine brK_true ?_ ?_; (focus (simp only [List.length_nil, not_t, not_f, lt_t, lt_f, le_t, le_f, eq_t, eq_f, us_len, is_len, bs_len, lenL_00, rs_len, rowsOf_rs, hr] <;> omega)); conv => whnf)
      | (refine brK_false ?_ ?_; (focus (simp only [List.length_nil, not_t, not_f, lt_t, lt_f, le_t, le_f, eq_t, eq_f, us_len, is_len, bs_len, lenL_00, rs_len, rowsOf_rs, hr] <;> omega)); conv => whnf)
      | ((refine brK_of (fun h => ?_) (fun h => ?_)) <;> (have h2 := h; (try simp only [List.length_nil, not_t, not_f, lt_t, lt_f, le_t, le_f, eq_t, eq_f, us_len, is_len, bs_len, lenL_00, rs_len, rowsOf_rs, hr] at h2); conv => whnf))
      | (refine reqK_of ?_ ?_; (focus (first | decide | omega | assumption | (simp only [List.length_nil, not_t, not_f, lt_t, lt_f, le_t, le_f, eq_t, eq_f, us_len, is_len, bs_len, lenL_00, rs_len, rowsOf_rs, hr] <;> omega) | (simp [keyNew, sameKey, kEq] <;> omega))); conv => whnf)
      | (refine reqK_of ?_ ?_; rotate_left; (conv => whnf); rotate_left)
      | (refine nth_us ?_ ?_ ?_; (focus (first | omega | (simp only [List.length_nil, not_t, not_f, lt_t, lt_f, le_t, le_f, eq_t, eq_f, us_len, is_len, bs_len, lenL_00, rs_len, rowsOf_rs, hr] <;> omega))); (focus (first | omega | (simp only [List.length_nil, not_t, not_f, lt_t, lt_f, le_t, le_f, eq_t, eq_f, us_len, is_len, bs_len, lenL_00, rs_len, rowsOf_rs, hr] <;> omega))); conv => whnf)
      | (refine nth_is ?_ ?_ ?_; (focus (first | omega | (simp only [List.length_nil, not_t, not_f, lt_t, lt_f, le_t, le_f, eq_t, eq_f, us_len, is_len, bs_len, lenL_00, rs_len, rowsOf_rs, hr] <;> omega))); (focus (first | omega | (simp only [List.length_nil, not_t, not_f, lt_t, lt_f, le_t, le_f, eq_t, eq_f, us_len, is_len, bs_len, lenL_00, rs_len, rowsOf_rs, hr] <;> omega))); conv => whnf)
      | (refine nth_bs ?_ ?_ ?_; (focus (first | omega | (simp only [List.length_nil, not_t, not_f, lt_t, lt_f, le_t, le_f, eq_t, eq_f, us_len, is_len, bs_len, lenL_00, rs_len, rowsOf_rs, hr] <;> omega))); (focus (first | omega | (simp only [List.length_nil, not_t, not_f, lt_t, lt_f, le_t, le_f, eq_t, eq_f, us_len, is_len, bs_len, lenL_00, rs_len, rowsOf_rs, hr] <;> omega))); conv => whnf))
open Classical in
noncomputable def c6 : List T → Ans
  | [.agg [.int .i64 sl, .list 1 xs], .int .u64 s] => .req (IsR xs ∧ R64 s) (.bool true)
  | _ => .no
theorem got6 {vs : List T} {x : T} (h : Got (c6 vs) x) : FnOk Tryd.prog tgl 6 vs x := by
  unfold c6 at h
  split at h
  · obtain ⟨hq, e⟩ := got_req h; rw [e]; exact ok6 _ _ _ hq
  · exact (got_no h).elim
theorem nogl6 (vs : List T) (p : Prop) (d : Decidable p) (sz : Nat) (xs : List T) (h : c6 vs = @Ans.gl p d sz xs) : False := by
  unfold c6 at h
  split at h <;> cases h
theorem pk6 (vs : List T) (p : Prop) (d : Decidable p) (x : T) (h : c6 vs = @Ans.pk p d x) (hp : p) : FnOk Tryd.prog tgl 6 vs x := by
  unfold c6 at h
  split at h
  · cases h
  · cases h
end Go.Nx
