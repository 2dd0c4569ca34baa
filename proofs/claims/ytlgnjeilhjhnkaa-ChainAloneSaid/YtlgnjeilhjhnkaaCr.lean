/-
  WHO STOPS: walked.
-/
import Derived.Test.YtlgnjeilhjhnkaaCq
set_option linter.unusedVariables false
set_option linter.unusedSimpArgs false
set_option maxRecDepth 20000
set_option maxHeartbeats 4000000
namespace Go.Nx
open Go.RowKit Go.Proofs

theorem runN_front (m : List Int) (c : Mach) (k : Nat) : runN m c (k + 1) = runN (stepL m c) (stepC m c) k := by
  induction k with
  | zero => rfl
  | succ k ih => rw [runN, ih]; rfl
theorem fin0 {m : List Int} (hl : m.length = 10) {c : Mach} (hc : MOk c) (ho : c.out = 0) (hp : c.pc = 0) : ∃ k, k ≤ 3 ∧ (runN m c k).2.out ≠ 0 := by
  obtain ⟨g1, g2, g3, g4, g5⟩ := hc.go ho
  have ha : act c := ⟨ho, g3, g4, g5⟩
  by_cases q : c.kind = 2 ∧ nd (ldV m c.head) = 0
  · refine ⟨1, by omega, ?_⟩
    show (stepC m c).out ≠ 0
    simp [stepC, ha, hp, q]
  · refine ⟨3, by omega, ?_⟩
    have e1 : stepC m c = ⟨c.kind, 1, c.head, c.next, ldV m c.head, c.x, c.y, 0⟩ := by simp [stepC, ha, hp, q]
    have e2 : stepL m c = m := by simp [stepL, ha, hp]
    have hld : ldV m c.head = at0 m c.head := by unfold ldV doV; rw [if_pos (by omega), if_pos (by omega)]
    rw [runN_front, runN_front, runN_front, e1, e2]
    show (stepC _ _).out ≠ 0
    generalize hh : ldV m c.head = h at *
    have ha1 : act ⟨c.kind, 1, c.head, c.next, h, c.x, c.y, 0⟩ := ⟨rfl, g3, by simp, by simp⟩
    rcases g3 with k1 | k2
    · have e3 : stepC m ⟨c.kind, 1, c.head, c.next, h, c.x, c.y, 0⟩ = ⟨c.kind, 2, c.head, c.next, h, c.x, c.y, 0⟩ := by rw [stepC, if_pos ha1]; simp [k1]
      have e4 : stepL m ⟨c.kind, 1, c.head, c.next, h, c.x, c.y, 0⟩ = stL m (1 + c.x) (nd h) := by
        have hx := hc.push ho k1
        have hx2 := hc.x
        have ew : IntKind.i64.wrap (c.next + c.x) = 1 + c.x := by rw [g1]; exact w_id (by omega)
        rw [stepL, if_pos ha1]
        simp [k1, ew]
      rw [e3, e4]
      have hx := hc.push ho k1
      have hat : at0 (stL m (1 + c.x) (nd h)) c.head = h := by
        unfold stL doL
        split
        · rw [if_pos rfl, at0_setI _ _ _ _ (by omega) (by omega), if_neg (by omega)]; exact hld.symm
        · exact hld.symm
      have hb : doB (stL m (1 + c.x) (nd h)) 3 c.head h = true := by
        unfold doB
        refine decide_eq_true ⟨by omega, ?_, by decide, by decide, fun _ => hat⟩
        rw [stL_len, hl]; omega
      have ha2 : act ⟨c.kind, 2, c.head, c.next, h, c.x, c.y, 0⟩ := ⟨rfl, .inl k1, by simp, by simp⟩
      simp [stepC, ha2, hb]
    · have e3 : ∃ y, stepC m ⟨c.kind, 1, c.head, c.next, h, c.x, c.y, 0⟩ = ⟨c.kind, 2, c.head, c.next, h, c.x, y, 0⟩ := ⟨IntKind.i64.wrap (ldV m (IntKind.i64.wrap (c.next + nd h))), by rw [stepC, if_pos ha1]; simp [k2]⟩
      obtain ⟨y, e3⟩ := e3
      have e4 : stepL m ⟨c.kind, 1, c.head, c.next, h, c.x, c.y, 0⟩ = m := by rw [stepL, if_pos ha1]; simp [k2]
      rw [e3, e4]
      have hb : doB m 3 c.head h = true := by
        unfold doB
        exact decide_eq_true ⟨by omega, by omega, by decide, by decide, fun _ => hld.symm⟩
      have ha2 : act ⟨c.kind, 2, c.head, c.next, h, c.x, y, 0⟩ := ⟨rfl, .inr k2, by simp, by simp⟩
      simp [stepC, ha2, hb]
theorem fin2 {m : List Int} (hm : ∀ v ∈ m, R64 v) (hl : m.length = 10) {c : Mach} (hc : MOk c) (ho : c.out = 0) (hp : c.pc = 2) : ∃ k, k ≤ 4 ∧ (runN m c k).2.out ≠ 0 := by
  obtain ⟨g1, g2, g3, g4, g5⟩ := hc.go ho
  have ha : act c := ⟨ho, g3, g4, g5⟩
  by_cases hb : doB m 3 c.head c.h = true
  · refine ⟨1, by omega, ?_⟩
    show (stepC m c).out ≠ 0
    simp [stepC, ha, hp, hb]
  · have hc2 := mok_step hm hc
    have e : stepC m c = ⟨c.kind, 0, c.head, c.next, c.h, c.x, c.y, 0⟩ := by simp [stepC, ha, hp, hb]
    obtain ⟨k, h1, h2⟩ := fin0 (m := stepL m c) (by rw [stepL_len]; exact hl) hc2 (by rw [e]) (by rw [e])
    exact ⟨k + 1, by omega, by rw [runN_front]; exact h2⟩
theorem fin1 {m : List Int} (hm : ∀ v ∈ m, R64 v) (hl : m.length = 10) {c : Mach} (hc : MOk c) (ho : c.out = 0) (hp : c.pc = 1) : ∃ k, k ≤ 5 ∧ (runN m c k).2.out ≠ 0 := by
  obtain ⟨g1, g2, g3, g4, g5⟩ := hc.go ho
  have ha : act c := ⟨ho, g3, g4, g5⟩
  have hc2 := mok_step hm hc
  have e : (stepC m c).pc = 2 ∧ (stepC m c).out = 0 := by
    unfold stepC
    rw [if_pos ha, if_neg (by omega), if_pos hp]
    split <;> exact ⟨rfl, rfl⟩
  obtain ⟨k, h1, h2⟩ := fin2 (m := stepL m c) (mach_R hm hc.h).1 (by rw [stepL_len]; exact hl) hc2 e.2 e.1
  exact ⟨k + 1, by omega, by rw [runN_front]; exact h2⟩
theorem fin_all {m : List Int} (hm : ∀ v ∈ m, R64 v) (hl : m.length = 10) {c : Mach} (hc : MOk c) : ∃ k, k ≤ 6 ∧ (runN m c k).2.out ≠ 0 := by
  by_cases ho : c.out = 0
  · obtain ⟨g1, g2, g3, g4, g5⟩ := hc.go ho
    rcases (by omega : c.pc = 0 ∨ c.pc = 1 ∨ c.pc = 2) with h | h | h
    · obtain ⟨k, h1, h2⟩ := fin0 hl hc ho h; exact ⟨k, by omega, h2⟩
    · obtain ⟨k, h1, h2⟩ := fin1 hm hl hc ho h; exact ⟨k, by omega, h2⟩
    · obtain ⟨k, h1, h2⟩ := fin2 hm hl hc ho h; exact ⟨k, by omega, h2⟩
  · exact ⟨0, by omega, ho⟩
theorem goK_end {l : List Int} {c : Mach} : ∀ (f k : Nat), (∃ j, k ≤ j ∧ j ≤ k + f ∧ (runN l c j).2.out ≠ 0) → (runN l c (goK l c f k)).2.out ≠ 0 ∧ goK l c f k ≤ k + f
  | 0, k, ⟨j, h1, h2, h3⟩ => by
    obtain rfl : j = k := by omega
    exact ⟨h3, by simp [goK]⟩
  | f + 1, k, ⟨j, h1, h2, h3⟩ => by
    rw [goK]
    split
    · rename_i e
      have : j ≠ k := fun h => by subst h; exact h3 e
      have := goK_end f (k + 1) ⟨j, by omega, by omega, h3⟩
      exact ⟨this.1, by omega⟩
    · rename_i e; exact ⟨e, by omega⟩
theorem ok6 (xs : List T) (b : Int) (hq : (IsB xs ∧ Szb xs) ∧ R8 b) : FnOk Try.prog tgl 6 [.list 1 xs, .int .u8 b] (.bool true) := by
  refine fn_ok (Γ := EW) env_EW Try.func6 low6 ?_
  obtain ⟨⟨⟨l, rfl, hl⟩, hs⟩, hb8⟩ := hq
  have hlen : l.length ≤ 140737488355328 := by unfold Szb maxBytes at hs; rw [bs_len] at hs; exact hs
  have hb' := hb8
  unfold R8 at hb'
  have eb : b.tmod 5 = b % 5 := Int.tmod_eq_emod_of_nonneg hb'.1
  conv => whnf
  repeat' (first
    | (refine brK_true (by assumption) ?_; conv => whnf)
    | (refine brK_false (by assumption) ?_; conv => whnf)
    | (refine brK_true ?_ ?_; (focus (simp only [List.length_nil, not_t, not_f, lt_t, lt_f, le_t, le_f, eq_t, eq_f, us_len, is_len, bs_len, lenL_00] <;> omega)); conv => whnf)
    | (refine brK_false ?_ ?_; (focus (simp only [List.length_nil, not_t, not_f, lt_t, lt_f, le_t, le_f, eq_t, eq_f, us_len, is_len, bs_len, lenL_00] <;> omega)); conv => whnf)
    | ((refine brK_of (fun h => ?_) (fun h => ?_)) <;> (have h2 := h; (try simp only [List.length_nil, not_t, not_f, lt_t, lt_f, le_t, le_f, eq_t, eq_f, us_len, is_len, bs_len, lenL_00] at h2); conv => whnf))
    | (refine reqK_of ?_ ?_; (focus (first | decide | omega | assumption | (simp only [List.length_nil, not_t, not_f, lt_t, lt_f, le_t, le_f, eq_t, eq_f, us_len, is_len, bs_len, lenL_00] <;> omega) | (simp [keyNew, sameKey, kEq] <;> omega))); conv => whnf)
    | (refine reqK_of ?_ ?_; rotate_left; (conv => whnf); rotate_left)
    | (refine nth_us ?_ ?_ ?_; (focus (first | omega | (simp only [List.length_nil, not_t, not_f, lt_t, lt_f, le_t, le_f, eq_t, eq_f, us_len, is_len, bs_len, lenL_00] <;> omega))); (focus (first | omega | (simp only [List.length_nil, not_t, not_f, lt_t, lt_f, le_t, le_f, eq_t, eq_f, us_len, is_len, bs_len, lenL_00] <;> omega))); conv => whnf)
    | (refine nth_is ?_ ?_ ?_; (focus (first | omega | (simp only [List.length_nil, not_t, not_f, lt_t, lt_f, le_t, le_f, eq_t, eq_f, us_len, is_len, bs_len, lenL_00] <;> omega))); (focus (first | omega | (simp only [List.length_nil, not_t, not_f, lt_t, lt_f, le_t, le_f, eq_t, eq_f, us_len, is_len, bs_len, lenL_00] <;> omega))); conv => whnf)
    | (refine nth_bs ?_ ?_ ?_; (focus (first | omega | (simp only [List.length_nil, not_t, not_f, lt_t, lt_f, le_t, le_f, eq_t, eq_f, us_len, is_len, bs_len, lenL_00] <;> omega))); (focus (first | omega | (simp only [List.length_nil, not_t, not_f, lt_t, lt_f, le_t, le_f, eq_t, eq_f, us_len, is_len, bs_len, lenL_00] <;> omega))); conv => whnf))
  refine ⟨rfl, rfl, ?_⟩
  conv => whnf
  repeat' (first
    | (refine brK_true (by assumption) ?_; conv => whnf)
    | (refine brK_false (by assumption) ?_; conv => whnf)
    | (refine brK_true ?_ ?_; (focus (simp only [List.length_nil, not_t, not_f, lt_t, lt_f, le_t, le_f, eq_t, eq_f, us_len, is_len, bs_len, lenL_00] <;> omega)); conv => whnf)
    | (refine brK_false ?_ ?_; (focus (simp only [List.length_nil, not_t, not_f, lt_t, lt_f, le_t, le_f, eq_t, eq_f, us_len, is_len, bs_len, lenL_00] <;> omega)); conv => whnf)
    | ((refine brK_of (fun h => ?_) (fun h => ?_)) <;> (have h2 := h; (try simp only [List.length_nil, not_t, not_f, lt_t, lt_f, le_t, le_f, eq_t, eq_f, us_len, is_len, bs_len, lenL_00] at h2); conv => whnf))
    | (refine reqK_of ?_ ?_; (focus (first | decide | omega | assumption | (simp only [List.length_nil, not_t, not_f, lt_t, lt_f, le_t, le_f, eq_t, eq_f, us_len, is_len, bs_len, lenL_00] <;> omega) | (simp [keyNew, sameKey, kEq] <;> omega))); conv => whnf)
    | (refine reqK_of ?_ ?_; rotate_left; (conv => whnf); rotate_left)
    | (refine nth_us ?_ ?_ ?_; (focus (first | omega | (simp only [List.length_nil, not_t, not_f, lt_t, lt_f, le_t, le_f, eq_t, eq_f, us_len, is_len, bs_len, lenL_00] <;> omega))); (focus (first | omega | (simp only [List.length_nil, not_t, not_f, lt_t, lt_f, le_t, le_f, eq_t, eq_f, us_len, is_len, bs_len, lenL_00] <;> omega))); conv => whnf)
    | (refine nth_is ?_ ?_ ?_; (focus (first | omega | (simp only [List.length_nil, not_t, not_f, lt_t, lt_f, le_t, le_f, eq_t, eq_f, us_len, is_len, bs_len, lenL_00] <;> omega))); (focus (first | omega | (simp only [List.length_nil, not_t, not_f, lt_t, lt_f, le_t, le_f, eq_t, eq_f, us_len, is_len, bs_len, lenL_00] <;> omega))); conv => whnf)
    | (refine nth_bs ?_ ?_ ?_; (focus (first | omega | (simp only [List.length_nil, not_t, not_f, lt_t, lt_f, le_t, le_f, eq_t, eq_f, us_len, is_len, bs_len, lenL_00] <;> omega))); (focus (first | omega | (simp only [List.length_nil, not_t, not_f, lt_t, lt_f, le_t, le_f, eq_t, eq_f, us_len, is_len, bs_len, lenL_00] <;> omega))); conv => whnf))
  refine loopSet [.kill 14, .ren 70 1001, .ren 1000000000000000000000000000013 1002, .ren 1000000000000000000000000000012 1003] [.kill 15, .kill 16, .kill 17, .kill 18, .kill 19, .kill 20, .kill 21, .kill 22, .kill 23, .kill 24, .kill 25, .kill 26, .kill 27, .kill 28, .kill 29] (fun k : Nat => [(7, .t (.int .i64 (k : Int)))]) (fun k => ownW (wN l k)) (fun k => k ≤ l.length ∧ k ≤ 200) (fun k => l.length - k) 0 ⟨Nat.zero_le _, by omega⟩ ?_
  conv => whnf
  refine ⟨⟨rfl, rfl⟩, fun k hk C hC => ?_⟩
  obtain ⟨hk1, hk2⟩ := hk
  have hi := wN_inv hl (k := k) (by omega) hk1
  have hw5 := hi.who
  have hcm : MOk (mAt (wN l k).who ((b % 5).toNat : Nat)) := hi.ok _ (mAt_mem (by omega))
  have hfin := goK_end (l := (wN l k).m) (c := mAt (wN l k).who ((b % 5).toNat : Nat)) 6 0 (by obtain ⟨j, h1, h2⟩ := fin_all hi.m hi.ml hcm; exact ⟨j, by omega, by omega, h2⟩)
  have hmu : IsU (us (wN l k).m) ∧ Sz (us (wN l k).m) := ⟨isU_us hi.m, hi.wok.m.2⟩
  have hfo : (runN (wN l k).m (mAt (wN l k).who ((b % 5).toNat : Nat)) (runK (wN l k).m (mAt (wN l k).who ((b % 5).toNat : Nat)) 6)).2.out ≠ 0 := hfin.1
  have hfk : runK (wN l k).m (mAt (wN l k).who ((b % 5).toNat : Nat)) 6 ≤ 6 := by have h := hfin.2; rw [Nat.zero_add] at h; exact h
  conv => whnf
  repeat' (first
    | (refine brK_true (by assumption) ?_; conv => whnf)
    | (refine brK_false (by assumption) ?_; conv => whnf)
    | (refine brK_true ?_ ?_; (focus (simp only [List.length_nil, not_t, not_f, lt_t, lt_f, le_t, le_f, eq_t, eq_f, us_len, is_len, bs_len, lenL_00, eb, ms_len, natadd0] <;> omega)); conv => whnf)
    | (refine brK_false ?_ ?_; (focus (simp only [List.length_nil, not_t, not_f, lt_t, lt_f, le_t, le_f, eq_t, eq_f, us_len, is_len, bs_len, lenL_00, eb, ms_len, natadd0] <;> omega)); conv => whnf)
    | ((refine brK_of (fun h => ?_) (fun h => ?_)) <;> (have h2 := h; (try simp only [List.length_nil, not_t, not_f, lt_t, lt_f, le_t, le_f, eq_t, eq_f, us_len, is_len, bs_len, lenL_00, eb, ms_len, natadd0] at h2); conv => whnf))
    | (refine reqK_of ?_ ?_; (focus (first | decide | omega | assumption | (simp only [List.length_nil, not_t, not_f, lt_t, lt_f, le_t, le_f, eq_t, eq_f, us_len, is_len, bs_len, lenL_00, eb, ms_len, natadd0] <;> omega) | (simp [keyNew, sameKey, kEq] <;> omega))); conv => whnf)
    | (refine reqK_of ?_ ?_; rotate_left; (conv => whnf); rotate_left)
    | (refine nth_ms ?_ ?_ ?_; (focus (first | omega | (simp only [List.length_nil, not_t, not_f, lt_t, lt_f, le_t, le_f, eq_t, eq_f, us_len, is_len, bs_len, lenL_00, eb, ms_len, natadd0] <;> omega))); (focus (first | omega | (simp only [List.length_nil, not_t, not_f, lt_t, lt_f, le_t, le_f, eq_t, eq_f, us_len, is_len, bs_len, lenL_00, eb, ms_len, natadd0] <;> omega))); conv => whnf)
    | (refine nth_us ?_ ?_ ?_; (focus (first | omega | (simp only [List.length_nil, not_t, not_f, lt_t, lt_f, le_t, le_f, eq_t, eq_f, us_len, is_len, bs_len, lenL_00, eb, ms_len, natadd0] <;> omega))); (focus (first | omega | (simp only [List.length_nil, not_t, not_f, lt_t, lt_f, le_t, le_f, eq_t, eq_f, us_len, is_len, bs_len, lenL_00, eb, ms_len, natadd0] <;> omega))); conv => whnf)
    | (refine nth_is ?_ ?_ ?_; (focus (first | omega | (simp only [List.length_nil, not_t, not_f, lt_t, lt_f, le_t, le_f, eq_t, eq_f, us_len, is_len, bs_len, lenL_00, eb, ms_len, natadd0] <;> omega))); (focus (first | omega | (simp only [List.length_nil, not_t, not_f, lt_t, lt_f, le_t, le_f, eq_t, eq_f, us_len, is_len, bs_len, lenL_00, eb, ms_len, natadd0] <;> omega))); conv => whnf)
    | (refine nth_bs ?_ ?_ ?_; (focus (first | omega | (simp only [List.length_nil, not_t, not_f, lt_t, lt_f, le_t, le_f, eq_t, eq_f, us_len, is_len, bs_len, lenL_00, eb, ms_len, natadd0] <;> omega))); (focus (first | omega | (simp only [List.length_nil, not_t, not_f, lt_t, lt_f, le_t, le_f, eq_t, eq_f, us_len, is_len, bs_len, lenL_00, eb, ms_len, natadd0] <;> omega))); conv => whnf))
  · rename_i hlt
    have hb : R8 (at0 l k) := hl _ (at0_mem (by simp; omega))
    have hi2 := wN_inv hl (k := k + 1) (by omega) (by omega)
    refine ⟨wN l k, at0 l k, rfl, rfl, hb, hi.wok, ?_⟩
    have e : stepW (wN l k) (at0 l k) = wN l (k + 1) := rfl
    rw [e]
    have hw : IntKind.i64.wrap ((k : Int) + 1) = (k : Int) + 1 := wrap_i64 ⟨by omega, by omega⟩
    conv => whnf
    repeat' (first
      | (refine brK_true (by assumption) ?_; conv => whnf)
      | (refine brK_false (by assumption) ?_; conv => whnf)
      | (refine brK_true ?_ ?_; (focus (simp only [List.length_nil, not_t, not_f, lt_t, lt_f, le_t, le_f, eq_t, eq_f, us_len, is_len, bs_len, lenL_00] <;> omega)); conv => whnf)
      | (refine brK_false ?_ ?_; (focus (simp only [List.length_nil, not_t, not_f, lt_t, lt_f, le_t, le_f, eq_t, eq_f, us_len, is_len, bs_len, lenL_00] <;> omega)); conv => whnf)
      | ((refine brK_of (fun h => ?_) (fun h => ?_)) <;> (have h2 := h; (try simp only [List.length_nil, not_t, not_f, lt_t, lt_f, le_t, le_f, eq_t, eq_f, us_len, is_len, bs_len, lenL_00] at h2); conv => whnf))
      | (refine reqK_of ?_ ?_; (focus (first | decide | omega | assumption | (simp only [List.length_nil, not_t, not_f, lt_t, lt_f, le_t, le_f, eq_t, eq_f, us_len, is_len, bs_len, lenL_00] <;> omega) | (simp [keyNew, sameKey, kEq] <;> omega))); conv => whnf)
      | (refine reqK_of ?_ ?_; rotate_left; (conv => whnf); rotate_left)
      | (refine nth_us ?_ ?_ ?_; (focus (first | omega | (simp only [List.length_nil, not_t, not_f, lt_t, lt_f, le_t, le_f, eq_t, eq_f, us_len, is_len, bs_len, lenL_00] <;> omega))); (focus (first | omega | (simp only [List.length_nil, not_t, not_f, lt_t, lt_f, le_t, le_f, eq_t, eq_f, us_len, is_len, bs_len, lenL_00] <;> omega))); conv => whnf)
      | (refine nth_is ?_ ?_ ?_; (focus (first | omega | (simp only [List.length_nil, not_t, not_f, lt_t, lt_f, le_t, le_f, eq_t, eq_f, us_len, is_len, bs_len, lenL_00] <;> omega))); (focus (first | omega | (simp only [List.length_nil, not_t, not_f, lt_t, lt_f, le_t, le_f, eq_t, eq_f, us_len, is_len, bs_len, lenL_00] <;> omega))); conv => whnf)
      | (refine nth_bs ?_ ?_ ?_; (focus (first | omega | (simp only [List.length_nil, not_t, not_f, lt_t, lt_f, le_t, le_f, eq_t, eq_f, us_len, is_len, bs_len, lenL_00] <;> omega))); (focus (first | omega | (simp only [List.length_nil, not_t, not_f, lt_t, lt_f, le_t, le_f, eq_t, eq_f, us_len, is_len, bs_len, lenL_00] <;> omega))); conv => whnf))
    refine loopC (hC (k + 1) ⟨by omega, by omega⟩ (by omega)) ?_
    rw [hw, Int.natCast_succ]
    rfl
  all_goals first
    | (simp only [natadd0, eb]; exact ⟨⟨hmu, hcm.h⟩, by decide⟩)
    | (rename_i h2; simp only [natadd0, eb, nums_us, mach_eta] at h2; exact absurd h2 hfo)
    | (simp only [natadd0, eb, nums_us, mach_eta]; rw [le_t.2 (by omega)])
open Classical in
noncomputable def c6 : List T → Ans
  | [.list 1 xs, .int .u8 b] => .req ((IsB xs ∧ Szb xs) ∧ R8 b) (.bool true)
  | _ => .no
theorem got6 {vs : List T} {x : T} (h : Got (c6 vs) x) : FnOk Try.prog tgl 6 vs x := by
  unfold c6 at h
  split at h
  · obtain ⟨hq, e⟩ := got_req h; rw [e]; exact ok6 _ _ hq
  · exact (got_no h).elim
theorem nogl6 (vs : List T) (p : Prop) (sz : Nat) (xs : List T) (h : c6 vs = .gl p sz xs) : False := by
  unfold c6 at h
  split at h <;> cases h
end Go.Nx
