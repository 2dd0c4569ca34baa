/-
  ALONE A LIST IS A STACK: walked.
-/
import Derived.Test.YtlgnjeilhjhnkaaCw
set_option linter.unusedVariables false
set_option linter.unusedSimpArgs false
set_option maxRecDepth 20000
set_option maxHeartbeats 4000000
namespace Go.Nx
open Go.RowKit Go.Proofs

structure Al where
  m : List Int
  L : List Int
  o : Nat
  k : Nat
theorem subL_is (L : List Int) (o : Nat) : subL (is L) o none = is (L.drop o) := by
  cases o with
  | zero => simp
  | succ o => simp [subL, is, List.map_drop]
theorem lenL_o (ts : List T) (o : Nat) (h : o ≤ ts.length) : lenL ts o none = ((ts.drop o).length : Int) := by
  cases o with
  | zero => simp
  | succ o => simp only [lenL, List.length_drop]; omega
theorem nth_sub {L : List Int} {o : Nat} {i : Int} {K : T → Prop} (h0 : 0 ≤ i) (h1 : i < (L.drop o).length) (h : K (.int .i64 (at0 (L.drop o) i))) : nthK (subL (is L) o none) i K := by
  rw [subL_is]; exact nth_is h0 h1 h
theorem is_cons (x : Int) (r : List Int) : [T.int .i64 x] ++ is r = is (x :: r) := by simp [is]
theorem repZ42 : List.replicate (Int.toNat 42) (T.int .u64 0) = us (List.replicate 42 0) := by
  show List.replicate 42 _ = _
  simp [us]
theorem ok5 (xs : List T) (hq : IsB xs ∧ Szb xs) : FnOk Try.prog tgl 5 [.list 1 xs] (.bool true) := by
  refine fn_ok (Γ := EB) env_EB Try.func5 low5 ?_
  obtain ⟨⟨l, rfl, hl⟩, hs⟩ := hq
  have hlen : l.length ≤ 140737488355328 := by unfold Szb maxBytes at hs; rw [bs_len] at hs; exact hs
  have hZ : IsU (subL (List.replicate (Int.toNat 42) (T.int .u64 0)) 0 none) ∧ Sz (subL (List.replicate (Int.toNat 42) (T.int .u64 0)) 0 none) := by
    rw [subL_00, repZ42]
    exact ⟨isU_us fun n hn => by simp at hn; subst hn; unfold R64; omega, by unfold Sz maxBytes; simp⟩
  have hS0 : SOk (layL (List.replicate 42 0) 0 1 []) [] 0 := by
    rw [layL_nil]
    refine ⟨stL_R (fun n hn => by simp at hn; subst hn; unfold R64; omega) _ (R_pk _ _), by rw [stL_len]; simp, ?_, List.nodup_nil, fun a ha => by cases ha⟩
    show nd _ = 0
    rw [at0_stL (by omega), if_pos (by simp), pk_nd (by omega)]
  conv => whnf
  repeat' (first
    | (refine brK_true (by assumption) ?_; conv => whnf)
    | (refine brK_false (by assumption) ?_; conv => whnf)
    | (refine brK_true ?_ ?_; (focus (simp only [List.length_nil, not_t, not_f, lt_t, lt_f, le_t, le_f, eq_t, eq_f, us_len, is_len, bs_len, lenL_00] <;> omega)); conv => whnf)
    | (refine brK_false ?_ ?_; (focus (simp only [List.length_nil, not_t, not_f, lt_t, lt_f, le_t, le_f, eq_t, eq_f, us_len, is_len, bs_len, lenL_00] <;> omega)); conv => whnf)
    | ((refine brK_of (fun h => ?_) (fun h => ?_)) <;> (have h2 := h; (try simp only [List.length_nil, not_t, not_f, lt_t, lt_f, le_t, le_f, eq_t, eq_f, us_len, is_len, bs_len, lenL_00] at h2); conv => whnf))
    | (refine reqK_of ?_ ?_; (focus (first | decide | omega | assumption | (simp only [List.length_nil, not_t, not_f, lt_t, lt_f, le_t, le_f, eq_t, eq_f, us_len, is_len, bs_len, lenL_00] <;> omega) | (simp [keyNew, sameKey, kEq] <;> omega))); conv => whnf)
    | (refine reqK_of ?_ ?_; rotate_left; (conv => whnf); rotate_left)
    | (refine nth_us ?_ ?_ ?_; (focus (first | omega | (simp only [List.length_nil, not_t, not_f, lt_t, lt_f, le_t, le_f, eq_t, eq_f, us_len, is_len, bs_len, lenL_00] <;> omega))); (focus (first | omega | (simp only [List.length_nil, not_t, not_f, lt_t, lt_f, le_t, le_f, eq_t, eq_f, us_len, is_len, bs_len, lenL_00] <;> omega))); conv => whnf)
    | (refine nth_is ?_ ?_ ?_; (focus (first | omega | (simp only [List.length_nil, not_t, not_f, lt_t, lt_f, le_t, le_f, eq_t, eq_f, us_len, is_len, bs_len, lenL_00] <;> omega))); (focus (first | omega | (simp only [List.length_nil, not_t, not_f, lt_t, lt_f, le_t, le_f, eq_t, eq_f, us_len, is_len, bs_len, lenL_00] <;> omega))); conv => whnf)
    | (refine nth_bs ?_ ?_ ?_; (focus (first | omega | (simp only [List.length_nil, not_t, not_f, lt_t, lt_f, le_t, le_f, eq_t, eq_f, us_len, is_len, bs_len, lenL_00] <;> omega))); (focus (first | omega | (simp only [List.length_nil, not_t, not_f, lt_t, lt_f, le_t, le_f, eq_t, eq_f, us_len, is_len, bs_len, lenL_00] <;> omega))); conv => whnf))
  rw [subL_00, repZ42, nums_us]
  refine loopFn [.adopt 5 1001 1, .kill 13, .gc] (fun s => nzIf 122 s [.kill 7, .kill 8, .kill 9, .kill 15, .kill 16, .kill 17, .kill 18, .kill 19, .kill 20, .kill 21, .kill 22, .kill 23, .kill 24, .kill 25, .kill 26, .kill 27, .kill 28, .kill 29, .kill 30, .kill 31, .kill 32, .kill 33, .kill 34, .kill 35, .kill 36, .kill 37, .kill 38, .kill 39, .kill 40, .kill 41, .kill 42, .kill 43, .kill 44, .kill 45, .kill 46, .kill 47, .kill 48, .kill 49, .kill 50, .kill 51, .kill 52, .kill 53, .kill 54, .kill 55, .kill 56, .kill 57, .kill 58, .kill 59, .kill 60, .kill 61, .kill 62, .kill 63, .kill 64, .kill 65, .kill 66, .kill 67, .kill 68, .kill 69, .kill 70, .kill 71, .kill 72, .kill 73, .kill 74, .kill 75, .kill 76, .kill 77, .kill 78, .kill 79, .kill 80, .kill 81, .kill 82, .kill 83, .gc, .ren 122 1001] [.kill 7, .kill 8, .kill 9, .kill 15, .kill 16, .kill 17, .kill 18, .kill 19, .kill 20, .kill 21, .kill 22, .kill 23, .kill 24, .kill 25, .kill 26, .kill 27, .kill 28, .kill 29, .kill 30, .kill 31, .kill 32, .kill 33, .kill 34, .kill 35, .kill 36, .kill 37, .kill 38, .kill 39, .kill 40, .kill 41, .kill 42, .kill 43, .kill 44, .kill 45, .kill 46, .kill 47, .kill 48, .kill 49, .kill 50, .kill 51, .kill 52, .kill 53, .kill 54, .kill 55, .kill 56, .kill 57, .kill 58, .kill 59, .kill 60, .kill 61, .kill 62, .kill 63, .kill 64, .kill 65, .kill 66, .kill 67, .kill 68, .kill 69, .kill 70, .kill 71, .kill 72, .kill 73, .kill 74, .kill 75, .kill 76, .kill 77, .kill 78, .kill 79, .kill 80, .kill 81, .kill 82, .kill 83, .gc]) (fun a : Al => [(4, .t (.list 1 (us a.m))), (5, .sl 1001 a.o none), (6, .t (.int .i64 (a.k : Int)))]) (fun a => [(1001, .lst 1 (is a.L) 1)])
    (fun a => SOk a.m (a.L.drop a.o) a.k ∧ a.o ≤ a.L.length ∧ a.k ≤ l.length ∧ a.k ≤ 40 ∧ IsI (is a.L)) (fun a => l.length - a.k) ⟨layL (List.replicate 42 0) 0 1 [], [], 0, 0⟩ ⟨hS0, Nat.le_refl _, Nat.zero_le _, Nat.zero_le _, isI_is fun x hx => by cases hx⟩ ?_
  conv => whnf
  refine ⟨⟨rfl, rfl⟩, fun a ha C hC => ?_⟩
  obtain ⟨m, L, o, k⟩ := a
  obtain ⟨hS, ho, hk1, hk2, hI⟩ := ha
  simp only at hS ho hk1 hk2 hI hC
  have hw : IntKind.i64.wrap ((k : Int) + 1) = (k : Int) + 1 := wrap_i64 ⟨by omega, by omega⟩
  have hmu : IsU (us m) ∧ Sz (us m) := ⟨isU_us hS.mR, by unfold Sz maxBytes; rw [us_len, hS.l]; decide⟩
  by_cases hlt : k < l.length ∧ k < 40
  · have hb : R8 (at0 l k) := hl _ (at0_mem (by simp; omega))
    unfold R8 at hb
    have hll := lenL_o (is L) o (by simpa using ho)
    have hll2 : ((is L).drop o).length = (L.drop o).length := by simp
    have hsl := hS.len
    by_cases hkd : at0 l k % 2 = 0
    · have hk0 : IntKind.i64.wrap (1 + IntKind.i64.wrap ((at0 l k).tmod 2)) = 1 := by
        have : IntKind.i64.wrap ((at0 l k).tmod 2) = 0 := by rw [Int.tmod_eq_emod_of_nonneg hb.1, hkd]; rfl
        rw [this]; rfl
      obtain ⟨m', c', hR, hK, hout, hS'⟩ := push_run hS hlt.2
      unfold c0 at hR hK
      rw [hK] at hR
      have hS2 := hS'.lists (by omega)
      have hmu' : IsU (us m') ∧ Sz (us m') := ⟨isU_us hS'.mR, by unfold Sz maxBytes; rw [us_len, hS'.l]; decide⟩
      have hE : eqL (((k : Int) + 1) :: L.drop o) (((k : Int) + 1) :: L.drop o) = true := eqL_self _
      have hI' : IsI (is (((k : Int) + 1) :: L.drop o)) := isI_is fun x hx => by have := hS'.le x hx; unfold I64; omega
      have hSz : Sz (is (((k : Int) + 1) :: L.drop o)) := by unfold Sz maxBytes; rw [is_len, List.length_cons]; omega
      conv => whnf
      repeat' (first
        | (refine brK_true (by assumption) ?_; conv => whnf)
        | (refine brK_false (by assumption) ?_; conv => whnf)
        | (refine brK_true ?_ ?_; (focus (simp only [List.length_nil, not_t, not_f, lt_t, lt_f, le_t, le_f, eq_t, eq_f, us_len, is_len, bs_len, lenL_00, nums_us, nums_is, hk0, hw, hK, hR, hout, hS2, hll, hll2, subL_00, subL_is, is_cons] <;> omega)); conv => whnf)
        | (refine brK_false ?_ ?_; (focus (simp only [List.length_nil, not_t, not_f, lt_t, lt_f, le_t, le_f, eq_t, eq_f, us_len, is_len, bs_len, lenL_00, nums_us, nums_is, hk0, hw, hK, hR, hout, hS2, hll, hll2, subL_00, subL_is, is_cons] <;> omega)); conv => whnf)
        | ((refine brK_of (fun h => ?_) (fun h => ?_)) <;> (have h2 := h; (try simp only [List.length_nil, not_t, not_f, lt_t, lt_f, le_t, le_f, eq_t, eq_f, us_len, is_len, bs_len, lenL_00, nums_us, nums_is, hk0, hw, hK, hR, hout, hS2, hll, hll2, subL_00, subL_is, is_cons] at h2); conv => whnf))
        | (refine reqK_of ?_ ?_; (focus (first | decide | omega | assumption | (simp only [List.length_nil, not_t, not_f, lt_t, lt_f, le_t, le_f, eq_t, eq_f, us_len, is_len, bs_len, lenL_00, nums_us, nums_is, hk0, hw, hK, hR, hout, hS2, hll, hll2, subL_00, subL_is, is_cons] <;> omega) | (simp [keyNew, sameKey, kEq] <;> omega))); conv => whnf)
        | (refine reqK_of ?_ ?_; rotate_left; (conv => whnf); rotate_left)
        | (refine nth_sub ?_ ?_ ?_; (focus (first | omega | (simp only [List.length_nil, not_t, not_f, lt_t, lt_f, le_t, le_f, eq_t, eq_f, us_len, is_len, bs_len, lenL_00, nums_us, nums_is, hk0, hw, hK, hR, hout, hS2, hll, hll2, subL_00, subL_is, is_cons] <;> omega))); (focus (first | omega | (simp only [List.length_nil, not_t, not_f, lt_t, lt_f, le_t, le_f, eq_t, eq_f, us_len, is_len, bs_len, lenL_00, nums_us, nums_is, hk0, hw, hK, hR, hout, hS2, hll, hll2, subL_00, subL_is, is_cons] <;> omega))); conv => whnf)
        | (refine nth_us ?_ ?_ ?_; (focus (first | omega | (simp only [List.length_nil, not_t, not_f, lt_t, lt_f, le_t, le_f, eq_t, eq_f, us_len, is_len, bs_len, lenL_00, nums_us, nums_is, hk0, hw, hK, hR, hout, hS2, hll, hll2, subL_00, subL_is, is_cons] <;> omega))); (focus (first | omega | (simp only [List.length_nil, not_t, not_f, lt_t, lt_f, le_t, le_f, eq_t, eq_f, us_len, is_len, bs_len, lenL_00, nums_us, nums_is, hk0, hw, hK, hR, hout, hS2, hll, hll2, subL_00, subL_is, is_cons] <;> omega))); conv => whnf)
        | (refine nth_is ?_ ?_ ?_; (focus (first | omega | (simp only [List.length_nil, not_t, not_f, lt_t, lt_f, le_t, le_f, eq_t, eq_f, us_len, is_len, bs_len, lenL_00, nums_us, nums_is, hk0, hw, hK, hR, hout, hS2, hll, hll2, subL_00, subL_is, is_cons] <;> omega))); (focus (first | omega | (simp only [List.length_nil, not_t, not_f, lt_t, lt_f, le_t, le_f, eq_t, eq_f, us_len, is_len, bs_len, lenL_00, nums_us, nums_is, hk0, hw, hK, hR, hout, hS2, hll, hll2, subL_00, subL_is, is_cons] <;> omega))); conv => whnf)
        | (refine nth_bs ?_ ?_ ?_; (focus (first | omega | (simp only [List.length_nil, not_t, not_f, lt_t, lt_f, le_t, le_f, eq_t, eq_f, us_len, is_len, bs_len, lenL_00, nums_us, nums_is, hk0, hw, hK, hR, hout, hS2, hll, hll2, subL_00, subL_is, is_cons] <;> omega))); (focus (first | omega | (simp only [List.length_nil, not_t, not_f, lt_t, lt_f, le_t, le_f, eq_t, eq_f, us_len, is_len, bs_len, lenL_00, nums_us, nums_is, hk0, hw, hK, hR, hout, hS2, hll, hll2, subL_00, subL_is, is_cons] <;> omega))); conv => whnf))
      all_goals first
        | (simp only [hk0, hw, nums_us]; exact ⟨⟨hmu, by unfold R64; simp⟩, by decide⟩)
        | (simp only [maxBytes, subL_is, is_len, List.length_cons, List.length_nil]; omega)
        | (simp only [nums_us, hk0, hw, hK, hR]; exact hmu')
        | (simp only [nums_us, hk0, hw, hK, hR, hS2, subL_00, subL_is, is_cons]; exact ⟨⟨hI', hSz⟩, hI'⟩)
        | skip
      simp only [nums_us, hk0, hw, hK, hR, subL_is, is_cons]
      refine loopC (hC ⟨m', ((k : Int) + 1) :: L.drop o, 0, k + 1⟩ ⟨hS', by simp, by simp only; omega, by simp only; omega, hI'⟩ (by simp only; omega)) ?_
      rfl
    · have hk0 : IntKind.i64.wrap (1 + IntKind.i64.wrap ((at0 l k).tmod 2)) = 2 := by
        have : IntKind.i64.wrap ((at0 l k).tmod 2) = 1 := by rw [Int.tmod_eq_emod_of_nonneg hb.1]; exact (by rw [show at0 l k % 2 = 1 by omega]; rfl)
        rw [this]; rfl
      rcases hst : L.drop o with _ | ⟨a, r⟩
      · rw [hst] at hS hll2
        obtain ⟨c', hR, hK, hout⟩ := empty_run (x := (k : Int) + 1) hS
        unfold c0 at hR hK
        rw [hK] at hR
        simp only [List.length_nil] at hll2
        conv => whnf
        repeat' (first
          | (refine brK_true (by assumption) ?_; conv => whnf)
          | (refine brK_false (by assumption) ?_; conv => whnf)
          | (refine brK_true ?_ ?_; (focus (simp only [List.length_nil, not_t, not_f, lt_t, lt_f, le_t, le_f, eq_t, eq_f, us_len, is_len, bs_len, lenL_00, nums_us, nums_is, hk0, hw, hK, hR, hout, hll, hll2, subL_00, subL_is] <;> omega)); conv => whnf)
          | (refine brK_false ?_ ?_; (focus (simp only [List.length_nil, not_t, not_f, lt_t, lt_f, le_t, le_f, eq_t, eq_f, us_len, is_len, bs_len, lenL_00, nums_us, nums_is, hk0, hw, hK, hR, hout, hll, hll2, subL_00, subL_is] <;> omega)); conv => whnf)
          | ((refine brK_of (fun h => ?_) (fun h => ?_)) <;> (have h2 := h; (try simp only [List.length_nil, not_t, not_f, lt_t, lt_f, le_t, le_f, eq_t, eq_f, us_len, is_len, bs_len, lenL_00, nums_us, nums_is, hk0, hw, hK, hR, hout, hll, hll2, subL_00, subL_is] at h2); conv => whnf))
          | (refine reqK_of ?_ ?_; (focus (first | decide | omega | assumption | (simp only [List.length_nil, not_t, not_f, lt_t, lt_f, le_t, le_f, eq_t, eq_f, us_len, is_len, bs_len, lenL_00, nums_us, nums_is, hk0, hw, hK, hR, hout, hll, hll2, subL_00, subL_is] <;> omega) | (simp [keyNew, sameKey, kEq] <;> omega))); conv => whnf)
          | (refine reqK_of ?_ ?_; rotate_left; (conv => whnf); rotate_left)
          | (refine nth_sub ?_ ?_ ?_; (focus (first | omega | (simp only [List.length_nil, not_t, not_f, lt_t, lt_f, le_t, le_f, eq_t, eq_f, us_len, is_len, bs_len, lenL_00, nums_us, nums_is, hk0, hw, hK, hR, hout, hll, hll2, subL_00, subL_is] <;> omega))); (focus (first | omega | (simp only [List.length_nil, not_t, not_f, lt_t, lt_f, le_t, le_f, eq_t, eq_f, us_len, is_len, bs_len, lenL_00, nums_us, nums_is, hk0, hw, hK, hR, hout, hll, hll2, subL_00, subL_is] <;> omega))); conv => whnf)
          | (refine nth_us ?_ ?_ ?_; (focus (first | omega | (simp only [List.length_nil, not_t, not_f, lt_t, lt_f, le_t, le_f, eq_t, eq_f, us_len, is_len, bs_len, lenL_00, nums_us, nums_is, hk0, hw, hK, hR, hout, hll, hll2, subL_00, subL_is] <;> omega))); (focus (first | omega | (simp only [List.length_nil, not_t, not_f, lt_t, lt_f, le_t, le_f, eq_t, eq_f, us_len, is_len, bs_len, lenL_00, nums_us, nums_is, hk0, hw, hK, hR, hout, hll, hll2, subL_00, subL_is] <;> omega))); conv => whnf)
          | (refine nth_is ?_ ?_ ?_; (focus (first | omega | (simp only [List.length_nil, not_t, not_f, lt_t, lt_f, le_t, le_f, eq_t, eq_f, us_len, is_len, bs_len, lenL_00, nums_us, nums_is, hk0, hw, hK, hR, hout, hll, hll2, subL_00, subL_is] <;> omega))); (focus (first | omega | (simp only [List.length_nil, not_t, not_f, lt_t, lt_f, le_t, le_f, eq_t, eq_f, us_len, is_len, bs_len, lenL_00, nums_us, nums_is, hk0, hw, hK, hR, hout, hll, hll2, subL_00, subL_is] <;> omega))); conv => whnf)
          | (refine nth_bs ?_ ?_ ?_; (focus (first | omega | (simp only [List.length_nil, not_t, not_f, lt_t, lt_f, le_t, le_f, eq_t, eq_f, us_len, is_len, bs_len, lenL_00, nums_us, nums_is, hk0, hw, hK, hR, hout, hll, hll2, subL_00, subL_is] <;> omega))); (focus (first | omega | (simp only [List.length_nil, not_t, not_f, lt_t, lt_f, le_t, le_f, eq_t, eq_f, us_len, is_len, bs_len, lenL_00, nums_us, nums_is, hk0, hw, hK, hR, hout, hll, hll2, subL_00, subL_is] <;> omega))); conv => whnf))
        all_goals first
          | (simp only [hk0, hw, nums_us]; exact ⟨⟨hmu, by unfold R64; simp⟩, by decide⟩)
          | skip
        simp only [nums_us, hk0, hw, hK, hR]
        refine loopC (hC ⟨m, L, o, k + 1⟩ ⟨by simp only [hst]; exact hS.more, ho, by simp only; omega, by simp only; omega, hI⟩ (by simp only; omega)) ?_
        rfl
      · have hS0 := hS
        rw [hst] at hS
        obtain ⟨m', c', hR, hK, hout, hx, hS'⟩ := pop_run (x := (k : Int) + 1) hS hlt.2
        unfold c0 at hR hK
        rw [hK] at hR
        have hS2 := hS'.lists (by omega)
        have hmu' : IsU (us m') ∧ Sz (us m') := ⟨isU_us hS'.mR, by unfold Sz maxBytes; rw [us_len, hS'.l]; decide⟩
        have hE : eqL r r = true := eqL_self _
        have hI' : IsI (is r) := isI_is fun x hx => by have := hS'.le x hx; unfold I64; omega
        have hSz : Sz (is r) := by have := hS'.len; unfold Sz maxBytes; rw [is_len]; omega
        have ha0 : at0 (L.drop o) 0 = a := by rw [hst]; rfl
        have hdr : L.drop (o + 1) = r := by rw [← List.drop_drop, hst]; rfl
        have hdl : (L.drop o).length = r.length + 1 := by rw [hst]; rfl
        have hLo : L.length = o + r.length + 1 := by have := List.length_drop (l := L) (i := o); omega
        have hadd : Nat.add o (Int.toNat 1) = o + 1 := rfl
        conv => whnf
        repeat' (first
          | (refine brK_true (by assumption) ?_; conv => whnf)
          | (refine brK_false (by assumption) ?_; conv => whnf)
          | (refine brK_true ?_ ?_; (focus (simp only [List.length_nil, not_t, not_f, lt_t, lt_f, le_t, le_f, eq_t, eq_f, us_len, is_len, bs_len, lenL_00, nums_us, nums_is, hk0, hw, hK, hR, hout, hx, hS2, hll, hll2, hdl, ha0, hadd, hdr, subL_00, subL_is] <;> omega)); conv => whnf)
          | (refine brK_false ?_ ?_; (focus (simp only [List.length_nil, not_t, not_f, lt_t, lt_f, le_t, le_f, eq_t, eq_f, us_len, is_len, bs_len, lenL_00, nums_us, nums_is, hk0, hw, hK, hR, hout, hx, hS2, hll, hll2, hdl, ha0, hadd, hdr, subL_00, subL_is] <;> omega)); conv => whnf)
          | ((refine brK_of (fun h => ?_) (fun h => ?_)) <;> (have h2 := h; (try simp only [List.length_nil, not_t, not_f, lt_t, lt_f, le_t, le_f, eq_t, eq_f, us_len, is_len, bs_len, lenL_00, nums_us, nums_is, hk0, hw, hK, hR, hout, hx, hS2, hll, hll2, hdl, ha0, hadd, hdr, subL_00, subL_is] at h2); conv => whnf))
          | (refine reqK_of ?_ ?_; (focus (first | decide | omega | assumption | (simp only [List.length_nil, not_t, not_f, lt_t, lt_f, le_t, le_f, eq_t, eq_f, us_len, is_len, bs_len, lenL_00, nums_us, nums_is, hk0, hw, hK, hR, hout, hx, hS2, hll, hll2, hdl, ha0, hadd, hdr, subL_00, subL_is] <;> omega) | (simp [keyNew, sameKey, kEq] <;> omega))); conv => whnf)
          | (refine reqK_of ?_ ?_; rotate_left; (conv => whnf); rotate_left)
          | (refine nth_sub ?_ ?_ ?_; (focus (first | omega | (simp only [List.length_nil, not_t, not_f, lt_t, lt_f, le_t, le_f, eq_t, eq_f, us_len, is_len, bs_len, lenL_00, nums_us, nums_is, hk0, hw, hK, hR, hout, hx, hS2, hll, hll2, hdl, ha0, hadd, hdr, subL_00, subL_is] <;> omega))); (focus (first | omega | (simp only [List.length_nil, not_t, not_f, lt_t, lt_f, le_t, le_f, eq_t, eq_f, us_len, is_len, bs_len, lenL_00, nums_us, nums_is, hk0, hw, hK, hR, hout, hx, hS2, hll, hll2, hdl, ha0, hadd, hdr, subL_00, subL_is] <;> omega))); conv => whnf)
          | (refine nth_us ?_ ?_ ?_; (focus (first | omega | (simp only [List.length_nil, not_t, not_f, lt_t, lt_f, le_t, le_f, eq_t, eq_f, us_len, is_len, bs_len, lenL_00, nums_us, nums_is, hk0, hw, hK, hR, hout, hx, hS2, hll, hll2, hdl, ha0, hadd, hdr, subL_00, subL_is] <;> omega))); (focus (first | omega | (simp only [List.length_nil, not_t, not_f, lt_t, lt_f, le_t, le_f, eq_t, eq_f, us_len, is_len, bs_len, lenL_00, nums_us, nums_is, hk0, hw, hK, hR, hout, hx, hS2, hll, hll2, hdl, ha0, hadd, hdr, subL_00, subL_is] <;> omega))); conv => whnf)
          | (refine nth_is ?_ ?_ ?_; (focus (first | omega | (simp only [List.length_nil, not_t, not_f, lt_t, lt_f, le_t, le_f, eq_t, eq_f, us_len, is_len, bs_len, lenL_00, nums_us, nums_is, hk0, hw, hK, hR, hout, hx, hS2, hll, hll2, hdl, ha0, hadd, hdr, subL_00, subL_is] <;> omega))); (focus (first | omega | (simp only [List.length_nil, not_t, not_f, lt_t, lt_f, le_t, le_f, eq_t, eq_f, us_len, is_len, bs_len, lenL_00, nums_us, nums_is, hk0, hw, hK, hR, hout, hx, hS2, hll, hll2, hdl, ha0, hadd, hdr, subL_00, subL_is] <;> omega))); conv => whnf)
          | (refine nth_bs ?_ ?_ ?_; (focus (first | omega | (simp only [List.length_nil, not_t, not_f, lt_t, lt_f, le_t, le_f, eq_t, eq_f, us_len, is_len, bs_len, lenL_00, nums_us, nums_is, hk0, hw, hK, hR, hout, hx, hS2, hll, hll2, hdl, ha0, hadd, hdr, subL_00, subL_is] <;> omega))); (focus (first | omega | (simp only [List.length_nil, not_t, not_f, lt_t, lt_f, le_t, le_f, eq_t, eq_f, us_len, is_len, bs_len, lenL_00, nums_us, nums_is, hk0, hw, hK, hR, hout, hx, hS2, hll, hll2, hdl, ha0, hadd, hdr, subL_00, subL_is] <;> omega))); conv => whnf))
        all_goals first
          | (simp only [hk0, hw, nums_us]; exact ⟨⟨hmu, by unfold R64; simp⟩, by decide⟩)
          | (simp only [nums_us, hk0, hw, hK, hR]; exact hmu')
          | (simp only [nums_us, hk0, hw, hK, hR, hS2, subL_is, hadd, hdr]; exact ⟨⟨hI', hSz⟩, hI'⟩)
          | skip
        simp only [nums_us, hk0, hw, hK, hR, hadd]
        refine loopC (hC ⟨m', L, o + 1, k + 1⟩ ⟨by simp only [hdr]; exact hS', by simp only; omega, by simp only; omega, by simp only; omega, hI⟩ (by simp only; omega)) ?_
        rfl
  · conv => whnf
    repeat' (first
      | (refine brK_true (by assumption) ?_; conv => whnf)
      | (refine brK_false (by assumption) ?_; conv => whnf)
      | (refine brK_true ?_ ?_; (focus (simp only [List.length_nil, not_t, not_f, lt_t, lt_f, le_t, le_f, eq_t, eq_f, us_len, is_len, bs_len, lenL_00] <;> omega)); conv => whnf)
      | (refine brK_false ?_ ?_; (focus (simp only [List.length_nil, not_t, not_f, lt_t, lt_f, le_t, le_f, eq_t, eq_f, us_len, is_len, bs_len, lenL_00] <;> omega)); conv => whnf)
      | ((refine brK_of (fun h => ?_) (fun h => ?_)) <;> (have h2 := h; (try simp only [List.length_nil, not_t, not_f, lt_t, lt_f, le_t, le_f, eq_t, eq_f, us_len, is_len, bs_len, lenL_00] at h2); conv => whnf))
      | (refine reqK_of ?_ ?_; (focus (first | decide | omega | assumption | (simp only [List.length_nil, not_t, not_f, lt_t, lt_f, le_t, le_f, eq_t, eq_f, us_len, is_len, bs_len, lenL_00] <;> omega) | (simp [keyNew, sameKey, kEq] <;> omega))); conv => whnf)
      | (refine reqK_of ?_ ?_; rotate_left; (conv => whnf); rotate_left)
      | (refine nth_us ?_ ?_ ?_; (focus (first | omega | (simp only [List.length_nil, not_t, not_f, lt_t, lt_f, le_t, le_f, eq_t, eq_f, us_len, is_len, bs_len, lenL_00] <;> omega))); (focus (first | omega | (simp only [List.length_nil, not_t, not_f, lt_t, lt_f, le_t, le_f, eq_t, eq_f, us_len, is_len, bs_len, lenL_00] <;> omega))); conv => whnf)
      | (refine nth_is ?_ ?_ ?_; (focus (first | omega | (simp only [List.length_nil, not_t, not_f, lt_t, lt_f, le_t, le_f, eq_t, eq_f, us_len, is_len, bs_len, lenL_00] <;> omega))); (focus (first | omega | (simp only [List.length_nil, not_t, not_f, lt_t, lt_f, le_t, le_f, eq_t, eq_f, us_len, is_len, bs_len, lenL_00] <;> omega))); conv => whnf)
      | (refine nth_bs ?_ ?_ ?_; (focus (first | omega | (simp only [List.length_nil, not_t, not_f, lt_t, lt_f, le_t, le_f, eq_t, eq_f, us_len, is_len, bs_len, lenL_00] <;> omega))); (focus (first | omega | (simp only [List.length_nil, not_t, not_f, lt_t, lt_f, le_t, le_f, eq_t, eq_f, us_len, is_len, bs_len, lenL_00] <;> omega))); conv => whnf))
open Classical in
noncomputable def c5 : List T → Ans
  | [.list 1 xs] => .req (IsB xs ∧ Szb xs) (.bool true)
  | _ => .no
theorem got5 {vs : List T} {x : T} (h : Got (c5 vs) x) : FnOk Try.prog tgl 5 vs x := by
  unfold c5 at h
  split at h
  · obtain ⟨hq, e⟩ := got_req h; rw [e]; exact ok5 _ hq
  · exact (got_no h).elim
theorem nogl5 (vs : List T) (p : Prop) (sz : Nat) (xs : List T) (h : c5 vs = .gl p sz xs) : False := by
  unfold c5 at h
  split at h <;> cases h
end Go.Nx
