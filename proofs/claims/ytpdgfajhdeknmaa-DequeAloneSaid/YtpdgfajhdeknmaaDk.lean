/-
  ALONE A DEQUE IS A LIST: walked.
-/
import Derived.Test.YtpdgfajhdeknmaaDj
set_option linter.unusedVariables false
set_option linter.unusedSimpArgs false
set_option maxRecDepth 20000
set_option maxHeartbeats 16000000
namespace Go.Nx
open Go.RowKit Go.Proofs

structure Ad where
  m : List Int
  L : List Int
  o : Nat
  len : Option Nat
  st : List Int
  t : Int
  b : Int
  k : Nat
noncomputable def lEA : List (Nat × (List T → Ans)) := (10, c10) :: lE9
noncomputable def iEA : List (Nat × Pt) := iE9
noncomputable abbrev EA : Env := En tgl lEA iEA
theorem env_EA : EnvOk Try.prog EA := (env_fn env_E9 (fun _ _ => got10) (fun vs p sz xs h _ => (nogl10 vs p sz xs h).elim) pk10)
theorem nth_subE {X : List T} {st : List Int} (hs : X = is st) {i : Int} {K : T → Prop} (h0 : 0 ≤ i) (h1 : i < st.length) (h : K (.int .i64 (at0 st i))) : nthK X i K := by subst hs; exact nth_is h0 h1 h
theorem subL_none (X : List T) (o : Nat) : subL X o none = X.drop o := by cases o <;> simp [subL]
theorem subL_some (X : List T) (o n : Nat) : subL X o (some n) = (X.drop o).take n := by cases o <;> rfl
theorem lenL_some (X : List T) (o n : Nat) : lenL X o (some n) = (n : Int) := by cases o <;> rfl
theorem subL_shrink {X : List T} {o : Nat} {len : Option Nat} {st : List Int} {h : Nat} (hs : subL X o len = is st) (hl : lenL X o len = st.length) (hh : h ≤ st.length) : subL X o (some h) = is (st.take h) := by
  rw [subL_some]
  cases len with
  | none =>
    rw [subL_none] at hs
    rw [hs]; simp [is]
  | some n =>
    rw [subL_some] at hs
    rw [lenL_some] at hl
    have : (X.drop o).take h = ((X.drop o).take n).take h := by rw [List.take_take]; congr 1; omega
    rw [this, hs]; simp [is]
def Szb (xs : List T) : Prop := xs.length ≤ maxBytes
theorem ok4 (size : Int) (xs : List T) (hq : (IsB xs ∧ Szb xs) ∧ R8 size) : FnOk Try.prog tgl 4 [.int .u8 size, .list 1 xs] (.bool true) := by
  refine fn_ok (Γ := EA) env_EA Try.func4 low4 ?_
  obtain ⟨⟨⟨l, rfl, hl⟩, hs⟩, hb8⟩ := hq
  have hlen : l.length ≤ 140737488355328 := by unfold Szb maxBytes at hs; rw [bs_len] at hs; exact hs
  have hb' := hb8
  unfold R8 at hb'
  have hn0 : IntKind.i64.wrap (1 + IntKind.i64.wrap (size.tmod 5)) = 1 + size % 5 := by
    have : IntKind.i64.wrap (size.tmod 5) = size % 5 := by rw [Int.tmod_eq_emod_of_nonneg hb'.1]; exact wrap_i64 ⟨by omega, by omega⟩
    rw [this]; exact wrap_i64 ⟨by omega, by omega⟩
  have hn : 1 ≤ 1 + size % 5 ∧ 1 + size % 5 ≤ 5 := by omega
  conv => whnf
  repeat' (first
    | (refine brK_true (by assumption) ?_; conv => whnf)
    | (refine brK_false (by assumption) ?_; conv => whnf)
    | (refine brK_true ?_ ?_; (focus (simp only [List.length_nil, not_t, not_f, lt_t, lt_f, le_t, le_f, eq_t, eq_f, us_len, is_len, bs_len, lenL_00] <;> omega)); conv => whnf)
    | (refine brK_false ?_ ?_; (focus (simp only [List.length_nil, not_t, not_f, lt_t, lt_f, le_t, le_f, eq_t, eq_f, us_len, is_len, bs_len, lenL_00] <;> omega)); conv => whnf)
    | ((refine brK_of (fun h => ?_) (fun h => ?_)) <;> (have h2 := h; (try simp only [List.length_nil, not_t, not_f, lt_t, lt_f, le_t, le_f, eq_t, eq_f, us_len, is_len, bs_len, lenL_00] at h2); conv => whnf))
    | (refine reqK_of ?_ ?_; (focus (first | decide | omega | assumption | (simp only [List.length_nil, not_t, not_f, lt_t, lt_f, le_t, le_f, eq_t, eq_f, us_len, is_len, bs_len, lenL_00] <;> omega) | (simp [keyNew, sameKey, kEq] <;> omega))); conv => whnf)
    | (refine reqK_of ?_ ?_; rotate_left; (conv => whnf); rotate_left)
    | (refine nth_us ?_ ?_ ?_; (focus (first | omega | (simp only [List.length_nil, not_t, not_f, lt_t, lt_f, le_t, le_f, eq_t, eq_f, us_len, is_len, bs_len, lenL_00] <;> omega))); (focus (first | omega | (simp only [List.length_nil, not_t, not_f, lt_t, lt_f, le_t, le_f, eq_t, eq_f, us_len, is_len, bs_len, lenL_00] <;> omega))); conv => whnf)
    | (refine nth_is ?_ ?_ ?_; (focus (first | omega | (simp only [List.length_nil, not_t, not_f, lt_t, lt_f, le_t, le_f, eq_t, eq_f, us_len, is_len, bs_len, lenL_00] <;> omega))); (focus (first | omega | (simp only [List.length_nil, not_t, not_f, lt_t, lt_f, le_t, le_f, eq_t, eq_f, us_len, is_len, bs_len, lenL_00] <;> omega))); conv => whnf)
    | (refine nth_bs ?_ ?_ ?_; (focus (first | omega | (simp only [List.length_nil, not_t, not_f, lt_t, lt_f, le_t, le_f, eq_t, eq_f, us_len, is_len, bs_len, lenL_00] <;> omega))); (focus (first | omega | (simp only [List.length_nil, not_t, not_f, lt_t, lt_f, le_t, le_f, eq_t, eq_f, us_len, is_len, bs_len, lenL_00] <;> omega))); conv => whnf))
  rw [hn0]
  generalize 1 + size % 5 = n at hn
  refine loopFn [.adopt 8 1001 1] (fun s => nzIf 141 s [.kill 10, .kill 11, .kill 12, .kill 13, .kill 14, .kill 15, .kill 25, .kill 26, .kill 27, .kill 28, .kill 29, .kill 30, .kill 31, .kill 32, .kill 33, .kill 34, .kill 35, .kill 36, .kill 37, .kill 38, .kill 39, .kill 40, .kill 41, .kill 42, .kill 43, .kill 44, .kill 45, .kill 46, .kill 47, .kill 48, .kill 49, .kill 50, .kill 51, .kill 52, .kill 53, .kill 54, .kill 55, .kill 56, .kill 57, .kill 58, .kill 59, .kill 60, .kill 61, .kill 62, .kill 63, .kill 64, .kill 65, .kill 66, .kill 67, .kill 68, .kill 69, .kill 70, .kill 71, .kill 72, .kill 73, .kill 74, .kill 75, .kill 76, .kill 77, .kill 78, .kill 79, .kill 80, .kill 81, .kill 82, .kill 83, .kill 84, .kill 85, .kill 86, .kill 87, .kill 88, .kill 89, .kill 90, .kill 91, .kill 92, .kill 93, .kill 94, .kill 95, .kill 96, .kill 97, .kill 98, .kill 99, .kill 100, .kill 101, .kill 102, .kill 103, .kill 104, .kill 105, .kill 106, .kill 107, .kill 108, .kill 109, .kill 110, .kill 111, .kill 112, .kill 113, .kill 114, .kill 115, .kill 116, .kill 117, .kill 118, .kill 119, .kill 120, .kill 121, .kill 122, .kill 123, .kill 124, .kill 125, .kill 126, .kill 127, .kill 128, .kill 129, .kill 130, .kill 131, .kill 132, .kill 133, .kill 134, .kill 135, .kill 136, .kill 137, .kill 138, .kill 139, .kill 140, .kill 141, .kill 142, .kill 143, .keep [141], .set 141, .ren 141 1001] [.kill 10, .kill 11, .kill 12, .kill 13, .kill 14, .kill 15, .kill 25, .kill 26, .kill 27, .kill 28, .kill 29, .kill 30, .kill 31, .kill 32, .kill 33, .kill 34, .kill 35, .kill 36, .kill 37, .kill 38, .kill 39, .kill 40, .kill 41, .kill 42, .kill 43, .kill 44, .kill 45, .kill 46, .kill 47, .kill 48, .kill 49, .kill 50, .kill 51, .kill 52, .kill 53, .kill 54, .kill 55, .kill 56, .kill 57, .kill 58, .kill 59, .kill 60, .kill 61, .kill 62, .kill 63, .kill 64, .kill 65, .kill 66, .kill 67, .kill 68, .kill 69, .kill 70, .kill 71, .kill 72, .kill 73, .kill 74, .kill 75, .kill 76, .kill 77, .kill 78, .kill 79, .kill 80, .kill 81, .kill 82, .kill 83, .kill 84, .kill 85, .kill 86, .kill 87, .kill 88, .kill 89, .kill 90, .kill 91, .kill 92, .kill 93, .kill 94, .kill 95, .kill 96, .kill 97, .kill 98, .kill 99, .kill 100, .kill 101, .kill 102, .kill 103, .kill 104, .kill 105, .kill 106, .kill 107, .kill 108, .kill 109, .kill 110, .kill 111, .kill 112, .kill 113, .kill 114, .kill 115, .kill 116, .kill 117, .kill 118, .kill 119, .kill 120, .kill 121, .kill 122, .kill 123, .kill 124, .kill 125, .kill 126, .kill 127, .kill 128, .kill 129, .kill 130, .kill 131, .kill 132, .kill 133, .kill 134, .kill 135, .kill 136, .kill 137, .kill 138, .kill 139, .kill 140, .kill 141, .kill 142, .kill 143, .keep [1001]]) (fun a : Ad => [(7, .t (.list 1 (us a.m))), (8, .sl 1001 a.o a.len), (9, .t (.int .i64 (a.k : Int)))]) (fun a => [(1001, .lst 1 (is a.L) 1)])
    (fun a => DOk n a.m a.st a.t a.b a.k ∧ subL (is a.L) a.o a.len = is a.st ∧ lenL (is a.L) a.o a.len = a.st.length ∧ a.k ≤ l.length ∧ a.k ≤ 100) (fun a => l.length - a.k) ⟨cellsL n, [], 0, none, [], 1, 1, 0⟩ ⟨cells_ok hn, rfl, rfl, Nat.zero_le _, Nat.zero_le _⟩ ?_
  conv => whnf
  refine ⟨⟨rfl, rfl⟩, fun a ha C hC => ?_⟩
  obtain ⟨m, L, o, len, st, t, b, k⟩ := a
  obtain ⟨hS, hsub, hll, hk1, hk2⟩ := ha
  simp only at hS hsub hll hk1 hk2 hC
  have htb := hS.tb
  have hw : IntKind.i64.wrap ((k : Int) + 1) = (k : Int) + 1 := wrap_i64 ⟨by omega, by omega⟩
  have hmu : IsU (us m) ∧ Sz (us m) := ⟨isU_us hS.mR, by have := hS.l; unfold Sz maxBytes; rw [us_len]; omega⟩
  have hcap : I64 n := by unfold I64; omega
  have hq0 : (((IsU (us m) ∧ Sz (us m)) ∧ I64 n) ∧ R64 0 ∧ R64 0) ∧ (20 : Int) ≤ 1000 := ⟨⟨⟨hmu, hcap⟩, by unfold R64; omega, by unfold R64; omega⟩, by decide⟩
  have nthS : ∀ {i : Int} {K : T → Prop}, 0 ≤ i → i < st.length → K (.int .i64 (at0 st i)) → nthK (subL (is L) o len) i K := fun h0 h1 h => nth_subE hsub h0 h1 h
  by_cases hlt : k < l.length ∧ k < 100
  · have hb : R8 (at0 l k) := hl _ (at0_mem (by simp; omega))
    unfold R8 at hb
    have hkd : IntKind.i64.wrap (1 + IntKind.i64.wrap ((at0 l k).tmod 3)) = 1 + at0 l k % 3 := by
      have : IntKind.i64.wrap ((at0 l k).tmod 3) = at0 l k % 3 := by rw [Int.tmod_eq_emod_of_nonneg hb.1]; exact wrap_i64 ⟨by omega, by omega⟩
      rw [this]; exact wrap_i64 ⟨by omega, by omega⟩
    by_cases hK1 : at0 l k % 3 = 0
    · have hk0 : IntKind.i64.wrap (1 + IntKind.i64.wrap ((at0 l k).tmod 3)) = 1 := by rw [hkd, hK1]; rfl
      by_cases hfull : (st.length : Int) = n
      · obtain ⟨d, hR, hout, hdx, hdk⟩ := full_run (x := (k : Int) + 1) hS hfull
        unfold d0 at hR
        have hI := items_eq hS
        have hmu' := hmu
        conv => whnf
        repeat' (first
          | (refine brK_true (by assumption) ?_; conv => whnf)
          | (refine brK_false (by assumption) ?_; conv => whnf)
          | (refine brK_true ?_ ?_; (focus (simp only [List.length_nil, not_t, not_f, lt_t, lt_f, le_t, le_f, eq_t, eq_f, us_len, is_len, bs_len, lenL_00, nums_us, nums_is, hk0, hw, hR, hout, hdk, hll, hI, hdx] <;> omega)); conv => whnf)
          | (refine brK_false ?_ ?_; (focus (simp only [List.length_nil, not_t, not_f, lt_t, lt_f, le_t, le_f, eq_t, eq_f, us_len, is_len, bs_len, lenL_00, nums_us, nums_is, hk0, hw, hR, hout, hdk, hll, hI, hdx] <;> omega)); conv => whnf)
          | ((refine brK_of (fun h => ?_) (fun h => ?_)) <;> (have h2 := h; (try simp only [List.length_nil, not_t, not_f, lt_t, lt_f, le_t, le_f, eq_t, eq_f, us_len, is_len, bs_len, lenL_00, nums_us, nums_is, hk0, hw, hR, hout, hdk, hll, hI, hdx] at h2); conv => whnf))
          | (refine reqK_of ?_ ?_; (focus (first | decide | omega | assumption | (simp only [List.length_nil, not_t, not_f, lt_t, lt_f, le_t, le_f, eq_t, eq_f, us_len, is_len, bs_len, lenL_00, nums_us, nums_is, hk0, hw, hR, hout, hdk, hll, hI, hdx] <;> omega) | (simp [keyNew, sameKey, kEq] <;> omega))); conv => whnf)
          | (refine reqK_of ?_ ?_; rotate_left; (conv => whnf); rotate_left)
          | (refine nthS ?_ ?_ ?_; (focus (first | omega | (simp only [List.length_nil, not_t, not_f, lt_t, lt_f, le_t, le_f, eq_t, eq_f, us_len, is_len, bs_len, lenL_00, nums_us, nums_is, hk0, hw, hR, hout, hdk, hll, hI, hdx] <;> omega))); (focus (first | omega | (simp only [List.length_nil, not_t, not_f, lt_t, lt_f, le_t, le_f, eq_t, eq_f, us_len, is_len, bs_len, lenL_00, nums_us, nums_is, hk0, hw, hR, hout, hdk, hll, hI, hdx] <;> omega))); conv => whnf)
          | (refine nth_us ?_ ?_ ?_; (focus (first | omega | (simp only [List.length_nil, not_t, not_f, lt_t, lt_f, le_t, le_f, eq_t, eq_f, us_len, is_len, bs_len, lenL_00, nums_us, nums_is, hk0, hw, hR, hout, hdk, hll, hI, hdx] <;> omega))); (focus (first | omega | (simp only [List.length_nil, not_t, not_f, lt_t, lt_f, le_t, le_f, eq_t, eq_f, us_len, is_len, bs_len, lenL_00, nums_us, nums_is, hk0, hw, hR, hout, hdk, hll, hI, hdx] <;> omega))); conv => whnf)
          | (refine nth_is ?_ ?_ ?_; (focus (first | omega | (simp only [List.length_nil, not_t, not_f, lt_t, lt_f, le_t, le_f, eq_t, eq_f, us_len, is_len, bs_len, lenL_00, nums_us, nums_is, hk0, hw, hR, hout, hdk, hll, hI, hdx] <;> omega))); (focus (first | omega | (simp only [List.length_nil, not_t, not_f, lt_t, lt_f, le_t, le_f, eq_t, eq_f, us_len, is_len, bs_len, lenL_00, nums_us, nums_is, hk0, hw, hR, hout, hdk, hll, hI, hdx] <;> omega))); conv => whnf)
          | (refine nth_bs ?_ ?_ ?_; (focus (first | omega | (simp only [List.length_nil, not_t, not_f, lt_t, lt_f, le_t, le_f, eq_t, eq_f, us_len, is_len, bs_len, lenL_00, nums_us, nums_is, hk0, hw, hR, hout, hdk, hll, hI, hdx] <;> omega))); (focus (first | omega | (simp only [List.length_nil, not_t, not_f, lt_t, lt_f, le_t, le_f, eq_t, eq_f, us_len, is_len, bs_len, lenL_00, nums_us, nums_is, hk0, hw, hR, hout, hdk, hll, hI, hdx] <;> omega))); conv => whnf))
        all_goals first
          | exact hq0
          | (simp only [nums_us, hk0, hw, hR]; exact ⟨⟨hmu', hcap⟩, .inl (by decide)⟩)
          | (simp only [nums_us, hk0, hw, hR]; exact ⟨⟨hmu', hcap⟩, .inr (by rw [hout]; decide)⟩)
          | skip
        refine loopUp [] [.kill 129, .kill 130, .kill 131, .kill 132, .kill 133, .kill 134, .kill 135, .kill 136, .kill 137, .kill 138, .kill 139, .kill 140, .kill 141, .kill 142, .kill 143] (fun j : Nat => [(15, .t (.int .i64 (j : Int)))]) (fun _ => []) (fun j => j ≤ (st).length) (fun j => (st).length - j) 0 (Nat.zero_le _) ?_
        conv => whnf
        refine ⟨⟨rfl, rfl⟩, fun j hj D hD => ?_⟩
        have hwj : IntKind.i64.wrap ((j : Int) + 1) = (j : Int) + 1 := wrap_i64 ⟨by omega, by omega⟩
        conv => whnf
        repeat' (first
          | (refine brK_true (by assumption) ?_; conv => whnf)
          | (refine brK_false (by assumption) ?_; conv => whnf)
          | (refine brK_true ?_ ?_; (focus (simp only [List.length_nil, not_t, not_f, lt_t, lt_f, le_t, le_f, eq_t, eq_f, us_len, is_len, bs_len, lenL_00, nums_us, nums_is, hk0, hw, hR, hI, hdx] <;> omega)); conv => whnf)
          | (refine brK_false ?_ ?_; (focus (simp only [List.length_nil, not_t, not_f, lt_t, lt_f, le_t, le_f, eq_t, eq_f, us_len, is_len, bs_len, lenL_00, nums_us, nums_is, hk0, hw, hR, hI, hdx] <;> omega)); conv => whnf)
          | ((refine brK_of (fun h => ?_) (fun h => ?_)) <;> (have h2 := h; (try simp only [List.length_nil, not_t, not_f, lt_t, lt_f, le_t, le_f, eq_t, eq_f, us_len, is_len, bs_len, lenL_00, nums_us, nums_is, hk0, hw, hR, hI, hdx] at h2); conv => whnf))
          | (refine reqK_of ?_ ?_; (focus (first | decide | omega | assumption | (simp only [List.length_nil, not_t, not_f, lt_t, lt_f, le_t, le_f, eq_t, eq_f, us_len, is_len, bs_len, lenL_00, nums_us, nums_is, hk0, hw, hR, hI, hdx] <;> omega) | (simp [keyNew, sameKey, kEq] <;> omega))); conv => whnf)
          | (refine reqK_of ?_ ?_; rotate_left; (conv => whnf); rotate_left)
          | (refine nthS ?_ ?_ ?_; (focus (first | omega | (simp only [List.length_nil, not_t, not_f, lt_t, lt_f, le_t, le_f, eq_t, eq_f, us_len, is_len, bs_len, lenL_00, nums_us, nums_is, hk0, hw, hR, hI, hdx] <;> omega))); (focus (first | omega | (simp only [List.length_nil, not_t, not_f, lt_t, lt_f, le_t, le_f, eq_t, eq_f, us_len, is_len, bs_len, lenL_00, nums_us, nums_is, hk0, hw, hR, hI, hdx] <;> omega))); conv => whnf)
          | (refine nth_us ?_ ?_ ?_; (focus (first | omega | (simp only [List.length_nil, not_t, not_f, lt_t, lt_f, le_t, le_f, eq_t, eq_f, us_len, is_len, bs_len, lenL_00, nums_us, nums_is, hk0, hw, hR, hI, hdx] <;> omega))); (focus (first | omega | (simp only [List.length_nil, not_t, not_f, lt_t, lt_f, le_t, le_f, eq_t, eq_f, us_len, is_len, bs_len, lenL_00, nums_us, nums_is, hk0, hw, hR, hI, hdx] <;> omega))); conv => whnf)
          | (refine nth_is ?_ ?_ ?_; (focus (first | omega | (simp only [List.length_nil, not_t, not_f, lt_t, lt_f, le_t, le_f, eq_t, eq_f, us_len, is_len, bs_len, lenL_00, nums_us, nums_is, hk0, hw, hR, hI, hdx] <;> omega))); (focus (first | omega | (simp only [List.length_nil, not_t, not_f, lt_t, lt_f, le_t, le_f, eq_t, eq_f, us_len, is_len, bs_len, lenL_00, nums_us, nums_is, hk0, hw, hR, hI, hdx] <;> omega))); conv => whnf)
          | (refine nth_bs ?_ ?_ ?_; (focus (first | omega | (simp only [List.length_nil, not_t, not_f, lt_t, lt_f, le_t, le_f, eq_t, eq_f, us_len, is_len, bs_len, lenL_00, nums_us, nums_is, hk0, hw, hR, hI, hdx] <;> omega))); (focus (first | omega | (simp only [List.length_nil, not_t, not_f, lt_t, lt_f, le_t, le_f, eq_t, eq_f, us_len, is_len, bs_len, lenL_00, nums_us, nums_is, hk0, hw, hR, hI, hdx] <;> omega))); conv => whnf))
        · refine loopC (hD (j + 1) (by omega) (by omega)) ?_
          rw [hwj, Int.natCast_succ]
          rfl
        · refine loopC (hC ⟨m, L, o, len, st, t, b, k + 1⟩ ⟨hS.more hlt.2, hsub, hll, by simp only; omega, by simp only; omega⟩ (by simp only; omega)) ?_
          simp only [nums_us, hk0, hw, hR]
          rfl
      · obtain ⟨m', d, hR, hout, hdx, hdk, hS'⟩ := push_run hS (by omega) hlt.2
        unfold d0 at hR
        have hI := items_eq hS'
        have hmu' : IsU (us m') ∧ Sz (us m') := ⟨isU_us hS'.mR, by have := hS'.l; unfold Sz maxBytes; rw [us_len]; omega⟩
        have hpl : (st ++ [(k : Int) + 1]).length = st.length + 1 := by simp
        have nthP : ∀ {i : Int} {K : T → Prop}, 0 ≤ i → i < (st ++ [(k : Int) + 1]).length → K (.int .i64 (at0 (st ++ [(k : Int) + 1]) i)) → nthK (subL (is L) o len ++ [T.int .i64 (IntKind.i64.wrap ((k : Int) + 1))]) i K := fun h0 h1 h => nth_subE (by rw [hsub, hw, is_snoc]) h0 h1 h
        conv => whnf
        repeat' (first
          | (refine brK_true (by assumption) ?_; conv => whnf)
          | (refine brK_false (by assumption) ?_; conv => whnf)
          | (refine brK_true ?_ ?_; (focus (simp only [List.length_nil, not_t, not_f, lt_t, lt_f, le_t, le_f, eq_t, eq_f, us_len, is_len, bs_len, lenL_00, nums_us, nums_is, hk0, hw, hR, hout, hdk, hll, hI, hdx, hsub, is_snoc, maxBytes, natadd0, Int.toNat_natCast, List.length_append, List.length_cons, List.length_singleton] <;> omega)); conv => whnf)
          | (refine brK_false ?_ ?_; (focus (simp only [List.length_nil, not_t, not_f, lt_t, lt_f, le_t, le_f, eq_t, eq_f, us_len, is_len, bs_len, lenL_00, nums_us, nums_is, hk0, hw, hR, hout, hdk, hll, hI, hdx, hsub, is_snoc, maxBytes, natadd0, Int.toNat_natCast, List.length_append, List.length_cons, List.length_singleton] <;> omega)); conv => whnf)
          | ((refine brK_of (fun h => ?_) (fun h => ?_)) <;> (have h2 := h; (try simp only [List.length_nil, not_t, not_f, lt_t, lt_f, le_t, le_f, eq_t, eq_f, us_len, is_len, bs_len, lenL_00, nums_us, nums_is, hk0, hw, hR, hout, hdk, hll, hI, hdx, hsub, is_snoc, maxBytes, natadd0, Int.toNat_natCast, List.length_append, List.length_cons, List.length_singleton] at h2); conv => whnf))
          | (refine reqK_of ?_ ?_; (focus (first | decide | omega | assumption | (simp only [List.length_nil, not_t, not_f, lt_t, lt_f, le_t, le_f, eq_t, eq_f, us_len, is_len, bs_len, lenL_00, nums_us, nums_is, hk0, hw, hR, hout, hdk, hll, hI, hdx, hsub, is_snoc, maxBytes, natadd0, Int.toNat_natCast, List.length_append, List.length_cons, List.length_singleton] <;> omega) | (simp [keyNew, sameKey, kEq] <;> omega))); conv => whnf)
          | (refine reqK_of ?_ ?_; rotate_left; (conv => whnf); rotate_left)
          | (refine nthP ?_ ?_ ?_; (focus (first | omega | (simp only [List.length_nil, not_t, not_f, lt_t, lt_f, le_t, le_f, eq_t, eq_f, us_len, is_len, bs_len, lenL_00, nums_us, nums_is, hk0, hw, hR, hout, hdk, hll, hI, hdx, hsub, is_snoc, maxBytes, natadd0, Int.toNat_natCast, List.length_append, List.length_cons, List.length_singleton] <;> omega))); (focus (first | omega | (simp only [List.length_nil, not_t, not_f, lt_t, lt_f, le_t, le_f, eq_t, eq_f, us_len, is_len, bs_len, lenL_00, nums_us, nums_is, hk0, hw, hR, hout, hdk, hll, hI, hdx, hsub, is_snoc, maxBytes, natadd0, Int.toNat_natCast, List.length_append, List.length_cons, List.length_singleton] <;> omega))); conv => whnf)
          | (refine nth_us ?_ ?_ ?_; (focus (first | omega | (simp only [List.length_nil, not_t, not_f, lt_t, lt_f, le_t, le_f, eq_t, eq_f, us_len, is_len, bs_len, lenL_00, nums_us, nums_is, hk0, hw, hR, hout, hdk, hll, hI, hdx, hsub, is_snoc, maxBytes, natadd0, Int.toNat_natCast, List.length_append, List.length_cons, List.length_singleton] <;> omega))); (focus (first | omega | (simp only [List.length_nil, not_t, not_f, lt_t, lt_f, le_t, le_f, eq_t, eq_f, us_len, is_len, bs_len, lenL_00, nums_us, nums_is, hk0, hw, hR, hout, hdk, hll, hI, hdx, hsub, is_snoc, maxBytes, natadd0, Int.toNat_natCast, List.length_append, List.length_cons, List.length_singleton] <;> omega))); conv => whnf)
          | (refine nth_is ?_ ?_ ?_; (focus (first | omega | (simp only [List.length_nil, not_t, not_f, lt_t, lt_f, le_t, le_f, eq_t, eq_f, us_len, is_len, bs_len, lenL_00, nums_us, nums_is, hk0, hw, hR, hout, hdk, hll, hI, hdx, hsub, is_snoc, maxBytes, natadd0, Int.toNat_natCast, List.length_append, List.length_cons, List.length_singleton] <;> omega))); (focus (first | omega | (simp only [List.length_nil, not_t, not_f, lt_t, lt_f, le_t, le_f, eq_t, eq_f, us_len, is_len, bs_len, lenL_00, nums_us, nums_is, hk0, hw, hR, hout, hdk, hll, hI, hdx, hsub, is_snoc, maxBytes, natadd0, Int.toNat_natCast, List.length_append, List.length_cons, List.length_singleton] <;> omega))); conv => whnf)
          | (refine nth_bs ?_ ?_ ?_; (focus (first | omega | (simp only [List.length_nil, not_t, not_f, lt_t, lt_f, le_t, le_f, eq_t, eq_f, us_len, is_len, bs_len, lenL_00, nums_us, nums_is, hk0, hw, hR, hout, hdk, hll, hI, hdx, hsub, is_snoc, maxBytes, natadd0, Int.toNat_natCast, List.length_append, List.length_cons, List.length_singleton] <;> omega))); (focus (first | omega | (simp only [List.length_nil, not_t, not_f, lt_t, lt_f, le_t, le_f, eq_t, eq_f, us_len, is_len, bs_len, lenL_00, nums_us, nums_is, hk0, hw, hR, hout, hdk, hll, hI, hdx, hsub, is_snoc, maxBytes, natadd0, Int.toNat_natCast, List.length_append, List.length_cons, List.length_singleton] <;> omega))); conv => whnf))
        all_goals first
          | exact hq0
          | (simp only [nums_us, hk0, hw, hR]; exact ⟨⟨hmu', hcap⟩, .inl (by decide)⟩)
          | (simp only [nums_us, hk0, hw, hR]; exact ⟨⟨hmu', hcap⟩, .inr (by rw [hout]; decide)⟩)
          | skip
        refine loopUp [] [.kill 129, .kill 130, .kill 131, .kill 132, .kill 133, .kill 134, .kill 135, .kill 136, .kill 137, .kill 138, .kill 139, .kill 140, .kill 141, .kill 142, .kill 143] (fun j : Nat => [(15, .t (.int .i64 (j : Int)))]) (fun _ => []) (fun j => j ≤ (st ++ [(k : Int) + 1]).length) (fun j => (st ++ [(k : Int) + 1]).length - j) 0 (Nat.zero_le _) ?_
        conv => whnf
        refine ⟨⟨rfl, rfl⟩, fun j hj D hD => ?_⟩
        have hwj : IntKind.i64.wrap ((j : Int) + 1) = (j : Int) + 1 := wrap_i64 ⟨by omega, by omega⟩
        conv => whnf
        repeat' (first
          | (refine brK_true (by assumption) ?_; conv => whnf)
          | (refine brK_false (by assumption) ?_; conv => whnf)
          | (refine brK_true ?_ ?_; (focus (simp only [List.length_nil, not_t, not_f, lt_t, lt_f, le_t, le_f, eq_t, eq_f, us_len, is_len, bs_len, lenL_00, nums_us, nums_is, hk0, hw, hR, hI, hdx, hsub, is_snoc, maxBytes, natadd0, Int.toNat_natCast, List.length_append, List.length_cons, List.length_singleton] <;> omega)); conv => whnf)
          | (refine brK_false ?_ ?_; (focus (simp only [List.length_nil, not_t, not_f, lt_t, lt_f, le_t, le_f, eq_t, eq_f, us_len, is_len, bs_len, lenL_00, nums_us, nums_is, hk0, hw, hR, hI, hdx, hsub, is_snoc, maxBytes, natadd0, Int.toNat_natCast, List.length_append, List.length_cons, List.length_singleton] <;> omega)); conv => whnf)
          | ((refine brK_of (fun h => ?_) (fun h => ?_)) <;> (have h2 := h; (try simp only [List.length_nil, not_t, not_f, lt_t, lt_f, le_t, le_f, eq_t, eq_f, us_len, is_len, bs_len, lenL_00, nums_us, nums_is, hk0, hw, hR, hI, hdx, hsub, is_snoc, maxBytes, natadd0, Int.toNat_natCast, List.length_append, List.length_cons, List.length_singleton] at h2); conv => whnf))
          | (refine reqK_of ?_ ?_; (focus (first | decide | omega | assumption | (simp only [List.length_nil, not_t, not_f, lt_t, lt_f, le_t, le_f, eq_t, eq_f, us_len, is_len, bs_len, lenL_00, nums_us, nums_is, hk0, hw, hR, hI, hdx, hsub, is_snoc, maxBytes, natadd0, Int.toNat_natCast, List.length_append, List.length_cons, List.length_singleton] <;> omega) | (simp [keyNew, sameKey, kEq] <;> omega))); conv => whnf)
          | (refine reqK_of ?_ ?_; rotate_left; (conv => whnf); rotate_left)
          | (refine nthP ?_ ?_ ?_; (focus (first | omega | (simp only [List.length_nil, not_t, not_f, lt_t, lt_f, le_t, le_f, eq_t, eq_f, us_len, is_len, bs_len, lenL_00, nums_us, nums_is, hk0, hw, hR, hI, hdx, hsub, is_snoc, maxBytes, natadd0, Int.toNat_natCast, List.length_append, List.length_cons, List.length_singleton] <;> omega))); (focus (first | omega | (simp only [List.length_nil, not_t, not_f, lt_t, lt_f, le_t, le_f, eq_t, eq_f, us_len, is_len, bs_len, lenL_00, nums_us, nums_is, hk0, hw, hR, hI, hdx, hsub, is_snoc, maxBytes, natadd0, Int.toNat_natCast, List.length_append, List.length_cons, List.length_singleton] <;> omega))); conv => whnf)
          | (refine nth_us ?_ ?_ ?_; (focus (first | omega | (simp only [List.length_nil, not_t, not_f, lt_t, lt_f, le_t, le_f, eq_t, eq_f, us_len, is_len, bs_len, lenL_00, nums_us, nums_is, hk0, hw, hR, hI, hdx, hsub, is_snoc, maxBytes, natadd0, Int.toNat_natCast, List.length_append, List.length_cons, List.length_singleton] <;> omega))); (focus (first | omega | (simp only [List.length_nil, not_t, not_f, lt_t, lt_f, le_t, le_f, eq_t, eq_f, us_len, is_len, bs_len, lenL_00, nums_us, nums_is, hk0, hw, hR, hI, hdx, hsub, is_snoc, maxBytes, natadd0, Int.toNat_natCast, List.length_append, List.length_cons, List.length_singleton] <;> omega))); conv => whnf)
          | (refine nth_is ?_ ?_ ?_; (focus (first | omega | (simp only [List.length_nil, not_t, not_f, lt_t, lt_f, le_t, le_f, eq_t, eq_f, us_len, is_len, bs_len, lenL_00, nums_us, nums_is, hk0, hw, hR, hI, hdx, hsub, is_snoc, maxBytes, natadd0, Int.toNat_natCast, List.length_append, List.length_cons, List.length_singleton] <;> omega))); (focus (first | omega | (simp only [List.length_nil, not_t, not_f, lt_t, lt_f, le_t, le_f, eq_t, eq_f, us_len, is_len, bs_len, lenL_00, nums_us, nums_is, hk0, hw, hR, hI, hdx, hsub, is_snoc, maxBytes, natadd0, Int.toNat_natCast, List.length_append, List.length_cons, List.length_singleton] <;> omega))); conv => whnf)
          | (refine nth_bs ?_ ?_ ?_; (focus (first | omega | (simp only [List.length_nil, not_t, not_f, lt_t, lt_f, le_t, le_f, eq_t, eq_f, us_len, is_len, bs_len, lenL_00, nums_us, nums_is, hk0, hw, hR, hI, hdx, hsub, is_snoc, maxBytes, natadd0, Int.toNat_natCast, List.length_append, List.length_cons, List.length_singleton] <;> omega))); (focus (first | omega | (simp only [List.length_nil, not_t, not_f, lt_t, lt_f, le_t, le_f, eq_t, eq_f, us_len, is_len, bs_len, lenL_00, nums_us, nums_is, hk0, hw, hR, hI, hdx, hsub, is_snoc, maxBytes, natadd0, Int.toNat_natCast, List.length_append, List.length_cons, List.length_singleton] <;> omega))); conv => whnf))
        · refine loopC (hD (j + 1) (by omega) (by omega)) ?_
          rw [hwj, Int.natCast_succ]
          rfl
        · refine loopC (hC ⟨m', st ++ [(k : Int) + 1], 0, none, st ++ [(k : Int) + 1], t, b + 1, k + 1⟩ ⟨hS', rfl, (by simp), by simp only; omega, by simp only; omega⟩ (by simp only; omega)) ?_
          simp only [nums_us, hk0, hw, hR, hsub, is_snoc]
          rfl
    · by_cases hK2 : at0 l k % 3 = 1
      · have hk0 : IntKind.i64.wrap (1 + IntKind.i64.wrap ((at0 l k).tmod 3)) = 2 := by rw [hkd, hK2]; rfl
        rcases List.eq_nil_or_concat st with hst | ⟨st0, a, hst⟩
        · subst hst
          obtain ⟨m', d, hR, hout, hdx, hdk, hS'⟩ := pop_empty (x := (k : Int) + 1) hS
          unfold d0 at hR
          have hI := items_eq hS'
          have hst0 : ([] : List Int).length = 0 := rfl
          have hmu' : IsU (us m') ∧ Sz (us m') := ⟨isU_us hS'.mR, by have := hS'.l; unfold Sz maxBytes; rw [us_len]; omega⟩
          conv => whnf
          repeat' (first
            | (refine brK_true (by assumption) ?_; conv => whnf)
            | (refine brK_false (by assumption) ?_; conv => whnf)
            | (refine brK_true ?_ ?_; (focus (simp only [List.length_nil, not_t, not_f, lt_t, lt_f, le_t, le_f, eq_t, eq_f, us_len, is_len, bs_len, lenL_00, nums_us, nums_is, hk0, hw, hR, hout, hdk, hll, hI, hdx, hst0] <;> omega)); conv => whnf)
            | (refine brK_false ?_ ?_; (focus (simp only [List.length_nil, not_t, not_f, lt_t, lt_f, le_t, le_f, eq_t, eq_f, us_len, is_len, bs_len, lenL_00, nums_us, nums_is, hk0, hw, hR, hout, hdk, hll, hI, hdx, hst0] <;> omega)); conv => whnf)
            | ((refine brK_of (fun h => ?_) (fun h => ?_)) <;> (have h2 := h; (try simp only [List.length_nil, not_t, not_f, lt_t, lt_f, le_t, le_f, eq_t, eq_f, us_len, is_len, bs_len, lenL_00, nums_us, nums_is, hk0, hw, hR, hout, hdk, hll, hI, hdx, hst0] at h2); conv => whnf))
            | (refine reqK_of ?_ ?_; (focus (first | decide | omega | assumption | (simp only [List.length_nil, not_t, not_f, lt_t, lt_f, le_t, le_f, eq_t, eq_f, us_len, is_len, bs_len, lenL_00, nums_us, nums_is, hk0, hw, hR, hout, hdk, hll, hI, hdx, hst0] <;> omega) | (simp [keyNew, sameKey, kEq] <;> omega))); conv => whnf)
            | (refine reqK_of ?_ ?_; rotate_left; (conv => whnf); rotate_left)
            | (refine nthS ?_ ?_ ?_; (focus (first | omega | (simp only [List.length_nil, not_t, not_f, lt_t, lt_f, le_t, le_f, eq_t, eq_f, us_len, is_len, bs_len, lenL_00, nums_us, nums_is, hk0, hw, hR, hout, hdk, hll, hI, hdx, hst0] <;> omega))); (focus (first | omega | (simp only [List.length_nil, not_t, not_f, lt_t, lt_f, le_t, le_f, eq_t, eq_f, us_len, is_len, bs_len, lenL_00, nums_us, nums_is, hk0, hw, hR, hout, hdk, hll, hI, hdx, hst0] <;> omega))); conv => whnf)
            | (refine nth_us ?_ ?_ ?_; (focus (first | omega | (simp only [List.length_nil, not_t, not_f, lt_t, lt_f, le_t, le_f, eq_t, eq_f, us_len, is_len, bs_len, lenL_00, nums_us, nums_is, hk0, hw, hR, hout, hdk, hll, hI, hdx, hst0] <;> omega))); (focus (first | omega | (simp only [List.length_nil, not_t, not_f, lt_t, lt_f, le_t, le_f, eq_t, eq_f, us_len, is_len, bs_len, lenL_00, nums_us, nums_is, hk0, hw, hR, hout, hdk, hll, hI, hdx, hst0] <;> omega))); conv => whnf)
            | (refine nth_is ?_ ?_ ?_; (focus (first | omega | (simp only [List.length_nil, not_t, not_f, lt_t, lt_f, le_t, le_f, eq_t, eq_f, us_len, is_len, bs_len, lenL_00, nums_us, nums_is, hk0, hw, hR, hout, hdk, hll, hI, hdx, hst0] <;> omega))); (focus (first | omega | (simp only [List.length_nil, not_t, not_f, lt_t, lt_f, le_t, le_f, eq_t, eq_f, us_len, is_len, bs_len, lenL_00, nums_us, nums_is, hk0, hw, hR, hout, hdk, hll, hI, hdx, hst0] <;> omega))); conv => whnf)
            | (refine nth_bs ?_ ?_ ?_; (focus (first | omega | (simp only [List.length_nil, not_t, not_f, lt_t, lt_f, le_t, le_f, eq_t, eq_f, us_len, is_len, bs_len, lenL_00, nums_us, nums_is, hk0, hw, hR, hout, hdk, hll, hI, hdx, hst0] <;> omega))); (focus (first | omega | (simp only [List.length_nil, not_t, not_f, lt_t, lt_f, le_t, le_f, eq_t, eq_f, us_len, is_len, bs_len, lenL_00, nums_us, nums_is, hk0, hw, hR, hout, hdk, hll, hI, hdx, hst0] <;> omega))); conv => whnf))
          all_goals first
            | exact hq0
            | (simp only [nums_us, hk0, hw, hR]; exact ⟨⟨hmu', hcap⟩, .inl (by decide)⟩)
            | (simp only [nums_us, hk0, hw, hR]; exact ⟨⟨hmu', hcap⟩, .inr (by rw [hout]; decide)⟩)
            | skip
          all_goals
            refine loopUp [] [.kill 129, .kill 130, .kill 131, .kill 132, .kill 133, .kill 134, .kill 135, .kill 136, .kill 137, .kill 138, .kill 139, .kill 140, .kill 141, .kill 142, .kill 143] (fun j : Nat => [(15, .t (.int .i64 (j : Int)))]) (fun _ => []) (fun j => j ≤ (([] : List Int)).length) (fun j => (([] : List Int)).length - j) 0 (Nat.zero_le _) ?_
            conv => whnf
            refine ⟨⟨rfl, rfl⟩, fun j hj D hD => ?_⟩
            have hwj : IntKind.i64.wrap ((j : Int) + 1) = (j : Int) + 1 := wrap_i64 ⟨by omega, by omega⟩
            conv => whnf
            repeat' (first
              | (refine brK_true (by assumption) ?_; conv => whnf)
              | (refine brK_false (by assumption) ?_; conv => whnf)
              | (refine brK_true ?_ ?_; (focus (simp only [List.length_nil, not_t, not_f, lt_t, lt_f, le_t, le_f, eq_t, eq_f, us_len, is_len, bs_len, lenL_00, nums_us, nums_is, hk0, hw, hR, hI, hdx, hst0] <;> omega)); conv => whnf)
              | (refine brK_false ?_ ?_; (focus (simp only [List.length_nil, not_t, not_f, lt_t, lt_f, le_t, le_f, eq_t, eq_f, us_len, is_len, bs_len, lenL_00, nums_us, nums_is, hk0, hw, hR, hI, hdx, hst0] <;> omega)); conv => whnf)
              | ((refine brK_of (fun h => ?_) (fun h => ?_)) <;> (have h2 := h; (try simp only [List.length_nil, not_t, not_f, lt_t, lt_f, le_t, le_f, eq_t, eq_f, us_len, is_len, bs_len, lenL_00, nums_us, nums_is, hk0, hw, hR, hI, hdx, hst0] at h2); conv => whnf))
              | (refine reqK_of ?_ ?_; (focus (first | decide | omega | assumption | (simp only [List.length_nil, not_t, not_f, lt_t, lt_f, le_t, le_f, eq_t, eq_f, us_len, is_len, bs_len, lenL_00, nums_us, nums_is, hk0, hw, hR, hI, hdx, hst0] <;> omega) | (simp [keyNew, sameKey, kEq] <;> omega))); conv => whnf)
              | (refine reqK_of ?_ ?_; rotate_left; (conv => whnf); rotate_left)
              | (refine nthS ?_ ?_ ?_; (focus (first | omega | (simp only [List.length_nil, not_t, not_f, lt_t, lt_f, le_t, le_f, eq_t, eq_f, us_len, is_len, bs_len, lenL_00, nums_us, nums_is, hk0, hw, hR, hI, hdx, hst0] <;> omega))); (focus (first | omega | (simp only [List.length_nil, not_t, not_f, lt_t, lt_f, le_t, le_f, eq_t, eq_f, us_len, is_len, bs_len, lenL_00, nums_us, nums_is, hk0, hw, hR, hI, hdx, hst0] <;> omega))); conv => whnf)
              | (refine nth_us ?_ ?_ ?_; (focus (first | omega | (simp only [List.length_nil, not_t, not_f, lt_t, lt_f, le_t, le_f, eq_t, eq_f, us_len, is_len, bs_len, lenL_00, nums_us, nums_is, hk0, hw, hR, hI, hdx, hst0] <;> omega))); (focus (first | omega | (simp only [List.length_nil, not_t, not_f, lt_t, lt_f, le_t, le_f, eq_t, eq_f, us_len, is_len, bs_len, lenL_00, nums_us, nums_is, hk0, hw, hR, hI, hdx, hst0] <;> omega))); conv => whnf)
              | (refine nth_is ?_ ?_ ?_; (focus (first | omega | (simp only [List.length_nil, not_t, not_f, lt_t, lt_f, le_t, le_f, eq_t, eq_f, us_len, is_len, bs_len, lenL_00, nums_us, nums_is, hk0, hw, hR, hI, hdx, hst0] <;> omega))); (focus (first | omega | (simp only [List.length_nil, not_t, not_f, lt_t, lt_f, le_t, le_f, eq_t, eq_f, us_len, is_len, bs_len, lenL_00, nums_us, nums_is, hk0, hw, hR, hI, hdx, hst0] <;> omega))); conv => whnf)
              | (refine nth_bs ?_ ?_ ?_; (focus (first | omega | (simp only [List.length_nil, not_t, not_f, lt_t, lt_f, le_t, le_f, eq_t, eq_f, us_len, is_len, bs_len, lenL_00, nums_us, nums_is, hk0, hw, hR, hI, hdx, hst0] <;> omega))); (focus (first | omega | (simp only [List.length_nil, not_t, not_f, lt_t, lt_f, le_t, le_f, eq_t, eq_f, us_len, is_len, bs_len, lenL_00, nums_us, nums_is, hk0, hw, hR, hI, hdx, hst0] <;> omega))); conv => whnf))
            refine loopC (hC ⟨m', L, o, len, [], t, b, k + 1⟩ ⟨hS'.more hlt.2, hsub, hll, by simp only; omega, by simp only; omega⟩ (by simp only; omega)) ?_
            simp only [nums_us, hk0, hw, hR]
            rfl
        · rw [List.concat_eq_append] at hst
          obtain ⟨m', d, t', b', hR, hout, hdx, hdk, hS'⟩ := pop_run (x := (k : Int) + 1) (hst ▸ hS)
          unfold d0 at hR
          have hI := items_eq hS'
          have hmu' : IsU (us m') ∧ Sz (us m') := ⟨isU_us hS'.mR, by have := hS'.l; unfold Sz maxBytes; rw [us_len]; omega⟩
          have hsl : st.length = st0.length + 1 := by rw [hst]; simp
          have hwl : IntKind.i64.wrap ((st.length : Int) - 1) = (st.length : Int) - 1 := wrap_i64 ⟨by omega, by omega⟩
          have hat : at0 st ((st.length : Int) - 1) = a := by
            rw [hsl]
            have : ((st0.length + 1 : Nat) : Int) - 1 = st0.length := by omega
            rw [this, hst]; simp [at0]
          have hh : (IntKind.i64.wrap (lenL (is L) o len - 1)).toNat = st0.length := by rw [hll, hwl]; omega
          have hsubQ : subL (is L) o (some (IntKind.i64.wrap (lenL (is L) o len - 1)).toNat) = is st0 := by
            rw [hh, subL_shrink hsub hll (by omega), hst]; simp
          have hllQ : lenL (is L) o (some (IntKind.i64.wrap (lenL (is L) o len - 1)).toNat) = st0.length := by rw [hh]; exact lenL_some _ _ _
          have nthQ : ∀ {i : Int} {K : T → Prop}, 0 ≤ i → i < st0.length → K (.int .i64 (at0 st0 i)) → nthK (subL (is L) o (some (IntKind.i64.wrap (lenL (is L) o len - 1)).toNat)) i K := fun h0 h1 h => nth_subE hsubQ h0 h1 h
          conv => whnf
          repeat' (first
            | (refine brK_true (by assumption) ?_; conv => whnf)
            | (refine brK_false (by assumption) ?_; conv => whnf)
            | (refine brK_true ?_ ?_; (focus (simp only [List.length_nil, not_t, not_f, lt_t, lt_f, le_t, le_f, eq_t, eq_f, us_len, is_len, bs_len, lenL_00, nums_us, nums_is, hk0, hw, hR, hout, hdk, hll, hI, hdx, hwl, hat, lenL_some] <;> omega)); conv => whnf)
            | (refine brK_false ?_ ?_; (focus (simp only [List.length_nil, not_t, not_f, lt_t, lt_f, le_t, le_f, eq_t, eq_f, us_len, is_len, bs_len, lenL_00, nums_us, nums_is, hk0, hw, hR, hout, hdk, hll, hI, hdx, hwl, hat, lenL_some] <;> omega)); conv => whnf)
            | ((refine brK_of (fun h => ?_) (fun h => ?_)) <;> (have h2 := h; (try simp only [List.length_nil, not_t, not_f, lt_t, lt_f, le_t, le_f, eq_t, eq_f, us_len, is_len, bs_len, lenL_00, nums_us, nums_is, hk0, hw, hR, hout, hdk, hll, hI, hdx, hwl, hat, lenL_some] at h2); conv => whnf))
            | (refine reqK_of ?_ ?_; (focus (first | decide | omega | assumption | (simp only [List.length_nil, not_t, not_f, lt_t, lt_f, le_t, le_f, eq_t, eq_f, us_len, is_len, bs_len, lenL_00, nums_us, nums_is, hk0, hw, hR, hout, hdk, hll, hI, hdx, hwl, hat, lenL_some] <;> omega) | (simp [keyNew, sameKey, kEq] <;> omega))); conv => whnf)
            | (refine reqK_of ?_ ?_; rotate_left; (conv => whnf); rotate_left)
            | (refine nthQ ?_ ?_ ?_; (focus (first | omega | (simp only [List.length_nil, not_t, not_f, lt_t, lt_f, le_t, le_f, eq_t, eq_f, us_len, is_len, bs_len, lenL_00, nums_us, nums_is, hk0, hw, hR, hout, hdk, hll, hI, hdx, hwl, hat, lenL_some] <;> omega))); (focus (first | omega | (simp only [List.length_nil, not_t, not_f, lt_t, lt_f, le_t, le_f, eq_t, eq_f, us_len, is_len, bs_len, lenL_00, nums_us, nums_is, hk0, hw, hR, hout, hdk, hll, hI, hdx, hwl, hat, lenL_some] <;> omega))); conv => whnf)
            | (refine nthS ?_ ?_ ?_; (focus (first | omega | (simp only [List.length_nil, not_t, not_f, lt_t, lt_f, le_t, le_f, eq_t, eq_f, us_len, is_len, bs_len, lenL_00, nums_us, nums_is, hk0, hw, hR, hout, hdk, hll, hI, hdx, hwl, hat, lenL_some] <;> omega))); (focus (first | omega | (simp only [List.length_nil, not_t, not_f, lt_t, lt_f, le_t, le_f, eq_t, eq_f, us_len, is_len, bs_len, lenL_00, nums_us, nums_is, hk0, hw, hR, hout, hdk, hll, hI, hdx, hwl, hat, lenL_some] <;> omega))); conv => whnf)
            | (refine nth_us ?_ ?_ ?_; (focus (first | omega | (simp only [List.length_nil, not_t, not_f, lt_t, lt_f, le_t, le_f, eq_t, eq_f, us_len, is_len, bs_len, lenL_00, nums_us, nums_is, hk0, hw, hR, hout, hdk, hll, hI, hdx, hwl, hat, lenL_some] <;> omega))); (focus (first | omega | (simp only [List.length_nil, not_t, not_f, lt_t, lt_f, le_t, le_f, eq_t, eq_f, us_len, is_len, bs_len, lenL_00, nums_us, nums_is, hk0, hw, hR, hout, hdk, hll, hI, hdx, hwl, hat, lenL_some] <;> omega))); conv => whnf)
            | (refine nth_is ?_ ?_ ?_; (focus (first | omega | (simp only [List.length_nil, not_t, not_f, lt_t, lt_f, le_t, le_f, eq_t, eq_f, us_len, is_len, bs_len, lenL_00, nums_us, nums_is, hk0, hw, hR, hout, hdk, hll, hI, hdx, hwl, hat, lenL_some] <;> omega))); (focus (first | omega | (simp only [List.length_nil, not_t, not_f, lt_t, lt_f, le_t, le_f, eq_t, eq_f, us_len, is_len, bs_len, lenL_00, nums_us, nums_is, hk0, hw, hR, hout, hdk, hll, hI, hdx, hwl, hat, lenL_some] <;> omega))); conv => whnf)
            | (refine nth_bs ?_ ?_ ?_; (focus (first | omega | (simp only [List.length_nil, not_t, not_f, lt_t, lt_f, le_t, le_f, eq_t, eq_f, us_len, is_len, bs_len, lenL_00, nums_us, nums_is, hk0, hw, hR, hout, hdk, hll, hI, hdx, hwl, hat, lenL_some] <;> omega))); (focus (first | omega | (simp only [List.length_nil, not_t, not_f, lt_t, lt_f, le_t, le_f, eq_t, eq_f, us_len, is_len, bs_len, lenL_00, nums_us, nums_is, hk0, hw, hR, hout, hdk, hll, hI, hdx, hwl, hat, lenL_some] <;> omega))); conv => whnf))
          all_goals first
            | exact hq0
            | (simp only [nums_us, hk0, hw, hR]; exact ⟨⟨hmu', hcap⟩, .inl (by decide)⟩)
            | (simp only [nums_us, hk0, hw, hR]; exact ⟨⟨hmu', hcap⟩, .inr (by rw [hout]; decide)⟩)
            | skip
          refine loopUp [] [.kill 129, .kill 130, .kill 131, .kill 132, .kill 133, .kill 134, .kill 135, .kill 136, .kill 137, .kill 138, .kill 139, .kill 140, .kill 141, .kill 142, .kill 143] (fun j : Nat => [(15, .t (.int .i64 (j : Int)))]) (fun _ => []) (fun j => j ≤ (st0).length) (fun j => (st0).length - j) 0 (Nat.zero_le _) ?_
          conv => whnf
          refine ⟨⟨rfl, rfl⟩, fun j hj D hD => ?_⟩
          have hwj : IntKind.i64.wrap ((j : Int) + 1) = (j : Int) + 1 := wrap_i64 ⟨by omega, by omega⟩
          conv => whnf
          repeat' (first
            | (refine brK_true (by assumption) ?_; conv => whnf)
            | (refine brK_false (by assumption) ?_; conv => whnf)
            | (refine brK_true ?_ ?_; (focus (simp only [List.length_nil, not_t, not_f, lt_t, lt_f, le_t, le_f, eq_t, eq_f, us_len, is_len, bs_len, lenL_00, nums_us, nums_is, hk0, hw, hR, hI, hdx, hwl, hat, lenL_some] <;> omega)); conv => whnf)
            | (refine brK_false ?_ ?_; (focus (simp only [List.length_nil, not_t, not_f, lt_t, lt_f, le_t, le_f, eq_t, eq_f, us_len, is_len, bs_len, lenL_00, nums_us, nums_is, hk0, hw, hR, hI, hdx, hwl, hat, lenL_some] <;> omega)); conv => whnf)
            | ((refine brK_of (fun h => ?_) (fun h => ?_)) <;> (have h2 := h; (try simp only [List.length_nil, not_t, not_f, lt_t, lt_f, le_t, le_f, eq_t, eq_f, us_len, is_len, bs_len, lenL_00, nums_us, nums_is, hk0, hw, hR, hI, hdx, hwl, hat, lenL_some] at h2); conv => whnf))
            | (refine reqK_of ?_ ?_; (focus (first | decide | omega | assumption | (simp only [List.length_nil, not_t, not_f, lt_t, lt_f, le_t, le_f, eq_t, eq_f, us_len, is_len, bs_len, lenL_00, nums_us, nums_is, hk0, hw, hR, hI, hdx, hwl, hat, lenL_some] <;> omega) | (simp [keyNew, sameKey, kEq] <;> omega))); conv => whnf)
            | (refine reqK_of ?_ ?_; rotate_left; (conv => whnf); rotate_left)
            | (refine nthQ ?_ ?_ ?_; (focus (first | omega | (simp only [List.length_nil, not_t, not_f, lt_t, lt_f, le_t, le_f, eq_t, eq_f, us_len, is_len, bs_len, lenL_00, nums_us, nums_is, hk0, hw, hR, hI, hdx, hwl, hat, lenL_some] <;> omega))); (focus (first | omega | (simp only [List.length_nil, not_t, not_f, lt_t, lt_f, le_t, le_f, eq_t, eq_f, us_len, is_len, bs_len, lenL_00, nums_us, nums_is, hk0, hw, hR, hI, hdx, hwl, hat, lenL_some] <;> omega))); conv => whnf)
            | (refine nthS ?_ ?_ ?_; (focus (first | omega | (simp only [List.length_nil, not_t, not_f, lt_t, lt_f, le_t, le_f, eq_t, eq_f, us_len, is_len, bs_len, lenL_00, nums_us, nums_is, hk0, hw, hR, hI, hdx, hwl, hat, lenL_some] <;> omega))); (focus (first | omega | (simp only [List.length_nil, not_t, not_f, lt_t, lt_f, le_t, le_f, eq_t, eq_f, us_len, is_len, bs_len, lenL_00, nums_us, nums_is, hk0, hw, hR, hI, hdx, hwl, hat, lenL_some] <;> omega))); conv => whnf)
            | (refine nth_us ?_ ?_ ?_; (focus (first | omega | (simp only [List.length_nil, not_t, not_f, lt_t, lt_f, le_t, le_f, eq_t, eq_f, us_len, is_len, bs_len, lenL_00, nums_us, nums_is, hk0, hw, hR, hI, hdx, hwl, hat, lenL_some] <;> omega))); (focus (first | omega | (simp only [List.length_nil, not_t, not_f, lt_t, lt_f, le_t, le_f, eq_t, eq_f, us_len, is_len, bs_len, lenL_00, nums_us, nums_is, hk0, hw, hR, hI, hdx, hwl, hat, lenL_some] <;> omega))); conv => whnf)
            | (refine nth_is ?_ ?_ ?_; (focus (first | omega | (simp only [List.length_nil, not_t, not_f, lt_t, lt_f, le_t, le_f, eq_t, eq_f, us_len, is_len, bs_len, lenL_00, nums_us, nums_is, hk0, hw, hR, hI, hdx, hwl, hat, lenL_some] <;> omega))); (focus (first | omega | (simp only [List.length_nil, not_t, not_f, lt_t, lt_f, le_t, le_f, eq_t, eq_f, us_len, is_len, bs_len, lenL_00, nums_us, nums_is, hk0, hw, hR, hI, hdx, hwl, hat, lenL_some] <;> omega))); conv => whnf)
            | (refine nth_bs ?_ ?_ ?_; (focus (first | omega | (simp only [List.length_nil, not_t, not_f, lt_t, lt_f, le_t, le_f, eq_t, eq_f, us_len, is_len, bs_len, lenL_00, nums_us, nums_is, hk0, hw, hR, hI, hdx, hwl, hat, lenL_some] <;> omega))); (focus (first | omega | (simp only [List.length_nil, not_t, not_f, lt_t, lt_f, le_t, le_f, eq_t, eq_f, us_len, is_len, bs_len, lenL_00, nums_us, nums_is, hk0, hw, hR, hI, hdx, hwl, hat, lenL_some] <;> omega))); conv => whnf))
          · refine loopC (hD (j + 1) (by omega) (by omega)) ?_
            rw [hwj, Int.natCast_succ]
            rfl
          · refine loopC (hC ⟨m', L, o, some (IntKind.i64.wrap (lenL (is L) o len - 1)).toNat, st0, t', b', k + 1⟩ ⟨hS'.more hlt.2, hsubQ, hllQ, by simp only; omega, by simp only; omega⟩ (by simp only; omega)) ?_
            simp only [nums_us, hk0, hw, hR]
            rfl
      · have hk0 : IntKind.i64.wrap (1 + IntKind.i64.wrap ((at0 l k).tmod 3)) = 3 := by rw [hkd, show at0 l k % 3 = 2 by omega]; rfl
        cases hst : st with
        | nil =>
          subst hst
          obtain ⟨d, hR, hout, hdk⟩ := steal_empty (x := (k : Int) + 1) hS
          unfold d0 at hR
          have hI := items_eq hS
          have hst0 : ([] : List Int).length = 0 := rfl
          have hmu' := hmu
          obtain ⟨w2, hw2⟩ : ∃ w2 : Int, w2 = 2 := ⟨2, rfl⟩
          have e12 : V.t (T.int .i64 2) = V.t (T.int .i64 w2) := by rw [hw2]
          conv => whnf
          repeat' (first
            | (refine brK_true (by assumption) ?_; conv => whnf)
            | (refine brK_false (by assumption) ?_; conv => whnf)
            | (refine brK_true ?_ ?_; (focus (simp only [List.length_nil, not_t, not_f, lt_t, lt_f, le_t, le_f, eq_t, eq_f, us_len, is_len, bs_len, lenL_00, nums_us, nums_is, hk0, hw, hR, hdk, hll, hst0] <;> omega)); conv => whnf)
            | (refine brK_false ?_ ?_; (focus (simp only [List.length_nil, not_t, not_f, lt_t, lt_f, le_t, le_f, eq_t, eq_f, us_len, is_len, bs_len, lenL_00, nums_us, nums_is, hk0, hw, hR, hdk, hll, hst0] <;> omega)); conv => whnf)
            | (refine reqK_of ?_ ?_; (focus (first | decide | omega | assumption | (simp only [List.length_nil, not_t, not_f, lt_t, lt_f, le_t, le_f, eq_t, eq_f, us_len, is_len, bs_len, lenL_00, nums_us, nums_is, hk0, hw, hR, hdk, hll, hst0] <;> omega) | (simp [keyNew, sameKey, kEq] <;> omega))); conv => whnf)
            | (refine reqK_of ?_ ?_; rotate_left; (conv => whnf); rotate_left)
            | (refine nthS ?_ ?_ ?_; (focus (first | omega | (simp only [List.length_nil, not_t, not_f, lt_t, lt_f, le_t, le_f, eq_t, eq_f, us_len, is_len, bs_len, lenL_00, nums_us, nums_is, hk0, hw, hR, hdk, hll, hst0] <;> omega))); (focus (first | omega | (simp only [List.length_nil, not_t, not_f, lt_t, lt_f, le_t, le_f, eq_t, eq_f, us_len, is_len, bs_len, lenL_00, nums_us, nums_is, hk0, hw, hR, hdk, hll, hst0] <;> omega))); conv => whnf)
            | (refine nth_us ?_ ?_ ?_; (focus (first | omega | (simp only [List.length_nil, not_t, not_f, lt_t, lt_f, le_t, le_f, eq_t, eq_f, us_len, is_len, bs_len, lenL_00, nums_us, nums_is, hk0, hw, hR, hdk, hll, hst0] <;> omega))); (focus (first | omega | (simp only [List.length_nil, not_t, not_f, lt_t, lt_f, le_t, le_f, eq_t, eq_f, us_len, is_len, bs_len, lenL_00, nums_us, nums_is, hk0, hw, hR, hdk, hll, hst0] <;> omega))); conv => whnf)
            | (refine nth_is ?_ ?_ ?_; (focus (first | omega | (simp only [List.length_nil, not_t, not_f, lt_t, lt_f, le_t, le_f, eq_t, eq_f, us_len, is_len, bs_len, lenL_00, nums_us, nums_is, hk0, hw, hR, hdk, hll, hst0] <;> omega))); (focus (first | omega | (simp only [List.length_nil, not_t, not_f, lt_t, lt_f, le_t, le_f, eq_t, eq_f, us_len, is_len, bs_len, lenL_00, nums_us, nums_is, hk0, hw, hR, hdk, hll, hst0] <;> omega))); conv => whnf)
            | (refine nth_bs ?_ ?_ ?_; (focus (first | omega | (simp only [List.length_nil, not_t, not_f, lt_t, lt_f, le_t, le_f, eq_t, eq_f, us_len, is_len, bs_len, lenL_00, nums_us, nums_is, hk0, hw, hR, hdk, hll, hst0] <;> omega))); (focus (first | omega | (simp only [List.length_nil, not_t, not_f, lt_t, lt_f, le_t, le_f, eq_t, eq_f, us_len, is_len, bs_len, lenL_00, nums_us, nums_is, hk0, hw, hR, hdk, hll, hst0] <;> omega))); conv => whnf))
          rw [e12]
          conv => whnf
          repeat' (first
            | (refine brK_true (by assumption) ?_; conv => whnf)
            | (refine brK_false (by assumption) ?_; conv => whnf)
            | (refine brK_true ?_ ?_; (focus (simp only [List.length_nil, not_t, not_f, lt_t, lt_f, le_t, le_f, eq_t, eq_f, us_len, is_len, bs_len, lenL_00, nums_us, nums_is, hk0, hw, hR, hout, hdk, hll, hI, hst0, hw2] <;> omega)); conv => whnf)
            | (refine brK_false ?_ ?_; (focus (simp only [List.length_nil, not_t, not_f, lt_t, lt_f, le_t, le_f, eq_t, eq_f, us_len, is_len, bs_len, lenL_00, nums_us, nums_is, hk0, hw, hR, hout, hdk, hll, hI, hst0, hw2] <;> omega)); conv => whnf)
            | ((refine brK_of (fun h => ?_) (fun h => ?_)) <;> (have h2 := h; (try simp only [List.length_nil, not_t, not_f, lt_t, lt_f, le_t, le_f, eq_t, eq_f, us_len, is_len, bs_len, lenL_00, nums_us, nums_is, hk0, hw, hR, hout, hdk, hll, hI, hst0, hw2] at h2); conv => whnf))
            | (refine reqK_of ?_ ?_; (focus (first | decide | omega | assumption | (simp only [List.length_nil, not_t, not_f, lt_t, lt_f, le_t, le_f, eq_t, eq_f, us_len, is_len, bs_len, lenL_00, nums_us, nums_is, hk0, hw, hR, hout, hdk, hll, hI, hst0, hw2] <;> omega) | (simp [keyNew, sameKey, kEq] <;> omega))); conv => whnf)
            | (refine reqK_of ?_ ?_; rotate_left; (conv => whnf); rotate_left)
            | (refine nthS ?_ ?_ ?_; (focus (first | omega | (simp only [List.length_nil, not_t, not_f, lt_t, lt_f, le_t, le_f, eq_t, eq_f, us_len, is_len, bs_len, lenL_00, nums_us, nums_is, hk0, hw, hR, hout, hdk, hll, hI, hst0, hw2] <;> omega))); (focus (first | omega | (simp only [List.length_nil, not_t, not_f, lt_t, lt_f, le_t, le_f, eq_t, eq_f, us_len, is_len, bs_len, lenL_00, nums_us, nums_is, hk0, hw, hR, hout, hdk, hll, hI, hst0, hw2] <;> omega))); conv => whnf)
            | (refine nth_us ?_ ?_ ?_; (focus (first | omega | (simp only [List.length_nil, not_t, not_f, lt_t, lt_f, le_t, le_f, eq_t, eq_f, us_len, is_len, bs_len, lenL_00, nums_us, nums_is, hk0, hw, hR, hout, hdk, hll, hI, hst0, hw2] <;> omega))); (focus (first | omega | (simp only [List.length_nil, not_t, not_f, lt_t, lt_f, le_t, le_f, eq_t, eq_f, us_len, is_len, bs_len, lenL_00, nums_us, nums_is, hk0, hw, hR, hout, hdk, hll, hI, hst0, hw2] <;> omega))); conv => whnf)
            | (refine nth_is ?_ ?_ ?_; (focus (first | omega | (simp only [List.length_nil, not_t, not_f, lt_t, lt_f, le_t, le_f, eq_t, eq_f, us_len, is_len, bs_len, lenL_00, nums_us, nums_is, hk0, hw, hR, hout, hdk, hll, hI, hst0, hw2] <;> omega))); (focus (first | omega | (simp only [List.length_nil, not_t, not_f, lt_t, lt_f, le_t, le_f, eq_t, eq_f, us_len, is_len, bs_len, lenL_00, nums_us, nums_is, hk0, hw, hR, hout, hdk, hll, hI, hst0, hw2] <;> omega))); conv => whnf)
            | (refine nth_bs ?_ ?_ ?_; (focus (first | omega | (simp only [List.length_nil, not_t, not_f, lt_t, lt_f, le_t, le_f, eq_t, eq_f, us_len, is_len, bs_len, lenL_00, nums_us, nums_is, hk0, hw, hR, hout, hdk, hll, hI, hst0, hw2] <;> omega))); (focus (first | omega | (simp only [List.length_nil, not_t, not_f, lt_t, lt_f, le_t, le_f, eq_t, eq_f, us_len, is_len, bs_len, lenL_00, nums_us, nums_is, hk0, hw, hR, hout, hdk, hll, hI, hst0, hw2] <;> omega))); conv => whnf))
          all_goals first
            | exact hq0
            | (simp only [nums_us, hk0, hw, hR]; exact ⟨⟨hmu', hcap⟩, .inl (by decide)⟩)
            | (simp only [nums_us, hk0, hw, hR]; exact ⟨⟨hmu', hcap⟩, .inr (by rw [hout]; decide)⟩)
            | skip
          all_goals
            refine loopUp [] [.kill 129, .kill 130, .kill 131, .kill 132, .kill 133, .kill 134, .kill 135, .kill 136, .kill 137, .kill 138, .kill 139, .kill 140, .kill 141, .kill 142, .kill 143] (fun j : Nat => [(15, .t (.int .i64 (j : Int)))]) (fun _ => []) (fun j => j ≤ (([] : List Int)).length) (fun j => (([] : List Int)).length - j) 0 (Nat.zero_le _) ?_
            conv => whnf
            refine ⟨⟨rfl, rfl⟩, fun j hj D hD => ?_⟩
            have hwj : IntKind.i64.wrap ((j : Int) + 1) = (j : Int) + 1 := wrap_i64 ⟨by omega, by omega⟩
            conv => whnf
            repeat' (first
              | (refine brK_true (by assumption) ?_; conv => whnf)
              | (refine brK_false (by assumption) ?_; conv => whnf)
              | (refine brK_true ?_ ?_; (focus (simp only [List.length_nil, not_t, not_f, lt_t, lt_f, le_t, le_f, eq_t, eq_f, us_len, is_len, bs_len, lenL_00, nums_us, nums_is, hk0, hw, hR, hI, hst0, hw2] <;> omega)); conv => whnf)
              | (refine brK_false ?_ ?_; (focus (simp only [List.length_nil, not_t, not_f, lt_t, lt_f, le_t, le_f, eq_t, eq_f, us_len, is_len, bs_len, lenL_00, nums_us, nums_is, hk0, hw, hR, hI, hst0, hw2] <;> omega)); conv => whnf)
              | ((refine brK_of (fun h => ?_) (fun h => ?_)) <;> (have h2 := h; (try simp only [List.length_nil, not_t, not_f, lt_t, lt_f, le_t, le_f, eq_t, eq_f, us_len, is_len, bs_len, lenL_00, nums_us, nums_is, hk0, hw, hR, hI, hst0, hw2] at h2); conv => whnf))
              | (refine reqK_of ?_ ?_; (focus (first | decide | omega | assumption | (simp only [List.length_nil, not_t, not_f, lt_t, lt_f, le_t, le_f, eq_t, eq_f, us_len, is_len, bs_len, lenL_00, nums_us, nums_is, hk0, hw, hR, hI, hst0, hw2] <;> omega) | (simp [keyNew, sameKey, kEq] <;> omega))); conv => whnf)
              | (refine reqK_of ?_ ?_; rotate_left; (conv => whnf); rotate_left)
              | (refine nthS ?_ ?_ ?_; (focus (first | omega | (simp only [List.length_nil, not_t, not_f, lt_t, lt_f, le_t, le_f, eq_t, eq_f, us_len, is_len, bs_len, lenL_00, nums_us, nums_is, hk0, hw, hR, hI, hst0, hw2] <;> omega))); (focus (first | omega | (simp only [List.length_nil, not_t, not_f, lt_t, lt_f, le_t, le_f, eq_t, eq_f, us_len, is_len, bs_len, lenL_00, nums_us, nums_is, hk0, hw, hR, hI, hst0, hw2] <;> omega))); conv => whnf)
              | (refine nth_us ?_ ?_ ?_; (focus (first | omega | (simp only [List.length_nil, not_t, not_f, lt_t, lt_f, le_t, le_f, eq_t, eq_f, us_len, is_len, bs_len, lenL_00, nums_us, nums_is, hk0, hw, hR, hI, hst0, hw2] <;> omega))); (focus (first | omega | (simp only [List.length_nil, not_t, not_f, lt_t, lt_f, le_t, le_f, eq_t, eq_f, us_len, is_len, bs_len, lenL_00, nums_us, nums_is, hk0, hw, hR, hI, hst0, hw2] <;> omega))); conv => whnf)
              | (refine nth_is ?_ ?_ ?_; (focus (first | omega | (simp only [List.length_nil, not_t, not_f, lt_t, lt_f, le_t, le_f, eq_t, eq_f, us_len, is_len, bs_len, lenL_00, nums_us, nums_is, hk0, hw, hR, hI, hst0, hw2] <;> omega))); (focus (first | omega | (simp only [List.length_nil, not_t, not_f, lt_t, lt_f, le_t, le_f, eq_t, eq_f, us_len, is_len, bs_len, lenL_00, nums_us, nums_is, hk0, hw, hR, hI, hst0, hw2] <;> omega))); conv => whnf)
              | (refine nth_bs ?_ ?_ ?_; (focus (first | omega | (simp only [List.length_nil, not_t, not_f, lt_t, lt_f, le_t, le_f, eq_t, eq_f, us_len, is_len, bs_len, lenL_00, nums_us, nums_is, hk0, hw, hR, hI, hst0, hw2] <;> omega))); (focus (first | omega | (simp only [List.length_nil, not_t, not_f, lt_t, lt_f, le_t, le_f, eq_t, eq_f, us_len, is_len, bs_len, lenL_00, nums_us, nums_is, hk0, hw, hR, hI, hst0, hw2] <;> omega))); conv => whnf))
            refine loopC (hC ⟨m, L, o, len, [], t, b, k + 1⟩ ⟨hS.more hlt.2, hsub, hll, by simp only; omega, by simp only; omega⟩ (by simp only; omega)) ?_
            simp only [nums_us, hk0, hw, hR]
            rfl
        | cons a r =>
          obtain ⟨m', d, hR, hout, hdx, hdk, hS'⟩ := steal_run (x := (k : Int) + 1) (hst ▸ hS)
          unfold d0 at hR
          have hI := items_eq hS'
          have hmu' : IsU (us m') ∧ Sz (us m') := ⟨isU_us hS'.mR, by have := hS'.l; unfold Sz maxBytes; rw [us_len]; omega⟩
          have hsl : st.length = r.length + 1 := by rw [hst]; rfl
          have hat : at0 st 0 = a := by rw [hst]; rfl
          cases len with
          | none =>
            have hnn : True := trivial
            have hsubQ : subL (is L) (Nat.add o (Int.toNat 1)) none = is r := by
              rw [subL_none] at hsub ⊢
              show (is L).drop (o + 1) = _
              rw [← List.drop_drop, hsub, hst]; simp [is]
            have hllQ : lenL (is L) (Nat.add o (Int.toNat 1)) none = r.length := by
              have h1 := congrArg List.length hsubQ
              have h2 := congrArg List.length hsub
              rw [subL_none] at h1 h2
              rw [is_len] at h1 h2
              simp only [List.length_drop, is_len] at h1 h2
              show ((is L).length : Int) - ((o + 1 : Nat) : Int) = _
              rw [is_len]
              have h1' : L.length - (o + 1) = r.length := h1
              omega
            have nthQ : ∀ {i : Int} {K : T → Prop}, 0 ≤ i → i < r.length → K (.int .i64 (at0 r i)) → nthK (subL (is L) (Nat.add o (Int.toNat 1)) none) i K := fun h0 h1 h => nth_subE hsubQ h0 h1 h
            conv => whnf
            repeat' (first
              | (refine brK_true (by assumption) ?_; conv => whnf)
              | (refine brK_false (by assumption) ?_; conv => whnf)
              | (refine brK_true ?_ ?_; (focus (simp only [List.length_nil, not_t, not_f, lt_t, lt_f, le_t, le_f, eq_t, eq_f, us_len, is_len, bs_len, lenL_00, nums_us, nums_is, hk0, hw, hR, hout, hdk, hll, hI, hdx, hat, hnn] <;> omega)); conv => whnf)
              | (refine brK_false ?_ ?_; (focus (simp only [List.length_nil, not_t, not_f, lt_t, lt_f, le_t, le_f, eq_t, eq_f, us_len, is_len, bs_len, lenL_00, nums_us, nums_is, hk0, hw, hR, hout, hdk, hll, hI, hdx, hat, hnn] <;> omega)); conv => whnf)
              | ((refine brK_of (fun h => ?_) (fun h => ?_)) <;> (have h2 := h; (try simp only [List.length_nil, not_t, not_f, lt_t, lt_f, le_t, le_f, eq_t, eq_f, us_len, is_len, bs_len, lenL_00, nums_us, nums_is, hk0, hw, hR, hout, hdk, hll, hI, hdx, hat, hnn] at h2); conv => whnf))
              | (refine reqK_of ?_ ?_; (focus (first | decide | omega | assumption | (simp only [List.length_nil, not_t, not_f, lt_t, lt_f, le_t, le_f, eq_t, eq_f, us_len, is_len, bs_len, lenL_00, nums_us, nums_is, hk0, hw, hR, hout, hdk, hll, hI, hdx, hat, hnn] <;> omega) | (simp [keyNew, sameKey, kEq] <;> omega))); conv => whnf)
              | (refine reqK_of ?_ ?_; rotate_left; (conv => whnf); rotate_left)
              | (refine nthQ ?_ ?_ ?_; (focus (first | omega | (simp only [List.length_nil, not_t, not_f, lt_t, lt_f, le_t, le_f, eq_t, eq_f, us_len, is_len, bs_len, lenL_00, nums_us, nums_is, hk0, hw, hR, hout, hdk, hll, hI, hdx, hat, hnn] <;> omega))); (focus (first | omega | (simp only [List.length_nil, not_t, not_f, lt_t, lt_f, le_t, le_f, eq_t, eq_f, us_len, is_len, bs_len, lenL_00, nums_us, nums_is, hk0, hw, hR, hout, hdk, hll, hI, hdx, hat, hnn] <;> omega))); conv => whnf)
              | (refine nthS ?_ ?_ ?_; (focus (first | omega | (simp only [List.length_nil, not_t, not_f, lt_t, lt_f, le_t, le_f, eq_t, eq_f, us_len, is_len, bs_len, lenL_00, nums_us, nums_is, hk0, hw, hR, hout, hdk, hll, hI, hdx, hat, hnn] <;> omega))); (focus (first | omega | (simp only [List.length_nil, not_t, not_f, lt_t, lt_f, le_t, le_f, eq_t, eq_f, us_len, is_len, bs_len, lenL_00, nums_us, nums_is, hk0, hw, hR, hout, hdk, hll, hI, hdx, hat, hnn] <;> omega))); conv => whnf)
              | (refine nth_us ?_ ?_ ?_; (focus (first | omega | (simp only [List.length_nil, not_t, not_f, lt_t, lt_f, le_t, le_f, eq_t, eq_f, us_len, is_len, bs_len, lenL_00, nums_us, nums_is, hk0, hw, hR, hout, hdk, hll, hI, hdx, hat, hnn] <;> omega))); (focus (first | omega | (simp only [List.length_nil, not_t, not_f, lt_t, lt_f, le_t, le_f, eq_t, eq_f, us_len, is_len, bs_len, lenL_00, nums_us, nums_is, hk0, hw, hR, hout, hdk, hll, hI, hdx, hat, hnn] <;> omega))); conv => whnf)
              | (refine nth_is ?_ ?_ ?_; (focus (first | omega | (simp only [List.length_nil, not_t, not_f, lt_t, lt_f, le_t, le_f, eq_t, eq_f, us_len, is_len, bs_len, lenL_00, nums_us, nums_is, hk0, hw, hR, hout, hdk, hll, hI, hdx, hat, hnn] <;> omega))); (focus (first | omega | (simp only [List.length_nil, not_t, not_f, lt_t, lt_f, le_t, le_f, eq_t, eq_f, us_len, is_len, bs_len, lenL_00, nums_us, nums_is, hk0, hw, hR, hout, hdk, hll, hI, hdx, hat, hnn] <;> omega))); conv => whnf)
              | (refine nth_bs ?_ ?_ ?_; (focus (first | omega | (simp only [List.length_nil, not_t, not_f, lt_t, lt_f, le_t, le_f, eq_t, eq_f, us_len, is_len, bs_len, lenL_00, nums_us, nums_is, hk0, hw, hR, hout, hdk, hll, hI, hdx, hat, hnn] <;> omega))); (focus (first | omega | (simp only [List.length_nil, not_t, not_f, lt_t, lt_f, le_t, le_f, eq_t, eq_f, us_len, is_len, bs_len, lenL_00, nums_us, nums_is, hk0, hw, hR, hout, hdk, hll, hI, hdx, hat, hnn] <;> omega))); conv => whnf))
            all_goals first
              | exact hq0
              | (simp only [nums_us, hk0, hw, hR]; exact ⟨⟨hmu', hcap⟩, .inl (by decide)⟩)
              | (simp only [nums_us, hk0, hw, hR]; exact ⟨⟨hmu', hcap⟩, .inr (by rw [hout]; decide)⟩)
              | skip
            refine loopUp [] [.kill 129, .kill 130, .kill 131, .kill 132, .kill 133, .kill 134, .kill 135, .kill 136, .kill 137, .kill 138, .kill 139, .kill 140, .kill 141, .kill 142, .kill 143] (fun j : Nat => [(15, .t (.int .i64 (j : Int)))]) (fun _ => []) (fun j => j ≤ (r).length) (fun j => (r).length - j) 0 (Nat.zero_le _) ?_
            conv => whnf
            refine ⟨⟨rfl, rfl⟩, fun j hj D hD => ?_⟩
            have hwj : IntKind.i64.wrap ((j : Int) + 1) = (j : Int) + 1 := wrap_i64 ⟨by omega, by omega⟩
            conv => whnf
            repeat' (first
              | (refine brK_true (by assumption) ?_; conv => whnf)
              | (refine brK_false (by assumption) ?_; conv => whnf)
              | (refine brK_true ?_ ?_; (focus (simp only [List.length_nil, not_t, not_f, lt_t, lt_f, le_t, le_f, eq_t, eq_f, us_len, is_len, bs_len, lenL_00, nums_us, nums_is, hk0, hw, hR, hI, hdx, hat, hnn] <;> omega)); conv => whnf)
              | (refine brK_false ?_ ?_; (focus (simp only [List.length_nil, not_t, not_f, lt_t, lt_f, le_t, le_f, eq_t, eq_f, us_len, is_len, bs_len, lenL_00, nums_us, nums_is, hk0, hw, hR, hI, hdx, hat, hnn] <;> omega)); conv => whnf)
              | ((refine brK_of (fun h => ?_) (fun h => ?_)) <;> (have h2 := h; (try simp only [List.length_nil, not_t, not_f, lt_t, lt_f, le_t, le_f, eq_t, eq_f, us_len, is_len, bs_len, lenL_00, nums_us, nums_is, hk0, hw, hR, hI, hdx, hat, hnn] at h2); conv => whnf))
              | (refine reqK_of ?_ ?_; (focus (first | decide | omega | assumption | (simp only [List.length_nil, not_t, not_f, lt_t, lt_f, le_t, le_f, eq_t, eq_f, us_len, is_len, bs_len, lenL_00, nums_us, nums_is, hk0, hw, hR, hI, hdx, hat, hnn] <;> omega) | (simp [keyNew, sameKey, kEq] <;> omega))); conv => whnf)
              | (refine reqK_of ?_ ?_; rotate_left; (conv => whnf); rotate_left)
              | (refine nthQ ?_ ?_ ?_; (focus (first | omega | (simp only [List.length_nil, not_t, not_f, lt_t, lt_f, le_t, le_f, eq_t, eq_f, us_len, is_len, bs_len, lenL_00, nums_us, nums_is, hk0, hw, hR, hI, hdx, hat, hnn] <;> omega))); (focus (first | omega | (simp only [List.length_nil, not_t, not_f, lt_t, lt_f, le_t, le_f, eq_t, eq_f, us_len, is_len, bs_len, lenL_00, nums_us, nums_is, hk0, hw, hR, hI, hdx, hat, hnn] <;> omega))); conv => whnf)
              | (refine nthS ?_ ?_ ?_; (focus (first | omega | (simp only [List.length_nil, not_t, not_f, lt_t, lt_f, le_t, le_f, eq_t, eq_f, us_len, is_len, bs_len, lenL_00, nums_us, nums_is, hk0, hw, hR, hI, hdx, hat, hnn] <;> omega))); (focus (first | omega | (simp only [List.length_nil, not_t, not_f, lt_t, lt_f, le_t, le_f, eq_t, eq_f, us_len, is_len, bs_len, lenL_00, nums_us, nums_is, hk0, hw, hR, hI, hdx, hat, hnn] <;> omega))); conv => whnf)
              | (refine nth_us ?_ ?_ ?_; (focus (first | omega | (simp only [List.length_nil, not_t, not_f, lt_t, lt_f, le_t, le_f, eq_t, eq_f, us_len, is_len, bs_len, lenL_00, nums_us, nums_is, hk0, hw, hR, hI, hdx, hat, hnn] <;> omega))); (focus (first | omega | (simp only [List.length_nil, not_t, not_f, lt_t, lt_f, le_t, le_f, eq_t, eq_f, us_len, is_len, bs_len, lenL_00, nums_us, nums_is, hk0, hw, hR, hI, hdx, hat, hnn] <;> omega))); conv => whnf)
              | (refine nth_is ?_ ?_ ?_; (focus (first | omega | (simp only [List.length_nil, not_t, not_f, lt_t, lt_f, le_t, le_f, eq_t, eq_f, us_len, is_len, bs_len, lenL_00, nums_us, nums_is, hk0, hw, hR, hI, hdx, hat, hnn] <;> omega))); (focus (first | omega | (simp only [List.length_nil, not_t, not_f, lt_t, lt_f, le_t, le_f, eq_t, eq_f, us_len, is_len, bs_len, lenL_00, nums_us, nums_is, hk0, hw, hR, hI, hdx, hat, hnn] <;> omega))); conv => whnf)
              | (refine nth_bs ?_ ?_ ?_; (focus (first | omega | (simp only [List.length_nil, not_t, not_f, lt_t, lt_f, le_t, le_f, eq_t, eq_f, us_len, is_len, bs_len, lenL_00, nums_us, nums_is, hk0, hw, hR, hI, hdx, hat, hnn] <;> omega))); (focus (first | omega | (simp only [List.length_nil, not_t, not_f, lt_t, lt_f, le_t, le_f, eq_t, eq_f, us_len, is_len, bs_len, lenL_00, nums_us, nums_is, hk0, hw, hR, hI, hdx, hat, hnn] <;> omega))); conv => whnf))
            · refine loopC (hD (j + 1) (by omega) (by omega)) ?_
              rw [hwj, Int.natCast_succ]
              rfl
            · refine loopC (hC ⟨m', L, o + 1, none, r, t + 1, b, k + 1⟩ ⟨hS'.more hlt.2, hsubQ, hllQ, by simp only; omega, by simp only; omega⟩ (by simp only; omega)) ?_
              simp only [nums_us, hk0, hw, hR]
              rfl
          | some n' =>
            have hnn : (n' : Int) = st.length := by rw [← hll]; exact (lenL_some _ _ _).symm
            have hsubQ : subL (is L) (Nat.add o (Int.toNat 1)) (some (Nat.sub n' (Int.toNat 1))) = is r := by
              rw [subL_some] at hsub ⊢
              show ((is L).drop (o + 1)).take (n' - 1) = _
              have e : ((is L).drop (o + 1)).take (n' - 1) = (((is L).drop o).take n').drop 1 := by
                rw [List.drop_take, List.drop_drop]
              rw [e, hsub, hst]; simp [is]
            have hllQ : lenL (is L) (Nat.add o (Int.toNat 1)) (some (Nat.sub n' (Int.toNat 1))) = r.length := by
              rw [lenL_some]
              show ((n' - 1 : Nat) : Int) = _
              omega
            have nthQ : ∀ {i : Int} {K : T → Prop}, 0 ≤ i → i < r.length → K (.int .i64 (at0 r i)) → nthK (subL (is L) (Nat.add o (Int.toNat 1)) (some (Nat.sub n' (Int.toNat 1)))) i K := fun h0 h1 h => nth_subE hsubQ h0 h1 h
            conv => whnf
            repeat' (first
              | (refine brK_true (by assumption) ?_; conv => whnf)
              | (refine brK_false (by assumption) ?_; conv => whnf)
              | (refine brK_true ?_ ?_; (focus (simp only [List.length_nil, not_t, not_f, lt_t, lt_f, le_t, le_f, eq_t, eq_f, us_len, is_len, bs_len, lenL_00, nums_us, nums_is, hk0, hw, hR, hout, hdk, hll, hI, hdx, hat, hnn] <;> omega)); conv => whnf)
              | (refine brK_false ?_ ?_; (focus (simp only [List.length_nil, not_t, not_f, lt_t, lt_f, le_t, le_f, eq_t, eq_f, us_len, is_len, bs_len, lenL_00, nums_us, nums_is, hk0, hw, hR, hout, hdk, hll, hI, hdx, hat, hnn] <;> omega)); conv => whnf)
              | ((refine brK_of (fun h => ?_) (fun h => ?_)) <;> (have h2 := h; (try simp only [List.length_nil, not_t, not_f, lt_t, lt_f, le_t, le_f, eq_t, eq_f, us_len, is_len, bs_len, lenL_00, nums_us, nums_is, hk0, hw, hR, hout, hdk, hll, hI, hdx, hat, hnn] at h2); conv => whnf))
              | (refine reqK_of ?_ ?_; (focus (first | decide | omega | assumption | (simp only [List.length_nil, not_t, not_f, lt_t, lt_f, le_t, le_f, eq_t, eq_f, us_len, is_len, bs_len, lenL_00, nums_us, nums_is, hk0, hw, hR, hout, hdk, hll, hI, hdx, hat, hnn] <;> omega) | (simp [keyNew, sameKey, kEq] <;> omega))); conv => whnf)
              | (refine reqK_of ?_ ?_; rotate_left; (conv => whnf); rotate_left)
              | (refine nthQ ?_ ?_ ?_; (focus (first | omega | (simp only [List.length_nil, not_t, not_f, lt_t, lt_f, le_t, le_f, eq_t, eq_f, us_len, is_len, bs_len, lenL_00, nums_us, nums_is, hk0, hw, hR, hout, hdk, hll, hI, hdx, hat, hnn] <;> omega))); (focus (first | omega | (simp only [List.length_nil, not_t, not_f, lt_t, lt_f, le_t, le_f, eq_t, eq_f, us_len, is_len, bs_len, lenL_00, nums_us, nums_is, hk0, hw, hR, hout, hdk, hll, hI, hdx, hat, hnn] <;> omega))); conv => whnf)
              | (refine nthS ?_ ?_ ?_; (focus (first | omega | (simp only [List.length_nil, not_t, not_f, lt_t, lt_f, le_t, le_f, eq_t, eq_f, us_len, is_len, bs_len, lenL_00, nums_us, nums_is, hk0, hw, hR, hout, hdk, hll, hI, hdx, hat, hnn] <;> omega))); (focus (first | omega | (simp only [List.length_nil, not_t, not_f, lt_t, lt_f, le_t, le_f, eq_t, eq_f, us_len, is_len, bs_len, lenL_00, nums_us, nums_is, hk0, hw, hR, hout, hdk, hll, hI, hdx, hat, hnn] <;> omega))); conv => whnf)
              | (refine nth_us ?_ ?_ ?_; (focus (first | omega | (simp only [List.length_nil, not_t, not_f, lt_t, lt_f, le_t, le_f, eq_t, eq_f, us_len, is_len, bs_len, lenL_00, nums_us, nums_is, hk0, hw, hR, hout, hdk, hll, hI, hdx, hat, hnn] <;> omega))); (focus (first | omega | (simp only [List.length_nil, not_t, not_f, lt_t, lt_f, le_t, le_f, eq_t, eq_f, us_len, is_len, bs_len, lenL_00, nums_us, nums_is, hk0, hw, hR, hout, hdk, hll, hI, hdx, hat, hnn] <;> omega))); conv => whnf)
              | (refine nth_is ?_ ?_ ?_; (focus (first | omega | (simp only [List.length_nil, not_t, not_f, lt_t, lt_f, le_t, le_f, eq_t, eq_f, us_len, is_len, bs_len, lenL_00, nums_us, nums_is, hk0, hw, hR, hout, hdk, hll, hI, hdx, hat, hnn] <;> omega))); (focus (first | omega | (simp only [List.length_nil, not_t, not_f, lt_t, lt_f, le_t, le_f, eq_t, eq_f, us_len, is_len, bs_len, lenL_00, nums_us, nums_is, hk0, hw, hR, hout, hdk, hll, hI, hdx, hat, hnn] <;> omega))); conv => whnf)
              | (refine nth_bs ?_ ?_ ?_; (focus (first | omega | (simp only [List.length_nil, not_t, not_f, lt_t, lt_f, le_t, le_f, eq_t, eq_f, us_len, is_len, bs_len, lenL_00, nums_us, nums_is, hk0, hw, hR, hout, hdk, hll, hI, hdx, hat, hnn] <;> omega))); (focus (first | omega | (simp only [List.length_nil, not_t, not_f, lt_t, lt_f, le_t, le_f, eq_t, eq_f, us_len, is_len, bs_len, lenL_00, nums_us, nums_is, hk0, hw, hR, hout, hdk, hll, hI, hdx, hat, hnn] <;> omega))); conv => whnf))
            all_goals first
              | exact hq0
              | (simp only [nums_us, hk0, hw, hR]; exact ⟨⟨hmu', hcap⟩, .inl (by decide)⟩)
              | (simp only [nums_us, hk0, hw, hR]; exact ⟨⟨hmu', hcap⟩, .inr (by rw [hout]; decide)⟩)
              | skip
            refine loopUp [] [.kill 129, .kill 130, .kill 131, .kill 132, .kill 133, .kill 134, .kill 135, .kill 136, .kill 137, .kill 138, .kill 139, .kill 140, .kill 141, .kill 142, .kill 143] (fun j : Nat => [(15, .t (.int .i64 (j : Int)))]) (fun _ => []) (fun j => j ≤ (r).length) (fun j => (r).length - j) 0 (Nat.zero_le _) ?_
            conv => whnf
            refine ⟨⟨rfl, rfl⟩, fun j hj D hD => ?_⟩
            have hwj : IntKind.i64.wrap ((j : Int) + 1) = (j : Int) + 1 := wrap_i64 ⟨by omega, by omega⟩
            conv => whnf
            repeat' (first
              | (refine brK_true (by assumption) ?_; conv => whnf)
              | (refine brK_false (by assumption) ?_; conv => whnf)
              | (refine brK_true ?_ ?_; (focus (simp only [List.length_nil, not_t, not_f, lt_t, lt_f, le_t, le_f, eq_t, eq_f, us_len, is_len, bs_len, lenL_00, nums_us, nums_is, hk0, hw, hR, hI, hdx, hat, hnn] <;> omega)); conv => whnf)
              | (refine brK_false ?_ ?_; (focus (simp only [List.length_nil, not_t, not_f, lt_t, lt_f, le_t, le_f, eq_t, eq_f, us_len, is_len, bs_len, lenL_00, nums_us, nums_is, hk0, hw, hR, hI, hdx, hat, hnn] <;> omega)); conv => whnf)
              | ((refine brK_of (fun h => ?_) (fun h => ?_)) <;> (have h2 := h; (try simp only [List.length_nil, not_t, not_f, lt_t, lt_f, le_t, le_f, eq_t, eq_f, us_len, is_len, bs_len, lenL_00, nums_us, nums_is, hk0, hw, hR, hI, hdx, hat, hnn] at h2); conv => whnf))
              | (refine reqK_of ?_ ?_; (focus (first | decide | omega | assumption | (simp only [List.length_nil, not_t, not_f, lt_t, lt_f, le_t, le_f, eq_t, eq_f, us_len, is_len, bs_len, lenL_00, nums_us, nums_is, hk0, hw, hR, hI, hdx, hat, hnn] <;> omega) | (simp [keyNew, sameKey, kEq] <;> omega))); conv => whnf)
              | (refine reqK_of ?_ ?_; rotate_left; (conv => whnf); rotate_left)
              | (refine nthQ ?_ ?_ ?_; (focus (first | omega | (simp only [List.length_nil, not_t, not_f, lt_t, lt_f, le_t, le_f, eq_t, eq_f, us_len, is_len, bs_len, lenL_00, nums_us, nums_is, hk0, hw, hR, hI, hdx, hat, hnn] <;> omega))); (focus (first | omega | (simp only [List.length_nil, not_t, not_f, lt_t, lt_f, le_t, le_f, eq_t, eq_f, us_len, is_len, bs_len, lenL_00, nums_us, nums_is, hk0, hw, hR, hI, hdx, hat, hnn] <;> omega))); conv => whnf)
              | (refine nthS ?_ ?_ ?_; (focus (first | omega | (simp only [List.length_nil, not_t, not_f, lt_t, lt_f, le_t, le_f, eq_t, eq_f, us_len, is_len, bs_len, lenL_00, nums_us, nums_is, hk0, hw, hR, hI, hdx, hat, hnn] <;> omega))); (focus (first | omega | (simp only [List.length_nil, not_t, not_f, lt_t, lt_f, le_t, le_f, eq_t, eq_f, us_len, is_len, bs_len, lenL_00, nums_us, nums_is, hk0, hw, hR, hI, hdx, hat, hnn] <;> omega))); conv => whnf)
              | (refine nth_us ?_ ?_ ?_; (focus (first | omega | (simp only [List.length_nil, not_t, not_f, lt_t, lt_f, le_t, le_f, eq_t, eq_f, us_len, is_len, bs_len, lenL_00, nums_us, nums_is, hk0, hw, hR, hI, hdx, hat, hnn] <;> omega))); (focus (first | omega | (simp only [List.length_nil, not_t, not_f, lt_t, lt_f, le_t, le_f, eq_t, eq_f, us_len, is_len, bs_len, lenL_00, nums_us, nums_is, hk0, hw, hR, hI, hdx, hat, hnn] <;> omega))); conv => whnf)
              | (refine nth_is ?_ ?_ ?_; (focus (first | omega | (simp only [List.length_nil, not_t, not_f, lt_t, lt_f, le_t, le_f, eq_t, eq_f, us_len, is_len, bs_len, lenL_00, nums_us, nums_is, hk0, hw, hR, hI, hdx, hat, hnn] <;> omega))); (focus (first | omega | (simp only [List.length_nil, not_t, not_f, lt_t, lt_f, le_t, le_f, eq_t, eq_f, us_len, is_len, bs_len, lenL_00, nums_us, nums_is, hk0, hw, hR, hI, hdx, hat, hnn] <;> omega))); conv => whnf)
              | (refine nth_bs ?_ ?_ ?_; (focus (first | omega | (simp only [List.length_nil, not_t, not_f, lt_t, lt_f, le_t, le_f, eq_t, eq_f, us_len, is_len, bs_len, lenL_00, nums_us, nums_is, hk0, hw, hR, hI, hdx, hat, hnn] <;> omega))); (focus (first | omega | (simp only [List.length_nil, not_t, not_f, lt_t, lt_f, le_t, le_f, eq_t, eq_f, us_len, is_len, bs_len, lenL_00, nums_us, nums_is, hk0, hw, hR, hI, hdx, hat, hnn] <;> omega))); conv => whnf))
            · refine loopC (hD (j + 1) (by omega) (by omega)) ?_
              rw [hwj, Int.natCast_succ]
              rfl
            · refine loopC (hC ⟨m', L, o + 1, some (n' - 1), r, t + 1, b, k + 1⟩ ⟨hS'.more hlt.2, hsubQ, hllQ, by simp only; omega, by simp only; omega⟩ (by simp only; omega)) ?_
              simp only [nums_us, hk0, hw, hR]
              rfl
  · conv => whnf
    repeat' (first
      | (refine brK_true (by assumption) ?_; conv => whnf)
      | (refine brK_false (by assumption) ?_; conv => whnf)
      | (refine brK_true ?_ ?_; (focus (simp only [List.length_nil, not_t, not_f, lt_t, lt_f, le_t, le_f, eq_t, eq_f, us_len, is_len, bs_len, lenL_00] <;> omega)); conv => whnf)
      | (refine brK_false ?_ ?_; (focus (simp only [List.length_nil, not_t, not_f, lt_t, lt_f, le_t, le_f, eq_t, eq_f, us_len, is_len, bs_len, lenL_00] <;> omega)); conv => whnf)
      | ((refine brK_of (fun h => ?_) (fun h => ?_)) <;> (have h2 := h; (try simp only [List.length_nil, not_t, not_f, lt_t, lt_f, le_t, le_f, eq_t, eq_f, us_len, is_len, bs_len, lenL_00] at h2); conv => whnf))
      | (refine reqK_of ?_ ?_; (focus (first | decide | omega | assumption | (simp only [List.length_nil, not_t, not_f, lt_t, lt_f, le_t, le_f, eq_t, eq_f, us_len, is_len, bs_len, lenL_00] <;> omega) | (simp [keyNew, sameKey, kEq] <;> omega))); conv => whnf)
      | (refine reqK_of ?_ ?_; rotate_left; (conv => whnf); rotate_left)
      | (refine nth_us ?_ ?_ ?_; (focus (first | omega | (simp only [List.length_nil, not_t, not_f, lt_t, lt_f, le_t, le_f, eq_t, eq_f, us_len, is_len, bs_len, lenL_00] <;> omega))); (focus (first | omega | (simp only [List.length_nil, not_t, not_f, lt_t, lt_f, le_t, le_f, eq_t, eq_f, us_len, is_len, bs_len, lenL_00] <;> omega))); conv => whnf)
      | (refine nth_is ?_ ?_ ?_; (focus (first | omega | (simp only [List.length_nil, not_t, not_f, lt_t, lt_f, le_t, le_f, eq_t, eq_f, us_len, is_len, bs_len, lenL_00] <;> omega))); (focus (first | omega | (simp only [List.length_nil, not_t, not_f, lt_t, lt_f, le_t, le_f, eq_t, eq_f, us_len, is_len, bs_len, lenL_00] <;> omega))); conv => whnf)
      | (refine nth_bs ?_ ?_ ?_; (focus (first | omega | (simp only [List.length_nil, not_t, not_f, lt_t, lt_f, le_t, le_f, eq_t, eq_f, us_len, is_len, bs_len, lenL_00] <;> omega))); (focus (first | omega | (simp only [List.length_nil, not_t, not_f, lt_t, lt_f, le_t, le_f, eq_t, eq_f, us_len, is_len, bs_len, lenL_00] <;> omega))); conv => whnf))
open Classical in
noncomputable def c4 : List T → Ans
  | [.int .u8 size, .list 1 xs] => .req ((IsB xs ∧ Szb xs) ∧ R8 size) (.bool true)
  | _ => .no
theorem got4 {vs : List T} {x : T} (h : Got (c4 vs) x) : FnOk Try.prog tgl 4 vs x := by
  unfold c4 at h
  split at h
  · obtain ⟨hq, e⟩ := got_req h; rw [e]; exact ok4 _ _ hq
  · exact (got_no h).elim
theorem nogl4 (vs : List T) (p : Prop) (sz : Nat) (xs : List T) (h : c4 vs = .gl p sz xs) : False := by
  unfold c4 at h
  split at h <;> cases h
theorem pk4 (vs : List T) (p : Prop) (d : Decidable p) (x : T) (h : c4 vs = @Ans.pk p d x) (hp : p) : FnOk Try.prog tgl 4 vs x := by
  unfold c4 at h
  split at h
  · cases h
  · cases h
end Go.Nx
