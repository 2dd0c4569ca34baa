/-
  HOW FAR EACH IS: the document's.
-/
import Derived.Test.YtlgnjeilhjhnkaaDoorRe
set_option linter.unusedVariables false
set_option linter.unusedSimpArgs false
set_option maxRecDepth 20000
set_option maxHeartbeats 4000000
namespace Go.Nx
open Go.RowKit Go.Proofs

def fillN (f g : Nat → Int) (n k : Nat) : List Int := (List.range n).map fun i => if i < k then f i else g i
theorem fillN_len (f g : Nat → Int) (n k : Nat) : (fillN f g n k).length = n := by simp [fillN]
theorem fillN_get (f g : Nat → Int) (n k i : Nat) (h : i < n) : (fillN f g n k)[i]? = some (if i < k then f i else g i) := by
  unfold fillN; rw [List.getElem?_map, List.getElem?_range h]; rfl
theorem fillN_at (f g : Nat → Int) (n k i : Nat) (h : i < n) : at0 (fillN f g n k) i = if i < k then f i else g i := by
  unfold at0; rw [Int.toNat_natCast, fillN_get f g n k i h]; rfl
theorem fillN_set (f g : Nat → Int) (n k : Nat) (h : k < n) : (fillN f g n k).set k (f k) = fillN f g n (k + 1) := by
  apply List.ext_getElem?
  intro i
  rw [List.getElem?_set, fillN_len]
  by_cases hi : i < n
  · rw [fillN_get f g n (k + 1) i hi]
    by_cases e : k = i
    · subst e; rw [if_pos rfl, if_pos hi, if_pos (by omega)]
    · rw [if_neg e, fillN_get f g n k i hi]
      by_cases c : i < k
      · rw [if_pos c, if_pos (by omega)]
      · rw [if_neg c, if_neg (by omega)]
  · rw [List.getElem?_eq_none (by rw [fillN_len]; omega : (fillN f g n (k + 1)).length ≤ i)]
    split
    · rename_i e; subst e; exact absurd h hi
    · exact List.getElem?_eq_none (by rw [fillN_len]; omega)
theorem fillN_same (f g : Nat → Int) (n k : Nat) (h : k < n) (e : g k = f k) : fillN f g n k = fillN f g n (k + 1) := by
  unfold fillN
  apply List.map_congr_left
  intro i hi
  by_cases c : i < k
  · rw [if_pos c, if_pos (by omega)]
  · rw [if_neg c]
    by_cases c2 : i = k
    · subst c2; rw [if_pos (by omega), e]
    · rw [if_neg (by omega)]
theorem fillN_full (f g : Nat → Int) (n : Nat) : fillN f g n n = fillN f f n 0 := by
  unfold fillN
  apply List.map_congr_left
  intro i hi
  have := List.mem_range.1 hi
  rw [if_pos this]; simp
theorem fillN_zero (f g : Nat → Int) (n : Nat) : fillN f g n 0 = fillN g g n 0 := by unfold fillN; simp
noncomputable def dT (L : List (List Int)) (s : B) (d : Nat) (i : Nat) : Int := distT L s d ((i : Int) + 1)
theorem dT_fin (L : List (List Int)) (s : B) : fillN (dT L s (min L.length 64 + 1)) (dT L s (min L.length 64 + 1)) (min L.length 64) 0 = distL L (fun _ => true) s := by
  unfold fillN distL
  apply List.map_congr_left
  intro i _
  simp only [dT, distT_fin]; simp
theorem lev_sub (L : List (List Int)) (s : B) (a : Nat) : under (levB L (fun _ => true) s a) (own L) = true := by
  rw [under_iff]
  intro o ho
  obtain ⟨k, _, h⟩ := has_levB.1 ho
  exact lev_own h
theorem ok12 (sl : Int) (xs : List T) (s : Int) (hq : IsR xs ∧ R64 s) : FnOk Tryd.prog tgl 12 [.agg [.int .i64 sl, .list 1 xs], .int .u64 s] (.list 1 (is (distL (rowsOf xs) (fun _ => true) (bv s)))) := by
  refine fn_ok (Γ := E6) env_E6 Tryd.func12 low12 ?_
  obtain ⟨⟨L, rfl, hL, hl⟩, hs⟩ := hq
  rw [rowsOf_rs]
  have hR : IsR (rs L) := ⟨L, rfl, hL, hl⟩
  obtain ⟨n, hn⟩ : ∃ n, n = min L.length 64 := ⟨_, rfl⟩
  have hm : minI (L.length : Int) 64 = (n : Int) := by rw [maxOf]; omega
  have hn64 : n ≤ 64 := by omega
  conv => whnf
  repeat' (first
    | (refine brK_true (by assumption) ?_; conv => whnf)
    | (refine brK_false (by assumption) ?_; conv => whnf)
    | (refine brK_true ?_ ?_; (focus (simp only [List.length_nil, not_t, not_f, lt_t, lt_f, le_t, le_f, eq_t, eq_f, us_len, is_len, bs_len, lenL_00, rs_len, hm] <;> omega)); conv => whnf)
    | (refine brK_false ?_ ?_; (focus (simp only [List.length_nil, not_t, not_f, lt_t, lt_f, le_t, le_f, eq_t, eq_f, us_len, is_len, bs_len, lenL_00, rs_len, hm] <;> omega)); conv => whnf)
    | ((refine brK_of (fun h => ?_) (fun h => ?_)) <;> (have h2 := h; (try simp only [List.length_nil, not_t, not_f, lt_t, lt_f, le_t, le_f, eq_t, eq_f, us_len, is_len, bs_len, lenL_00, rs_len, hm] at h2); conv => whnf))
    | (refine reqK_of ?_ ?_; (focus (first | decide | omega | assumption | (simp only [List.length_nil, not_t, not_f, lt_t, lt_f, le_t, le_f, eq_t, eq_f, us_len, is_len, bs_len, lenL_00, rs_len, hm] <;> omega) | (simp [keyNew, sameKey, kEq] <;> omega))); conv => whnf)
    | (refine reqK_of ?_ ?_; rotate_left; (conv => whnf); rotate_left)
    | (refine nth_us ?_ ?_ ?_; (focus (first | omega | (simp only [List.length_nil, not_t, not_f, lt_t, lt_f, le_t, le_f, eq_t, eq_f, us_len, is_len, bs_len, lenL_00, rs_len, hm] <;> omega))); (focus (first | omega | (simp only [List.length_nil, not_t, not_f, lt_t, lt_f, le_t, le_f, eq_t, eq_f, us_len, is_len, bs_len, lenL_00, rs_len, hm] <;> omega))); conv => whnf)
    | (refine nth_is ?_ ?_ ?_; (focus (first | omega | (simp only [List.length_nil, not_t, not_f, lt_t, lt_f, le_t, le_f, eq_t, eq_f, us_len, is_len, bs_len, lenL_00, rs_len, hm] <;> omega))); (focus (first | omega | (simp only [List.length_nil, not_t, not_f, lt_t, lt_f, le_t, le_f, eq_t, eq_f, us_len, is_len, bs_len, lenL_00, rs_len, hm] <;> omega))); conv => whnf)
    | (refine nth_bs ?_ ?_ ?_; (focus (first | omega | (simp only [List.length_nil, not_t, not_f, lt_t, lt_f, le_t, le_f, eq_t, eq_f, us_len, is_len, bs_len, lenL_00, rs_len, hm] <;> omega))); (focus (first | omega | (simp only [List.length_nil, not_t, not_f, lt_t, lt_f, le_t, le_f, eq_t, eq_f, us_len, is_len, bs_len, lenL_00, rs_len, hm] <;> omega))); conv => whnf))
  · rw [rs_len, hm]; unfold maxBytes; omega
  rw [rs_len, hm, rowsOf_rs, andI_u, bv_iv, Int.toNat_natCast, show List.replicate n (T.int .i64 0) = is (fillN (fun _ => 0) (fun _ => 0) n 0) by (apply List.ext_getElem? ; intro i; simp only [is, fillN, List.map_map, List.getElem?_replicate, List.getElem?_map]; by_cases h : i < n <;> simp [h])]
  rw [fillN_zero (fun _ => 0) (fun _ => 0), ← fillN_zero (dT L (bv s) 1) (fun _ => 0)]
  refine loopUp [] [.kill 22, .kill 23, .kill 24, .kill 25, .kill 26, .kill 27, .kill 28, .kill 29, .kill 30, .kill 31, .kill 32, .kill 33, .kill 34, .kill 35, .kill 36] (fun k : Nat => [(8, .t (.int .i64 (k : Int)))]) (fun k => [(81, .lst 1 (is (fillN (dT L (bv s) 1) (fun _ => 0) n k)) 0)]) (fun k => k ≤ n) (fun k => n - k) 0 (Nat.zero_le _) ?_
  conv => whnf
  refine ⟨⟨rfl, rfl⟩, fun k hk C hC => ?_⟩
  have hw : IntKind.i64.wrap ((k : Int) + 1) = (k : Int) + 1 := wrap_i64 ⟨by omega, by omega⟩
  have hw2 : IntKind.i64.wrap ((k : Int) + 1 + 1) = (k : Int) + 1 + 1 := wrap_i64 ⟨by omega, by omega⟩
  have hRo := R_iv (bv s &&& own L)
  have hfl := fillN_len (dT L (bv s) 1) (fun _ => 0) n k
  conv => whnf
  repeat' (first
    | (refine brK_true (by assumption) ?_; conv => whnf)
    | (refine brK_false (by assumption) ?_; conv => whnf)
    | (refine brK_true ?_ ?_; (focus (simp only [List.length_nil, not_t, not_f, lt_t, lt_f, le_t, le_f, eq_t, eq_f, us_len, is_len, bs_len, lenL_00, hfl, List.length_set, hw] <;> omega)); conv => whnf)
    | (refine brK_false ?_ ?_; (focus (simp only [List.length_nil, not_t, not_f, lt_t, lt_f, le_t, le_f, eq_t, eq_f, us_len, is_len, bs_len, lenL_00, hfl, List.length_set, hw] <;> omega)); conv => whnf)
    | ((refine brK_of (fun h => ?_) (fun h => ?_)) <;> (have h2 := h; (try simp only [List.length_nil, not_t, not_f, lt_t, lt_f, le_t, le_f, eq_t, eq_f, us_len, is_len, bs_len, lenL_00, hfl, List.length_set, hw] at h2); conv => whnf))
    | (refine reqK_of ?_ ?_; (focus (first | decide | omega | assumption | (simp only [List.length_nil, not_t, not_f, lt_t, lt_f, le_t, le_f, eq_t, eq_f, us_len, is_len, bs_len, lenL_00, hfl, List.length_set, hw] <;> omega) | (simp [keyNew, sameKey, kEq] <;> omega))); conv => whnf)
    | (refine reqK_of ?_ ?_; rotate_left; (conv => whnf); rotate_left)
    | (refine nth_us ?_ ?_ ?_; (focus (first | omega | (simp only [List.length_nil, not_t, not_f, lt_t, lt_f, le_t, le_f, eq_t, eq_f, us_len, is_len, bs_len, lenL_00, hfl, List.length_set, hw] <;> omega))); (focus (first | omega | (simp only [List.length_nil, not_t, not_f, lt_t, lt_f, le_t, le_f, eq_t, eq_f, us_len, is_len, bs_len, lenL_00, hfl, List.length_set, hw] <;> omega))); conv => whnf)
    | (refine nth_is ?_ ?_ ?_; (focus (first | omega | (simp only [List.length_nil, not_t, not_f, lt_t, lt_f, le_t, le_f, eq_t, eq_f, us_len, is_len, bs_len, lenL_00, hfl, List.length_set, hw] <;> omega))); (focus (first | omega | (simp only [List.length_nil, not_t, not_f, lt_t, lt_f, le_t, le_f, eq_t, eq_f, us_len, is_len, bs_len, lenL_00, hfl, List.length_set, hw] <;> omega))); conv => whnf)
    | (refine nth_bs ?_ ?_ ?_; (focus (first | omega | (simp only [List.length_nil, not_t, not_f, lt_t, lt_f, le_t, le_f, eq_t, eq_f, us_len, is_len, bs_len, lenL_00, hfl, List.length_set, hw] <;> omega))); (focus (first | omega | (simp only [List.length_nil, not_t, not_f, lt_t, lt_f, le_t, le_f, eq_t, eq_f, us_len, is_len, bs_len, lenL_00, hfl, List.length_set, hw] <;> omega))); conv => whnf))
  · have h3 : has (bv (iv (bv s &&& own L))) (IntKind.i64.wrap ((k : Int) + 1)) = true := by assumption
    rw [hw, bv_iv] at h3
    have e : dT L (bv s) 1 k = 0 := by unfold dT; rw [distT_one, if_pos h3]
    refine loopC (hC (k + 1) (by omega) (by omega)) ?_
    rw [← fillN_set _ _ _ _ (by omega : k < n), e, hw, Int.natCast_succ]
    simp only [natadd0, Int.toNat_natCast, is_set, List.set_set]
    rfl
  · have h3 : has (bv (iv (bv s &&& own L))) (IntKind.i64.wrap ((k : Int) + 1)) = false := by assumption
    rw [hw, bv_iv] at h3
    have e : dT L (bv s) 1 k = -1 := by unfold dT; rw [distT_one, if_neg (by rw [h3]; decide)]
    refine loopC (hC (k + 1) (by omega) (by omega)) ?_
    rw [← fillN_set _ _ _ _ (by omega : k < n), e, hw, Int.natCast_succ]
    simp only [natadd0, Int.toNat_natCast, is_set, List.set_set]
    rfl
  have ek : k = n := by omega
  subst ek
  rw [fillN_full, ← levB_zero L (fun _ => true) (bv s)]
  refine loopUp [] [.kill 10, .kill 11, .kill 37, .kill 38, .kill 39, .kill 40, .kill 41, .kill 42, .kill 43, .kill 44, .kill 45, .kill 46, .kill 47, .kill 48, .kill 49, .kill 50, .kill 51, .kill 52, .kill 53, .kill 54, .kill 55, .kill 56, .kill 57, .kill 58, .kill 59, .kill 60, .kill 61, .kill 62, .kill 63, .kill 64, .kill 65, .kill 66, .kill 67] (fun a : Nat => [(7, .t (.int .u64 (iv (levB L (fun _ => true) (bv s) a)))), (9, .t (.int .i64 ((a : Int) + 1)))]) (fun a => [(81, .lst 1 (is (fillN (dT L (bv s) (a + 1)) (dT L (bv s) (a + 1)) k 0)) 0)]) (fun a => a ≤ k) (fun a => k - a) 0 (Nat.zero_le _) ?_
  conv => whnf
  refine ⟨⟨rfl, rfl⟩, fun a ha C2 hC2 => ?_⟩
  have hwa : IntKind.i64.wrap ((a : Int) + 1 + 1) = (a : Int) + 1 + 1 := wrap_i64 ⟨by omega, by omega⟩
  have hRa := R_iv (levB L (fun _ => true) (bv s) a)
  have hsub := lev_sub L (bv s) a
  have hRn := R_iv (nextB L (levB L (fun _ => true) (bv s) a))
  conv => whnf
  repeat' (first
    | (refine brK_true (by assumption) ?_; conv => whnf)
    | (refine brK_false (by assumption) ?_; conv => whnf)
    | (refine brK_true ?_ ?_; (focus (simp only [List.length_nil, not_t, not_f, lt_t, lt_f, le_t, le_f, eq_t, eq_f, us_len, is_len, bs_len, lenL_00, rowsOf_rs, bv_iv] <;> omega)); conv => whnf)
    | (refine brK_false ?_ ?_; (focus (simp only [List.length_nil, not_t, not_f, lt_t, lt_f, le_t, le_f, eq_t, eq_f, us_len, is_len, bs_len, lenL_00, rowsOf_rs, bv_iv] <;> omega)); conv => whnf)
    | ((refine brK_of (fun h => ?_) (fun h => ?_)) <;> (have h2 := h; (try simp only [List.length_nil, not_t, not_f, lt_t, lt_f, le_t, le_f, eq_t, eq_f, us_len, is_len, bs_len, lenL_00, rowsOf_rs, bv_iv] at h2); conv => whnf))
    | (refine reqK_of ?_ ?_; (focus (first | decide | omega | assumption | (simp only [List.length_nil, not_t, not_f, lt_t, lt_f, le_t, le_f, eq_t, eq_f, us_len, is_len, bs_len, lenL_00, rowsOf_rs, bv_iv] <;> omega) | (simp [keyNew, sameKey, kEq] <;> omega))); conv => whnf)
    | (refine reqK_of ?_ ?_; rotate_left; (conv => whnf); rotate_left)
    | (refine nth_us ?_ ?_ ?_; (focus (first | omega | (simp only [List.length_nil, not_t, not_f, lt_t, lt_f, le_t, le_f, eq_t, eq_f, us_len, is_len, bs_len, lenL_00, rowsOf_rs, bv_iv] <;> omega))); (focus (first | omega | (simp only [List.length_nil, not_t, not_f, lt_t, lt_f, le_t, le_f, eq_t, eq_f, us_len, is_len, bs_len, lenL_00, rowsOf_rs, bv_iv] <;> omega))); conv => whnf)
    | (refine nth_is ?_ ?_ ?_; (focus (first | omega | (simp only [List.length_nil, not_t, not_f, lt_t, lt_f, le_t, le_f, eq_t, eq_f, us_len, is_len, bs_len, lenL_00, rowsOf_rs, bv_iv] <;> omega))); (focus (first | omega | (simp only [List.length_nil, not_t, not_f, lt_t, lt_f, le_t, le_f, eq_t, eq_f, us_len, is_len, bs_len, lenL_00, rowsOf_rs, bv_iv] <;> omega))); conv => whnf)
    | (refine nth_bs ?_ ?_ ?_; (focus (first | omega | (simp only [List.length_nil, not_t, not_f, lt_t, lt_f, le_t, le_f, eq_t, eq_f, us_len, is_len, bs_len, lenL_00, rowsOf_rs, bv_iv] <;> omega))); (focus (first | omega | (simp only [List.length_nil, not_t, not_f, lt_t, lt_f, le_t, le_f, eq_t, eq_f, us_len, is_len, bs_len, lenL_00, rowsOf_rs, bv_iv] <;> omega))); conv => whnf))
  · rw [rowsOf_rs, bv_iv]; exact ⟨⟨hR, hRa⟩, hsub⟩
  · rw [rowsOf_rs, bv_iv, ← fillN_zero (dT L (bv s) (a + 2))]
    refine loopUp [] [.kill 45, .kill 46, .kill 47, .kill 48, .kill 49, .kill 50, .kill 51, .kill 52, .kill 53, .kill 54, .kill 55, .kill 56, .kill 57, .kill 58, .kill 59, .kill 60, .kill 61, .kill 62, .kill 63, .kill 64] (fun j : Nat => [(11, .t (.int .i64 (j : Int)))]) (fun j => [(81, .lst 1 (is (fillN (dT L (bv s) (a + 2)) (dT L (bv s) (a + 1)) k j)) 0)]) (fun j => j ≤ k) (fun j => k - j) 0 (Nat.zero_le _) ?_
    conv => whnf
    refine ⟨⟨rfl, rfl⟩, fun j hj C3 hC3 => ?_⟩
    have hwj : IntKind.i64.wrap ((j : Int) + 1) = (j : Int) + 1 := wrap_i64 ⟨by omega, by omega⟩
    have hflj := fillN_len (dT L (bv s) (a + 2)) (dT L (bv s) (a + 1)) k j
    have hj0 : ((Nat.add 0 (Int.toNat (j : Int)) : Nat) : Int) = j := by simp
    have hset : ∀ x : Int, dT L (bv s) (a + 2) j = x → j < k → (is (fillN (dT L (bv s) (a + 2)) (dT L (bv s) (a + 1)) k j)).set (Nat.add 0 (Int.toNat (j : Int))) (.int .i64 x) = is (fillN (dT L (bv s) (a + 2)) (dT L (bv s) (a + 1)) k (j + 1)) := fun x hx hjk => by
      rw [natadd0, Int.toNat_natCast, is_set, ← hx, fillN_set _ _ _ _ hjk]
    have hsame : dT L (bv s) (a + 2) j = dT L (bv s) (a + 1) j → j < k → fillN (dT L (bv s) (a + 2)) (dT L (bv s) (a + 1)) k j = fillN (dT L (bv s) (a + 2)) (dT L (bv s) (a + 1)) k (j + 1) := fun h hjk => fillN_same _ _ _ _ hjk h.symm
    have hat : j < k → at0 (fillN (dT L (bv s) (a + 2)) (dT L (bv s) (a + 1)) k j) (Nat.add 0 (Int.toNat (j : Int)) : Nat) = dT L (bv s) (a + 1) j := fun hjk => by rw [hj0, fillN_at _ _ _ _ _ hjk, if_neg (Nat.lt_irrefl _)]
    have hst : dT L (bv s) (a + 2) j = if has (nextB L (levB L (fun _ => true) (bv s) a)) ((j : Int) + 1) = true ∧ dT L (bv s) (a + 1) j < 0 then (a : Int) + 1 else dT L (bv s) (a + 1) j := distT_succ L (bv s) a _
    conv => whnf
    repeat' (first
      | (refine brK_true (by assumption) ?_; conv => whnf)
      | (refine brK_false (by assumption) ?_; conv => whnf)
      | (refine brK_true ?_ ?_; (focus (simp only [List.length_nil, not_t, not_f, lt_t, lt_f, le_t, le_f, eq_t, eq_f, us_len, is_len, bs_len, lenL_00, hflj, hwj, hj0] <;> omega)); conv => whnf)
      | (refine brK_false ?_ ?_; (focus (simp only [List.length_nil, not_t, not_f, lt_t, lt_f, le_t, le_f, eq_t, eq_f, us_len, is_len, bs_len, lenL_00, hflj, hwj, hj0] <;> omega)); conv => whnf)
      | ((refine brK_of (fun h => ?_) (fun h => ?_)) <;> (have h2 := h; (try simp only [List.length_nil, not_t, not_f, lt_t, lt_f, le_t, le_f, eq_t, eq_f, us_len, is_len, bs_len, lenL_00, hflj, hwj, hj0] at h2); conv => whnf))
      | (refine reqK_of ?_ ?_; (focus (first | decide | omega | assumption | (simp only [List.length_nil, not_t, not_f, lt_t, lt_f, le_t, le_f, eq_t, eq_f, us_len, is_len, bs_len, lenL_00, hflj, hwj, hj0] <;> omega) | (simp [keyNew, sameKey, kEq] <;> omega))); conv => whnf)
      | (refine reqK_of ?_ ?_; rotate_left; (conv => whnf); rotate_left)
      | (refine nth_us ?_ ?_ ?_; (focus (first | omega | (simp only [List.length_nil, not_t, not_f, lt_t, lt_f, le_t, le_f, eq_t, eq_f, us_len, is_len, bs_len, lenL_00, hflj, hwj, hj0] <;> omega))); (focus (first | omega | (simp only [List.length_nil, not_t, not_f, lt_t, lt_f, le_t, le_f, eq_t, eq_f, us_len, is_len, bs_len, lenL_00, hflj, hwj, hj0] <;> omega))); conv => whnf)
      | (refine nth_is ?_ ?_ ?_; (focus (first | omega | (simp only [List.length_nil, not_t, not_f, lt_t, lt_f, le_t, le_f, eq_t, eq_f, us_len, is_len, bs_len, lenL_00, hflj, hwj, hj0] <;> omega))); (focus (first | omega | (simp only [List.length_nil, not_t, not_f, lt_t, lt_f, le_t, le_f, eq_t, eq_f, us_len, is_len, bs_len, lenL_00, hflj, hwj, hj0] <;> omega))); conv => whnf)
      | (refine nth_bs ?_ ?_ ?_; (focus (first | omega | (simp only [List.length_nil, not_t, not_f, lt_t, lt_f, le_t, le_f, eq_t, eq_f, us_len, is_len, bs_len, lenL_00, hflj, hwj, hj0] <;> omega))); (focus (first | omega | (simp only [List.length_nil, not_t, not_f, lt_t, lt_f, le_t, le_f, eq_t, eq_f, us_len, is_len, bs_len, lenL_00, hflj, hwj, hj0] <;> omega))); conv => whnf))
    all_goals try rw [hwj] at *
    all_goals try rw [bv_iv] at *
    · have hj : j < k := by omega
      rw [hat hj] at h
      refine loopC (hC3 (j + 1) (by omega) (by omega)) ?_
      rw [hset _ (by rw [hst, if_pos ⟨by assumption, lt_t.1 h⟩]) hj, Int.natCast_succ]
      rfl
    · have hj : j < k := by omega
      rw [hat hj] at h
      refine loopC (hC3 (j + 1) (by omega) (by omega)) ?_
      rw [hsame (by rw [hst, if_neg (fun g => by have := lt_f.1 h; have := g.2; omega)]) hj, Int.natCast_succ]
      rfl
    · have hj : j < k := by omega
      refine loopC (hC3 (j + 1) (by omega) (by omega)) ?_
      rw [hsame (by rw [hst, if_neg (fun g => by rw [h] at g; exact absurd g.1 (by decide))]) hj, Int.natCast_succ]
      rfl
    · have ej : j = k := by omega
      subst ej
      refine loopC (hC2 (a + 1) (by omega) (by omega)) ?_
      rw [hwa, orI_u, bv_iv, bv_iv, levB_succ, fillN_full, Int.natCast_succ]
      rfl
  · have ea : a = k := by omega
    subst ea
    rw [subL_00, hn, dT_fin]
open Classical in
noncomputable def c12 : List T → Ans
  | [.agg [.int .i64 sl, .list 1 xs], .int .u64 s] => .req (IsR xs ∧ R64 s) (.list 1 (is (distL (rowsOf xs) (fun _ => true) (bv s))))
  | _ => .no
theorem got12 {vs : List T} {x : T} (h : Got (c12 vs) x) : FnOk Tryd.prog tgl 12 vs x := by
  unfold c12 at h
  split at h
  · obtain ⟨hq, e⟩ := got_req h; rw [e]; exact ok12 _ _ _ hq
  · exact (got_no h).elim
theorem nogl12 (vs : List T) (p : Prop) (d : Decidable p) (sz : Nat) (xs : List T) (h : c12 vs = @Ans.gl p d sz xs) : False := by
  unfold c12 at h
  split at h <;> cases h
theorem pk12 (vs : List T) (p : Prop) (d : Decidable p) (x : T) (h : c12 vs = @Ans.pk p d x) (hp : p) : FnOk Tryd.prog tgl 12 vs x := by
  unfold c12 at h
  split at h
  · cases h
  · cases h
end Go.Nx
