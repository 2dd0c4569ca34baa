/-
  WHAT CAN BE REACHED: what the functions answer; three laws.
-/
import Derived.Test.YtlgnjeilhjhnkaaDoorRg
set_option linter.unusedVariables false
set_option linter.unusedSimpArgs false
set_option maxRecDepth 20000
set_option maxHeartbeats 4000000
namespace Go.Nx
open Go.RowKit Go.Proofs

noncomputable def lE7 : List (Nat × (List T → Ans)) := (28, c28) :: (23, c23) :: (14, c14) :: (12, c12) :: lE6
noncomputable def iE7 : List (Nat × Pt) := iE6
noncomputable abbrev E7 : Env := En tgl lE7 iE7
theorem env_E7 : EnvOk Tryd.prog E7 := (env_fn (env_fn (env_fn (env_fn env_E6 (fun _ _ => got12) (fun vs p d sz xs h _ => (nogl12 vs p d sz xs h).elim) pk12) (fun _ _ => got14) (fun vs p d sz xs h _ => (nogl14 vs p d sz xs h).elim) pk14) (fun _ _ => got23) (fun vs p d sz xs h _ => (nogl23 vs p d sz xs h).elim) pk23) (fun _ _ => got28) (fun vs p d sz xs h _ => (nogl28 vs p d sz xs h).elim) pk28)
theorem isM_metF (L : List (List Int)) (op : Int → Bool) (s : B) : IsM (is (metF L op s)) := by
  refine ⟨isI_is fun n hn => ?_, by rw [is_len, metF_len]⟩
  obtain ⟨i, hi, rfl⟩ := List.mem_map.1 hn
  have h1 := distI_range L op s ((i : Int) + 1)
  unfold I64
  by_cases h : Rch L op s ((i : Int) + 1)
  · have := distI_le L op s h
    omega
  · rw [distI_no h]; omega
theorem ok13 (sl : Int) (xs : List T) (s : Int) (hq : IsR xs ∧ R64 s) : FnOk Tryd.prog tgl 13 [.agg [.int .i64 sl, .list 1 xs], .int .u64 s] (.int .u64 (iv (rchB (rowsOf xs) (fun _ => true) (bv s)))) := by
  refine fn_ok (Γ := E7) env_E7 Tryd.func13 low13 ?_
  obtain ⟨hR, hs⟩ := hq
  have hM := isM_metF (rowsOf xs) (fun _ => true) (bv s)
  conv => whnf
  repeat' (first
    | (refine brK_true (by assumption) ?_; conv => whnf)
    | (refine brK_false (by assumption) ?_; conv => whnf)
    | (refine brK_true ?_ ?_; (focus (simp only [List.length_nil, not_t, not_f, lt_t, lt_f, le_t, le_f, eq_t, eq_f, us_len, is_len, bs_len, lenL_00, nums_is] <;> omega)); conv => whnf)
    | (refine brK_false ?_ ?_; (focus (simp only [List.length_nil, not_t, not_f, lt_t, lt_f, le_t, le_f, eq_t, eq_f, us_len, is_len, bs_len, lenL_00, nums_is] <;> omega)); conv => whnf)
    | ((refine brK_of (fun h => ?_) (fun h => ?_)) <;> (have h2 := h; (try simp only [List.length_nil, not_t, not_f, lt_t, lt_f, le_t, le_f, eq_t, eq_f, us_len, is_len, bs_len, lenL_00, nums_is] at h2); conv => whnf))
    | (refine reqK_of ?_ ?_; (focus (first | decide | omega | assumption | (simp only [List.length_nil, not_t, not_f, lt_t, lt_f, le_t, le_f, eq_t, eq_f, us_len, is_len, bs_len, lenL_00, nums_is] <;> omega) | (simp [keyNew, sameKey, kEq] <;> omega))); conv => whnf)
    | (refine reqK_of ?_ ?_; rotate_left; (conv => whnf); rotate_left)
    | (refine nth_us ?_ ?_ ?_; (focus (first | omega | (simp only [List.length_nil, not_t, not_f, lt_t, lt_f, le_t, le_f, eq_t, eq_f, us_len, is_len, bs_len, lenL_00, nums_is] <;> omega))); (focus (first | omega | (simp only [List.length_nil, not_t, not_f, lt_t, lt_f, le_t, le_f, eq_t, eq_f, us_len, is_len, bs_len, lenL_00, nums_is] <;> omega))); conv => whnf)
    | (refine nth_is ?_ ?_ ?_; (focus (first | omega | (simp only [List.length_nil, not_t, not_f, lt_t, lt_f, le_t, le_f, eq_t, eq_f, us_len, is_len, bs_len, lenL_00, nums_is] <;> omega))); (focus (first | omega | (simp only [List.length_nil, not_t, not_f, lt_t, lt_f, le_t, le_f, eq_t, eq_f, us_len, is_len, bs_len, lenL_00, nums_is] <;> omega))); conv => whnf)
    | (refine nth_bs ?_ ?_ ?_; (focus (first | omega | (simp only [List.length_nil, not_t, not_f, lt_t, lt_f, le_t, le_f, eq_t, eq_f, us_len, is_len, bs_len, lenL_00, nums_is] <;> omega))); (focus (first | omega | (simp only [List.length_nil, not_t, not_f, lt_t, lt_f, le_t, le_f, eq_t, eq_f, us_len, is_len, bs_len, lenL_00, nums_is] <;> omega))); conv => whnf))
  · exact ⟨.inr rfl, hR, hs⟩
  · rw [nums_is, ofM_metF]
open Classical in
noncomputable def c13 : List T → Ans
  | [.agg [.int .i64 sl, .list 1 xs], .int .u64 s] => .req (IsR xs ∧ R64 s) (.int .u64 (iv (rchB (rowsOf xs) (fun _ => true) (bv s))))
  | _ => .no
theorem got13 {vs : List T} {x : T} (h : Got (c13 vs) x) : FnOk Tryd.prog tgl 13 vs x := by
  unfold c13 at h
  split at h
  · obtain ⟨hq, e⟩ := got_req h; rw [e]; exact ok13 _ _ _ hq
  · exact (got_no h).elim
theorem nogl13 (vs : List T) (p : Prop) (d : Decidable p) (sz : Nat) (xs : List T) (h : c13 vs = @Ans.gl p d sz xs) : False := by
  unfold c13 at h
  split at h <;> cases h
theorem pk13 (vs : List T) (p : Prop) (d : Decidable p) (x : T) (h : c13 vs = @Ans.pk p d x) (hp : p) : FnOk Tryd.prog tgl 13 vs x := by
  unfold c13 at h
  split at h
  · cases h
  · cases h
theorem ok15 (sl : Int) (xs : List T) (s v : Int) (hq : IsR xs ∧ R64 s) : FnOk Tryd.prog tgl 15 [.agg [.int .i64 sl, .list 1 xs], .int .u64 s, .int .u64 v] (.int .u64 (iv (rchB (rowsOf xs) (has (orS s v)) (bv s)))) := by
  refine fn_ok (Γ := E7) env_E7 Tryd.func15 low15 ?_
  obtain ⟨hR, hs⟩ := hq
  have hM := isM_metF (rowsOf xs) (has (orS s v)) (bv s)
  conv => whnf
  repeat' (first
    | (refine brK_true (by assumption) ?_; conv => whnf)
    | (refine brK_false (by assumption) ?_; conv => whnf)
    | (refine brK_true ?_ ?_; (focus (simp only [List.length_nil, not_t, not_f, lt_t, lt_f, le_t, le_f, eq_t, eq_f, us_len, is_len, bs_len, lenL_00, nums_is] <;> omega)); conv => whnf)
    | (refine brK_false ?_ ?_; (focus (simp only [List.length_nil, not_t, not_f, lt_t, lt_f, le_t, le_f, eq_t, eq_f, us_len, is_len, bs_len, lenL_00, nums_is] <;> omega)); conv => whnf)
    | ((refine brK_of (fun h => ?_) (fun h => ?_)) <;> (have h2 := h; (try simp only [List.length_nil, not_t, not_f, lt_t, lt_f, le_t, le_f, eq_t, eq_f, us_len, is_len, bs_len, lenL_00, nums_is] at h2); conv => whnf))
    | (refine reqK_of ?_ ?_; (focus (first | decide | omega | assumption | (simp only [List.length_nil, not_t, not_f, lt_t, lt_f, le_t, le_f, eq_t, eq_f, us_len, is_len, bs_len, lenL_00, nums_is] <;> omega) | (simp [keyNew, sameKey, kEq] <;> omega))); conv => whnf)
    | (refine reqK_of ?_ ?_; rotate_left; (conv => whnf); rotate_left)
    | (refine nth_us ?_ ?_ ?_; (focus (first | omega | (simp only [List.length_nil, not_t, not_f, lt_t, lt_f, le_t, le_f, eq_t, eq_f, us_len, is_len, bs_len, lenL_00, nums_is] <;> omega))); (focus (first | omega | (simp only [List.length_nil, not_t, not_f, lt_t, lt_f, le_t, le_f, eq_t, eq_f, us_len, is_len, bs_len, lenL_00, nums_is] <;> omega))); conv => whnf)
    | (refine nth_is ?_ ?_ ?_; (focus (first | omega | (simp only [List.length_nil, not_t, not_f, lt_t, lt_f, le_t, le_f, eq_t, eq_f, us_len, is_len, bs_len, lenL_00, nums_is] <;> omega))); (focus (first | omega | (simp only [List.length_nil, not_t, not_f, lt_t, lt_f, le_t, le_f, eq_t, eq_f, us_len, is_len, bs_len, lenL_00, nums_is] <;> omega))); conv => whnf)
    | (refine nth_bs ?_ ?_ ?_; (focus (first | omega | (simp only [List.length_nil, not_t, not_f, lt_t, lt_f, le_t, le_f, eq_t, eq_f, us_len, is_len, bs_len, lenL_00, nums_is] <;> omega))); (focus (first | omega | (simp only [List.length_nil, not_t, not_f, lt_t, lt_f, le_t, le_f, eq_t, eq_f, us_len, is_len, bs_len, lenL_00, nums_is] <;> omega))); conv => whnf))
  all_goals first
    | exact ⟨rfl, hR, hs⟩
    | rw [nums_is, ofM_metF]
open Classical in
noncomputable def c15 : List T → Ans
  | [.agg [.int .i64 sl, .list 1 xs], .int .u64 s, .int .u64 v] => .req (IsR xs ∧ R64 s) (.int .u64 (iv (rchB (rowsOf xs) (has (orS s v)) (bv s))))
  | _ => .no
theorem got15 {vs : List T} {x : T} (h : Got (c15 vs) x) : FnOk Tryd.prog tgl 15 vs x := by
  unfold c15 at h
  split at h
  · obtain ⟨hq, e⟩ := got_req h; rw [e]; exact ok15 _ _ _ _ hq
  · exact (got_no h).elim
theorem nogl15 (vs : List T) (p : Prop) (d : Decidable p) (sz : Nat) (xs : List T) (h : c15 vs = @Ans.gl p d sz xs) : False := by
  unfold c15 at h
  split at h <;> cases h
theorem pk15 (vs : List T) (p : Prop) (d : Decidable p) (x : T) (h : c15 vs = @Ans.pk p d x) (hp : p) : FnOk Tryd.prog tgl 15 vs x := by
  unfold c15 at h
  split at h
  · cases h
  · cases h
theorem lenL_0n (ts : List T) (n : Nat) : lenL ts 0 (some n) = (n : Int) := rfl
theorem ok11 (sl : Int) (xs : List T) (s : Int) (hq : IsR xs ∧ R64 s) : FnOk Tryd.prog tgl 11 [.agg [.int .i64 sl, .list 1 xs], .int .u64 s] (.list 1 (is (distL (rowsOf xs) (fun _ => true) (bv s)))) := by
  refine fn_ok (Γ := E7) env_E7 Tryd.func11 low11 ?_
  obtain ⟨⟨L, rfl, hL, hl⟩, hs⟩ := hq
  rw [rowsOf_rs]
  have hR : IsR (rs L) := ⟨L, rfl, hL, hl⟩
  obtain ⟨n, hn⟩ : ∃ n, n = min L.length 64 := ⟨_, rfl⟩
  have hm : minI (L.length : Int) 64 = (n : Int) := by rw [maxOf]; omega
  have hn64 : n ≤ 64 := by omega
  have hM := isM_metF L (fun _ => true) (bv s)
  have hml := metF_len L (fun _ => true) (bv s)
  have hF : metF L (fun _ => true) (bv s) = fillN (fun i : Nat => distI L (fun _ => true) (bv s) ((i : Int) + 1)) (fun i : Nat => distI L (fun _ => true) (bv s) ((i : Int) + 1) + 1) 64 0 := by
    unfold fillN metF
    apply List.map_congr_left
    intro i _
    simp
  have hB : ∀ v, -1 ≤ distI L (fun _ => true) (bv s) v ∧ distI L (fun _ => true) (bv s) v ≤ 64 := fun v => by
    have h1 := distI_range L (fun _ => true) (bv s) v
    by_cases h : Rch L (fun _ => true) (bv s) v
    · have := distI_le L (fun _ => true) (bv s) h
      omega
    · rw [distI_no h]; omega
  conv => whnf
  repeat' (first
    | (refine brK_true (by assumption) ?_; conv => whnf)
    | (refine brK_false (by assumption) ?_; conv => whnf)
    | (refine brK_true ?_ ?_; (focus (simp only [List.length_nil, not_t, not_f, lt_t, lt_f, le_t, le_f, eq_t, eq_f, us_len, is_len, bs_len, lenL_00, rs_len, hm, rowsOf_rs] <;> omega)); conv => whnf)
    | (refine brK_false ?_ ?_; (focus (simp only [List.length_nil, not_t, not_f, lt_t, lt_f, le_t, le_f, eq_t, eq_f, us_len, is_len, bs_len, lenL_00, rs_len, hm, rowsOf_rs] <;> omega)); conv => whnf)
    | ((refine brK_of (fun h => ?_) (fun h => ?_)) <;> (have h2 := h; (try simp only [List.length_nil, not_t, not_f, lt_t, lt_f, le_t, le_f, eq_t, eq_f, us_len, is_len, bs_len, lenL_00, rs_len, hm, rowsOf_rs] at h2); conv => whnf))
    | (refine reqK_of ?_ ?_; (focus (first | decide | omega | assumption | (simp only [List.length_nil, not_t, not_f, lt_t, lt_f, le_t, le_f, eq_t, eq_f, us_len, is_len, bs_len, lenL_00, rs_len, hm, rowsOf_rs] <;> omega) | (simp [keyNew, sameKey, kEq] <;> omega))); conv => whnf)
    | (refine reqK_of ?_ ?_; rotate_left; (conv => whnf); rotate_left)
    | (refine nth_us ?_ ?_ ?_; (focus (first | omega | (simp only [List.length_nil, not_t, not_f, lt_t, lt_f, le_t, le_f, eq_t, eq_f, us_len, is_len, bs_len, lenL_00, rs_len, hm, rowsOf_rs] <;> omega))); (focus (first | omega | (simp only [List.length_nil, not_t, not_f, lt_t, lt_f, le_t, le_f, eq_t, eq_f, us_len, is_len, bs_len, lenL_00, rs_len, hm, rowsOf_rs] <;> omega))); conv => whnf)
    | (refine nth_is ?_ ?_ ?_; (focus (first | omega | (simp only [List.length_nil, not_t, not_f, lt_t, lt_f, le_t, le_f, eq_t, eq_f, us_len, is_len, bs_len, lenL_00, rs_len, hm, rowsOf_rs] <;> omega))); (focus (first | omega | (simp only [List.length_nil, not_t, not_f, lt_t, lt_f, le_t, le_f, eq_t, eq_f, us_len, is_len, bs_len, lenL_00, rs_len, hm, rowsOf_rs] <;> omega))); conv => whnf)
    | (refine nth_bs ?_ ?_ ?_; (focus (first | omega | (simp only [List.length_nil, not_t, not_f, lt_t, lt_f, le_t, le_f, eq_t, eq_f, us_len, is_len, bs_len, lenL_00, rs_len, hm, rowsOf_rs] <;> omega))); (focus (first | omega | (simp only [List.length_nil, not_t, not_f, lt_t, lt_f, le_t, le_f, eq_t, eq_f, us_len, is_len, bs_len, lenL_00, rs_len, hm, rowsOf_rs] <;> omega))); conv => whnf))
  · exact ⟨.inl rfl, hR, hs⟩
  · exact ⟨by rw [is_len, rowsOf_rs]; exact hml, rfl, is_one _⟩
  rw [rs_len, hm, rowsOf_rs, Int.toNat_natCast, hF]
  refine loopUp [] [.kill 7, .kill 19, .kill 20, .kill 21, .kill 22, .kill 23, .kill 24, .kill 25, .kill 26, .kill 27] (fun k : Nat => [(18, .t (.int .i64 (k : Int)))]) (fun k => [(69, .lst 1 (is (fillN (fun i : Nat => distI L (fun _ => true) (bv s) ((i : Int) + 1)) (fun i : Nat => distI L (fun _ => true) (bv s) ((i : Int) + 1) + 1) 64 k)) 0)]) (fun k => k ≤ n) (fun k => n - k) 0 (Nat.zero_le _) ?_
  conv => whnf
  refine ⟨⟨rfl, rfl⟩, fun k hk C hC => ?_⟩
  have hw : IntKind.i64.wrap ((k : Int) + 1) = (k : Int) + 1 := wrap_i64 ⟨by omega, by omega⟩
  obtain ⟨f, hf⟩ : ∃ f : Nat → Int, f = fun i : Nat => distI L (fun _ => true) (bv s) ((i : Int) + 1) := ⟨_, rfl⟩
  obtain ⟨g, hg⟩ : ∃ g : Nat → Int, g = fun i : Nat => distI L (fun _ => true) (bv s) ((i : Int) + 1) + 1 := ⟨_, rfl⟩
  rw [← hf, ← hg] at hC ⊢
  have hfl := fillN_len f g 64 k
  have hj0 : ((Nat.add 0 (Int.toNat (k : Int)) : Nat) : Int) = k := by simp
  conv => whnf
  repeat' (first
    | (refine brK_true (by assumption) ?_; conv => whnf)
    | (refine brK_false (by assumption) ?_; conv => whnf)
    | (refine brK_true ?_ ?_; (focus (simp only [List.length_nil, not_t, not_f, lt_t, lt_f, le_t, le_f, eq_t, eq_f, us_len, is_len, bs_len, lenL_00, hfl, hj0, lenL_0n] <;> omega)); conv => whnf)
    | (refine brK_false ?_ ?_; (focus (simp only [List.length_nil, not_t, not_f, lt_t, lt_f, le_t, le_f, eq_t, eq_f, us_len, is_len, bs_len, lenL_00, hfl, hj0, lenL_0n] <;> omega)); conv => whnf)
    | ((refine brK_of (fun h => ?_) (fun h => ?_)) <;> (have h2 := h; (try simp only [List.length_nil, not_t, not_f, lt_t, lt_f, le_t, le_f, eq_t, eq_f, us_len, is_len, bs_len, lenL_00, hfl, hj0, lenL_0n] at h2); conv => whnf))
    | (refine reqK_of ?_ ?_; (focus (first | decide | omega | assumption | (simp only [List.length_nil, not_t, not_f, lt_t, lt_f, le_t, le_f, eq_t, eq_f, us_len, is_len, bs_len, lenL_00, hfl, hj0, lenL_0n] <;> omega) | (simp [keyNew, sameKey, kEq] <;> omega))); conv => whnf)
    | (refine reqK_of ?_ ?_; rotate_left; (conv => whnf); rotate_left)
    | (refine nth_us ?_ ?_ ?_; (focus (first | omega | (simp only [List.length_nil, not_t, not_f, lt_t, lt_f, le_t, le_f, eq_t, eq_f, us_len, is_len, bs_len, lenL_00, hfl, hj0, lenL_0n] <;> omega))); (focus (first | omega | (simp only [List.length_nil, not_t, not_f, lt_t, lt_f, le_t, le_f, eq_t, eq_f, us_len, is_len, bs_len, lenL_00, hfl, hj0, lenL_0n] <;> omega))); conv => whnf)
    | (refine nth_is ?_ ?_ ?_; (focus (first | omega | (simp only [List.length_nil, not_t, not_f, lt_t, lt_f, le_t, le_f, eq_t, eq_f, us_len, is_len, bs_len, lenL_00, hfl, hj0, lenL_0n] <;> omega))); (focus (first | omega | (simp only [List.length_nil, not_t, not_f, lt_t, lt_f, le_t, le_f, eq_t, eq_f, us_len, is_len, bs_len, lenL_00, hfl, hj0, lenL_0n] <;> omega))); conv => whnf)
    | (refine nth_bs ?_ ?_ ?_; (focus (first | omega | (simp only [List.length_nil, not_t, not_f, lt_t, lt_f, le_t, le_f, eq_t, eq_f, us_len, is_len, bs_len, lenL_00, hfl, hj0, lenL_0n] <;> omega))); (focus (first | omega | (simp only [List.length_nil, not_t, not_f, lt_t, lt_f, le_t, le_f, eq_t, eq_f, us_len, is_len, bs_len, lenL_00, hfl, hj0, lenL_0n] <;> omega))); conv => whnf))
  · have hkn : k < n := by omega
    have hat : at0 (fillN f g 64 k) (Nat.add 0 (Int.toNat (k : Int)) : Nat) = f k + 1 := by
      rw [hj0, fillN_at _ _ _ _ _ (by omega), if_neg (Nat.lt_irrefl _), hf, hg]
    have hfk : f k = distI L (fun _ => true) (bv s) ((k : Int) + 1) := by rw [hf]
    have hbk := hB ((k : Int) + 1)
    have hw2 : IntKind.i64.wrap (f k + 1 - 1) = f k := by rw [show f k + 1 - 1 = f k by omega]; exact wrap_i64 ⟨by omega, by omega⟩
    refine loopC (hC (k + 1) (by omega) (by omega)) ?_
    have hset : (is (fillN f g 64 k)).set (Nat.add 0 (Int.toNat (k : Int))) (.int .i64 (f k)) = is (fillN f g 64 (k + 1)) := by
      rw [natadd0, Int.toNat_natCast, is_set, fillN_set _ _ _ _ (by omega)]
    rw [hat, hw2, hw, hset, Int.natCast_succ]
    rfl
  · have ek : k = n := by omega
    subst ek
    show T.list 1 ((is (fillN f g 64 k)).take k) = _
    rw [show (is (fillN f g 64 k)).take k = is (distL L (fun _ => true) (bv s)) from ?_]
    apply List.ext_getElem?
    intro i
    rw [List.getElem?_take]
    unfold is distL
    rw [List.getElem?_map, List.getElem?_map, List.getElem?_map]
    by_cases hi : i < k
    · rw [if_pos hi, fillN_get _ _ _ _ _ (by omega), if_pos hi, List.getElem?_range (by omega), hf]; rfl
    · rw [if_neg hi, List.getElem?_eq_none (by simp; omega)]; rfl
open Classical in
noncomputable def c11 : List T → Ans
  | [.agg [.int .i64 sl, .list 1 xs], .int .u64 s] => .req (IsR xs ∧ R64 s) (.list 1 (is (distL (rowsOf xs) (fun _ => true) (bv s))))
  | _ => .no
theorem got11 {vs : List T} {x : T} (h : Got (c11 vs) x) : FnOk Tryd.prog tgl 11 vs x := by
  unfold c11 at h
  split at h
  · obtain ⟨hq, e⟩ := got_req h; rw [e]; exact ok11 _ _ _ hq
  · exact (got_no h).elim
theorem nogl11 (vs : List T) (p : Prop) (d : Decidable p) (sz : Nat) (xs : List T) (h : c11 vs = @Ans.gl p d sz xs) : False := by
  unfold c11 at h
  split at h <;> cases h
theorem pk11 (vs : List T) (p : Prop) (d : Decidable p) (x : T) (h : c11 vs = @Ans.pk p d x) (hp : p) : FnOk Tryd.prog tgl 11 vs x := by
  unfold c11 at h
  split at h
  · cases h
  · cases h
def getV (L : List (List Int)) (o k : Int) : Int := if 1 ≤ o ∧ o ≤ L.length ∧ 0 ≤ k ∧ k < (row L o).length then at0 (row L o) k else 0
def thereB (L : List (List Int)) (o k : Int) : Bool := decide (1 ≤ o ∧ o ≤ L.length ∧ 0 ≤ k ∧ k < (row L o).length)
theorem ok36 (sl : Int) (xs : List T) (o k : Int) (hq : IsR xs) : FnOk Tryd.prog tgl 36 [.agg [.int .i64 sl, .list 1 xs], .int .i64 o, .int .i64 k] (.bool (thereB (rowsOf xs) o k)) := by
  refine fn_ok (Γ := E7) env_E7 Tryd.func36 low36 ?_
  obtain ⟨L, rfl, hL, hl⟩ := hq
  rw [rowsOf_rs]
  unfold thereB
  by_cases h1 : 1 ≤ o ∧ o ≤ L.length
  · have hw : IntKind.i64.wrap (o - 1) = o - 1 := wrap_i64 ⟨by omega, by omega⟩
    conv => whnf
    repeat' (first
      | (refine brK_true (by assumption) ?_; conv => whnf)
      | (refine brK_false (by assumption) ?_; conv => whnf)
      | (refine brK_true ?_ ?_; (focus (simp only [List.length_nil, not_t, not_f, lt_t, lt_f, le_t, le_f, eq_t, eq_f, us_len, is_len, bs_len, lenL_00, hw, rs_len] <;> omega)); conv => whnf)
      | (refine brK_false ?_ ?_; (focus (simp only [List.length_nil, not_t, not_f, lt_t, lt_f, le_t, le_f, eq_t, eq_f, us_len, is_len, bs_len, lenL_00, hw, rs_len] <;> omega)); conv => whnf)
      | ((refine brK_of (fun h => ?_) (fun h => ?_)) <;> (have h2 := h; (try simp only [List.length_nil, not_t, not_f, lt_t, lt_f, le_t, le_f, eq_t, eq_f, us_len, is_len, bs_len, lenL_00, hw, rs_len] at h2); conv => whnf))
      | (refine reqK_of ?_ ?_; (focus (first | decide | omega | assumption | (simp only [List.length_nil, not_t, not_f, lt_t, lt_f, le_t, le_f, eq_t, eq_f, us_len, is_len, bs_len, lenL_00, hw, rs_len] <;> omega) | (simp [keyNew, sameKey, kEq] <;> omega))); conv => whnf)
      | (refine reqK_of ?_ ?_; rotate_left; (conv => whnf); rotate_left)
      | (refine nth_rs ?_ ?_ ?_; (focus (first | omega | (simp only [List.length_nil, not_t, not_f, lt_t, lt_f, le_t, le_f, eq_t, eq_f, us_len, is_len, bs_len, lenL_00, hw, rs_len] <;> omega))); (focus (first | omega | (simp only [List.length_nil, not_t, not_f, lt_t, lt_f, le_t, le_f, eq_t, eq_f, us_len, is_len, bs_len, lenL_00, hw, rs_len] <;> omega))); conv => whnf)
      | (refine nth_us ?_ ?_ ?_; (focus (first | omega | (simp only [List.length_nil, not_t, not_f, lt_t, lt_f, le_t, le_f, eq_t, eq_f, us_len, is_len, bs_len, lenL_00, hw, rs_len] <;> omega))); (focus (first | omega | (simp only [List.length_nil, not_t, not_f, lt_t, lt_f, le_t, le_f, eq_t, eq_f, us_len, is_len, bs_len, lenL_00, hw, rs_len] <;> omega))); conv => whnf)
      | (refine nth_is ?_ ?_ ?_; (focus (first | omega | (simp only [List.length_nil, not_t, not_f, lt_t, lt_f, le_t, le_f, eq_t, eq_f, us_len, is_len, bs_len, lenL_00, hw, rs_len] <;> omega))); (focus (first | omega | (simp only [List.length_nil, not_t, not_f, lt_t, lt_f, le_t, le_f, eq_t, eq_f, us_len, is_len, bs_len, lenL_00, hw, rs_len] <;> omega))); conv => whnf)
      | (refine nth_bs ?_ ?_ ?_; (focus (first | omega | (simp only [List.length_nil, not_t, not_f, lt_t, lt_f, le_t, le_f, eq_t, eq_f, us_len, is_len, bs_len, lenL_00, hw, rs_len] <;> omega))); (focus (first | omega | (simp only [List.length_nil, not_t, not_f, lt_t, lt_f, le_t, le_f, eq_t, eq_f, us_len, is_len, bs_len, lenL_00, hw, rs_len] <;> omega))); conv => whnf))
    · rw [hw, show o - 1 + 1 = o by omega, is_len, ltI_def]
      congr 1
      apply decide_eq_decide.2
      omega
    · rw [decide_eq_false (by omega)]
  · rw [decide_eq_false (by omega)]
    conv => whnf
    repeat' (first
      | (refine brK_true (by assumption) ?_; conv => whnf)
      | (refine brK_false (by assumption) ?_; conv => whnf)
      | (refine brK_true ?_ ?_; (focus (simp only [List.length_nil, not_t, not_f, lt_t, lt_f, le_t, le_f, eq_t, eq_f, us_len, is_len, bs_len, lenL_00, rs_len] <;> omega)); conv => whnf)
      | (refine brK_false ?_ ?_; (focus (simp only [List.length_nil, not_t, not_f, lt_t, lt_f, le_t, le_f, eq_t, eq_f, us_len, is_len, bs_len, lenL_00, rs_len] <;> omega)); conv => whnf)
      | ((refine brK_of (fun h => ?_) (fun h => ?_)) <;> (have h2 := h; (try simp only [List.length_nil, not_t, not_f, lt_t, lt_f, le_t, le_f, eq_t, eq_f, us_len, is_len, bs_len, lenL_00, rs_len] at h2); conv => whnf))
      | (refine reqK_of ?_ ?_; (focus (first | decide | omega | assumption | (simp only [List.length_nil, not_t, not_f, lt_t, lt_f, le_t, le_f, eq_t, eq_f, us_len, is_len, bs_len, lenL_00, rs_len] <;> omega) | (simp [keyNew, sameKey, kEq] <;> omega))); conv => whnf)
      | (refine reqK_of ?_ ?_; rotate_left; (conv => whnf); rotate_left)
      | (refine nth_us ?_ ?_ ?_; (focus (first | omega | (simp only [List.length_nil, not_t, not_f, lt_t, lt_f, le_t, le_f, eq_t, eq_f, us_len, is_len, bs_len, lenL_00, rs_len] <;> omega))); (focus (first | omega | (simp only [List.length_nil, not_t, not_f, lt_t, lt_f, le_t, le_f, eq_t, eq_f, us_len, is_len, bs_len, lenL_00, rs_len] <;> omega))); conv => whnf)
      | (refine nth_is ?_ ?_ ?_; (focus (first | omega | (simp only [List.length_nil, not_t, not_f, lt_t, lt_f, le_t, le_f, eq_t, eq_f, us_len, is_len, bs_len, lenL_00, rs_len] <;> omega))); (focus (first | omega | (simp only [List.length_nil, not_t, not_f, lt_t, lt_f, le_t, le_f, eq_t, eq_f, us_len, is_len, bs_len, lenL_00, rs_len] <;> omega))); conv => whnf)
      | (refine nth_bs ?_ ?_ ?_; (focus (first | omega | (simp only [List.length_nil, not_t, not_f, lt_t, lt_f, le_t, le_f, eq_t, eq_f, us_len, is_len, bs_len, lenL_00, rs_len] <;> omega))); (focus (first | omega | (simp only [List.length_nil, not_t, not_f, lt_t, lt_f, le_t, le_f, eq_t, eq_f, us_len, is_len, bs_len, lenL_00, rs_len] <;> omega))); conv => whnf))
open Classical in
noncomputable def c36 : List T → Ans
  | [.agg [.int .i64 sl, .list 1 xs], .int .i64 o, .int .i64 k] => .req (IsR xs) (.bool (thereB (rowsOf xs) o k))
  | _ => .no
theorem got36 {vs : List T} {x : T} (h : Got (c36 vs) x) : FnOk Tryd.prog tgl 36 vs x := by
  unfold c36 at h
  split at h
  · obtain ⟨hq, e⟩ := got_req h; rw [e]; exact ok36 _ _ _ _ hq
  · exact (got_no h).elim
theorem nogl36 (vs : List T) (p : Prop) (d : Decidable p) (sz : Nat) (xs : List T) (h : c36 vs = @Ans.gl p d sz xs) : False := by
  unfold c36 at h
  split at h <;> cases h
theorem pk36 (vs : List T) (p : Prop) (d : Decidable p) (x : T) (h : c36 vs = @Ans.pk p d x) (hp : p) : FnOk Tryd.prog tgl 36 vs x := by
  unfold c36 at h
  split at h
  · cases h
  · cases h
end Go.Nx
