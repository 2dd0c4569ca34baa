/-
  WHAT CAN BE REACHED: the walk.
-/
import Derived.Test.YtlgnjeilhjhnkaaDoorRf
set_option linter.unusedVariables false
set_option linter.unusedSimpArgs false
set_option maxRecDepth 20000
set_option maxHeartbeats 4000000
namespace Go.Nx
open Go.RowKit Go.Proofs

def gM (m : List Int) : Nat → B
  | 0 => 0
  | k + 1 => if 0 < at0 m k then add (gM m k) ((k : Int) + 1) else gM m k
theorem has_gM (m : List Int) (v : Int) : ∀ k : Nat, k ≤ 64 → (has (gM m k) v = true ↔ obj v = true ∧ v ≤ k ∧ 0 < mt m v)
  | 0, _ => by
    rw [gM, has_zero]
    constructor
    · intro h; cases h
    · rintro ⟨h1, h2, _⟩; have := obj_iff.1 h1; omega
  | k + 1, hk => by
    have ih := has_gM m v k (by omega)
    have em : v = (k : Int) + 1 → at0 m k = mt m v := fun e => by unfold mt; congr 1; omega
    unfold gM
    split
    · rename_i h
      rw [has_add, Bool.or_eq_true, ih, Bool.and_eq_true, decide_eq_true_eq]
      constructor
      · rintro (⟨h1, h2, h3⟩ | ⟨h1, h2⟩)
        · exact ⟨h1, by omega, h3⟩
        · rw [em h2] at h
          exact ⟨by rw [h2]; exact h1, by omega, h⟩
      · rintro ⟨h1, h2, h3⟩
        by_cases e : v = (k : Int) + 1
        · exact .inr ⟨by rw [← e]; exact h1, e⟩
        · exact .inl ⟨h1, by omega, h3⟩
    · rename_i h
      rw [ih]
      constructor
      · rintro ⟨h1, h2, h3⟩; exact ⟨h1, by omega, h3⟩
      · rintro ⟨h1, h2, h3⟩
        refine ⟨h1, ?_, h3⟩
        by_cases e : v = (k : Int) + 1
        · rw [em e] at h; exact absurd h3 h
        · omega
theorem gM_full (m : List Int) : gM m 64 = ofM m := by
  apply ext_has
  intro v h1 h2
  rw [Bool.eq_iff_iff, has_gM m v 64 (by omega), has_ofM]
  constructor
  · rintro ⟨h1, _, h3⟩; exact ⟨h1, h3⟩
  · rintro ⟨h1, h3⟩; exact ⟨h1, by omega, h3⟩
def IsM (xs : List T) : Prop := IsI xs ∧ xs.length = 64
theorem is_one (l : List Int) : ∀ x ∈ is l, x.one = true := by
  intro x hx
  unfold is at hx
  obtain ⟨n, _, rfl⟩ := List.mem_map.1 hx
  rfl
theorem oneP_is (l : List Int) : ∀ x ∈ is l, x.one = true := is_one l
theorem ok28 (xs : List T) (hq : IsM xs) : FnOk Tryd.prog tgl 28 [.agg xs] (.int .u64 (iv (ofM (nums xs)))) := by
  refine fn_ok (Γ := E3) env_E3 Tryd.func28 low28 ?_
  obtain ⟨⟨l, rfl, hl⟩, hs⟩ := hq
  rw [is_len] at hs
  rw [nums_is]
  conv => whnf
  repeat' (first
    | (refine brK_true (by assumption) ?_; conv => whnf)
    | (refine brK_false (by assumption) ?_; conv => whnf)
    | (refine brK_true ?_ ?_; (focus (simp only [List.length_nil, not_t, not_f, lt_t, lt_f, le_t, le_f, eq_t, eq_f, us_len, is_len, bs_len, lenL_00, is_len] <;> omega)); conv => whnf)
    | (refine brK_false ?_ ?_; (focus (simp only [List.length_nil, not_t, not_f, lt_t, lt_f, le_t, le_f, eq_t, eq_f, us_len, is_len, bs_len, lenL_00, is_len] <;> omega)); conv => whnf)
    | ((refine brK_of (fun h => ?_) (fun h => ?_)) <;> (have h2 := h; (try simp only [List.length_nil, not_t, not_f, lt_t, lt_f, le_t, le_f, eq_t, eq_f, us_len, is_len, bs_len, lenL_00, is_len] at h2); conv => whnf))
    | (refine reqK_of ?_ ?_; (focus (first | decide | omega | assumption | (simp only [List.length_nil, not_t, not_f, lt_t, lt_f, le_t, le_f, eq_t, eq_f, us_len, is_len, bs_len, lenL_00, is_len] <;> omega) | (simp [keyNew, sameKey, kEq] <;> omega))); conv => whnf)
    | (refine reqK_of ?_ ?_; rotate_left; (conv => whnf); rotate_left)
    | (refine nth_us ?_ ?_ ?_; (focus (first | omega | (simp only [List.length_nil, not_t, not_f, lt_t, lt_f, le_t, le_f, eq_t, eq_f, us_len, is_len, bs_len, lenL_00, is_len] <;> omega))); (focus (first | omega | (simp only [List.length_nil, not_t, not_f, lt_t, lt_f, le_t, le_f, eq_t, eq_f, us_len, is_len, bs_len, lenL_00, is_len] <;> omega))); conv => whnf)
    | (refine nth_is ?_ ?_ ?_; (focus (first | omega | (simp only [List.length_nil, not_t, not_f, lt_t, lt_f, le_t, le_f, eq_t, eq_f, us_len, is_len, bs_len, lenL_00, is_len] <;> omega))); (focus (first | omega | (simp only [List.length_nil, not_t, not_f, lt_t, lt_f, le_t, le_f, eq_t, eq_f, us_len, is_len, bs_len, lenL_00, is_len] <;> omega))); conv => whnf)
    | (refine nth_bs ?_ ?_ ?_; (focus (first | omega | (simp only [List.length_nil, not_t, not_f, lt_t, lt_f, le_t, le_f, eq_t, eq_f, us_len, is_len, bs_len, lenL_00, is_len] <;> omega))); (focus (first | omega | (simp only [List.length_nil, not_t, not_f, lt_t, lt_f, le_t, le_f, eq_t, eq_f, us_len, is_len, bs_len, lenL_00, is_len] <;> omega))); conv => whnf))
  · exact is_one l
  · exact ⟨by rw [is_len]; exact hs, is_one l⟩
  refine loopUp [] [.kill 4, .kill 5, .kill 8, .kill 9, .kill 10, .kill 11, .kill 12, .kill 13, .kill 14, .kill 15, .kill 16, .kill 17] (fun k : Nat => [(3, .t (.int .u64 (iv (gM l k)))), (7, .t (.int .i64 (k : Int)))]) (fun _ => []) (fun k => k ≤ 64) (fun k => 64 - k) 0 (Nat.zero_le _) ?_
  conv => whnf
  refine ⟨⟨rfl, rfl⟩, fun k hk C hC => ?_⟩
  have hw : IntKind.i64.wrap ((k : Int) + 1) = (k : Int) + 1 := wrap_i64 ⟨by omega, by omega⟩
  conv => whnf
  repeat' (first
    | (refine brK_true (by assumption) ?_; conv => whnf)
    | (refine brK_false (by assumption) ?_; conv => whnf)
    | (refine brK_true ?_ ?_; (focus (simp only [List.length_nil, not_t, not_f, lt_t, lt_f, le_t, le_f, eq_t, eq_f, us_len, is_len, bs_len, lenL_00, hs] <;> omega)); conv => whnf)
    | (refine brK_false ?_ ?_; (focus (simp only [List.length_nil, not_t, not_f, lt_t, lt_f, le_t, le_f, eq_t, eq_f, us_len, is_len, bs_len, lenL_00, hs] <;> omega)); conv => whnf)
    | ((refine brK_of (fun h => ?_) (fun h => ?_)) <;> (have h2 := h; (try simp only [List.length_nil, not_t, not_f, lt_t, lt_f, le_t, le_f, eq_t, eq_f, us_len, is_len, bs_len, lenL_00, hs] at h2); conv => whnf))
    | (refine reqK_of ?_ ?_; (focus (first | decide | omega | assumption | (simp only [List.length_nil, not_t, not_f, lt_t, lt_f, le_t, le_f, eq_t, eq_f, us_len, is_len, bs_len, lenL_00, hs] <;> omega) | (simp [keyNew, sameKey, kEq] <;> omega))); conv => whnf)
    | (refine reqK_of ?_ ?_; rotate_left; (conv => whnf); rotate_left)
    | (refine nth_us ?_ ?_ ?_; (focus (first | omega | (simp only [List.length_nil, not_t, not_f, lt_t, lt_f, le_t, le_f, eq_t, eq_f, us_len, is_len, bs_len, lenL_00, hs] <;> omega))); (focus (first | omega | (simp only [List.length_nil, not_t, not_f, lt_t, lt_f, le_t, le_f, eq_t, eq_f, us_len, is_len, bs_len, lenL_00, hs] <;> omega))); conv => whnf)
    | (refine nth_is ?_ ?_ ?_; (focus (first | omega | (simp only [List.length_nil, not_t, not_f, lt_t, lt_f, le_t, le_f, eq_t, eq_f, us_len, is_len, bs_len, lenL_00, hs] <;> omega))); (focus (first | omega | (simp only [List.length_nil, not_t, not_f, lt_t, lt_f, le_t, le_f, eq_t, eq_f, us_len, is_len, bs_len, lenL_00, hs] <;> omega))); conv => whnf)
    | (refine nth_bs ?_ ?_ ?_; (focus (first | omega | (simp only [List.length_nil, not_t, not_f, lt_t, lt_f, le_t, le_f, eq_t, eq_f, us_len, is_len, bs_len, lenL_00, hs] <;> omega))); (focus (first | omega | (simp only [List.length_nil, not_t, not_f, lt_t, lt_f, le_t, le_f, eq_t, eq_f, us_len, is_len, bs_len, lenL_00, hs] <;> omega))); conv => whnf))
  · refine loopC (hC (k + 1) (by omega) (by omega)) ?_
    have h3 : ltI 0 (at0 l k) = true := by assumption
    rw [hw, bv_iv, gM, if_pos (lt_t.1 h3), Int.natCast_succ]
    rfl
  · refine loopC (hC (k + 1) (by omega) (by omega)) ?_
    have h3 : ltI 0 (at0 l k) = false := by assumption
    rw [hw, gM, if_neg (by have := lt_f.1 h3; omega), Int.natCast_succ]
    rfl
  · rw [show k = 64 by omega, gM_full]
open Classical in
noncomputable def c28 : List T → Ans
  | [.agg xs] => .req (IsM xs) (.int .u64 (iv (ofM (nums xs))))
  | _ => .no
theorem got28 {vs : List T} {x : T} (h : Got (c28 vs) x) : FnOk Tryd.prog tgl 28 vs x := by
  unfold c28 at h
  split at h
  · obtain ⟨hq, e⟩ := got_req h; rw [e]; exact ok28 _ hq
  · exact (got_no h).elim
theorem nogl28 (vs : List T) (p : Prop) (d : Decidable p) (sz : Nat) (xs : List T) (h : c28 vs = @Ans.gl p d sz xs) : False := by
  unfold c28 at h
  split at h <;> cases h
theorem pk28 (vs : List T) (p : Prop) (d : Decidable p) (x : T) (h : c28 vs = @Ans.pk p d x) (hp : p) : FnOk Tryd.prog tgl 28 vs x := by
  unfold c28 at h
  split at h
  · cases h
  · cases h
theorem subL_is (L : List Int) (o : Nat) : subL (is L) o none = is (L.drop o) := by
  cases o with
  | zero => simp
  | succ o => simp [subL, is, List.map_drop]
theorem lenL_o (ts : List T) (o : Nat) (h : o ≤ ts.length) : lenL ts o none = ((ts.drop o).length : Int) := by
  cases o with
  | zero => simp
  | succ o => simp only [lenL, List.length_drop]; omega
theorem nth_sub {L : List Int} {o : Nat} {i : Int} {K : T → Prop} (h0 : 0 ≤ i) (h1 : i < (L.drop o).length) (h : K (.int .i64 (at0 (L.drop o) i))) : nthK (subL (is L) o none) i K := by
  rw [subL_is]; exact nth_is h0 h1 h
structure Wk where
  met : List Int
  wl : List Int
  off : Nat
def eopT (f : Nat) : Int → Bool := fun _ => true
theorem repZ : List.replicate 64 (T.int .i64 0) = is (List.replicate 64 0) := by simp [is]
theorem iniM_take {l : List Int} {k : Nat} (h : k < l.length) : iniM (l.take (k + 1)) = (iniM (l.take k)).set (at0 l k - 1).toNat 1 := by
  have e : l[k]? = some (at0 l k) := by simp [at0, h]
  rw [List.take_add_one, e]
  exact iniM_snoc _ _
theorem ok23 (sl : Int) (xs : List T) (s : Int) (f : Nat) (hq : (f = 24 ∨ f = 29) ∧ IsR xs ∧ R64 s) : FnOk Tryd.prog tgl 23 [.agg [.int .i64 sl, .list 1 xs], .int .u64 s, .fn (.func f) [] []] (.agg (is (metF (rowsOf xs) (fun _ => true) (bv s)))) := by
  refine fn_ok (Γ := E5) env_E5 Tryd.func23 low23 ?_
  obtain ⟨hf, ⟨L, rfl, hL, hl⟩, hs⟩ := hq
  rcases hf with rfl | rfl
  · rw [rowsOf_rs]
    have hR : IsR (rs L) := ⟨L, rfl, hL, hl⟩
    obtain ⟨op, hop⟩ : ∃ op : Int → Bool, op = fun _ => true := ⟨_, rfl⟩
    rw [← hop]
    obtain ⟨l, hl0⟩ : ∃ l, l = lsL (bv s &&& own L) := ⟨_, rfl⟩
    have hll : l.length ≤ 64 := by rw [hl0]; exact lsL_len _
    have hlm : ∀ o ∈ l, 1 ≤ o ∧ o ≤ 64 := fun o ho => by rw [hl0] at ho; exact has_range (mem_lsL.1 ho)
    have hand : andI .u64 s (iv (first (((rs L).length : Nat) : Int))) = iv (bv s &&& own L) := by rw [rs_len, andI_u, bv_iv]; rfl
    conv => whnf
    repeat' (first
      | (refine brK_true (by assumption) ?_; conv => whnf)
      | (refine brK_false (by assumption) ?_; conv => whnf)
      | (refine brK_true ?_ ?_; (focus (simp only [List.length_nil, not_t, not_f, lt_t, lt_f, le_t, le_f, eq_t, eq_f, us_len, is_len, bs_len, lenL_00, rs_len, bv_iv] <;> omega)); conv => whnf)
      | (refine brK_false ?_ ?_; (focus (simp only [List.length_nil, not_t, not_f, lt_t, lt_f, le_t, le_f, eq_t, eq_f, us_len, is_len, bs_len, lenL_00, rs_len, bv_iv] <;> omega)); conv => whnf)
      | ((refine brK_of (fun h => ?_) (fun h => ?_)) <;> (have h2 := h; (try simp only [List.length_nil, not_t, not_f, lt_t, lt_f, le_t, le_f, eq_t, eq_f, us_len, is_len, bs_len, lenL_00, rs_len, bv_iv] at h2); conv => whnf))
      | (refine reqK_of ?_ ?_; (focus (first | decide | omega | assumption | (simp only [List.length_nil, not_t, not_f, lt_t, lt_f, le_t, le_f, eq_t, eq_f, us_len, is_len, bs_len, lenL_00, rs_len, bv_iv] <;> omega) | (simp [keyNew, sameKey, kEq] <;> omega))); conv => whnf)
      | (refine reqK_of ?_ ?_; rotate_left; (conv => whnf); rotate_left)
      | (refine nth_us ?_ ?_ ?_; (focus (first | omega | (simp only [List.length_nil, not_t, not_f, lt_t, lt_f, le_t, le_f, eq_t, eq_f, us_len, is_len, bs_len, lenL_00, rs_len, bv_iv] <;> omega))); (focus (first | omega | (simp only [List.length_nil, not_t, not_f, lt_t, lt_f, le_t, le_f, eq_t, eq_f, us_len, is_len, bs_len, lenL_00, rs_len, bv_iv] <;> omega))); conv => whnf)
      | (refine nth_is ?_ ?_ ?_; (focus (first | omega | (simp only [List.length_nil, not_t, not_f, lt_t, lt_f, le_t, le_f, eq_t, eq_f, us_len, is_len, bs_len, lenL_00, rs_len, bv_iv] <;> omega))); (focus (first | omega | (simp only [List.length_nil, not_t, not_f, lt_t, lt_f, le_t, le_f, eq_t, eq_f, us_len, is_len, bs_len, lenL_00, rs_len, bv_iv] <;> omega))); conv => whnf)
      | (refine nth_bs ?_ ?_ ?_; (focus (first | omega | (simp only [List.length_nil, not_t, not_f, lt_t, lt_f, le_t, le_f, eq_t, eq_f, us_len, is_len, bs_len, lenL_00, rs_len, bv_iv] <;> omega))); (focus (first | omega | (simp only [List.length_nil, not_t, not_f, lt_t, lt_f, le_t, le_f, eq_t, eq_f, us_len, is_len, bs_len, lenL_00, rs_len, bv_iv] <;> omega))); conv => whnf))
    · rw [hand]; exact R_iv _
    rw [hand, bv_iv, rs_len, ← hl0]
    change loopK _ _ ⟨_, [(86, .lst 1 (is l) 1), (71, .lst 1 (is (iniM (l.take 0))) 0), (70, .lst 1 (is (iniM (l.take 0))) 0), (67, _)]⟩ _
    refine loopUp [] [.kill 11, .kill 26, .kill 27, .kill 28, .kill 29, .kill 30, .kill 31, .kill 32] (fun k : Nat => [(25, .t (.int .i64 (k : Int)))]) (fun k => [(71, .lst 1 (is (iniM (l.take k))) 0)]) (fun k => k ≤ l.length) (fun k => l.length - k) 0 (Nat.zero_le _) ?_
    conv => whnf
    refine ⟨⟨rfl, rfl⟩, fun k hk C hC => ?_⟩
    have hw : IntKind.i64.wrap ((k : Int) + 1) = (k : Int) + 1 := wrap_i64 ⟨by omega, by omega⟩
    have hil := iniM_len (l.take k)
    by_cases hlt : k < l.length
    · obtain ⟨o, ho⟩ : ∃ o, at0 l k = o := ⟨_, rfl⟩
      have hor := hlm o (by rw [← ho]; exact at0_mem (by omega))
      have hw2 : IntKind.i64.wrap (o - 1) = o - 1 := wrap_i64 ⟨by omega, by omega⟩
      conv => whnf
      repeat' (first
        | (refine brK_true (by assumption) ?_; conv => whnf)
        | (refine brK_false (by assumption) ?_; conv => whnf)
        | (refine brK_true ?_ ?_; (focus (simp only [List.length_nil, not_t, not_f, lt_t, lt_f, le_t, le_f, eq_t, eq_f, us_len, is_len, bs_len, lenL_00, ho, hw2, hil] <;> omega)); conv => whnf)
        | (refine brK_false ?_ ?_; (focus (simp only [List.length_nil, not_t, not_f, lt_t, lt_f, le_t, le_f, eq_t, eq_f, us_len, is_len, bs_len, lenL_00, ho, hw2, hil] <;> omega)); conv => whnf)
        | ((refine brK_of (fun h => ?_) (fun h => ?_)) <;> (have h2 := h; (try simp only [List.length_nil, not_t, not_f, lt_t, lt_f, le_t, le_f, eq_t, eq_f, us_len, is_len, bs_len, lenL_00, ho, hw2, hil] at h2); conv => whnf))
        | (refine reqK_of ?_ ?_; (focus (first | decide | omega | assumption | (simp only [List.length_nil, not_t, not_f, lt_t, lt_f, le_t, le_f, eq_t, eq_f, us_len, is_len, bs_len, lenL_00, ho, hw2, hil] <;> omega) | (simp [keyNew, sameKey, kEq] <;> omega))); conv => whnf)
        | (refine reqK_of ?_ ?_; rotate_left; (conv => whnf); rotate_left)
        | (refine nth_us ?_ ?_ ?_; (focus (first | omega | (simp only [List.length_nil, not_t, not_f, lt_t, lt_f, le_t, le_f, eq_t, eq_f, us_len, is_len, bs_len, lenL_00, ho, hw2, hil] <;> omega))); (focus (first | omega | (simp only [List.length_nil, not_t, not_f, lt_t, lt_f, le_t, le_f, eq_t, eq_f, us_len, is_len, bs_len, lenL_00, ho, hw2, hil] <;> omega))); conv => whnf)
        | (refine nth_is ?_ ?_ ?_; (focus (first | omega | (simp only [List.length_nil, not_t, not_f, lt_t, lt_f, le_t, le_f, eq_t, eq_f, us_len, is_len, bs_len, lenL_00, ho, hw2, hil] <;> omega))); (focus (first | omega | (simp only [List.length_nil, not_t, not_f, lt_t, lt_f, le_t, le_f, eq_t, eq_f, us_len, is_len, bs_len, lenL_00, ho, hw2, hil] <;> omega))); conv => whnf)
        | (refine nth_bs ?_ ?_ ?_; (focus (first | omega | (simp only [List.length_nil, not_t, not_f, lt_t, lt_f, le_t, le_f, eq_t, eq_f, us_len, is_len, bs_len, lenL_00, ho, hw2, hil] <;> omega))); (focus (first | omega | (simp only [List.length_nil, not_t, not_f, lt_t, lt_f, le_t, le_f, eq_t, eq_f, us_len, is_len, bs_len, lenL_00, ho, hw2, hil] <;> omega))); conv => whnf))
      refine loopC (hC (k + 1) (by omega) (by omega)) ?_
      rw [ho, hw2, is_set, hw, iniM_take hlt, ho, Int.natCast_succ]
      rfl
    conv => whnf
    repeat' (first
      | (refine brK_true (by assumption) ?_; conv => whnf)
      | (refine brK_false (by assumption) ?_; conv => whnf)
      | (refine brK_true ?_ ?_; (focus (simp only [List.length_nil, not_t, not_f, lt_t, lt_f, le_t, le_f, eq_t, eq_f, us_len, is_len, bs_len, lenL_00] <;> omega)); conv => whnf)
      | (refine brK_false ?_ ?_; (focus (simp only [List.length_nil, not_t, not_f, lt_t, lt_f, le_t, le_f, eq_t, eq_f, us_len, is_len, bs_len, lenL_00] <;> omega)); conv => whnf)
      | ((refine brK_of (fun h => ?_) (fun h => ?_)) <;> (have h2 := h; (try simp only [List.length_nil, not_t, not_f, lt_t, lt_f, le_t, le_f, eq_t, eq_f, us_len, is_len, bs_len, lenL_00] at h2); conv => whnf))
      | (refine reqK_of ?_ ?_; (focus (first | decide | omega | assumption | (simp only [List.length_nil, not_t, not_f, lt_t, lt_f, le_t, le_f, eq_t, eq_f, us_len, is_len, bs_len, lenL_00] <;> omega) | (simp [keyNew, sameKey, kEq] <;> omega))); conv => whnf)
      | (refine reqK_of ?_ ?_; rotate_left; (conv => whnf); rotate_left)
      | (refine nth_us ?_ ?_ ?_; (focus (first | omega | (simp only [List.length_nil, not_t, not_f, lt_t, lt_f, le_t, le_f, eq_t, eq_f, us_len, is_len, bs_len, lenL_00] <;> omega))); (focus (first | omega | (simp only [List.length_nil, not_t, not_f, lt_t, lt_f, le_t, le_f, eq_t, eq_f, us_len, is_len, bs_len, lenL_00] <;> omega))); conv => whnf)
      | (refine nth_is ?_ ?_ ?_; (focus (first | omega | (simp only [List.length_nil, not_t, not_f, lt_t, lt_f, le_t, le_f, eq_t, eq_f, us_len, is_len, bs_len, lenL_00] <;> omega))); (focus (first | omega | (simp only [List.length_nil, not_t, not_f, lt_t, lt_f, le_t, le_f, eq_t, eq_f, us_len, is_len, bs_len, lenL_00] <;> omega))); conv => whnf)
      | (refine nth_bs ?_ ?_ ?_; (focus (first | omega | (simp only [List.length_nil, not_t, not_f, lt_t, lt_f, le_t, le_f, eq_t, eq_f, us_len, is_len, bs_len, lenL_00] <;> omega))); (focus (first | omega | (simp only [List.length_nil, not_t, not_f, lt_t, lt_f, le_t, le_f, eq_t, eq_f, us_len, is_len, bs_len, lenL_00] <;> omega))); conv => whnf))
    have ek : k = l.length := by omega
    subst ek
    rw [List.take_length]
    have hW0 : WInv L op (bv s) (iniM l) l := by rw [hl0]; exact WInv.init L op (bv s)
    change loopK _ _ ⟨_, [(86, .lst 1 (is l) 1), (71, .lst 1 (is (iniM l)) 0), (70, .lst 1 (is (List.replicate 64 0)) 0), (67, _)]⟩ _
    refine loopUp [.kill 22, .kill 23, .ren 86 1001] [.kill 12, .kill 13, .kill 14, .kill 33, .kill 34, .kill 35, .kill 36, .kill 37, .kill 38, .kill 39, .kill 40, .kill 41, .kill 42, .kill 43, .kill 44, .kill 45, .kill 46, .kill 47, .kill 48, .kill 49, .kill 50, .kill 51, .kill 52, .kill 53, .kill 54, .kill 55, .kill 56, .kill 57, .kill 58, .kill 59, .kill 60, .kill 61, .kill 62, .kill 63, .kill 64, .kill 65, .kill 66, .kill 67, .kill 68, .kill 69, .kill 70, .kill 71, .kill 72, .kill 73, .kill 74, .kill 75, .kill 76, .kill 77, .kill 78] (fun a : Wk => [(9, .sl 1001 a.off none)]) (fun a => [(71, .lst 1 (is a.met) 0), (1001, .lst 1 (is a.wl) 1)]) (fun a => WInv L op (bv s) a.met (a.wl.drop a.off) ∧ a.off ≤ a.wl.length ∧ a.wl.length ≤ 65) (fun a => a.met.count 0 + (a.wl.drop a.off).length) ⟨iniM l, l, 0⟩ ⟨hW0, Nat.zero_le _, by show l.length ≤ 65; omega⟩ ?_
    conv => whnf
    refine ⟨⟨rfl, rfl⟩, fun a ha C hC => ?_⟩
    obtain ⟨hW, hoff, hwl⟩ := ha
    have hll1 := lenL_o (is a.wl) a.off (by rw [is_len]; exact hoff)
    have hll2 : ((is a.wl).drop a.off).length = (a.wl.drop a.off).length := by simp
    have hml := hW.len
    rcases hst : a.wl.drop a.off with _ | ⟨o, r⟩
    · rw [hst] at hW hll2
      simp only [List.length_nil] at hll2
      have hfin := hW.fin
      conv => whnf
      repeat' (first
        | (refine brK_true (by assumption) ?_; conv => whnf)
        | (refine brK_false (by assumption) ?_; conv => whnf)
        | (refine brK_true ?_ ?_; (focus (simp only [List.length_nil, not_t, not_f, lt_t, lt_f, le_t, le_f, eq_t, eq_f, us_len, is_len, bs_len, lenL_00, hll1, hll2] <;> omega)); conv => whnf)
        | (refine brK_false ?_ ?_; (focus (simp only [List.length_nil, not_t, not_f, lt_t, lt_f, le_t, le_f, eq_t, eq_f, us_len, is_len, bs_len, lenL_00, hll1, hll2] <;> omega)); conv => whnf)
        | ((refine brK_of (fun h => ?_) (fun h => ?_)) <;> (have h2 := h; (try simp only [List.length_nil, not_t, not_f, lt_t, lt_f, le_t, le_f, eq_t, eq_f, us_len, is_len, bs_len, lenL_00, hll1, hll2] at h2); conv => whnf))
        | (refine reqK_of ?_ ?_; (focus (first | decide | omega | assumption | (simp only [List.length_nil, not_t, not_f, lt_t, lt_f, le_t, le_f, eq_t, eq_f, us_len, is_len, bs_len, lenL_00, hll1, hll2] <;> omega) | (simp [keyNew, sameKey, kEq] <;> omega))); conv => whnf)
        | (refine reqK_of ?_ ?_; rotate_left; (conv => whnf); rotate_left)
        | (refine nth_us ?_ ?_ ?_; (focus (first | omega | (simp only [List.length_nil, not_t, not_f, lt_t, lt_f, le_t, le_f, eq_t, eq_f, us_len, is_len, bs_len, lenL_00, hll1, hll2] <;> omega))); (focus (first | omega | (simp only [List.length_nil, not_t, not_f, lt_t, lt_f, le_t, le_f, eq_t, eq_f, us_len, is_len, bs_len, lenL_00, hll1, hll2] <;> omega))); conv => whnf)
        | (refine nth_is ?_ ?_ ?_; (focus (first | omega | (simp only [List.length_nil, not_t, not_f, lt_t, lt_f, le_t, le_f, eq_t, eq_f, us_len, is_len, bs_len, lenL_00, hll1, hll2] <;> omega))); (focus (first | omega | (simp only [List.length_nil, not_t, not_f, lt_t, lt_f, le_t, le_f, eq_t, eq_f, us_len, is_len, bs_len, lenL_00, hll1, hll2] <;> omega))); conv => whnf)
        | (refine nth_bs ?_ ?_ ?_; (focus (first | omega | (simp only [List.length_nil, not_t, not_f, lt_t, lt_f, le_t, le_f, eq_t, eq_f, us_len, is_len, bs_len, lenL_00, hll1, hll2] <;> omega))); (focus (first | omega | (simp only [List.length_nil, not_t, not_f, lt_t, lt_f, le_t, le_f, eq_t, eq_f, us_len, is_len, bs_len, lenL_00, hll1, hll2] <;> omega))); conv => whnf))
      all_goals first
        | exact is_one _
        | exact ⟨by rw [is_len]; exact hml, is_one _⟩
        | exact ⟨by simp, is_one _⟩
        | exact ⟨by rw [is_len]; exact hml, by simp, is_one _⟩
        | rw [hfin]
    · have hst' := hst
      rw [hst] at hW hll2
      simp only [List.length_cons] at hll2
      have how := hW.wt o (by simp)
      have hob := own_obj how.2
      have hor := obj_iff.1 hob
      have hle := own_le how.2
      have hw2 : IntKind.i64.wrap (o - 1) = o - 1 := wrap_i64 ⟨by omega, by omega⟩
      have ho0 : at0 (a.wl.drop a.off) 0 = o := by rw [hst]; rfl
      have hdl : (a.wl.drop a.off).length = r.length + 1 := by rw [hst]; rfl
      have hrow := hl _ (row_mem hor.1 hle)
      have hdr : a.wl.drop (a.off + 1) = r := by rw [← List.drop_drop, hst]; rfl
      have hol : a.wl.length = a.off + r.length + 1 := by have := List.length_drop (l := a.wl) (i := a.off); omega
      have hadd : Nat.add a.off (Int.toNat 1) = a.off + 1 := rfl
      have hopo : op o = true := by rw [hop]
      conv => whnf
      repeat' (first
        | (refine brK_true (by assumption) ?_; conv => whnf)
        | (refine brK_false (by assumption) ?_; conv => whnf)
        | (refine brK_true ?_ ?_; (focus (simp only [List.length_nil, not_t, not_f, lt_t, lt_f, le_t, le_f, eq_t, eq_f, us_len, is_len, bs_len, lenL_00, hll1, hll2, hdl, ho0, hw2, rs_len, hopo] <;> omega)); conv => whnf)
        | (refine brK_false ?_ ?_; (focus (simp only [List.length_nil, not_t, not_f, lt_t, lt_f, le_t, le_f, eq_t, eq_f, us_len, is_len, bs_len, lenL_00, hll1, hll2, hdl, ho0, hw2, rs_len, hopo] <;> omega)); conv => whnf)
        | ((refine brK_of (fun h => ?_) (fun h => ?_)) <;> (have h2 := h; (try simp only [List.length_nil, not_t, not_f, lt_t, lt_f, le_t, le_f, eq_t, eq_f, us_len, is_len, bs_len, lenL_00, hll1, hll2, hdl, ho0, hw2, rs_len, hopo] at h2); conv => whnf))
        | (refine reqK_of ?_ ?_; (focus (first | decide | omega | assumption | (simp only [List.length_nil, not_t, not_f, lt_t, lt_f, le_t, le_f, eq_t, eq_f, us_len, is_len, bs_len, lenL_00, hll1, hll2, hdl, ho0, hw2, rs_len, hopo] <;> omega) | (simp [keyNew, sameKey, kEq] <;> omega))); conv => whnf)
        | (refine reqK_of ?_ ?_; rotate_left; (conv => whnf); rotate_left)
        | (refine nth_rs ?_ ?_ ?_; (focus (first | omega | (simp only [List.length_nil, not_t, not_f, lt_t, lt_f, le_t, le_f, eq_t, eq_f, us_len, is_len, bs_len, lenL_00, hll1, hll2, hdl, ho0, hw2, rs_len, hopo] <;> omega))); (focus (first | omega | (simp only [List.length_nil, not_t, not_f, lt_t, lt_f, le_t, le_f, eq_t, eq_f, us_len, is_len, bs_len, lenL_00, hll1, hll2, hdl, ho0, hw2, rs_len, hopo] <;> omega))); conv => whnf)
        | (refine nth_sub ?_ ?_ ?_; (focus (first | omega | (simp only [List.length_nil, not_t, not_f, lt_t, lt_f, le_t, le_f, eq_t, eq_f, us_len, is_len, bs_len, lenL_00, hll1, hll2, hdl, ho0, hw2, rs_len, hopo] <;> omega))); (focus (first | omega | (simp only [List.length_nil, not_t, not_f, lt_t, lt_f, le_t, le_f, eq_t, eq_f, us_len, is_len, bs_len, lenL_00, hll1, hll2, hdl, ho0, hw2, rs_len, hopo] <;> omega))); conv => whnf)
        | (refine nth_us ?_ ?_ ?_; (focus (first | omega | (simp only [List.length_nil, not_t, not_f, lt_t, lt_f, le_t, le_f, eq_t, eq_f, us_len, is_len, bs_len, lenL_00, hll1, hll2, hdl, ho0, hw2, rs_len, hopo] <;> omega))); (focus (first | omega | (simp only [List.length_nil, not_t, not_f, lt_t, lt_f, le_t, le_f, eq_t, eq_f, us_len, is_len, bs_len, lenL_00, hll1, hll2, hdl, ho0, hw2, rs_len, hopo] <;> omega))); conv => whnf)
        | (refine nth_is ?_ ?_ ?_; (focus (first | omega | (simp only [List.length_nil, not_t, not_f, lt_t, lt_f, le_t, le_f, eq_t, eq_f, us_len, is_len, bs_len, lenL_00, hll1, hll2, hdl, ho0, hw2, rs_len, hopo] <;> omega))); (focus (first | omega | (simp only [List.length_nil, not_t, not_f, lt_t, lt_f, le_t, le_f, eq_t, eq_f, us_len, is_len, bs_len, lenL_00, hll1, hll2, hdl, ho0, hw2, rs_len, hopo] <;> omega))); conv => whnf)
        | (refine nth_bs ?_ ?_ ?_; (focus (first | omega | (simp only [List.length_nil, not_t, not_f, lt_t, lt_f, le_t, le_f, eq_t, eq_f, us_len, is_len, bs_len, lenL_00, hll1, hll2, hdl, ho0, hw2, rs_len, hopo] <;> omega))); (focus (first | omega | (simp only [List.length_nil, not_t, not_f, lt_t, lt_f, le_t, le_f, eq_t, eq_f, us_len, is_len, bs_len, lenL_00, hll1, hll2, hdl, ho0, hw2, rs_len, hopo] <;> omega))); conv => whnf))
      rw [ho0, hw2, show o - 1 + 1 = o by omega]
      have hM0 : WMid L op (bv s) o 0 a.met (a.wl.drop a.off) := by rw [hst]; exact WMid.start hW hopo
      refine loopFn [.kill 33, .kill 38] (fun s => nzIf 141 s [.kill 14, .kill 53, .kill 54, .kill 55, .kill 56, .kill 57, .kill 58, .kill 59, .kill 60, .kill 61, .kill 62, .kill 63, .kill 64, .kill 65, .kill 66, .kill 67, .kill 68, .kill 69, .kill 70, .kill 71, .kill 72, .kill 73, .kill 74, .kill 75, .kill 76, .kill 77, .kill 78, .keep [141, 71, 70, 67], .ren 141 1001] [.kill 14, .kill 53, .kill 54, .kill 55, .kill 56, .kill 57, .kill 58, .kill 59, .kill 60, .kill 61, .kill 62, .kill 63, .kill 64, .kill 65, .kill 66, .kill 67, .kill 68, .kill 69, .kill 70, .kill 71, .kill 72, .kill 73, .kill 74, .kill 75, .kill 76, .kill 77, .kill 78]) (fun c : Wk × Nat => [(9, .sl 1001 c.1.off none), (52, .t (.int .i64 (c.2 : Int)))]) (fun c => [(1001, .lst 1 (is c.1.wl) 1), (71, .lst 1 (is c.1.met) 0), (70, .lst 1 (is (List.replicate 64 0)) 0), (67, .cells [.t (.int .i64 sl), .t (.list 1 (rs L))])]) (fun c => WMid L op (bv s) o c.2 c.1.met (c.1.wl.drop c.1.off) ∧ c.1.off ≤ c.1.wl.length ∧ c.2 ≤ (row L o).length ∧ c.1.met.count 0 + (c.1.wl.drop c.1.off).length = a.met.count 0 + (a.wl.drop a.off).length ∧ c.1.wl.length ≤ 65) (fun c => (row L o).length - c.2) (a, 0) ⟨hM0, hoff, Nat.zero_le _, rfl, hwl⟩ ?_
      conv => whnf
      refine ⟨⟨rfl, rfl⟩, fun c hc C2 hC2 => ?_⟩
      obtain ⟨hM, hcoff, hci, hcm, hcwl⟩ := hc
      have hcw : IntKind.i64.wrap ((c.2 : Int) + 1) = (c.2 : Int) + 1 := wrap_i64 ⟨by omega, by have := hrow.2; unfold Sz maxBytes at this; rw [is_len] at this; omega⟩
      have hcl := hM.inv.len
      have hcl1 := lenL_o (is c.1.wl) c.1.off (by rw [is_len]; exact hcoff)
      have hcl2 : ((is c.1.wl).drop c.1.off).length = (c.1.wl.drop c.1.off).length := by simp
      have hcnt := hM.inv.cnt
      by_cases hlt : c.2 < (row L o).length
      · obtain ⟨v, hv⟩ : ∃ v, at0 (row L o) c.2 = v := ⟨_, rfl⟩
        have hvg : (row L o)[c.2]? = some v := by rw [← hv]; simp [at0, hlt]
        cases hh : has (own L) v with
        | false =>
          have hh' : has (first (L.length : Int)) v = false := hh
          conv => whnf
          repeat' (first
            | (refine brK_true (by assumption) ?_; conv => whnf)
            | (refine brK_false (by assumption) ?_; conv => whnf)
            | (refine brK_true ?_ ?_; (focus (simp only [List.length_nil, not_t, not_f, lt_t, lt_f, le_t, le_f, eq_t, eq_f, us_len, is_len, bs_len, lenL_00, hv, rs_len, bv_iv, hh'] <;> omega)); conv => whnf)
            | (refine brK_false ?_ ?_; (focus (simp only [List.length_nil, not_t, not_f, lt_t, lt_f, le_t, le_f, eq_t, eq_f, us_len, is_len, bs_len, lenL_00, hv, rs_len, bv_iv, hh'] <;> omega)); conv => whnf)
            | ((refine brK_of (fun h => ?_) (fun h => ?_)) <;> (have h2 := h; (try simp only [List.length_nil, not_t, not_f, lt_t, lt_f, le_t, le_f, eq_t, eq_f, us_len, is_len, bs_len, lenL_00, hv, rs_len, bv_iv, hh'] at h2); conv => whnf))
            | (refine reqK_of ?_ ?_; (focus (first | decide | omega | assumption | (simp only [List.length_nil, not_t, not_f, lt_t, lt_f, le_t, le_f, eq_t, eq_f, us_len, is_len, bs_len, lenL_00, hv, rs_len, bv_iv, hh'] <;> omega) | (simp [keyNew, sameKey, kEq] <;> omega))); conv => whnf)
            | (refine reqK_of ?_ ?_; rotate_left; (conv => whnf); rotate_left)
            | (refine nth_us ?_ ?_ ?_; (focus (first | omega | (simp only [List.length_nil, not_t, not_f, lt_t, lt_f, le_t, le_f, eq_t, eq_f, us_len, is_len, bs_len, lenL_00, hv, rs_len, bv_iv, hh'] <;> omega))); (focus (first | omega | (simp only [List.length_nil, not_t, not_f, lt_t, lt_f, le_t, le_f, eq_t, eq_f, us_len, is_len, bs_len, lenL_00, hv, rs_len, bv_iv, hh'] <;> omega))); conv => whnf)
            | (refine nth_is ?_ ?_ ?_; (focus (first | omega | (simp only [List.length_nil, not_t, not_f, lt_t, lt_f, le_t, le_f, eq_t, eq_f, us_len, is_len, bs_len, lenL_00, hv, rs_len, bv_iv, hh'] <;> omega))); (focus (first | omega | (simp only [List.length_nil, not_t, not_f, lt_t, lt_f, le_t, le_f, eq_t, eq_f, us_len, is_len, bs_len, lenL_00, hv, rs_len, bv_iv, hh'] <;> omega))); conv => whnf)
            | (refine nth_bs ?_ ?_ ?_; (focus (first | omega | (simp only [List.length_nil, not_t, not_f, lt_t, lt_f, le_t, le_f, eq_t, eq_f, us_len, is_len, bs_len, lenL_00, hv, rs_len, bv_iv, hh'] <;> omega))); (focus (first | omega | (simp only [List.length_nil, not_t, not_f, lt_t, lt_f, le_t, le_f, eq_t, eq_f, us_len, is_len, bs_len, lenL_00, hv, rs_len, bv_iv, hh'] <;> omega))); conv => whnf))
          refine loopC (hC2 (c.1, c.2 + 1) ⟨hM.old hvg (by rw [hh]; intro h; cases h), hcoff, by simp only; omega, hcm, hcwl⟩ (by simp only; omega)) ?_
          rw [hcw, Int.natCast_succ]
          rfl
        | true =>
          have hh' : has (first (L.length : Int)) v = true := hh
          have hvr := has_range hh
          have hw3 : IntKind.i64.wrap (v - 1) = v - 1 := wrap_i64 ⟨by omega, by omega⟩
          have e1 : ((Int.toNat (v - 1) : Nat) : Int) = v - 1 := by omega
          have e2 : ((Int.toNat (o - 1) : Nat) : Int) = o - 1 := by omega
          have hbo := hM.inv.bnd o hob
          have hbo2 := (hM.inv.snd o hob).1
          have hw4 : IntKind.i64.wrap (mt c.1.met o + 1) = mt c.1.met o + 1 := wrap_i64 ⟨by omega, by omega⟩
          by_cases hz : mt c.1.met v = 0
          · have hz' : at0 c.1.met (v - 1) = 0 := hz
            have hN := hM.new hvg hh hz
            have hno : at0 c.1.met (o - 1) = mt c.1.met o := rfl
            have hnn : (c.1.met.set (v - 1).toNat (mt c.1.met o + 1)).count 0 + 1 = c.1.met.count 0 := by
              have hg : c.1.met[(v - 1).toNat]? = some 0 := by
                have : (v - 1).toNat < c.1.met.length := by rw [hcl]; omega
                unfold at0 at hz'
                rw [List.getElem?_eq_getElem this] at hz' ⊢
                simpa using hz'
              exact count_set_zero hg (by omega)
            conv => whnf
            repeat' (first
              | (refine brK_true (by assumption) ?_; conv => whnf)
              | (refine brK_false (by assumption) ?_; conv => whnf)
              | (refine brK_true ?_ ?_; (focus (simp only [List.length_nil, not_t, not_f, lt_t, lt_f, le_t, le_f, eq_t, eq_f, us_len, is_len, bs_len, lenL_00, hv, rs_len, bv_iv, hh', hw3, hw2, e1, e2, hcl, hz'] <;> omega)); conv => whnf)
              | (refine brK_false ?_ ?_; (focus (simp only [List.length_nil, not_t, not_f, lt_t, lt_f, le_t, le_f, eq_t, eq_f, us_len, is_len, bs_len, lenL_00, hv, rs_len, bv_iv, hh', hw3, hw2, e1, e2, hcl, hz'] <;> omega)); conv => whnf)
              | ((refine brK_of (fun h => ?_) (fun h => ?_)) <;> (have h2 := h; (try simp only [List.length_nil, not_t, not_f, lt_t, lt_f, le_t, le_f, eq_t, eq_f, us_len, is_len, bs_len, lenL_00, hv, rs_len, bv_iv, hh', hw3, hw2, e1, e2, hcl, hz'] at h2); conv => whnf))
              | (refine reqK_of ?_ ?_; (focus (first | decide | omega | assumption | (simp only [List.length_nil, not_t, not_f, lt_t, lt_f, le_t, le_f, eq_t, eq_f, us_len, is_len, bs_len, lenL_00, hv, rs_len, bv_iv, hh', hw3, hw2, e1, e2, hcl, hz'] <;> omega) | (simp [keyNew, sameKey, kEq] <;> omega))); conv => whnf)
              | (refine reqK_of ?_ ?_; rotate_left; (conv => whnf); rotate_left)
              | (refine nth_us ?_ ?_ ?_; (focus (first | omega | (simp only [List.length_nil, not_t, not_f, lt_t, lt_f, le_t, le_f, eq_t, eq_f, us_len, is_len, bs_len, lenL_00, hv, rs_len, bv_iv, hh', hw3, hw2, e1, e2, hcl, hz'] <;> omega))); (focus (first | omega | (simp only [List.length_nil, not_t, not_f, lt_t, lt_f, le_t, le_f, eq_t, eq_f, us_len, is_len, bs_len, lenL_00, hv, rs_len, bv_iv, hh', hw3, hw2, e1, e2, hcl, hz'] <;> omega))); conv => whnf)
              | (refine nth_is ?_ ?_ ?_; (focus (first | omega | (simp only [List.length_nil, not_t, not_f, lt_t, lt_f, le_t, le_f, eq_t, eq_f, us_len, is_len, bs_len, lenL_00, hv, rs_len, bv_iv, hh', hw3, hw2, e1, e2, hcl, hz'] <;> omega))); (focus (first | omega | (simp only [List.length_nil, not_t, not_f, lt_t, lt_f, le_t, le_f, eq_t, eq_f, us_len, is_len, bs_len, lenL_00, hv, rs_len, bv_iv, hh', hw3, hw2, e1, e2, hcl, hz'] <;> omega))); conv => whnf)
              | (refine nth_bs ?_ ?_ ?_; (focus (first | omega | (simp only [List.length_nil, not_t, not_f, lt_t, lt_f, le_t, le_f, eq_t, eq_f, us_len, is_len, bs_len, lenL_00, hv, rs_len, bv_iv, hh', hw3, hw2, e1, e2, hcl, hz'] <;> omega))); (focus (first | omega | (simp only [List.length_nil, not_t, not_f, lt_t, lt_f, le_t, le_f, eq_t, eq_f, us_len, is_len, bs_len, lenL_00, hv, rs_len, bv_iv, hh', hw3, hw2, e1, e2, hcl, hz'] <;> omega))); conv => whnf))
            · simp only [is_len, maxBytes, List.length_cons, List.length_nil]; omega
            · refine loopC (hC2 (⟨c.1.met.set (v - 1).toNat (mt c.1.met o + 1), c.1.wl.drop c.1.off ++ [v], 0⟩, c.2 + 1) ⟨hN, Nat.zero_le _, by simp only; omega, ?_, ?_⟩ (by simp only; omega)) ?_
              · simp only [List.drop_zero, List.length_append, List.length_cons, List.length_nil]; omega
              · simp only [List.length_append, List.length_cons, List.length_nil]; omega
              rw [hcw, hv, hw3, hw2, e2, hno, hw4, is_set, subL_is, is_snoc, Int.natCast_succ]
              rfl
          · have hz' : ¬ at0 c.1.met (v - 1) = 0 := hz
            conv => whnf
            repeat' (first
              | (refine brK_true (by assumption) ?_; conv => whnf)
              | (refine brK_false (by assumption) ?_; conv => whnf)
              | (refine brK_true ?_ ?_; (focus (simp only [List.length_nil, not_t, not_f, lt_t, lt_f, le_t, le_f, eq_t, eq_f, us_len, is_len, bs_len, lenL_00, hv, rs_len, bv_iv, hh', hw3, hw2, e1, e2, hcl] <;> omega)); conv => whnf)
              | (refine brK_false ?_ ?_; (focus (simp only [List.length_nil, not_t, not_f, lt_t, lt_f, le_t, le_f, eq_t, eq_f, us_len, is_len, bs_len, lenL_00, hv, rs_len, bv_iv, hh', hw3, hw2, e1, e2, hcl] <;> omega)); conv => whnf)
              | ((refine brK_of (fun h => ?_) (fun h => ?_)) <;> (have h2 := h; (try simp only [List.length_nil, not_t, not_f, lt_t, lt_f, le_t, le_f, eq_t, eq_f, us_len, is_len, bs_len, lenL_00, hv, rs_len, bv_iv, hh', hw3, hw2, e1, e2, hcl] at h2); conv => whnf))
              | (refine reqK_of ?_ ?_; (focus (first | decide | omega | assumption | (simp only [List.length_nil, not_t, not_f, lt_t, lt_f, le_t, le_f, eq_t, eq_f, us_len, is_len, bs_len, lenL_00, hv, rs_len, bv_iv, hh', hw3, hw2, e1, e2, hcl] <;> omega) | (simp [keyNew, sameKey, kEq] <;> omega))); conv => whnf)
              | (refine reqK_of ?_ ?_; rotate_left; (conv => whnf); rotate_left)
              | (refine nth_us ?_ ?_ ?_; (focus (first | omega | (simp only [List.length_nil, not_t, not_f, lt_t, lt_f, le_t, le_f, eq_t, eq_f, us_len, is_len, bs_len, lenL_00, hv, rs_len, bv_iv, hh', hw3, hw2, e1, e2, hcl] <;> omega))); (focus (first | omega | (simp only [List.length_nil, not_t, not_f, lt_t, lt_f, le_t, le_f, eq_t, eq_f, us_len, is_len, bs_len, lenL_00, hv, rs_len, bv_iv, hh', hw3, hw2, e1, e2, hcl] <;> omega))); conv => whnf)
              | (refine nth_is ?_ ?_ ?_; (focus (first | omega | (simp only [List.length_nil, not_t, not_f, lt_t, lt_f, le_t, le_f, eq_t, eq_f, us_len, is_len, bs_len, lenL_00, hv, rs_len, bv_iv, hh', hw3, hw2, e1, e2, hcl] <;> omega))); (focus (first | omega | (simp only [List.length_nil, not_t, not_f, lt_t, lt_f, le_t, le_f, eq_t, eq_f, us_len, is_len, bs_len, lenL_00, hv, rs_len, bv_iv, hh', hw3, hw2, e1, e2, hcl] <;> omega))); conv => whnf)
              | (refine nth_bs ?_ ?_ ?_; (focus (first | omega | (simp only [List.length_nil, not_t, not_f, lt_t, lt_f, le_t, le_f, eq_t, eq_f, us_len, is_len, bs_len, lenL_00, hv, rs_len, bv_iv, hh', hw3, hw2, e1, e2, hcl] <;> omega))); (focus (first | omega | (simp only [List.length_nil, not_t, not_f, lt_t, lt_f, le_t, le_f, eq_t, eq_f, us_len, is_len, bs_len, lenL_00, hv, rs_len, bv_iv, hh', hw3, hw2, e1, e2, hcl] <;> omega))); conv => whnf))
            refine loopC (hC2 (c.1, c.2 + 1) ⟨hM.old hvg (fun _ => hz), hcoff, by simp only; omega, hcm, hcwl⟩ (by simp only; omega)) ?_
            rw [hcw, Int.natCast_succ]
            rfl
      · obtain ⟨r', hr'⟩ := hM.ne
        have hrl : (c.1.wl.drop c.1.off).length = r'.length + 1 := by rw [hr']; rfl
        have hdr' : c.1.wl.drop (c.1.off + 1) = r' := by rw [← List.drop_drop, hr']; rfl
        have hcol : c.1.wl.length = c.1.off + r'.length + 1 := by have := List.length_drop (l := c.1.wl) (i := c.1.off); omega
        conv => whnf
        repeat' (first
          | (refine brK_true (by assumption) ?_; conv => whnf)
          | (refine brK_false (by assumption) ?_; conv => whnf)
          | (refine brK_true ?_ ?_; (focus (simp only [List.length_nil, not_t, not_f, lt_t, lt_f, le_t, le_f, eq_t, eq_f, us_len, is_len, bs_len, lenL_00] <;> omega)); conv => whnf)
          | (refine brK_false ?_ ?_; (focus (simp only [List.length_nil, not_t, not_f, lt_t, lt_f, le_t, le_f, eq_t, eq_f, us_len, is_len, bs_len, lenL_00] <;> omega)); conv => whnf)
          | ((refine brK_of (fun h => ?_) (fun h => ?_)) <;> (have h2 := h; (try simp only [List.length_nil, not_t, not_f, lt_t, lt_f, le_t, le_f, eq_t, eq_f, us_len, is_len, bs_len, lenL_00] at h2); conv => whnf))
          | (refine reqK_of ?_ ?_; (focus (first | decide | omega | assumption | (simp only [List.length_nil, not_t, not_f, lt_t, lt_f, le_t, le_f, eq_t, eq_f, us_len, is_len, bs_len, lenL_00] <;> omega) | (simp [keyNew, sameKey, kEq] <;> omega))); conv => whnf)
          | (refine reqK_of ?_ ?_; rotate_left; (conv => whnf); rotate_left)
          | (refine nth_us ?_ ?_ ?_; (focus (first | omega | (simp only [List.length_nil, not_t, not_f, lt_t, lt_f, le_t, le_f, eq_t, eq_f, us_len, is_len, bs_len, lenL_00] <;> omega))); (focus (first | omega | (simp only [List.length_nil, not_t, not_f, lt_t, lt_f, le_t, le_f, eq_t, eq_f, us_len, is_len, bs_len, lenL_00] <;> omega))); conv => whnf)
          | (refine nth_is ?_ ?_ ?_; (focus (first | omega | (simp only [List.length_nil, not_t, not_f, lt_t, lt_f, le_t, le_f, eq_t, eq_f, us_len, is_len, bs_len, lenL_00] <;> omega))); (focus (first | omega | (simp only [List.length_nil, not_t, not_f, lt_t, lt_f, le_t, le_f, eq_t, eq_f, us_len, is_len, bs_len, lenL_00] <;> omega))); conv => whnf)
          | (refine nth_bs ?_ ?_ ?_; (focus (first | omega | (simp only [List.length_nil, not_t, not_f, lt_t, lt_f, le_t, le_f, eq_t, eq_f, us_len, is_len, bs_len, lenL_00] <;> omega))); (focus (first | omega | (simp only [List.length_nil, not_t, not_f, lt_t, lt_f, le_t, le_f, eq_t, eq_f, us_len, is_len, bs_len, lenL_00] <;> omega))); conv => whnf))
        · have hD : WInv L op (bv s) c.1.met (c.1.wl.drop (c.1.off + 1)) := by
            rw [hdr']
            rw [hr'] at hM
            exact hM.done (by omega)
          refine loopC (hC ⟨c.1.met, c.1.wl, c.1.off + 1⟩ ⟨hD, by simp only; omega, hcwl⟩ (by simp only [hdr']; omega)) ?_
          rfl
  · rw [rowsOf_rs]
    have hR : IsR (rs L) := ⟨L, rfl, hL, hl⟩
    obtain ⟨op, hop⟩ : ∃ op : Int → Bool, op = fun _ => true := ⟨_, rfl⟩
    rw [← hop]
    obtain ⟨l, hl0⟩ : ∃ l, l = lsL (bv s &&& own L) := ⟨_, rfl⟩
    have hll : l.length ≤ 64 := by rw [hl0]; exact lsL_len _
    have hlm : ∀ o ∈ l, 1 ≤ o ∧ o ≤ 64 := fun o ho => by rw [hl0] at ho; exact has_range (mem_lsL.1 ho)
    have hand : andI .u64 s (iv (first (((rs L).length : Nat) : Int))) = iv (bv s &&& own L) := by rw [rs_len, andI_u, bv_iv]; rfl
    conv => whnf
    repeat' (first
      | (refine brK_true (by assumption) ?_; conv => whnf)
      | (refine brK_false (by assumption) ?_; conv => whnf)
      | (refine brK_true ?_ ?_; (focus (simp only [List.length_nil, not_t, not_f, lt_t, lt_f, le_t, le_f, eq_t, eq_f, us_len, is_len, bs_len, lenL_00, rs_len, bv_iv] <;> omega)); conv => whnf)
      | (refine brK_false ?_ ?_; (focus (simp only [List.length_nil, not_t, not_f, lt_t, lt_f, le_t, le_f, eq_t, eq_f, us_len, is_len, bs_len, lenL_00, rs_len, bv_iv] <;> omega)); conv => whnf)
      | ((refine brK_of (fun h => ?_) (fun h => ?_)) <;> (have h2 := h; (try simp only [List.length_nil, not_t, not_f, lt_t, lt_f, le_t, le_f, eq_t, eq_f, us_len, is_len, bs_len, lenL_00, rs_len, bv_iv] at h2); conv => whnf))
      | (refine reqK_of ?_ ?_; (focus (first | decide | omega | assumption | (simp only [List.length_nil, not_t, not_f, lt_t, lt_f, le_t, le_f, eq_t, eq_f, us_len, is_len, bs_len, lenL_00, rs_len, bv_iv] <;> omega) | (simp [keyNew, sameKey, kEq] <;> omega))); conv => whnf)
      | (refine reqK_of ?_ ?_; rotate_left; (conv => whnf); rotate_left)
      | (refine nth_us ?_ ?_ ?_; (focus (first | omega | (simp only [List.length_nil, not_t, not_f, lt_t, lt_f, le_t, le_f, eq_t, eq_f, us_len, is_len, bs_len, lenL_00, rs_len, bv_iv] <;> omega))); (focus (first | omega | (simp only [List.length_nil, not_t, not_f, lt_t, lt_f, le_t, le_f, eq_t, eq_f, us_len, is_len, bs_len, lenL_00, rs_len, bv_iv] <;> omega))); conv => whnf)
      | (refine nth_is ?_ ?_ ?_; (focus (first | omega | (simp only [List.length_nil, not_t, not_f, lt_t, lt_f, le_t, le_f, eq_t, eq_f, us_len, is_len, bs_len, lenL_00, rs_len, bv_iv] <;> omega))); (focus (first | omega | (simp only [List.length_nil, not_t, not_f, lt_t, lt_f, le_t, le_f, eq_t, eq_f, us_len, is_len, bs_len, lenL_00, rs_len, bv_iv] <;> omega))); conv => whnf)
      | (refine nth_bs ?_ ?_ ?_; (focus (first | omega | (simp only [List.length_nil, not_t, not_f, lt_t, lt_f, le_t, le_f, eq_t, eq_f, us_len, is_len, bs_len, lenL_00, rs_len, bv_iv] <;> omega))); (focus (first | omega | (simp only [List.length_nil, not_t, not_f, lt_t, lt_f, le_t, le_f, eq_t, eq_f, us_len, is_len, bs_len, lenL_00, rs_len, bv_iv] <;> omega))); conv => whnf))
    · rw [hand]; exact R_iv _
    rw [hand, bv_iv, rs_len, ← hl0]
    change loopK _ _ ⟨_, [(86, .lst 1 (is l) 1), (71, .lst 1 (is (iniM (l.take 0))) 0), (70, .lst 1 (is (iniM (l.take 0))) 0), (67, _)]⟩ _
    refine loopUp [] [.kill 11, .kill 26, .kill 27, .kill 28, .kill 29, .kill 30, .kill 31, .kill 32] (fun k : Nat => [(25, .t (.int .i64 (k : Int)))]) (fun k => [(71, .lst 1 (is (iniM (l.take k))) 0)]) (fun k => k ≤ l.length) (fun k => l.length - k) 0 (Nat.zero_le _) ?_
    conv => whnf
    refine ⟨⟨rfl, rfl⟩, fun k hk C hC => ?_⟩
    have hw : IntKind.i64.wrap ((k : Int) + 1) = (k : Int) + 1 := wrap_i64 ⟨by omega, by omega⟩
    have hil := iniM_len (l.take k)
    by_cases hlt : k < l.length
    · obtain ⟨o, ho⟩ : ∃ o, at0 l k = o := ⟨_, rfl⟩
      have hor := hlm o (by rw [← ho]; exact at0_mem (by omega))
      have hw2 : IntKind.i64.wrap (o - 1) = o - 1 := wrap_i64 ⟨by omega, by omega⟩
      conv => whnf
      repeat' (first
        | (refine brK_true (by assumption) ?_; conv => whnf)
        | (refine brK_false (by assumption) ?_; conv => whnf)
        | (refine brK_true ?_ ?_; (focus (simp only [List.length_nil, not_t, not_f, lt_t, lt_f, le_t, le_f, eq_t, eq_f, us_len, is_len, bs_len, lenL_00, ho, hw2, hil] <;> omega)); conv => whnf)
        | (refine brK_false ?_ ?_; (focus (simp only [List.length_nil, not_t, not_f, lt_t, lt_f, le_t, le_f, eq_t, eq_f, us_len, is_len, bs_len, lenL_00, ho, hw2, hil] <;> omega)); conv => whnf)
        | ((refine brK_of (fun h => ?_) (fun h => ?_)) <;> (have h2 := h; (try simp only [List.length_nil, not_t, not_f, lt_t, lt_f, le_t, le_f, eq_t, eq_f, us_len, is_len, bs_len, lenL_00, ho, hw2, hil] at h2); conv => whnf))
        | (refine reqK_of ?_ ?_; (focus (first | decide | omega | assumption | (simp only [List.length_nil, not_t, not_f, lt_t, lt_f, le_t, le_f, eq_t, eq_f, us_len, is_len, bs_len, lenL_00, ho, hw2, hil] <;> omega) | (simp [keyNew, sameKey, kEq] <;> omega))); conv => whnf)
        | (refine reqK_of ?_ ?_; rotate_left; (conv => whnf); rotate_left)
        | (refine nth_us ?_ ?_ ?_; (focus (first | omega | (simp only [List.length_nil, not_t, not_f, lt_t, lt_f, le_t, le_f, eq_t, eq_f, us_len, is_len, bs_len, lenL_00, ho, hw2, hil] <;> omega))); (focus (first | omega | (simp only [List.length_nil, not_t, not_f, lt_t, lt_f, le_t, le_f, eq_t, eq_f, us_len, is_len, bs_len, lenL_00, ho, hw2, hil] <;> omega))); conv => whnf)
        | (refine nth_is ?_ ?_ ?_; (focus (first | omega | (simp only [List.length_nil, not_t, not_f, lt_t, lt_f, le_t, le_f, eq_t, eq_f, us_len, is_len, bs_len, lenL_00, ho, hw2, hil] <;> omega))); (focus (first | omega | (simp only [List.length_nil, not_t, not_f, lt_t, lt_f, le_t, le_f, eq_t, eq_f, us_len, is_len, bs_len, lenL_00, ho, hw2, hil] <;> omega))); conv => whnf)
        | (refine nth_bs ?_ ?_ ?_; (focus (first | omega | (simp only [List.length_nil, not_t, not_f, lt_t, lt_f, le_t, le_f, eq_t, eq_f, us_len, is_len, bs_len, lenL_00, ho, hw2, hil] <;> omega))); (focus (first | omega | (simp only [List.length_nil, not_t, not_f, lt_t, lt_f, le_t, le_f, eq_t, eq_f, us_len, is_len, bs_len, lenL_00, ho, hw2, hil] <;> omega))); conv => whnf))
      refine loopC (hC (k + 1) (by omega) (by omega)) ?_
      rw [ho, hw2, is_set, hw, iniM_take hlt, ho, Int.natCast_succ]
      rfl
    conv => whnf
    repeat' (first
      | (refine brK_true (by assumption) ?_; conv => whnf)
      | (refine brK_false (by assumption) ?_; conv => whnf)
      | (refine brK_true ?_ ?_; (focus (simp only [List.length_nil, not_t, not_f, lt_t, lt_f, le_t, le_f, eq_t, eq_f, us_len, is_len, bs_len, lenL_00] <;> omega)); conv => whnf)
      | (refine brK_false ?_ ?_; (focus (simp only [List.length_nil, not_t, not_f, lt_t, lt_f, le_t, le_f, eq_t, eq_f, us_len, is_len, bs_len, lenL_00] <;> omega)); conv => whnf)
      | ((refine brK_of (fun h => ?_) (fun h => ?_)) <;> (have h2 := h; (try simp only [List.length_nil, not_t, not_f, lt_t, lt_f, le_t, le_f, eq_t, eq_f, us_len, is_len, bs_len, lenL_00] at h2); conv => whnf))
      | (refine reqK_of ?_ ?_; (focus (first | decide | omega | assumption | (simp only [List.length_nil, not_t, not_f, lt_t, lt_f, le_t, le_f, eq_t, eq_f, us_len, is_len, bs_len, lenL_00] <;> omega) | (simp [keyNew, sameKey, kEq] <;> omega))); conv => whnf)
      | (refine reqK_of ?_ ?_; rotate_left; (conv => whnf); rotate_left)
      | (refine nth_us ?_ ?_ ?_; (focus (first | omega | (simp only [List.length_nil, not_t, not_f, lt_t, lt_f, le_t, le_f, eq_t, eq_f, us_len, is_len, bs_len, lenL_00] <;> omega))); (focus (first | omega | (simp only [List.length_nil, not_t, not_f, lt_t, lt_f, le_t, le_f, eq_t, eq_f, us_len, is_len, bs_len, lenL_00] <;> omega))); conv => whnf)
      | (refine nth_is ?_ ?_ ?_; (focus (first | omega | (simp only [List.length_nil, not_t, not_f, lt_t, lt_f, le_t, le_f, eq_t, eq_f, us_len, is_len, bs_len, lenL_00] <;> omega))); (focus (first | omega | (simp only [List.length_nil, not_t, not_f, lt_t, lt_f, le_t, le_f, eq_t, eq_f, us_len, is_len, bs_len, lenL_00] <;> omega))); conv => whnf)
      | (refine nth_bs ?_ ?_ ?_; (focus (first | omega | (simp only [List.length_nil, not_t, not_f, lt_t, lt_f, le_t, le_f, eq_t, eq_f, us_len, is_len, bs_len, lenL_00] <;> omega))); (focus (first | omega | (simp only [List.length_nil, not_t, not_f, lt_t, lt_f, le_t, le_f, eq_t, eq_f, us_len, is_len, bs_len, lenL_00] <;> omega))); conv => whnf))
    have ek : k = l.length := by omega
    subst ek
    rw [List.take_length]
    have hW0 : WInv L op (bv s) (iniM l) l := by rw [hl0]; exact WInv.init L op (bv s)
    change loopK _ _ ⟨_, [(86, .lst 1 (is l) 1), (71, .lst 1 (is (iniM l)) 0), (70, .lst 1 (is (List.replicate 64 0)) 0), (67, _)]⟩ _
    refine loopUp [.kill 22, .kill 23, .ren 86 1001] [.kill 12, .kill 13, .kill 14, .kill 33, .kill 34, .kill 35, .kill 36, .kill 37, .kill 38, .kill 39, .kill 40, .kill 41, .kill 42, .kill 43, .kill 44, .kill 45, .kill 46, .kill 47, .kill 48, .kill 49, .kill 50, .kill 51, .kill 52, .kill 53, .kill 54, .kill 55, .kill 56, .kill 57, .kill 58, .kill 59, .kill 60, .kill 61, .kill 62, .kill 63, .kill 64, .kill 65, .kill 66, .kill 67, .kill 68, .kill 69, .kill 70, .kill 71, .kill 72, .kill 73, .kill 74, .kill 75, .kill 76, .kill 77, .kill 78] (fun a : Wk => [(9, .sl 1001 a.off none)]) (fun a => [(71, .lst 1 (is a.met) 0), (1001, .lst 1 (is a.wl) 1)]) (fun a => WInv L op (bv s) a.met (a.wl.drop a.off) ∧ a.off ≤ a.wl.length ∧ a.wl.length ≤ 65) (fun a => a.met.count 0 + (a.wl.drop a.off).length) ⟨iniM l, l, 0⟩ ⟨hW0, Nat.zero_le _, by show l.length ≤ 65; omega⟩ ?_
    conv => whnf
    refine ⟨⟨rfl, rfl⟩, fun a ha C hC => ?_⟩
    obtain ⟨hW, hoff, hwl⟩ := ha
    have hll1 := lenL_o (is a.wl) a.off (by rw [is_len]; exact hoff)
    have hll2 : ((is a.wl).drop a.off).length = (a.wl.drop a.off).length := by simp
    have hml := hW.len
    rcases hst : a.wl.drop a.off with _ | ⟨o, r⟩
    · rw [hst] at hW hll2
      simp only [List.length_nil] at hll2
      have hfin := hW.fin
      conv => whnf
      repeat' (first
        | (refine brK_true (by assumption) ?_; conv => whnf)
        | (refine brK_false (by assumption) ?_; conv => whnf)
        | (refine brK_true ?_ ?_; (focus (simp only [List.length_nil, not_t, not_f, lt_t, lt_f, le_t, le_f, eq_t, eq_f, us_len, is_len, bs_len, lenL_00, hll1, hll2] <;> omega)); conv => whnf)
        | (refine brK_false ?_ ?_; (focus (simp only [List.length_nil, not_t, not_f, lt_t, lt_f, le_t, le_f, eq_t, eq_f, us_len, is_len, bs_len, lenL_00, hll1, hll2] <;> omega)); conv => whnf)
        | ((refine brK_of (fun h => ?_) (fun h => ?_)) <;> (have h2 := h; (try simp only [List.length_nil, not_t, not_f, lt_t, lt_f, le_t, le_f, eq_t, eq_f, us_len, is_len, bs_len, lenL_00, hll1, hll2] at h2); conv => whnf))
        | (refine reqK_of ?_ ?_; (focus (first | decide | omega | assumption | (simp only [List.length_nil, not_t, not_f, lt_t, lt_f, le_t, le_f, eq_t, eq_f, us_len, is_len, bs_len, lenL_00, hll1, hll2] <;> omega) | (simp [keyNew, sameKey, kEq] <;> omega))); conv => whnf)
        | (refine reqK_of ?_ ?_; rotate_left; (conv => whnf); rotate_left)
        | (refine nth_us ?_ ?_ ?_; (focus (first | omega | (simp only [List.length_nil, not_t, not_f, lt_t, lt_f, le_t, le_f, eq_t, eq_f, us_len, is_len, bs_len, lenL_00, hll1, hll2] <;> omega))); (focus (first | omega | (simp only [List.length_nil, not_t, not_f, lt_t, lt_f, le_t, le_f, eq_t, eq_f, us_len, is_len, bs_len, lenL_00, hll1, hll2] <;> omega))); conv => whnf)
        | (refine nth_is ?_ ?_ ?_; (focus (first | omega | (simp only [List.length_nil, not_t, not_f, lt_t, lt_f, le_t, le_f, eq_t, eq_f, us_len, is_len, bs_len, lenL_00, hll1, hll2] <;> omega))); (focus (first | omega | (simp only [List.length_nil, not_t, not_f, lt_t, lt_f, le_t, le_f, eq_t, eq_f, us_len, is_len, bs_len, lenL_00, hll1, hll2] <;> omega))); conv => whnf)
        | (refine nth_bs ?_ ?_ ?_; (focus (first | omega | (simp only [List.length_nil, not_t, not_f, lt_t, lt_f, le_t, le_f, eq_t, eq_f, us_len, is_len, bs_len, lenL_00, hll1, hll2] <;> omega))); (focus (first | omega | (simp only [List.length_nil, not_t, not_f, lt_t, lt_f, le_t, le_f, eq_t, eq_f, us_len, is_len, bs_len, lenL_00, hll1, hll2] <;> omega))); conv => whnf))
      all_goals first
        | exact is_one _
        | exact ⟨by rw [is_len]; exact hml, is_one _⟩
        | exact ⟨by simp, is_one _⟩
        | exact ⟨by rw [is_len]; exact hml, by simp, is_one _⟩
        | rw [hfin]
    · have hst' := hst
      rw [hst] at hW hll2
      simp only [List.length_cons] at hll2
      have how := hW.wt o (by simp)
      have hob := own_obj how.2
      have hor := obj_iff.1 hob
      have hle := own_le how.2
      have hw2 : IntKind.i64.wrap (o - 1) = o - 1 := wrap_i64 ⟨by omega, by omega⟩
      have ho0 : at0 (a.wl.drop a.off) 0 = o := by rw [hst]; rfl
      have hdl : (a.wl.drop a.off).length = r.length + 1 := by rw [hst]; rfl
      have hrow := hl _ (row_mem hor.1 hle)
      have hdr : a.wl.drop (a.off + 1) = r := by rw [← List.drop_drop, hst]; rfl
      have hol : a.wl.length = a.off + r.length + 1 := by have := List.length_drop (l := a.wl) (i := a.off); omega
      have hadd : Nat.add a.off (Int.toNat 1) = a.off + 1 := rfl
      have hopo : op o = true := by rw [hop]
      conv => whnf
      repeat' (first
        | (refine brK_true (by assumption) ?_; conv => whnf)
        | (refine brK_false (by assumption) ?_; conv => whnf)
        | (refine brK_true ?_ ?_; (focus (simp only [List.length_nil, not_t, not_f, lt_t, lt_f, le_t, le_f, eq_t, eq_f, us_len, is_len, bs_len, lenL_00, hll1, hll2, hdl, ho0, hw2, rs_len, hopo] <;> omega)); conv => whnf)
        | (refine brK_false ?_ ?_; (focus (simp only [List.length_nil, not_t, not_f, lt_t, lt_f, le_t, le_f, eq_t, eq_f, us_len, is_len, bs_len, lenL_00, hll1, hll2, hdl, ho0, hw2, rs_len, hopo] <;> omega)); conv => whnf)
        | ((refine brK_of (fun h => ?_) (fun h => ?_)) <;> (have h2 := h; (try simp only [List.length_nil, not_t, not_f, lt_t, lt_f, le_t, le_f, eq_t, eq_f, us_len, is_len, bs_len, lenL_00, hll1, hll2, hdl, ho0, hw2, rs_len, hopo] at h2); conv => whnf))
        | (refine reqK_of ?_ ?_; (focus (first | decide | omega | assumption | (simp only [List.length_nil, not_t, not_f, lt_t, lt_f, le_t, le_f, eq_t, eq_f, us_len, is_len, bs_len, lenL_00, hll1, hll2, hdl, ho0, hw2, rs_len, hopo] <;> omega) | (simp [keyNew, sameKey, kEq] <;> omega))); conv => whnf)
        | (refine reqK_of ?_ ?_; rotate_left; (conv => whnf); rotate_left)
        | (refine nth_rs ?_ ?_ ?_; (focus (first | omega | (simp only [List.length_nil, not_t, not_f, lt_t, lt_f, le_t, le_f, eq_t, eq_f, us_len, is_len, bs_len, lenL_00, hll1, hll2, hdl, ho0, hw2, rs_len, hopo] <;> omega))); (focus (first | omega | (simp only [List.length_nil, not_t, not_f, lt_t, lt_f, le_t, le_f, eq_t, eq_f, us_len, is_len, bs_len, lenL_00, hll1, hll2, hdl, ho0, hw2, rs_len, hopo] <;> omega))); conv => whnf)
        | (refine nth_sub ?_ ?_ ?_; (focus (first | omega | (simp only [List.length_nil, not_t, not_f, lt_t, lt_f, le_t, le_f, eq_t, eq_f, us_len, is_len, bs_len, lenL_00, hll1, hll2, hdl, ho0, hw2, rs_len, hopo] <;> omega))); (focus (first | omega | (simp only [List.length_nil, not_t, not_f, lt_t, lt_f, le_t, le_f, eq_t, eq_f, us_len, is_len, bs_len, lenL_00, hll1, hll2, hdl, ho0, hw2, rs_len, hopo] <;> omega))); conv => whnf)
        | (refine nth_us ?_ ?_ ?_; (focus (first | omega | (simp only [List.length_nil, not_t, not_f, lt_t, lt_f, le_t, le_f, eq_t, eq_f, us_len, is_len, bs_len, lenL_00, hll1, hll2, hdl, ho0, hw2, rs_len, hopo] <;> omega))); (focus (first | omega | (simp only [List.length_nil, not_t, not_f, lt_t, lt_f, le_t, le_f, eq_t, eq_f, us_len, is_len, bs_len, lenL_00, hll1, hll2, hdl, ho0, hw2, rs_len, hopo] <;> omega))); conv => whnf)
        | (refine nth_is ?_ ?_ ?_; (focus (first | omega | (simp only [List.length_nil, not_t, not_f, lt_t, lt_f, le_t, le_f, eq_t, eq_f, us_len, is_len, bs_len, lenL_00, hll1, hll2, hdl, ho0, hw2, rs_len, hopo] <;> omega))); (focus (first | omega | (simp only [List.length_nil, not_t, not_f, lt_t, lt_f, le_t, le_f, eq_t, eq_f, us_len, is_len, bs_len, lenL_00, hll1, hll2, hdl, ho0, hw2, rs_len, hopo] <;> omega))); conv => whnf)
        | (refine nth_bs ?_ ?_ ?_; (focus (first | omega | (simp only [List.length_nil, not_t, not_f, lt_t, lt_f, le_t, le_f, eq_t, eq_f, us_len, is_len, bs_len, lenL_00, hll1, hll2, hdl, ho0, hw2, rs_len, hopo] <;> omega))); (focus (first | omega | (simp only [List.length_nil, not_t, not_f, lt_t, lt_f, le_t, le_f, eq_t, eq_f, us_len, is_len, bs_len, lenL_00, hll1, hll2, hdl, ho0, hw2, rs_len, hopo] <;> omega))); conv => whnf))
      rw [ho0, hw2, show o - 1 + 1 = o by omega]
      have hM0 : WMid L op (bv s) o 0 a.met (a.wl.drop a.off) := by rw [hst]; exact WMid.start hW hopo
      refine loopFn [.kill 33, .kill 38] (fun s => nzIf 141 s [.kill 14, .kill 53, .kill 54, .kill 55, .kill 56, .kill 57, .kill 58, .kill 59, .kill 60, .kill 61, .kill 62, .kill 63, .kill 64, .kill 65, .kill 66, .kill 67, .kill 68, .kill 69, .kill 70, .kill 71, .kill 72, .kill 73, .kill 74, .kill 75, .kill 76, .kill 77, .kill 78, .keep [141, 71, 70, 67], .ren 141 1001] [.kill 14, .kill 53, .kill 54, .kill 55, .kill 56, .kill 57, .kill 58, .kill 59, .kill 60, .kill 61, .kill 62, .kill 63, .kill 64, .kill 65, .kill 66, .kill 67, .kill 68, .kill 69, .kill 70, .kill 71, .kill 72, .kill 73, .kill 74, .kill 75, .kill 76, .kill 77, .kill 78]) (fun c : Wk × Nat => [(9, .sl 1001 c.1.off none), (52, .t (.int .i64 (c.2 : Int)))]) (fun c => [(1001, .lst 1 (is c.1.wl) 1), (71, .lst 1 (is c.1.met) 0), (70, .lst 1 (is (List.replicate 64 0)) 0), (67, .cells [.t (.int .i64 sl), .t (.list 1 (rs L))])]) (fun c => WMid L op (bv s) o c.2 c.1.met (c.1.wl.drop c.1.off) ∧ c.1.off ≤ c.1.wl.length ∧ c.2 ≤ (row L o).length ∧ c.1.met.count 0 + (c.1.wl.drop c.1.off).length = a.met.count 0 + (a.wl.drop a.off).length ∧ c.1.wl.length ≤ 65) (fun c => (row L o).length - c.2) (a, 0) ⟨hM0, hoff, Nat.zero_le _, rfl, hwl⟩ ?_
      conv => whnf
      refine ⟨⟨rfl, rfl⟩, fun c hc C2 hC2 => ?_⟩
      obtain ⟨hM, hcoff, hci, hcm, hcwl⟩ := hc
      have hcw : IntKind.i64.wrap ((c.2 : Int) + 1) = (c.2 : Int) + 1 := wrap_i64 ⟨by omega, by have := hrow.2; unfold Sz maxBytes at this; rw [is_len] at this; omega⟩
      have hcl := hM.inv.len
      have hcl1 := lenL_o (is c.1.wl) c.1.off (by rw [is_len]; exact hcoff)
      have hcl2 : ((is c.1.wl).drop c.1.off).length = (c.1.wl.drop c.1.off).length := by simp
      have hcnt := hM.inv.cnt
      by_cases hlt : c.2 < (row L o).length
      · obtain ⟨v, hv⟩ : ∃ v, at0 (row L o) c.2 = v := ⟨_, rfl⟩
        have hvg : (row L o)[c.2]? = some v := by rw [← hv]; simp [at0, hlt]
        cases hh : has (own L) v with
        | false =>
          have hh' : has (first (L.length : Int)) v = false := hh
          conv => whnf
          repeat' (first
            | (refine brK_true (by assumption) ?_; conv => whnf)
            | (refine brK_false (by assumption) ?_; conv => whnf)
            | (refine brK_true ?_ ?_; (focus (simp only [List.length_nil, not_t, not_f, lt_t, lt_f, le_t, le_f, eq_t, eq_f, us_len, is_len, bs_len, lenL_00, hv, rs_len, bv_iv, hh'] <;> omega)); conv => whnf)
            | (refine brK_false ?_ ?_; (focus (simp only [List.length_nil, not_t, not_f, lt_t, lt_f, le_t, le_f, eq_t, eq_f, us_len, is_len, bs_len, lenL_00, hv, rs_len, bv_iv, hh'] <;> omega)); conv => whnf)
            | ((refine brK_of (fun h => ?_) (fun h => ?_)) <;> (have h2 := h; (try simp only [List.length_nil, not_t, not_f, lt_t, lt_f, le_t, le_f, eq_t, eq_f, us_len, is_len, bs_len, lenL_00, hv, rs_len, bv_iv, hh'] at h2); conv => whnf))
            | (refine reqK_of ?_ ?_; (focus (first | decide | omega | assumption | (simp only [List.length_nil, not_t, not_f, lt_t, lt_f, le_t, le_f, eq_t, eq_f, us_len, is_len, bs_len, lenL_00, hv, rs_len, bv_iv, hh'] <;> omega) | (simp [keyNew, sameKey, kEq] <;> omega))); conv => whnf)
            | (refine reqK_of ?_ ?_; rotate_left; (conv => whnf); rotate_left)
            | (refine nth_us ?_ ?_ ?_; (focus (first | omega | (simp only [List.length_nil, not_t, not_f, lt_t, lt_f, le_t, le_f, eq_t, eq_f, us_len, is_len, bs_len, lenL_00, hv, rs_len, bv_iv, hh'] <;> omega))); (focus (first | omega | (simp only [List.length_nil, not_t, not_f, lt_t, lt_f, le_t, le_f, eq_t, eq_f, us_len, is_len, bs_len, lenL_00, hv, rs_len, bv_iv, hh'] <;> omega))); conv => whnf)
            | (refine nth_is ?_ ?_ ?_; (focus (first | omega | (simp only [List.length_nil, not_t, not_f, lt_t, lt_f, le_t, le_f, eq_t, eq_f, us_len, is_len, bs_len, lenL_00, hv, rs_len, bv_iv, hh'] <;> omega))); (focus (first | omega | (simp only [List.length_nil, not_t, not_f, lt_t, lt_f, le_t, le_f, eq_t, eq_f, us_len, is_len, bs_len, lenL_00, hv, rs_len, bv_iv, hh'] <;> omega))); conv => whnf)
            | (refine nth_bs ?_ ?_ ?_; (focus (first | omega | (simp only [List.length_nil, not_t, not_f, lt_t, lt_f, le_t, le_f, eq_t, eq_f, us_len, is_len, bs_len, lenL_00, hv, rs_len, bv_iv, hh'] <;> omega))); (focus (first | omega | (simp only [List.length_nil, not_t, not_f, lt_t, lt_f, le_t, le_f, eq_t, eq_f, us_len, is_len, bs_len, lenL_00, hv, rs_len, bv_iv, hh'] <;> omega))); conv => whnf))
          refine loopC (hC2 (c.1, c.2 + 1) ⟨hM.old hvg (by rw [hh]; intro h; cases h), hcoff, by simp only; omega, hcm, hcwl⟩ (by simp only; omega)) ?_
          rw [hcw, Int.natCast_succ]
          rfl
        | true =>
          have hh' : has (first (L.length : Int)) v = true := hh
          have hvr := has_range hh
          have hw3 : IntKind.i64.wrap (v - 1) = v - 1 := wrap_i64 ⟨by omega, by omega⟩
          have e1 : ((Int.toNat (v - 1) : Nat) : Int) = v - 1 := by omega
          have e2 : ((Int.toNat (o - 1) : Nat) : Int) = o - 1 := by omega
          have hbo := hM.inv.bnd o hob
          have hbo2 := (hM.inv.snd o hob).1
          have hw4 : IntKind.i64.wrap (mt c.1.met o + 1) = mt c.1.met o + 1 := wrap_i64 ⟨by omega, by omega⟩
          by_cases hz : mt c.1.met v = 0
          · have hz' : at0 c.1.met (v - 1) = 0 := hz
            have hN := hM.new hvg hh hz
            have hno : at0 c.1.met (o - 1) = mt c.1.met o := rfl
            have hnn : (c.1.met.set (v - 1).toNat (mt c.1.met o + 1)).count 0 + 1 = c.1.met.count 0 := by
              have hg : c.1.met[(v - 1).toNat]? = some 0 := by
                have : (v - 1).toNat < c.1.met.length := by rw [hcl]; omega
                unfold at0 at hz'
                rw [List.getElem?_eq_getElem this] at hz' ⊢
                simpa using hz'
              exact count_set_zero hg (by omega)
            conv => whnf
            repeat' (first
              | (refine brK_true (by assumption) ?_; conv => whnf)
              | (refine brK_false (by assumption) ?_; conv => whnf)
              | (refine brK_true ?_ ?_; (focus (simp only [List.length_nil, not_t, not_f, lt_t, lt_f, le_t, le_f, eq_t, eq_f, us_len, is_len, bs_len, lenL_00, hv, rs_len, bv_iv, hh', hw3, hw2, e1, e2, hcl, hz'] <;> omega)); conv => whnf)
              | (refine brK_false ?_ ?_; (focus (simp only [List.length_nil, not_t, not_f, lt_t, lt_f, le_t, le_f, eq_t, eq_f, us_len, is_len, bs_len, lenL_00, hv, rs_len, bv_iv, hh', hw3, hw2, e1, e2, hcl, hz'] <;> omega)); conv => whnf)
              | ((refine brK_of (fun h => ?_) (fun h => ?_)) <;> (have h2 := h; (try simp only [List.length_nil, not_t, not_f, lt_t, lt_f, le_t, le_f, eq_t, eq_f, us_len, is_len, bs_len, lenL_00, hv, rs_len, bv_iv, hh', hw3, hw2, e1, e2, hcl, hz'] at h2); conv => whnf))
              | (refine reqK_of ?_ ?_; (focus (first | decide | omega | assumption | (simp only [List.length_nil, not_t, not_f, lt_t, lt_f, le_t, le_f, eq_t, eq_f, us_len, is_len, bs_len, lenL_00, hv, rs_len, bv_iv, hh', hw3, hw2, e1, e2, hcl, hz'] <;> omega) | (simp [keyNew, sameKey, kEq] <;> omega))); conv => whnf)
              | (refine reqK_of ?_ ?_; rotate_left; (conv => whnf); rotate_left)
              | (refine nth_us ?_ ?_ ?_; (focus (first | omega | (simp only [List.length_nil, not_t, not_f, lt_t, lt_f, le_t, le_f, eq_t, eq_f, us_len, is_len, bs_len, lenL_00, hv, rs_len, bv_iv, hh', hw3, hw2, e1, e2, hcl, hz'] <;> omega))); (focus (first | omega | (simp only [List.length_nil, not_t, not_f, lt_t, lt_f, le_t, le_f, eq_t, eq_f, us_len, is_len, bs_len, lenL_00, hv, rs_len, bv_iv, hh', hw3, hw2, e1, e2, hcl, hz'] <;> omega))); conv => whnf)
              | (refine nth_is ?_ ?_ ?_; (focus (first | omega | (simp only [List.length_nil, not_t, not_f, lt_t, lt_f, le_t, le_f, eq_t, eq_f, us_len, is_len, bs_len, lenL_00, hv, rs_len, bv_iv, hh', hw3, hw2, e1, e2, hcl, hz'] <;> omega))); (focus (first | omega | (simp only [List.length_nil, not_t, not_f, lt_t, lt_f, le_t, le_f, eq_t, eq_f, us_len, is_len, bs_len, lenL_00, hv, rs_len, bv_iv, hh', hw3, hw2, e1, e2, hcl, hz'] <;> omega))); conv => whnf)
              | (refine nth_bs ?_ ?_ ?_; (focus (first | omega | (simp only [List.length_nil, not_t, not_f, lt_t, lt_f, le_t, le_f, eq_t, eq_f, us_len, is_len, bs_len, lenL_00, hv, rs_len, bv_iv, hh', hw3, hw2, e1, e2, hcl, hz'] <;> omega))); (focus (first | omega | (simp only [List.length_nil, not_t, not_f, lt_t, lt_f, le_t, le_f, eq_t, eq_f, us_len, is_len, bs_len, lenL_00, hv, rs_len, bv_iv, hh', hw3, hw2, e1, e2, hcl, hz'] <;> omega))); conv => whnf))
            · simp only [is_len, maxBytes, List.length_cons, List.length_nil]; omega
            · refine loopC (hC2 (⟨c.1.met.set (v - 1).toNat (mt c.1.met o + 1), c.1.wl.drop c.1.off ++ [v], 0⟩, c.2 + 1) ⟨hN, Nat.zero_le _, by simp only; omega, ?_, ?_⟩ (by simp only; omega)) ?_
              · simp only [List.drop_zero, List.length_append, List.length_cons, List.length_nil]; omega
              · simp only [List.length_append, List.length_cons, List.length_nil]; omega
              rw [hcw, hv, hw3, hw2, e2, hno, hw4, is_set, subL_is, is_snoc, Int.natCast_succ]
              rfl
          · have hz' : ¬ at0 c.1.met (v - 1) = 0 := hz
            conv => whnf
            repeat' (first
              | (refine brK_true (by assumption) ?_; conv => whnf)
              | (refine brK_false (by assumption) ?_; conv => whnf)
              | (refine brK_true ?_ ?_; (focus (simp only [List.length_nil, not_t, not_f, lt_t, lt_f, le_t, le_f, eq_t, eq_f, us_len, is_len, bs_len, lenL_00, hv, rs_len, bv_iv, hh', hw3, hw2, e1, e2, hcl] <;> omega)); conv => whnf)
              | (refine brK_false ?_ ?_; (focus (simp only [List.length_nil, not_t, not_f, lt_t, lt_f, le_t, le_f, eq_t, eq_f, us_len, is_len, bs_len, lenL_00, hv, rs_len, bv_iv, hh', hw3, hw2, e1, e2, hcl] <;> omega)); conv => whnf)
              | ((refine brK_of (fun h => ?_) (fun h => ?_)) <;> (have h2 := h; (try simp only [List.length_nil, not_t, not_f, lt_t, lt_f, le_t, le_f, eq_t, eq_f, us_len, is_len, bs_len, lenL_00, hv, rs_len, bv_iv, hh', hw3, hw2, e1, e2, hcl] at h2); conv => whnf))
              | (refine reqK_of ?_ ?_; (focus (first | decide | omega | assumption | (simp only [List.length_nil, not_t, not_f, lt_t, lt_f, le_t, le_f, eq_t, eq_f, us_len, is_len, bs_len, lenL_00, hv, rs_len, bv_iv, hh', hw3, hw2, e1, e2, hcl] <;> omega) | (simp [keyNew, sameKey, kEq] <;> omega))); conv => whnf)
              | (refine reqK_of ?_ ?_; rotate_left; (conv => whnf); rotate_left)
              | (refine nth_us ?_ ?_ ?_; (focus (first | omega | (simp only [List.length_nil, not_t, not_f, lt_t, lt_f, le_t, le_f, eq_t, eq_f, us_len, is_len, bs_len, lenL_00, hv, rs_len, bv_iv, hh', hw3, hw2, e1, e2, hcl] <;> omega))); (focus (first | omega | (simp only [List.length_nil, not_t, not_f, lt_t, lt_f, le_t, le_f, eq_t, eq_f, us_len, is_len, bs_len, lenL_00, hv, rs_len, bv_iv, hh', hw3, hw2, e1, e2, hcl] <;> omega))); conv => whnf)
              | (refine nth_is ?_ ?_ ?_; (focus (first | omega | (simp only [List.length_nil, not_t, not_f, lt_t, lt_f, le_t, le_f, eq_t, eq_f, us_len, is_len, bs_len, lenL_00, hv, rs_len, bv_iv, hh', hw3, hw2, e1, e2, hcl] <;> omega))); (focus (first | omega | (simp only [List.length_nil, not_t, not_f, lt_t, lt_f, le_t, le_f, eq_t, eq_f, us_len, is_len, bs_len, lenL_00, hv, rs_len, bv_iv, hh', hw3, hw2, e1, e2, hcl] <;> omega))); conv => whnf)
              | (refine nth_bs ?_ ?_ ?_; (focus (first | omega | (simp only [List.length_nil, not_t, not_f, lt_t, lt_f, le_t, le_f, eq_t, eq_f, us_len, is_len, bs_len, lenL_00, hv, rs_len, bv_iv, hh', hw3, hw2, e1, e2, hcl] <;> omega))); (focus (first | omega | (simp only [List.length_nil, not_t, not_f, lt_t, lt_f, le_t, le_f, eq_t, eq_f, us_len, is_len, bs_len, lenL_00, hv, rs_len, bv_iv, hh', hw3, hw2, e1, e2, hcl] <;> omega))); conv => whnf))
            refine loopC (hC2 (c.1, c.2 + 1) ⟨hM.old hvg (fun _ => hz), hcoff, by simp only; omega, hcm, hcwl⟩ (by simp only; omega)) ?_
            rw [hcw, Int.natCast_succ]
            rfl
      · obtain ⟨r', hr'⟩ := hM.ne
        have hrl : (c.1.wl.drop c.1.off).length = r'.length + 1 := by rw [hr']; rfl
        have hdr' : c.1.wl.drop (c.1.off + 1) = r' := by rw [← List.drop_drop, hr']; rfl
        have hcol : c.1.wl.length = c.1.off + r'.length + 1 := by have := List.length_drop (l := c.1.wl) (i := c.1.off); omega
        conv => whnf
        repeat' (first
          | (refine brK_true (by assumption) ?_; conv => whnf)
          | (refine brK_false (by assumption) ?_; conv => whnf)
          | (refine brK_true ?_ ?_; (focus (simp only [List.length_nil, not_t, not_f, lt_t, lt_f, le_t, le_f, eq_t, eq_f, us_len, is_len, bs_len, lenL_00] <;> omega)); conv => whnf)
          | (refine brK_false ?_ ?_; (focus (simp only [List.length_nil, not_t, not_f, lt_t, lt_f, le_t, le_f, eq_t, eq_f, us_len, is_len, bs_len, lenL_00] <;> omega)); conv => whnf)
          | ((refine brK_of (fun h => ?_) (fun h => ?_)) <;> (have h2 := h; (try simp only [List.length_nil, not_t, not_f, lt_t, lt_f, le_t, le_f, eq_t, eq_f, us_len, is_len, bs_len, lenL_00] at h2); conv => whnf))
          | (refine reqK_of ?_ ?_; (focus (first | decide | omega | assumption | (simp only [List.length_nil, not_t, not_f, lt_t, lt_f, le_t, le_f, eq_t, eq_f, us_len, is_len, bs_len, lenL_00] <;> omega) | (simp [keyNew, sameKey, kEq] <;> omega))); conv => whnf)
          | (refine reqK_of ?_ ?_; rotate_left; (conv => whnf); rotate_left)
          | (refine nth_us ?_ ?_ ?_; (focus (first | omega | (simp only [List.length_nil, not_t, not_f, lt_t, lt_f, le_t, le_f, eq_t, eq_f, us_len, is_len, bs_len, lenL_00] <;> omega))); (focus (first | omega | (simp only [List.length_nil, not_t, not_f, lt_t, lt_f, le_t, le_f, eq_t, eq_f, us_len, is_len, bs_len, lenL_00] <;> omega))); conv => whnf)
          | (refine nth_is ?_ ?_ ?_; (focus (first | omega | (simp only [List.length_nil, not_t, not_f, lt_t, lt_f, le_t, le_f, eq_t, eq_f, us_len, is_len, bs_len, lenL_00] <;> omega))); (focus (first | omega | (simp only [List.length_nil, not_t, not_f, lt_t, lt_f, le_t, le_f, eq_t, eq_f, us_len, is_len, bs_len, lenL_00] <;> omega))); conv => whnf)
          | (refine nth_bs ?_ ?_ ?_; (focus (first | omega | (simp only [List.length_nil, not_t, not_f, lt_t, lt_f, le_t, le_f, eq_t, eq_f, us_len, is_len, bs_len, lenL_00] <;> omega))); (focus (first | omega | (simp only [List.length_nil, not_t, not_f, lt_t, lt_f, le_t, le_f, eq_t, eq_f, us_len, is_len, bs_len, lenL_00] <;> omega))); conv => whnf))
        · have hD : WInv L op (bv s) c.1.met (c.1.wl.drop (c.1.off + 1)) := by
            rw [hdr']
            rw [hr'] at hM
            exact hM.done (by omega)
          refine loopC (hC ⟨c.1.met, c.1.wl, c.1.off + 1⟩ ⟨hD, by simp only; omega, hcwl⟩ (by simp only [hdr']; omega)) ?_
          rfl

theorem ok23_2 (sl : Int) (xs : List T) (s : Int) (f : Nat) (a0 b0 : Int) (hq : f = 30 ∧ IsR xs ∧ R64 s) : FnOk Tryd.prog tgl 23 [.agg [.int .i64 sl, .list 1 xs], .int .u64 s, .fn (.func f) [] [.ref [.int .u64 a0], .ref [.int .u64 b0]]] (.agg (is (metF (rowsOf xs) (has (orS a0 b0)) (bv s)))) := by
  refine fn_ok (Γ := E5) env_E5 Tryd.func23 low23 ?_
  obtain ⟨rfl, ⟨L, rfl, hL, hl⟩, hs⟩ := hq
  rw [rowsOf_rs]
  have hR : IsR (rs L) := ⟨L, rfl, hL, hl⟩
  obtain ⟨op, hop⟩ : ∃ op : Int → Bool, op = has (orS a0 b0) := ⟨_, rfl⟩
  rw [← hop]
  obtain ⟨l, hl0⟩ : ∃ l, l = lsL (bv s &&& own L) := ⟨_, rfl⟩
  have hll : l.length ≤ 64 := by rw [hl0]; exact lsL_len _
  have hlm : ∀ o ∈ l, 1 ≤ o ∧ o ≤ 64 := fun o ho => by rw [hl0] at ho; exact has_range (mem_lsL.1 ho)
  have hand : andI .u64 s (iv (first (((rs L).length : Nat) : Int))) = iv (bv s &&& own L) := by rw [rs_len, andI_u, bv_iv]; rfl
  conv => whnf
  repeat' (first
    | (refine brK_true (by assumption) ?_; conv => whnf)
    | (refine brK_false (by assumption) ?_; conv => whnf)
    | (refine brK_true ?_ ?_; (focus (simp only [List.length_nil, not_t, not_f, lt_t, lt_f, le_t, le_f, eq_t, eq_f, us_len, is_len, bs_len, lenL_00, rs_len, bv_iv] <;> omega)); conv => whnf)
    | (refine brK_false ?_ ?_; (focus (simp only [List.length_nil, not_t, not_f, lt_t, lt_f, le_t, le_f, eq_t, eq_f, us_len, is_len, bs_len, lenL_00, rs_len, bv_iv] <;> omega)); conv => whnf)
    | ((refine brK_of (fun h => ?_) (fun h => ?_)) <;> (have h2 := h; (try simp only [List.length_nil, not_t, not_f, lt_t, lt_f, le_t, le_f, eq_t, eq_f, us_len, is_len, bs_len, lenL_00, rs_len, bv_iv] at h2); conv => whnf))
    | (refine reqK_of ?_ ?_; (focus (first | decide | omega | assumption | (simp only [List.length_nil, not_t, not_f, lt_t, lt_f, le_t, le_f, eq_t, eq_f, us_len, is_len, bs_len, lenL_00, rs_len, bv_iv] <;> omega) | (simp [keyNew, sameKey, kEq] <;> omega))); conv => whnf)
    | (refine reqK_of ?_ ?_; rotate_left; (conv => whnf); rotate_left)
    | (refine nth_us ?_ ?_ ?_; (focus (first | omega | (simp only [List.length_nil, not_t, not_f, lt_t, lt_f, le_t, le_f, eq_t, eq_f, us_len, is_len, bs_len, lenL_00, rs_len, bv_iv] <;> omega))); (focus (first | omega | (simp only [List.length_nil, not_t, not_f, lt_t, lt_f, le_t, le_f, eq_t, eq_f, us_len, is_len, bs_len, lenL_00, rs_len, bv_iv] <;> omega))); conv => whnf)
    | (refine nth_is ?_ ?_ ?_; (focus (first | omega | (simp only [List.length_nil, not_t, not_f, lt_t, lt_f, le_t, le_f, eq_t, eq_f, us_len, is_len, bs_len, lenL_00, rs_len, bv_iv] <;> omega))); (focus (first | omega | (simp only [List.length_nil, not_t, not_f, lt_t, lt_f, le_t, le_f, eq_t, eq_f, us_len, is_len, bs_len, lenL_00, rs_len, bv_iv] <;> omega))); conv => whnf)
    | (refine nth_bs ?_ ?_ ?_; (focus (first | omega | (simp only [List.length_nil, not_t, not_f, lt_t, lt_f, le_t, le_f, eq_t, eq_f, us_len, is_len, bs_len, lenL_00, rs_len, bv_iv] <;> omega))); (focus (first | omega | (simp only [List.length_nil, not_t, not_f, lt_t, lt_f, le_t, le_f, eq_t, eq_f, us_len, is_len, bs_len, lenL_00, rs_len, bv_iv] <;> omega))); conv => whnf))
  · rw [hand]; exact R_iv _
  rw [hand, bv_iv, rs_len, ← hl0]
  change loopK _ _ ⟨_, [(86, .lst 1 (is l) 1), (71, .lst 1 (is (iniM (l.take 0))) 0), (70, .lst 1 (is (iniM (l.take 0))) 0), (67, _)]⟩ _
  refine loopUp [] [.kill 11, .kill 26, .kill 27, .kill 28, .kill 29, .kill 30, .kill 31, .kill 32] (fun k : Nat => [(25, .t (.int .i64 (k : Int)))]) (fun k => [(71, .lst 1 (is (iniM (l.take k))) 0)]) (fun k => k ≤ l.length) (fun k => l.length - k) 0 (Nat.zero_le _) ?_
  conv => whnf
  refine ⟨⟨rfl, rfl⟩, fun k hk C hC => ?_⟩
  have hw : IntKind.i64.wrap ((k : Int) + 1) = (k : Int) + 1 := wrap_i64 ⟨by omega, by omega⟩
  have hil := iniM_len (l.take k)
  by_cases hlt : k < l.length
  · obtain ⟨o, ho⟩ : ∃ o, at0 l k = o := ⟨_, rfl⟩
    have hor := hlm o (by rw [← ho]; exact at0_mem (by omega))
    have hw2 : IntKind.i64.wrap (o - 1) = o - 1 := wrap_i64 ⟨by omega, by omega⟩
    conv => whnf
    repeat' (first
      | (refine brK_true (by assumption) ?_; conv => whnf)
      | (refine brK_false (by assumption) ?_; conv => whnf)
      | (refine brK_true ?_ ?_; (focus (simp only [List.length_nil, not_t, not_f, lt_t, lt_f, le_t, le_f, eq_t, eq_f, us_len, is_len, bs_len, lenL_00, ho, hw2, hil] <;> omega)); conv => whnf)
      | (refine brK_false ?_ ?_; (focus (simp only [List.length_nil, not_t, not_f, lt_t, lt_f, le_t, le_f, eq_t, eq_f, us_len, is_len, bs_len, lenL_00, ho, hw2, hil] <;> omega)); conv => whnf)
      | ((refine brK_of (fun h => ?_) (fun h => ?_)) <;> (have h2 := h; (try simp only [List.length_nil, not_t, not_f, lt_t, lt_f, le_t, le_f, eq_t, eq_f, us_len, is_len, bs_len, lenL_00, ho, hw2, hil] at h2); conv => whnf))
      | (refine reqK_of ?_ ?_; (focus (first | decide | omega | assumption | (simp only [List.length_nil, not_t, not_f, lt_t, lt_f, le_t, le_f, eq_t, eq_f, us_len, is_len, bs_len, lenL_00, ho, hw2, hil] <;> omega) | (simp [keyNew, sameKey, kEq] <;> omega))); conv => whnf)
      | (refine reqK_of ?_ ?_; rotate_left; (conv => whnf); rotate_left)
      | (refine nth_us ?_ ?_ ?_; (focus (first | omega | (simp only [List.length_nil, not_t, not_f, lt_t, lt_f, le_t, le_f, eq_t, eq_f, us_len, is_len, bs_len, lenL_00, ho, hw2, hil] <;> omega))); (focus (first | omega | (simp only [List.length_nil, not_t, not_f, lt_t, lt_f, le_t, le_f, eq_t, eq_f, us_len, is_len, bs_len, lenL_00, ho, hw2, hil] <;> omega))); conv => whnf)
      | (refine nth_is ?_ ?_ ?_; (focus (first | omega | (simp only [List.length_nil, not_t, not_f, lt_t, lt_f, le_t, le_f, eq_t, eq_f, us_len, is_len, bs_len, lenL_00, ho, hw2, hil] <;> omega))); (focus (first | omega | (simp only [List.length_nil, not_t, not_f, lt_t, lt_f, le_t, le_f, eq_t, eq_f, us_len, is_len, bs_len, lenL_00, ho, hw2, hil] <;> omega))); conv => whnf)
      | (refine nth_bs ?_ ?_ ?_; (focus (first | omega | (simp only [List.length_nil, not_t, not_f, lt_t, lt_f, le_t, le_f, eq_t, eq_f, us_len, is_len, bs_len, lenL_00, ho, hw2, hil] <;> omega))); (focus (first | omega | (simp only [List.length_nil, not_t, not_f, lt_t, lt_f, le_t, le_f, eq_t, eq_f, us_len, is_len, bs_len, lenL_00, ho, hw2, hil] <;> omega))); conv => whnf))
    refine loopC (hC (k + 1) (by omega) (by omega)) ?_
    rw [ho, hw2, is_set, hw, iniM_take hlt, ho, Int.natCast_succ]
    rfl
  conv => whnf
  repeat' (first
    | (refine brK_true (by assumption) ?_; conv => whnf)
    | (refine brK_false (by assumption) ?_; conv => whnf)
    | (refine brK_true ?_ ?_; (focus (simp only [List.length_nil, not_t, not_f, lt_t, lt_f, le_t, le_f, eq_t, eq_f, us_len, is_len, bs_len, lenL_00] <;> omega)); conv => whnf)
    | (refine brK_false ?_ ?_; (focus (simp only [List.length_nil, not_t, not_f, lt_t, lt_f, le_t, le_f, eq_t, eq_f, us_len, is_len, bs_len, lenL_00] <;> omega)); conv => whnf)
    | ((refine brK_of (fun h => ?_) (fun h => ?_)) <;> (have h2 := h; (try simp only [List.length_nil, not_t, not_f, lt_t, lt_f, le_t, le_f, eq_t, eq_f, us_len, is_len, bs_len, lenL_00] at h2); conv => whnf))
    | (refine reqK_of ?_ ?_; (focus (first | decide | omega | assumption | (simp only [List.length_nil, not_t, not_f, lt_t, lt_f, le_t, le_f, eq_t, eq_f, us_len, is_len, bs_len, lenL_00] <;> omega) | (simp [keyNew, sameKey, kEq] <;> omega))); conv => whnf)
    | (refine reqK_of ?_ ?_; rotate_left; (conv => whnf); rotate_left)
    | (refine nth_us ?_ ?_ ?_; (focus (first | omega | (simp only [List.length_nil, not_t, not_f, lt_t, lt_f, le_t, le_f, eq_t, eq_f, us_len, is_len, bs_len, lenL_00] <;> omega))); (focus (first | omega | (simp only [List.length_nil, not_t, not_f, lt_t, lt_f, le_t, le_f, eq_t, eq_f, us_len, is_len, bs_len, lenL_00] <;> omega))); conv => whnf)
    | (refine nth_is ?_ ?_ ?_; (focus (first | omega | (simp only [List.length_nil, not_t, not_f, lt_t, lt_f, le_t, le_f, eq_t, eq_f, us_len, is_len, bs_len, lenL_00] <;> omega))); (focus (first | omega | (simp only [List.length_nil, not_t, not_f, lt_t, lt_f, le_t, le_f, eq_t, eq_f, us_len, is_len, bs_len, lenL_00] <;> omega))); conv => whnf)
    | (refine nth_bs ?_ ?_ ?_; (focus (first | omega | (simp only [List.length_nil, not_t, not_f, lt_t, lt_f, le_t, le_f, eq_t, eq_f, us_len, is_len, bs_len, lenL_00] <;> omega))); (focus (first | omega | (simp only [List.length_nil, not_t, not_f, lt_t, lt_f, le_t, le_f, eq_t, eq_f, us_len, is_len, bs_len, lenL_00] <;> omega))); conv => whnf))
  have ek : k = l.length := by omega
  subst ek
  rw [List.take_length]
  have hW0 : WInv L op (bv s) (iniM l) l := by rw [hl0]; exact WInv.init L op (bv s)
  change loopK _ _ ⟨_, [(86, .lst 1 (is l) 1), (71, .lst 1 (is (iniM l)) 0), (70, .lst 1 (is (List.replicate 64 0)) 0), (67, _)]⟩ _
  refine loopUp [.kill 22, .kill 23, .ren 86 1001] [.kill 12, .kill 13, .kill 14, .kill 33, .kill 34, .kill 35, .kill 36, .kill 37, .kill 38, .kill 39, .kill 40, .kill 41, .kill 42, .kill 43, .kill 44, .kill 45, .kill 46, .kill 47, .kill 48, .kill 49, .kill 50, .kill 51, .kill 52, .kill 53, .kill 54, .kill 55, .kill 56, .kill 57, .kill 58, .kill 59, .kill 60, .kill 61, .kill 62, .kill 63, .kill 64, .kill 65, .kill 66, .kill 67, .kill 68, .kill 69, .kill 70, .kill 71, .kill 72, .kill 73, .kill 74, .kill 75, .kill 76, .kill 77, .kill 78] (fun a : Wk => [(9, .sl 1001 a.off none)]) (fun a => [(71, .lst 1 (is a.met) 0), (1001, .lst 1 (is a.wl) 1)]) (fun a => WInv L op (bv s) a.met (a.wl.drop a.off) ∧ a.off ≤ a.wl.length ∧ a.wl.length ≤ 65) (fun a => a.met.count 0 + (a.wl.drop a.off).length) ⟨iniM l, l, 0⟩ ⟨hW0, Nat.zero_le _, by show l.length ≤ 65; omega⟩ ?_
  conv => whnf
  refine ⟨⟨rfl, rfl⟩, fun a ha C hC => ?_⟩
  obtain ⟨hW, hoff, hwl⟩ := ha
  have hll1 := lenL_o (is a.wl) a.off (by rw [is_len]; exact hoff)
  have hll2 : ((is a.wl).drop a.off).length = (a.wl.drop a.off).length := by simp
  have hml := hW.len
  rcases hst : a.wl.drop a.off with _ | ⟨o, r⟩
  · rw [hst] at hW hll2
    simp only [List.length_nil] at hll2
    have hfin := hW.fin
    conv => whnf
    repeat' (first
      | (refine brK_true (by assumption) ?_; conv => whnf)
      | (refine brK_false (by assumption) ?_; conv => whnf)
      | (refine brK_true ?_ ?_; (focus (simp only [List.length_nil, not_t, not_f, lt_t, lt_f, le_t, le_f, eq_t, eq_f, us_len, is_len, bs_len, lenL_00, hll1, hll2] <;> omega)); conv => whnf)
      | (refine brK_false ?_ ?_; (focus (simp only [List.length_nil, not_t, not_f, lt_t, lt_f, le_t, le_f, eq_t, eq_f, us_len, is_len, bs_len, lenL_00, hll1, hll2] <;> omega)); conv => whnf)
      | ((refine brK_of (fun h => ?_) (fun h => ?_)) <;> (have h2 := h; (try simp only [List.length_nil, not_t, not_f, lt_t, lt_f, le_t, le_f, eq_t, eq_f, us_len, is_len, bs_len, lenL_00, hll1, hll2] at h2); conv => whnf))
      | (refine reqK_of ?_ ?_; (focus (first | decide | omega | assumption | (simp only [List.length_nil, not_t, not_f, lt_t, lt_f, le_t, le_f, eq_t, eq_f, us_len, is_len, bs_len, lenL_00, hll1, hll2] <;> omega) | (simp [keyNew, sameKey, kEq] <;> omega))); conv => whnf)
      | (refine reqK_of ?_ ?_; rotate_left; (conv => whnf); rotate_left)
      | (refine nth_us ?_ ?_ ?_; (focus (first | omega | (simp only [List.length_nil, not_t, not_f, lt_t, lt_f, le_t, le_f, eq_t, eq_f, us_len, is_len, bs_len, lenL_00, hll1, hll2] <;> omega))); (focus (first | omega | (simp only [List.length_nil, not_t, not_f, lt_t, lt_f, le_t, le_f, eq_t, eq_f, us_len, is_len, bs_len, lenL_00, hll1, hll2] <;> omega))); conv => whnf)
      | (refine nth_is ?_ ?_ ?_; (focus (first | omega | (simp only [List.length_nil, not_t, not_f, lt_t, lt_f, le_t, le_f, eq_t, eq_f, us_len, is_len, bs_len, lenL_00, hll1, hll2] <;> omega))); (focus (first | omega | (simp only [List.length_nil, not_t, not_f, lt_t, lt_f, le_t, le_f, eq_t, eq_f, us_len, is_len, bs_len, lenL_00, hll1, hll2] <;> omega))); conv => whnf)
      | (refine nth_bs ?_ ?_ ?_; (focus (first | omega | (simp only [List.length_nil, not_t, not_f, lt_t, lt_f, le_t, le_f, eq_t, eq_f, us_len, is_len, bs_len, lenL_00, hll1, hll2] <;> omega))); (focus (first | omega | (simp only [List.length_nil, not_t, not_f, lt_t, lt_f, le_t, le_f, eq_t, eq_f, us_len, is_len, bs_len, lenL_00, hll1, hll2] <;> omega))); conv => whnf))
    all_goals first
      | exact is_one _
      | exact ⟨by rw [is_len]; exact hml, is_one _⟩
      | exact ⟨by simp, is_one _⟩
      | exact ⟨by rw [is_len]; exact hml, by simp, is_one _⟩
      | rw [hfin]
  · have hst' := hst
    rw [hst] at hW hll2
    simp only [List.length_cons] at hll2
    have how := hW.wt o (by simp)
    have hob := own_obj how.2
    have hor := obj_iff.1 hob
    have hle := own_le how.2
    have hw2 : IntKind.i64.wrap (o - 1) = o - 1 := wrap_i64 ⟨by omega, by omega⟩
    have ho0 : at0 (a.wl.drop a.off) 0 = o := by rw [hst]; rfl
    have hdl : (a.wl.drop a.off).length = r.length + 1 := by rw [hst]; rfl
    have hrow := hl _ (row_mem hor.1 hle)
    have hdr : a.wl.drop (a.off + 1) = r := by rw [← List.drop_drop, hst]; rfl
    have hol : a.wl.length = a.off + r.length + 1 := by have := List.length_drop (l := a.wl) (i := a.off); omega
    have hadd : Nat.add a.off (Int.toNat 1) = a.off + 1 := rfl
    cases hopo : op o with
    | true =>
      have hopo2 : has (orS a0 b0) o = true := by rw [← hop]; exact hopo
      conv => whnf
      repeat' (first
        | (refine brK_true (by assumption) ?_; conv => whnf)
        | (refine brK_false (by assumption) ?_; conv => whnf)
        | (refine brK_true ?_ ?_; (focus (simp only [List.length_nil, not_t, not_f, lt_t, lt_f, le_t, le_f, eq_t, eq_f, us_len, is_len, bs_len, lenL_00, hll1, hll2, hdl, ho0, hw2, rs_len, hopo2] <;> omega)); conv => whnf)
        | (refine brK_false ?_ ?_; (focus (simp only [List.length_nil, not_t, not_f, lt_t, lt_f, le_t, le_f, eq_t, eq_f, us_len, is_len, bs_len, lenL_00, hll1, hll2, hdl, ho0, hw2, rs_len, hopo2] <;> omega)); conv => whnf)
        | ((refine brK_of (fun h => ?_) (fun h => ?_)) <;> (have h2 := h; (try simp only [List.length_nil, not_t, not_f, lt_t, lt_f, le_t, le_f, eq_t, eq_f, us_len, is_len, bs_len, lenL_00, hll1, hll2, hdl, ho0, hw2, rs_len, hopo2] at h2); conv => whnf))
        | (refine reqK_of ?_ ?_; (focus (first | decide | omega | assumption | (simp only [List.length_nil, not_t, not_f, lt_t, lt_f, le_t, le_f, eq_t, eq_f, us_len, is_len, bs_len, lenL_00, hll1, hll2, hdl, ho0, hw2, rs_len, hopo2] <;> omega) | (simp [keyNew, sameKey, kEq] <;> omega))); conv => whnf)
        | (refine reqK_of ?_ ?_; rotate_left; (conv => whnf); rotate_left)
        | (refine nth_rs ?_ ?_ ?_; (focus (first | omega | (simp only [List.length_nil, not_t, not_f, lt_t, lt_f, le_t, le_f, eq_t, eq_f, us_len, is_len, bs_len, lenL_00, hll1, hll2, hdl, ho0, hw2, rs_len, hopo2] <;> omega))); (focus (first | omega | (simp only [List.length_nil, not_t, not_f, lt_t, lt_f, le_t, le_f, eq_t, eq_f, us_len, is_len, bs_len, lenL_00, hll1, hll2, hdl, ho0, hw2, rs_len, hopo2] <;> omega))); conv => whnf)
        | (refine nth_sub ?_ ?_ ?_; (focus (first | omega | (simp only [List.length_nil, not_t, not_f, lt_t, lt_f, le_t, le_f, eq_t, eq_f, us_len, is_len, bs_len, lenL_00, hll1, hll2, hdl, ho0, hw2, rs_len, hopo2] <;> omega))); (focus (first | omega | (simp only [List.length_nil, not_t, not_f, lt_t, lt_f, le_t, le_f, eq_t, eq_f, us_len, is_len, bs_len, lenL_00, hll1, hll2, hdl, ho0, hw2, rs_len, hopo2] <;> omega))); conv => whnf)
        | (refine nth_us ?_ ?_ ?_; (focus (first | omega | (simp only [List.length_nil, not_t, not_f, lt_t, lt_f, le_t, le_f, eq_t, eq_f, us_len, is_len, bs_len, lenL_00, hll1, hll2, hdl, ho0, hw2, rs_len, hopo2] <;> omega))); (focus (first | omega | (simp only [List.length_nil, not_t, not_f, lt_t, lt_f, le_t, le_f, eq_t, eq_f, us_len, is_len, bs_len, lenL_00, hll1, hll2, hdl, ho0, hw2, rs_len, hopo2] <;> omega))); conv => whnf)
        | (refine nth_is ?_ ?_ ?_; (focus (first | omega | (simp only [List.length_nil, not_t, not_f, lt_t, lt_f, le_t, le_f, eq_t, eq_f, us_len, is_len, bs_len, lenL_00, hll1, hll2, hdl, ho0, hw2, rs_len, hopo2] <;> omega))); (focus (first | omega | (simp only [List.length_nil, not_t, not_f, lt_t, lt_f, le_t, le_f, eq_t, eq_f, us_len, is_len, bs_len, lenL_00, hll1, hll2, hdl, ho0, hw2, rs_len, hopo2] <;> omega))); conv => whnf)
        | (refine nth_bs ?_ ?_ ?_; (focus (first | omega | (simp only [List.length_nil, not_t, not_f, lt_t, lt_f, le_t, le_f, eq_t, eq_f, us_len, is_len, bs_len, lenL_00, hll1, hll2, hdl, ho0, hw2, rs_len, hopo2] <;> omega))); (focus (first | omega | (simp only [List.length_nil, not_t, not_f, lt_t, lt_f, le_t, le_f, eq_t, eq_f, us_len, is_len, bs_len, lenL_00, hll1, hll2, hdl, ho0, hw2, rs_len, hopo2] <;> omega))); conv => whnf))
      rw [ho0, hw2, show o - 1 + 1 = o by omega]
      have hM0 : WMid L op (bv s) o 0 a.met (a.wl.drop a.off) := by rw [hst]; exact WMid.start hW hopo
      refine loopFn [.kill 33, .kill 38] (fun s => nzIf 141 s [.kill 14, .kill 53, .kill 54, .kill 55, .kill 56, .kill 57, .kill 58, .kill 59, .kill 60, .kill 61, .kill 62, .kill 63, .kill 64, .kill 65, .kill 66, .kill 67, .kill 68, .kill 69, .kill 70, .kill 71, .kill 72, .kill 73, .kill 74, .kill 75, .kill 76, .kill 77, .kill 78, .keep [141, 71, 70, 67], .ren 141 1001] [.kill 14, .kill 53, .kill 54, .kill 55, .kill 56, .kill 57, .kill 58, .kill 59, .kill 60, .kill 61, .kill 62, .kill 63, .kill 64, .kill 65, .kill 66, .kill 67, .kill 68, .kill 69, .kill 70, .kill 71, .kill 72, .kill 73, .kill 74, .kill 75, .kill 76, .kill 77, .kill 78]) (fun c : Wk × Nat => [(9, .sl 1001 c.1.off none), (52, .t (.int .i64 (c.2 : Int)))]) (fun c => [(1001, .lst 1 (is c.1.wl) 1), (71, .lst 1 (is c.1.met) 0), (70, .lst 1 (is (List.replicate 64 0)) 0), (67, .cells [.t (.int .i64 sl), .t (.list 1 (rs L))])]) (fun c => WMid L op (bv s) o c.2 c.1.met (c.1.wl.drop c.1.off) ∧ c.1.off ≤ c.1.wl.length ∧ c.2 ≤ (row L o).length ∧ c.1.met.count 0 + (c.1.wl.drop c.1.off).length = a.met.count 0 + (a.wl.drop a.off).length ∧ c.1.wl.length ≤ 65) (fun c => (row L o).length - c.2) (a, 0) ⟨hM0, hoff, Nat.zero_le _, rfl, hwl⟩ ?_
      conv => whnf
      refine ⟨⟨rfl, rfl⟩, fun c hc C2 hC2 => ?_⟩
      obtain ⟨hM, hcoff, hci, hcm, hcwl⟩ := hc
      have hcw : IntKind.i64.wrap ((c.2 : Int) + 1) = (c.2 : Int) + 1 := wrap_i64 ⟨by omega, by have := hrow.2; unfold Sz maxBytes at this; rw [is_len] at this; omega⟩
      have hcl := hM.inv.len
      have hcl1 := lenL_o (is c.1.wl) c.1.off (by rw [is_len]; exact hcoff)
      have hcl2 : ((is c.1.wl).drop c.1.off).length = (c.1.wl.drop c.1.off).length := by simp
      have hcnt := hM.inv.cnt
      by_cases hlt : c.2 < (row L o).length
      · obtain ⟨v, hv⟩ : ∃ v, at0 (row L o) c.2 = v := ⟨_, rfl⟩
        have hvg : (row L o)[c.2]? = some v := by rw [← hv]; simp [at0, hlt]
        cases hh : has (own L) v with
        | false =>
          have hh' : has (first (L.length : Int)) v = false := hh
          conv => whnf
          repeat' (first
            | (refine brK_true (by assumption) ?_; conv => whnf)
            | (refine brK_false (by assumption) ?_; conv => whnf)
            | (refine brK_true ?_ ?_; (focus (simp only [List.length_nil, not_t, not_f, lt_t, lt_f, le_t, le_f, eq_t, eq_f, us_len, is_len, bs_len, lenL_00, hv, rs_len, bv_iv, hh'] <;> omega)); conv => whnf)
            | (refine brK_false ?_ ?_; (focus (simp only [List.length_nil, not_t, not_f, lt_t, lt_f, le_t, le_f, eq_t, eq_f, us_len, is_len, bs_len, lenL_00, hv, rs_len, bv_iv, hh'] <;> omega)); conv => whnf)
            | ((refine brK_of (fun h => ?_) (fun h => ?_)) <;> (have h2 := h; (try simp only [List.length_nil, not_t, not_f, lt_t, lt_f, le_t, le_f, eq_t, eq_f, us_len, is_len, bs_len, lenL_00, hv, rs_len, bv_iv, hh'] at h2); conv => whnf))
            | (refine reqK_of ?_ ?_; (focus (first | decide | omega | assumption | (simp only [List.length_nil, not_t, not_f, lt_t, lt_f, le_t, le_f, eq_t, eq_f, us_len, is_len, bs_len, lenL_00, hv, rs_len, bv_iv, hh'] <;> omega) | (simp [keyNew, sameKey, kEq] <;> omega))); conv => whnf)
            | (refine reqK_of ?_ ?_; rotate_left; (conv => whnf); rotate_left)
            | (refine nth_us ?_ ?_ ?_; (focus (first | omega | (simp only [List.length_nil, not_t, not_f, lt_t, lt_f, le_t, le_f, eq_t, eq_f, us_len, is_len, bs_len, lenL_00, hv, rs_len, bv_iv, hh'] <;> omega))); (focus (first | omega | (simp only [List.length_nil, not_t, not_f, lt_t, lt_f, le_t, le_f, eq_t, eq_f, us_len, is_len, bs_len, lenL_00, hv, rs_len, bv_iv, hh'] <;> omega))); conv => whnf)
            | (refine nth_is ?_ ?_ ?_; (focus (first | omega | (simp only [List.length_nil, not_t, not_f, lt_t, lt_f, le_t, le_f, eq_t, eq_f, us_len, is_len, bs_len, lenL_00, hv, rs_len, bv_iv, hh'] <;> omega))); (focus (first | omega | (simp only [List.length_nil, not_t, not_f, lt_t, lt_f, le_t, le_f, eq_t, eq_f, us_len, is_len, bs_len, lenL_00, hv, rs_len, bv_iv, hh'] <;> omega))); conv => whnf)
            | (refine nth_bs ?_ ?_ ?_; (focus (first | omega | (simp only [List.length_nil, not_t, not_f, lt_t, lt_f, le_t, le_f, eq_t, eq_f, us_len, is_len, bs_len, lenL_00, hv, rs_len, bv_iv, hh'] <;> omega))); (focus (first | omega | (simp only [List.length_nil, not_t, not_f, lt_t, lt_f, le_t, le_f, eq_t, eq_f, us_len, is_len, bs_len, lenL_00, hv, rs_len, bv_iv, hh'] <;> omega))); conv => whnf))
          refine loopC (hC2 (c.1, c.2 + 1) ⟨hM.old hvg (by rw [hh]; intro h; cases h), hcoff, by simp only; omega, hcm, hcwl⟩ (by simp only; omega)) ?_
          rw [hcw, Int.natCast_succ]
          rfl
        | true =>
          have hh' : has (first (L.length : Int)) v = true := hh
          have hvr := has_range hh
          have hw3 : IntKind.i64.wrap (v - 1) = v - 1 := wrap_i64 ⟨by omega, by omega⟩
          have e1 : ((Int.toNat (v - 1) : Nat) : Int) = v - 1 := by omega
          have e2 : ((Int.toNat (o - 1) : Nat) : Int) = o - 1 := by omega
          have hbo := hM.inv.bnd o hob
          have hbo2 := (hM.inv.snd o hob).1
          have hw4 : IntKind.i64.wrap (mt c.1.met o + 1) = mt c.1.met o + 1 := wrap_i64 ⟨by omega, by omega⟩
          by_cases hz : mt c.1.met v = 0
          · have hz' : at0 c.1.met (v - 1) = 0 := hz
            have hN := hM.new hvg hh hz
            have hno : at0 c.1.met (o - 1) = mt c.1.met o := rfl
            have hnn : (c.1.met.set (v - 1).toNat (mt c.1.met o + 1)).count 0 + 1 = c.1.met.count 0 := by
              have hg : c.1.met[(v - 1).toNat]? = some 0 := by
                have : (v - 1).toNat < c.1.met.length := by rw [hcl]; omega
                unfold at0 at hz'
                rw [List.getElem?_eq_getElem this] at hz' ⊢
                simpa using hz'
              exact count_set_zero hg (by omega)
            conv => whnf
            repeat' (first
              | (refine brK_true (by assumption) ?_; conv => whnf)
              | (refine brK_false (by assumption) ?_; conv => whnf)
              | (refine brK_true ?_ ?_; (focus (simp only [List.length_nil, not_t, not_f, lt_t, lt_f, le_t, le_f, eq_t, eq_f, us_len, is_len, bs_len, lenL_00, hv, rs_len, bv_iv, hh', hw3, hw2, e1, e2, hcl, hz'] <;> omega)); conv => whnf)
              | (refine brK_false ?_ ?_; (focus (simp only [List.length_nil, not_t, not_f, lt_t, lt_f, le_t, le_f, eq_t, eq_f, us_len, is_len, bs_len, lenL_00, hv, rs_len, bv_iv, hh', hw3, hw2, e1, e2, hcl, hz'] <;> omega)); conv => whnf)
              | ((refine brK_of (fun h => ?_) (fun h => ?_)) <;> (have h2 := h; (try simp only [List.length_nil, not_t, not_f, lt_t, lt_f, le_t, le_f, eq_t, eq_f, us_len, is_len, bs_len, lenL_00, hv, rs_len, bv_iv, hh', hw3, hw2, e1, e2, hcl, hz'] at h2); conv => whnf))
              | (refine reqK_of ?_ ?_; (focus (first | decide | omega | assumption | (simp only [List.length_nil, not_t, not_f, lt_t, lt_f, le_t, le_f, eq_t, eq_f, us_len, is_len, bs_len, lenL_00, hv, rs_len, bv_iv, hh', hw3, hw2, e1, e2, hcl, hz'] <;> omega) | (simp [keyNew, sameKey, kEq] <;> omega))); conv => whnf)
              | (refine reqK_of ?_ ?_; rotate_left; (conv => whnf); rotate_left)
              | (refine nth_us ?_ ?_ ?_; (focus (first | omega | (simp only [List.length_nil, not_t, not_f, lt_t, lt_f, le_t, le_f, eq_t, eq_f, us_len, is_len, bs_len, lenL_00, hv, rs_len, bv_iv, hh', hw3, hw2, e1, e2, hcl, hz'] <;> omega))); (focus (first | omega | (simp only [List.length_nil, not_t, not_f, lt_t, lt_f, le_t, le_f, eq_t, eq_f, us_len, is_len, bs_len, lenL_00, hv, rs_len, bv_iv, hh', hw3, hw2, e1, e2, hcl, hz'] <;> omega))); conv => whnf)
              | (refine nth_is ?_ ?_ ?_; (focus (first | omega | (simp only [List.length_nil, not_t, not_f, lt_t, lt_f, le_t, le_f, eq_t, eq_f, us_len, is_len, bs_len, lenL_00, hv, rs_len, bv_iv, hh', hw3, hw2, e1, e2, hcl, hz'] <;> omega))); (focus (first | omega | (simp only [List.length_nil, not_t, not_f, lt_t, lt_f, le_t, le_f, eq_t, eq_f, us_len, is_len, bs_len, lenL_00, hv, rs_len, bv_iv, hh', hw3, hw2, e1, e2, hcl, hz'] <;> omega))); conv => whnf)
              | (refine nth_bs ?_ ?_ ?_; (focus (first | omega | (simp only [List.length_nil, not_t, not_f, lt_t, lt_f, le_t, le_f, eq_t, eq_f, us_len, is_len, bs_len, lenL_00, hv, rs_len, bv_iv, hh', hw3, hw2, e1, e2, hcl, hz'] <;> omega))); (focus (first | omega | (simp only [List.length_nil, not_t, not_f, lt_t, lt_f, le_t, le_f, eq_t, eq_f, us_len, is_len, bs_len, lenL_00, hv, rs_len, bv_iv, hh', hw3, hw2, e1, e2, hcl, hz'] <;> omega))); conv => whnf))
            · simp only [is_len, maxBytes, List.length_cons, List.length_nil]; omega
            · refine loopC (hC2 (⟨c.1.met.set (v - 1).toNat (mt c.1.met o + 1), c.1.wl.drop c.1.off ++ [v], 0⟩, c.2 + 1) ⟨hN, Nat.zero_le _, by simp only; omega, ?_, ?_⟩ (by simp only; omega)) ?_
              · simp only [List.drop_zero, List.length_append, List.length_cons, List.length_nil]; omega
              · simp only [List.length_append, List.length_cons, List.length_nil]; omega
              rw [hcw, hv, hw3, hw2, e2, hno, hw4, is_set, subL_is, is_snoc, Int.natCast_succ]
              rfl
          · have hz' : ¬ at0 c.1.met (v - 1) = 0 := hz
            conv => whnf
            repeat' (first
              | (refine brK_true (by assumption) ?_; conv => whnf)
              | (refine brK_false (by assumption) ?_; conv => whnf)
              | (refine brK_true ?_ ?_; (focus (simp only [List.length_nil, not_t, not_f, lt_t, lt_f, le_t, le_f, eq_t, eq_f, us_len, is_len, bs_len, lenL_00, hv, rs_len, bv_iv, hh', hw3, hw2, e1, e2, hcl] <;> omega)); conv => whnf)
              | (refine brK_false ?_ ?_; (focus (simp only [List.length_nil, not_t, not_f, lt_t, lt_f, le_t, le_f, eq_t, eq_f, us_len, is_len, bs_len, lenL_00, hv, rs_len, bv_iv, hh', hw3, hw2, e1, e2, hcl] <;> omega)); conv => whnf)
              | ((refine brK_of (fun h => ?_) (fun h => ?_)) <;> (have h2 := h; (try simp only [List.length_nil, not_t, not_f, lt_t, lt_f, le_t, le_f, eq_t, eq_f, us_len, is_len, bs_len, lenL_00, hv, rs_len, bv_iv, hh', hw3, hw2, e1, e2, hcl] at h2); conv => whnf))
              | (refine reqK_of ?_ ?_; (focus (first | decide | omega | assumption | (simp only [List.length_nil, not_t, not_f, lt_t, lt_f, le_t, le_f, eq_t, eq_f, us_len, is_len, bs_len, lenL_00, hv, rs_len, bv_iv, hh', hw3, hw2, e1, e2, hcl] <;> omega) | (simp [keyNew, sameKey, kEq] <;> omega))); conv => whnf)
              | (refine reqK_of ?_ ?_; rotate_left; (conv => whnf); rotate_left)
              | (refine nth_us ?_ ?_ ?_; (focus (first | omega | (simp only [List.length_nil, not_t, not_f, lt_t, lt_f, le_t, le_f, eq_t, eq_f, us_len, is_len, bs_len, lenL_00, hv, rs_len, bv_iv, hh', hw3, hw2, e1, e2, hcl] <;> omega))); (focus (first | omega | (simp only [List.length_nil, not_t, not_f, lt_t, lt_f, le_t, le_f, eq_t, eq_f, us_len, is_len, bs_len, lenL_00, hv, rs_len, bv_iv, hh', hw3, hw2, e1, e2, hcl] <;> omega))); conv => whnf)
              | (refine nth_is ?_ ?_ ?_; (focus (first | omega | (simp only [List.length_nil, not_t, not_f, lt_t, lt_f, le_t, le_f, eq_t, eq_f, us_len, is_len, bs_len, lenL_00, hv, rs_len, bv_iv, hh', hw3, hw2, e1, e2, hcl] <;> omega))); (focus (first | omega | (simp only [List.length_nil, not_t, not_f, lt_t, lt_f, le_t, le_f, eq_t, eq_f, us_len, is_len, bs_len, lenL_00, hv, rs_len, bv_iv, hh', hw3, hw2, e1, e2, hcl] <;> omega))); conv => whnf)
              | (refine nth_bs ?_ ?_ ?_; (focus (first | omega | (simp only [List.length_nil, not_t, not_f, lt_t, lt_f, le_t, le_f, eq_t, eq_f, us_len, is_len, bs_len, lenL_00, hv, rs_len, bv_iv, hh', hw3, hw2, e1, e2, hcl] <;> omega))); (focus (first | omega | (simp only [List.length_nil, not_t, not_f, lt_t, lt_f, le_t, le_f, eq_t, eq_f, us_len, is_len, bs_len, lenL_00, hv, rs_len, bv_iv, hh', hw3, hw2, e1, e2, hcl] <;> omega))); conv => whnf))
            refine loopC (hC2 (c.1, c.2 + 1) ⟨hM.old hvg (fun _ => hz), hcoff, by simp only; omega, hcm, hcwl⟩ (by simp only; omega)) ?_
            rw [hcw, Int.natCast_succ]
            rfl
      · obtain ⟨r', hr'⟩ := hM.ne
        have hrl : (c.1.wl.drop c.1.off).length = r'.length + 1 := by rw [hr']; rfl
        have hdr' : c.1.wl.drop (c.1.off + 1) = r' := by rw [← List.drop_drop, hr']; rfl
        have hcol : c.1.wl.length = c.1.off + r'.length + 1 := by have := List.length_drop (l := c.1.wl) (i := c.1.off); omega
        conv => whnf
        repeat' (first
          | (refine brK_true (by assumption) ?_; conv => whnf)
          | (refine brK_false (by assumption) ?_; conv => whnf)
          | (refine brK_true ?_ ?_; (focus (simp only [List.length_nil, not_t, not_f, lt_t, lt_f, le_t, le_f, eq_t, eq_f, us_len, is_len, bs_len, lenL_00] <;> omega)); conv => whnf)
          | (refine brK_false ?_ ?_; (focus (simp only [List.length_nil, not_t, not_f, lt_t, lt_f, le_t, le_f, eq_t, eq_f, us_len, is_len, bs_len, lenL_00] <;> omega)); conv => whnf)
          | ((refine brK_of (fun h => ?_) (fun h => ?_)) <;> (have h2 := h; (try simp only [List.length_nil, not_t, not_f, lt_t, lt_f, le_t, le_f, eq_t, eq_f, us_len, is_len, bs_len, lenL_00] at h2); conv => whnf))
          | (refine reqK_of ?_ ?_; (focus (first | decide | omega | assumption | (simp only [List.length_nil, not_t, not_f, lt_t, lt_f, le_t, le_f, eq_t, eq_f, us_len, is_len, bs_len, lenL_00] <;> omega) | (simp [keyNew, sameKey, kEq] <;> omega))); conv => whnf)
          | (refine reqK_of ?_ ?_; rotate_left; (conv => whnf); rotate_left)
          | (refine nth_us ?_ ?_ ?_; (focus (first | omega | (simp only [List.length_nil, not_t, not_f, lt_t, lt_f, le_t, le_f, eq_t, eq_f, us_len, is_len, bs_len, lenL_00] <;> omega))); (focus (first | omega | (simp only [List.length_nil, not_t, not_f, lt_t, lt_f, le_t, le_f, eq_t, eq_f, us_len, is_len, bs_len, lenL_00] <;> omega))); conv => whnf)
          | (refine nth_is ?_ ?_ ?_; (focus (first | omega | (simp only [List.length_nil, not_t, not_f, lt_t, lt_f, le_t, le_f, eq_t, eq_f, us_len, is_len, bs_len, lenL_00] <;> omega))); (focus (first | omega | (simp only [List.length_nil, not_t, not_f, lt_t, lt_f, le_t, le_f, eq_t, eq_f, us_len, is_len, bs_len, lenL_00] <;> omega))); conv => whnf)
          | (refine nth_bs ?_ ?_ ?_; (focus (first | omega | (simp only [List.length_nil, not_t, not_f, lt_t, lt_f, le_t, le_f, eq_t, eq_f, us_len, is_len, bs_len, lenL_00] <;> omega))); (focus (first | omega | (simp only [List.length_nil, not_t, not_f, lt_t, lt_f, le_t, le_f, eq_t, eq_f, us_len, is_len, bs_len, lenL_00] <;> omega))); conv => whnf))
        · have hD : WInv L op (bv s) c.1.met (c.1.wl.drop (c.1.off + 1)) := by
            rw [hdr']
            rw [hr'] at hM
            exact hM.done (by omega)
          refine loopC (hC ⟨c.1.met, c.1.wl, c.1.off + 1⟩ ⟨hD, by simp only; omega, hcwl⟩ (by simp only [hdr']; omega)) ?_
          rfl
    | false =>
      have hopo2 : has (orS a0 b0) o = false := by rw [← hop]; exact hopo
      have hD : WInv L op (bv s) a.met (a.wl.drop (a.off + 1)) := by
        rw [hdr]
        exact hW.skip hopo
      conv => whnf
      repeat' (first
        | (refine brK_true (by assumption) ?_; conv => whnf)
        | (refine brK_false (by assumption) ?_; conv => whnf)
        | (refine brK_true ?_ ?_; (focus (simp only [List.length_nil, not_t, not_f, lt_t, lt_f, le_t, le_f, eq_t, eq_f, us_len, is_len, bs_len, lenL_00, hll1, hll2, hdl, ho0, hw2, rs_len, hopo2] <;> omega)); conv => whnf)
        | (refine brK_false ?_ ?_; (focus (simp only [List.length_nil, not_t, not_f, lt_t, lt_f, le_t, le_f, eq_t, eq_f, us_len, is_len, bs_len, lenL_00, hll1, hll2, hdl, ho0, hw2, rs_len, hopo2] <;> omega)); conv => whnf)
        | ((refine brK_of (fun h => ?_) (fun h => ?_)) <;> (have h2 := h; (try simp only [List.length_nil, not_t, not_f, lt_t, lt_f, le_t, le_f, eq_t, eq_f, us_len, is_len, bs_len, lenL_00, hll1, hll2, hdl, ho0, hw2, rs_len, hopo2] at h2); conv => whnf))
        | (refine reqK_of ?_ ?_; (focus (first | decide | omega | assumption | (simp only [List.length_nil, not_t, not_f, lt_t, lt_f, le_t, le_f, eq_t, eq_f, us_len, is_len, bs_len, lenL_00, hll1, hll2, hdl, ho0, hw2, rs_len, hopo2] <;> omega) | (simp [keyNew, sameKey, kEq] <;> omega))); conv => whnf)
        | (refine reqK_of ?_ ?_; rotate_left; (conv => whnf); rotate_left)
        | (refine nth_rs ?_ ?_ ?_; (focus (first | omega | (simp only [List.length_nil, not_t, not_f, lt_t, lt_f, le_t, le_f, eq_t, eq_f, us_len, is_len, bs_len, lenL_00, hll1, hll2, hdl, ho0, hw2, rs_len, hopo2] <;> omega))); (focus (first | omega | (simp only [List.length_nil, not_t, not_f, lt_t, lt_f, le_t, le_f, eq_t, eq_f, us_len, is_len, bs_len, lenL_00, hll1, hll2, hdl, ho0, hw2, rs_len, hopo2] <;> omega))); conv => whnf)
        | (refine nth_sub ?_ ?_ ?_; (focus (first | omega | (simp only [List.length_nil, not_t, not_f, lt_t, lt_f, le_t, le_f, eq_t, eq_f, us_len, is_len, bs_len, lenL_00, hll1, hll2, hdl, ho0, hw2, rs_len, hopo2] <;> omega))); (focus (first | omega | (simp only [List.length_nil, not_t, not_f, lt_t, lt_f, le_t, le_f, eq_t, eq_f, us_len, is_len, bs_len, lenL_00, hll1, hll2, hdl, ho0, hw2, rs_len, hopo2] <;> omega))); conv => whnf)
        | (refine nth_us ?_ ?_ ?_; (focus (first | omega | (simp only [List.length_nil, not_t, not_f, lt_t, lt_f, le_t, le_f, eq_t, eq_f, us_len, is_len, bs_len, lenL_00, hll1, hll2, hdl, ho0, hw2, rs_len, hopo2] <;> omega))); (focus (first | omega | (simp only [List.length_nil, not_t, not_f, lt_t, lt_f, le_t, le_f, eq_t, eq_f, us_len, is_len, bs_len, lenL_00, hll1, hll2, hdl, ho0, hw2, rs_len, hopo2] <;> omega))); conv => whnf)
        | (refine nth_is ?_ ?_ ?_; (focus (first | omega | (simp only [List.length_nil, not_t, not_f, lt_t, lt_f, le_t, le_f, eq_t, eq_f, us_len, is_len, bs_len, lenL_00, hll1, hll2, hdl, ho0, hw2, rs_len, hopo2] <;> omega))); (focus (first | omega | (simp only [List.length_nil, not_t, not_f, lt_t, lt_f, le_t, le_f, eq_t, eq_f, us_len, is_len, bs_len, lenL_00, hll1, hll2, hdl, ho0, hw2, rs_len, hopo2] <;> omega))); conv => whnf)
        | (refine nth_bs ?_ ?_ ?_; (focus (first | omega | (simp only [List.length_nil, not_t, not_f, lt_t, lt_f, le_t, le_f, eq_t, eq_f, us_len, is_len, bs_len, lenL_00, hll1, hll2, hdl, ho0, hw2, rs_len, hopo2] <;> omega))); (focus (first | omega | (simp only [List.length_nil, not_t, not_f, lt_t, lt_f, le_t, le_f, eq_t, eq_f, us_len, is_len, bs_len, lenL_00, hll1, hll2, hdl, ho0, hw2, rs_len, hopo2] <;> omega))); conv => whnf))
      refine loopC (hC ⟨a.met, a.wl, a.off + 1⟩ ⟨hD, by simp only; omega, hwl⟩ (by simp only [hdr, hdl]; omega)) ?_
      rfl
open Classical in
noncomputable def c23 : List T → Ans
  | [.agg [.int .i64 sl, .list 1 xs], .int .u64 s, .fn (.func f) [] []] => .req ((f = 24 ∨ f = 29) ∧ IsR xs ∧ R64 s) (.agg (is (metF (rowsOf xs) (fun _ => true) (bv s))))
  | [.agg [.int .i64 sl, .list 1 xs], .int .u64 s, .fn (.func f) [] [.ref [.int .u64 a0], .ref [.int .u64 b0]]] => .req (f = 30 ∧ IsR xs ∧ R64 s) (.agg (is (metF (rowsOf xs) (has (orS a0 b0)) (bv s))))
  | _ => .no
theorem got23 {vs : List T} {x : T} (h : Got (c23 vs) x) : FnOk Tryd.prog tgl 23 vs x := by
  unfold c23 at h
  split at h
  · obtain ⟨hq, e⟩ := got_req h; rw [e]; exact ok23 _ _ _ _ hq
  · obtain ⟨hq, e⟩ := got_req h; rw [e]; exact ok23_2 _ _ _ _ _ _ hq
  · exact (got_no h).elim
theorem nogl23 (vs : List T) (p : Prop) (d : Decidable p) (sz : Nat) (xs : List T) (h : c23 vs = @Ans.gl p d sz xs) : False := by
  unfold c23 at h
  split at h <;> cases h
theorem pk23 (vs : List T) (p : Prop) (d : Decidable p) (x : T) (h : c23 vs = @Ans.pk p d x) (hp : p) : FnOk Tryd.prog tgl 23 vs x := by
  unfold c23 at h
  split at h
  · cases h
  · cases h
  · cases h
end Go.Nx
