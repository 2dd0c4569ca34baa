/-
  BagNorm: walked.
-/
import Derived.Test.YtommbfigioeghaaBk
set_option linter.unusedVariables false
set_option linter.unusedSimpArgs false
set_option maxRecDepth 20000
set_option maxHeartbeats 8000000
namespace Go.Nx
open Go.RowKit Go.Proofs

noncomputable def lB10 : List (Nat × (List T → Ans)) := (18, c18) :: (26, c26) :: (21, c21) :: lO4
noncomputable def iB10 : List (Nat × Pt) := iO4
noncomputable abbrev B10 : Env := En tgl lB10 iB10
theorem env_B10 : EnvOk Try.prog B10 := (env_fn (env_fn (env_fn env_O4 (fun _ _ => got21) (fun vs p d sz xs h _ => (nogl21 vs p d sz xs h).elim) pk21) (fun _ _ => got26) (fun vs p d sz xs h _ => (nogl26 vs p d sz xs h).elim) pk26) (fun _ _ => got18) (fun vs p d sz xs h _ => (nogl18 vs p d sz xs h).elim) pk18)
theorem srt_le (l : List Int) (k : Nat) (h1 : 1 ≤ k) (h : k < l.length) : at0 (srt l) ((k : Int) - 1) ≤ at0 (srt l) k := by
  have hp := List.pairwise_iff_getElem.1 (srt_sorted l)
  have hs := srt_len l
  have := hp (k - 1) k (by omega) (by omega) (by omega)
  have e : ((k : Int) - 1).toNat = k - 1 := by omega
  simp only [at0, Int.toNat_natCast, e]
  simpa [show k - 1 < (srt l).length by omega, show k < (srt l).length by omega] using this
theorem ofI_perm {a b : List Int} (h : a.Perm b) : ofI a = ofI b := by
  unfold ofI
  refine h.foldl_eq' (fun x _ y _ z => ?_) 0
  simp only [orI_u]
  congr 1
  have e : ∀ v : B, bv (iv v) = v := fun v => by simp [bv, iv]
  rw [e, e, BitVec.or_assoc, BitVec.or_assoc, BitVec.or_comm (bv (bitI x))]
theorem ok7 (xs : List T) (o : Int) (hq : (IsI xs ∧ SzA xs) ∧ I64 o) : FnOk Try.prog tgl 7 [.list 1 xs, .int .i64 o] (.bool true) := by
  refine fn_ok (Γ := B10) env_B10 Try.func7 low7 ?_
  obtain ⟨⟨⟨l, rfl, hl⟩, sx⟩, ho⟩ := hq
  have q1 : IsI (is l) ∧ SzB (is l) := ⟨isI_is hl, szA_B sx⟩
  have hlen := sz_lenB q1.2
  conv => whnf
  repeat' (first
    | (refine brK_true (by assumption) ?_; conv => whnf)
    | (refine brK_false (by assumption) ?_; conv => whnf)
    | (refine brK_true ?_ ?_; (focus (simp only [List.length_nil, not_t, not_f, lt_t, lt_f, le_t, le_f, eq_t, eq_f, us_len, is_len, bs_len, lenL_00] <;> omega)); conv => whnf)
    | (refine brK_false ?_ ?_; (focus (simp only [List.length_nil, not_t, not_f, lt_t, lt_f, le_t, le_f, eq_t, eq_f, us_len, is_len, bs_len, lenL_00] <;> omega)); conv => whnf)
    | ((refine brK_of (fun h => ?_) (fun h => ?_)) <;> (have h2 := h; (try simp only [List.length_nil, not_t, not_f, lt_t, lt_f, le_t, le_f, eq_t, eq_f, us_len, is_len, bs_len, lenL_00] at h2); conv => whnf))
    | (refine reqK_of ?_ ?_; (focus (first | decide | omega | assumption | (simp only [List.length_nil, not_t, not_f, lt_t, lt_f, le_t, le_f, eq_t, eq_f, us_len, is_len, bs_len, lenL_00] <;> omega) | (simp [keyNew, sameKey, kEq] <;> omega))); conv => whnf)
    | (refine reqK_of ?_ ?_; rotate_left; (conv => whnf); rotate_left)
    | (refine nth_us ?_ ?_ ?_; (focus (first | omega | (simp only [List.length_nil, not_t, not_f, lt_t, lt_f, le_t, le_f, eq_t, eq_f, us_len, is_len, bs_len, lenL_00] <;> omega))); (focus (first | omega | (simp only [List.length_nil, not_t, not_f, lt_t, lt_f, le_t, le_f, eq_t, eq_f, us_len, is_len, bs_len, lenL_00] <;> omega))); conv => whnf)
    | (refine nth_is ?_ ?_ ?_; (focus (first | omega | (simp only [List.length_nil, not_t, not_f, lt_t, lt_f, le_t, le_f, eq_t, eq_f, us_len, is_len, bs_len, lenL_00] <;> omega))); (focus (first | omega | (simp only [List.length_nil, not_t, not_f, lt_t, lt_f, le_t, le_f, eq_t, eq_f, us_len, is_len, bs_len, lenL_00] <;> omega))); conv => whnf)
    | (refine nth_bs ?_ ?_ ?_; (focus (first | omega | (simp only [List.length_nil, not_t, not_f, lt_t, lt_f, le_t, le_f, eq_t, eq_f, us_len, is_len, bs_len, lenL_00] <;> omega))); (focus (first | omega | (simp only [List.length_nil, not_t, not_f, lt_t, lt_f, le_t, le_f, eq_t, eq_f, us_len, is_len, bs_len, lenL_00] <;> omega))); conv => whnf))
  refine loopFn [.adopt 7 1001 1] (fun s => [.kill 19, .kill 20, .kill 21, .kill 22, .kill 23, .kill 24, .kill 25, .kill 26, .kill 27, .kill 28, .kill 29, .kill 30, .kill 31, .keep [95], .ren 95 1001]) (fun k : Nat => [(7, .sl 1001 0 none), (8, .t (.int .i64 (k : Int)))]) (fun k => [(1001, .lst 1 (is (l.take k).reverse) 1)]) (fun k => k ≤ l.length) (fun k => l.length - k) 0 (Nat.zero_le _) ?_
  conv => whnf
  refine ⟨⟨rfl, rfl⟩, fun k hk C hC => ?_⟩
  have hw : IntKind.i64.wrap ((k : Int) + 1) = (k : Int) + 1 := wrap_i64 ⟨by omega, by omega⟩
  have hrl : (l.take k).reverse.length = k := by simp; omega
  have hbnd : (([T.int .i64 (at0 l k)] : List T).length + (is (l.take k).reverse).length) * 8 ≤ maxBytes := by
    rw [is_len, hrl]; unfold SzA at sx; rw [is_len] at sx; unfold maxBytes; show (1 + k) * 8 ≤ _; omega
  conv => whnf
  repeat' (first
    | (refine brK_true (by assumption) ?_; conv => whnf)
    | (refine brK_false (by assumption) ?_; conv => whnf)
    | (refine brK_true ?_ ?_; (focus (simp only [List.length_nil, not_t, not_f, lt_t, lt_f, le_t, le_f, eq_t, eq_f, us_len, is_len, bs_len, lenL_00] <;> omega)); conv => whnf)
    | (refine brK_false ?_ ?_; (focus (simp only [List.length_nil, not_t, not_f, lt_t, lt_f, le_t, le_f, eq_t, eq_f, us_len, is_len, bs_len, lenL_00] <;> omega)); conv => whnf)
    | ((refine brK_of (fun h => ?_) (fun h => ?_)) <;> (have h2 := h; (try simp only [List.length_nil, not_t, not_f, lt_t, lt_f, le_t, le_f, eq_t, eq_f, us_len, is_len, bs_len, lenL_00] at h2); conv => whnf))
    | (refine reqK_of ?_ ?_; (focus (first | decide | omega | assumption | (simp only [List.length_nil, not_t, not_f, lt_t, lt_f, le_t, le_f, eq_t, eq_f, us_len, is_len, bs_len, lenL_00] <;> omega) | (simp [keyNew, sameKey, kEq] <;> omega))); conv => whnf)
    | (refine reqK_of ?_ ?_; rotate_left; (conv => whnf); rotate_left)
    | (refine nth_us ?_ ?_ ?_; (focus (first | omega | (simp only [List.length_nil, not_t, not_f, lt_t, lt_f, le_t, le_f, eq_t, eq_f, us_len, is_len, bs_len, lenL_00] <;> omega))); (focus (first | omega | (simp only [List.length_nil, not_t, not_f, lt_t, lt_f, le_t, le_f, eq_t, eq_f, us_len, is_len, bs_len, lenL_00] <;> omega))); conv => whnf)
    | (refine nth_is ?_ ?_ ?_; (focus (first | omega | (simp only [List.length_nil, not_t, not_f, lt_t, lt_f, le_t, le_f, eq_t, eq_f, us_len, is_len, bs_len, lenL_00] <;> omega))); (focus (first | omega | (simp only [List.length_nil, not_t, not_f, lt_t, lt_f, le_t, le_f, eq_t, eq_f, us_len, is_len, bs_len, lenL_00] <;> omega))); conv => whnf)
    | (refine nth_bs ?_ ?_ ?_; (focus (first | omega | (simp only [List.length_nil, not_t, not_f, lt_t, lt_f, le_t, le_f, eq_t, eq_f, us_len, is_len, bs_len, lenL_00] <;> omega))); (focus (first | omega | (simp only [List.length_nil, not_t, not_f, lt_t, lt_f, le_t, le_f, eq_t, eq_f, us_len, is_len, bs_len, lenL_00] <;> omega))); conv => whnf))
  · refine loopC (hC (k + 1) (by omega) (by omega)) ?_
    have e1 : is (l.take (k + 1)).reverse = [T.int .i64 (at0 l k)] ++ subL (is (l.take k).reverse) 0 none := by
      have : l.take (k + 1) = l.take k ++ [at0 l k] := by rw [List.take_add_one]; simp [at0, show k < l.length by omega]
      rw [this, List.reverse_append, subL_00]; rfl
    rw [e1, hw, Int.natCast_succ]
    rfl
  · have hkl : k = l.length := by omega
    subst hkl
    rw [List.take_length]
    clear hC C hbnd hrl hw
    have hsl := srt_len l
    refine loopUp [] [.kill 32, .kill 33, .kill 34, .kill 35, .kill 36, .kill 37, .kill 38, .kill 39, .kill 40, .kill 41, .kill 42, .kill 43, .kill 44, .kill 45, .kill 46, .kill 47] (fun k : Nat => [(9, .t (.int .i64 (k : Int)))]) (fun _ => []) (fun k => 1 ≤ k ∧ (k ≤ l.length ∨ k = 1)) (fun k => l.length - k) 1 ⟨Nat.le_refl _, .inr rfl⟩ ?_
    conv => whnf
    refine ⟨⟨rfl, rfl⟩, fun k hk2 C hC => ?_⟩
    have hw : IntKind.i64.wrap ((k : Int) + 1) = (k : Int) + 1 := wrap_i64 ⟨by omega, by omega⟩
    have hw1 : IntKind.i64.wrap ((k : Int) - 1) = (k : Int) - 1 := wrap_i64 ⟨by omega, by omega⟩
    have hle : k < l.length → at0 (srt l) ((k : Int) - 1) ≤ at0 (srt l) k := fun h => srt_le l k hk2.1 h
    have qr : IsI (is l.reverse) ∧ SzB (is l.reverse) := ⟨isI_is fun n hn => hl n (List.mem_reverse.1 hn), sz_B (by rw [List.length_reverse]; exact hlen)⟩
    have qs : IsI (is (srt l)) ∧ SzB (is (srt l)) := ⟨isI_srt hl, sz_B (by rw [srt_len]; exact hlen)⟩
    have qa : (IsI (is (srt (nums (is l)))) ∧ SzB (is (srt (nums (is l))))) ∧ IsI (is l) ∧ SzB (is l) := by rw [nums_is]; exact ⟨qs, q1⟩
    have qb : (IsI (subL (is l.reverse) 0 none) ∧ SzB (subL (is l.reverse) 0 none)) ∧ IsI (is l) ∧ SzB (is l) := by rw [subL_00]; exact ⟨qr, q1⟩
    have qc : IsI (subL (is l.reverse) 0 none) ∧ SzB (subL (is l.reverse) 0 none) := by rw [subL_00]; exact qr
    have qd : IsI (is (srt (nums (is l)))) ∧ SzB (is (srt (nums (is l)))) := by rw [nums_is]; exact qs
    have hrv : (l.reverse).Perm l := List.reverse_perm l
    have f1 : eqNs (srt (nums (is (srt (nums (is l)))))) (srt (nums (is l))) = true := by rw [nums_is, nums_is, srt_srt]; exact eqNs_self _
    have f2 : eqNs (srt (nums (subL (is l.reverse) 0 none))) (srt (nums (is l))) = true := by rw [subL_00, nums_is, nums_is, srt_eq.2 hrv]; exact eqNs_self _
    have f3 : eqI (((nums (is (srt (nums (is l))))).count o : Nat) : Int) (((nums (is l)).count o : Nat) : Int) = true := by rw [nums_is, nums_is, srt_count]; simp
    have hon : onceI (nums (subL (is l.reverse) 0 none)) = onceI (nums (is l)) := by
      rw [subL_00, nums_is, nums_is]; unfold onceI; rw [ofI_perm hrv, List.length_reverse]
    have f4 : eqI (onceI (nums (is l))).1 (onceI (nums (subL (is l.reverse) 0 none))).1 = true := by rw [hon]; simp
    conv => whnf
    repeat' (first
      | (refine brK_true (by assumption) ?_; conv => whnf)
      | (refine brK_false (by assumption) ?_; conv => whnf)
      | (refine brK_true ?_ ?_; (focus (simp only [List.length_nil, not_t, not_f, lt_t, lt_f, le_t, le_f, eq_t, eq_f, us_len, is_len, bs_len, lenL_00, hw1, nums_is, hsl] <;> omega)); conv => whnf)
      | (refine brK_false ?_ ?_; (focus (simp only [List.length_nil, not_t, not_f, lt_t, lt_f, le_t, le_f, eq_t, eq_f, us_len, is_len, bs_len, lenL_00, hw1, nums_is, hsl] <;> omega)); conv => whnf)
      | ((refine brK_of (fun h => ?_) (fun h => ?_)) <;> (have h2 := h; (try simp only [List.length_nil, not_t, not_f, lt_t, lt_f, le_t, le_f, eq_t, eq_f, us_len, is_len, bs_len, lenL_00, hw1, nums_is, hsl] at h2); conv => whnf))
      | (refine reqK_of ?_ ?_; (focus (first | decide | omega | assumption | (simp only [List.length_nil, not_t, not_f, lt_t, lt_f, le_t, le_f, eq_t, eq_f, us_len, is_len, bs_len, lenL_00, hw1, nums_is, hsl] <;> omega) | (simp [keyNew, sameKey, kEq] <;> omega))); conv => whnf)
      | (refine reqK_of ?_ ?_; rotate_left; (conv => whnf); rotate_left)
      | (refine nth_us ?_ ?_ ?_; (focus (first | omega | (simp only [List.length_nil, not_t, not_f, lt_t, lt_f, le_t, le_f, eq_t, eq_f, us_len, is_len, bs_len, lenL_00, hw1, nums_is, hsl] <;> omega))); (focus (first | omega | (simp only [List.length_nil, not_t, not_f, lt_t, lt_f, le_t, le_f, eq_t, eq_f, us_len, is_len, bs_len, lenL_00, hw1, nums_is, hsl] <;> omega))); conv => whnf)
      | (refine nth_is ?_ ?_ ?_; (focus (first | omega | (simp only [List.length_nil, not_t, not_f, lt_t, lt_f, le_t, le_f, eq_t, eq_f, us_len, is_len, bs_len, lenL_00, hw1, nums_is, hsl] <;> omega))); (focus (first | omega | (simp only [List.length_nil, not_t, not_f, lt_t, lt_f, le_t, le_f, eq_t, eq_f, us_len, is_len, bs_len, lenL_00, hw1, nums_is, hsl] <;> omega))); conv => whnf)
      | (refine nth_bs ?_ ?_ ?_; (focus (first | omega | (simp only [List.length_nil, not_t, not_f, lt_t, lt_f, le_t, le_f, eq_t, eq_f, us_len, is_len, bs_len, lenL_00, hw1, nums_is, hsl] <;> omega))); (focus (first | omega | (simp only [List.length_nil, not_t, not_f, lt_t, lt_f, le_t, le_f, eq_t, eq_f, us_len, is_len, bs_len, lenL_00, hw1, nums_is, hsl] <;> omega))); conv => whnf))
    all_goals first
      | assumption
      | (refine loopC (hC (k + 1) ⟨by omega, by omega⟩ (by omega)) ?_
         rw [hw, Int.natCast_succ]
         rfl)
      | (rw [hon]; simp [eqB_def])
      | trace_state
open Classical in
noncomputable def c7 : List T → Ans
  | [.list 1 xs, .int .i64 o] => .req ((IsI xs ∧ SzA xs) ∧ I64 o) (.bool true)
  | _ => .no
theorem got7 {vs : List T} {x : T} (h : Got (c7 vs) x) : FnOk Try.prog tgl 7 vs x := by
  unfold c7 at h
  split at h
  · obtain ⟨hq, e⟩ := got_req h; rw [e]; exact ok7 _ _ hq
  · exact (got_no h).elim
theorem nogl7 (vs : List T) (p : Prop) (d : Decidable p) (sz : Nat) (xs : List T) (h : c7 vs = @Ans.gl p d sz xs) : False := by
  unfold c7 at h
  split at h <;> cases h
theorem pk7 (vs : List T) (p : Prop) (d : Decidable p) (x : T) (h : c7 vs = @Ans.pk p d x) (hp : p) : FnOk Try.prog tgl 7 vs x := by
  unfold c7 at h
  split at h
  · cases h
  · cases h
end Go.Nx
