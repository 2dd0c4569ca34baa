/-
  THE DOCUMENT's BAGS: ADD, LESS, ONCE.
-/
import Derived.Test.YtommbfigioeghaaBw
import Derived.Test.YtommbfigioeghaaBk
import Derived.Test.YtommbfigioeghaaPc
set_option linter.unusedVariables false
set_option linter.unusedSimpArgs false
set_option maxRecDepth 20000
set_option maxHeartbeats 8000000
namespace Go.Nx
open Go.RowKit Go.Proofs

theorem ok29 (xs : List T) (o : Int) (hq : IsI xs ∧ SzB xs) : FnOk Try.prog tgl 29 [.list 1 xs, .int .i64 o] (.int .i64 ((nums xs).count o)) := by
  refine fn_ok (Γ := B0) env_B0 Try.func29 low29 ?_
  obtain ⟨⟨l, rfl, hl⟩, hs⟩ := hq
  have hlen := sz_lenB hs
  rw [nums_is]
  conv => whnf
  repeat' (first
    | (refine brK_true rfl ?_; conv => whnf)
    | (refine brK_false rfl ?_; conv => whnf)
    | (refine brK_true (by assumption) ?_; conv => whnf)
    | (refine brK_false (by assumption) ?_; conv => whnf)
    | (refine brK_true ?_ ?_; (focus (simp only [List.length_nil, fx] <;> omega)); conv => whnf)
    | (refine brK_false ?_ ?_; (focus (simp only [List.length_nil, fx] <;> omega)); conv => whnf)
    | ((refine brK_of (fun h => ?_) (fun h => ?_)) <;> (have h2 := h; (try simp only [List.length_nil, fx] at h2); conv => whnf))
    | (refine reqK_of ?_ ?_; (focus (first | decide | omega | assumption | (simp only [List.length_nil, fx] <;> omega) | (simp [keyNew, sameKey, kEq] <;> omega))); conv => whnf)
    | (refine reqK_of ?_ ?_; rotate_left; (conv => whnf); rotate_left)
    | (refine nth_us ?_ ?_ ?_; (focus (first | omega | (simp only [List.length_nil, fx] <;> omega))); (focus (first | omega | (simp only [List.length_nil, fx] <;> omega))); conv => whnf)
    | (refine nth_is ?_ ?_ ?_; (focus (first | omega | (simp only [List.length_nil, fx] <;> omega))); (focus (first | omega | (simp only [List.length_nil, fx] <;> omega))); conv => whnf)
    | (refine nth_bs ?_ ?_ ?_; (focus (first | omega | (simp only [List.length_nil, fx] <;> omega))); (focus (first | omega | (simp only [List.length_nil, fx] <;> omega))); conv => whnf))
  refine loopUp [] [.kill 7, .kill 8, .kill 9, .kill 10, .kill 11, .kill 12, .kill 13, .kill 14, .kill 15, .kill 16, .kill 17, .kill 18, .kill 19, .kill 20] (fun k : Nat => [(5, .t (.int .i64 ((l.take k).count o : Nat))), (6, .t (.int .i64 (k : Int)))]) (fun _ => []) (fun k => k ≤ l.length) (fun k => l.length - k) 0 (Nat.zero_le _) ?_
  conv => whnf
  refine ⟨⟨rfl, rfl⟩, fun k hk C hC => ?_⟩
  have hw : IntKind.i64.wrap ((k : Int) + 1) = (k : Int) + 1 := wrap_i64 ⟨by omega, by omega⟩
  have hcl := List.count_le_length (a := o) (l := l.take k)
  have htl : (l.take k).length ≤ k := by simp; omega
  have hwc : IntKind.i64.wrap (((l.take k).count o : Nat) + 1 : Int) = ((l.take k).count o : Nat) + 1 := wrap_i64 ⟨by omega, by omega⟩
  have hst : k < l.length → (l.take (k + 1)).count o = (l.take k).count o + [at0 l k].count o := fun h => by
    have e : l.take (k + 1) = l.take k ++ [at0 l k] := by rw [List.take_add_one]; simp [at0, h]
    rw [e, List.count_append]
  conv => whnf
  repeat' (first
    | (refine brK_true rfl ?_; conv => whnf)
    | (refine brK_false rfl ?_; conv => whnf)
    | (refine brK_true (by assumption) ?_; conv => whnf)
    | (refine brK_false (by assumption) ?_; conv => whnf)
    | (refine brK_true ?_ ?_; (focus (simp only [List.length_nil, fx] <;> omega)); conv => whnf)
    | (refine brK_false ?_ ?_; (focus (simp only [List.length_nil, fx] <;> omega)); conv => whnf)
    | ((refine brK_of (fun h => ?_) (fun h => ?_)) <;> (have h2 := h; (try simp only [List.length_nil, fx] at h2); conv => whnf))
    | (refine reqK_of ?_ ?_; (focus (first | decide | omega | assumption | (simp only [List.length_nil, fx] <;> omega) | (simp [keyNew, sameKey, kEq] <;> omega))); conv => whnf)
    | (refine reqK_of ?_ ?_; rotate_left; (conv => whnf); rotate_left)
    | (refine nth_us ?_ ?_ ?_; (focus (first | omega | (simp only [List.length_nil, fx] <;> omega))); (focus (first | omega | (simp only [List.length_nil, fx] <;> omega))); conv => whnf)
    | (refine nth_is ?_ ?_ ?_; (focus (first | omega | (simp only [List.length_nil, fx] <;> omega))); (focus (first | omega | (simp only [List.length_nil, fx] <;> omega))); conv => whnf)
    | (refine nth_bs ?_ ?_ ?_; (focus (first | omega | (simp only [List.length_nil, fx] <;> omega))); (focus (first | omega | (simp only [List.length_nil, fx] <;> omega))); conv => whnf))
  · refine loopC (hC (k + 1) (by omega) (by omega)) ?_
    rw [hw, hwc, hst (by omega), Int.natCast_succ]
    have : at0 l k = o := by assumption
    rw [this]; simp
    rfl
  · refine loopC (hC (k + 1) (by omega) (by omega)) ?_
    have : at0 l k ≠ o := by assumption
    rw [hw, hst (by omega), cnt1_ne this, Int.natCast_succ]
    rfl
  · rw [List.take_of_length_le (by omega)]
open Classical in
noncomputable def c29 : List T → Ans
  | [.list 1 xs, .int .i64 o] => .req (IsI xs ∧ SzB xs) (.int .i64 ((nums xs).count o))
  | _ => .no
theorem got29 {vs : List T} {x : T} (h : Got (c29 vs) x) : FnOk Try.prog tgl 29 vs x := by
  unfold c29 at h
  split at h
  · obtain ⟨hq, e⟩ := got_req h; rw [e]; exact ok29 _ _ hq
  · exact (got_no h).elim
theorem nogl29 (vs : List T) (p : Prop) (d : Decidable p) (sz : Nat) (xs : List T) (h : c29 vs = @Ans.gl p d sz xs) : False := by
  unfold c29 at h
  split at h <;> cases h
theorem pk29 (vs : List T) (p : Prop) (d : Decidable p) (x : T) (h : c29 vs = @Ans.pk p d x) (hp : p) : FnOk Try.prog tgl 29 vs x := by
  unfold c29 at h
  split at h
  · cases h
  · cases h
theorem delN_min (o : Int) : ∀ (k : Nat) (l : List Int), delN o (min k l.length) l = delN o k l
  | k, [] => by simp [delN_nil]
  | 0, x :: l => by simp [delN]
  | k + 1, x :: l => by
    have e : min (k + 1) (x :: l).length = min k l.length + 1 := by rw [List.length_cons]; omega
    rw [e, delN, delN]
    split
    · exact delN_min o k l
    · congr 1
      have h1 := delN_min o (k + 1) l
      by_cases hk : k + 1 ≤ l.length
      · have : min k l.length + 1 = k + 1 := by omega
        rw [this]
      · have e2 : min k l.length + 1 = l.length + 1 ∨ min k l.length = l.length := by omega
        have e3 : min (k + 1) l.length = l.length := by omega
        rw [e3] at h1
        rw [← h1]
        have h2 := delN_min o (min k l.length + 1) l
        have e4 : min (min k l.length + 1) l.length = l.length := by omega
        rw [e4] at h2
        exact h2.symm
def mAdd (l : List Int) (n : Int) : Nat := min (-n).toNat l.length
theorem mAdd_eq (l : List Int) (o n : Int) : addB l o n = srt ((stD l o (mAdd l n) l.length).1 ++ List.replicate (min n 1000).toNat o) := by
  rw [stD_end]
  unfold mAdd addB
  rw [delN_min]
  by_cases h : 0 ≤ n
  · rw [if_pos h, show (-n).toNat = 0 by omega, delN_zero]
  · rw [if_neg h, show (min n 1000).toNat = 0 by omega, List.replicate_zero, List.append_nil]
theorem ok25 (xs : List T) (o n : Int) (hq : (IsI xs ∧ xs.length ≤ 2097152) ∧ I64 o ∧ I64 n) : FnOk Try.prog tgl 25 [.list 1 xs, .int .i64 o, .int .i64 n] (.list 1 (is (addB (nums xs) o n))) := by
  refine fn_ok (Γ := VN) env_VN Try.func25 low25 ?_
  obtain ⟨⟨⟨l, rfl, hl⟩, hs⟩, ho, hn64⟩ := hq
  have hn := hn64
  unfold I64 at hn
  rw [is_len] at hs
  rw [nums_is, mAdd_eq]
  have hwl : IntKind.i64.wrap (0 - (l.length : Int)) = -(l.length : Int) := by rw [Int.zero_sub]; exact wrap_i64 ⟨by omega, by omega⟩
  obtain ⟨m, hm⟩ : ∃ m, m = mAdd l n := ⟨_, rfl⟩
  rw [← hm]
  have hK : ∀ k, k ≤ l.length → (stD l o m k).1.length ≤ k := fun k hk => by have := stD_len l o m k; omega
  have hKI : ∀ k, k ≤ l.length → ∀ x ∈ (stD l o m k).1, x ∈ l := fun k hk x hx => by
    have h1 := stD_del l o m k hk
    have h2 : x ∈ delN o m l := by rw [← h1]; exact List.mem_append.2 (.inl hx)
    exact delN_sub o m l x h2
  have hml : m ≤ l.length := by rw [hm]; unfold mAdd; omega
  have hmv1 : n < -(l.length : Int) → (m : Int) = l.length := fun h9 => by rw [hm]; unfold mAdd; omega
  have hmv2 : -(l.length : Int) ≤ n → (m : Int) = IntKind.i64.wrap (0 - minI n 0) := fun h9 => by
    rw [hm]; unfold mAdd
    have e9 : minI n 0 = min n 0 := by rw [minI_def]; split <;> omega
    rw [e9, wrap_i64 ⟨by omega, by omega⟩]; omega
  conv => whnf
  repeat' (first
    | (refine brK_true rfl ?_; conv => whnf)
    | (refine brK_false rfl ?_; conv => whnf)
    | (refine brK_true (by assumption) ?_; conv => whnf)
    | (refine brK_false (by assumption) ?_; conv => whnf)
    | (refine brK_true ?_ ?_; (focus (simp only [List.length_nil, fx, hwl] <;> omega)); conv => whnf)
    | (refine brK_false ?_ ?_; (focus (simp only [List.length_nil, fx, hwl] <;> omega)); conv => whnf)
    | ((refine brK_of (fun h => ?_) (fun h => ?_)) <;> (have h2 := h; (try simp only [List.length_nil, fx, hwl] at h2); conv => whnf))
    | (refine reqK_of ?_ ?_; (focus (first | decide | omega | assumption | (simp only [List.length_nil, fx, hwl] <;> omega) | (simp [keyNew, sameKey, kEq] <;> omega))); conv => whnf)
    | (refine reqK_of ?_ ?_; rotate_left; (conv => whnf); rotate_left)
    | (refine nth_us ?_ ?_ ?_; (focus (first | omega | (simp only [List.length_nil, fx, hwl] <;> omega))); (focus (first | omega | (simp only [List.length_nil, fx, hwl] <;> omega))); conv => whnf)
    | (refine nth_is ?_ ?_ ?_; (focus (first | omega | (simp only [List.length_nil, fx, hwl] <;> omega))); (focus (first | omega | (simp only [List.length_nil, fx, hwl] <;> omega))); conv => whnf)
    | (refine nth_bs ?_ ?_ ?_; (focus (first | omega | (simp only [List.length_nil, fx, hwl] <;> omega))); (focus (first | omega | (simp only [List.length_nil, fx, hwl] <;> omega))); conv => whnf))
  all_goals refine loopFn [.adopt 7 1001 1] (fun s => nzIf 109 s [.kill 21, .kill 22, .kill 23, .kill 24, .kill 25, .kill 26, .kill 27, .kill 28, .kill 29, .kill 30, .kill 31, .kill 32, .kill 33, .kill 34, .kill 35, .kill 36, .kill 37, .kill 38, .kill 39, .kill 40, .kill 41, .kill 42, .kill 43, .kill 44, .kill 45, .keep [109], .ren 109 1001] [.kill 21, .kill 22, .kill 23, .kill 24, .kill 25, .kill 26, .kill 27, .kill 28, .kill 29, .kill 30, .kill 31, .kill 32, .kill 33, .kill 34, .kill 35, .kill 36, .kill 37, .kill 38, .kill 39, .kill 40, .kill 41, .kill 42, .kill 43, .kill 44, .kill 45]) (fun k : Nat => [(7, .sl 1001 0 none), (8, .t (.int .i64 ((stD l o m k).2 : Nat))), (9, .t (.int .i64 (k : Int)))]) (fun k => [(1001, .lst 1 (is (stD l o m k).1) 1)]) (fun k => k ≤ l.length) (fun k => l.length - k) 0 (Nat.zero_le _) ?_
  all_goals conv => whnf
  all_goals refine ⟨⟨?_, rfl⟩, fun k hk C hC => ?_⟩
  · show _ = setL _ [(7, .sl 1001 0 none), (8, .t (.int .i64 (m : Int))), (9, .t (.int .i64 ((0 : Nat) : Int)))]
    rw [hmv1 (by assumption), ← is_len]; rfl
  rotate_left
  · show _ = setL _ [(7, .sl 1001 0 none), (8, .t (.int .i64 (m : Int))), (9, .t (.int .i64 ((0 : Nat) : Int)))]
    rw [hmv2 (by assumption)]; rfl
  all_goals have hw : IntKind.i64.wrap ((k : Int) + 1) = (k : Int) + 1 := wrap_i64 ⟨by omega, by omega⟩
  all_goals have hk2 := hK k hk
  all_goals have hkI := hKI k hk
  all_goals have hsl := stD_len l o m k
  all_goals have hnx : stD l o m (k + 1) = if at0 l k = o ∧ 0 < (stD l o m k).2 then ((stD l o m k).1, (stD l o m k).2 - 1) else ((stD l o m k).1 ++ [at0 l k], (stD l o m k).2) := rfl
  all_goals have hend : k = l.length → (stD l o m k).1 = (stD l o m l.length).1 := fun e => by rw [e]
  all_goals generalize hKm : stD l o m k = Km at hk2 hkI hsl hnx hend ⊢
  all_goals obtain ⟨K, r⟩ := Km
  all_goals simp only at hk2 hkI hsl hnx hend ⊢
  all_goals have hwr : 0 < r → IntKind.i64.wrap ((r : Int) - 1) = ((r - 1 : Nat) : Int) := fun h9 => by rw [show (r : Int) - 1 = ((r - 1 : Nat) : Int) by omega]; exact wrap_i64 ⟨by omega, by omega⟩
  all_goals have hbm : ((is K).length + [T.int .i64 (at0 l k)].length) * 8 ≤ maxBytes := by rw [is_len]; unfold maxBytes; simp only [List.length_cons, List.length_nil]; omega
  · conv => whnf
    repeat' (first
      | (refine brK_true rfl ?_; conv => whnf)
      | (refine brK_false rfl ?_; conv => whnf)
      | (refine brK_true (by assumption) ?_; conv => whnf)
      | (refine brK_false (by assumption) ?_; conv => whnf)
      | (refine brK_true ?_ ?_; (focus (simp only [List.length_nil, fx] <;> omega)); conv => whnf)
      | (refine brK_false ?_ ?_; (focus (simp only [List.length_nil, fx] <;> omega)); conv => whnf)
      | ((refine brK_of (fun h => ?_) (fun h => ?_)) <;> (have h2 := h; (try simp only [List.length_nil, fx] at h2); conv => whnf))
      | (refine reqK_of ?_ ?_; (focus (first | decide | omega | assumption | (simp only [List.length_nil, fx] <;> omega) | (simp [keyNew, sameKey, kEq] <;> omega))); conv => whnf)
      | (refine reqK_of ?_ ?_; rotate_left; (conv => whnf); rotate_left)
      | (refine nth_us ?_ ?_ ?_; (focus (first | omega | (simp only [List.length_nil, fx] <;> omega))); (focus (first | omega | (simp only [List.length_nil, fx] <;> omega))); conv => whnf)
      | (refine nth_is ?_ ?_ ?_; (focus (first | omega | (simp only [List.length_nil, fx] <;> omega))); (focus (first | omega | (simp only [List.length_nil, fx] <;> omega))); conv => whnf)
      | (refine nth_bs ?_ ?_ ?_; (focus (first | omega | (simp only [List.length_nil, fx] <;> omega))); (focus (first | omega | (simp only [List.length_nil, fx] <;> omega))); conv => whnf))
    · rw [if_pos ⟨by assumption, by omega⟩] at hnx
      refine loopC (hC (k + 1) (by omega) (by omega)) ?_
      rw [hnx, hw, hwr (by omega), Int.natCast_succ]
      rfl
    · rw [if_neg (by omega)] at hnx
      refine loopC (hC (k + 1) (by omega) (by omega)) ?_
      rw [hnx, hw, Int.natCast_succ]
      simp only [is, List.map_append]
      rfl
    · rw [if_neg (by intro h9; have := h9.1; contradiction)] at hnx
      refine loopC (hC (k + 1) (by omega) (by omega)) ?_
      rw [hnx, hw, Int.natCast_succ]
      simp only [is, List.map_append]
      rfl
    · rw [← hend (by omega)]
      clear hC hnx hend
      refine loopFn [] (fun s => [.kill 46, .kill 47, .kill 48, .kill 49, .kill 50, .kill 51, .kill 52, .kill 53, .kill 54, .kill 55, .kill 56, .kill 57, .kill 58, .keep [122], .ren 122 1001]) (fun j : Nat => [(7, .sl 1001 0 none), (10, .t (.int .i64 (j : Int)))]) (fun j => [(1001, .lst 1 (is (K ++ List.replicate j o)) 1)]) (fun j => j ≤ 1000 ∧ (j : Int) ≤ max n 0) (fun j => 1000 - j) 0 ⟨by omega, by omega⟩ ?_
      conv => whnf
      refine ⟨⟨rfl, ?_⟩, fun j hj D hD => ?_⟩
      · rw [List.replicate_zero, List.append_nil]
      obtain ⟨hj1, hj2⟩ := hj
      have hwj : IntKind.i64.wrap ((j : Int) + 1) = (j : Int) + 1 := wrap_i64 ⟨by omega, by omega⟩
      have hbj : ((is (K ++ List.replicate j o)).length + [T.int .i64 o].length) * 8 ≤ maxBytes := by
        rw [is_len, List.length_append, List.length_replicate]; unfold maxBytes; simp only [List.length_cons, List.length_nil]; omega
      have hq9 : IsI (subL (is (K ++ List.replicate j o)) 0 none) ∧ SmB (subL (is (K ++ List.replicate j o)) 0 none) := by
        rw [subL_00]
        refine ⟨isI_is fun x hx => ?_, by unfold SmB; rw [is_len, List.length_append, List.length_replicate]; omega⟩
        rcases List.mem_append.1 hx with h9 | h9
        · exact hl x (hkI x h9)
        · rw [List.eq_of_mem_replicate h9]; exact ho
      have hrs : is (K ++ List.replicate (j + 1) o) = is (K ++ List.replicate j o) ++ [T.int .i64 o] := by
        rw [List.replicate_succ', ← List.append_assoc]; simp [is]
      conv => whnf
      repeat' (first
        | (refine brK_true rfl ?_; conv => whnf)
        | (refine brK_false rfl ?_; conv => whnf)
        | (refine brK_true (by assumption) ?_; conv => whnf)
        | (refine brK_false (by assumption) ?_; conv => whnf)
        | (refine brK_true ?_ ?_; (focus (simp only [List.length_nil, fx] <;> omega)); conv => whnf)
        | (refine brK_false ?_ ?_; (focus (simp only [List.length_nil, fx] <;> omega)); conv => whnf)
        | ((refine brK_of (fun h => ?_) (fun h => ?_)) <;> (have h2 := h; (try simp only [List.length_nil, fx] at h2); conv => whnf))
        | (refine reqK_of ?_ ?_; (focus (first | decide | omega | assumption | (simp only [List.length_nil, fx] <;> omega) | (simp [keyNew, sameKey, kEq] <;> omega))); conv => whnf)
        | (refine reqK_of ?_ ?_; rotate_left; (conv => whnf); rotate_left)
        | (refine nth_us ?_ ?_ ?_; (focus (first | omega | (simp only [List.length_nil, fx] <;> omega))); (focus (first | omega | (simp only [List.length_nil, fx] <;> omega))); conv => whnf)
        | (refine nth_is ?_ ?_ ?_; (focus (first | omega | (simp only [List.length_nil, fx] <;> omega))); (focus (first | omega | (simp only [List.length_nil, fx] <;> omega))); conv => whnf)
        | (refine nth_bs ?_ ?_ ?_; (focus (first | omega | (simp only [List.length_nil, fx] <;> omega))); (focus (first | omega | (simp only [List.length_nil, fx] <;> omega))); conv => whnf))
      all_goals first
        | (refine loopC (hD (j + 1) ⟨by omega, by omega⟩ (by omega)) ?_
           rw [hrs, hwj, Int.natCast_succ]
           rfl)
        | (rw [subL_00, nums_is, show (min n 1000).toNat = j by omega])
        | trace_state
  · conv => whnf
    repeat' (first
      | (refine brK_true rfl ?_; conv => whnf)
      | (refine brK_false rfl ?_; conv => whnf)
      | (refine brK_true (by assumption) ?_; conv => whnf)
      | (refine brK_false (by assumption) ?_; conv => whnf)
      | (refine brK_true ?_ ?_; (focus (simp only [List.length_nil, fx] <;> omega)); conv => whnf)
      | (refine brK_false ?_ ?_; (focus (simp only [List.length_nil, fx] <;> omega)); conv => whnf)
      | ((refine brK_of (fun h => ?_) (fun h => ?_)) <;> (have h2 := h; (try simp only [List.length_nil, fx] at h2); conv => whnf))
      | (refine reqK_of ?_ ?_; (focus (first | decide | omega | assumption | (simp only [List.length_nil, fx] <;> omega) | (simp [keyNew, sameKey, kEq] <;> omega))); conv => whnf)
      | (refine reqK_of ?_ ?_; rotate_left; (conv => whnf); rotate_left)
      | (refine nth_us ?_ ?_ ?_; (focus (first | omega | (simp only [List.length_nil, fx] <;> omega))); (focus (first | omega | (simp only [List.length_nil, fx] <;> omega))); conv => whnf)
      | (refine nth_is ?_ ?_ ?_; (focus (first | omega | (simp only [List.length_nil, fx] <;> omega))); (focus (first | omega | (simp only [List.length_nil, fx] <;> omega))); conv => whnf)
      | (refine nth_bs ?_ ?_ ?_; (focus (first | omega | (simp only [List.length_nil, fx] <;> omega))); (focus (first | omega | (simp only [List.length_nil, fx] <;> omega))); conv => whnf))
    · rw [if_pos ⟨by assumption, by omega⟩] at hnx
      refine loopC (hC (k + 1) (by omega) (by omega)) ?_
      rw [hnx, hw, hwr (by omega), Int.natCast_succ]
      rfl
    · rw [if_neg (by intro h9; have := h9.1; contradiction)] at hnx
      refine loopC (hC (k + 1) (by omega) (by omega)) ?_
      rw [hnx, hw, Int.natCast_succ]
      simp only [is, List.map_append]
      rfl
    · rw [← hend (by omega)]
      clear hC hnx hend
      refine loopFn [] (fun s => [.kill 46, .kill 47, .kill 48, .kill 49, .kill 50, .kill 51, .kill 52, .kill 53, .kill 54, .kill 55, .kill 56, .kill 57, .kill 58, .keep [122], .ren 122 1001]) (fun j : Nat => [(7, .sl 1001 0 none), (10, .t (.int .i64 (j : Int)))]) (fun j => [(1001, .lst 1 (is (K ++ List.replicate j o)) 1)]) (fun j => j ≤ 1000 ∧ (j : Int) ≤ max n 0) (fun j => 1000 - j) 0 ⟨by omega, by omega⟩ ?_
      conv => whnf
      refine ⟨⟨rfl, ?_⟩, fun j hj D hD => ?_⟩
      · rw [List.replicate_zero, List.append_nil]
      obtain ⟨hj1, hj2⟩ := hj
      have hwj : IntKind.i64.wrap ((j : Int) + 1) = (j : Int) + 1 := wrap_i64 ⟨by omega, by omega⟩
      have hbj : ((is (K ++ List.replicate j o)).length + [T.int .i64 o].length) * 8 ≤ maxBytes := by
        rw [is_len, List.length_append, List.length_replicate]; unfold maxBytes; simp only [List.length_cons, List.length_nil]; omega
      have hq9 : IsI (subL (is (K ++ List.replicate j o)) 0 none) ∧ SmB (subL (is (K ++ List.replicate j o)) 0 none) := by
        rw [subL_00]
        refine ⟨isI_is fun x hx => ?_, by unfold SmB; rw [is_len, List.length_append, List.length_replicate]; omega⟩
        rcases List.mem_append.1 hx with h9 | h9
        · exact hl x (hkI x h9)
        · rw [List.eq_of_mem_replicate h9]; exact ho
      have hrs : is (K ++ List.replicate (j + 1) o) = is (K ++ List.replicate j o) ++ [T.int .i64 o] := by
        rw [List.replicate_succ', ← List.append_assoc]; simp [is]
      conv => whnf
      repeat' (first
        | (refine brK_true rfl ?_; conv => whnf)
        | (refine brK_false rfl ?_; conv => whnf)
        | (refine brK_true (by assumption) ?_; conv => whnf)
        | (refine brK_false (by assumption) ?_; conv => whnf)
        | (refine brK_true ?_ ?_; (focus (simp only [List.length_nil, fx] <;> omega)); conv => whnf)
        | (refine brK_false ?_ ?_; (focus (simp only [List.length_nil, fx] <;> omega)); conv => whnf)
        | ((refine brK_of (fun h => ?_) (fun h => ?_)) <;> (have h2 := h; (try simp only [List.length_nil, fx] at h2); conv => whnf))
        | (refine reqK_of ?_ ?_; (focus (first | decide | omega | assumption | (simp only [List.length_nil, fx] <;> omega) | (simp [keyNew, sameKey, kEq] <;> omega))); conv => whnf)
        | (refine reqK_of ?_ ?_; rotate_left; (conv => whnf); rotate_left)
        | (refine nth_us ?_ ?_ ?_; (focus (first | omega | (simp only [List.length_nil, fx] <;> omega))); (focus (first | omega | (simp only [List.length_nil, fx] <;> omega))); conv => whnf)
        | (refine nth_is ?_ ?_ ?_; (focus (first | omega | (simp only [List.length_nil, fx] <;> omega))); (focus (first | omega | (simp only [List.length_nil, fx] <;> omega))); conv => whnf)
        | (refine nth_bs ?_ ?_ ?_; (focus (first | omega | (simp only [List.length_nil, fx] <;> omega))); (focus (first | omega | (simp only [List.length_nil, fx] <;> omega))); conv => whnf))
      all_goals first
        | (refine loopC (hD (j + 1) ⟨by omega, by omega⟩ (by omega)) ?_
           rw [hrs, hwj, Int.natCast_succ]
           rfl)
        | (rw [subL_00, nums_is, show (min n 1000).toNat = j by omega])
        | trace_state
open Classical in
noncomputable def c25 : List T → Ans
  | [.list 1 xs, .int .i64 o, .int .i64 n] => .req ((IsI xs ∧ xs.length ≤ 2097152) ∧ I64 o ∧ I64 n) (.list 1 (is (addB (nums xs) o n)))
  | _ => .no
theorem got25 {vs : List T} {x : T} (h : Got (c25 vs) x) : FnOk Try.prog tgl 25 vs x := by
  unfold c25 at h
  split at h
  · obtain ⟨hq, e⟩ := got_req h; rw [e]; exact ok25 _ _ _ hq
  · exact (got_no h).elim
theorem nogl25 (vs : List T) (p : Prop) (d : Decidable p) (sz : Nat) (xs : List T) (h : c25 vs = @Ans.gl p d sz xs) : False := by
  unfold c25 at h
  split at h <;> cases h
theorem pk25 (vs : List T) (p : Prop) (d : Decidable p) (x : T) (h : c25 vs = @Ans.pk p d x) (hp : p) : FnOk Try.prog tgl 25 vs x := by
  unfold c25 at h
  split at h
  · cases h
  · cases h
end Go.Nx
