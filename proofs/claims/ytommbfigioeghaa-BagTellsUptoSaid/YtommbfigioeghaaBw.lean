/-
  THE DOCUMENT's BAGS: NORM, SUM, SAME.
-/
import Derived.Test.YtommbfigioeghaaBp
set_option linter.unusedVariables false
set_option linter.unusedSimpArgs false
set_option maxRecDepth 20000
set_option maxHeartbeats 4000000
namespace Go.Nx
open Go.RowKit Go.Proofs

theorem at0_get {l : List Int} {j : Nat} (h : j < l.length) : at0 l (j : Int) = l[j] := by simp [at0, h]
theorem ins_srt {L : List Int} (hL : L.Pairwise (· ≤ ·)) {x : Int} {n : Nat} (hn : n ≤ L.length) (h1 : ∀ j : Nat, j < n → at0 L j ≤ x) (h2 : n = L.length ∨ x < at0 L n) : L.take n ++ ([x] ++ L.drop n) = srt (x :: L) := by
  have hs : (L.take n ++ ([x] ++ L.drop n)).Pairwise (· ≤ ·) := by
    have hp := hL
    rw [← List.take_append_drop n L, List.pairwise_append] at hp
    obtain ⟨p1, p2, p3⟩ := hp
    have hx : ∀ y ∈ L.drop n, x ≤ y := fun y hy => by
      rcases h2 with h2 | h2
      · rw [h2, List.drop_length] at hy; cases hy
      · have hlt : n < L.length := by
          rcases Nat.lt_or_ge n L.length with h | h
          · exact h
          · rw [List.drop_of_length_le h] at hy; cases hy
        rw [List.drop_eq_getElem_cons hlt] at hy p2
        rw [at0_get hlt] at h2
        rcases List.mem_cons.1 hy with rfl | hy
        · omega
        · have := (List.pairwise_cons.1 p2).1 y hy; omega
    rw [List.pairwise_append]
    refine ⟨p1, ?_, fun a ha b hb => ?_⟩
    · rw [List.singleton_append, List.pairwise_cons]
      exact ⟨hx, p2⟩
    · obtain ⟨j, hj, rfl⟩ := List.mem_iff_getElem.1 ha
      rw [List.length_take] at hj
      have ha2 : (L.take n)[j] ≤ x := by
        have := h1 j (by omega)
        rw [at0_get (by omega)] at this
        rwa [List.getElem_take]
      rcases List.mem_append.1 hb with hb | hb
      · simp at hb; rw [hb]; exact ha2
      · have := hx b hb; omega
  refine sorted_perm hs (srt_sorted _) ?_
  refine List.Perm.trans ?_ (srt_perm _).symm
  refine (List.perm_append_comm_assoc _ _ _).trans ?_
  rw [List.take_append_drop]
  exact List.Perm.refl _
theorem srt_take {l : List Int} {k : Nat} (hk : k < l.length) : srt (l.take (k + 1)) = srt (at0 l k :: srt (l.take k)) := by
  rw [srt_eq]
  have e : l.take (k + 1) = l.take k ++ [at0 l k] := by
    rw [List.take_add_one]; simp [at0, hk]
  rw [e]
  refine List.perm_append_comm.trans ?_
  exact List.Perm.cons _ (srt_perm _).symm
theorem srt_nil : srt ([] : List Int) = [] := by unfold srt; exact List.mergeSort_nil
def SmB (xs : List T) : Prop := xs.length ≤ 4194304
theorem ok27 (xs : List T) (hq : IsI xs ∧ SmB xs) : FnOk Try.prog tgl 27 [.list 1 xs] (.list 1 (is (srt (nums xs)))) := by
  refine fn_ok (Γ := B0) env_B0 Try.func27 low27 ?_
  obtain ⟨⟨l, rfl, hl⟩, hs⟩ := hq
  unfold SmB at hs
  rw [is_len] at hs
  rw [nums_is]
  conv => whnf
  repeat' (first
    | (refine brK_true rfl ?_; conv => whnf)
    | (refine brK_false rfl ?_; conv => whnf)
    | (refine brK_true (by assumption) ?_; conv => whnf)
    | (refine brK_false (by assumption) ?_; conv => whnf)
    | (refine brK_true ?_ ?_; (focus (simp only [List.length_nil, fx] <;> omega)); conv => whnf)
    | (refine brK_false ?_ ?_; (focus (simp only [List.length_nil, fx] <;> omega)); conv => whnf)
    | ((refine brK_of (fun h => ?_) (fun h => ?_)) <;> (have h2 := h; (try simp only [List.length_nil, fx] at h2); conv => whnf))
    | (refine reqK_of ?_ ?_; (focus (first | decide | omega | assumption | (simp only [List.length_nil, fx] <;> omega) | (simp [keyNew, sameKey, kEq] <;> omega))); conv => whnf)
    | (refine reqK_of ?_ ?_; rotate_left; (conv => whnf); rotate_left)
    | (refine nth_us ?_ ?_ ?_; (focus (first | omega | (simp only [List.length_nil, fx] <;> omega))); (focus (first | omega | (simp only [List.length_nil, fx] <;> omega))); conv => whnf)
    | (refine nth_is ?_ ?_ ?_; (focus (first | omega | (simp only [List.length_nil, fx] <;> omega))); (focus (first | omega | (simp only [List.length_nil, fx] <;> omega))); conv => whnf)
    | (refine nth_bs ?_ ?_ ?_; (focus (first | omega | (simp only [List.length_nil, fx] <;> omega))); (focus (first | omega | (simp only [List.length_nil, fx] <;> omega))); conv => whnf))
  refine loopFn [.adopt 3 1001 1] (fun s => [.kill 5, .kill 6, .kill 7, .kill 8, .kill 9, .kill 10, .kill 11, .kill 12, .kill 13, .kill 14, .kill 15, .kill 16, .kill 17, .kill 18, .kill 19, .kill 20, .kill 21, .kill 22, .kill 23, .kill 24, .kill 25, .kill 26, .kill 27, .kill 28, .kill 29, .kill 30, .kill 31, .kill 32, .kill 33, .kill 34, .kill 35, .kill 36, .kill 37, .kill 38, .kill 39, .kill 40, .kill 41, .kill 42, .keep [106], .set 106, .ren 106 1001]) (fun k : Nat => [(3, .sl 1001 0 none), (4, .t (.int .i64 (k : Int)))]) (fun k => [(1001, .lst 1 (is (srt (l.take k))) 1)]) (fun k => k ≤ l.length) (fun k => l.length - k) 0 (Nat.zero_le _) ?_
  conv => whnf
  refine ⟨⟨rfl, ?_⟩, fun k hk C hC => ?_⟩
  · rw [List.take_zero, srt_nil]; rfl
  have hw : IntKind.i64.wrap ((k : Int) + 1) = (k : Int) + 1 := wrap_i64 ⟨by omega, by omega⟩
  have hLl : (srt (l.take k)).length = k := by rw [srt_len, List.length_take]; omega
  have hLs := srt_sorted (l.take k)
  conv => whnf
  repeat' (first
    | (refine brK_true rfl ?_; conv => whnf)
    | (refine brK_false rfl ?_; conv => whnf)
    | (refine brK_true (by assumption) ?_; conv => whnf)
    | (refine brK_false (by assumption) ?_; conv => whnf)
    | (refine brK_true ?_ ?_; (focus (simp only [List.length_nil, fx] <;> omega)); conv => whnf)
    | (refine brK_false ?_ ?_; (focus (simp only [List.length_nil, fx] <;> omega)); conv => whnf)
    | ((refine brK_of (fun h => ?_) (fun h => ?_)) <;> (have h2 := h; (try simp only [List.length_nil, fx] at h2); conv => whnf))
    | (refine reqK_of ?_ ?_; (focus (first | decide | omega | assumption | (simp only [List.length_nil, fx] <;> omega) | (simp [keyNew, sameKey, kEq] <;> omega))); conv => whnf)
    | (refine reqK_of ?_ ?_; rotate_left; (conv => whnf); rotate_left)
    | (refine nth_us ?_ ?_ ?_; (focus (first | omega | (simp only [List.length_nil, fx] <;> omega))); (focus (first | omega | (simp only [List.length_nil, fx] <;> omega))); conv => whnf)
    | (refine nth_is ?_ ?_ ?_; (focus (first | omega | (simp only [List.length_nil, fx] <;> omega))); (focus (first | omega | (simp only [List.length_nil, fx] <;> omega))); conv => whnf)
    | (refine nth_bs ?_ ?_ ?_; (focus (first | omega | (simp only [List.length_nil, fx] <;> omega))); (focus (first | omega | (simp only [List.length_nil, fx] <;> omega))); conv => whnf))
  · have htk := srt_take (l := l) (k := k) (by omega)
    have hC1 := hC (k + 1) (by omega) (by omega)
    rw [htk] at hC1
    clear htk hC
    generalize srt (l.take k) = L at hC1 hLl hLs ⊢
    refine loopSet [] [.kill 12, .kill 13, .kill 14, .kill 15, .kill 16, .kill 17, .kill 18, .kill 19, .kill 20, .kill 21, .kill 22, .kill 23, .kill 24, .kill 25, .kill 26, .kill 27, .kill 28] (fun n : Nat => [(5, .t (.int .i64 (n : Int)))]) (fun _ => [(1001, .lst 1 (is L) 1)]) (fun n => n ≤ L.length ∧ ∀ j : Nat, j < n → at0 L j ≤ at0 l k) (fun n => L.length - n) 0 ⟨Nat.zero_le _, fun j h => by omega⟩ ?_
    conv => whnf
    refine ⟨⟨rfl, rfl⟩, fun n hn D hD => ?_⟩
    obtain ⟨hn1, hn2⟩ := hn
    have hwn : IntKind.i64.wrap ((n : Int) + 1) = (n : Int) + 1 := wrap_i64 ⟨by omega, by omega⟩
    have hsA : subL (is L) 0 (some (n : Int).toNat) = is (L.take n) := by simp [subL, is, List.map_take]
    have hsB : subL (is L) (Nat.add 0 (n : Int).toNat) none = is (L.drop n) := by
      rw [natadd0, Int.toNat_natCast]
      cases n with
      | zero => rfl
      | succ n => simp [subL, is, List.map_drop]
    conv => whnf
    repeat' (first
      | (refine brK_true rfl ?_; conv => whnf)
      | (refine brK_false rfl ?_; conv => whnf)
      | (refine brK_true (by assumption) ?_; conv => whnf)
      | (refine brK_false (by assumption) ?_; conv => whnf)
      | (refine brK_true ?_ ?_; (focus (simp only [List.length_nil, fx] <;> omega)); conv => whnf)
      | (refine brK_false ?_ ?_; (focus (simp only [List.length_nil, fx] <;> omega)); conv => whnf)
      | ((refine brK_of (fun h => ?_) (fun h => ?_)) <;> (have h2 := h; (try simp only [List.length_nil, fx] at h2); conv => whnf))
      | (refine reqK_of ?_ ?_; (focus (first | decide | omega | assumption | (simp only [List.length_nil, fx] <;> omega) | (simp [keyNew, sameKey, kEq] <;> omega))); conv => whnf)
      | (refine reqK_of ?_ ?_; rotate_left; (conv => whnf); rotate_left)
      | (refine nth_us ?_ ?_ ?_; (focus (first | omega | (simp only [List.length_nil, fx] <;> omega))); (focus (first | omega | (simp only [List.length_nil, fx] <;> omega))); conv => whnf)
      | (refine nth_is ?_ ?_ ?_; (focus (first | omega | (simp only [List.length_nil, fx] <;> omega))); (focus (first | omega | (simp only [List.length_nil, fx] <;> omega))); conv => whnf)
      | (refine nth_bs ?_ ?_ ?_; (focus (first | omega | (simp only [List.length_nil, fx] <;> omega))); (focus (first | omega | (simp only [List.length_nil, fx] <;> omega))); conv => whnf))
    · refine loopC (hD (n + 1) ⟨by omega, fun j hj => ?_⟩ (by omega)) ?_
      · rcases Nat.lt_succ_iff_lt_or_eq.1 hj with h | h
        · exact hn2 j h
        · subst h; assumption
      · rw [hwn, Int.natCast_succ]; rfl
    all_goals try simp only [hsA, hsB]
    all_goals first
      | (unfold maxBytes; simp only [is_len, List.length_append, List.length_take, List.length_drop, List.length_cons, List.length_nil]; omega)
      | skip
    · have hi := ins_srt hLs hn1 hn2 (.inr (by assumption))
      rw [← hi] at hC1
      refine loopC hC1 ?_
      rw [hw, Int.natCast_succ]
      simp only [is, List.map_append, List.append_assoc]
      rfl
    · have hi := ins_srt hLs hn1 hn2 (.inl (by omega))
      rw [← hi] at hC1
      refine loopC hC1 ?_
      rw [hw, Int.natCast_succ]
      simp only [is, List.map_append, List.append_assoc]
      rfl
  · have : l.take k = l := List.take_of_length_le (by omega)
    rw [subL_00, this]
open Classical in
noncomputable def c27 : List T → Ans
  | [.list 1 xs] => .req (IsI xs ∧ SmB xs) (.list 1 (is (srt (nums xs))))
  | _ => .no
theorem got27 {vs : List T} {x : T} (h : Got (c27 vs) x) : FnOk Try.prog tgl 27 vs x := by
  unfold c27 at h
  split at h
  · obtain ⟨hq, e⟩ := got_req h; rw [e]; exact ok27 _ hq
  · exact (got_no h).elim
theorem nogl27 (vs : List T) (p : Prop) (d : Decidable p) (sz : Nat) (xs : List T) (h : c27 vs = @Ans.gl p d sz xs) : False := by
  unfold c27 at h
  split at h <;> cases h
theorem pk27 (vs : List T) (p : Prop) (d : Decidable p) (x : T) (h : c27 vs = @Ans.pk p d x) (hp : p) : FnOk Try.prog tgl 27 vs x := by
  unfold c27 at h
  split at h
  · cases h
  · cases h
noncomputable def lVN : List (Nat × (List T → Ans)) := (27, c27) :: lB0
noncomputable def iVN : List (Nat × Pt) := iB0
noncomputable abbrev VN : Env := En tgl lVN iVN
theorem env_VN : EnvOk Try.prog VN := (env_fn env_B0 (fun _ _ => got27) (fun vs p d sz xs h _ => (nogl27 vs p d sz xs h).elim) pk27)
theorem ok31 (xs ys : List T) (hq : (IsI xs ∧ IsI ys) ∧ xs.length + ys.length ≤ 4194304) : FnOk Try.prog tgl 31 [.list 1 xs, .list 1 ys] (.list 1 (is (srt (nums xs ++ nums ys)))) := by
  refine fn_ok (Γ := VN) env_VN Try.func31 low31 ?_
  obtain ⟨⟨⟨l, rfl, hl⟩, r, rfl, hr⟩, hs⟩ := hq
  rw [is_len, is_len] at hs
  have q1 : IsI (is l ++ is r) ∧ SmB (is l ++ is r) := by
    rw [is_app]
    refine ⟨isI_is fun n hn => ?_, ?_⟩
    · rcases List.mem_append.1 hn with h | h
      · exact hl n h
      · exact hr n h
    · unfold SmB; rw [is_len, List.length_append]; omega
  conv => whnf
  repeat' (first
    | (refine brK_true rfl ?_; conv => whnf)
    | (refine brK_false rfl ?_; conv => whnf)
    | (refine brK_true (by assumption) ?_; conv => whnf)
    | (refine brK_false (by assumption) ?_; conv => whnf)
    | (refine brK_true ?_ ?_; (focus (simp only [List.length_nil, fx] <;> omega)); conv => whnf)
    | (refine brK_false ?_ ?_; (focus (simp only [List.length_nil, fx] <;> omega)); conv => whnf)
    | ((refine brK_of (fun h => ?_) (fun h => ?_)) <;> (have h2 := h; (try simp only [List.length_nil, fx] at h2); conv => whnf))
    | (refine reqK_of ?_ ?_; (focus (first | decide | omega | assumption | (simp only [List.length_nil, fx] <;> omega) | (simp [keyNew, sameKey, kEq] <;> omega))); conv => whnf)
    | (refine reqK_of ?_ ?_; rotate_left; (conv => whnf); rotate_left)
    | (refine nth_us ?_ ?_ ?_; (focus (first | omega | (simp only [List.length_nil, fx] <;> omega))); (focus (first | omega | (simp only [List.length_nil, fx] <;> omega))); conv => whnf)
    | (refine nth_is ?_ ?_ ?_; (focus (first | omega | (simp only [List.length_nil, fx] <;> omega))); (focus (first | omega | (simp only [List.length_nil, fx] <;> omega))); conv => whnf)
    | (refine nth_bs ?_ ?_ ?_; (focus (first | omega | (simp only [List.length_nil, fx] <;> omega))); (focus (first | omega | (simp only [List.length_nil, fx] <;> omega))); conv => whnf))
  all_goals first
    | (unfold maxBytes; simp only [subL_00, is_len, List.length_append]; omega)
    | (rw [subL_00, subL_00]; exact q1)
    | (simp only [subL_00]; rw [is_app, nums_is, nums_is, nums_is])
open Classical in
noncomputable def c31 : List T → Ans
  | [.list 1 xs, .list 1 ys] => .req ((IsI xs ∧ IsI ys) ∧ xs.length + ys.length ≤ 4194304) (.list 1 (is (srt (nums xs ++ nums ys))))
  | _ => .no
theorem got31 {vs : List T} {x : T} (h : Got (c31 vs) x) : FnOk Try.prog tgl 31 vs x := by
  unfold c31 at h
  split at h
  · obtain ⟨hq, e⟩ := got_req h; rw [e]; exact ok31 _ _ hq
  · exact (got_no h).elim
theorem nogl31 (vs : List T) (p : Prop) (d : Decidable p) (sz : Nat) (xs : List T) (h : c31 vs = @Ans.gl p d sz xs) : False := by
  unfold c31 at h
  split at h <;> cases h
theorem pk31 (vs : List T) (p : Prop) (d : Decidable p) (x : T) (h : c31 vs = @Ans.pk p d x) (hp : p) : FnOk Try.prog tgl 31 vs x := by
  unfold c31 at h
  split at h
  · cases h
  · cases h
theorem ok32 (xs ys : List T) (hq : (IsI xs ∧ SmB xs) ∧ (IsI ys ∧ SmB ys)) : FnOk Try.prog tgl 32 [.list 1 xs, .list 1 ys] (.bool (eqNs (srt (nums xs)) (srt (nums ys)))) := by
  refine fn_ok (Γ := VN) env_VN Try.func32 low32 ?_
  obtain ⟨⟨hx, sx⟩, hy, sy⟩ := hq
  have q1 : IsI xs ∧ SmB xs := ⟨hx, sx⟩
  have q2 : IsI ys ∧ SmB ys := ⟨hy, sy⟩
  obtain ⟨l, rfl, hl⟩ := hx
  obtain ⟨r, rfl, hr⟩ := hy
  have hsl : (srt l).length = l.length := srt_len l
  have hsr : (srt r).length = r.length := srt_len r
  unfold SmB at sx sy
  rw [is_len] at sx sy
  rw [nums_is, nums_is]
  conv => whnf
  repeat' (first
    | (refine brK_true rfl ?_; conv => whnf)
    | (refine brK_false rfl ?_; conv => whnf)
    | (refine brK_true (by assumption) ?_; conv => whnf)
    | (refine brK_false (by assumption) ?_; conv => whnf)
    | (refine brK_true ?_ ?_; (focus (simp only [List.length_nil, fx, nums_is] <;> omega)); conv => whnf)
    | (refine brK_false ?_ ?_; (focus (simp only [List.length_nil, fx, nums_is] <;> omega)); conv => whnf)
    | ((refine brK_of (fun h => ?_) (fun h => ?_)) <;> (have h2 := h; (try simp only [List.length_nil, fx, nums_is] at h2); conv => whnf))
    | (refine reqK_of ?_ ?_; (focus (first | decide | omega | assumption | (simp only [List.length_nil, fx, nums_is] <;> omega) | (simp [keyNew, sameKey, kEq] <;> omega))); conv => whnf)
    | (refine reqK_of ?_ ?_; rotate_left; (conv => whnf); rotate_left)
    | (refine nth_us ?_ ?_ ?_; (focus (first | omega | (simp only [List.length_nil, fx, nums_is] <;> omega))); (focus (first | omega | (simp only [List.length_nil, fx, nums_is] <;> omega))); conv => whnf)
    | (refine nth_is ?_ ?_ ?_; (focus (first | omega | (simp only [List.length_nil, fx, nums_is] <;> omega))); (focus (first | omega | (simp only [List.length_nil, fx, nums_is] <;> omega))); conv => whnf)
    | (refine nth_bs ?_ ?_ ?_; (focus (first | omega | (simp only [List.length_nil, fx, nums_is] <;> omega))); (focus (first | omega | (simp only [List.length_nil, fx, nums_is] <;> omega))); conv => whnf))
  · rw [nums_is] at *
    rw [nums_is] at *
    rw [show eqNs (srt l) (srt r) = false by unfold eqNs; rw [decide_eq_false_iff_not]; intro e; have := congrArg List.length e; omega]
  · refine loopSet [] [.kill 17, .kill 18, .kill 19, .kill 20, .kill 21, .kill 22, .kill 23, .kill 24, .kill 25, .kill 26, .kill 27, .kill 28, .kill 29, .kill 30, .kill 31] (fun k : Nat => [(7, .t (.int .i64 (k : Int)))]) (fun _ => []) (fun k => k ≤ (srt l).length ∧ (srt l).take k = (srt r).take k) (fun k => (srt l).length - k) 0 ⟨Nat.zero_le _, rfl⟩ ?_
    conv => whnf
    refine ⟨⟨rfl, rfl⟩, fun k hk C hC => ?_⟩
    obtain ⟨hk1, hk2⟩ := hk
    have hlr : (srt l).length = (srt r).length := by omega
    conv => whnf
    repeat' (first
      | (refine brK_true rfl ?_; conv => whnf)
      | (refine brK_false rfl ?_; conv => whnf)
      | (refine brK_true (by assumption) ?_; conv => whnf)
      | (refine brK_false (by assumption) ?_; conv => whnf)
      | (refine brK_true ?_ ?_; (focus (simp only [List.length_nil, fx, nums_is] <;> omega)); conv => whnf)
      | (refine brK_false ?_ ?_; (focus (simp only [List.length_nil, fx, nums_is] <;> omega)); conv => whnf)
      | ((refine brK_of (fun h => ?_) (fun h => ?_)) <;> (have h2 := h; (try simp only [List.length_nil, fx, nums_is] at h2); conv => whnf))
      | (refine reqK_of ?_ ?_; (focus (first | decide | omega | assumption | (simp only [List.length_nil, fx, nums_is] <;> omega) | (simp [keyNew, sameKey, kEq] <;> omega))); conv => whnf)
      | (refine reqK_of ?_ ?_; rotate_left; (conv => whnf); rotate_left)
      | (refine nth_us ?_ ?_ ?_; (focus (first | omega | (simp only [List.length_nil, fx, nums_is] <;> omega))); (focus (first | omega | (simp only [List.length_nil, fx, nums_is] <;> omega))); conv => whnf)
      | (refine nth_is ?_ ?_ ?_; (focus (first | omega | (simp only [List.length_nil, fx, nums_is] <;> omega))); (focus (first | omega | (simp only [List.length_nil, fx, nums_is] <;> omega))); conv => whnf)
      | (refine nth_bs ?_ ?_ ?_; (focus (first | omega | (simp only [List.length_nil, fx, nums_is] <;> omega))); (focus (first | omega | (simp only [List.length_nil, fx, nums_is] <;> omega))); conv => whnf))
    · rw [nums_is, nums_is] at *
      rw [eqNs_no (k := k) (by omega) (by omega) (by assumption)]
    · rw [nums_is, nums_is] at *
      refine loopC (hC (k + 1) ⟨by omega, take_nextB hk2 (by omega) (by omega) (by assumption)⟩ (by omega)) ?_
      have hw : IntKind.i64.wrap ((k : Int) + 1) = (k : Int) + 1 := wrap_i64 ⟨by omega, by omega⟩
      rw [hw]; rfl
    · have hk3 : k = (srt l).length := by omega
      subst hk3
      have : srt l = srt r := by rw [← List.take_length (l := srt l), hk2, hlr, List.take_length]
      rw [this, eqNs_self]
open Classical in
noncomputable def c32 : List T → Ans
  | [.list 1 xs, .list 1 ys] => .req ((IsI xs ∧ SmB xs) ∧ (IsI ys ∧ SmB ys)) (.bool (eqNs (srt (nums xs)) (srt (nums ys))))
  | _ => .no
theorem got32 {vs : List T} {x : T} (h : Got (c32 vs) x) : FnOk Try.prog tgl 32 vs x := by
  unfold c32 at h
  split at h
  · obtain ⟨hq, e⟩ := got_req h; rw [e]; exact ok32 _ _ hq
  · exact (got_no h).elim
theorem nogl32 (vs : List T) (p : Prop) (d : Decidable p) (sz : Nat) (xs : List T) (h : c32 vs = @Ans.gl p d sz xs) : False := by
  unfold c32 at h
  split at h <;> cases h
theorem pk32 (vs : List T) (p : Prop) (d : Decidable p) (x : T) (h : c32 vs = @Ans.pk p d x) (hp : p) : FnOk Try.prog tgl 32 vs x := by
  unfold c32 at h
  split at h
  · cases h
  · cases h
end Go.Nx
