/-
  THE DOCUMENT's BAGS: LESS, ONCE; BagTells.
-/
import Derived.Test.YtommbfigioeghaaBx
set_option linter.unusedVariables false
set_option linter.unusedSimpArgs false
set_option maxRecDepth 20000
set_option maxHeartbeats 8000000
namespace Go.Nx
open Go.RowKit Go.Proofs

/-! less, one by one -/
def lsF (a b : List Int) : Nat → List Int
  | 0 => srt a
  | k + 1 => addB (lsF a b k) (at0 b k) (-1)
theorem addB_m1_count (l : List Int) (o p : Int) : (addB l o (-1)).count p = l.count p - [o].count p := by
  rw [addB_count]
  by_cases h : p = o
  · subst h; simp
  · rw [if_neg h, cnt1_ne (fun e => h e.symm)]; simp
theorem addB_sorted (l : List Int) (o n : Int) : (addB l o n).Pairwise (· ≤ ·) := by unfold addB; split <;> exact srt_sorted _
theorem lsF_sorted (a b : List Int) : ∀ k, (lsF a b k).Pairwise (· ≤ ·)
  | 0 => srt_sorted a
  | k + 1 => addB_sorted _ _ _
theorem take_cnt {b : List Int} {k : Nat} (h : k < b.length) (o : Int) : (b.take (k + 1)).count o = (b.take k).count o + [at0 b k].count o := by
  have e : b.take (k + 1) = b.take k ++ [at0 b k] := by rw [List.take_add_one]; simp [at0, h]
  rw [e, List.count_append]
theorem lsF_cnt {a b : List Int} : ∀ k, k ≤ b.length → (∀ j, j < k → (lsF a b j).count (at0 b j) ≠ 0) → ∀ o, (lsF a b k).count o + (b.take k).count o = a.count o
  | 0, _, _, o => by simp [lsF, srt_count]
  | k + 1, h, hj, o => by
    have ih := lsF_cnt (a := a) (b := b) k (by omega) (fun j hj' => hj j (by omega))
    have h1 := ih o
    have h0 := hj k (by omega)
    rw [lsF, addB_m1_count, take_cnt (by omega)]
    by_cases e : at0 b k = o
    · rw [e] at h0 ⊢
      have : [o].count o = 1 := by simp
      omega
    · rw [cnt1_ne e]; omega
theorem cnt_take_le (b : List Int) (k : Nat) (o : Int) : (b.take k).count o ≤ b.count o := (List.take_sublist k b).count_le o
theorem lsF_ok {a b : List Int} (h : ∀ j, j < b.length → (lsF a b j).count (at0 b j) ≠ 0) : lessB a b = true ∧ lsF a b b.length = lessL a b := by
  have hc := lsF_cnt (a := a) (b := b) b.length (Nat.le_refl _) h
  rw [List.take_length] at hc
  have hB : lessB a b = true := by rw [lessB_iff]; intro o; have := hc o; omega
  refine ⟨hB, sorted_perm (lsF_sorted _ _ _) (less_sorted _ _) (perm_count.2 fun o => ?_)⟩
  have := hc o
  rw [(less_count a b o).1]; omega
theorem lsF_no {a b : List Int} {k : Nat} (hk : k < b.length) (h : ∀ j, j < k → (lsF a b j).count (at0 b j) ≠ 0) (h0 : (lsF a b k).count (at0 b k) = 0) : lessB a b = false := by
  have hc := lsF_cnt (a := a) (b := b) k (by omega) h (at0 b k)
  have h1 := cnt_take_le b (k + 1) (at0 b k)
  rw [take_cnt hk] at h1
  have h2 : [at0 b k].count (at0 b k) = 1 := by simp
  cases e : lessB a b with
  | false => rfl
  | true =>
    have := (lessB_iff a b).1 e (at0 b k)
    omega
theorem lsF_mem {a b : List Int} : ∀ k, ∀ x ∈ lsF a b k, x ∈ a
  | 0, x, hx => srt_mem.1 hx
  | k + 1, x, hx => by
    refine lsF_mem (a := a) (b := b) k x (List.count_pos_iff.1 ?_)
    have h1 := List.count_pos_iff.2 hx
    rw [lsF, addB_m1_count] at h1
    omega
theorem lsF_len (a b : List Int) : ∀ k, (lsF a b k).length ≤ a.length
  | 0 => by rw [lsF, srt_len]; exact Nat.le_refl _
  | k + 1 => by
    have := lsF_len a b k
    have h2 := delN_len (at0 b k) 1 (lsF a b k)
    have : (lsF a b (k + 1)).length = (delN (at0 b k) 1 (lsF a b k)).length := by
      rw [lsF]; unfold addB; rw [if_neg (by omega), srt_len]; rfl
    omega
noncomputable def lVM : List (Nat × (List T → Ans)) := (29, c29) :: (25, c25) :: lVN
noncomputable def iVM : List (Nat × Pt) := iVN
noncomputable abbrev VM : Env := En tgl lVM iVM
theorem env_VM : EnvOk Try.prog VM := (env_fn (env_fn env_VN (fun _ _ => got25) (fun vs p d sz xs h _ => (nogl25 vs p d sz xs h).elim) pk25) (fun _ _ => got29) (fun vs p d sz xs h _ => (nogl29 vs p d sz xs h).elim) pk29)
theorem ok20 (xs ys : List T) (hq : (IsI xs ∧ xs.length ≤ 1048576) ∧ (IsI ys ∧ ys.length ≤ 1048576)) : FnOk Try.prog tgl 20 [.list 1 xs, .list 1 ys] (.tup [.list 1 (is (lessI (nums xs) (nums ys))), .bool (lessB (nums xs) (nums ys))]) := by
  obtain ⟨⟨⟨a, rfl, ha⟩, sa⟩, ⟨b, rfl, hb⟩, sb⟩ := hq
  rw [is_len] at sa sb
  have q1 : IsI (is a) ∧ SmB (is a) := ⟨isI_is ha, by unfold SmB; rw [is_len]; omega⟩
  rw [nums_is, nums_is]
  refine fn_okR (Γ := VM) env_VM Try.func20 low20 ?_
  conv => whnf
  repeat' (first
    | (refine brK_true rfl ?_; conv => whnf)
    | (refine brK_false rfl ?_; conv => whnf)
    | (refine brK_true (by assumption) ?_; conv => whnf)
    | (refine brK_false (by assumption) ?_; conv => whnf)
    | (refine brK_true ?_ ?_; (focus (simp only [List.length_nil, fx] <;> omega)); conv => whnf)
    | (refine brK_false ?_ ?_; (focus (simp only [List.length_nil, fx] <;> omega)); conv => whnf)
    | ((refine brK_of (fun h => ?_) (fun h => ?_)) <;> (have h2 := h; (try simp only [List.length_nil, fx] at h2); conv => whnf))
    | (refine reqK_of ?_ ?_; (focus (first | decide | omega | assumption | (simp only [List.length_nil, fx] <;> omega) | (simp [keyNew, sameKey, kEq] <;> omega))); conv => whnf)
    | (refine reqK_of ?_ ?_; rotate_left; (conv => whnf); rotate_left)
    | (refine nth_us ?_ ?_ ?_; (focus (first | omega | (simp only [List.length_nil, fx] <;> omega))); (focus (first | omega | (simp only [List.length_nil, fx] <;> omega))); conv => whnf)
    | (refine nth_is ?_ ?_ ?_; (focus (first | omega | (simp only [List.length_nil, fx] <;> omega))); (focus (first | omega | (simp only [List.length_nil, fx] <;> omega))); conv => whnf)
    | (refine nth_bs ?_ ?_ ?_; (focus (first | omega | (simp only [List.length_nil, fx] <;> omega))); (focus (first | omega | (simp only [List.length_nil, fx] <;> omega))); conv => whnf))
  refine loopSet [] [.kill 10, .kill 11, .kill 12, .kill 13, .kill 14, .kill 15, .kill 16, .kill 17, .kill 18, .kill 19, .kill 20, .kill 21, .kill 22, .kill 23, .kill 24, .kill 25, .kill 26, .kill 27, .kill 28] (fun k : Nat => [(6, .t (.list 1 (is (lsF a b k)))), (7, .t (.int .i64 (k : Int)))]) (fun _ => []) (fun k => k ≤ b.length ∧ ∀ j, j < k → (lsF a b j).count (at0 b j) ≠ 0) (fun k => b.length - k) 0 ⟨Nat.zero_le _, fun j h => by omega⟩ ?_
  conv => whnf
  refine ⟨⟨?_, rfl⟩, fun k hk C hC => ?_⟩
  · rw [nums_is]; rfl
  obtain ⟨hk1, hk2⟩ := hk
  have hw : IntKind.i64.wrap ((k : Int) + 1) = (k : Int) + 1 := wrap_i64 ⟨by omega, by omega⟩
  have hfl := lsF_len a b k
  have hfI : ∀ n ∈ lsF a b k, I64 n := fun n hn => ha n (lsF_mem k n hn)
  have q2 : IsI (is (lsF a b k)) ∧ SzB (is (lsF a b k)) := ⟨isI_is hfI, sz_B (by omega)⟩
  have q3 : k < b.length → (IsI (is (lsF a b k)) ∧ (is (lsF a b k)).length ≤ 2097152) ∧ I64 (at0 b k) ∧ I64 (-1) := fun h9 => ⟨⟨isI_is hfI, by rw [is_len]; omega⟩, hb _ (at0_mem (by simp; omega)), by unfold I64; omega⟩
  have hnf : lsF a b (k + 1) = addB (nums (is (lsF a b k))) (at0 b k) (-1) := by rw [nums_is]; rfl
  conv => whnf
  repeat' (first
    | (refine brK_true rfl ?_; conv => whnf)
    | (refine brK_false rfl ?_; conv => whnf)
    | (refine brK_true (by assumption) ?_; conv => whnf)
    | (refine brK_false (by assumption) ?_; conv => whnf)
    | (refine brK_true ?_ ?_; (focus (simp only [List.length_nil, fx] <;> omega)); conv => whnf)
    | (refine brK_false ?_ ?_; (focus (simp only [List.length_nil, fx] <;> omega)); conv => whnf)
    | ((refine brK_of (fun h => ?_) (fun h => ?_)) <;> (have h2 := h; (try simp only [List.length_nil, fx] at h2); conv => whnf))
    | (refine reqK_of ?_ ?_; (focus (first | decide | omega | assumption | (simp only [List.length_nil, fx] <;> omega) | (simp [keyNew, sameKey, kEq] <;> omega))); conv => whnf)
    | (refine reqK_of ?_ ?_; rotate_left; (conv => whnf); rotate_left)
    | (refine nth_us ?_ ?_ ?_; (focus (first | omega | (simp only [List.length_nil, fx] <;> omega))); (focus (first | omega | (simp only [List.length_nil, fx] <;> omega))); conv => whnf)
    | (refine nth_is ?_ ?_ ?_; (focus (first | omega | (simp only [List.length_nil, fx] <;> omega))); (focus (first | omega | (simp only [List.length_nil, fx] <;> omega))); conv => whnf)
    | (refine nth_bs ?_ ?_ ?_; (focus (first | omega | (simp only [List.length_nil, fx] <;> omega))); (focus (first | omega | (simp only [List.length_nil, fx] <;> omega))); conv => whnf))
  all_goals first
    | exact q2
    | exact q3 (by omega)
    | skip
  · have h0 : (lsF a b k).count (at0 b k) = 0 := by
      have : ((nums (is (lsF a b k))).count (at0 b k) : Int) = 0 := by assumption
      rw [nums_is] at this; omega
    have hB := lsF_no (by omega) hk2 h0
    have hI : lessI a b = [] := by unfold lessI; rw [hB]; rfl
    rw [hI, hB]; exact more_tup2 1
  · refine loopC (hC (k + 1) ⟨by omega, fun j hj => ?_⟩ (by omega)) ?_
    · rcases Nat.lt_succ_iff_lt_or_eq.1 hj with h | h
      · exact hk2 j h
      · subst h
        have : ((nums (is (lsF a b j))).count (at0 b j) : Int) ≠ 0 := by assumption
        rw [nums_is] at this; omega
    · rw [hnf, hw, Int.natCast_succ]; rfl
  · have hkl : k = b.length := by omega
    subst hkl
    obtain ⟨hB, hL⟩ := lsF_ok hk2
    have hI : lessI a b = lessL a b := by unfold lessI; rw [hB]; rfl
    rw [hI, hB, hL]; exact fun _ _ _ h => h
open Classical in
noncomputable def c20 : List T → Ans
  | [.list 1 xs, .list 1 ys] => .req ((IsI xs ∧ xs.length ≤ 1048576) ∧ (IsI ys ∧ ys.length ≤ 1048576)) (.tup [.list 1 (is (lessI (nums xs) (nums ys))), .bool (lessB (nums xs) (nums ys))])
  | _ => .no
theorem got20 {vs : List T} {x : T} (h : Got (c20 vs) x) : FnOk Try.prog tgl 20 vs x := by
  unfold c20 at h
  split at h
  · obtain ⟨hq, e⟩ := got_req h; rw [e]; exact ok20 _ _ hq
  · exact (got_no h).elim
theorem nogl20 (vs : List T) (p : Prop) (d : Decidable p) (sz : Nat) (xs : List T) (h : c20 vs = @Ans.gl p d sz xs) : False := by
  unfold c20 at h
  split at h <;> cases h
theorem pk20 (vs : List T) (p : Prop) (d : Decidable p) (x : T) (h : c20 vs = @Ans.pk p d x) (hp : p) : FnOk Try.prog tgl 20 vs x := by
  unfold c20 at h
  split at h
  · cases h
  · cases h
theorem bitI_bit (o : Int) : bitI o = iv (bit o) := by
  unfold bitI
  by_cases h : 1 ≤ o ∧ o ≤ 64
  · rw [if_pos h, shlI_u _ _ ⟨by omega, by omega⟩, bit_in (obj_t h.1 h.2), bv1]
  · rw [if_neg h, bit_out (obj_f (by omega))]; rfl
theorem ofI_ofL (l : List Int) : ofI l = iv (ofL l) := by
  have key : ∀ (l : List Int) (b : B), l.foldl (fun s o => orI .u64 s (bitI o)) (iv b) = iv (l.foldl add b) := by
    intro l
    induction l with
    | nil => intro b; rfl
    | cons x l ih =>
      intro b
      rw [List.foldl_cons, List.foldl_cons, orI_u, bv_iv, bitI_bit, bv_iv]
      exact ih _
  exact key l 0
theorem pcI_J (s : Int) : pcI s = Pop.pcJ s := rfl
theorem onceI_eq (l : List Int) : onceI l = if (l.Nodup ∧ ∀ x ∈ l, obj x = true) then (iv (ofL l), true) else (0, false) := by
  unfold onceI
  rw [ofI_ofL, pcI_J, pc_ls]
  by_cases h : l.Nodup ∧ ∀ x ∈ l, obj x = true
  · rw [if_pos h, if_pos (by have := (once_iff l).2 h; omega)]
  · rw [if_neg h, if_neg (by intro e; exact h ((once_iff l).1 (by omega)))]
theorem ok80 (o : Int) : FnOk Try.prog tgl 80 [.int .i64 o] (.bool (obj o)) := by
  refine fn_ok (Γ := B0) env_B0 Try.func80 low80 ?_
  conv => whnf
  repeat' (first | (refine brK_true rfl ?_; conv => whnf) | (refine brK_false rfl ?_; conv => whnf) | (refine brK_true (by assumption) ?_; conv => whnf) | (refine brK_false (by assumption) ?_; conv => whnf) | (refine brK_of (fun h => ?_) (fun h => ?_) <;> conv => whnf) | (refine reqK_of ?_ ?_; (focus (first | decide | omega | assumption | (simp [keyNew, sameKey, kEq] <;> omega))); conv => whnf) | (refine reqK_of ?_ ?_; rotate_left; (conv => whnf); rotate_left))
  · rw [le_t] at h; simp [leI_def, obj, h]
  · rw [le_f] at h; rw [obj_f (.inl h)]
open Classical in
noncomputable def c80 : List T → Ans
  | [.int .i64 o] => .yes (.bool (obj o))
  | _ => .no
theorem got80 {vs : List T} {x : T} (h : Got (c80 vs) x) : FnOk Try.prog tgl 80 vs x := by
  unfold c80 at h
  split at h
  · rw [got_yes h]; exact ok80 _
  · exact (got_no h).elim
theorem nogl80 (vs : List T) (p : Prop) (d : Decidable p) (sz : Nat) (xs : List T) (h : c80 vs = @Ans.gl p d sz xs) : False := by
  unfold c80 at h
  split at h <;> cases h
theorem pk80 (vs : List T) (p : Prop) (d : Decidable p) (x : T) (h : c80 vs = @Ans.pk p d x) (hp : p) : FnOk Try.prog tgl 80 vs x := by
  unfold c80 at h
  split at h
  · cases h
  · cases h
noncomputable def lW1 : List (Nat × (List T → Ans)) := (80, c80) :: lB0
noncomputable def iW1 : List (Nat × Pt) := iB0
noncomputable abbrev W1 : Env := En tgl lW1 iW1
theorem env_W1 : EnvOk Try.prog W1 := (env_fn env_B0 (fun _ _ => got80) (fun vs p d sz xs h _ => (nogl80 vs p d sz xs h).elim) pk80)
theorem ok53 (s o : Int) (hq : R64 s) : FnOk Try.prog tgl 53 [.int .u64 s, .int .i64 o] (.bool (has (bv s) o)) := by
  refine fn_ok (Γ := W1) env_W1 Try.func53 low53 ?_
  obtain ⟨b, rfl⟩ := exists_iv hq
  by_cases ho : obj o = true
  · have h' := obj_iff.1 ho
    have hw : IntKind.i64.wrap (o - 1) = o - 1 := wrap_i64 ⟨by omega, by omega⟩
    conv => whnf
    repeat' (first
      | (refine brK_true rfl ?_; conv => whnf)
      | (refine brK_false rfl ?_; conv => whnf)
      | (refine brK_true (by assumption) ?_; conv => whnf)
      | (refine brK_false (by assumption) ?_; conv => whnf)
      | (refine brK_true ?_ ?_; (focus (simp only [List.length_nil, fx, hw] <;> omega)); conv => whnf)
      | (refine brK_false ?_ ?_; (focus (simp only [List.length_nil, fx, hw] <;> omega)); conv => whnf)
      | ((refine brK_of (fun h => ?_) (fun h => ?_)) <;> (have h2 := h; (try simp only [List.length_nil, fx, hw] at h2); conv => whnf))
      | (refine reqK_of ?_ ?_; (focus (first | decide | omega | assumption | (simp only [List.length_nil, fx, hw] <;> omega) | (simp [keyNew, sameKey, kEq] <;> omega))); conv => whnf)
      | (refine reqK_of ?_ ?_; rotate_left; (conv => whnf); rotate_left)
      | (refine nth_us ?_ ?_ ?_; (focus (first | omega | (simp only [List.length_nil, fx, hw] <;> omega))); (focus (first | omega | (simp only [List.length_nil, fx, hw] <;> omega))); conv => whnf)
      | (refine nth_is ?_ ?_ ?_; (focus (first | omega | (simp only [List.length_nil, fx, hw] <;> omega))); (focus (first | omega | (simp only [List.length_nil, fx, hw] <;> omega))); conv => whnf)
      | (refine nth_bs ?_ ?_ ?_; (focus (first | omega | (simp only [List.length_nil, fx, hw] <;> omega))); (focus (first | omega | (simp only [List.length_nil, fx, hw] <;> omega))); conv => whnf))
    all_goals first
      | (exfalso; omega)
      | (rw [hw, shrI_u _ _ ⟨by omega, by omega⟩, shr_bit _ _ (by omega), bv_iv]
         simp [has, ho])
      | (rw [hw]; omega)
      | skip
  · simp only [Bool.not_eq_true] at ho
    conv => whnf
    repeat' (first
      | (refine brK_true rfl ?_; conv => whnf)
      | (refine brK_false rfl ?_; conv => whnf)
      | (refine brK_true (by assumption) ?_; conv => whnf)
      | (refine brK_false (by assumption) ?_; conv => whnf)
      | (refine brK_true ?_ ?_; (focus (simp only [List.length_nil, fx] <;> omega)); conv => whnf)
      | (refine brK_false ?_ ?_; (focus (simp only [List.length_nil, fx] <;> omega)); conv => whnf)
      | ((refine brK_of (fun h => ?_) (fun h => ?_)) <;> (have h2 := h; (try simp only [List.length_nil, fx] at h2); conv => whnf))
      | (refine reqK_of ?_ ?_; (focus (first | decide | omega | assumption | (simp only [List.length_nil, fx] <;> omega) | (simp [keyNew, sameKey, kEq] <;> omega))); conv => whnf)
      | (refine reqK_of ?_ ?_; rotate_left; (conv => whnf); rotate_left)
      | (refine nth_us ?_ ?_ ?_; (focus (first | omega | (simp only [List.length_nil, fx] <;> omega))); (focus (first | omega | (simp only [List.length_nil, fx] <;> omega))); conv => whnf)
      | (refine nth_is ?_ ?_ ?_; (focus (first | omega | (simp only [List.length_nil, fx] <;> omega))); (focus (first | omega | (simp only [List.length_nil, fx] <;> omega))); conv => whnf)
      | (refine nth_bs ?_ ?_ ?_; (focus (first | omega | (simp only [List.length_nil, fx] <;> omega))); (focus (first | omega | (simp only [List.length_nil, fx] <;> omega))); conv => whnf))
    rw [has_obj ho]
open Classical in
noncomputable def c53 : List T → Ans
  | [.int .u64 s, .int .i64 o] => .req (R64 s) (.bool (has (bv s) o))
  | _ => .no
theorem got53 {vs : List T} {x : T} (h : Got (c53 vs) x) : FnOk Try.prog tgl 53 vs x := by
  unfold c53 at h
  split at h
  · obtain ⟨hq, e⟩ := got_req h; rw [e]; exact ok53 _ _ hq
  · exact (got_no h).elim
theorem nogl53 (vs : List T) (p : Prop) (d : Decidable p) (sz : Nat) (xs : List T) (h : c53 vs = @Ans.gl p d sz xs) : False := by
  unfold c53 at h
  split at h <;> cases h
theorem pk53 (vs : List T) (p : Prop) (d : Decidable p) (x : T) (h : c53 vs = @Ans.pk p d x) (hp : p) : FnOk Try.prog tgl 53 vs x := by
  unfold c53 at h
  split at h
  · cases h
  · cases h
theorem ok54 (s o : Int) (hq : R64 s) : FnOk Try.prog tgl 54 [.int .u64 s, .int .i64 o] (.int .u64 (iv (add (bv s) o))) := by
  refine fn_ok (Γ := W1) env_W1 Try.func54 low54 ?_
  conv => whnf
  repeat' (first | (refine brK_true rfl ?_; conv => whnf) | (refine brK_false rfl ?_; conv => whnf) | (refine brK_true (by assumption) ?_; conv => whnf) | (refine brK_false (by assumption) ?_; conv => whnf) | (refine brK_of (fun h => ?_) (fun h => ?_) <;> conv => whnf) | (refine reqK_of ?_ ?_; (focus (first | decide | omega | assumption | (simp [keyNew, sameKey, kEq] <;> omega))); conv => whnf) | (refine reqK_of ?_ ?_; rotate_left; (conv => whnf); rotate_left))
  · have h' : obj o = false := by simpa using h
    rw [add, bit_out h']; simp [iv_bv hq]
  · have h' : obj o = true := by simpa using h
    have h2 := of_decide_eq_true h'
    rw [wrap_i64 ⟨by omega, by omega⟩]; omega
  · have h' : obj o = true := by simpa using h
    have h2 := of_decide_eq_true h'
    rw [wrap_i64 ⟨by omega, by omega⟩, shlI_u _ _ ⟨by omega, by omega⟩, orI_u, add, bit_in h', bv1, bv_iv]
open Classical in
noncomputable def c54 : List T → Ans
  | [.int .u64 s, .int .i64 o] => .req (R64 s) (.int .u64 (iv (add (bv s) o)))
  | _ => .no
theorem got54 {vs : List T} {x : T} (h : Got (c54 vs) x) : FnOk Try.prog tgl 54 vs x := by
  unfold c54 at h
  split at h
  · obtain ⟨hq, e⟩ := got_req h; rw [e]; exact ok54 _ _ hq
  · exact (got_no h).elim
theorem nogl54 (vs : List T) (p : Prop) (d : Decidable p) (sz : Nat) (xs : List T) (h : c54 vs = @Ans.gl p d sz xs) : False := by
  unfold c54 at h
  split at h <;> cases h
theorem pk54 (vs : List T) (p : Prop) (d : Decidable p) (x : T) (h : c54 vs = @Ans.pk p d x) (hp : p) : FnOk Try.prog tgl 54 vs x := by
  unfold c54 at h
  split at h
  · cases h
  · cases h
noncomputable def lW2 : List (Nat × (List T → Ans)) := (53, c53) :: (54, c54) :: lW1
noncomputable def iW2 : List (Nat × Pt) := iW1
noncomputable abbrev W2 : Env := En tgl lW2 iW2
theorem env_W2 : EnvOk Try.prog W2 := (env_fn (env_fn env_W1 (fun _ _ => got54) (fun vs p d sz xs h _ => (nogl54 vs p d sz xs h).elim) pk54) (fun _ _ => got53) (fun vs p d sz xs h _ => (nogl53 vs p d sz xs h).elim) pk53)
def okB (l : List Int) (k : Nat) : Prop := (l.take k).Nodup ∧ ∀ x ∈ l.take k, obj x = true
theorem okB_next {l : List Int} {k : Nat} (hk : k < l.length) (h : okB l k) (ho : obj (at0 l k) = true) (hn : has (ofL (l.take k)) (at0 l k) = false) : okB l (k + 1) := by
  obtain ⟨h1, h2⟩ := h
  have e : l.take (k + 1) = l.take k ++ [at0 l k] := by rw [List.take_add_one]; simp [at0, hk]
  have hni : at0 l k ∉ l.take k := fun hm => by
    rw [has_ofL, ho] at hn
    simp [hm] at hn
  unfold okB
  rw [e]
  refine ⟨?_, fun x hx => ?_⟩
  · rw [List.nodup_append]
    refine ⟨h1, by simp, fun a ha b hb => ?_⟩
    simp at hb; subst hb
    intro e; subst e; exact hni ha
  · rcases List.mem_append.1 hx with h | h
    · exact h2 x h
    · simp at h; rw [h]; exact ho
theorem okB_no {l : List Int} {k : Nat} (hk : k < l.length) (h : obj (at0 l k) = false ∨ has (ofL (l.take k)) (at0 l k) = true) : ¬ (l.Nodup ∧ ∀ x ∈ l, obj x = true) := by
  rintro ⟨h1, h2⟩
  have hm : at0 l k ∈ l := at0_mem (by simp; omega)
  rcases h with h | h
  · rw [h2 _ hm] at h; cases h
  · rw [has_ofL] at h
    simp at h
    have e : l = l.take k ++ l.drop k := (List.take_append_drop k l).symm
    rw [e, List.nodup_append] at h1
    have hd : at0 l k ∈ l.drop k := by
      rw [List.drop_eq_getElem_cons hk]
      have : l[k] = at0 l k := by simp [at0, hk]
      rw [this]; simp
    exact h1.2.2 _ h.2 _ hd rfl
theorem ok22 (xs : List T) (hq : IsI xs ∧ SzB xs) : FnOk Try.prog tgl 22 [.list 1 xs] (.tup [.int .u64 (onceI (nums xs)).1, .bool (onceI (nums xs)).2]) := by
  refine fn_ok (Γ := W2) env_W2 Try.func22 low22 ?_
  obtain ⟨⟨l, rfl, hl⟩, hs⟩ := hq
  have hlen := sz_lenB hs
  rw [nums_is, onceI_eq]
  conv => whnf
  repeat' (first
    | (refine brK_true rfl ?_; conv => whnf)
    | (refine brK_false rfl ?_; conv => whnf)
    | (refine brK_true (by assumption) ?_; conv => whnf)
    | (refine brK_false (by assumption) ?_; conv => whnf)
    | (refine brK_true ?_ ?_; (focus (simp only [List.length_nil, fx] <;> omega)); conv => whnf)
    | (refine brK_false ?_ ?_; (focus (simp only [List.length_nil, fx] <;> omega)); conv => whnf)
    | ((refine brK_of (fun h => ?_) (fun h => ?_)) <;> (have h2 := h; (try simp only [List.length_nil, fx] at h2); conv => whnf))
    | (refine reqK_of ?_ ?_; (focus (first | decide | omega | assumption | (simp only [List.length_nil, fx] <;> omega) | (simp [keyNew, sameKey, kEq] <;> omega))); conv => whnf)
    | (refine reqK_of ?_ ?_; rotate_left; (conv => whnf); rotate_left)
    | (refine nth_us ?_ ?_ ?_; (focus (first | omega | (simp only [List.length_nil, fx] <;> omega))); (focus (first | omega | (simp only [List.length_nil, fx] <;> omega))); conv => whnf)
    | (refine nth_is ?_ ?_ ?_; (focus (first | omega | (simp only [List.length_nil, fx] <;> omega))); (focus (first | omega | (simp only [List.length_nil, fx] <;> omega))); conv => whnf)
    | (refine nth_bs ?_ ?_ ?_; (focus (first | omega | (simp only [List.length_nil, fx] <;> omega))); (focus (first | omega | (simp only [List.length_nil, fx] <;> omega))); conv => whnf))
  refine loopSet [] [.kill 6, .kill 7, .kill 8, .kill 9, .kill 10, .kill 11, .kill 12, .kill 13, .kill 14, .kill 15, .kill 16, .kill 17, .kill 18, .kill 19, .kill 20, .kill 21, .kill 22, .kill 23, .kill 24, .kill 25, .kill 26, .kill 27, .kill 28, .kill 29, .kill 30, .kill 31, .kill 32, .kill 33, .kill 34, .kill 35, .kill 36, .kill 37] (fun k : Nat => [(4, .t (.int .u64 (iv (ofL (l.take k))))), (5, .t (.int .i64 (k : Int)))]) (fun _ => []) (fun k => k ≤ l.length ∧ okB l k) (fun k => l.length - k) 0 ⟨Nat.zero_le _, by simp [okB]⟩ ?_
  conv => whnf
  refine ⟨⟨rfl, rfl⟩, fun k hk C hC => ?_⟩
  obtain ⟨hk1, hk2⟩ := hk
  have hw : IntKind.i64.wrap ((k : Int) + 1) = (k : Int) + 1 := wrap_i64 ⟨by omega, by omega⟩
  have hR := R_iv (ofL (l.take k))
  have hts : k < l.length → ofL (l.take (k + 1)) = add (bv (iv (ofL (l.take k)))) (at0 l k) := fun h => by
    have e : l.take (k + 1) = l.take k ++ [at0 l k] := by rw [List.take_add_one]; simp [at0, h]
    rw [e, ofL_snoc, bv_iv]
  conv => whnf
  repeat' (first
    | (refine brK_true rfl ?_; conv => whnf)
    | (refine brK_false rfl ?_; conv => whnf)
    | (refine brK_true (by assumption) ?_; conv => whnf)
    | (refine brK_false (by assumption) ?_; conv => whnf)
    | (refine brK_true ?_ ?_; (focus (simp only [List.length_nil, fx] <;> omega)); conv => whnf)
    | (refine brK_false ?_ ?_; (focus (simp only [List.length_nil, fx] <;> omega)); conv => whnf)
    | ((refine brK_of (fun h => ?_) (fun h => ?_)) <;> (have h2 := h; (try simp only [List.length_nil, fx] at h2); conv => whnf))
    | (refine reqK_of ?_ ?_; (focus (first | decide | omega | assumption | (simp only [List.length_nil, fx] <;> omega) | (simp [keyNew, sameKey, kEq] <;> omega))); conv => whnf)
    | (refine reqK_of ?_ ?_; rotate_left; (conv => whnf); rotate_left)
    | (refine nth_us ?_ ?_ ?_; (focus (first | omega | (simp only [List.length_nil, fx] <;> omega))); (focus (first | omega | (simp only [List.length_nil, fx] <;> omega))); conv => whnf)
    | (refine nth_is ?_ ?_ ?_; (focus (first | omega | (simp only [List.length_nil, fx] <;> omega))); (focus (first | omega | (simp only [List.length_nil, fx] <;> omega))); conv => whnf)
    | (refine nth_bs ?_ ?_ ?_; (focus (first | omega | (simp only [List.length_nil, fx] <;> omega))); (focus (first | omega | (simp only [List.length_nil, fx] <;> omega))); conv => whnf))
  · rw [if_neg (okB_no (k := k) (by omega) (.inl (obj_f (by omega))))]
  · rw [if_neg (okB_no (k := k) (by omega) (.inl (obj_f (by omega))))]
  · have hh : has (bv (iv (ofL (l.take k)))) (at0 l k) = true := by assumption
    rw [bv_iv] at hh
    rw [if_neg (okB_no (k := k) (by omega) (.inr hh))]
  · have hh : has (bv (iv (ofL (l.take k)))) (at0 l k) = false := by assumption
    rw [bv_iv] at hh
    refine loopC (hC (k + 1) ⟨by omega, okB_next (by omega) hk2 (obj_t (by omega) (by omega)) hh⟩ (by omega)) ?_
    rw [hts (by omega), hw, Int.natCast_succ]
    rfl
  · have e : l.take k = l := List.take_of_length_le (by omega)
    unfold okB at hk2
    rw [e] at hk2
    rw [if_pos hk2, e]
open Classical in
noncomputable def c22 : List T → Ans
  | [.list 1 xs] => .req (IsI xs ∧ SzB xs) (.tup [.int .u64 (onceI (nums xs)).1, .bool (onceI (nums xs)).2])
  | _ => .no
theorem got22 {vs : List T} {x : T} (h : Got (c22 vs) x) : FnOk Try.prog tgl 22 vs x := by
  unfold c22 at h
  split at h
  · obtain ⟨hq, e⟩ := got_req h; rw [e]; exact ok22 _ hq
  · exact (got_no h).elim
theorem nogl22 (vs : List T) (p : Prop) (d : Decidable p) (sz : Nat) (xs : List T) (h : c22 vs = @Ans.gl p d sz xs) : False := by
  unfold c22 at h
  split at h <;> cases h
theorem pk22 (vs : List T) (p : Prop) (d : Decidable p) (x : T) (h : c22 vs = @Ans.pk p d x) (hp : p) : FnOk Try.prog tgl 22 vs x := by
  unfold c22 at h
  split at h
  · cases h
  · cases h
theorem ok23 (xs ys : List T) (hq : (IsI xs ∧ SzB xs) ∧ IsI ys) : FnOk Try.prog tgl 23 [.list 1 xs, .list 1 ys] (.bool (eqNs (nums xs) (nums ys))) := by
  refine fn_ok (Γ := B0) env_B0 Try.func23 low23 ?_
  obtain ⟨⟨⟨l, rfl, hl⟩, hs⟩, r, rfl, hr⟩ := hq
  have hlen := sz_lenB hs
  rw [nums_is, nums_is]
  conv => whnf
  repeat' (first
    | (refine brK_true rfl ?_; conv => whnf)
    | (refine brK_false rfl ?_; conv => whnf)
    | (refine brK_true (by assumption) ?_; conv => whnf)
    | (refine brK_false (by assumption) ?_; conv => whnf)
    | (refine brK_true ?_ ?_; (focus (simp only [List.length_nil, fx] <;> omega)); conv => whnf)
    | (refine brK_false ?_ ?_; (focus (simp only [List.length_nil, fx] <;> omega)); conv => whnf)
    | ((refine brK_of (fun h => ?_) (fun h => ?_)) <;> (have h2 := h; (try simp only [List.length_nil, fx] at h2); conv => whnf))
    | (refine reqK_of ?_ ?_; (focus (first | decide | omega | assumption | (simp only [List.length_nil, fx] <;> omega) | (simp [keyNew, sameKey, kEq] <;> omega))); conv => whnf)
    | (refine reqK_of ?_ ?_; rotate_left; (conv => whnf); rotate_left)
    | (refine nth_us ?_ ?_ ?_; (focus (first | omega | (simp only [List.length_nil, fx] <;> omega))); (focus (first | omega | (simp only [List.length_nil, fx] <;> omega))); conv => whnf)
    | (refine nth_is ?_ ?_ ?_; (focus (first | omega | (simp only [List.length_nil, fx] <;> omega))); (focus (first | omega | (simp only [List.length_nil, fx] <;> omega))); conv => whnf)
    | (refine nth_bs ?_ ?_ ?_; (focus (first | omega | (simp only [List.length_nil, fx] <;> omega))); (focus (first | omega | (simp only [List.length_nil, fx] <;> omega))); conv => whnf))
  · rw [show eqNs l r = false by unfold eqNs; rw [decide_eq_false_iff_not]; intro e; subst e; exact h2 rfl]
  · have hlr : l.length = r.length := by omega
    refine loopSet [] [.kill 11, .kill 12, .kill 13, .kill 14, .kill 15, .kill 16, .kill 17, .kill 18, .kill 19, .kill 20, .kill 21, .kill 22, .kill 23, .kill 24, .kill 25] (fun k : Nat => [(5, .t (.int .i64 (k : Int)))]) (fun _ => []) (fun k => k ≤ l.length ∧ l.take k = r.take k) (fun k => l.length - k) 0 ⟨Nat.zero_le _, rfl⟩ ?_
    conv => whnf
    refine ⟨⟨rfl, rfl⟩, fun k hk C hC => ?_⟩
    obtain ⟨hk1, hk2⟩ := hk
    conv => whnf
    repeat' (first
      | (refine brK_true rfl ?_; conv => whnf)
      | (refine brK_false rfl ?_; conv => whnf)
      | (refine brK_true (by assumption) ?_; conv => whnf)
      | (refine brK_false (by assumption) ?_; conv => whnf)
      | (refine brK_true ?_ ?_; (focus (simp only [List.length_nil, fx] <;> omega)); conv => whnf)
      | (refine brK_false ?_ ?_; (focus (simp only [List.length_nil, fx] <;> omega)); conv => whnf)
      | ((refine brK_of (fun h => ?_) (fun h => ?_)) <;> (have h2 := h; (try simp only [List.length_nil, fx] at h2); conv => whnf))
      | (refine reqK_of ?_ ?_; (focus (first | decide | omega | assumption | (simp only [List.length_nil, fx] <;> omega) | (simp [keyNew, sameKey, kEq] <;> omega))); conv => whnf)
      | (refine reqK_of ?_ ?_; rotate_left; (conv => whnf); rotate_left)
      | (refine nth_us ?_ ?_ ?_; (focus (first | omega | (simp only [List.length_nil, fx] <;> omega))); (focus (first | omega | (simp only [List.length_nil, fx] <;> omega))); conv => whnf)
      | (refine nth_is ?_ ?_ ?_; (focus (first | omega | (simp only [List.length_nil, fx] <;> omega))); (focus (first | omega | (simp only [List.length_nil, fx] <;> omega))); conv => whnf)
      | (refine nth_bs ?_ ?_ ?_; (focus (first | omega | (simp only [List.length_nil, fx] <;> omega))); (focus (first | omega | (simp only [List.length_nil, fx] <;> omega))); conv => whnf))
    · rw [eqNs_no (k := k) (by omega) (by omega) (by assumption)]
    · refine loopC (hC (k + 1) ⟨by omega, take_nextB hk2 (by omega) (by omega) (by assumption)⟩ (by omega)) ?_
      have hw : IntKind.i64.wrap ((k : Int) + 1) = (k : Int) + 1 := wrap_i64 ⟨by omega, by omega⟩
      rw [hw]; rfl
    · have hk3 : k = l.length := by omega
      subst hk3
      have : l = r := by rw [← List.take_length (l := l), hk2, hlr, List.take_length]
      subst this
      rw [show eqNs l l = true by simp [eqNs]]
open Classical in
noncomputable def c23 : List T → Ans
  | [.list 1 xs, .list 1 ys] => .req ((IsI xs ∧ SzB xs) ∧ IsI ys) (.bool (eqNs (nums xs) (nums ys)))
  | _ => .no
theorem got23 {vs : List T} {x : T} (h : Got (c23 vs) x) : FnOk Try.prog tgl 23 vs x := by
  unfold c23 at h
  split at h
  · obtain ⟨hq, e⟩ := got_req h; rw [e]; exact ok23 _ _ hq
  · exact (got_no h).elim
theorem nogl23 (vs : List T) (p : Prop) (d : Decidable p) (sz : Nat) (xs : List T) (h : c23 vs = @Ans.gl p d sz xs) : False := by
  unfold c23 at h
  split at h <;> cases h
theorem pk23 (vs : List T) (p : Prop) (d : Decidable p) (x : T) (h : c23 vs = @Ans.pk p d x) (hp : p) : FnOk Try.prog tgl 23 vs x := by
  unfold c23 at h
  split at h
  · cases h
  · cases h
theorem lessI_I' {a b : List Int} (h : ∀ n ∈ a, I64 n) : ∀ n ∈ lessI a b, I64 n := fun n hn => by
  unfold lessI at hn
  split at hn
  · exact less_I h n hn
  · cases hn
theorem lessI_len' (a b : List Int) : (lessI a b).length ≤ a.length := by
  unfold lessI
  split
  · exact less_len_le a b
  · simp
noncomputable def lW3 : List (Nat × (List T → Ans)) := (21, c21) :: (20, c20) :: (22, c22) :: (25, c25) :: (27, c27) :: (29, c29) :: (31, c31) :: (32, c32) :: (23, c23) :: lLL
noncomputable def iW3 : List (Nat × Pt) := iLL
noncomputable abbrev W3 : Env := En tgl lW3 iW3
theorem env_W3 : EnvOk Try.prog W3 := (env_fn (env_fn (env_fn (env_fn (env_fn (env_fn (env_fn (env_fn (env_fn env_LL (fun _ _ => got23) (fun vs p d sz xs h _ => (nogl23 vs p d sz xs h).elim) pk23) (fun _ _ => got32) (fun vs p d sz xs h _ => (nogl32 vs p d sz xs h).elim) pk32) (fun _ _ => got31) (fun vs p d sz xs h _ => (nogl31 vs p d sz xs h).elim) pk31) (fun _ _ => got29) (fun vs p d sz xs h _ => (nogl29 vs p d sz xs h).elim) pk29) (fun _ _ => got27) (fun vs p d sz xs h _ => (nogl27 vs p d sz xs h).elim) pk27) (fun _ _ => got25) (fun vs p d sz xs h _ => (nogl25 vs p d sz xs h).elim) pk25) (fun _ _ => got22) (fun vs p d sz xs h _ => (nogl22 vs p d sz xs h).elim) pk22) (fun _ _ => got20) (fun vs p d sz xs h _ => (nogl20 vs p d sz xs h).elim) pk20) (fun _ _ => got21) (fun vs p d sz xs h _ => (nogl21 vs p d sz xs h).elim) pk21)
theorem ok4 (xs ys : List T) (o n : Int) (hq : ((IsI xs ∧ xs.length ≤ 1048576) ∧ (IsI ys ∧ ys.length ≤ 1048576)) ∧ I64 o ∧ I64 n) : FnOk Try.prog tgl 4 [.list 1 xs, .list 1 ys, .int .i64 o, .int .i64 n] (.bool true) := by
  refine fn_ok (Γ := W3) env_W3 Try.func4 low4 ?_
  obtain ⟨⟨⟨hx, sx⟩, hy, sy⟩, ho, hn⟩ := hq
  have q0 : (IsI xs ∧ xs.length ≤ 1048576) ∧ (IsI ys ∧ ys.length ≤ 1048576) := ⟨⟨hx, sx⟩, hy, sy⟩
  have r1 : IsI xs ∧ SzB xs := ⟨hx, by unfold SzB maxBytes; omega⟩
  have r2 : IsI ys ∧ SzB ys := ⟨hy, by unfold SzB maxBytes; omega⟩
  have r3 : (IsI xs ∧ SzB xs) ∧ (IsI ys ∧ SzB ys) := ⟨r1, r2⟩
  have r4 : IsI xs ∧ SmB xs := ⟨hx, by unfold SmB; omega⟩
  have r5 : IsI ys ∧ SmB ys := ⟨hy, by unfold SmB; omega⟩
  have r6 : (IsI xs ∧ SmB xs) ∧ (IsI ys ∧ SmB ys) := ⟨r4, r5⟩
  have r7 : (IsI xs ∧ IsI ys) ∧ (xs.length + ys.length) * 8 ≤ maxBytes := ⟨⟨hx, hy⟩, by unfold maxBytes; omega⟩
  have r8 : (IsI xs ∧ IsI ys) ∧ xs.length + ys.length ≤ 4194304 := ⟨⟨hx, hy⟩, by omega⟩
  have hmn : (minI n 1000).toNat ≤ 1000 := by rw [minI_def]; split <;> omega
  have r9 : (IsI xs ∧ (xs.length + (minI n 1000).toNat) * 8 ≤ maxBytes) ∧ I64 o ∧ I64 n := ⟨⟨hx, by unfold maxBytes; omega⟩, ho, hn⟩
  have r10 : (IsI xs ∧ xs.length ≤ 2097152) ∧ I64 o ∧ I64 n := ⟨⟨hx, by omega⟩, ho, hn⟩
  obtain ⟨l, rfl, hl⟩ := hx
  obtain ⟨r, rfl, hr⟩ := hy
  rw [is_len] at sx sy
  have hLI : IsI (is (lessI l r)) ∧ SzB (is (lessI l r)) := ⟨isI_is (lessI_I' hl), sz_B (by have := lessI_len' l r; omega)⟩
  have hAI : IsI (is (addB l o n)) ∧ SzB (is (addB l o n)) := by
    have hle : (addB l o n).length ≤ l.length + 1000 := by
      unfold addB
      split
      · rw [srt_len, List.length_append, List.length_replicate]; omega
      · rw [srt_len, delN_len]; omega
    refine ⟨isI_is fun x hx => ?_, sz_B (by omega)⟩
    unfold addB at hx
    split at hx
    · rcases List.mem_append.1 (srt_mem.1 hx) with h | h
      · exact hl x h
      · rw [List.eq_of_mem_replicate h]; exact ho
    · exact hl x (delN_sub _ _ _ x (srt_mem.1 hx))
  have hSI : IsI (is (srt l)) ∧ SzB (is (srt l)) := ⟨isI_srt hl, sz_B (by rw [srt_len]; omega)⟩
  have hS2 : IsI (is (srt (l ++ r))) ∧ SzB (is (srt (l ++ r))) := by
    refine ⟨isI_srt fun x hx => ?_, sz_B (by rw [srt_len, List.length_append]; omega)⟩
    rcases List.mem_append.1 hx with h | h
    · exact hl x h
    · exact hr x h
  have e1 : ∀ z : List Int, eqNs z z = true := eqNs_self
  conv => whnf
  repeat' (first
    | (refine brK_true rfl ?_; conv => whnf)
    | (refine brK_false rfl ?_; conv => whnf)
    | (refine brK_true (by assumption) ?_; conv => whnf)
    | (refine brK_false (by assumption) ?_; conv => whnf)
    | (refine brK_true ?_ ?_; (focus (simp only [List.length_nil, fx, nums_is, e1] <;> omega)); conv => whnf)
    | (refine brK_false ?_ ?_; (focus (simp only [List.length_nil, fx, nums_is, e1] <;> omega)); conv => whnf)
    | ((refine brK_of (fun h => ?_) (fun h => ?_)) <;> (have h2 := h; (try simp only [List.length_nil, fx, nums_is, e1] at h2); conv => whnf))
    | (refine reqK_of ?_ ?_; (focus (first | decide | omega | assumption | (simp only [List.length_nil, fx, nums_is, e1] <;> omega) | (simp [keyNew, sameKey, kEq] <;> omega))); conv => whnf)
    | (refine reqK_of ?_ ?_; rotate_left; (conv => whnf); rotate_left)
    | (refine nth_us ?_ ?_ ?_; (focus (first | omega | (simp only [List.length_nil, fx, nums_is, e1] <;> omega))); (focus (first | omega | (simp only [List.length_nil, fx, nums_is, e1] <;> omega))); conv => whnf)
    | (refine nth_is ?_ ?_ ?_; (focus (first | omega | (simp only [List.length_nil, fx, nums_is, e1] <;> omega))); (focus (first | omega | (simp only [List.length_nil, fx, nums_is, e1] <;> omega))); conv => whnf)
    | (refine nth_bs ?_ ?_ ?_; (focus (first | omega | (simp only [List.length_nil, fx, nums_is, e1] <;> omega))); (focus (first | omega | (simp only [List.length_nil, fx, nums_is, e1] <;> omega))); conv => whnf))
  all_goals (try simp only [nums_is])
  all_goals first
    | exact q0
    | exact ⟨hLI, hLI.1⟩
    | exact ⟨hAI, hAI.1⟩
    | exact ⟨hSI, hSI.1⟩
    | exact ⟨hS2, hS2.1⟩
    | exact r9
    | exact r10
    | exact r7
    | exact r8
    | (rw [eqB_def]; simp; done)
    | (exfalso; simp_all [eqB_def]; done)
    | trace_state
open Classical in
noncomputable def c4 : List T → Ans
  | [.list 1 xs, .list 1 ys, .int .i64 o, .int .i64 n] => .req (((IsI xs ∧ xs.length ≤ 1048576) ∧ (IsI ys ∧ ys.length ≤ 1048576)) ∧ I64 o ∧ I64 n) (.bool true)
  | _ => .no
theorem got4 {vs : List T} {x : T} (h : Got (c4 vs) x) : FnOk Try.prog tgl 4 vs x := by
  unfold c4 at h
  split at h
  · obtain ⟨hq, e⟩ := got_req h; rw [e]; exact ok4 _ _ _ _ hq
  · exact (got_no h).elim
theorem nogl4 (vs : List T) (p : Prop) (d : Decidable p) (sz : Nat) (xs : List T) (h : c4 vs = @Ans.gl p d sz xs) : False := by
  unfold c4 at h
  split at h <;> cases h
theorem pk4 (vs : List T) (p : Prop) (d : Decidable p) (x : T) (h : c4 vs = @Ans.pk p d x) (hp : p) : FnOk Try.prog tgl 4 vs x := by
  unfold c4 at h
  split at h
  · cases h
  · cases h
end Go.Nx
