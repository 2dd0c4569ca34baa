/-
  SETS: THE DOCUMENT's OWN, BUT ITS TEXTS.
-/
import Derived.Test.YtpmpkcjcjccboaaDoorSl
set_option linter.unusedVariables false
set_option linter.unusedSimpArgs false
set_option maxRecDepth 20000
set_option maxHeartbeats 4000000
namespace Go.Nx
open Go.RowKit Go.Proofs

noncomputable def lE5 : List (Nat × (List T → Ans)) := lE4
noncomputable def iE5 : List (Nat × Pt) := iE4
noncomputable abbrev E5 : Env := En tgl lE5 iE5
theorem env_E5 : EnvOk Tryd.prog E5 := env_E4
theorem is_snoc (a : List Int) (n : Int) : is a ++ [T.int .i64 n] = is (a ++ [n]) := by simp [is]
theorem ok28 (n : Int) : FnOk Tryd.prog tgl 28 [.int .i64 n] (.int .u64 (iv (first n))) := by
  refine fn_ok (Γ := E5) env_E5 Tryd.func28 low28 ?_
  conv => whnf
  refine loopUp [] [.kill 5, .kill 6, .kill 7, .kill 8, .kill 9, .kill 10, .kill 11, .kill 12, .kill 13, .kill 14, .kill 15, .kill 16] (fun k : Nat => [(3, .t (.int .u64 (iv (first k)))), (4, .t (.int .i64 ((k : Int) + 1)))]) (fun _ => []) (fun k => k ≤ 64 ∧ (k = 0 ∨ (k : Int) ≤ n)) (fun k => 64 - k) 0 ⟨Nat.zero_le _, .inl rfl⟩ ?_
  conv => whnf
  refine ⟨⟨by rw [show ((0 : Nat) : Int) = 0 from rfl, first_small 0 (by omega)]; rfl, rfl⟩, fun k hk C hC => ?_⟩
  obtain ⟨g1, g2⟩ := hk
  have hw : IntKind.i64.wrap ((k : Int) + 1 + 1) = (k : Int) + 1 + 1 := wrap_i64 ⟨by omega, by omega⟩
  have hR := R_iv (first (k : Int))
  conv => whnf
  repeat' (first
    | (refine brK_true rfl ?_; conv => whnf)
    | (refine brK_false rfl ?_; conv => whnf)
    | (refine brK_true (by assumption) ?_; conv => whnf)
    | (refine brK_false (by assumption) ?_; conv => whnf)
    | (refine brK_true ?_ ?_; (focus (simp only [List.length_nil, fx] <;> omega)); conv => whnf)
    | (refine brK_false ?_ ?_; (focus (simp only [List.length_nil, fx] <;> omega)); conv => whnf)
    | ((refine brK_of (fun h => ?_) (fun h => ?_)) <;> (have h2 := h; (try simp only [List.length_nil, fx] at h2); conv => whnf))
    | (refine reqK_of ?_ ?_; (focus (first | decide | omega | assumption | (simp only [List.length_nil, fx] <;> omega) | (simp [keyNew, sameKey, kEq] <;> omega))); conv => whnf)
    | (refine reqK_of ?_ ?_; rotate_left; (conv => whnf); rotate_left)
    | (refine nth_us ?_ ?_ ?_; (focus (first | omega | (simp only [List.length_nil, fx] <;> omega))); (focus (first | omega | (simp only [List.length_nil, fx] <;> omega))); conv => whnf)
    | (refine nth_is ?_ ?_ ?_; (focus (first | omega | (simp only [List.length_nil, fx] <;> omega))); (focus (first | omega | (simp only [List.length_nil, fx] <;> omega))); conv => whnf)
    | (refine nth_bs ?_ ?_ ?_; (focus (first | omega | (simp only [List.length_nil, fx] <;> omega))); (focus (first | omega | (simp only [List.length_nil, fx] <;> omega))); conv => whnf))
  · refine loopC (hC (k + 1) ⟨by omega, by omega⟩ (by omega)) ?_
    rw [hw, bv_iv]
    have := first_add ((k : Int) + 1) (by omega) (by omega)
    rw [show ((k : Int) + 1 - 1) = (k : Int) by omega] at this
    rw [this, Int.natCast_succ]
    rfl
  · rw [show (k : Int) = 64 by omega, ← first_big n (by omega)]
  · have e : first (k : Int) = first n := by
      rcases g2 with g2 | g2
      · subst g2; rw [first_small _ (by omega), first_small _ (by omega)]
      · rw [show (k : Int) = n by omega]
    rw [e]
open Classical in
noncomputable def c28 : List T → Ans
  | [.int .i64 n] => .yes (.int .u64 (iv (first n)))
  | _ => .no
theorem got28 {vs : List T} {x : T} (h : Got (c28 vs) x) : FnOk Tryd.prog tgl 28 vs x := by
  unfold c28 at h
  split at h
  · rw [got_yes h]; exact ok28 _
  · exact (got_no h).elim
theorem nogl28 (vs : List T) (p : Prop) (d : Decidable p) (sz : Nat) (xs : List T) (h : c28 vs = @Ans.gl p d sz xs) : False := by
  unfold c28 at h
  split at h <;> cases h
theorem pk28 (vs : List T) (p : Prop) (d : Decidable p) (x : T) (h : c28 vs = @Ans.pk p d x) (hp : p) : FnOk Tryd.prog tgl 28 vs x := by
  unfold c28 at h
  split at h
  · cases h
  · cases h
theorem ok24 (s : Int) (hq : R64 s) : FnOk Tryd.prog tgl 24 [.int .u64 s] (.list 1 (is (lsL (bv s)))) := by
  refine fn_ok (Γ := E5) env_E5 Tryd.func24 low24 ?_
  conv => whnf
  refine loopFn [.adopt 3 1001 1] (fun s => nzIf 79 s [.kill 5, .kill 6, .kill 7, .kill 8, .kill 9, .kill 10, .kill 11, .kill 12, .kill 13, .kill 14, .kill 15, .keep [79], .ren 79 1001] [.kill 5, .kill 6, .kill 7, .kill 8, .kill 9, .kill 10, .kill 11, .kill 12, .kill 13, .kill 14, .kill 15]) (fun k : Nat => [(3, .sl 1001 0 none), (4, .t (.int .i64 ((k : Int) + 1)))]) (fun k => [(1001, .lst 1 (is (lsN (bv s) k)) 1)]) (fun k => k ≤ 64) (fun k => 64 - k) 0 (Nat.zero_le _) ?_
  conv => whnf
  refine ⟨⟨rfl, rfl⟩, fun k hk C hC => ?_⟩
  have hw : IntKind.i64.wrap ((k : Int) + 1 + 1) = (k : Int) + 1 + 1 := wrap_i64 ⟨by omega, by omega⟩
  have hl := lsN_len (bv s) k
  conv => whnf
  repeat' (first
    | (refine brK_true rfl ?_; conv => whnf)
    | (refine brK_false rfl ?_; conv => whnf)
    | (refine brK_true (by assumption) ?_; conv => whnf)
    | (refine brK_false (by assumption) ?_; conv => whnf)
    | (refine brK_true ?_ ?_; (focus (simp only [List.length_nil, fx] <;> omega)); conv => whnf)
    | (refine brK_false ?_ ?_; (focus (simp only [List.length_nil, fx] <;> omega)); conv => whnf)
    | ((refine brK_of (fun h => ?_) (fun h => ?_)) <;> (have h2 := h; (try simp only [List.length_nil, fx] at h2); conv => whnf))
    | (refine reqK_of ?_ ?_; (focus (first | decide | omega | assumption | (simp only [List.length_nil, fx] <;> omega) | (simp [keyNew, sameKey, kEq] <;> omega))); conv => whnf)
    | (refine reqK_of ?_ ?_; rotate_left; (conv => whnf); rotate_left)
    | (refine nth_us ?_ ?_ ?_; (focus (first | omega | (simp only [List.length_nil, fx] <;> omega))); (focus (first | omega | (simp only [List.length_nil, fx] <;> omega))); conv => whnf)
    | (refine nth_is ?_ ?_ ?_; (focus (first | omega | (simp only [List.length_nil, fx] <;> omega))); (focus (first | omega | (simp only [List.length_nil, fx] <;> omega))); conv => whnf)
    | (refine nth_bs ?_ ?_ ?_; (focus (first | omega | (simp only [List.length_nil, fx] <;> omega))); (focus (first | omega | (simp only [List.length_nil, fx] <;> omega))); conv => whnf))
  · simp only [maxBytes, is_len, List.length_cons, List.length_nil]; omega
  · refine loopC (hC (k + 1) (by omega) (by omega)) ?_
    have h1 : has (bv s) ((k : Int) + 1) = true := by assumption
    rw [hw, subL_00, is_snoc, lsN, if_pos h1, Int.natCast_succ]
    rfl
  · refine loopC (hC (k + 1) (by omega) (by omega)) ?_
    have h1 : has (bv s) ((k : Int) + 1) = false := by assumption
    rw [hw, lsN, if_neg (by rw [h1]; decide), Int.natCast_succ]
    rfl
  · rw [show k = 64 by omega]; rfl
open Classical in
noncomputable def c24 : List T → Ans
  | [.int .u64 s] => .req (R64 s) (.list 1 (is (lsL (bv s))))
  | _ => .no
theorem got24 {vs : List T} {x : T} (h : Got (c24 vs) x) : FnOk Tryd.prog tgl 24 vs x := by
  unfold c24 at h
  split at h
  · obtain ⟨hq, e⟩ := got_req h; rw [e]; exact ok24 _ hq
  · exact (got_no h).elim
theorem nogl24 (vs : List T) (p : Prop) (d : Decidable p) (sz : Nat) (xs : List T) (h : c24 vs = @Ans.gl p d sz xs) : False := by
  unfold c24 at h
  split at h <;> cases h
theorem pk24 (vs : List T) (p : Prop) (d : Decidable p) (x : T) (h : c24 vs = @Ans.pk p d x) (hp : p) : FnOk Tryd.prog tgl 24 vs x := by
  unfold c24 at h
  split at h
  · cases h
  · cases h
theorem ok21 (xs : List T) (hq : IsI xs ∧ Sz xs) : FnOk Tryd.prog tgl 21 [.list 1 xs] (.int .u64 (iv (ofL (nums xs)))) := by
  refine fn_ok (Γ := E5) env_E5 Tryd.func21 low21 ?_
  obtain ⟨⟨l, rfl, hl⟩, hs⟩ := hq
  rw [nums_is]
  have hlen : l.length ≤ 140737488355328 := by unfold Sz maxBytes at hs; rw [is_len] at hs; omega
  conv => whnf
  refine loopUp [] [.kill 5, .kill 6, .kill 7, .kill 8, .kill 9, .kill 10, .kill 11, .kill 12, .kill 13, .kill 14, .kill 15, .kill 16] (fun k : Nat => [(3, .t (.int .u64 (iv (ofL (l.take k))))), (4, .t (.int .i64 (k : Int)))]) (fun _ => []) (fun k => k ≤ l.length) (fun k => l.length - k) 0 (Nat.zero_le _) ?_
  conv => whnf
  refine ⟨⟨rfl, rfl⟩, fun k hk C hC => ?_⟩
  have hw : IntKind.i64.wrap ((k : Int) + 1) = (k : Int) + 1 := wrap_i64 ⟨by omega, by omega⟩
  have hR := R_iv (ofL (l.take k))
  conv => whnf
  repeat' (first
    | (refine brK_true rfl ?_; conv => whnf)
    | (refine brK_false rfl ?_; conv => whnf)
    | (refine brK_true (by assumption) ?_; conv => whnf)
    | (refine brK_false (by assumption) ?_; conv => whnf)
    | (refine brK_true ?_ ?_; (focus (simp only [List.length_nil, fx] <;> omega)); conv => whnf)
    | (refine brK_false ?_ ?_; (focus (simp only [List.length_nil, fx] <;> omega)); conv => whnf)
    | ((refine brK_of (fun h => ?_) (fun h => ?_)) <;> (have h2 := h; (try simp only [List.length_nil, fx] at h2); conv => whnf))
    | (refine reqK_of ?_ ?_; (focus (first | decide | omega | assumption | (simp only [List.length_nil, fx] <;> omega) | (simp [keyNew, sameKey, kEq] <;> omega))); conv => whnf)
    | (refine reqK_of ?_ ?_; rotate_left; (conv => whnf); rotate_left)
    | (refine nth_us ?_ ?_ ?_; (focus (first | omega | (simp only [List.length_nil, fx] <;> omega))); (focus (first | omega | (simp only [List.length_nil, fx] <;> omega))); conv => whnf)
    | (refine nth_is ?_ ?_ ?_; (focus (first | omega | (simp only [List.length_nil, fx] <;> omega))); (focus (first | omega | (simp only [List.length_nil, fx] <;> omega))); conv => whnf)
    | (refine nth_bs ?_ ?_ ?_; (focus (first | omega | (simp only [List.length_nil, fx] <;> omega))); (focus (first | omega | (simp only [List.length_nil, fx] <;> omega))); conv => whnf))
  · refine loopC (hC (k + 1) (by omega) (by omega)) ?_
    rw [hw, bv_iv, ← ofL_take (by omega), Int.natCast_succ]
    rfl
  · rw [List.take_of_length_le (by omega)]
open Classical in
noncomputable def c21 : List T → Ans
  | [.list 1 xs] => .req (IsI xs ∧ Sz xs) (.int .u64 (iv (ofL (nums xs))))
  | _ => .no
theorem got21 {vs : List T} {x : T} (h : Got (c21 vs) x) : FnOk Tryd.prog tgl 21 vs x := by
  unfold c21 at h
  split at h
  · obtain ⟨hq, e⟩ := got_req h; rw [e]; exact ok21 _ hq
  · exact (got_no h).elim
theorem nogl21 (vs : List T) (p : Prop) (d : Decidable p) (sz : Nat) (xs : List T) (h : c21 vs = @Ans.gl p d sz xs) : False := by
  unfold c21 at h
  split at h <;> cases h
theorem pk21 (vs : List T) (p : Prop) (d : Decidable p) (x : T) (h : c21 vs = @Ans.pk p d x) (hp : p) : FnOk Tryd.prog tgl 21 vs x := by
  unfold c21 at h
  split at h
  · cases h
  · cases h
theorem del_sub {b : B} {o : Int} (h : has b o = true) : b - bit o = del b o := by
  have hr := has_range h
  have h0 : del b o &&& bit o = 0#64 := ext_has fun p h1 h2 => by
    rw [has_and, has_del, has_bit', show (0#64 : B) = 0 from rfl, has_zero]
    by_cases e : p = o
    · subst e; cases obj p <;> simp
    · simp [e]
  have e : del b o + bit o = b := by
    rw [BitVec.add_eq_or_of_and_eq_zero _ _ h0]
    show add (del b o) o = b
    rw [add_del]
    refine ext_has fun p h1 h2 => ?_
    rw [has_add]
    by_cases e2 : p = o
    · subst e2; simp [h]
    · simp [e2]
  calc b - bit o = (del b o + bit o) - bit o := by rw [e]
    _ = del b o := BitVec.add_sub_cancel _ _
theorem del_not {b : B} {o : Int} (h : has b o = false) : del b o = b := ext_has fun p h1 h2 => by
  rw [has_del]
  by_cases e : p = o
  · subst e; simp [h]
  · simp [e]
noncomputable def lE6 : List (Nat × (List T → Ans)) := (28, c28) :: (24, c24) :: (21, c21) :: lE5
noncomputable def iE6 : List (Nat × Pt) := iE5
noncomputable abbrev E6 : Env := En tgl lE6 iE6
theorem env_E6 : EnvOk Tryd.prog E6 := (env_fn (env_fn (env_fn env_E5 (fun _ _ => got21) (fun vs p d sz xs h _ => (nogl21 vs p d sz xs h).elim) pk21) (fun _ _ => got24) (fun vs p d sz xs h _ => (nogl24 vs p d sz xs h).elim) pk24) (fun _ _ => got28) (fun vs p d sz xs h _ => (nogl28 vs p d sz xs h).elim) pk28)
theorem ok17 (s o : Int) (hq : R64 s) : FnOk Tryd.prog tgl 17 [.int .u64 s, .int .i64 o] (.int .u64 (iv (del (bv s) o))) := by
  refine fn_ok (Γ := E6) env_E6 Tryd.func17 low17 ?_
  obtain ⟨b, rfl⟩ := exists_iv hq
  conv => whnf
  repeat' (first
    | (refine brK_true rfl ?_; conv => whnf)
    | (refine brK_false rfl ?_; conv => whnf)
    | (refine brK_true (by assumption) ?_; conv => whnf)
    | (refine brK_false (by assumption) ?_; conv => whnf)
    | (refine brK_true ?_ ?_; (focus (simp only [List.length_nil, fx] <;> omega)); conv => whnf)
    | (refine brK_false ?_ ?_; (focus (simp only [List.length_nil, fx] <;> omega)); conv => whnf)
    | ((refine brK_of (fun h => ?_) (fun h => ?_)) <;> (have h2 := h; (try simp only [List.length_nil, fx] at h2); conv => whnf))
    | (refine reqK_of ?_ ?_; (focus (first | decide | omega | assumption | (simp only [List.length_nil, fx] <;> omega) | (simp [keyNew, sameKey, kEq] <;> omega))); conv => whnf)
    | (refine reqK_of ?_ ?_; rotate_left; (conv => whnf); rotate_left)
    | (refine nth_us ?_ ?_ ?_; (focus (first | omega | (simp only [List.length_nil, fx] <;> omega))); (focus (first | omega | (simp only [List.length_nil, fx] <;> omega))); conv => whnf)
    | (refine nth_is ?_ ?_ ?_; (focus (first | omega | (simp only [List.length_nil, fx] <;> omega))); (focus (first | omega | (simp only [List.length_nil, fx] <;> omega))); conv => whnf)
    | (refine nth_bs ?_ ?_ ?_; (focus (first | omega | (simp only [List.length_nil, fx] <;> omega))); (focus (first | omega | (simp only [List.length_nil, fx] <;> omega))); conv => whnf))
  · rw [bv_iv] at h2 ⊢; rw [del_not h2]
  · rw [bv_iv] at h2
    have := has_range h2
    rw [wrap_i64 ⟨by omega, by omega⟩]; omega
  · rw [bv_iv] at h2 ⊢
    have := has_range h2
    rw [wrap_i64 ⟨by omega, by omega⟩, shlI_u _ _ ⟨by omega, by omega⟩, bv1, ← bit_in (obj_iff.2 this), wrap_iv, bv_sub, bv_iv, bv_iv, del_sub h2]
open Classical in
noncomputable def c17 : List T → Ans
  | [.int .u64 s, .int .i64 o] => .req (R64 s) (.int .u64 (iv (del (bv s) o)))
  | _ => .no
theorem got17 {vs : List T} {x : T} (h : Got (c17 vs) x) : FnOk Tryd.prog tgl 17 vs x := by
  unfold c17 at h
  split at h
  · obtain ⟨hq, e⟩ := got_req h; rw [e]; exact ok17 _ _ hq
  · exact (got_no h).elim
theorem nogl17 (vs : List T) (p : Prop) (d : Decidable p) (sz : Nat) (xs : List T) (h : c17 vs = @Ans.gl p d sz xs) : False := by
  unfold c17 at h
  split at h <;> cases h
theorem pk17 (vs : List T) (p : Prop) (d : Decidable p) (x : T) (h : c17 vs = @Ans.pk p d x) (hp : p) : FnOk Tryd.prog tgl 17 vs x := by
  unfold c17 at h
  split at h
  · cases h
  · cases h
theorem ok19 (s : Int) (hq : R64 s) : FnOk Tryd.prog tgl 19 [.int .u64 s] (.int .i64 ((lsL (bv s)).length : Int)) := by
  refine fn_ok (Γ := E6) env_E6 Tryd.func19 low19 ?_
  conv => whnf
  repeat' (first
    | (refine brK_true rfl ?_; conv => whnf)
    | (refine brK_false rfl ?_; conv => whnf)
    | (refine brK_true (by assumption) ?_; conv => whnf)
    | (refine brK_false (by assumption) ?_; conv => whnf)
    | (refine brK_true ?_ ?_; (focus (simp only [List.length_nil, fx] <;> omega)); conv => whnf)
    | (refine brK_false ?_ ?_; (focus (simp only [List.length_nil, fx] <;> omega)); conv => whnf)
    | ((refine brK_of (fun h => ?_) (fun h => ?_)) <;> (have h2 := h; (try simp only [List.length_nil, fx] at h2); conv => whnf))
    | (refine reqK_of ?_ ?_; (focus (first | decide | omega | assumption | (simp only [List.length_nil, fx] <;> omega) | (simp [keyNew, sameKey, kEq] <;> omega))); conv => whnf)
    | (refine reqK_of ?_ ?_; rotate_left; (conv => whnf); rotate_left)
    | (refine nth_us ?_ ?_ ?_; (focus (first | omega | (simp only [List.length_nil, fx] <;> omega))); (focus (first | omega | (simp only [List.length_nil, fx] <;> omega))); conv => whnf)
    | (refine nth_is ?_ ?_ ?_; (focus (first | omega | (simp only [List.length_nil, fx] <;> omega))); (focus (first | omega | (simp only [List.length_nil, fx] <;> omega))); conv => whnf)
    | (refine nth_bs ?_ ?_ ?_; (focus (first | omega | (simp only [List.length_nil, fx] <;> omega))); (focus (first | omega | (simp only [List.length_nil, fx] <;> omega))); conv => whnf))
  rw [is_len]
open Classical in
noncomputable def c19 : List T → Ans
  | [.int .u64 s] => .req (R64 s) (.int .i64 ((lsL (bv s)).length : Int))
  | _ => .no
theorem got19 {vs : List T} {x : T} (h : Got (c19 vs) x) : FnOk Tryd.prog tgl 19 vs x := by
  unfold c19 at h
  split at h
  · obtain ⟨hq, e⟩ := got_req h; rw [e]; exact ok19 _ hq
  · exact (got_no h).elim
theorem nogl19 (vs : List T) (p : Prop) (d : Decidable p) (sz : Nat) (xs : List T) (h : c19 vs = @Ans.gl p d sz xs) : False := by
  unfold c19 at h
  split at h <;> cases h
theorem pk19 (vs : List T) (p : Prop) (d : Decidable p) (x : T) (h : c19 vs = @Ans.pk p d x) (hp : p) : FnOk Tryd.prog tgl 19 vs x := by
  unfold c19 at h
  split at h
  · cases h
  · cases h
theorem ok26 (s t : Int) (hq : R64 s) : FnOk Tryd.prog tgl 26 [.int .u64 s, .int .u64 t] (.bool (under (bv s) (bv t))) := by
  refine fn_ok (Γ := E6) env_E6 Tryd.func26 low26 ?_
  obtain ⟨b, rfl⟩ := exists_iv hq
  conv => whnf
  repeat' (first
    | (refine brK_true rfl ?_; conv => whnf)
    | (refine brK_false rfl ?_; conv => whnf)
    | (refine brK_true (by assumption) ?_; conv => whnf)
    | (refine brK_false (by assumption) ?_; conv => whnf)
    | (refine brK_true ?_ ?_; (focus (simp only [List.length_nil, fx] <;> omega)); conv => whnf)
    | (refine brK_false ?_ ?_; (focus (simp only [List.length_nil, fx] <;> omega)); conv => whnf)
    | ((refine brK_of (fun h => ?_) (fun h => ?_)) <;> (have h2 := h; (try simp only [List.length_nil, fx] at h2); conv => whnf))
    | (refine reqK_of ?_ ?_; (focus (first | decide | omega | assumption | (simp only [List.length_nil, fx] <;> omega) | (simp [keyNew, sameKey, kEq] <;> omega))); conv => whnf)
    | (refine reqK_of ?_ ?_; rotate_left; (conv => whnf); rotate_left)
    | (refine nth_us ?_ ?_ ?_; (focus (first | omega | (simp only [List.length_nil, fx] <;> omega))); (focus (first | omega | (simp only [List.length_nil, fx] <;> omega))); conv => whnf)
    | (refine nth_is ?_ ?_ ?_; (focus (first | omega | (simp only [List.length_nil, fx] <;> omega))); (focus (first | omega | (simp only [List.length_nil, fx] <;> omega))); conv => whnf)
    | (refine nth_bs ?_ ?_ ?_; (focus (first | omega | (simp only [List.length_nil, fx] <;> omega))); (focus (first | omega | (simp only [List.length_nil, fx] <;> omega))); conv => whnf))
  rw [andI_u, eqI_iv, bv_iv]
  rfl
open Classical in
noncomputable def c26 : List T → Ans
  | [.int .u64 s, .int .u64 t] => .req (R64 s) (.bool (under (bv s) (bv t)))
  | _ => .no
theorem got26 {vs : List T} {x : T} (h : Got (c26 vs) x) : FnOk Tryd.prog tgl 26 vs x := by
  unfold c26 at h
  split at h
  · obtain ⟨hq, e⟩ := got_req h; rw [e]; exact ok26 _ _ hq
  · exact (got_no h).elim
theorem nogl26 (vs : List T) (p : Prop) (d : Decidable p) (sz : Nat) (xs : List T) (h : c26 vs = @Ans.gl p d sz xs) : False := by
  unfold c26 at h
  split at h <;> cases h
theorem pk26 (vs : List T) (p : Prop) (d : Decidable p) (x : T) (h : c26 vs = @Ans.pk p d x) (hp : p) : FnOk Tryd.prog tgl 26 vs x := by
  unfold c26 at h
  split at h
  · cases h
  · cases h
theorem ok22 (xs ys : List T) (hq : (IsI xs ∧ Sz xs) ∧ ys = xs) : FnOk Tryd.prog tgl 22 [.list 1 xs, .list 1 ys] (.bool true) := by
  refine fn_ok (Γ := E6) env_E6 Tryd.func22 low22 ?_
  obtain ⟨⟨⟨l, rfl, hl⟩, hs⟩, rfl⟩ := hq
  have hlen : l.length ≤ 140737488355328 := by unfold Sz maxBytes at hs; rw [is_len] at hs; omega
  conv => whnf
  repeat' (first
    | (refine brK_true rfl ?_; conv => whnf)
    | (refine brK_false rfl ?_; conv => whnf)
    | (refine brK_true (by assumption) ?_; conv => whnf)
    | (refine brK_false (by assumption) ?_; conv => whnf)
    | (refine brK_true ?_ ?_; (focus (simp only [List.length_nil, fx] <;> omega)); conv => whnf)
    | (refine brK_false ?_ ?_; (focus (simp only [List.length_nil, fx] <;> omega)); conv => whnf)
    | ((refine brK_of (fun h => ?_) (fun h => ?_)) <;> (have h2 := h; (try simp only [List.length_nil, fx] at h2); conv => whnf))
    | (refine reqK_of ?_ ?_; (focus (first | decide | omega | assumption | (simp only [List.length_nil, fx] <;> omega) | (simp [keyNew, sameKey, kEq] <;> omega))); conv => whnf)
    | (refine reqK_of ?_ ?_; rotate_left; (conv => whnf); rotate_left)
    | (refine nth_us ?_ ?_ ?_; (focus (first | omega | (simp only [List.length_nil, fx] <;> omega))); (focus (first | omega | (simp only [List.length_nil, fx] <;> omega))); conv => whnf)
    | (refine nth_is ?_ ?_ ?_; (focus (first | omega | (simp only [List.length_nil, fx] <;> omega))); (focus (first | omega | (simp only [List.length_nil, fx] <;> omega))); conv => whnf)
    | (refine nth_bs ?_ ?_ ?_; (focus (first | omega | (simp only [List.length_nil, fx] <;> omega))); (focus (first | omega | (simp only [List.length_nil, fx] <;> omega))); conv => whnf))
  refine loopUp [] [.kill 11, .kill 12, .kill 13, .kill 14, .kill 15, .kill 16, .kill 17, .kill 18, .kill 19, .kill 20, .kill 21, .kill 22, .kill 23, .kill 24, .kill 25] (fun k : Nat => [(5, .t (.int .i64 (k : Int)))]) (fun _ => []) (fun k => k ≤ l.length) (fun k => l.length - k) 0 (Nat.zero_le _) ?_
  conv => whnf
  refine ⟨⟨rfl, rfl⟩, fun k hk C hC => ?_⟩
  have hw : IntKind.i64.wrap ((k : Int) + 1) = (k : Int) + 1 := wrap_i64 ⟨by omega, by omega⟩
  conv => whnf
  repeat' (first
    | (refine brK_true rfl ?_; conv => whnf)
    | (refine brK_false rfl ?_; conv => whnf)
    | (refine brK_true (by assumption) ?_; conv => whnf)
    | (refine brK_false (by assumption) ?_; conv => whnf)
    | (refine brK_true ?_ ?_; (focus (simp only [List.length_nil, fx] <;> omega)); conv => whnf)
    | (refine brK_false ?_ ?_; (focus (simp only [List.length_nil, fx] <;> omega)); conv => whnf)
    | ((refine brK_of (fun h => ?_) (fun h => ?_)) <;> (have h2 := h; (try simp only [List.length_nil, fx] at h2); conv => whnf))
    | (refine reqK_of ?_ ?_; (focus (first | decide | omega | assumption | (simp only [List.length_nil, fx] <;> omega) | (simp [keyNew, sameKey, kEq] <;> omega))); conv => whnf)
    | (refine reqK_of ?_ ?_; rotate_left; (conv => whnf); rotate_left)
    | (refine nth_us ?_ ?_ ?_; (focus (first | omega | (simp only [List.length_nil, fx] <;> omega))); (focus (first | omega | (simp only [List.length_nil, fx] <;> omega))); conv => whnf)
    | (refine nth_is ?_ ?_ ?_; (focus (first | omega | (simp only [List.length_nil, fx] <;> omega))); (focus (first | omega | (simp only [List.length_nil, fx] <;> omega))); conv => whnf)
    | (refine nth_bs ?_ ?_ ?_; (focus (first | omega | (simp only [List.length_nil, fx] <;> omega))); (focus (first | omega | (simp only [List.length_nil, fx] <;> omega))); conv => whnf))
  · refine loopC (hC (k + 1) (by omega) (by omega)) ?_
    rw [hw, Int.natCast_succ]
    rfl
open Classical in
noncomputable def c22 : List T → Ans
  | [.list 1 xs, .list 1 ys] => .req ((IsI xs ∧ Sz xs) ∧ ys = xs) (.bool true)
  | _ => .no
theorem got22 {vs : List T} {x : T} (h : Got (c22 vs) x) : FnOk Tryd.prog tgl 22 vs x := by
  unfold c22 at h
  split at h
  · obtain ⟨hq, e⟩ := got_req h; rw [e]; exact ok22 _ _ hq
  · exact (got_no h).elim
theorem nogl22 (vs : List T) (p : Prop) (d : Decidable p) (sz : Nat) (xs : List T) (h : c22 vs = @Ans.gl p d sz xs) : False := by
  unfold c22 at h
  split at h <;> cases h
theorem pk22 (vs : List T) (p : Prop) (d : Decidable p) (x : T) (h : c22 vs = @Ans.pk p d x) (hp : p) : FnOk Tryd.prog tgl 22 vs x := by
  unfold c22 at h
  split at h
  · cases h
  · cases h
end Go.Nx
