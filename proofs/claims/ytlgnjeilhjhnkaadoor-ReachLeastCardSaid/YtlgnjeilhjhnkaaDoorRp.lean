/-
  HEAPS: what is got; what is right.
-/
import Derived.Test.YtlgnjeilhjhnkaaDoorRj
set_option linter.unusedVariables false
set_option linter.unusedSimpArgs false
set_option maxRecDepth 20000
set_option maxHeartbeats 4000000
namespace Go.Nx
open Go.RowKit Go.Proofs

def badV (n v : Int) : Bool := decide (v < 0) || decide (n < v)
def oddR (sl n : Int) (l : List Int) : Bool := decide ((l.length : Int) ≠ sl) || l.any (badV n)
def rightB (sl : Int) (L : List (List Int)) : Bool := decide (1 ≤ sl ∧ sl ≤ 4 ∧ L.length ≤ 64) && !L.any (oddR sl L.length)
theorem at0_get {l : List Int} {k : Nat} (h : k < l.length) : l[k]? = some (at0 l k) := by unfold at0; rw [Int.toNat_natCast, List.getElem?_eq_getElem h]; rfl
theorem any_take {α : Type} {l : List α} {p : α → Bool} {k : Nat} (h : (l.take k).any p = false) (x : α) (hx : l[k]? = some x) (hp : p x = false) : (l.take (k + 1)).any p = false := by
  rw [List.take_add_one, hx, List.any_append, h]; simp [hp]
theorem any_hit {α : Type} {l : List α} {p : α → Bool} {k : Nat} (x : α) (hx : l[k]? = some x) (hp : p x = true) : l.any p = true := List.any_eq_true.2 ⟨x, List.mem_of_getElem? hx, hp⟩
theorem ok21 (sl : Int) (xs : List T) (o k : Int) (hq : IsR xs) : FnOk Tryd.prog tgl 21 [.agg [.int .i64 sl, .list 1 xs], .int .i64 o, .int .i64 k] (.tup [.int .i64 (getV (rowsOf xs) o k), .bool (thereB (rowsOf xs) o k)]) := by
  refine fn_ok (Γ := E8) env_E8 Tryd.func21 low21 ?_
  have hq1 := hq
  obtain ⟨L, rfl, hL, hl⟩ := hq
  rw [rowsOf_rs]
  by_cases h1 : 1 ≤ o ∧ o ≤ L.length ∧ 0 ≤ k ∧ k < (row L o).length
  · have hw : IntKind.i64.wrap (o - 1) = o - 1 := wrap_i64 ⟨by omega, by omega⟩
    have ht : thereB L o k = true := decide_eq_true h1
    rw [getV, if_pos h1, ht]
    have e1 : o - 1 + 1 = o := by omega
    conv => whnf
    repeat' (first
      | (refine brK_true (by assumption) ?_; conv => whnf)
      | (refine brK_false (by assumption) ?_; conv => whnf)
      | (refine brK_true ?_ ?_; (focus (simp only [List.length_nil, not_t, not_f, lt_t, lt_f, le_t, le_f, eq_t, eq_f, us_len, is_len, bs_len, lenL_00, hw, rs_len, rowsOf_rs, ht, e1] <;> omega)); conv => whnf)
      | (refine brK_false ?_ ?_; (focus (simp only [List.length_nil, not_t, not_f, lt_t, lt_f, le_t, le_f, eq_t, eq_f, us_len, is_len, bs_len, lenL_00, hw, rs_len, rowsOf_rs, ht, e1] <;> omega)); conv => whnf)
      | ((refine brK_of (fun h => ?_) (fun h => ?_)) <;> (have h2 := h; (try simp only [List.length_nil, not_t, not_f, lt_t, lt_f, le_t, le_f, eq_t, eq_f, us_len, is_len, bs_len, lenL_00, hw, rs_len, rowsOf_rs, ht, e1] at h2); conv => whnf))
      | (refine reqK_of ?_ ?_; (focus (first | decide | omega | assumption | (simp only [List.length_nil, not_t, not_f, lt_t, lt_f, le_t, le_f, eq_t, eq_f, us_len, is_len, bs_len, lenL_00, hw, rs_len, rowsOf_rs, ht, e1] <;> omega) | (simp [keyNew, sameKey, kEq] <;> omega))); conv => whnf)
      | (refine reqK_of ?_ ?_; rotate_left; (conv => whnf); rotate_left)
      | (refine nth_rs ?_ ?_ ?_; (focus (first | omega | (simp only [List.length_nil, not_t, not_f, lt_t, lt_f, le_t, le_f, eq_t, eq_f, us_len, is_len, bs_len, lenL_00, hw, rs_len, rowsOf_rs, ht, e1] <;> omega))); (focus (first | omega | (simp only [List.length_nil, not_t, not_f, lt_t, lt_f, le_t, le_f, eq_t, eq_f, us_len, is_len, bs_len, lenL_00, hw, rs_len, rowsOf_rs, ht, e1] <;> omega))); conv => whnf)
      | (refine nth_us ?_ ?_ ?_; (focus (first | omega | (simp only [List.length_nil, not_t, not_f, lt_t, lt_f, le_t, le_f, eq_t, eq_f, us_len, is_len, bs_len, lenL_00, hw, rs_len, rowsOf_rs, ht, e1] <;> omega))); (focus (first | omega | (simp only [List.length_nil, not_t, not_f, lt_t, lt_f, le_t, le_f, eq_t, eq_f, us_len, is_len, bs_len, lenL_00, hw, rs_len, rowsOf_rs, ht, e1] <;> omega))); conv => whnf)
      | (refine nth_is ?_ ?_ ?_; (focus (first | omega | (simp only [List.length_nil, not_t, not_f, lt_t, lt_f, le_t, le_f, eq_t, eq_f, us_len, is_len, bs_len, lenL_00, hw, rs_len, rowsOf_rs, ht, e1] <;> omega))); (focus (first | omega | (simp only [List.length_nil, not_t, not_f, lt_t, lt_f, le_t, le_f, eq_t, eq_f, us_len, is_len, bs_len, lenL_00, hw, rs_len, rowsOf_rs, ht, e1] <;> omega))); conv => whnf)
      | (refine nth_bs ?_ ?_ ?_; (focus (first | omega | (simp only [List.length_nil, not_t, not_f, lt_t, lt_f, le_t, le_f, eq_t, eq_f, us_len, is_len, bs_len, lenL_00, hw, rs_len, rowsOf_rs, ht, e1] <;> omega))); (focus (first | omega | (simp only [List.length_nil, not_t, not_f, lt_t, lt_f, le_t, le_f, eq_t, eq_f, us_len, is_len, bs_len, lenL_00, hw, rs_len, rowsOf_rs, ht, e1] <;> omega))); conv => whnf))
    rw [hw, e1]
  · have ht : thereB L o k = false := decide_eq_false h1
    rw [getV, if_neg h1, ht]
    conv => whnf
    repeat' (first
      | (refine brK_true (by assumption) ?_; conv => whnf)
      | (refine brK_false (by assumption) ?_; conv => whnf)
      | (refine brK_true ?_ ?_; (focus (simp only [List.length_nil, not_t, not_f, lt_t, lt_f, le_t, le_f, eq_t, eq_f, us_len, is_len, bs_len, lenL_00, rs_len, rowsOf_rs, ht] <;> omega)); conv => whnf)
      | (refine brK_false ?_ ?_; (focus (simp only [List.length_nil, not_t, not_f, lt_t, lt_f, le_t, le_f, eq_t, eq_f, us_len, is_len, bs_len, lenL_00, rs_len, rowsOf_rs, ht] <;> omega)); conv => whnf)
      | ((refine brK_of (fun h => ?_) (fun h => ?_)) <;> (have h2 := h; (try simp only [List.length_nil, not_t, not_f, lt_t, lt_f, le_t, le_f, eq_t, eq_f, us_len, is_len, bs_len, lenL_00, rs_len, rowsOf_rs, ht] at h2); conv => whnf))
      | (refine reqK_of ?_ ?_; (focus (first | decide | omega | assumption | (simp only [List.length_nil, not_t, not_f, lt_t, lt_f, le_t, le_f, eq_t, eq_f, us_len, is_len, bs_len, lenL_00, rs_len, rowsOf_rs, ht] <;> omega) | (simp [keyNew, sameKey, kEq] <;> omega))); conv => whnf)
      | (refine reqK_of ?_ ?_; rotate_left; (conv => whnf); rotate_left)
      | (refine nth_us ?_ ?_ ?_; (focus (first | omega | (simp only [List.length_nil, not_t, not_f, lt_t, lt_f, le_t, le_f, eq_t, eq_f, us_len, is_len, bs_len, lenL_00, rs_len, rowsOf_rs, ht] <;> omega))); (focus (first | omega | (simp only [List.length_nil, not_t, not_f, lt_t, lt_f, le_t, le_f, eq_t, eq_f, us_len, is_len, bs_len, lenL_00, rs_len, rowsOf_rs, ht] <;> omega))); conv => whnf)
      | (refine nth_is ?_ ?_ ?_; (focus (first | omega | (simp only [List.length_nil, not_t, not_f, lt_t, lt_f, le_t, le_f, eq_t, eq_f, us_len, is_len, bs_len, lenL_00, rs_len, rowsOf_rs, ht] <;> omega))); (focus (first | omega | (simp only [List.length_nil, not_t, not_f, lt_t, lt_f, le_t, le_f, eq_t, eq_f, us_len, is_len, bs_len, lenL_00, rs_len, rowsOf_rs, ht] <;> omega))); conv => whnf)
      | (refine nth_bs ?_ ?_ ?_; (focus (first | omega | (simp only [List.length_nil, not_t, not_f, lt_t, lt_f, le_t, le_f, eq_t, eq_f, us_len, is_len, bs_len, lenL_00, rs_len, rowsOf_rs, ht] <;> omega))); (focus (first | omega | (simp only [List.length_nil, not_t, not_f, lt_t, lt_f, le_t, le_f, eq_t, eq_f, us_len, is_len, bs_len, lenL_00, rs_len, rowsOf_rs, ht] <;> omega))); conv => whnf))
open Classical in
noncomputable def c21 : List T → Ans
  | [.agg [.int .i64 sl, .list 1 xs], .int .i64 o, .int .i64 k] => .req (IsR xs) (.tup [.int .i64 (getV (rowsOf xs) o k), .bool (thereB (rowsOf xs) o k)])
  | _ => .no
theorem got21 {vs : List T} {x : T} (h : Got (c21 vs) x) : FnOk Tryd.prog tgl 21 vs x := by
  unfold c21 at h
  split at h
  · obtain ⟨hq, e⟩ := got_req h; rw [e]; exact ok21 _ _ _ _ hq
  · exact (got_no h).elim
theorem nogl21 (vs : List T) (p : Prop) (d : Decidable p) (sz : Nat) (xs : List T) (h : c21 vs = @Ans.gl p d sz xs) : False := by
  unfold c21 at h
  split at h <;> cases h
theorem pk21 (vs : List T) (p : Prop) (d : Decidable p) (x : T) (h : c21 vs = @Ans.pk p d x) (hp : p) : FnOk Tryd.prog tgl 21 vs x := by
  unfold c21 at h
  split at h
  · cases h
  · cases h
theorem ok33 (v sl : Int) (ys : List T) : FnOk Tryd.prog tgl 33 [.int .i64 v, .ref [.int .i64 sl, .list 1 ys]] (.bool (badV ys.length v)) := by
  refine fn_ok (Γ := E8) env_E8 Tryd.func33 low33 ?_
  conv => whnf
  repeat' (first
    | (refine brK_true (by assumption) ?_; conv => whnf)
    | (refine brK_false (by assumption) ?_; conv => whnf)
    | (refine brK_true ?_ ?_; (focus (simp only [List.length_nil, not_t, not_f, lt_t, lt_f, le_t, le_f, eq_t, eq_f, us_len, is_len, bs_len, lenL_00] <;> omega)); conv => whnf)
    | (refine brK_false ?_ ?_; (focus (simp only [List.length_nil, not_t, not_f, lt_t, lt_f, le_t, le_f, eq_t, eq_f, us_len, is_len, bs_len, lenL_00] <;> omega)); conv => whnf)
    | ((refine brK_of (fun h => ?_) (fun h => ?_)) <;> (have h2 := h; (try simp only [List.length_nil, not_t, not_f, lt_t, lt_f, le_t, le_f, eq_t, eq_f, us_len, is_len, bs_len, lenL_00] at h2); conv => whnf))
    | (refine reqK_of ?_ ?_; (focus (first | decide | omega | assumption | (simp only [List.length_nil, not_t, not_f, lt_t, lt_f, le_t, le_f, eq_t, eq_f, us_len, is_len, bs_len, lenL_00] <;> omega) | (simp [keyNew, sameKey, kEq] <;> omega))); conv => whnf)
    | (refine reqK_of ?_ ?_; rotate_left; (conv => whnf); rotate_left)
    | (refine nth_us ?_ ?_ ?_; (focus (first | omega | (simp only [List.length_nil, not_t, not_f, lt_t, lt_f, le_t, le_f, eq_t, eq_f, us_len, is_len, bs_len, lenL_00] <;> omega))); (focus (first | omega | (simp only [List.length_nil, not_t, not_f, lt_t, lt_f, le_t, le_f, eq_t, eq_f, us_len, is_len, bs_len, lenL_00] <;> omega))); conv => whnf)
    | (refine nth_is ?_ ?_ ?_; (focus (first | omega | (simp only [List.length_nil, not_t, not_f, lt_t, lt_f, le_t, le_f, eq_t, eq_f, us_len, is_len, bs_len, lenL_00] <;> omega))); (focus (first | omega | (simp only [List.length_nil, not_t, not_f, lt_t, lt_f, le_t, le_f, eq_t, eq_f, us_len, is_len, bs_len, lenL_00] <;> omega))); conv => whnf)
    | (refine nth_bs ?_ ?_ ?_; (focus (first | omega | (simp only [List.length_nil, not_t, not_f, lt_t, lt_f, le_t, le_f, eq_t, eq_f, us_len, is_len, bs_len, lenL_00] <;> omega))); (focus (first | omega | (simp only [List.length_nil, not_t, not_f, lt_t, lt_f, le_t, le_f, eq_t, eq_f, us_len, is_len, bs_len, lenL_00] <;> omega))); conv => whnf))
  · have h3 : ltI v 0 = true := by assumption
    unfold badV
    rw [decide_eq_true (lt_t.1 h3)]; rfl
  · have h3 : ltI v 0 = false := by assumption
    unfold badV
    rw [decide_eq_false (by have := lt_f.1 h3; omega), ltI_def]; rfl
open Classical in
noncomputable def c33 : List T → Ans
  | [.int .i64 v, .ref [.int .i64 sl, .list 1 ys]] => .yes (.bool (badV ys.length v))
  | _ => .no
theorem got33 {vs : List T} {x : T} (h : Got (c33 vs) x) : FnOk Tryd.prog tgl 33 vs x := by
  unfold c33 at h
  split at h
  · rw [got_yes h]; exact ok33 _ _ _
  · exact (got_no h).elim
theorem nogl33 (vs : List T) (p : Prop) (d : Decidable p) (sz : Nat) (xs : List T) (h : c33 vs = @Ans.gl p d sz xs) : False := by
  unfold c33 at h
  split at h <;> cases h
theorem pk33 (vs : List T) (p : Prop) (d : Decidable p) (x : T) (h : c33 vs = @Ans.pk p d x) (hp : p) : FnOk Tryd.prog tgl 33 vs x := by
  unfold c33 at h
  split at h
  · cases h
  · cases h
noncomputable def lF9 : List (Nat × (List T → Ans)) := (33, c33) :: lE8
noncomputable def iF9 : List (Nat × Pt) := iE8
noncomputable abbrev F9 : Env := En tgl lF9 iF9
theorem env_F9 : EnvOk Tryd.prog F9 := (env_fn env_E8 (fun _ _ => got33) (fun vs p d sz xs h _ => (nogl33 vs p d sz xs h).elim) pk33)
noncomputable def lE9 : List (Nat × (List T → Ans)) := lF9
noncomputable def iE9 : List (Nat × Pt) := (45, inl F9 m45) :: iF9
noncomputable abbrev E9 : Env := En tgl lE9 iE9
theorem env_E9 : EnvOk Tryd.prog E9 := (env_in env_F9 env_F9 Tryd.func45 low45)
theorem ok32 (xs : List T) (f : Nat) (sl : Int) (ys : List T) (hq : f = 33 ∧ IsI xs ∧ Sz xs) : FnOk Tryd.prog tgl 32 [.list 1 xs, .fn (.func f) [] [.ref [.int .i64 sl, .list 1 ys]]] (.bool ((nums xs).any (badV ys.length))) := by
  refine fn_ok (Γ := E9) env_E9 Tryd.func32 low32 ?_
  obtain ⟨rfl, ⟨l, rfl, hl⟩, hs⟩ := hq
  rw [nums_is]
  have hlen : l.length ≤ 140737488355328 := by unfold Sz maxBytes at hs; rw [is_len] at hs; omega
  conv => whnf
  repeat' (first
    | (refine brK_true (by assumption) ?_; conv => whnf)
    | (refine brK_false (by assumption) ?_; conv => whnf)
    | (refine brK_true ?_ ?_; (focus (simp only [List.length_nil, not_t, not_f, lt_t, lt_f, le_t, le_f, eq_t, eq_f, us_len, is_len, bs_len, lenL_00] <;> omega)); conv => whnf)
    | (refine brK_false ?_ ?_; (focus (simp only [List.length_nil, not_t, not_f, lt_t, lt_f, le_t, le_f, eq_t, eq_f, us_len, is_len, bs_len, lenL_00] <;> omega)); conv => whnf)
    | ((refine brK_of (fun h => ?_) (fun h => ?_)) <;> (have h2 := h; (try simp only [List.length_nil, not_t, not_f, lt_t, lt_f, le_t, le_f, eq_t, eq_f, us_len, is_len, bs_len, lenL_00] at h2); conv => whnf))
    | (refine reqK_of ?_ ?_; (focus (first | decide | omega | assumption | (simp only [List.length_nil, not_t, not_f, lt_t, lt_f, le_t, le_f, eq_t, eq_f, us_len, is_len, bs_len, lenL_00] <;> omega) | (simp [keyNew, sameKey, kEq] <;> omega))); conv => whnf)
    | (refine reqK_of ?_ ?_; rotate_left; (conv => whnf); rotate_left)
    | (refine nth_us ?_ ?_ ?_; (focus (first | omega | (simp only [List.length_nil, not_t, not_f, lt_t, lt_f, le_t, le_f, eq_t, eq_f, us_len, is_len, bs_len, lenL_00] <;> omega))); (focus (first | omega | (simp only [List.length_nil, not_t, not_f, lt_t, lt_f, le_t, le_f, eq_t, eq_f, us_len, is_len, bs_len, lenL_00] <;> omega))); conv => whnf)
    | (refine nth_is ?_ ?_ ?_; (focus (first | omega | (simp only [List.length_nil, not_t, not_f, lt_t, lt_f, le_t, le_f, eq_t, eq_f, us_len, is_len, bs_len, lenL_00] <;> omega))); (focus (first | omega | (simp only [List.length_nil, not_t, not_f, lt_t, lt_f, le_t, le_f, eq_t, eq_f, us_len, is_len, bs_len, lenL_00] <;> omega))); conv => whnf)
    | (refine nth_bs ?_ ?_ ?_; (focus (first | omega | (simp only [List.length_nil, not_t, not_f, lt_t, lt_f, le_t, le_f, eq_t, eq_f, us_len, is_len, bs_len, lenL_00] <;> omega))); (focus (first | omega | (simp only [List.length_nil, not_t, not_f, lt_t, lt_f, le_t, le_f, eq_t, eq_f, us_len, is_len, bs_len, lenL_00] <;> omega))); conv => whnf))
  refine loopUp [] [.kill 5, .kill 9, .kill 10, .kill 11, .kill 12, .kill 13, .kill 14, .kill 15, .kill 16, .kill 17, .kill 18] (fun k : Nat => [(8, .t (.int .i64 (k : Int)))]) (fun _ => []) (fun k => k ≤ l.length ∧ (l.take k).any (badV ys.length) = false) (fun k => l.length - k) 0 ⟨Nat.zero_le _, rfl⟩ ?_
  conv => whnf
  refine ⟨⟨rfl, rfl⟩, fun k hk C hC => ?_⟩
  obtain ⟨hk, ha⟩ := hk
  have hw : IntKind.i64.wrap ((k : Int) + 1) = (k : Int) + 1 := wrap_i64 ⟨by omega, by omega⟩
  conv => whnf
  repeat' (first
    | (refine brK_true (by assumption) ?_; conv => whnf)
    | (refine brK_false (by assumption) ?_; conv => whnf)
    | (refine brK_true ?_ ?_; (focus (simp only [List.length_nil, not_t, not_f, lt_t, lt_f, le_t, le_f, eq_t, eq_f, us_len, is_len, bs_len, lenL_00] <;> omega)); conv => whnf)
    | (refine brK_false ?_ ?_; (focus (simp only [List.length_nil, not_t, not_f, lt_t, lt_f, le_t, le_f, eq_t, eq_f, us_len, is_len, bs_len, lenL_00] <;> omega)); conv => whnf)
    | ((refine brK_of (fun h => ?_) (fun h => ?_)) <;> (have h2 := h; (try simp only [List.length_nil, not_t, not_f, lt_t, lt_f, le_t, le_f, eq_t, eq_f, us_len, is_len, bs_len, lenL_00] at h2); conv => whnf))
    | (refine reqK_of ?_ ?_; (focus (first | decide | omega | assumption | (simp only [List.length_nil, not_t, not_f, lt_t, lt_f, le_t, le_f, eq_t, eq_f, us_len, is_len, bs_len, lenL_00] <;> omega) | (simp [keyNew, sameKey, kEq] <;> omega))); conv => whnf)
    | (refine reqK_of ?_ ?_; rotate_left; (conv => whnf); rotate_left)
    | (refine nth_us ?_ ?_ ?_; (focus (first | omega | (simp only [List.length_nil, not_t, not_f, lt_t, lt_f, le_t, le_f, eq_t, eq_f, us_len, is_len, bs_len, lenL_00] <;> omega))); (focus (first | omega | (simp only [List.length_nil, not_t, not_f, lt_t, lt_f, le_t, le_f, eq_t, eq_f, us_len, is_len, bs_len, lenL_00] <;> omega))); conv => whnf)
    | (refine nth_is ?_ ?_ ?_; (focus (first | omega | (simp only [List.length_nil, not_t, not_f, lt_t, lt_f, le_t, le_f, eq_t, eq_f, us_len, is_len, bs_len, lenL_00] <;> omega))); (focus (first | omega | (simp only [List.length_nil, not_t, not_f, lt_t, lt_f, le_t, le_f, eq_t, eq_f, us_len, is_len, bs_len, lenL_00] <;> omega))); conv => whnf)
    | (refine nth_bs ?_ ?_ ?_; (focus (first | omega | (simp only [List.length_nil, not_t, not_f, lt_t, lt_f, le_t, le_f, eq_t, eq_f, us_len, is_len, bs_len, lenL_00] <;> omega))); (focus (first | omega | (simp only [List.length_nil, not_t, not_f, lt_t, lt_f, le_t, le_f, eq_t, eq_f, us_len, is_len, bs_len, lenL_00] <;> omega))); conv => whnf))
  · have h3 : badV ys.length (at0 l k) = true := by assumption
    have hx : l[k]? = some (at0 l k) := at0_get (by omega)
    rw [any_hit _ hx h3, leI_def]; simp
  · have h3 : badV ys.length (at0 l k) = false := by assumption
    have hx : l[k]? = some (at0 l k) := at0_get (by omega)
    refine loopC (hC (k + 1) ⟨by omega, any_take ha _ hx h3⟩ (by omega)) ?_
    rw [hw, Int.natCast_succ]
    rfl
  · rw [List.take_of_length_le (by omega)] at ha
    rw [ha, leI_def]; rfl
open Classical in
noncomputable def c32 : List T → Ans
  | [.list 1 xs, .fn (.func f) [] [.ref [.int .i64 sl, .list 1 ys]]] => .req (f = 33 ∧ IsI xs ∧ Sz xs) (.bool ((nums xs).any (badV ys.length)))
  | _ => .no
theorem got32 {vs : List T} {x : T} (h : Got (c32 vs) x) : FnOk Tryd.prog tgl 32 vs x := by
  unfold c32 at h
  split at h
  · obtain ⟨hq, e⟩ := got_req h; rw [e]; exact ok32 _ _ _ _ hq
  · exact (got_no h).elim
theorem nogl32 (vs : List T) (p : Prop) (d : Decidable p) (sz : Nat) (xs : List T) (h : c32 vs = @Ans.gl p d sz xs) : False := by
  unfold c32 at h
  split at h <;> cases h
theorem pk32 (vs : List T) (p : Prop) (d : Decidable p) (x : T) (h : c32 vs = @Ans.pk p d x) (hp : p) : FnOk Tryd.prog tgl 32 vs x := by
  unfold c32 at h
  split at h
  · cases h
  · cases h
noncomputable def lE10 : List (Nat × (List T → Ans)) := (32, c32) :: lE8
noncomputable def iE10 : List (Nat × Pt) := iE8
noncomputable abbrev E10 : Env := En tgl lE10 iE10
theorem env_E10 : EnvOk Tryd.prog E10 := (env_fn env_E8 (fun _ _ => got32) (fun vs p d sz xs h _ => (nogl32 vs p d sz xs h).elim) pk32)
theorem ok31 (xs : List T) (sl : Int) (ys : List T) (hq : IsI xs ∧ Sz xs) : FnOk Tryd.prog tgl 31 [.list 1 xs, .ref [.int .i64 sl, .list 1 ys]] (.bool (oddR sl ys.length (nums xs))) := by
  refine fn_ok (Γ := E10) env_E10 Tryd.func31 low31 ?_
  have hq1 := hq
  obtain ⟨⟨l, rfl, hl⟩, hs⟩ := hq
  rw [nums_is]
  conv => whnf
  repeat' (first
    | (refine brK_true (by assumption) ?_; conv => whnf)
    | (refine brK_false (by assumption) ?_; conv => whnf)
    | (refine brK_true ?_ ?_; (focus (simp only [List.length_nil, not_t, not_f, lt_t, lt_f, le_t, le_f, eq_t, eq_f, us_len, is_len, bs_len, lenL_00] <;> omega)); conv => whnf)
    | (refine brK_false ?_ ?_; (focus (simp only [List.length_nil, not_t, not_f, lt_t, lt_f, le_t, le_f, eq_t, eq_f, us_len, is_len, bs_len, lenL_00] <;> omega)); conv => whnf)
    | ((refine brK_of (fun h => ?_) (fun h => ?_)) <;> (have h2 := h; (try simp only [List.length_nil, not_t, not_f, lt_t, lt_f, le_t, le_f, eq_t, eq_f, us_len, is_len, bs_len, lenL_00] at h2); conv => whnf))
    | (refine reqK_of ?_ ?_; (focus (first | decide | omega | assumption | (simp only [List.length_nil, not_t, not_f, lt_t, lt_f, le_t, le_f, eq_t, eq_f, us_len, is_len, bs_len, lenL_00] <;> omega) | (simp [keyNew, sameKey, kEq] <;> omega))); conv => whnf)
    | (refine reqK_of ?_ ?_; rotate_left; (conv => whnf); rotate_left)
    | (refine nth_us ?_ ?_ ?_; (focus (first | omega | (simp only [List.length_nil, not_t, not_f, lt_t, lt_f, le_t, le_f, eq_t, eq_f, us_len, is_len, bs_len, lenL_00] <;> omega))); (focus (first | omega | (simp only [List.length_nil, not_t, not_f, lt_t, lt_f, le_t, le_f, eq_t, eq_f, us_len, is_len, bs_len, lenL_00] <;> omega))); conv => whnf)
    | (refine nth_is ?_ ?_ ?_; (focus (first | omega | (simp only [List.length_nil, not_t, not_f, lt_t, lt_f, le_t, le_f, eq_t, eq_f, us_len, is_len, bs_len, lenL_00] <;> omega))); (focus (first | omega | (simp only [List.length_nil, not_t, not_f, lt_t, lt_f, le_t, le_f, eq_t, eq_f, us_len, is_len, bs_len, lenL_00] <;> omega))); conv => whnf)
    | (refine nth_bs ?_ ?_ ?_; (focus (first | omega | (simp only [List.length_nil, not_t, not_f, lt_t, lt_f, le_t, le_f, eq_t, eq_f, us_len, is_len, bs_len, lenL_00] <;> omega))); (focus (first | omega | (simp only [List.length_nil, not_t, not_f, lt_t, lt_f, le_t, le_f, eq_t, eq_f, us_len, is_len, bs_len, lenL_00] <;> omega))); conv => whnf))
  · have h3 : (!eqI (((is l).length : Nat) : Int) sl) = true := by assumption
    rw [not_t, eq_f, is_len] at h3
    unfold oddR
    rw [decide_eq_true h3]; rfl
  · have h3 : (!eqI (((is l).length : Nat) : Int) sl) = false := by assumption
    rw [not_f, eq_t, is_len] at h3
    unfold oddR
    rw [decide_eq_false (by omega), nums_is]; rfl
open Classical in
noncomputable def c31 : List T → Ans
  | [.list 1 xs, .ref [.int .i64 sl, .list 1 ys]] => .req (IsI xs ∧ Sz xs) (.bool (oddR sl ys.length (nums xs)))
  | _ => .no
theorem got31 {vs : List T} {x : T} (h : Got (c31 vs) x) : FnOk Tryd.prog tgl 31 vs x := by
  unfold c31 at h
  split at h
  · obtain ⟨hq, e⟩ := got_req h; rw [e]; exact ok31 _ _ _ hq
  · exact (got_no h).elim
theorem nogl31 (vs : List T) (p : Prop) (d : Decidable p) (sz : Nat) (xs : List T) (h : c31 vs = @Ans.gl p d sz xs) : False := by
  unfold c31 at h
  split at h <;> cases h
theorem pk31 (vs : List T) (p : Prop) (d : Decidable p) (x : T) (h : c31 vs = @Ans.pk p d x) (hp : p) : FnOk Tryd.prog tgl 31 vs x := by
  unfold c31 at h
  split at h
  · cases h
  · cases h
noncomputable def lF11 : List (Nat × (List T → Ans)) := (31, c31) :: lE10
noncomputable def iF11 : List (Nat × Pt) := iE10
noncomputable abbrev F11 : Env := En tgl lF11 iF11
theorem env_F11 : EnvOk Tryd.prog F11 := (env_fn env_E10 (fun _ _ => got31) (fun vs p d sz xs h _ => (nogl31 vs p d sz xs h).elim) pk31)
noncomputable def lE11 : List (Nat × (List T → Ans)) := lF11
noncomputable def iE11 : List (Nat × Pt) := (46, inl F11 m46) :: iF11
noncomputable abbrev E11 : Env := En tgl lE11 iE11
theorem env_E11 : EnvOk Tryd.prog E11 := (env_in env_F11 env_F11 Tryd.func46 low46)
theorem ok34 (xs : List T) (f : Nat) (sl : Int) (ys : List T) (hq : f = 31 ∧ IsR xs) : FnOk Tryd.prog tgl 34 [.list 1 xs, .fn (.func f) [] [.ref [.int .i64 sl, .list 1 ys]]] (.bool ((rowsOf xs).any (oddR sl ys.length))) := by
  refine fn_ok (Γ := E11) env_E11 Tryd.func34 low34 ?_
  obtain ⟨rfl, L, rfl, hL, hl⟩ := hq
  rw [rowsOf_rs]
  conv => whnf
  repeat' (first
    | (refine brK_true (by assumption) ?_; conv => whnf)
    | (refine brK_false (by assumption) ?_; conv => whnf)
    | (refine brK_true ?_ ?_; (focus (simp only [List.length_nil, not_t, not_f, lt_t, lt_f, le_t, le_f, eq_t, eq_f, us_len, is_len, bs_len, lenL_00] <;> omega)); conv => whnf)
    | (refine brK_false ?_ ?_; (focus (simp only [List.length_nil, not_t, not_f, lt_t, lt_f, le_t, le_f, eq_t, eq_f, us_len, is_len, bs_len, lenL_00] <;> omega)); conv => whnf)
    | ((refine brK_of (fun h => ?_) (fun h => ?_)) <;> (have h2 := h; (try simp only [List.length_nil, not_t, not_f, lt_t, lt_f, le_t, le_f, eq_t, eq_f, us_len, is_len, bs_len, lenL_00] at h2); conv => whnf))
    | (refine reqK_of ?_ ?_; (focus (first | decide | omega | assumption | (simp only [List.length_nil, not_t, not_f, lt_t, lt_f, le_t, le_f, eq_t, eq_f, us_len, is_len, bs_len, lenL_00] <;> omega) | (simp [keyNew, sameKey, kEq] <;> omega))); conv => whnf)
    | (refine reqK_of ?_ ?_; rotate_left; (conv => whnf); rotate_left)
    | (refine nth_us ?_ ?_ ?_; (focus (first | omega | (simp only [List.length_nil, not_t, not_f, lt_t, lt_f, le_t, le_f, eq_t, eq_f, us_len, is_len, bs_len, lenL_00] <;> omega))); (focus (first | omega | (simp only [List.length_nil, not_t, not_f, lt_t, lt_f, le_t, le_f, eq_t, eq_f, us_len, is_len, bs_len, lenL_00] <;> omega))); conv => whnf)
    | (refine nth_is ?_ ?_ ?_; (focus (first | omega | (simp only [List.length_nil, not_t, not_f, lt_t, lt_f, le_t, le_f, eq_t, eq_f, us_len, is_len, bs_len, lenL_00] <;> omega))); (focus (first | omega | (simp only [List.length_nil, not_t, not_f, lt_t, lt_f, le_t, le_f, eq_t, eq_f, us_len, is_len, bs_len, lenL_00] <;> omega))); conv => whnf)
    | (refine nth_bs ?_ ?_ ?_; (focus (first | omega | (simp only [List.length_nil, not_t, not_f, lt_t, lt_f, le_t, le_f, eq_t, eq_f, us_len, is_len, bs_len, lenL_00] <;> omega))); (focus (first | omega | (simp only [List.length_nil, not_t, not_f, lt_t, lt_f, le_t, le_f, eq_t, eq_f, us_len, is_len, bs_len, lenL_00] <;> omega))); conv => whnf))
  refine loopUp [] [.kill 5, .kill 9, .kill 10, .kill 11, .kill 12, .kill 13, .kill 14, .kill 15, .kill 16, .kill 17, .kill 18] (fun k : Nat => [(8, .t (.int .i64 (k : Int)))]) (fun _ => []) (fun k => k ≤ L.length ∧ (L.take k).any (oddR sl ys.length) = false) (fun k => L.length - k) 0 ⟨Nat.zero_le _, rfl⟩ ?_
  conv => whnf
  refine ⟨⟨rfl, rfl⟩, fun k hk C hC => ?_⟩
  obtain ⟨hk, ha⟩ := hk
  by_cases hlt : k < L.length
  · have hw : IntKind.i64.wrap ((k : Int) + 1) = (k : Int) + 1 := wrap_i64 ⟨by omega, by omega⟩
    have hx : L[k]? = some (row L ((k : Int) + 1)) := by
      unfold row
      rw [show ((k : Int) + 1 - 1).toNat = k by omega]; simp [hlt]
    have hrow := hl _ (List.mem_of_getElem? hx)
    conv => whnf
    repeat' (first
      | (refine brK_true (by assumption) ?_; conv => whnf)
      | (refine brK_false (by assumption) ?_; conv => whnf)
      | (refine brK_true ?_ ?_; (focus (simp only [List.length_nil, not_t, not_f, lt_t, lt_f, le_t, le_f, eq_t, eq_f, us_len, is_len, bs_len, lenL_00, rs_len] <;> omega)); conv => whnf)
      | (refine brK_false ?_ ?_; (focus (simp only [List.length_nil, not_t, not_f, lt_t, lt_f, le_t, le_f, eq_t, eq_f, us_len, is_len, bs_len, lenL_00, rs_len] <;> omega)); conv => whnf)
      | ((refine brK_of (fun h => ?_) (fun h => ?_)) <;> (have h2 := h; (try simp only [List.length_nil, not_t, not_f, lt_t, lt_f, le_t, le_f, eq_t, eq_f, us_len, is_len, bs_len, lenL_00, rs_len] at h2); conv => whnf))
      | (refine reqK_of ?_ ?_; (focus (first | decide | omega | assumption | (simp only [List.length_nil, not_t, not_f, lt_t, lt_f, le_t, le_f, eq_t, eq_f, us_len, is_len, bs_len, lenL_00, rs_len] <;> omega) | (simp [keyNew, sameKey, kEq] <;> omega))); conv => whnf)
      | (refine reqK_of ?_ ?_; rotate_left; (conv => whnf); rotate_left)
      | (refine nth_rs ?_ ?_ ?_; (focus (first | omega | (simp only [List.length_nil, not_t, not_f, lt_t, lt_f, le_t, le_f, eq_t, eq_f, us_len, is_len, bs_len, lenL_00, rs_len] <;> omega))); (focus (first | omega | (simp only [List.length_nil, not_t, not_f, lt_t, lt_f, le_t, le_f, eq_t, eq_f, us_len, is_len, bs_len, lenL_00, rs_len] <;> omega))); conv => whnf)
      | (refine nth_us ?_ ?_ ?_; (focus (first | omega | (simp only [List.length_nil, not_t, not_f, lt_t, lt_f, le_t, le_f, eq_t, eq_f, us_len, is_len, bs_len, lenL_00, rs_len] <;> omega))); (focus (first | omega | (simp only [List.length_nil, not_t, not_f, lt_t, lt_f, le_t, le_f, eq_t, eq_f, us_len, is_len, bs_len, lenL_00, rs_len] <;> omega))); conv => whnf)
      | (refine nth_is ?_ ?_ ?_; (focus (first | omega | (simp only [List.length_nil, not_t, not_f, lt_t, lt_f, le_t, le_f, eq_t, eq_f, us_len, is_len, bs_len, lenL_00, rs_len] <;> omega))); (focus (first | omega | (simp only [List.length_nil, not_t, not_f, lt_t, lt_f, le_t, le_f, eq_t, eq_f, us_len, is_len, bs_len, lenL_00, rs_len] <;> omega))); conv => whnf)
      | (refine nth_bs ?_ ?_ ?_; (focus (first | omega | (simp only [List.length_nil, not_t, not_f, lt_t, lt_f, le_t, le_f, eq_t, eq_f, us_len, is_len, bs_len, lenL_00, rs_len] <;> omega))); (focus (first | omega | (simp only [List.length_nil, not_t, not_f, lt_t, lt_f, le_t, le_f, eq_t, eq_f, us_len, is_len, bs_len, lenL_00, rs_len] <;> omega))); conv => whnf))
    · have h3 : oddR sl ys.length (nums (is (row L ((k : Int) + 1)))) = true := by assumption
      rw [nums_is] at h3
      rw [any_hit _ hx h3, leI_def]; simp
    · have h3 : oddR sl ys.length (nums (is (row L ((k : Int) + 1)))) = false := by assumption
      rw [nums_is] at h3
      refine loopC (hC (k + 1) ⟨by omega, any_take ha _ hx h3⟩ (by omega)) ?_
      rw [hw, Int.natCast_succ]
      rfl
  · conv => whnf
    repeat' (first
      | (refine brK_true (by assumption) ?_; conv => whnf)
      | (refine brK_false (by assumption) ?_; conv => whnf)
      | (refine brK_true ?_ ?_; (focus (simp only [List.length_nil, not_t, not_f, lt_t, lt_f, le_t, le_f, eq_t, eq_f, us_len, is_len, bs_len, lenL_00, rs_len] <;> omega)); conv => whnf)
      | (refine brK_false ?_ ?_; (focus (simp only [List.length_nil, not_t, not_f, lt_t, lt_f, le_t, le_f, eq_t, eq_f, us_len, is_len, bs_len, lenL_00, rs_len] <;> omega)); conv => whnf)
      | ((refine brK_of (fun h => ?_) (fun h => ?_)) <;> (have h2 := h; (try simp only [List.length_nil, not_t, not_f, lt_t, lt_f, le_t, le_f, eq_t, eq_f, us_len, is_len, bs_len, lenL_00, rs_len] at h2); conv => whnf))
      | (refine reqK_of ?_ ?_; (focus (first | decide | omega | assumption | (simp only [List.length_nil, not_t, not_f, lt_t, lt_f, le_t, le_f, eq_t, eq_f, us_len, is_len, bs_len, lenL_00, rs_len] <;> omega) | (simp [keyNew, sameKey, kEq] <;> omega))); conv => whnf)
      | (refine reqK_of ?_ ?_; rotate_left; (conv => whnf); rotate_left)
      | (refine nth_us ?_ ?_ ?_; (focus (first | omega | (simp only [List.length_nil, not_t, not_f, lt_t, lt_f, le_t, le_f, eq_t, eq_f, us_len, is_len, bs_len, lenL_00, rs_len] <;> omega))); (focus (first | omega | (simp only [List.length_nil, not_t, not_f, lt_t, lt_f, le_t, le_f, eq_t, eq_f, us_len, is_len, bs_len, lenL_00, rs_len] <;> omega))); conv => whnf)
      | (refine nth_is ?_ ?_ ?_; (focus (first | omega | (simp only [List.length_nil, not_t, not_f, lt_t, lt_f, le_t, le_f, eq_t, eq_f, us_len, is_len, bs_len, lenL_00, rs_len] <;> omega))); (focus (first | omega | (simp only [List.length_nil, not_t, not_f, lt_t, lt_f, le_t, le_f, eq_t, eq_f, us_len, is_len, bs_len, lenL_00, rs_len] <;> omega))); conv => whnf)
      | (refine nth_bs ?_ ?_ ?_; (focus (first | omega | (simp only [List.length_nil, not_t, not_f, lt_t, lt_f, le_t, le_f, eq_t, eq_f, us_len, is_len, bs_len, lenL_00, rs_len] <;> omega))); (focus (first | omega | (simp only [List.length_nil, not_t, not_f, lt_t, lt_f, le_t, le_f, eq_t, eq_f, us_len, is_len, bs_len, lenL_00, rs_len] <;> omega))); conv => whnf))
    rw [List.take_of_length_le (by omega)] at ha
    rw [ha, leI_def]; rfl
open Classical in
noncomputable def c34 : List T → Ans
  | [.list 1 xs, .fn (.func f) [] [.ref [.int .i64 sl, .list 1 ys]]] => .req (f = 31 ∧ IsR xs) (.bool ((rowsOf xs).any (oddR sl ys.length)))
  | _ => .no
theorem got34 {vs : List T} {x : T} (h : Got (c34 vs) x) : FnOk Tryd.prog tgl 34 vs x := by
  unfold c34 at h
  split at h
  · obtain ⟨hq, e⟩ := got_req h; rw [e]; exact ok34 _ _ _ _ hq
  · exact (got_no h).elim
theorem nogl34 (vs : List T) (p : Prop) (d : Decidable p) (sz : Nat) (xs : List T) (h : c34 vs = @Ans.gl p d sz xs) : False := by
  unfold c34 at h
  split at h <;> cases h
theorem pk34 (vs : List T) (p : Prop) (d : Decidable p) (x : T) (h : c34 vs = @Ans.pk p d x) (hp : p) : FnOk Tryd.prog tgl 34 vs x := by
  unfold c34 at h
  split at h
  · cases h
  · cases h
noncomputable def lE12 : List (Nat × (List T → Ans)) := (34, c34) :: lE11
noncomputable def iE12 : List (Nat × Pt) := iE11
noncomputable abbrev E12 : Env := En tgl lE12 iE12
theorem env_E12 : EnvOk Tryd.prog E12 := (env_fn env_E11 (fun _ _ => got34) (fun vs p d sz xs h _ => (nogl34 vs p d sz xs h).elim) pk34)
theorem ok19 (sl : Int) (xs : List T) (hq : IsR xs) : FnOk Tryd.prog tgl 19 [.agg [.int .i64 sl, .list 1 xs]] (.bool (rightB sl (rowsOf xs))) := by
  refine fn_ok (Γ := E12) env_E12 Tryd.func19 low19 ?_
  have hq1 := hq
  obtain ⟨L, rfl, hL, hl⟩ := hq
  rw [rowsOf_rs]
  unfold rightB
  conv => whnf
  repeat' (first
    | (refine brK_true (by assumption) ?_; conv => whnf)
    | (refine brK_false (by assumption) ?_; conv => whnf)
    | (refine brK_true ?_ ?_; (focus (simp only [List.length_nil, not_t, not_f, lt_t, lt_f, le_t, le_f, eq_t, eq_f, us_len, is_len, bs_len, lenL_00, rs_len] <;> omega)); conv => whnf)
    | (refine brK_false ?_ ?_; (focus (simp only [List.length_nil, not_t, not_f, lt_t, lt_f, le_t, le_f, eq_t, eq_f, us_len, is_len, bs_len, lenL_00, rs_len] <;> omega)); conv => whnf)
    | ((refine brK_of (fun h => ?_) (fun h => ?_)) <;> (have h2 := h; (try simp only [List.length_nil, not_t, not_f, lt_t, lt_f, le_t, le_f, eq_t, eq_f, us_len, is_len, bs_len, lenL_00, rs_len] at h2); conv => whnf))
    | (refine reqK_of ?_ ?_; (focus (first | decide | omega | assumption | (simp only [List.length_nil, not_t, not_f, lt_t, lt_f, le_t, le_f, eq_t, eq_f, us_len, is_len, bs_len, lenL_00, rs_len] <;> omega) | (simp [keyNew, sameKey, kEq] <;> omega))); conv => whnf)
    | (refine reqK_of ?_ ?_; rotate_left; (conv => whnf); rotate_left)
    | (refine nth_us ?_ ?_ ?_; (focus (first | omega | (simp only [List.length_nil, not_t, not_f, lt_t, lt_f, le_t, le_f, eq_t, eq_f, us_len, is_len, bs_len, lenL_00, rs_len] <;> omega))); (focus (first | omega | (simp only [List.length_nil, not_t, not_f, lt_t, lt_f, le_t, le_f, eq_t, eq_f, us_len, is_len, bs_len, lenL_00, rs_len] <;> omega))); conv => whnf)
    | (refine nth_is ?_ ?_ ?_; (focus (first | omega | (simp only [List.length_nil, not_t, not_f, lt_t, lt_f, le_t, le_f, eq_t, eq_f, us_len, is_len, bs_len, lenL_00, rs_len] <;> omega))); (focus (first | omega | (simp only [List.length_nil, not_t, not_f, lt_t, lt_f, le_t, le_f, eq_t, eq_f, us_len, is_len, bs_len, lenL_00, rs_len] <;> omega))); conv => whnf)
    | (refine nth_bs ?_ ?_ ?_; (focus (first | omega | (simp only [List.length_nil, not_t, not_f, lt_t, lt_f, le_t, le_f, eq_t, eq_f, us_len, is_len, bs_len, lenL_00, rs_len] <;> omega))); (focus (first | omega | (simp only [List.length_nil, not_t, not_f, lt_t, lt_f, le_t, le_f, eq_t, eq_f, us_len, is_len, bs_len, lenL_00, rs_len] <;> omega))); conv => whnf))
  · rw [decide_eq_true (by omega), rowsOf_rs, rs_len]; rfl
  all_goals rw [decide_eq_false (by omega)]; rfl
open Classical in
noncomputable def c19 : List T → Ans
  | [.agg [.int .i64 sl, .list 1 xs]] => .req (IsR xs) (.bool (rightB sl (rowsOf xs)))
  | _ => .no
theorem got19 {vs : List T} {x : T} (h : Got (c19 vs) x) : FnOk Tryd.prog tgl 19 vs x := by
  unfold c19 at h
  split at h
  · obtain ⟨hq, e⟩ := got_req h; rw [e]; exact ok19 _ _ hq
  · exact (got_no h).elim
theorem nogl19 (vs : List T) (p : Prop) (d : Decidable p) (sz : Nat) (xs : List T) (h : c19 vs = @Ans.gl p d sz xs) : False := by
  unfold c19 at h
  split at h <;> cases h
theorem pk19 (vs : List T) (p : Prop) (d : Decidable p) (x : T) (h : c19 vs = @Ans.pk p d x) (hp : p) : FnOk Tryd.prog tgl 19 vs x := by
  unfold c19 at h
  split at h
  · cases h
  · cases h
end Go.Nx
