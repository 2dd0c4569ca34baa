/-
  WHAT THE SETS' FUNCTIONS ANSWER.
-/
import Derived.Test.YtlgnjeilhjhnkaaDoorRa
import Derived.Test.YtlgnjeilhjhnkaaDoorRm
import Derived.Test.YtlgnjeilhjhnkaaDoorRt
set_option linter.unusedVariables false
set_option linter.unusedSimpArgs false
set_option maxRecDepth 20000
set_option maxHeartbeats 1000000
namespace Go.Nx
open Go.RowKit Go.Proofs

def dbTab : List Int := [0, 1, 56, 2, 57, 49, 28, 3, 61, 58, 42, 50, 38, 29, 17, 4, 62, 47, 59, 36, 45, 43, 51, 22, 53, 39, 33, 30, 24, 18, 12, 5, 63, 55, 48, 27, 60, 41, 37, 16, 46, 35, 44, 21, 52, 32, 23, 11, 54, 26, 40, 15, 34, 20, 31, 10, 25, 14, 19, 9, 13, 8, 7, 6]
def tgl (g : Nat) : Option (List T) := match g with
  | 0 => some (bs dbTab)
  | _ => none
noncomputable def lE0 : List (Nat × (List T → Ans)) := []
noncomputable def iE0 : List (Nat × Pt) := []
noncomputable abbrev E0 : Env := En tgl lE0 iE0
theorem env_E0 : EnvOk Tryd.prog E0 := env_nil
theorem db_all : ∀ k : Fin 64, (at0 dbTab (iv (((1#64 <<< k.val) * 285870213051353865#64) >>> 58)) : Int) = k.val ∧ iv (((1#64 <<< k.val) * 285870213051353865#64) >>> 58) < 64 := by decide +kernel
theorem bv_sub (a b : Int) : bv (a - b) = bv a - bv b := by
  unfold bv
  rw [Int.sub_eq_add_neg, BitVec.ofInt_add, BitVec.ofInt_neg, BitVec.sub_eq_add_neg]
theorem bv_mul (a b : Int) : bv (a * b) = bv a * bv b := by unfold bv; rw [BitVec.ofInt_mul]
theorem db_ix {s : Int} (h : bv s ≠ 0) : shrI .u64 (IntKind.u64.wrap (andI .u64 s (IntKind.u64.wrap (0 - s)) * 285870213051353865)) 58 = iv (((1#64 <<< ctz (bv s)) * 285870213051353865#64) >>> 58) := by
  rw [andI_u, wrap_iv (0 - s), bv_iv, bv_sub, wrap_iv, bv_mul, bv_iv, show bv 0 = 0#64 from rfl, low_and_neg (ctz_low h), shrI_u _ _ ⟨by omega, by omega⟩]
  rfl
theorem ok50 (s : Int) (hq : R64 s) : FnOk Tryd.prog tgl 50 [.int .u64 s] (.int .i64 (ctz (bv s))) := by
  refine fn_ok (Γ := E0) env_E0 Tryd.func50 low50 ?_
  by_cases h0 : s = 0
  · subst h0
    conv => whnf
    repeat' (first
      | (refine brK_true (by assumption) ?_; conv => whnf)
      | (refine brK_false (by assumption) ?_; conv => whnf)
      | (refine brK_true ?_ ?_; (focus (simp only [List.length_nil, not_t, not_f, lt_t, lt_f, le_t, le_f, eq_t, eq_f, us_len, is_len, bs_len, lenL_00, eqI_self] <;> omega)); conv => whnf)
      | (refine brK_false ?_ ?_; (focus (simp only [List.length_nil, not_t, not_f, lt_t, lt_f, le_t, le_f, eq_t, eq_f, us_len, is_len, bs_len, lenL_00, eqI_self] <;> omega)); conv => whnf)
      | ((refine brK_of (fun h => ?_) (fun h => ?_)) <;> (have h2 := h; (try simp only [List.length_nil, not_t, not_f, lt_t, lt_f, le_t, le_f, eq_t, eq_f, us_len, is_len, bs_len, lenL_00, eqI_self] at h2); conv => whnf))
      | (refine reqK_of ?_ ?_; (focus (first | decide | omega | assumption | (simp only [List.length_nil, not_t, not_f, lt_t, lt_f, le_t, le_f, eq_t, eq_f, us_len, is_len, bs_len, lenL_00, eqI_self] <;> omega) | (simp [keyNew, sameKey, kEq] <;> omega))); conv => whnf)
      | (refine reqK_of ?_ ?_; rotate_left; (conv => whnf); rotate_left)
      | (refine nth_us ?_ ?_ ?_; (focus (first | omega | (simp only [List.length_nil, not_t, not_f, lt_t, lt_f, le_t, le_f, eq_t, eq_f, us_len, is_len, bs_len, lenL_00, eqI_self] <;> omega))); (focus (first | omega | (simp only [List.length_nil, not_t, not_f, lt_t, lt_f, le_t, le_f, eq_t, eq_f, us_len, is_len, bs_len, lenL_00, eqI_self] <;> omega))); conv => whnf)
      | (refine nth_is ?_ ?_ ?_; (focus (first | omega | (simp only [List.length_nil, not_t, not_f, lt_t, lt_f, le_t, le_f, eq_t, eq_f, us_len, is_len, bs_len, lenL_00, eqI_self] <;> omega))); (focus (first | omega | (simp only [List.length_nil, not_t, not_f, lt_t, lt_f, le_t, le_f, eq_t, eq_f, us_len, is_len, bs_len, lenL_00, eqI_self] <;> omega))); conv => whnf)
      | (refine nth_bs ?_ ?_ ?_; (focus (first | omega | (simp only [List.length_nil, not_t, not_f, lt_t, lt_f, le_t, le_f, eq_t, eq_f, us_len, is_len, bs_len, lenL_00, eqI_self] <;> omega))); (focus (first | omega | (simp only [List.length_nil, not_t, not_f, lt_t, lt_f, le_t, le_f, eq_t, eq_f, us_len, is_len, bs_len, lenL_00, eqI_self] <;> omega))); conv => whnf))
    rw [show bv 0 = 0 from rfl, ctz, dif_pos rfl]; rfl
  · have hb : bv s ≠ 0 := fun e => h0 (by rw [← iv_bv hq, e]; rfl)
    have hx := db_ix hb
    have hk := (ctz_low hb).1
    have hd : (at0 dbTab (iv (((1#64 <<< ctz (bv s)) * 285870213051353865#64) >>> 58)) : Int) = ctz (bv s) ∧ iv (((1#64 <<< ctz (bv s)) * 285870213051353865#64) >>> 58) < 64 := db_all ⟨ctz (bv s), hk⟩
    have hp := (R_iv (((1#64 <<< ctz (bv s)) * 285870213051353865#64) >>> 58)).1
    have hl : dbTab.length = 64 := rfl
    conv => whnf
    repeat' (first
      | (refine brK_true (by assumption) ?_; conv => whnf)
      | (refine brK_false (by assumption) ?_; conv => whnf)
      | (refine brK_true ?_ ?_; (focus (simp only [List.length_nil, not_t, not_f, lt_t, lt_f, le_t, le_f, eq_t, eq_f, us_len, is_len, bs_len, lenL_00, hx, hl] <;> omega)); conv => whnf)
      | (refine brK_false ?_ ?_; (focus (simp only [List.length_nil, not_t, not_f, lt_t, lt_f, le_t, le_f, eq_t, eq_f, us_len, is_len, bs_len, lenL_00, hx, hl] <;> omega)); conv => whnf)
      | ((refine brK_of (fun h => ?_) (fun h => ?_)) <;> (have h2 := h; (try simp only [List.length_nil, not_t, not_f, lt_t, lt_f, le_t, le_f, eq_t, eq_f, us_len, is_len, bs_len, lenL_00, hx, hl] at h2); conv => whnf))
      | (refine reqK_of ?_ ?_; (focus (first | decide | omega | assumption | (simp only [List.length_nil, not_t, not_f, lt_t, lt_f, le_t, le_f, eq_t, eq_f, us_len, is_len, bs_len, lenL_00, hx, hl] <;> omega) | (simp [keyNew, sameKey, kEq] <;> omega))); conv => whnf)
      | (refine reqK_of ?_ ?_; rotate_left; (conv => whnf); rotate_left)
      | (refine nth_us ?_ ?_ ?_; (focus (first | omega | (simp only [List.length_nil, not_t, not_f, lt_t, lt_f, le_t, le_f, eq_t, eq_f, us_len, is_len, bs_len, lenL_00, hx, hl] <;> omega))); (focus (first | omega | (simp only [List.length_nil, not_t, not_f, lt_t, lt_f, le_t, le_f, eq_t, eq_f, us_len, is_len, bs_len, lenL_00, hx, hl] <;> omega))); conv => whnf)
      | (refine nth_is ?_ ?_ ?_; (focus (first | omega | (simp only [List.length_nil, not_t, not_f, lt_t, lt_f, le_t, le_f, eq_t, eq_f, us_len, is_len, bs_len, lenL_00, hx, hl] <;> omega))); (focus (first | omega | (simp only [List.length_nil, not_t, not_f, lt_t, lt_f, le_t, le_f, eq_t, eq_f, us_len, is_len, bs_len, lenL_00, hx, hl] <;> omega))); conv => whnf)
      | (refine nth_bs ?_ ?_ ?_; (focus (first | omega | (simp only [List.length_nil, not_t, not_f, lt_t, lt_f, le_t, le_f, eq_t, eq_f, us_len, is_len, bs_len, lenL_00, hx, hl] <;> omega))); (focus (first | omega | (simp only [List.length_nil, not_t, not_f, lt_t, lt_f, le_t, le_f, eq_t, eq_f, us_len, is_len, bs_len, lenL_00, hx, hl] <;> omega))); conv => whnf))
    rw [hx, hd.1, wrap_i64 ⟨by omega, by omega⟩]
open Classical in
noncomputable def c50 : List T → Ans
  | [.int .u64 s] => .req (R64 s) (.int .i64 (ctz (bv s)))
  | _ => .no
theorem got50 {vs : List T} {x : T} (h : Got (c50 vs) x) : FnOk Tryd.prog tgl 50 vs x := by
  unfold c50 at h
  split at h
  · obtain ⟨hq, e⟩ := got_req h; rw [e]; exact ok50 _ hq
  · exact (got_no h).elim
theorem nogl50 (vs : List T) (p : Prop) (d : Decidable p) (sz : Nat) (xs : List T) (h : c50 vs = @Ans.gl p d sz xs) : False := by
  unfold c50 at h
  split at h <;> cases h
theorem pk50 (vs : List T) (p : Prop) (d : Decidable p) (x : T) (h : c50 vs = @Ans.pk p d x) (hp : p) : FnOk Tryd.prog tgl 50 vs x := by
  unfold c50 at h
  split at h
  · cases h
  · cases h
theorem ok35 (o : Int) : FnOk Tryd.prog tgl 35 [.int .i64 o] (.int .u64 (iv (bit o))) := by
  refine fn_ok (Γ := E0) env_E0 Tryd.func35 low35 ?_
  conv => whnf
  repeat' (first | (refine brK_true (by assumption) ?_; conv => whnf) | (refine brK_false (by assumption) ?_; conv => whnf) | (refine brK_of (fun h => ?_) (fun h => ?_) <;> conv => whnf) | (refine reqK_of ?_ ?_; (focus (first | decide | omega | assumption | (simp [keyNew, sameKey, kEq] <;> omega))); conv => whnf) | (refine reqK_of ?_ ?_; rotate_left; (conv => whnf); rotate_left))
  · rw [lt_t] at h; rw [bit_out (obj_f (.inl h))]; rfl
  · rw [lt_t] at h; rw [bit_out (obj_f (.inr h))]; rfl
  · rename_i h1
    rw [lt_f] at h h1
    rw [wrap_i64 ⟨by omega, by omega⟩]; omega
  · rename_i h1
    rw [lt_f] at h h1
    have e : IntKind.i64.wrap (o - 1) = o - 1 := wrap_i64 ⟨by omega, by omega⟩
    rw [e, shlI_u _ _ ⟨by omega, by omega⟩, bit_in (obj_t h1 h), bv1]
open Classical in
noncomputable def c35 : List T → Ans
  | [.int .i64 o] => .yes (.int .u64 (iv (bit o)))
  | _ => .no
theorem got35 {vs : List T} {x : T} (h : Got (c35 vs) x) : FnOk Tryd.prog tgl 35 vs x := by
  unfold c35 at h
  split at h
  · rw [got_yes h]; exact ok35 _
  · exact (got_no h).elim
theorem nogl35 (vs : List T) (p : Prop) (d : Decidable p) (sz : Nat) (xs : List T) (h : c35 vs = @Ans.gl p d sz xs) : False := by
  unfold c35 at h
  split at h <;> cases h
theorem pk35 (vs : List T) (p : Prop) (d : Decidable p) (x : T) (h : c35 vs = @Ans.pk p d x) (hp : p) : FnOk Tryd.prog tgl 35 vs x := by
  unfold c35 at h
  split at h
  · cases h
  · cases h
theorem ok41 (o : Int) : FnOk Tryd.prog tgl 41 [.int .i64 o] (.bool (obj o)) := by
  refine fn_ok (Γ := E0) env_E0 Tryd.func41 low41 ?_
  conv => whnf
  repeat' (first | (refine brK_true (by assumption) ?_; conv => whnf) | (refine brK_false (by assumption) ?_; conv => whnf) | (refine brK_of (fun h => ?_) (fun h => ?_) <;> conv => whnf) | (refine reqK_of ?_ ?_; (focus (first | decide | omega | assumption | (simp [keyNew, sameKey, kEq] <;> omega))); conv => whnf) | (refine reqK_of ?_ ?_; rotate_left; (conv => whnf); rotate_left))
  · rw [le_t] at h; simp [leI_def, obj, h]
  · rw [le_f] at h; rw [obj_f (.inl h)]
open Classical in
noncomputable def c41 : List T → Ans
  | [.int .i64 o] => .yes (.bool (obj o))
  | _ => .no
theorem got41 {vs : List T} {x : T} (h : Got (c41 vs) x) : FnOk Tryd.prog tgl 41 vs x := by
  unfold c41 at h
  split at h
  · rw [got_yes h]; exact ok41 _
  · exact (got_no h).elim
theorem nogl41 (vs : List T) (p : Prop) (d : Decidable p) (sz : Nat) (xs : List T) (h : c41 vs = @Ans.gl p d sz xs) : False := by
  unfold c41 at h
  split at h <;> cases h
theorem pk41 (vs : List T) (p : Prop) (d : Decidable p) (x : T) (h : c41 vs = @Ans.pk p d x) (hp : p) : FnOk Tryd.prog tgl 41 vs x := by
  unfold c41 at h
  split at h
  · cases h
  · cases h
noncomputable def lE1 : List (Nat × (List T → Ans)) := (35, c35) :: (41, c41) :: lE0
noncomputable def iE1 : List (Nat × Pt) := iE0
noncomputable abbrev E1 : Env := En tgl lE1 iE1
theorem env_E1 : EnvOk Tryd.prog E1 := (env_fn (env_fn env_E0 (fun _ _ => got41) (fun vs p d sz xs h _ => (nogl41 vs p d sz xs h).elim) pk41) (fun _ _ => got35) (fun vs p d sz xs h _ => (nogl35 vs p d sz xs h).elim) pk35)
theorem ok20 (s o : Int) : FnOk Tryd.prog tgl 20 [.int .u64 s, .int .i64 o] (.bool (has (bv s) o)) := by
  refine fn_ok (Γ := E1) env_E1 Tryd.func20 low20 ?_
  conv => whnf
  repeat' (first | (refine brK_true (by assumption) ?_; conv => whnf) | (refine brK_false (by assumption) ?_; conv => whnf) | (refine brK_of (fun h => ?_) (fun h => ?_) <;> conv => whnf) | (refine reqK_of ?_ ?_; (focus (first | decide | omega | assumption | (simp [keyNew, sameKey, kEq] <;> omega))); conv => whnf) | (refine reqK_of ?_ ?_; rotate_left; (conv => whnf); rotate_left))
  rw [andI_u, eqI_iv0, bv_iv, has_bit, Bool.not_not]
open Classical in
noncomputable def c20 : List T → Ans
  | [.int .u64 s, .int .i64 o] => .yes (.bool (has (bv s) o))
  | _ => .no
theorem got20 {vs : List T} {x : T} (h : Got (c20 vs) x) : FnOk Tryd.prog tgl 20 vs x := by
  unfold c20 at h
  split at h
  · rw [got_yes h]; exact ok20 _ _
  · exact (got_no h).elim
theorem nogl20 (vs : List T) (p : Prop) (d : Decidable p) (sz : Nat) (xs : List T) (h : c20 vs = @Ans.gl p d sz xs) : False := by
  unfold c20 at h
  split at h <;> cases h
theorem pk20 (vs : List T) (p : Prop) (d : Decidable p) (x : T) (h : c20 vs = @Ans.pk p d x) (hp : p) : FnOk Tryd.prog tgl 20 vs x := by
  unfold c20 at h
  split at h
  · cases h
  · cases h
theorem ok44 (s o : Int) : FnOk Tryd.prog tgl 44 [.int .u64 s, .int .i64 o] (.int .u64 (iv (add (bv s) o))) := by
  refine fn_ok (Γ := E1) env_E1 Tryd.func44 low44 ?_
  conv => whnf
  repeat' (first | (refine brK_true (by assumption) ?_; conv => whnf) | (refine brK_false (by assumption) ?_; conv => whnf) | (refine brK_of (fun h => ?_) (fun h => ?_) <;> conv => whnf) | (refine reqK_of ?_ ?_; (focus (first | decide | omega | assumption | (simp [keyNew, sameKey, kEq] <;> omega))); conv => whnf) | (refine reqK_of ?_ ?_; rotate_left; (conv => whnf); rotate_left))
  rw [orI_u, bv_iv]; rfl
open Classical in
noncomputable def c44 : List T → Ans
  | [.int .u64 s, .int .i64 o] => .yes (.int .u64 (iv (add (bv s) o)))
  | _ => .no
theorem got44 {vs : List T} {x : T} (h : Got (c44 vs) x) : FnOk Tryd.prog tgl 44 vs x := by
  unfold c44 at h
  split at h
  · rw [got_yes h]; exact ok44 _ _
  · exact (got_no h).elim
theorem nogl44 (vs : List T) (p : Prop) (d : Decidable p) (sz : Nat) (xs : List T) (h : c44 vs = @Ans.gl p d sz xs) : False := by
  unfold c44 at h
  split at h <;> cases h
theorem pk44 (vs : List T) (p : Prop) (d : Decidable p) (x : T) (h : c44 vs = @Ans.pk p d x) (hp : p) : FnOk Tryd.prog tgl 44 vs x := by
  unfold c44 at h
  split at h
  · cases h
  · cases h
theorem ok17 (s t : Int) : FnOk Tryd.prog tgl 17 [.int .u64 s, .int .u64 t] (.bool (under (bv s) (bv t))) := by
  refine fn_ok (Γ := E1) env_E1 Tryd.func17 low17 ?_
  conv => whnf
  repeat' (first | (refine brK_true (by assumption) ?_; conv => whnf) | (refine brK_false (by assumption) ?_; conv => whnf) | (refine brK_of (fun h => ?_) (fun h => ?_) <;> conv => whnf) | (refine reqK_of ?_ ?_; (focus (first | decide | omega | assumption | (simp [keyNew, sameKey, kEq] <;> omega))); conv => whnf) | (refine reqK_of ?_ ?_; rotate_left; (conv => whnf); rotate_left))
  rw [andNotI_u, eqI_iv0, under_not]
open Classical in
noncomputable def c17 : List T → Ans
  | [.int .u64 s, .int .u64 t] => .yes (.bool (under (bv s) (bv t)))
  | _ => .no
theorem got17 {vs : List T} {x : T} (h : Got (c17 vs) x) : FnOk Tryd.prog tgl 17 vs x := by
  unfold c17 at h
  split at h
  · rw [got_yes h]; exact ok17 _ _
  · exact (got_no h).elim
theorem nogl17 (vs : List T) (p : Prop) (d : Decidable p) (sz : Nat) (xs : List T) (h : c17 vs = @Ans.gl p d sz xs) : False := by
  unfold c17 at h
  split at h <;> cases h
theorem pk17 (vs : List T) (p : Prop) (d : Decidable p) (x : T) (h : c17 vs = @Ans.pk p d x) (hp : p) : FnOk Tryd.prog tgl 17 vs x := by
  unfold c17 at h
  split at h
  · cases h
  · cases h
theorem ok26 (s o : Int) (hq : R64 s) : FnOk Tryd.prog tgl 26 [.int .u64 s, .int .i64 o] (.bool (has (bv s) o)) := by
  refine fn_ok (Γ := E1) env_E1 Tryd.func26 low26 ?_
  obtain ⟨b, rfl⟩ := exists_iv hq
  by_cases ho : obj o = true
  · have h' := obj_iff.1 ho
    have hw : IntKind.i64.wrap (o - 1) = o - 1 := wrap_i64 ⟨by omega, by omega⟩
    conv => whnf
    repeat' (first
      | (refine brK_true (by assumption) ?_; conv => whnf)
      | (refine brK_false (by assumption) ?_; conv => whnf)
      | (refine brK_true ?_ ?_; (focus (simp only [List.length_nil, not_t, not_f, lt_t, lt_f, le_t, le_f, eq_t, eq_f, us_len, is_len, bs_len, lenL_00, hw] <;> omega)); conv => whnf)
      | (refine brK_false ?_ ?_; (focus (simp only [List.length_nil, not_t, not_f, lt_t, lt_f, le_t, le_f, eq_t, eq_f, us_len, is_len, bs_len, lenL_00, hw] <;> omega)); conv => whnf)
      | ((refine brK_of (fun h => ?_) (fun h => ?_)) <;> (have h2 := h; (try simp only [List.length_nil, not_t, not_f, lt_t, lt_f, le_t, le_f, eq_t, eq_f, us_len, is_len, bs_len, lenL_00, hw] at h2); conv => whnf))
      | (refine reqK_of ?_ ?_; (focus (first | decide | omega | assumption | (simp only [List.length_nil, not_t, not_f, lt_t, lt_f, le_t, le_f, eq_t, eq_f, us_len, is_len, bs_len, lenL_00, hw] <;> omega) | (simp [keyNew, sameKey, kEq] <;> omega))); conv => whnf)
      | (refine reqK_of ?_ ?_; rotate_left; (conv => whnf); rotate_left)
      | (refine nth_us ?_ ?_ ?_; (focus (first | omega | (simp only [List.length_nil, not_t, not_f, lt_t, lt_f, le_t, le_f, eq_t, eq_f, us_len, is_len, bs_len, lenL_00, hw] <;> omega))); (focus (first | omega | (simp only [List.length_nil, not_t, not_f, lt_t, lt_f, le_t, le_f, eq_t, eq_f, us_len, is_len, bs_len, lenL_00, hw] <;> omega))); conv => whnf)
      | (refine nth_is ?_ ?_ ?_; (focus (first | omega | (simp only [List.length_nil, not_t, not_f, lt_t, lt_f, le_t, le_f, eq_t, eq_f, us_len, is_len, bs_len, lenL_00, hw] <;> omega))); (focus (first | omega | (simp only [List.length_nil, not_t, not_f, lt_t, lt_f, le_t, le_f, eq_t, eq_f, us_len, is_len, bs_len, lenL_00, hw] <;> omega))); conv => whnf)
      | (refine nth_bs ?_ ?_ ?_; (focus (first | omega | (simp only [List.length_nil, not_t, not_f, lt_t, lt_f, le_t, le_f, eq_t, eq_f, us_len, is_len, bs_len, lenL_00, hw] <;> omega))); (focus (first | omega | (simp only [List.length_nil, not_t, not_f, lt_t, lt_f, le_t, le_f, eq_t, eq_f, us_len, is_len, bs_len, lenL_00, hw] <;> omega))); conv => whnf))
    all_goals first
      | (exfalso; omega)
      | (rw [hw, shrI_u _ _ ⟨by omega, by omega⟩, shr_bit _ _ (by omega), bv_iv]
         simp [has, ho])
      | (rw [hw]; omega)
      | skip
  · simp only [Bool.not_eq_true] at ho
    conv => whnf
    repeat' (first
      | (refine brK_true (by assumption) ?_; conv => whnf)
      | (refine brK_false (by assumption) ?_; conv => whnf)
      | (refine brK_true ?_ ?_; (focus (simp only [List.length_nil, not_t, not_f, lt_t, lt_f, le_t, le_f, eq_t, eq_f, us_len, is_len, bs_len, lenL_00] <;> omega)); conv => whnf)
      | (refine brK_false ?_ ?_; (focus (simp only [List.length_nil, not_t, not_f, lt_t, lt_f, le_t, le_f, eq_t, eq_f, us_len, is_len, bs_len, lenL_00] <;> omega)); conv => whnf)
      | ((refine brK_of (fun h => ?_) (fun h => ?_)) <;> (have h2 := h; (try simp only [List.length_nil, not_t, not_f, lt_t, lt_f, le_t, le_f, eq_t, eq_f, us_len, is_len, bs_len, lenL_00] at h2); conv => whnf))
      | (refine reqK_of ?_ ?_; (focus (first | decide | omega | assumption | (simp only [List.length_nil, not_t, not_f, lt_t, lt_f, le_t, le_f, eq_t, eq_f, us_len, is_len, bs_len, lenL_00] <;> omega) | (simp [keyNew, sameKey, kEq] <;> omega))); conv => whnf)
      | (refine reqK_of ?_ ?_; rotate_left; (conv => whnf); rotate_left)
      | (refine nth_us ?_ ?_ ?_; (focus (first | omega | (simp only [List.length_nil, not_t, not_f, lt_t, lt_f, le_t, le_f, eq_t, eq_f, us_len, is_len, bs_len, lenL_00] <;> omega))); (focus (first | omega | (simp only [List.length_nil, not_t, not_f, lt_t, lt_f, le_t, le_f, eq_t, eq_f, us_len, is_len, bs_len, lenL_00] <;> omega))); conv => whnf)
      | (refine nth_is ?_ ?_ ?_; (focus (first | omega | (simp only [List.length_nil, not_t, not_f, lt_t, lt_f, le_t, le_f, eq_t, eq_f, us_len, is_len, bs_len, lenL_00] <;> omega))); (focus (first | omega | (simp only [List.length_nil, not_t, not_f, lt_t, lt_f, le_t, le_f, eq_t, eq_f, us_len, is_len, bs_len, lenL_00] <;> omega))); conv => whnf)
      | (refine nth_bs ?_ ?_ ?_; (focus (first | omega | (simp only [List.length_nil, not_t, not_f, lt_t, lt_f, le_t, le_f, eq_t, eq_f, us_len, is_len, bs_len, lenL_00] <;> omega))); (focus (first | omega | (simp only [List.length_nil, not_t, not_f, lt_t, lt_f, le_t, le_f, eq_t, eq_f, us_len, is_len, bs_len, lenL_00] <;> omega))); conv => whnf))
    rw [has_obj ho]
open Classical in
noncomputable def c26 : List T → Ans
  | [.int .u64 s, .int .i64 o] => .req (R64 s) (.bool (has (bv s) o))
  | _ => .no
theorem got26 {vs : List T} {x : T} (h : Got (c26 vs) x) : FnOk Tryd.prog tgl 26 vs x := by
  unfold c26 at h
  split at h
  · obtain ⟨hq, e⟩ := got_req h; rw [e]; exact ok26 _ _ hq
  · exact (got_no h).elim
theorem nogl26 (vs : List T) (p : Prop) (d : Decidable p) (sz : Nat) (xs : List T) (h : c26 vs = @Ans.gl p d sz xs) : False := by
  unfold c26 at h
  split at h <;> cases h
theorem pk26 (vs : List T) (p : Prop) (d : Decidable p) (x : T) (h : c26 vs = @Ans.pk p d x) (hp : p) : FnOk Tryd.prog tgl 26 vs x := by
  unfold c26 at h
  split at h
  · cases h
  · cases h
theorem ok48 (s o : Int) (hq : R64 s) : FnOk Tryd.prog tgl 48 [.int .u64 s, .int .i64 o] (.int .u64 (iv (add (bv s) o))) := by
  refine fn_ok (Γ := E1) env_E1 Tryd.func48 low48 ?_
  conv => whnf
  repeat' (first | (refine brK_true (by assumption) ?_; conv => whnf) | (refine brK_false (by assumption) ?_; conv => whnf) | (refine brK_of (fun h => ?_) (fun h => ?_) <;> conv => whnf) | (refine reqK_of ?_ ?_; (focus (first | decide | omega | assumption | (simp [keyNew, sameKey, kEq] <;> omega))); conv => whnf) | (refine reqK_of ?_ ?_; rotate_left; (conv => whnf); rotate_left))
  · have h' : obj o = false := by simpa using h
    rw [add, bit_out h']; simp [iv_bv hq]
  · have h' : obj o = true := by simpa using h
    have h2 := of_decide_eq_true h'
    rw [wrap_i64 ⟨by omega, by omega⟩]; omega
  · have h' : obj o = true := by simpa using h
    have h2 := of_decide_eq_true h'
    rw [wrap_i64 ⟨by omega, by omega⟩, shlI_u _ _ ⟨by omega, by omega⟩, orI_u, add, bit_in h', bv1, bv_iv]
open Classical in
noncomputable def c48 : List T → Ans
  | [.int .u64 s, .int .i64 o] => .req (R64 s) (.int .u64 (iv (add (bv s) o)))
  | _ => .no
theorem got48 {vs : List T} {x : T} (h : Got (c48 vs) x) : FnOk Tryd.prog tgl 48 vs x := by
  unfold c48 at h
  split at h
  · obtain ⟨hq, e⟩ := got_req h; rw [e]; exact ok48 _ _ hq
  · exact (got_no h).elim
theorem nogl48 (vs : List T) (p : Prop) (d : Decidable p) (sz : Nat) (xs : List T) (h : c48 vs = @Ans.gl p d sz xs) : False := by
  unfold c48 at h
  split at h <;> cases h
theorem pk48 (vs : List T) (p : Prop) (d : Decidable p) (x : T) (h : c48 vs = @Ans.pk p d x) (hp : p) : FnOk Tryd.prog tgl 48 vs x := by
  unfold c48 at h
  split at h
  · cases h
  · cases h
theorem ok18 (n : Int) : FnOk Tryd.prog tgl 18 [.int .i64 n] (.int .u64 (iv (first n))) := by
  refine fn_ok (Γ := E1) env_E1 Tryd.func18 low18 ?_
  conv => whnf
  repeat' (first | (refine brK_true (by assumption) ?_; conv => whnf) | (refine brK_false (by assumption) ?_; conv => whnf) | (refine brK_of (fun h => ?_) (fun h => ?_) <;> conv => whnf) | (refine reqK_of ?_ ?_; (focus (first | decide | omega | assumption | (simp [keyNew, sameKey, kEq] <;> omega))); conv => whnf) | (refine reqK_of ?_ ?_; rotate_left; (conv => whnf); rotate_left))
  · rw [lt_t] at h; simp [first, h, iv]
  · rw [lt_f] at h
    rw [minI_def]; split <;> rw [wrap_i64 ⟨by omega, by omega⟩] <;> omega
  · rw [lt_f] at h
    have e : minI n 64 = min n 64 := by rw [minI_def]; split <;> omega
    have e2 : (18446744073709551615 : Int) = iv (BitVec.allOnes 64) := rfl
    rw [e, wrap_i64 ⟨by omega, by omega⟩, e2, shrI_u _ _ ⟨by omega, by omega⟩, first, if_neg (by omega)]
open Classical in
noncomputable def c18 : List T → Ans
  | [.int .i64 n] => .yes (.int .u64 (iv (first n)))
  | _ => .no
theorem got18 {vs : List T} {x : T} (h : Got (c18 vs) x) : FnOk Tryd.prog tgl 18 vs x := by
  unfold c18 at h
  split at h
  · rw [got_yes h]; exact ok18 _
  · exact (got_no h).elim
theorem nogl18 (vs : List T) (p : Prop) (d : Decidable p) (sz : Nat) (xs : List T) (h : c18 vs = @Ans.gl p d sz xs) : False := by
  unfold c18 at h
  split at h <;> cases h
theorem pk18 (vs : List T) (p : Prop) (d : Decidable p) (x : T) (h : c18 vs = @Ans.pk p d x) (hp : p) : FnOk Tryd.prog tgl 18 vs x := by
  unfold c18 at h
  split at h
  · cases h
  · cases h
noncomputable def lE2 : List (Nat × (List T → Ans)) := (20, c20) :: (44, c44) :: (17, c17) :: (18, c18) :: (26, c26) :: (48, c48) :: lE1
noncomputable def iE2 : List (Nat × Pt) := iE1
noncomputable abbrev E2 : Env := En tgl lE2 iE2
theorem env_E2 : EnvOk Tryd.prog E2 := (env_fn (env_fn (env_fn (env_fn (env_fn (env_fn env_E1 (fun _ _ => got48) (fun vs p d sz xs h _ => (nogl48 vs p d sz xs h).elim) pk48) (fun _ _ => got26) (fun vs p d sz xs h _ => (nogl26 vs p d sz xs h).elim) pk26) (fun _ _ => got18) (fun vs p d sz xs h _ => (nogl18 vs p d sz xs h).elim) pk18) (fun _ _ => got17) (fun vs p d sz xs h _ => (nogl17 vs p d sz xs h).elim) pk17) (fun _ _ => got44) (fun vs p d sz xs h _ => (nogl44 vs p d sz xs h).elim) pk44) (fun _ _ => got20) (fun vs p d sz xs h _ => (nogl20 vs p d sz xs h).elim) pk20)
end Go.Nx
