/-
  WHAT THE SETS' FUNCTIONS ANSWER.
-/
import Derived.Test.YtpmpkcjcjccboaaDoorSa
import Derived.Test.YtpmpkcjcjccboaaDoorRm
import Derived.Test.YtpmpkcjcjccboaaDoorRt
import Derived.Test.YtpmpkcjcjccboaaDoorPc
set_option linter.unusedVariables false
set_option linter.unusedSimpArgs false
set_option maxRecDepth 20000
set_option maxHeartbeats 1000000
namespace Go.Nx
open Go.RowKit Go.Proofs

def dbTab : List Int := [0, 1, 56, 2, 57, 49, 28, 3, 61, 58, 42, 50, 38, 29, 17, 4, 62, 47, 59, 36, 45, 43, 51, 22, 53, 39, 33, 30, 24, 18, 12, 5, 63, 55, 48, 27, 60, 41, 37, 16, 46, 35, 44, 21, 52, 32, 23, 11, 54, 26, 40, 15, 34, 20, 31, 10, 25, 14, 19, 9, 13, 8, 7, 6]
/-- strconv.ErrSyntax -/
def errS : T := .ifc 105 (.ref [.str ⟨#[105, 110, 118, 97, 108, 105, 100, 32, 115, 121, 110, 116, 97, 120]⟩])
/-- strconv.ErrRange -/
def errR : T := .ifc 105 (.ref [.str ⟨#[118, 97, 108, 117, 101, 32, 111, 117, 116, 32, 111, 102, 32, 114, 97, 110, 103, 101]⟩])
def tgl (g : Nat) : Option (List T) := match g with
  | 0 => some (bs dbTab)
  | 1 => some [errS]
  | 2 => some [errR]
  | _ => none
noncomputable def lE0 : List (Nat × (List T → Ans)) := []
noncomputable def iE0 : List (Nat × Pt) := []
noncomputable abbrev E0 : Env := En tgl lE0 iE0
theorem env_E0 : EnvOk Tryd.prog E0 := env_nil
theorem db_all : ∀ k : Fin 64, (at0 dbTab (iv (((1#64 <<< k.val) * 285870213051353865#64) >>> 58)) : Int) = k.val ∧ iv (((1#64 <<< k.val) * 285870213051353865#64) >>> 58) < 64 := by decide +kernel
theorem bv_sub (a b : Int) : bv (a - b) = bv a - bv b := by
  unfold bv
  rw [Int.sub_eq_add_neg, BitVec.ofInt_add, BitVec.ofInt_neg, BitVec.sub_eq_add_neg]
theorem bv_mul (a b : Int) : bv (a * b) = bv a * bv b := by unfold bv; rw [BitVec.ofInt_mul]
theorem db_ix {s : Int} (h : bv s ≠ 0) : shrI .u64 (IntKind.u64.wrap (andI .u64 s (IntKind.u64.wrap (0 - s)) * 285870213051353865)) 58 = iv (((1#64 <<< ctz (bv s)) * 285870213051353865#64) >>> 58) := by
  rw [andI_u, wrap_iv (0 - s), bv_iv, bv_sub, wrap_iv, bv_mul, bv_iv, show bv 0 = 0#64 from rfl, low_and_neg (ctz_low h), shrI_u _ _ ⟨by omega, by omega⟩]
  rfl
theorem ok44 (s : Int) (hq : R64 s) : FnOk Tryd.prog tgl 44 [.int .u64 s] (.int .i64 (ctz (bv s))) := by
  refine fn_ok (Γ := E0) env_E0 Tryd.func44 low44 ?_
  by_cases h0 : s = 0
  · subst h0
    conv => whnf
    repeat' (first
      | (refine brK_true rfl ?_; conv => whnf)
      | (refine brK_false rfl ?_; conv => whnf)
      | (refine brK_true (by assumption) ?_; conv => whnf)
      | (refine brK_false (by assumption) ?_; conv => whnf)
      | (refine brK_true ?_ ?_; (focus (simp only [List.length_nil, fx, eqI_self] <;> omega)); conv => whnf)
      | (refine brK_false ?_ ?_; (focus (simp only [List.length_nil, fx, eqI_self] <;> omega)); conv => whnf)
      | ((refine brK_of (fun h => ?_) (fun h => ?_)) <;> (have h2 := h; (try simp only [List.length_nil, fx, eqI_self] at h2); conv => whnf))
      | (refine reqK_of ?_ ?_; (focus (first | decide | omega | assumption | (simp only [List.length_nil, fx, eqI_self] <;> omega) | (simp [keyNew, sameKey, kEq] <;> omega))); conv => whnf)
      | (refine reqK_of ?_ ?_; rotate_left; (conv => whnf); rotate_left)
      | (refine nth_us ?_ ?_ ?_; (focus (first | omega | (simp only [List.length_nil, fx, eqI_self] <;> omega))); (focus (first | omega | (simp only [List.length_nil, fx, eqI_self] <;> omega))); conv => whnf)
      | (refine nth_is ?_ ?_ ?_; (focus (first | omega | (simp only [List.length_nil, fx, eqI_self] <;> omega))); (focus (first | omega | (simp only [List.length_nil, fx, eqI_self] <;> omega))); conv => whnf)
      | (refine nth_bs ?_ ?_ ?_; (focus (first | omega | (simp only [List.length_nil, fx, eqI_self] <;> omega))); (focus (first | omega | (simp only [List.length_nil, fx, eqI_self] <;> omega))); conv => whnf))
    rw [show bv 0 = 0 from rfl, ctz, dif_pos rfl]; rfl
  · have hb : bv s ≠ 0 := fun e => h0 (by rw [← iv_bv hq, e]; rfl)
    have hx := db_ix hb
    have hk := (ctz_low hb).1
    have hd : (at0 dbTab (iv (((1#64 <<< ctz (bv s)) * 285870213051353865#64) >>> 58)) : Int) = ctz (bv s) ∧ iv (((1#64 <<< ctz (bv s)) * 285870213051353865#64) >>> 58) < 64 := db_all ⟨ctz (bv s), hk⟩
    have hp := (R_iv (((1#64 <<< ctz (bv s)) * 285870213051353865#64) >>> 58)).1
    have hl : dbTab.length = 64 := rfl
    conv => whnf
    repeat' (first
      | (refine brK_true rfl ?_; conv => whnf)
      | (refine brK_false rfl ?_; conv => whnf)
      | (refine brK_true (by assumption) ?_; conv => whnf)
      | (refine brK_false (by assumption) ?_; conv => whnf)
      | (refine brK_true ?_ ?_; (focus (simp only [List.length_nil, fx, hx, hl] <;> omega)); conv => whnf)
      | (refine brK_false ?_ ?_; (focus (simp only [List.length_nil, fx, hx, hl] <;> omega)); conv => whnf)
      | ((refine brK_of (fun h => ?_) (fun h => ?_)) <;> (have h2 := h; (try simp only [List.length_nil, fx, hx, hl] at h2); conv => whnf))
      | (refine reqK_of ?_ ?_; (focus (first | decide | omega | assumption | (simp only [List.length_nil, fx, hx, hl] <;> omega) | (simp [keyNew, sameKey, kEq] <;> omega))); conv => whnf)
      | (refine reqK_of ?_ ?_; rotate_left; (conv => whnf); rotate_left)
      | (refine nth_us ?_ ?_ ?_; (focus (first | omega | (simp only [List.length_nil, fx, hx, hl] <;> omega))); (focus (first | omega | (simp only [List.length_nil, fx, hx, hl] <;> omega))); conv => whnf)
      | (refine nth_is ?_ ?_ ?_; (focus (first | omega | (simp only [List.length_nil, fx, hx, hl] <;> omega))); (focus (first | omega | (simp only [List.length_nil, fx, hx, hl] <;> omega))); conv => whnf)
      | (refine nth_bs ?_ ?_ ?_; (focus (first | omega | (simp only [List.length_nil, fx, hx, hl] <;> omega))); (focus (first | omega | (simp only [List.length_nil, fx, hx, hl] <;> omega))); conv => whnf))
    rw [hx, hd.1, wrap_i64 ⟨by omega, by omega⟩]
open Classical in
noncomputable def c44 : List T → Ans
  | [.int .u64 s] => .req (R64 s) (.int .i64 (ctz (bv s)))
  | _ => .no
theorem got44 {vs : List T} {x : T} (h : Got (c44 vs) x) : FnOk Tryd.prog tgl 44 vs x := by
  unfold c44 at h
  split at h
  · obtain ⟨hq, e⟩ := got_req h; rw [e]; exact ok44 _ hq
  · exact (got_no h).elim
theorem nogl44 (vs : List T) (p : Prop) (d : Decidable p) (sz : Nat) (xs : List T) (h : c44 vs = @Ans.gl p d sz xs) : False := by
  unfold c44 at h
  split at h <;> cases h
theorem pk44 (vs : List T) (p : Prop) (d : Decidable p) (x : T) (h : c44 vs = @Ans.pk p d x) (hp : p) : FnOk Tryd.prog tgl 44 vs x := by
  unfold c44 at h
  split at h
  · cases h
  · cases h
theorem ok33 (o : Int) : FnOk Tryd.prog tgl 33 [.int .i64 o] (.int .u64 (iv (bit o))) := by
  refine fn_ok (Γ := E0) env_E0 Tryd.func33 low33 ?_
  conv => whnf
  repeat' (first | (refine brK_true rfl ?_; conv => whnf) | (refine brK_false rfl ?_; conv => whnf) | (refine brK_true (by assumption) ?_; conv => whnf) | (refine brK_false (by assumption) ?_; conv => whnf) | (refine brK_of (fun h => ?_) (fun h => ?_) <;> conv => whnf) | (refine reqK_of ?_ ?_; (focus (first | decide | omega | assumption | (simp [keyNew, sameKey, kEq] <;> omega))); conv => whnf) | (refine reqK_of ?_ ?_; rotate_left; (conv => whnf); rotate_left))
  · rw [lt_t] at h; rw [bit_out (obj_f (.inl h))]; rfl
  · rw [lt_t] at h; rw [bit_out (obj_f (.inr h))]; rfl
  · rename_i h1
    rw [lt_f] at h h1
    rw [wrap_i64 ⟨by omega, by omega⟩]; omega
  · rename_i h1
    rw [lt_f] at h h1
    have e : IntKind.i64.wrap (o - 1) = o - 1 := wrap_i64 ⟨by omega, by omega⟩
    rw [e, shlI_u _ _ ⟨by omega, by omega⟩, bit_in (obj_t h1 h), bv1]
open Classical in
noncomputable def c33 : List T → Ans
  | [.int .i64 o] => .yes (.int .u64 (iv (bit o)))
  | _ => .no
theorem got33 {vs : List T} {x : T} (h : Got (c33 vs) x) : FnOk Tryd.prog tgl 33 vs x := by
  unfold c33 at h
  split at h
  · rw [got_yes h]; exact ok33 _
  · exact (got_no h).elim
theorem nogl33 (vs : List T) (p : Prop) (d : Decidable p) (sz : Nat) (xs : List T) (h : c33 vs = @Ans.gl p d sz xs) : False := by
  unfold c33 at h
  split at h <;> cases h
theorem pk33 (vs : List T) (p : Prop) (d : Decidable p) (x : T) (h : c33 vs = @Ans.pk p d x) (hp : p) : FnOk Tryd.prog tgl 33 vs x := by
  unfold c33 at h
  split at h
  · cases h
  · cases h
def del (s : B) (o : Int) : B := s &&& ~~~ bit o
theorem ok34 (o : Int) : FnOk Tryd.prog tgl 34 [.int .i64 o] (.bool (obj o)) := by
  refine fn_ok (Γ := E0) env_E0 Tryd.func34 low34 ?_
  conv => whnf
  repeat' (first | (refine brK_true rfl ?_; conv => whnf) | (refine brK_false rfl ?_; conv => whnf) | (refine brK_true (by assumption) ?_; conv => whnf) | (refine brK_false (by assumption) ?_; conv => whnf) | (refine brK_of (fun h => ?_) (fun h => ?_) <;> conv => whnf) | (refine reqK_of ?_ ?_; (focus (first | decide | omega | assumption | (simp [keyNew, sameKey, kEq] <;> omega))); conv => whnf) | (refine reqK_of ?_ ?_; rotate_left; (conv => whnf); rotate_left))
  · rw [le_t] at h; simp [leI_def, obj, h]
  · rw [le_f] at h; rw [obj_f (.inl h)]
open Classical in
noncomputable def c34 : List T → Ans
  | [.int .i64 o] => .yes (.bool (obj o))
  | _ => .no
theorem got34 {vs : List T} {x : T} (h : Got (c34 vs) x) : FnOk Tryd.prog tgl 34 vs x := by
  unfold c34 at h
  split at h
  · rw [got_yes h]; exact ok34 _
  · exact (got_no h).elim
theorem nogl34 (vs : List T) (p : Prop) (d : Decidable p) (sz : Nat) (xs : List T) (h : c34 vs = @Ans.gl p d sz xs) : False := by
  unfold c34 at h
  split at h <;> cases h
theorem pk34 (vs : List T) (p : Prop) (d : Decidable p) (x : T) (h : c34 vs = @Ans.pk p d x) (hp : p) : FnOk Tryd.prog tgl 34 vs x := by
  unfold c34 at h
  split at h
  · cases h
  · cases h
noncomputable def lE1 : List (Nat × (List T → Ans)) := (33, c33) :: (34, c34) :: lE0
noncomputable def iE1 : List (Nat × Pt) := iE0
noncomputable abbrev E1 : Env := En tgl lE1 iE1
theorem env_E1 : EnvOk Tryd.prog E1 := (env_fn (env_fn env_E0 (fun _ _ => got34) (fun vs p d sz xs h _ => (nogl34 vs p d sz xs h).elim) pk34) (fun _ _ => got33) (fun vs p d sz xs h _ => (nogl33 vs p d sz xs h).elim) pk33)
theorem ok12 (s o : Int) : FnOk Tryd.prog tgl 12 [.int .u64 s, .int .i64 o] (.bool (has (bv s) o)) := by
  refine fn_ok (Γ := E1) env_E1 Tryd.func12 low12 ?_
  conv => whnf
  repeat' (first | (refine brK_true rfl ?_; conv => whnf) | (refine brK_false rfl ?_; conv => whnf) | (refine brK_true (by assumption) ?_; conv => whnf) | (refine brK_false (by assumption) ?_; conv => whnf) | (refine brK_of (fun h => ?_) (fun h => ?_) <;> conv => whnf) | (refine reqK_of ?_ ?_; (focus (first | decide | omega | assumption | (simp [keyNew, sameKey, kEq] <;> omega))); conv => whnf) | (refine reqK_of ?_ ?_; rotate_left; (conv => whnf); rotate_left))
  rw [andI_u, eqI_iv0, bv_iv, has_bit, Bool.not_not]
open Classical in
noncomputable def c12 : List T → Ans
  | [.int .u64 s, .int .i64 o] => .yes (.bool (has (bv s) o))
  | _ => .no
theorem got12 {vs : List T} {x : T} (h : Got (c12 vs) x) : FnOk Tryd.prog tgl 12 vs x := by
  unfold c12 at h
  split at h
  · rw [got_yes h]; exact ok12 _ _
  · exact (got_no h).elim
theorem nogl12 (vs : List T) (p : Prop) (d : Decidable p) (sz : Nat) (xs : List T) (h : c12 vs = @Ans.gl p d sz xs) : False := by
  unfold c12 at h
  split at h <;> cases h
theorem pk12 (vs : List T) (p : Prop) (d : Decidable p) (x : T) (h : c12 vs = @Ans.pk p d x) (hp : p) : FnOk Tryd.prog tgl 12 vs x := by
  unfold c12 at h
  split at h
  · cases h
  · cases h
theorem ok14 (s o : Int) : FnOk Tryd.prog tgl 14 [.int .u64 s, .int .i64 o] (.int .u64 (iv (add (bv s) o))) := by
  refine fn_ok (Γ := E1) env_E1 Tryd.func14 low14 ?_
  conv => whnf
  repeat' (first | (refine brK_true rfl ?_; conv => whnf) | (refine brK_false rfl ?_; conv => whnf) | (refine brK_true (by assumption) ?_; conv => whnf) | (refine brK_false (by assumption) ?_; conv => whnf) | (refine brK_of (fun h => ?_) (fun h => ?_) <;> conv => whnf) | (refine reqK_of ?_ ?_; (focus (first | decide | omega | assumption | (simp [keyNew, sameKey, kEq] <;> omega))); conv => whnf) | (refine reqK_of ?_ ?_; rotate_left; (conv => whnf); rotate_left))
  rw [orI_u, bv_iv]; rfl
open Classical in
noncomputable def c14 : List T → Ans
  | [.int .u64 s, .int .i64 o] => .yes (.int .u64 (iv (add (bv s) o)))
  | _ => .no
theorem got14 {vs : List T} {x : T} (h : Got (c14 vs) x) : FnOk Tryd.prog tgl 14 vs x := by
  unfold c14 at h
  split at h
  · rw [got_yes h]; exact ok14 _ _
  · exact (got_no h).elim
theorem nogl14 (vs : List T) (p : Prop) (d : Decidable p) (sz : Nat) (xs : List T) (h : c14 vs = @Ans.gl p d sz xs) : False := by
  unfold c14 at h
  split at h <;> cases h
theorem pk14 (vs : List T) (p : Prop) (d : Decidable p) (x : T) (h : c14 vs = @Ans.pk p d x) (hp : p) : FnOk Tryd.prog tgl 14 vs x := by
  unfold c14 at h
  split at h
  · cases h
  · cases h
theorem ok25 (s t : Int) : FnOk Tryd.prog tgl 25 [.int .u64 s, .int .u64 t] (.bool (under (bv s) (bv t))) := by
  refine fn_ok (Γ := E1) env_E1 Tryd.func25 low25 ?_
  conv => whnf
  repeat' (first | (refine brK_true rfl ?_; conv => whnf) | (refine brK_false rfl ?_; conv => whnf) | (refine brK_true (by assumption) ?_; conv => whnf) | (refine brK_false (by assumption) ?_; conv => whnf) | (refine brK_of (fun h => ?_) (fun h => ?_) <;> conv => whnf) | (refine reqK_of ?_ ?_; (focus (first | decide | omega | assumption | (simp [keyNew, sameKey, kEq] <;> omega))); conv => whnf) | (refine reqK_of ?_ ?_; rotate_left; (conv => whnf); rotate_left))
  rw [andNotI_u, eqI_iv0, under_not]
open Classical in
noncomputable def c25 : List T → Ans
  | [.int .u64 s, .int .u64 t] => .yes (.bool (under (bv s) (bv t)))
  | _ => .no
theorem got25 {vs : List T} {x : T} (h : Got (c25 vs) x) : FnOk Tryd.prog tgl 25 vs x := by
  unfold c25 at h
  split at h
  · rw [got_yes h]; exact ok25 _ _
  · exact (got_no h).elim
theorem nogl25 (vs : List T) (p : Prop) (d : Decidable p) (sz : Nat) (xs : List T) (h : c25 vs = @Ans.gl p d sz xs) : False := by
  unfold c25 at h
  split at h <;> cases h
theorem pk25 (vs : List T) (p : Prop) (d : Decidable p) (x : T) (h : c25 vs = @Ans.pk p d x) (hp : p) : FnOk Tryd.prog tgl 25 vs x := by
  unfold c25 at h
  split at h
  · cases h
  · cases h
theorem ok16 (s o : Int) : FnOk Tryd.prog tgl 16 [.int .u64 s, .int .i64 o] (.int .u64 (iv (del (bv s) o))) := by
  refine fn_ok (Γ := E1) env_E1 Tryd.func16 low16 ?_
  conv => whnf
  repeat' (first | (refine brK_true rfl ?_; conv => whnf) | (refine brK_false rfl ?_; conv => whnf) | (refine brK_true (by assumption) ?_; conv => whnf) | (refine brK_false (by assumption) ?_; conv => whnf) | (refine brK_of (fun h => ?_) (fun h => ?_) <;> conv => whnf) | (refine reqK_of ?_ ?_; (focus (first | decide | omega | assumption | (simp [keyNew, sameKey, kEq] <;> omega))); conv => whnf) | (refine reqK_of ?_ ?_; rotate_left; (conv => whnf); rotate_left))
  rw [andNotI_u, bv_iv]; rfl
open Classical in
noncomputable def c16 : List T → Ans
  | [.int .u64 s, .int .i64 o] => .yes (.int .u64 (iv (del (bv s) o)))
  | _ => .no
theorem got16 {vs : List T} {x : T} (h : Got (c16 vs) x) : FnOk Tryd.prog tgl 16 vs x := by
  unfold c16 at h
  split at h
  · rw [got_yes h]; exact ok16 _ _
  · exact (got_no h).elim
theorem nogl16 (vs : List T) (p : Prop) (d : Decidable p) (sz : Nat) (xs : List T) (h : c16 vs = @Ans.gl p d sz xs) : False := by
  unfold c16 at h
  split at h <;> cases h
theorem pk16 (vs : List T) (p : Prop) (d : Decidable p) (x : T) (h : c16 vs = @Ans.pk p d x) (hp : p) : FnOk Tryd.prog tgl 16 vs x := by
  unfold c16 at h
  split at h
  · cases h
  · cases h
theorem ok35 (s : Int) : FnOk Tryd.prog tgl 35 [.int .u64 s] (.int .i64 (Pop.pcJ s)) := by
  refine fn_ok (Γ := E0) env_E0 Tryd.func35 low35 ?_
  conv => whnf
  repeat' (first
    | (refine brK_true rfl ?_; conv => whnf)
    | (refine brK_false rfl ?_; conv => whnf)
    | (refine brK_true (by assumption) ?_; conv => whnf)
    | (refine brK_false (by assumption) ?_; conv => whnf)
    | (refine brK_true ?_ ?_; (focus (simp only [List.length_nil, fx] <;> omega)); conv => whnf)
    | (refine brK_false ?_ ?_; (focus (simp only [List.length_nil, fx] <;> omega)); conv => whnf)
    | ((refine brK_of (fun h => ?_) (fun h => ?_)) <;> (have h2 := h; (try simp only [List.length_nil, fx] at h2); conv => whnf))
    | (refine reqK_of ?_ ?_; (focus (first | decide | omega | assumption | (simp only [List.length_nil, fx] <;> omega) | (simp [keyNew, sameKey, kEq] <;> omega))); conv => whnf)
    | (refine reqK_of ?_ ?_; rotate_left; (conv => whnf); rotate_left)
    | (refine nth_us ?_ ?_ ?_; (focus (first | omega | (simp only [List.length_nil, fx] <;> omega))); (focus (first | omega | (simp only [List.length_nil, fx] <;> omega))); conv => whnf)
    | (refine nth_is ?_ ?_ ?_; (focus (first | omega | (simp only [List.length_nil, fx] <;> omega))); (focus (first | omega | (simp only [List.length_nil, fx] <;> omega))); conv => whnf)
    | (refine nth_bs ?_ ?_ ?_; (focus (first | omega | (simp only [List.length_nil, fx] <;> omega))); (focus (first | omega | (simp only [List.length_nil, fx] <;> omega))); conv => whnf))
  rfl
open Classical in
noncomputable def c35 : List T → Ans
  | [.int .u64 s] => .yes (.int .i64 (Pop.pcJ s))
  | _ => .no
theorem got35 {vs : List T} {x : T} (h : Got (c35 vs) x) : FnOk Tryd.prog tgl 35 vs x := by
  unfold c35 at h
  split at h
  · rw [got_yes h]; exact ok35 _
  · exact (got_no h).elim
theorem nogl35 (vs : List T) (p : Prop) (d : Decidable p) (sz : Nat) (xs : List T) (h : c35 vs = @Ans.gl p d sz xs) : False := by
  unfold c35 at h
  split at h <;> cases h
theorem pk35 (vs : List T) (p : Prop) (d : Decidable p) (x : T) (h : c35 vs = @Ans.pk p d x) (hp : p) : FnOk Tryd.prog tgl 35 vs x := by
  unfold c35 at h
  split at h
  · cases h
  · cases h
noncomputable def lE1c : List (Nat × (List T → Ans)) := (35, c35) :: lE1
noncomputable def iE1c : List (Nat × Pt) := iE1
noncomputable abbrev E1c : Env := En tgl lE1c iE1c
theorem env_E1c : EnvOk Tryd.prog E1c := (env_fn env_E1 (fun _ _ => got35) (fun vs p d sz xs h _ => (nogl35 vs p d sz xs h).elim) pk35)
theorem ok18 (s : Int) (hq : R64 s) : FnOk Tryd.prog tgl 18 [.int .u64 s] (.int .i64 ((lsL (bv s)).length : Int)) := by
  refine fn_ok (Γ := E1c) env_E1c Tryd.func18 low18 ?_
  obtain ⟨b, rfl⟩ := exists_iv hq
  conv => whnf
  repeat' (first
    | (refine brK_true rfl ?_; conv => whnf)
    | (refine brK_false rfl ?_; conv => whnf)
    | (refine brK_true (by assumption) ?_; conv => whnf)
    | (refine brK_false (by assumption) ?_; conv => whnf)
    | (refine brK_true ?_ ?_; (focus (simp only [List.length_nil, fx] <;> omega)); conv => whnf)
    | (refine brK_false ?_ ?_; (focus (simp only [List.length_nil, fx] <;> omega)); conv => whnf)
    | ((refine brK_of (fun h => ?_) (fun h => ?_)) <;> (have h2 := h; (try simp only [List.length_nil, fx] at h2); conv => whnf))
    | (refine reqK_of ?_ ?_; (focus (first | decide | omega | assumption | (simp only [List.length_nil, fx] <;> omega) | (simp [keyNew, sameKey, kEq] <;> omega))); conv => whnf)
    | (refine reqK_of ?_ ?_; rotate_left; (conv => whnf); rotate_left)
    | (refine nth_us ?_ ?_ ?_; (focus (first | omega | (simp only [List.length_nil, fx] <;> omega))); (focus (first | omega | (simp only [List.length_nil, fx] <;> omega))); conv => whnf)
    | (refine nth_is ?_ ?_ ?_; (focus (first | omega | (simp only [List.length_nil, fx] <;> omega))); (focus (first | omega | (simp only [List.length_nil, fx] <;> omega))); conv => whnf)
    | (refine nth_bs ?_ ?_ ?_; (focus (first | omega | (simp only [List.length_nil, fx] <;> omega))); (focus (first | omega | (simp only [List.length_nil, fx] <;> omega))); conv => whnf))
  rw [pc_ls, bv_iv]
open Classical in
noncomputable def c18 : List T → Ans
  | [.int .u64 s] => .req (R64 s) (.int .i64 ((lsL (bv s)).length : Int))
  | _ => .no
theorem got18 {vs : List T} {x : T} (h : Got (c18 vs) x) : FnOk Tryd.prog tgl 18 vs x := by
  unfold c18 at h
  split at h
  · obtain ⟨hq, e⟩ := got_req h; rw [e]; exact ok18 _ hq
  · exact (got_no h).elim
theorem nogl18 (vs : List T) (p : Prop) (d : Decidable p) (sz : Nat) (xs : List T) (h : c18 vs = @Ans.gl p d sz xs) : False := by
  unfold c18 at h
  split at h <;> cases h
theorem pk18 (vs : List T) (p : Prop) (d : Decidable p) (x : T) (h : c18 vs = @Ans.pk p d x) (hp : p) : FnOk Tryd.prog tgl 18 vs x := by
  unfold c18 at h
  split at h
  · cases h
  · cases h
theorem ok13 (s o : Int) (hq : R64 s) : FnOk Tryd.prog tgl 13 [.int .u64 s, .int .i64 o] (.bool (has (bv s) o)) := by
  refine fn_ok (Γ := E1) env_E1 Tryd.func13 low13 ?_
  obtain ⟨b, rfl⟩ := exists_iv hq
  by_cases ho : obj o = true
  · have h' := obj_iff.1 ho
    have hw : IntKind.i64.wrap (o - 1) = o - 1 := wrap_i64 ⟨by omega, by omega⟩
    conv => whnf
    repeat' (first
      | (refine brK_true rfl ?_; conv => whnf)
      | (refine brK_false rfl ?_; conv => whnf)
      | (refine brK_true (by assumption) ?_; conv => whnf)
      | (refine brK_false (by assumption) ?_; conv => whnf)
      | (refine brK_true ?_ ?_; (focus (simp only [List.length_nil, fx, hw] <;> omega)); conv => whnf)
      | (refine brK_false ?_ ?_; (focus (simp only [List.length_nil, fx, hw] <;> omega)); conv => whnf)
      | ((refine brK_of (fun h => ?_) (fun h => ?_)) <;> (have h2 := h; (try simp only [List.length_nil, fx, hw] at h2); conv => whnf))
      | (refine reqK_of ?_ ?_; (focus (first | decide | omega | assumption | (simp only [List.length_nil, fx, hw] <;> omega) | (simp [keyNew, sameKey, kEq] <;> omega))); conv => whnf)
      | (refine reqK_of ?_ ?_; rotate_left; (conv => whnf); rotate_left)
      | (refine nth_us ?_ ?_ ?_; (focus (first | omega | (simp only [List.length_nil, fx, hw] <;> omega))); (focus (first | omega | (simp only [List.length_nil, fx, hw] <;> omega))); conv => whnf)
      | (refine nth_is ?_ ?_ ?_; (focus (first | omega | (simp only [List.length_nil, fx, hw] <;> omega))); (focus (first | omega | (simp only [List.length_nil, fx, hw] <;> omega))); conv => whnf)
      | (refine nth_bs ?_ ?_ ?_; (focus (first | omega | (simp only [List.length_nil, fx, hw] <;> omega))); (focus (first | omega | (simp only [List.length_nil, fx, hw] <;> omega))); conv => whnf))
    all_goals first
      | (exfalso; omega)
      | (rw [hw, shrI_u _ _ ⟨by omega, by omega⟩, shr_bit _ _ (by omega), bv_iv]
         simp [has, ho])
      | (rw [hw]; omega)
      | skip
  · simp only [Bool.not_eq_true] at ho
    conv => whnf
    repeat' (first
      | (refine brK_true rfl ?_; conv => whnf)
      | (refine brK_false rfl ?_; conv => whnf)
      | (refine brK_true (by assumption) ?_; conv => whnf)
      | (refine brK_false (by assumption) ?_; conv => whnf)
      | (refine brK_true ?_ ?_; (focus (simp only [List.length_nil, fx] <;> omega)); conv => whnf)
      | (refine brK_false ?_ ?_; (focus (simp only [List.length_nil, fx] <;> omega)); conv => whnf)
      | ((refine brK_of (fun h => ?_) (fun h => ?_)) <;> (have h2 := h; (try simp only [List.length_nil, fx] at h2); conv => whnf))
      | (refine reqK_of ?_ ?_; (focus (first | decide | omega | assumption | (simp only [List.length_nil, fx] <;> omega) | (simp [keyNew, sameKey, kEq] <;> omega))); conv => whnf)
      | (refine reqK_of ?_ ?_; rotate_left; (conv => whnf); rotate_left)
      | (refine nth_us ?_ ?_ ?_; (focus (first | omega | (simp only [List.length_nil, fx] <;> omega))); (focus (first | omega | (simp only [List.length_nil, fx] <;> omega))); conv => whnf)
      | (refine nth_is ?_ ?_ ?_; (focus (first | omega | (simp only [List.length_nil, fx] <;> omega))); (focus (first | omega | (simp only [List.length_nil, fx] <;> omega))); conv => whnf)
      | (refine nth_bs ?_ ?_ ?_; (focus (first | omega | (simp only [List.length_nil, fx] <;> omega))); (focus (first | omega | (simp only [List.length_nil, fx] <;> omega))); conv => whnf))
    rw [has_obj ho]
open Classical in
noncomputable def c13 : List T → Ans
  | [.int .u64 s, .int .i64 o] => .req (R64 s) (.bool (has (bv s) o))
  | _ => .no
theorem got13 {vs : List T} {x : T} (h : Got (c13 vs) x) : FnOk Tryd.prog tgl 13 vs x := by
  unfold c13 at h
  split at h
  · obtain ⟨hq, e⟩ := got_req h; rw [e]; exact ok13 _ _ hq
  · exact (got_no h).elim
theorem nogl13 (vs : List T) (p : Prop) (d : Decidable p) (sz : Nat) (xs : List T) (h : c13 vs = @Ans.gl p d sz xs) : False := by
  unfold c13 at h
  split at h <;> cases h
theorem pk13 (vs : List T) (p : Prop) (d : Decidable p) (x : T) (h : c13 vs = @Ans.pk p d x) (hp : p) : FnOk Tryd.prog tgl 13 vs x := by
  unfold c13 at h
  split at h
  · cases h
  · cases h
theorem ok15 (s o : Int) (hq : R64 s) : FnOk Tryd.prog tgl 15 [.int .u64 s, .int .i64 o] (.int .u64 (iv (add (bv s) o))) := by
  refine fn_ok (Γ := E1) env_E1 Tryd.func15 low15 ?_
  conv => whnf
  repeat' (first | (refine brK_true rfl ?_; conv => whnf) | (refine brK_false rfl ?_; conv => whnf) | (refine brK_true (by assumption) ?_; conv => whnf) | (refine brK_false (by assumption) ?_; conv => whnf) | (refine brK_of (fun h => ?_) (fun h => ?_) <;> conv => whnf) | (refine reqK_of ?_ ?_; (focus (first | decide | omega | assumption | (simp [keyNew, sameKey, kEq] <;> omega))); conv => whnf) | (refine reqK_of ?_ ?_; rotate_left; (conv => whnf); rotate_left))
  · have h' : obj o = false := by simpa using h
    rw [add, bit_out h']; simp [iv_bv hq]
  · have h' : obj o = true := by simpa using h
    have h2 := of_decide_eq_true h'
    rw [wrap_i64 ⟨by omega, by omega⟩]; omega
  · have h' : obj o = true := by simpa using h
    have h2 := of_decide_eq_true h'
    rw [wrap_i64 ⟨by omega, by omega⟩, shlI_u _ _ ⟨by omega, by omega⟩, orI_u, add, bit_in h', bv1, bv_iv]
open Classical in
noncomputable def c15 : List T → Ans
  | [.int .u64 s, .int .i64 o] => .req (R64 s) (.int .u64 (iv (add (bv s) o)))
  | _ => .no
theorem got15 {vs : List T} {x : T} (h : Got (c15 vs) x) : FnOk Tryd.prog tgl 15 vs x := by
  unfold c15 at h
  split at h
  · obtain ⟨hq, e⟩ := got_req h; rw [e]; exact ok15 _ _ hq
  · exact (got_no h).elim
theorem nogl15 (vs : List T) (p : Prop) (d : Decidable p) (sz : Nat) (xs : List T) (h : c15 vs = @Ans.gl p d sz xs) : False := by
  unfold c15 at h
  split at h <;> cases h
theorem pk15 (vs : List T) (p : Prop) (d : Decidable p) (x : T) (h : c15 vs = @Ans.pk p d x) (hp : p) : FnOk Tryd.prog tgl 15 vs x := by
  unfold c15 at h
  split at h
  · cases h
  · cases h
theorem ok27 (n : Int) : FnOk Tryd.prog tgl 27 [.int .i64 n] (.int .u64 (iv (first n))) := by
  refine fn_ok (Γ := E1) env_E1 Tryd.func27 low27 ?_
  conv => whnf
  repeat' (first | (refine brK_true rfl ?_; conv => whnf) | (refine brK_false rfl ?_; conv => whnf) | (refine brK_true (by assumption) ?_; conv => whnf) | (refine brK_false (by assumption) ?_; conv => whnf) | (refine brK_of (fun h => ?_) (fun h => ?_) <;> conv => whnf) | (refine reqK_of ?_ ?_; (focus (first | decide | omega | assumption | (simp [keyNew, sameKey, kEq] <;> omega))); conv => whnf) | (refine reqK_of ?_ ?_; rotate_left; (conv => whnf); rotate_left))
  · rw [lt_t] at h; simp [first, h, iv]
  · rw [lt_f] at h
    rw [minI_def]; split <;> rw [wrap_i64 ⟨by omega, by omega⟩] <;> omega
  · rw [lt_f] at h
    have e : minI n 64 = min n 64 := by rw [minI_def]; split <;> omega
    have e2 : (18446744073709551615 : Int) = iv (BitVec.allOnes 64) := rfl
    rw [e, wrap_i64 ⟨by omega, by omega⟩, e2, shrI_u _ _ ⟨by omega, by omega⟩, first, if_neg (by omega)]
open Classical in
noncomputable def c27 : List T → Ans
  | [.int .i64 n] => .yes (.int .u64 (iv (first n)))
  | _ => .no
theorem got27 {vs : List T} {x : T} (h : Got (c27 vs) x) : FnOk Tryd.prog tgl 27 vs x := by
  unfold c27 at h
  split at h
  · rw [got_yes h]; exact ok27 _
  · exact (got_no h).elim
theorem nogl27 (vs : List T) (p : Prop) (d : Decidable p) (sz : Nat) (xs : List T) (h : c27 vs = @Ans.gl p d sz xs) : False := by
  unfold c27 at h
  split at h <;> cases h
theorem pk27 (vs : List T) (p : Prop) (d : Decidable p) (x : T) (h : c27 vs = @Ans.pk p d x) (hp : p) : FnOk Tryd.prog tgl 27 vs x := by
  unfold c27 at h
  split at h
  · cases h
  · cases h
noncomputable def lE2 : List (Nat × (List T → Ans)) := (12, c12) :: (14, c14) :: (25, c25) :: (27, c27) :: (13, c13) :: (15, c15) :: (16, c16) :: (18, c18) :: lE1
noncomputable def iE2 : List (Nat × Pt) := iE1
noncomputable abbrev E2 : Env := En tgl lE2 iE2
theorem env_E2 : EnvOk Tryd.prog E2 := (env_fn (env_fn (env_fn (env_fn (env_fn (env_fn (env_fn (env_fn env_E1 (fun _ _ => got18) (fun vs p d sz xs h _ => (nogl18 vs p d sz xs h).elim) pk18) (fun _ _ => got16) (fun vs p d sz xs h _ => (nogl16 vs p d sz xs h).elim) pk16) (fun _ _ => got15) (fun vs p d sz xs h _ => (nogl15 vs p d sz xs h).elim) pk15) (fun _ _ => got13) (fun vs p d sz xs h _ => (nogl13 vs p d sz xs h).elim) pk13) (fun _ _ => got27) (fun vs p d sz xs h _ => (nogl27 vs p d sz xs h).elim) pk27) (fun _ _ => got25) (fun vs p d sz xs h _ => (nogl25 vs p d sz xs h).elim) pk25) (fun _ _ => got14) (fun vs p d sz xs h _ => (nogl14 vs p d sz xs h).elim) pk14) (fun _ _ => got12) (fun vs p d sz xs h _ => (nogl12 vs p d sz xs h).elim) pk12)
end Go.Nx
