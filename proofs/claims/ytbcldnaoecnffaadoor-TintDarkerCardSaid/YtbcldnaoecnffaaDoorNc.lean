/-
  WHAT THE SETS' FUNCTIONS ANSWER.
-/
import Derived.Test.YtbcldnaoecnffaaDoorNb
set_option linter.unusedVariables false
namespace Go.Mx
open Go.RowKit Go.Proofs

def ansL : List (Nat × (List T → Ans)) → Nat → List T → Ans
  | [], _, _ => .no
  | p :: r, f, vs => match p with
    | (j, g) => match Nat.beq j f with
      | true => g vs
      | false => ansL r f vs
def Got (a : Ans) (x : T) : Prop := a = .yes x ∨ ∃ p, a = .req p x ∧ p
theorem got_yes {x y : T} (h : Got (.yes x) y) : y = x := by
  rcases h with h | ⟨p, h, _⟩
  · cases h; rfl
  · cases h
theorem got_req {p : Prop} {x y : T} (h : Got (.req p x) y) : p ∧ y = x := by
  rcases h with h | ⟨q, h, hq⟩
  · cases h
  · cases h; exact ⟨hq, rfl⟩
theorem got_no {x : T} (h : Got .no x) : False := by
  rcases h with h | ⟨q, h, hq⟩ <;> cases h
theorem env_nil {P : Program} {gl : Nat → Option (List T)} : EnvOk P ⟨ansL [], gl⟩ := fun f vs x h => (got_no h).elim
theorem env_cons {P : Program} {gl : Nat → Option (List T)} {l : List (Nat × (List T → Ans))} {n : Nat} {g : List T → Ans} (h : EnvOk P ⟨ansL l, gl⟩)
    (hg : ∀ vs x, Got (g vs) x → FnOk P gl n vs x) : EnvOk P ⟨ansL ((n, g) :: l), gl⟩ := by
  intro f vs x hx
  have hx' : Got (ansL ((n, g) :: l) f vs) x := hx
  simp only [ansL] at hx'
  cases e : Nat.beq n f with
  | true =>
    rw [e] at hx'
    rw [← Nat.eq_of_beq_eq_true e]
    exact hg vs x hx'
  | false =>
    rw [e] at hx'
    exact h f vs x hx'

def tgl (g : Nat) : Option (List T) := match g with
  | 0 => some [.str ⟨#[119]⟩, .str ⟨#[103]⟩, .str ⟨#[98]⟩]
  | _ => none

theorem lt_t {a b : Int} : ltI a b = true ↔ a < b := by rw [ltI_def]; simp
theorem lt_f {a b : Int} : ltI a b = false ↔ b ≤ a := by rw [ltI_def]; simp
theorem le_t {a b : Int} : leI a b = true ↔ a ≤ b := by rw [leI_def]; simp
theorem le_f {a b : Int} : leI a b = false ↔ b < a := by rw [leI_def]; simp
theorem obj_t {o : Int} (h : 1 ≤ o) (h' : o ≤ 64) : obj o = true := decide_eq_true ⟨h, h'⟩
theorem obj_f {o : Int} (h : o < 1 ∨ 64 < o) : obj o = false := decide_eq_false (by omega)
theorem bit_out {o : Int} (h : obj o = false) : bit o = 0 := by simp [bit, h]
theorem bit_in {o : Int} (h : obj o = true) : bit o = 1#64 <<< (o - 1).toNat := by simp [bit, h]
theorem bv1 : bv 1 = 1#64 := rfl

/-! the small ones -/
def l0 : List (Nat × (List T → Ans)) := []
def e0 : Env := ⟨ansL l0, tgl⟩
theorem env0 : EnvOk Tryd.prog e0 := env_nil
def c37 : List T → Ans
  | [.int .i64 o] => .yes (.int .u64 (iv (bit o)))
  | _ => .no
theorem ok37 (o : Int) : FnOk Tryd.prog tgl 37 [.int .i64 o] (.int .u64 (iv (bit o))) := by
  refine fn_ok (Γ := e0) env0 Tryd.func37 low37 ?_
  conv => whnf
  repeat' (first | (refine brK_true (by assumption) ?_; conv => whnf) | (refine brK_false (by assumption) ?_; conv => whnf) | (refine brK_of (fun h => ?_) (fun h => ?_) <;> conv => whnf) | (refine reqK_of ?_ ?_; rotate_left; (conv => whnf); rotate_left))
  · rw [lt_t] at h; rw [bit_out (obj_f (.inl h))]; rfl
  · rw [lt_t] at h; rw [bit_out (obj_f (.inr h))]; rfl
  · rename_i h1
    rw [lt_f] at h h1
    rw [wrap_i64 ⟨by omega, by omega⟩]; omega
  · rename_i h1
    rw [lt_f] at h h1
    have e : IntKind.i64.wrap (o - 1) = o - 1 := wrap_i64 ⟨by omega, by omega⟩
    rw [e, shlI_u _ _ ⟨by omega, by omega⟩, bit_in (obj_t h1 h), bv1]
theorem got37 {vs : List T} {x : T} (h : Got (c37 vs) x) : FnOk Tryd.prog tgl 37 vs x := by
  unfold c37 at h
  split at h
  · rw [got_yes h]; exact ok37 _
  · exact (got_no h).elim
def c39 : List T → Ans
  | [.int .i64 o] => .yes (.bool (obj o))
  | _ => .no
theorem ok39 (o : Int) : FnOk Tryd.prog tgl 39 [.int .i64 o] (.bool (obj o)) := by
  refine fn_ok (Γ := e0) env0 Tryd.func39 low39 ?_
  conv => whnf
  repeat' (first | (refine brK_true (by assumption) ?_; conv => whnf) | (refine brK_false (by assumption) ?_; conv => whnf) | (refine brK_of (fun h => ?_) (fun h => ?_) <;> conv => whnf) | (refine reqK_of ?_ ?_; rotate_left; (conv => whnf); rotate_left))
  · rw [le_t] at h; simp [leI_def, obj, h]
  · rw [le_f] at h; rw [obj_f (.inl h)]
theorem got39 {vs : List T} {x : T} (h : Got (c39 vs) x) : FnOk Tryd.prog tgl 39 vs x := by
  unfold c39 at h
  split at h
  · rw [got_yes h]; exact ok39 _
  · exact (got_no h).elim
def l1 : List (Nat × (List T → Ans)) := (37, c37) :: (39, c39) :: l0
def e1 : Env := ⟨ansL l1, tgl⟩
theorem env1 : EnvOk Tryd.prog e1 := (env_cons (env_cons env0 fun _ _ => got39) fun _ _ => got37)
theorem shr_bit (b : B) (k : Nat) (hk : k < 64) : eqI (Int.tmod (iv (b >>> k)) 2) 1 = b.getLsbD k := by
  rw [eqI_def]
  have h0 := (R_iv (b >>> k)).1
  rw [Int.tmod_eq_emod_of_nonneg h0]
  unfold iv
  rw [Bool.eq_iff_iff, beq_iff_eq, BitVec.toNat_ushiftRight, BitVec.getLsbD, Nat.testBit, Nat.and_comm]
  simp only [bne_iff_ne, ne_eq, Nat.and_one_is_mod]
  omega
def c28 : List T → Ans
  | [.int .u64 s, .int .i64 o] => .yes (.bool (has (bv s) o))
  | _ => .no
theorem ok28 (s o : Int) : FnOk Tryd.prog tgl 28 [.int .u64 s, .int .i64 o] (.bool (has (bv s) o)) := by
  refine fn_ok (Γ := e1) env1 Tryd.func28 low28 ?_
  conv => whnf
  repeat' (first | (refine brK_true (by assumption) ?_; conv => whnf) | (refine brK_false (by assumption) ?_; conv => whnf) | (refine brK_of (fun h => ?_) (fun h => ?_) <;> conv => whnf) | (refine reqK_of ?_ ?_; rotate_left; (conv => whnf); rotate_left))
  rw [andI_u, eqI_iv0, bv_iv, has_bit, Bool.not_not]
theorem got28 {vs : List T} {x : T} (h : Got (c28 vs) x) : FnOk Tryd.prog tgl 28 vs x := by
  unfold c28 at h
  split at h
  · rw [got_yes h]; exact ok28 _ _
  · exact (got_no h).elim
def c31 : List T → Ans
  | [.int .u64 s, .int .i64 o] => .yes (.int .u64 (iv (add (bv s) o)))
  | _ => .no
theorem ok31 (s o : Int) : FnOk Tryd.prog tgl 31 [.int .u64 s, .int .i64 o] (.int .u64 (iv (add (bv s) o))) := by
  refine fn_ok (Γ := e1) env1 Tryd.func31 low31 ?_
  conv => whnf
  repeat' (first | (refine brK_true (by assumption) ?_; conv => whnf) | (refine brK_false (by assumption) ?_; conv => whnf) | (refine brK_of (fun h => ?_) (fun h => ?_) <;> conv => whnf) | (refine reqK_of ?_ ?_; rotate_left; (conv => whnf); rotate_left))
  rw [orI_u, bv_iv]; rfl
theorem got31 {vs : List T} {x : T} (h : Got (c31 vs) x) : FnOk Tryd.prog tgl 31 vs x := by
  unfold c31 at h
  split at h
  · rw [got_yes h]; exact ok31 _ _
  · exact (got_no h).elim
def c29 : List T → Ans
  | [.int .u64 s, .int .u64 t] => .yes (.bool (under (bv s) (bv t)))
  | _ => .no
theorem ok29 (s t : Int) : FnOk Tryd.prog tgl 29 [.int .u64 s, .int .u64 t] (.bool (under (bv s) (bv t))) := by
  refine fn_ok (Γ := e1) env1 Tryd.func29 low29 ?_
  conv => whnf
  repeat' (first | (refine brK_true (by assumption) ?_; conv => whnf) | (refine brK_false (by assumption) ?_; conv => whnf) | (refine brK_of (fun h => ?_) (fun h => ?_) <;> conv => whnf) | (refine reqK_of ?_ ?_; rotate_left; (conv => whnf); rotate_left))
  rw [andNotI_u, eqI_iv0, under_not]
theorem got29 {vs : List T} {x : T} (h : Got (c29 vs) x) : FnOk Tryd.prog tgl 29 vs x := by
  unfold c29 at h
  split at h
  · rw [got_yes h]; exact ok29 _ _
  · exact (got_no h).elim
def c32 : List T → Ans
  | [.int .u64 s, .int .i64 o] => .req (R64 s) (.bool (has (bv s) o))
  | _ => .no
theorem ok32 (s o : Int) (hq : R64 s) : FnOk Tryd.prog tgl 32 [.int .u64 s, .int .i64 o] (.bool (has (bv s) o)) := by
  refine fn_ok (Γ := e1) env1 Tryd.func32 low32 ?_
  conv => whnf
  repeat' (first | (refine brK_true (by assumption) ?_; conv => whnf) | (refine brK_false (by assumption) ?_; conv => whnf) | (refine brK_of (fun h => ?_) (fun h => ?_) <;> conv => whnf) | (refine reqK_of ?_ ?_; rotate_left; (conv => whnf); rotate_left))
  · have h' := of_decide_eq_true h
    rw [wrap_i64 ⟨by omega, by omega⟩]; omega
  · decide
  · have h' := of_decide_eq_true h
    obtain ⟨b, rfl⟩ := exists_iv hq
    rw [wrap_i64 ⟨by omega, by omega⟩, shrI_u _ _ ⟨by omega, by omega⟩, shr_bit _ _ (by omega), bv_iv]
    simp [has, h]
  · simp [has, h]
theorem got32 {vs : List T} {x : T} (h : Got (c32 vs) x) : FnOk Tryd.prog tgl 32 vs x := by
  unfold c32 at h
  split at h
  · obtain ⟨hq, e⟩ := got_req h; rw [e]; exact ok32 _ _ hq
  · exact (got_no h).elim
def c33 : List T → Ans
  | [.int .u64 s, .int .i64 o] => .req (R64 s) (.int .u64 (iv (add (bv s) o)))
  | _ => .no
theorem ok33 (s o : Int) (hq : R64 s) : FnOk Tryd.prog tgl 33 [.int .u64 s, .int .i64 o] (.int .u64 (iv (add (bv s) o))) := by
  refine fn_ok (Γ := e1) env1 Tryd.func33 low33 ?_
  conv => whnf
  repeat' (first | (refine brK_true (by assumption) ?_; conv => whnf) | (refine brK_false (by assumption) ?_; conv => whnf) | (refine brK_of (fun h => ?_) (fun h => ?_) <;> conv => whnf) | (refine reqK_of ?_ ?_; rotate_left; (conv => whnf); rotate_left))
  · have h' : obj o = false := by simpa using h
    rw [add, bit_out h']; simp [iv_bv hq]
  · have h' : obj o = true := by simpa using h
    have h2 := of_decide_eq_true h'
    rw [wrap_i64 ⟨by omega, by omega⟩]; omega
  · have h' : obj o = true := by simpa using h
    have h2 := of_decide_eq_true h'
    rw [wrap_i64 ⟨by omega, by omega⟩, shlI_u _ _ ⟨by omega, by omega⟩, orI_u, add, bit_in h', bv1, bv_iv]
theorem got33 {vs : List T} {x : T} (h : Got (c33 vs) x) : FnOk Tryd.prog tgl 33 vs x := by
  unfold c33 at h
  split at h
  · obtain ⟨hq, e⟩ := got_req h; rw [e]; exact ok33 _ _ hq
  · exact (got_no h).elim
def c35 : List T → Ans
  | [.int .u64 s, .int .u64 t] => .req (R64 s) (.bool (under (bv s) (bv t)))
  | _ => .no
theorem ok35 (s t : Int) (hq : R64 s) : FnOk Tryd.prog tgl 35 [.int .u64 s, .int .u64 t] (.bool (under (bv s) (bv t))) := by
  refine fn_ok (Γ := e1) env1 Tryd.func35 low35 ?_
  conv => whnf
  repeat' (first | (refine brK_true (by assumption) ?_; conv => whnf) | (refine brK_false (by assumption) ?_; conv => whnf) | (refine brK_of (fun h => ?_) (fun h => ?_) <;> conv => whnf) | (refine reqK_of ?_ ?_; rotate_left; (conv => whnf); rotate_left))
  obtain ⟨b, rfl⟩ := exists_iv hq
  rw [andI_u, eqI_iv, bv_iv]; rfl
theorem got35 {vs : List T} {x : T} (h : Got (c35 vs) x) : FnOk Tryd.prog tgl 35 vs x := by
  unfold c35 at h
  split at h
  · obtain ⟨hq, e⟩ := got_req h; rw [e]; exact ok35 _ _ hq
  · exact (got_no h).elim
def c34 : List T → Ans
  | [.int .i64 n] => .yes (.int .u64 (iv (first n)))
  | _ => .no
theorem ok34 (n : Int) : FnOk Tryd.prog tgl 34 [.int .i64 n] (.int .u64 (iv (first n))) := by
  refine fn_ok (Γ := e1) env1 Tryd.func34 low34 ?_
  conv => whnf
  repeat' (first | (refine brK_true (by assumption) ?_; conv => whnf) | (refine brK_false (by assumption) ?_; conv => whnf) | (refine brK_of (fun h => ?_) (fun h => ?_) <;> conv => whnf) | (refine reqK_of ?_ ?_; rotate_left; (conv => whnf); rotate_left))
  · rw [lt_t] at h; simp [first, h, iv]
  · rw [lt_f] at h
    rw [minI_def]; split <;> rw [wrap_i64 ⟨by omega, by omega⟩] <;> omega
  · rw [lt_f] at h
    have e : minI n 64 = min n 64 := by rw [minI_def]; split <;> omega
    have e2 : (18446744073709551615 : Int) = iv (BitVec.allOnes 64) := rfl
    rw [e, wrap_i64 ⟨by omega, by omega⟩, e2, shrI_u _ _ ⟨by omega, by omega⟩, first, if_neg (by omega)]
theorem got34 {vs : List T} {x : T} (h : Got (c34 vs) x) : FnOk Tryd.prog tgl 34 vs x := by
  unfold c34 at h
  split at h
  · rw [got_yes h]; exact ok34 _
  · exact (got_no h).elim
def l2 : List (Nat × (List T → Ans)) := (28, c28) :: (31, c31) :: (29, c29) :: (32, c32) :: (33, c33) :: (35, c35) :: (34, c34) :: l1
def e2 : Env := ⟨ansL l2, tgl⟩
theorem env2 : EnvOk Tryd.prog e2 := (env_cons (env_cons (env_cons (env_cons (env_cons (env_cons (env_cons env1 fun _ _ => got34) fun _ _ => got35) fun _ _ => got33) fun _ _ => got32) fun _ _ => got29) fun _ _ => got31) fun _ _ => got28)
end Go.Mx
