/-
  CELLS; THE CHAIN's SMALL FUNCTIONS.
-/
import Derived.Test.YtlgnjeilhjhnkaaCa
import Derived.Test.YtlgnjeilhjhnkaaYc
set_option linter.unusedVariables false
set_option linter.unusedSimpArgs false
set_option maxRecDepth 20000
set_option maxHeartbeats 1000000
namespace Go.Nx
open Go.RowKit Go.Proofs

def tgl (g : Nat) : Option (List T) := none
def nd (h : Int) : Int := h % 4294967296
def pk (v n : Int) : Int := v % 4294967296 * 4294967296 + n % 4294967296
theorem R_nd (h : Int) : 0 ≤ nd h ∧ nd h < 4294967296 := by unfold nd; omega
theorem R_pk (v n : Int) : R64 (pk v n) := by unfold pk R64; omega
theorem mask_low (h : Int) : andI .u64 h 4294967295 = nd h := by
  rw [andI_u]
  unfold nd iv
  have e : (bv 4294967295 : B) = BitVec.ofNat 64 (2 ^ 32 - 1) := rfl
  rw [e, BitVec.toNat_and]
  have e2 : (BitVec.ofNat 64 (2 ^ 32 - 1)).toNat = 2 ^ 32 - 1 := rfl
  rw [e2, Nat.and_two_pow_sub_one_eq_mod]
  simp only [bv, BitVec.toNat_ofInt]
  omega
theorem pack_or (v n : Int) : orI .u64 (shlI .u64 v 32) (andI .u64 n 4294967295) = pk v n := by
  rw [mask_low, shlI_u v 32 (by omega), orI_u, bv_iv]
  unfold iv pk
  rw [BitVec.toNat_or, BitVec.toNat_shiftLeft]
  have h1 : (bv (nd n)).toNat = (nd n).toNat := by
    have := R_nd n
    simp only [bv, BitVec.toNat_ofInt]; omega
  have h2 : (bv v).toNat <<< Int.toNat 32 % 2 ^ 64 = (v % 4294967296).toNat <<< 32 := by
    simp only [bv, BitVec.toNat_ofInt, Nat.shiftLeft_eq]
    have : Int.toNat 32 = 32 := rfl
    rw [this]
    have e3 : (2 : Nat) ^ 32 = 4294967296 := by decide
    have e4 : (2 : Nat) ^ 64 = 18446744073709551616 := by decide
    rw [e3, e4]; omega
  rw [h1, h2, ← Nat.shiftLeft_add_eq_or_of_lt (by have := R_nd n; omega), Nat.shiftLeft_eq]
  have := R_nd n
  have e3 : (2 : Nat) ^ 32 = 4294967296 := by decide
  rw [e3]
  unfold nd at *
  omega
theorem rem_low {h : Int} (hr : R64 h) : h.tmod 4294967296 = nd h := Int.tmod_eq_emod_of_nonneg hr.1
theorem pack_add {v : Int} (h : R64 v) (n : Int) : IntKind.u64.wrap (shlI .u64 (v.tmod 4294967296) 32 + (IntKind.u64.wrap n).tmod 4294967296) = pk v n := by
  have hw : (IntKind.u64.wrap n).tmod 4294967296 = n % 4294967296 := by
    rw [wrap_iv, Int.tmod_eq_emod_of_nonneg (R_iv _).1]
    simp only [iv, bv, BitVec.toNat_ofInt]
    have e4 : (2 : Nat) ^ 64 = 18446744073709551616 := by decide
    rw [e4]; omega
  have hs : shlI .u64 (v.tmod 4294967296) 32 = v % 4294967296 * 4294967296 := by
    rw [Int.tmod_eq_emod_of_nonneg h.1]
    unfold shlI
    have : min (Int.toNat 32) (IntKind.bits .u64) = 32 := rfl
    rw [this]
    exact wrap_u64 (by unfold R64; omega)
  rw [hw, hs]
  exact wrap_u64 (R_pk v n)
theorem wrap_nd (h : Int) : IntKind.i64.wrap (nd h) = nd h := wrap_i64 (by have := R_nd h; unfold I64; omega)
theorem wrapu_nd (h : Int) : IntKind.u64.wrap (nd h) = nd h := wrap_u64 (by have := R_nd h; unfold R64; omega)
noncomputable def lE0 : List (Nat × (List T → Ans)) := []
noncomputable def iE0 : List (Nat × Pt) := []
noncomputable abbrev E0 : Env := En tgl lE0 iE0
theorem env_E0 : EnvOk Try.prog E0 := env_nil
theorem ok19 (v n : Int) : FnOk Try.prog tgl 19 [.int .u64 v, .int .i64 n] (.int .u64 (pk v n)) := by
  refine fn_ok (Γ := E0) env_E0 Try.func19 low19 ?_
  conv => whnf
  repeat' (first | (refine brK_true (by assumption) ?_; conv => whnf) | (refine brK_false (by assumption) ?_; conv => whnf) | (refine brK_of (fun h => ?_) (fun h => ?_) <;> conv => whnf) | (refine reqK_of ?_ ?_; (focus (first | decide | omega | assumption | (simp [keyNew, sameKey, kEq] <;> omega))); conv => whnf) | (refine reqK_of ?_ ?_; rotate_left; (conv => whnf); rotate_left))
  show T.int .u64 (orI .u64 (shlI .u64 v 32) (andI .u64 (IntKind.u64.wrap n) 4294967295)) = _
  rw [pack_or]
  unfold pk
  rw [wrap_iv]
  simp only [iv, bv, BitVec.toNat_ofInt]
  have e4 : (2 : Nat) ^ 64 = 18446744073709551616 := by decide
  rw [e4]
  congr 2
  omega
open Classical in
noncomputable def c19 : List T → Ans
  | [.int .u64 v, .int .i64 n] => .yes (.int .u64 (pk v n))
  | _ => .no
theorem got19 {vs : List T} {x : T} (h : Got (c19 vs) x) : FnOk Try.prog tgl 19 vs x := by
  unfold c19 at h
  split at h
  · rw [got_yes h]; exact ok19 _ _
  · exact (got_no h).elim
theorem nogl19 (vs : List T) (p : Prop) (sz : Nat) (xs : List T) (h : c19 vs = .gl p sz xs) : False := by
  unfold c19 at h
  split at h <;> cases h
theorem ok21 (h : Int) : FnOk Try.prog tgl 21 [.int .u64 h] (.int .i64 (nd h)) := by
  refine fn_ok (Γ := E0) env_E0 Try.func21 low21 ?_
  conv => whnf
  repeat' (first | (refine brK_true (by assumption) ?_; conv => whnf) | (refine brK_false (by assumption) ?_; conv => whnf) | (refine brK_of (fun h => ?_) (fun h => ?_) <;> conv => whnf) | (refine reqK_of ?_ ?_; (focus (first | decide | omega | assumption | (simp [keyNew, sameKey, kEq] <;> omega))); conv => whnf) | (refine reqK_of ?_ ?_; rotate_left; (conv => whnf); rotate_left))
  rw [mask_low, wrap_nd]
open Classical in
noncomputable def c21 : List T → Ans
  | [.int .u64 h] => .yes (.int .i64 (nd h))
  | _ => .no
theorem got21 {vs : List T} {x : T} (h : Got (c21 vs) x) : FnOk Try.prog tgl 21 vs x := by
  unfold c21 at h
  split at h
  · rw [got_yes h]; exact ok21 _
  · exact (got_no h).elim
theorem nogl21 (vs : List T) (p : Prop) (sz : Nat) (xs : List T) (h : c21 vs = .gl p sz xs) : False := by
  unfold c21 at h
  split at h <;> cases h
theorem ok20 (v n : Int) (hq : R64 v) : FnOk Try.prog tgl 20 [.int .u64 v, .int .i64 n] (.int .u64 (pk v n)) := by
  refine fn_ok (Γ := E0) env_E0 Try.func20 low20 ?_
  conv => whnf
  repeat' (first | (refine brK_true (by assumption) ?_; conv => whnf) | (refine brK_false (by assumption) ?_; conv => whnf) | (refine brK_of (fun h => ?_) (fun h => ?_) <;> conv => whnf) | (refine reqK_of ?_ ?_; (focus (first | decide | omega | assumption | (simp [keyNew, sameKey, kEq] <;> omega))); conv => whnf) | (refine reqK_of ?_ ?_; rotate_left; (conv => whnf); rotate_left))
  rw [pack_add hq]
open Classical in
noncomputable def c20 : List T → Ans
  | [.int .u64 v, .int .i64 n] => .req (R64 v) (.int .u64 (pk v n))
  | _ => .no
theorem got20 {vs : List T} {x : T} (h : Got (c20 vs) x) : FnOk Try.prog tgl 20 vs x := by
  unfold c20 at h
  split at h
  · obtain ⟨hq, e⟩ := got_req h; rw [e]; exact ok20 _ _ hq
  · exact (got_no h).elim
theorem nogl20 (vs : List T) (p : Prop) (sz : Nat) (xs : List T) (h : c20 vs = .gl p sz xs) : False := by
  unfold c20 at h
  split at h <;> cases h
theorem ok22 (h : Int) (hq : R64 h) : FnOk Try.prog tgl 22 [.int .u64 h] (.int .i64 (nd h)) := by
  refine fn_ok (Γ := E0) env_E0 Try.func22 low22 ?_
  conv => whnf
  repeat' (first | (refine brK_true (by assumption) ?_; conv => whnf) | (refine brK_false (by assumption) ?_; conv => whnf) | (refine brK_of (fun h => ?_) (fun h => ?_) <;> conv => whnf) | (refine reqK_of ?_ ?_; (focus (first | decide | omega | assumption | (simp [keyNew, sameKey, kEq] <;> omega))); conv => whnf) | (refine reqK_of ?_ ?_; rotate_left; (conv => whnf); rotate_left))
  rw [rem_low hq, wrap_nd]
open Classical in
noncomputable def c22 : List T → Ans
  | [.int .u64 h] => .req (R64 h) (.int .i64 (nd h))
  | _ => .no
theorem got22 {vs : List T} {x : T} (h : Got (c22 vs) x) : FnOk Try.prog tgl 22 vs x := by
  unfold c22 at h
  split at h
  · obtain ⟨hq, e⟩ := got_req h; rw [e]; exact ok22 _ hq
  · exact (got_no h).elim
theorem nogl22 (vs : List T) (p : Prop) (sz : Nat) (xs : List T) (h : c22 vs = .gl p sz xs) : False := by
  unfold c22 at h
  split at h <;> cases h
/-! cells -/
def doL (l : List Int) (k i a b : Int) : List Int :=
  if 0 ≤ i ∧ i < l.length then (if k = 2 then l.set i.toNat a else if k = 3 then (if at0 l i = a then l.set i.toNat b else l) else if k = 4 then l.set i.toNat (IntKind.u64.wrap (at0 l i + a)) else l) else l
def doV (l : List Int) (k i : Int) : Int := if 0 ≤ i ∧ i < l.length then (if 1 ≤ k ∧ k ≤ 4 then at0 l i else 0) else 0
def doB (l : List Int) (k i a : Int) : Bool := decide (0 ≤ i ∧ i < l.length ∧ 1 ≤ k ∧ k ≤ 4 ∧ (k = 3 → at0 l i = a))
def Sz (xs : List T) : Prop := xs.length * 8 ≤ maxBytes
theorem ok41 (v : Int) : FnOk Try.prog tgl 41 [.int .u64 v] (.tup [.int .u64 v, .bool true]) := by
  refine fn_ok (Γ := E0) env_E0 Try.func41 low41 ?_
  conv => whnf
  repeat' (first | (refine brK_true (by assumption) ?_; conv => whnf) | (refine brK_false (by assumption) ?_; conv => whnf) | (refine brK_of (fun h => ?_) (fun h => ?_) <;> conv => whnf) | (refine reqK_of ?_ ?_; (focus (first | decide | omega | assumption | (simp [keyNew, sameKey, kEq] <;> omega))); conv => whnf) | (refine reqK_of ?_ ?_; rotate_left; (conv => whnf); rotate_left))
open Classical in
noncomputable def c41 : List T → Ans
  | [.int .u64 v] => .yes (.tup [.int .u64 v, .bool true])
  | _ => .no
theorem got41 {vs : List T} {x : T} (h : Got (c41 vs) x) : FnOk Try.prog tgl 41 vs x := by
  unfold c41 at h
  split at h
  · rw [got_yes h]; exact ok41 _
  · exact (got_no h).elim
theorem nogl41 (vs : List T) (p : Prop) (sz : Nat) (xs : List T) (h : c41 vs = .gl p sz xs) : False := by
  unfold c41 at h
  split at h <;> cases h
theorem ok42 (v k i a b : Int) : FnOk Try.prog tgl 42 [.int .u64 v, .ref [.int .i64 k, .int .i64 i, .int .u64 a, .int .u64 b]] (.tup [.int .u64 a, .bool true]) := by
  refine fn_ok (Γ := E0) env_E0 Try.func42 low42 ?_
  conv => whnf
  repeat' (first | (refine brK_true (by assumption) ?_; conv => whnf) | (refine brK_false (by assumption) ?_; conv => whnf) | (refine brK_of (fun h => ?_) (fun h => ?_) <;> conv => whnf) | (refine reqK_of ?_ ?_; (focus (first | decide | omega | assumption | (simp [keyNew, sameKey, kEq] <;> omega))); conv => whnf) | (refine reqK_of ?_ ?_; rotate_left; (conv => whnf); rotate_left))
open Classical in
noncomputable def c42 : List T → Ans
  | [.int .u64 v, .ref [.int .i64 k, .int .i64 i, .int .u64 a, .int .u64 b]] => .yes (.tup [.int .u64 a, .bool true])
  | _ => .no
theorem got42 {vs : List T} {x : T} (h : Got (c42 vs) x) : FnOk Try.prog tgl 42 vs x := by
  unfold c42 at h
  split at h
  · rw [got_yes h]; exact ok42 _ _ _ _ _
  · exact (got_no h).elim
theorem nogl42 (vs : List T) (p : Prop) (sz : Nat) (xs : List T) (h : c42 vs = .gl p sz xs) : False := by
  unfold c42 at h
  split at h <;> cases h
theorem ok43 (v k i a b : Int) : FnOk Try.prog tgl 43 [.int .u64 v, .ref [.int .i64 k, .int .i64 i, .int .u64 a, .int .u64 b]] (.tup [.int .u64 b, .bool (eqI v a)]) := by
  refine fn_ok (Γ := E0) env_E0 Try.func43 low43 ?_
  conv => whnf
  repeat' (first | (refine brK_true (by assumption) ?_; conv => whnf) | (refine brK_false (by assumption) ?_; conv => whnf) | (refine brK_of (fun h => ?_) (fun h => ?_) <;> conv => whnf) | (refine reqK_of ?_ ?_; (focus (first | decide | omega | assumption | (simp [keyNew, sameKey, kEq] <;> omega))); conv => whnf) | (refine reqK_of ?_ ?_; rotate_left; (conv => whnf); rotate_left))
open Classical in
noncomputable def c43 : List T → Ans
  | [.int .u64 v, .ref [.int .i64 k, .int .i64 i, .int .u64 a, .int .u64 b]] => .yes (.tup [.int .u64 b, .bool (eqI v a)])
  | _ => .no
theorem got43 {vs : List T} {x : T} (h : Got (c43 vs) x) : FnOk Try.prog tgl 43 vs x := by
  unfold c43 at h
  split at h
  · rw [got_yes h]; exact ok43 _ _ _ _ _
  · exact (got_no h).elim
theorem nogl43 (vs : List T) (p : Prop) (sz : Nat) (xs : List T) (h : c43 vs = .gl p sz xs) : False := by
  unfold c43 at h
  split at h <;> cases h
theorem ok44 (v k i a b : Int) : FnOk Try.prog tgl 44 [.int .u64 v, .ref [.int .i64 k, .int .i64 i, .int .u64 a, .int .u64 b]] (.tup [.int .u64 (IntKind.u64.wrap (v + a)), .bool true]) := by
  refine fn_ok (Γ := E0) env_E0 Try.func44 low44 ?_
  conv => whnf
  repeat' (first | (refine brK_true (by assumption) ?_; conv => whnf) | (refine brK_false (by assumption) ?_; conv => whnf) | (refine brK_of (fun h => ?_) (fun h => ?_) <;> conv => whnf) | (refine reqK_of ?_ ?_; (focus (first | decide | omega | assumption | (simp [keyNew, sameKey, kEq] <;> omega))); conv => whnf) | (refine reqK_of ?_ ?_; rotate_left; (conv => whnf); rotate_left))
open Classical in
noncomputable def c44 : List T → Ans
  | [.int .u64 v, .ref [.int .i64 k, .int .i64 i, .int .u64 a, .int .u64 b]] => .yes (.tup [.int .u64 (IntKind.u64.wrap (v + a)), .bool true])
  | _ => .no
theorem got44 {vs : List T} {x : T} (h : Got (c44 vs) x) : FnOk Try.prog tgl 44 vs x := by
  unfold c44 at h
  split at h
  · rw [got_yes h]; exact ok44 _ _ _ _ _
  · exact (got_no h).elim
theorem nogl44 (vs : List T) (p : Prop) (sz : Nat) (xs : List T) (h : c44 vs = .gl p sz xs) : False := by
  unfold c44 at h
  split at h <;> cases h
noncomputable def lE1 : List (Nat × (List T → Ans)) := (19, c19) :: (21, c21) :: (20, c20) :: (22, c22) :: (41, c41) :: (42, c42) :: (43, c43) :: (44, c44) :: lE0
noncomputable def iE1 : List (Nat × Pt) := (45, inl E0 m45) :: iE0
noncomputable abbrev E1 : Env := En tgl lE1 iE1
theorem env_E1 : EnvOk Try.prog E1 := (env_fn (env_fn (env_fn (env_fn (env_fn (env_fn (env_fn (env_fn (env_in env_E0 env_E0 Try.func45 low45) (fun _ _ => got44) fun vs p sz xs h _ => (nogl44 vs p sz xs h).elim) (fun _ _ => got43) fun vs p sz xs h _ => (nogl43 vs p sz xs h).elim) (fun _ _ => got42) fun vs p sz xs h _ => (nogl42 vs p sz xs h).elim) (fun _ _ => got41) fun vs p sz xs h _ => (nogl41 vs p sz xs h).elim) (fun _ _ => got22) fun vs p sz xs h _ => (nogl22 vs p sz xs h).elim) (fun _ _ => got20) fun vs p sz xs h _ => (nogl20 vs p sz xs h).elim) (fun _ _ => got21) fun vs p sz xs h _ => (nogl21 vs p sz xs h).elim) (fun _ _ => got19) fun vs p sz xs h _ => (nogl19 vs p sz xs h).elim)
theorem do_eq {l X : List Int} {k i a b Y : Int} {Z : Bool} (h : X = doL l k i a b ∧ Y = doV l k i ∧ Z = doB l k i a) : T.tup [.list 1 (us X), .int .u64 Y, .bool Z] = .tup [.list 1 (us (doL l k i a b)), .int .u64 (doV l k i), .bool (doB l k i a)] := by
  obtain ⟨rfl, rfl, rfl⟩ := h; rfl
theorem do_no {l : List Int} {k i a b : Int} (h : i < 0 ∨ (l.length : Int) ≤ i ∨ k < 1 ∨ 4 < k) : l = doL l k i a b ∧ 0 = doV l k i ∧ false = doB l k i a := by
  unfold doL doV doB
  refine ⟨?_, ?_, ?_⟩
  · repeat' split
    all_goals first | rfl | omega
  · repeat' split
    all_goals first | rfl | omega
  · symm; rw [decide_eq_false_iff_not]; omega
theorem set_same {l : List Int} {i : Int} (h : 0 ≤ i) : l.set i.toNat (at0 l i) = l := by
  apply List.ext_getElem?
  intro j
  rw [List.getElem?_set]
  split
  · rename_i e; subst e
    split
    · rename_i h; simp [at0, h]
    · rename_i h; rw [List.getElem?_eq_none (by omega)]
  · rfl
theorem do_1 {l : List Int} {i a b : Int} (h : 0 ≤ i ∧ i < l.length) : l = doL l 1 i a b ∧ at0 l i = doV l 1 i ∧ true = doB l 1 i a := by
  refine ⟨by simp [doL], by simp [doV, h], by simp [doB, h]⟩
theorem do_2 {l : List Int} {i a b : Int} (h : 0 ≤ i ∧ i < l.length) : l.set i.toNat a = doL l 2 i a b ∧ at0 l i = doV l 2 i ∧ true = doB l 2 i a := by
  refine ⟨by simp [doL, h], by simp [doV, h], by simp [doB, h]⟩
theorem do_3 {l : List Int} {i a b : Int} (h : 0 ≤ i ∧ i < l.length) : (if at0 l i = a then l.set i.toNat b else l) = doL l 3 i a b ∧ at0 l i = doV l 3 i ∧ eqI (at0 l i) a = doB l 3 i a := by
  refine ⟨by simp [doL, h], by simp [doV, h], ?_⟩
  rw [Bool.eq_iff_iff]
  simp [doB, h, eqI_def]
theorem do_4 {l : List Int} {i a b : Int} (h : 0 ≤ i ∧ i < l.length) : l.set i.toNat (IntKind.u64.wrap (at0 l i + a)) = doL l 4 i a b ∧ at0 l i = doV l 4 i ∧ true = doB l 4 i a := by
  refine ⟨by simp [doL, h], by simp [doV, h], by simp [doB, h]⟩
theorem ok39 (xs : List T) (k i a b : Int) (hq : IsU xs ∧ Sz xs) : FnOk Try.prog tgl 39 [.list 1 xs, .agg [.int .i64 k, .int .i64 i, .int .u64 a, .int .u64 b]] (.tup [.list 1 (us (doL (nums xs) k i a b)), .int .u64 (doV (nums xs) k i), .bool (doB (nums xs) k i a)]) := by
  refine fn_ok (Γ := E1) env_E1 Try.func39 low39 ?_
  obtain ⟨⟨l, rfl, hl⟩, hs⟩ := hq
  rw [nums_us]
  conv => whnf
  repeat' (first | (refine brK_true (by assumption) ?_; conv => whnf) | (refine brK_false (by assumption) ?_; conv => whnf) | (refine brK_of (fun h => ?_) (fun h => ?_) <;> conv => whnf) | (refine reqK_of ?_ ?_; (focus (first | decide | omega | assumption | (simp [keyNew, sameKey, kEq] <;> omega))); conv => whnf) | (refine reqK_of ?_ ?_; rotate_left; (conv => whnf); rotate_left))
  all_goals simp only [us_len, lt_t, lt_f, le_t, le_f, eq_t, eq_f] at *
  all_goals first
    | (refine nth_us ?_ ?_ ?_)
    | (refine do_eq (do_no ?_); omega)
  all_goals try omega
  · obtain rfl : k = 1 := by assumption
    conv => whnf
    repeat' (first
      | (refine reqK_of ?_ ?_; (focus (first | decide | omega | assumption | (simp [keyNew, sameKey, kEq] <;> omega))); conv => whnf)
      | (refine reqK_of ?_ ?_; rotate_left; (conv => whnf); rotate_left)
      | (refine brK_true ?_ ?_; (focus (simp only [eqI_self, Bool.not_true]; done)); conv => whnf)
      | (refine brK_false ?_ ?_; (focus (simp only [eqI_self, Bool.not_true]; done)); conv => whnf))
    refine do_eq (do_1 ?_)
    omega
  · obtain rfl : k = 2 := by assumption
    conv => whnf
    repeat' (first | (refine brK_true (by assumption) ?_; conv => whnf) | (refine brK_false (by assumption) ?_; conv => whnf) | (refine brK_of (fun h => ?_) (fun h => ?_) <;> conv => whnf) | (refine reqK_of ?_ ?_; (focus (first | decide | omega | assumption | (simp [keyNew, sameKey, kEq] <;> omega))); conv => whnf) | (refine reqK_of ?_ ?_; rotate_left; (conv => whnf); rotate_left))
    · refine altK_of ?_ fun hn => ?_
      · conv => whnf
        repeat' (first | (refine brK_true (by assumption) ?_; conv => whnf) | (refine brK_false (by assumption) ?_; conv => whnf) | (refine brK_of (fun h => ?_) (fun h => ?_) <;> conv => whnf) | (refine reqK_of ?_ ?_; (focus (first | decide | omega | assumption | (simp [keyNew, sameKey, kEq] <;> omega))); conv => whnf) | (refine reqK_of ?_ ?_; rotate_left; (conv => whnf); rotate_left))
        simp only [subL_00, natadd0, us_set]
        refine do_eq (do_2 ?_)
        omega
      · exact absurd hn (us_ne (by omega))
    · rw [not_f, eq_t] at h
      subst h
      refine do_eq (l := l) (k := 2) (i := i) (b := b) ?_
      have := do_2 (l := l) (i := i) (a := at0 l i) (b := b) (by omega)
      rw [set_same (by assumption)] at this
      exact this
  · obtain rfl : k = 3 := by assumption
    have hd := do_3 (l := l) (i := i) (a := a) (b := b) (by omega)
    conv => whnf
    repeat' (first | (refine brK_true (by assumption) ?_; conv => whnf) | (refine brK_false (by assumption) ?_; conv => whnf) | (refine brK_of (fun h => ?_) (fun h => ?_) <;> conv => whnf) | (refine reqK_of ?_ ?_; (focus (first | decide | omega | assumption | (simp [keyNew, sameKey, kEq] <;> omega))); conv => whnf) | (refine reqK_of ?_ ?_; rotate_left; (conv => whnf); rotate_left))
    · refine altK_of ?_ fun hn => ?_
      · conv => whnf
        repeat' (first | (refine brK_true (by assumption) ?_; conv => whnf) | (refine brK_false (by assumption) ?_; conv => whnf) | (refine brK_of (fun h => ?_) (fun h => ?_) <;> conv => whnf) | (refine reqK_of ?_ ?_; (focus (first | decide | omega | assumption | (simp [keyNew, sameKey, kEq] <;> omega))); conv => whnf) | (refine reqK_of ?_ ?_; rotate_left; (conv => whnf); rotate_left))
        simp only [subL_00, natadd0, us_set]
        refine do_eq ?_
        rw [if_pos (eq_t.1 (by assumption))] at hd
        exact hd
      · exact absurd hn (us_ne (by omega))
    · rename_i h1 h2 h3
      refine do_eq ?_
      rw [if_pos (eq_t.1 (by assumption))] at hd
      rw [not_f, eq_t] at h
      subst h
      rw [set_same (by assumption)] at hd
      exact hd
    · refine do_eq ?_
      rw [if_neg (eq_f.1 (by assumption))] at hd
      exact hd
  · obtain rfl : k = 4 := by assumption
    have hd := do_4 (l := l) (i := i) (a := a) (b := b) (by omega)
    conv => whnf
    repeat' (first | (refine brK_true (by assumption) ?_; conv => whnf) | (refine brK_false (by assumption) ?_; conv => whnf) | (refine brK_of (fun h => ?_) (fun h => ?_) <;> conv => whnf) | (refine reqK_of ?_ ?_; (focus (first | decide | omega | assumption | (simp [keyNew, sameKey, kEq] <;> omega))); conv => whnf) | (refine reqK_of ?_ ?_; rotate_left; (conv => whnf); rotate_left))
    · refine altK_of ?_ fun hn => ?_
      · conv => whnf
        repeat' (first | (refine brK_true (by assumption) ?_; conv => whnf) | (refine brK_false (by assumption) ?_; conv => whnf) | (refine brK_of (fun h => ?_) (fun h => ?_) <;> conv => whnf) | (refine reqK_of ?_ ?_; (focus (first | decide | omega | assumption | (simp [keyNew, sameKey, kEq] <;> omega))); conv => whnf) | (refine reqK_of ?_ ?_; rotate_left; (conv => whnf); rotate_left))
        simp only [subL_00, natadd0, us_set]
        exact do_eq hd
      · exact absurd hn (us_ne (by omega))
    · rw [not_f, eq_t] at h
      rw [← h, set_same (by assumption)] at hd
      exact do_eq hd
open Classical in
noncomputable def c39 : List T → Ans
  | [.list 1 xs, .agg [.int .i64 k, .int .i64 i, .int .u64 a, .int .u64 b]] => .req (IsU xs ∧ Sz xs) (.tup [.list 1 (us (doL (nums xs) k i a b)), .int .u64 (doV (nums xs) k i), .bool (doB (nums xs) k i a)])
  | _ => .no
theorem got39 {vs : List T} {x : T} (h : Got (c39 vs) x) : FnOk Try.prog tgl 39 vs x := by
  unfold c39 at h
  split at h
  · obtain ⟨hq, e⟩ := got_req h; rw [e]; exact ok39 _ _ _ _ _ hq
  · exact (got_no h).elim
theorem nogl39 (vs : List T) (p : Prop) (sz : Nat) (xs : List T) (h : c39 vs = .gl p sz xs) : False := by
  unfold c39 at h
  split at h <;> cases h
theorem ok40 (xs : List T) (k i a b : Int) (hq : IsU xs ∧ Sz xs) : FnOk Try.prog tgl 40 [.list 1 xs, .agg [.int .i64 k, .int .i64 i, .int .u64 a, .int .u64 b]] (.tup [.list 1 (us (doL (nums xs) k i a b)), .int .u64 (doV (nums xs) k i), .bool (doB (nums xs) k i a)]) := by
  refine fn_ok (Γ := E0) env_E0 Try.func40 low40 ?_
  obtain ⟨⟨l, rfl, hl⟩, hs⟩ := hq
  rw [nums_us]
  conv => whnf
  repeat' (first | (refine brK_true (by assumption) ?_; conv => whnf) | (refine brK_false (by assumption) ?_; conv => whnf) | (refine brK_of (fun h => ?_) (fun h => ?_) <;> conv => whnf) | (refine reqK_of ?_ ?_; (focus (first | decide | omega | assumption | (simp [keyNew, sameKey, kEq] <;> omega))); conv => whnf) | (refine reqK_of ?_ ?_; rotate_left; (conv => whnf); rotate_left))
  all_goals simp only [us_len, lt_t, lt_f, le_t, le_f, eq_t, eq_f] at *
  all_goals first
    | (refine nth_us ?_ ?_ ?_)
    | (refine do_eq (do_no ?_); omega)
  all_goals try omega
  conv => whnf
  repeat' (first | (refine brK_true (by assumption) ?_; conv => whnf) | (refine brK_false (by assumption) ?_; conv => whnf) | (refine brK_of (fun h => ?_) (fun h => ?_) <;> conv => whnf) | (refine reqK_of ?_ ?_; (focus (first | decide | omega | assumption | (simp [keyNew, sameKey, kEq] <;> omega))); conv => whnf) | (refine reqK_of ?_ ?_; rotate_left; (conv => whnf); rotate_left))
  all_goals simp only [subL_00, natadd0, us_set, not_t, not_f, eq_t, eq_f] at *
  all_goals (try (exfalso; omega))
  all_goals refine do_eq ?_
  all_goals first
    | (obtain rfl : k = 1 := by assumption
       exact do_1 (by omega))
    | (obtain rfl : k = 2 := by assumption
       exact do_2 (by omega))
    | (obtain rfl : k = 3 := by assumption
       have hd := do_3 (l := l) (i := i) (a := a) (b := b) (by omega)
       first
         | (rw [if_pos (by assumption), eq_t.2 (by assumption)] at hd; exact hd)
         | (rw [if_neg (by assumption), eq_f.2 (by assumption)] at hd; exact hd))
    | (obtain rfl : k = 4 := by omega
       exact do_4 (by omega))
    | trace_state
open Classical in
noncomputable def c40 : List T → Ans
  | [.list 1 xs, .agg [.int .i64 k, .int .i64 i, .int .u64 a, .int .u64 b]] => .req (IsU xs ∧ Sz xs) (.tup [.list 1 (us (doL (nums xs) k i a b)), .int .u64 (doV (nums xs) k i), .bool (doB (nums xs) k i a)])
  | _ => .no
theorem got40 {vs : List T} {x : T} (h : Got (c40 vs) x) : FnOk Try.prog tgl 40 vs x := by
  unfold c40 at h
  split at h
  · obtain ⟨hq, e⟩ := got_req h; rw [e]; exact ok40 _ _ _ _ _ hq
  · exact (got_no h).elim
theorem nogl40 (vs : List T) (p : Prop) (sz : Nat) (xs : List T) (h : c40 vs = .gl p sz xs) : False := by
  unfold c40 at h
  split at h <;> cases h
end Go.Nx
