/-
  CELLS; THE CHAIN's SMALL FUNCTIONS.
-/
import Derived.Test.YtommbfigioeghaaEa
import Derived.Test.YtommbfigioeghaaYc
import Derived.Test.YtommbfigioeghaaBt
set_option linter.unusedVariables false
set_option linter.unusedSimpArgs false
set_option maxRecDepth 20000
set_option maxHeartbeats 1000000
namespace Go.Nx
open Go.RowKit Go.Proofs

def nd (h : Int) : Int := h % 4294967296
def pk (v n : Int) : Int := v % 4294967296 * 4294967296 + n % 4294967296
theorem R_nd (h : Int) : 0 ≤ nd h ∧ nd h < 4294967296 := by unfold nd; omega
theorem R_pk (v n : Int) : R64 (pk v n) := by unfold pk R64; omega
theorem mask_low (h : Int) : andI .u64 h 4294967295 = nd h := by
  rw [andI_u]
  unfold nd iv
  have e : (bv 4294967295 : B) = BitVec.ofNat 64 (2 ^ 32 - 1) := rfl
  rw [e, BitVec.toNat_and]
  have e2 : (BitVec.ofNat 64 (2 ^ 32 - 1)).toNat = 2 ^ 32 - 1 := rfl
  rw [e2, Nat.and_two_pow_sub_one_eq_mod]
  simp only [bv, BitVec.toNat_ofInt]
  omega
theorem pack_or (v n : Int) : orI .u64 (shlI .u64 v 32) (andI .u64 n 4294967295) = pk v n := by
  rw [mask_low, shlI_u v 32 (by omega), orI_u, bv_iv]
  unfold iv pk
  rw [BitVec.toNat_or, BitVec.toNat_shiftLeft]
  have h1 : (bv (nd n)).toNat = (nd n).toNat := by
    have := R_nd n
    simp only [bv, BitVec.toNat_ofInt]; omega
  have h2 : (bv v).toNat <<< Int.toNat 32 % 2 ^ 64 = (v % 4294967296).toNat <<< 32 := by
    simp only [bv, BitVec.toNat_ofInt, Nat.shiftLeft_eq]
    have : Int.toNat 32 = 32 := rfl
    rw [this]
    have e3 : (2 : Nat) ^ 32 = 4294967296 := by decide
    have e4 : (2 : Nat) ^ 64 = 18446744073709551616 := by decide
    rw [e3, e4]; omega
  rw [h1, h2, ← Nat.shiftLeft_add_eq_or_of_lt (by have := R_nd n; omega), Nat.shiftLeft_eq]
  have := R_nd n
  have e3 : (2 : Nat) ^ 32 = 4294967296 := by decide
  rw [e3]
  unfold nd at *
  omega
theorem rem_low {h : Int} (hr : R64 h) : h.tmod 4294967296 = nd h := Int.tmod_eq_emod_of_nonneg hr.1
theorem pack_add {v : Int} (h : R64 v) (n : Int) : IntKind.u64.wrap (shlI .u64 (v.tmod 4294967296) 32 + (IntKind.u64.wrap n).tmod 4294967296) = pk v n := by
  have hw : (IntKind.u64.wrap n).tmod 4294967296 = n % 4294967296 := by
    rw [wrap_iv, Int.tmod_eq_emod_of_nonneg (R_iv _).1]
    simp only [iv, bv, BitVec.toNat_ofInt]
    have e4 : (2 : Nat) ^ 64 = 18446744073709551616 := by decide
    rw [e4]; omega
  have hs : shlI .u64 (v.tmod 4294967296) 32 = v % 4294967296 * 4294967296 := by
    rw [Int.tmod_eq_emod_of_nonneg h.1]
    unfold shlI
    have : min (Int.toNat 32) (IntKind.bits .u64) = 32 := rfl
    rw [this]
    exact wrap_u64 (by unfold R64; omega)
  rw [hw, hs]
  exact wrap_u64 (R_pk v n)
theorem wrap_nd (h : Int) : IntKind.i64.wrap (nd h) = nd h := wrap_i64 (by have := R_nd h; unfold I64; omega)
theorem wrapu_nd (h : Int) : IntKind.u64.wrap (nd h) = nd h := wrap_u64 (by have := R_nd h; unfold R64; omega)
noncomputable def lE0 : List (Nat × (List T → Ans)) := []
noncomputable def iE0 : List (Nat × Pt) := []
noncomputable abbrev E0 : Env := En tgl lE0 iE0
theorem env_E0 : EnvOk Try.prog E0 := env_nil
/-! cells -/
def doL (l : List Int) (k i a b : Int) : List Int :=
  if 0 ≤ i ∧ i < l.length then (if k = 2 then l.set i.toNat a else if k = 3 then (if at0 l i = a then l.set i.toNat b else l) else if k = 4 then l.set i.toNat (IntKind.u64.wrap (at0 l i + a)) else l) else l
def doV (l : List Int) (k i : Int) : Int := if 0 ≤ i ∧ i < l.length then (if 1 ≤ k ∧ k ≤ 4 then at0 l i else 0) else 0
def doB (l : List Int) (k i a : Int) : Bool := decide (0 ≤ i ∧ i < l.length ∧ 1 ≤ k ∧ k ≤ 4 ∧ (k = 3 → at0 l i = a))
def Sz (xs : List T) : Prop := xs.length * 8 ≤ maxBytes
theorem ok84 (v : Int) : FnOk Try.prog tgl 84 [.int .u64 v] (.tup [.int .u64 v, .bool true]) := by
  refine fn_ok (Γ := E0) env_E0 Try.func84 low84 ?_
  conv => whnf
  repeat' (first | (refine brK_true rfl ?_; conv => whnf) | (refine brK_false rfl ?_; conv => whnf) | (refine brK_true (by assumption) ?_; conv => whnf) | (refine brK_false (by assumption) ?_; conv => whnf) | (refine brK_of (fun h => ?_) (fun h => ?_) <;> conv => whnf) | (refine reqK_of ?_ ?_; (focus (first | decide | omega | assumption | (simp [keyNew, sameKey, kEq] <;> omega))); conv => whnf) | (refine reqK_of ?_ ?_; rotate_left; (conv => whnf); rotate_left))
open Classical in
noncomputable def c84 : List T → Ans
  | [.int .u64 v] => .yes (.tup [.int .u64 v, .bool true])
  | _ => .no
theorem got84 {vs : List T} {x : T} (h : Got (c84 vs) x) : FnOk Try.prog tgl 84 vs x := by
  unfold c84 at h
  split at h
  · rw [got_yes h]; exact ok84 _
  · exact (got_no h).elim
theorem nogl84 (vs : List T) (p : Prop) (d : Decidable p) (sz : Nat) (xs : List T) (h : c84 vs = @Ans.gl p d sz xs) : False := by
  unfold c84 at h
  split at h <;> cases h
theorem pk84 (vs : List T) (p : Prop) (d : Decidable p) (x : T) (h : c84 vs = @Ans.pk p d x) (hp : p) : FnOk Try.prog tgl 84 vs x := by
  unfold c84 at h
  split at h
  · cases h
  · cases h
theorem ok85 (v k i a b : Int) : FnOk Try.prog tgl 85 [.int .u64 v, .ref [.int .i64 k, .int .i64 i, .int .u64 a, .int .u64 b]] (.tup [.int .u64 a, .bool true]) := by
  refine fn_ok (Γ := E0) env_E0 Try.func85 low85 ?_
  conv => whnf
  repeat' (first | (refine brK_true rfl ?_; conv => whnf) | (refine brK_false rfl ?_; conv => whnf) | (refine brK_true (by assumption) ?_; conv => whnf) | (refine brK_false (by assumption) ?_; conv => whnf) | (refine brK_of (fun h => ?_) (fun h => ?_) <;> conv => whnf) | (refine reqK_of ?_ ?_; (focus (first | decide | omega | assumption | (simp [keyNew, sameKey, kEq] <;> omega))); conv => whnf) | (refine reqK_of ?_ ?_; rotate_left; (conv => whnf); rotate_left))
open Classical in
noncomputable def c85 : List T → Ans
  | [.int .u64 v, .ref [.int .i64 k, .int .i64 i, .int .u64 a, .int .u64 b]] => .yes (.tup [.int .u64 a, .bool true])
  | _ => .no
theorem got85 {vs : List T} {x : T} (h : Got (c85 vs) x) : FnOk Try.prog tgl 85 vs x := by
  unfold c85 at h
  split at h
  · rw [got_yes h]; exact ok85 _ _ _ _ _
  · exact (got_no h).elim
theorem nogl85 (vs : List T) (p : Prop) (d : Decidable p) (sz : Nat) (xs : List T) (h : c85 vs = @Ans.gl p d sz xs) : False := by
  unfold c85 at h
  split at h <;> cases h
theorem pk85 (vs : List T) (p : Prop) (d : Decidable p) (x : T) (h : c85 vs = @Ans.pk p d x) (hp : p) : FnOk Try.prog tgl 85 vs x := by
  unfold c85 at h
  split at h
  · cases h
  · cases h
theorem ok86 (v k i a b : Int) : FnOk Try.prog tgl 86 [.int .u64 v, .ref [.int .i64 k, .int .i64 i, .int .u64 a, .int .u64 b]] (.tup [.int .u64 b, .bool (eqI v a)]) := by
  refine fn_ok (Γ := E0) env_E0 Try.func86 low86 ?_
  conv => whnf
  repeat' (first | (refine brK_true rfl ?_; conv => whnf) | (refine brK_false rfl ?_; conv => whnf) | (refine brK_true (by assumption) ?_; conv => whnf) | (refine brK_false (by assumption) ?_; conv => whnf) | (refine brK_of (fun h => ?_) (fun h => ?_) <;> conv => whnf) | (refine reqK_of ?_ ?_; (focus (first | decide | omega | assumption | (simp [keyNew, sameKey, kEq] <;> omega))); conv => whnf) | (refine reqK_of ?_ ?_; rotate_left; (conv => whnf); rotate_left))
open Classical in
noncomputable def c86 : List T → Ans
  | [.int .u64 v, .ref [.int .i64 k, .int .i64 i, .int .u64 a, .int .u64 b]] => .yes (.tup [.int .u64 b, .bool (eqI v a)])
  | _ => .no
theorem got86 {vs : List T} {x : T} (h : Got (c86 vs) x) : FnOk Try.prog tgl 86 vs x := by
  unfold c86 at h
  split at h
  · rw [got_yes h]; exact ok86 _ _ _ _ _
  · exact (got_no h).elim
theorem nogl86 (vs : List T) (p : Prop) (d : Decidable p) (sz : Nat) (xs : List T) (h : c86 vs = @Ans.gl p d sz xs) : False := by
  unfold c86 at h
  split at h <;> cases h
theorem pk86 (vs : List T) (p : Prop) (d : Decidable p) (x : T) (h : c86 vs = @Ans.pk p d x) (hp : p) : FnOk Try.prog tgl 86 vs x := by
  unfold c86 at h
  split at h
  · cases h
  · cases h
theorem ok87 (v k i a b : Int) : FnOk Try.prog tgl 87 [.int .u64 v, .ref [.int .i64 k, .int .i64 i, .int .u64 a, .int .u64 b]] (.tup [.int .u64 (IntKind.u64.wrap (v + a)), .bool true]) := by
  refine fn_ok (Γ := E0) env_E0 Try.func87 low87 ?_
  conv => whnf
  repeat' (first | (refine brK_true rfl ?_; conv => whnf) | (refine brK_false rfl ?_; conv => whnf) | (refine brK_true (by assumption) ?_; conv => whnf) | (refine brK_false (by assumption) ?_; conv => whnf) | (refine brK_of (fun h => ?_) (fun h => ?_) <;> conv => whnf) | (refine reqK_of ?_ ?_; (focus (first | decide | omega | assumption | (simp [keyNew, sameKey, kEq] <;> omega))); conv => whnf) | (refine reqK_of ?_ ?_; rotate_left; (conv => whnf); rotate_left))
open Classical in
noncomputable def c87 : List T → Ans
  | [.int .u64 v, .ref [.int .i64 k, .int .i64 i, .int .u64 a, .int .u64 b]] => .yes (.tup [.int .u64 (IntKind.u64.wrap (v + a)), .bool true])
  | _ => .no
theorem got87 {vs : List T} {x : T} (h : Got (c87 vs) x) : FnOk Try.prog tgl 87 vs x := by
  unfold c87 at h
  split at h
  · rw [got_yes h]; exact ok87 _ _ _ _ _
  · exact (got_no h).elim
theorem nogl87 (vs : List T) (p : Prop) (d : Decidable p) (sz : Nat) (xs : List T) (h : c87 vs = @Ans.gl p d sz xs) : False := by
  unfold c87 at h
  split at h <;> cases h
theorem pk87 (vs : List T) (p : Prop) (d : Decidable p) (x : T) (h : c87 vs = @Ans.pk p d x) (hp : p) : FnOk Try.prog tgl 87 vs x := by
  unfold c87 at h
  split at h
  · cases h
  · cases h
noncomputable def lE1 : List (Nat × (List T → Ans)) := (84, c84) :: (85, c85) :: (86, c86) :: (87, c87) :: lE0
noncomputable def iE1 : List (Nat × Pt) := (88, inl E0 m88) :: iE0
noncomputable abbrev E1 : Env := En tgl lE1 iE1
theorem env_E1 : EnvOk Try.prog E1 := (env_fn (env_fn (env_fn (env_fn (env_in env_E0 env_E0 Try.func88 low88) (fun _ _ => got87) (fun vs p d sz xs h _ => (nogl87 vs p d sz xs h).elim) pk87) (fun _ _ => got86) (fun vs p d sz xs h _ => (nogl86 vs p d sz xs h).elim) pk86) (fun _ _ => got85) (fun vs p d sz xs h _ => (nogl85 vs p d sz xs h).elim) pk85) (fun _ _ => got84) (fun vs p d sz xs h _ => (nogl84 vs p d sz xs h).elim) pk84)
theorem do_eq {l X : List Int} {k i a b Y : Int} {Z : Bool} (h : X = doL l k i a b ∧ Y = doV l k i ∧ Z = doB l k i a) : T.tup [.list 1 (us X), .int .u64 Y, .bool Z] = .tup [.list 1 (us (doL l k i a b)), .int .u64 (doV l k i), .bool (doB l k i a)] := by
  obtain ⟨rfl, rfl, rfl⟩ := h; rfl
theorem do_no {l : List Int} {k i a b : Int} (h : i < 0 ∨ (l.length : Int) ≤ i ∨ k < 1 ∨ 4 < k) : l = doL l k i a b ∧ 0 = doV l k i ∧ false = doB l k i a := by
  unfold doL doV doB
  refine ⟨?_, ?_, ?_⟩
  · repeat' split
    all_goals first | rfl | omega
  · repeat' split
    all_goals first | rfl | omega
  · symm; rw [decide_eq_false_iff_not]; omega
theorem set_same {l : List Int} {i : Int} (h : 0 ≤ i) : l.set i.toNat (at0 l i) = l := by
  apply List.ext_getElem?
  intro j
  rw [List.getElem?_set]
  split
  · rename_i e; subst e
    split
    · rename_i h; simp [at0, h]
    · rename_i h; rw [List.getElem?_eq_none (by omega)]
  · rfl
theorem do_1 {l : List Int} {i a b : Int} (h : 0 ≤ i ∧ i < l.length) : l = doL l 1 i a b ∧ at0 l i = doV l 1 i ∧ true = doB l 1 i a := by
  refine ⟨by simp [doL], by simp [doV, h], by simp [doB, h]⟩
theorem do_2 {l : List Int} {i a b : Int} (h : 0 ≤ i ∧ i < l.length) : l.set i.toNat a = doL l 2 i a b ∧ at0 l i = doV l 2 i ∧ true = doB l 2 i a := by
  refine ⟨by simp [doL, h], by simp [doV, h], by simp [doB, h]⟩
theorem do_3 {l : List Int} {i a b : Int} (h : 0 ≤ i ∧ i < l.length) : (if at0 l i = a then l.set i.toNat b else l) = doL l 3 i a b ∧ at0 l i = doV l 3 i ∧ eqI (at0 l i) a = doB l 3 i a := by
  refine ⟨by simp [doL, h], by simp [doV, h], ?_⟩
  rw [Bool.eq_iff_iff]
  simp [doB, h, eqI_def]
theorem do_4 {l : List Int} {i a b : Int} (h : 0 ≤ i ∧ i < l.length) : l.set i.toNat (IntKind.u64.wrap (at0 l i + a)) = doL l 4 i a b ∧ at0 l i = doV l 4 i ∧ true = doB l 4 i a := by
  refine ⟨by simp [doL, h], by simp [doV, h], by simp [doB, h]⟩
theorem ok69 (xs : List T) (k i a b : Int) (hq : IsU xs ∧ Sz xs) : FnOk Try.prog tgl 69 [.list 1 xs, .agg [.int .i64 k, .int .i64 i, .int .u64 a, .int .u64 b]] (.tup [.list 1 (us (doL (nums xs) k i a b)), .int .u64 (doV (nums xs) k i), .bool (doB (nums xs) k i a)]) := by
  refine fn_ok (Γ := E1) env_E1 Try.func69 low69 ?_
  obtain ⟨⟨l, rfl, hl⟩, hs⟩ := hq
  rw [nums_us]
  conv => whnf
  repeat' (first | (refine brK_true rfl ?_; conv => whnf) | (refine brK_false rfl ?_; conv => whnf) | (refine brK_true (by assumption) ?_; conv => whnf) | (refine brK_false (by assumption) ?_; conv => whnf) | (refine brK_of (fun h => ?_) (fun h => ?_) <;> conv => whnf) | (refine reqK_of ?_ ?_; (focus (first | decide | omega | assumption | (simp [keyNew, sameKey, kEq] <;> omega))); conv => whnf) | (refine reqK_of ?_ ?_; rotate_left; (conv => whnf); rotate_left))
  all_goals simp only [us_len, lt_t, lt_f, le_t, le_f, eq_t, eq_f] at *
  all_goals first
    | (refine nth_us ?_ ?_ ?_)
    | (refine do_eq (do_no ?_); omega)
  all_goals try omega
  · obtain rfl : k = 1 := by assumption
    conv => whnf
    repeat' (first
      | (refine reqK_of ?_ ?_; (focus (first | decide | omega | assumption | (simp [keyNew, sameKey, kEq] <;> omega))); conv => whnf)
      | (refine reqK_of ?_ ?_; rotate_left; (conv => whnf); rotate_left)
      | (refine brK_true ?_ ?_; (focus (simp only [eqI_self, Bool.not_true]; done)); conv => whnf)
      | (refine brK_false ?_ ?_; (focus (simp only [eqI_self, Bool.not_true]; done)); conv => whnf))
    refine do_eq (do_1 ?_)
    omega
  · obtain rfl : k = 2 := by assumption
    conv => whnf
    repeat' (first | (refine brK_true rfl ?_; conv => whnf) | (refine brK_false rfl ?_; conv => whnf) | (refine brK_true (by assumption) ?_; conv => whnf) | (refine brK_false (by assumption) ?_; conv => whnf) | (refine brK_of (fun h => ?_) (fun h => ?_) <;> conv => whnf) | (refine reqK_of ?_ ?_; (focus (first | decide | omega | assumption | (simp [keyNew, sameKey, kEq] <;> omega))); conv => whnf) | (refine reqK_of ?_ ?_; rotate_left; (conv => whnf); rotate_left))
    · refine altK_of ?_ fun hn => ?_
      · conv => whnf
        repeat' (first | (refine brK_true rfl ?_; conv => whnf) | (refine brK_false rfl ?_; conv => whnf) | (refine brK_true (by assumption) ?_; conv => whnf) | (refine brK_false (by assumption) ?_; conv => whnf) | (refine brK_of (fun h => ?_) (fun h => ?_) <;> conv => whnf) | (refine reqK_of ?_ ?_; (focus (first | decide | omega | assumption | (simp [keyNew, sameKey, kEq] <;> omega))); conv => whnf) | (refine reqK_of ?_ ?_; rotate_left; (conv => whnf); rotate_left))
        simp only [subL_00, natadd0, us_set]
        refine do_eq (do_2 ?_)
        omega
      · exact absurd hn (us_ne (by omega))
    · rw [not_f, eq_t] at h
      subst h
      refine do_eq (l := l) (k := 2) (i := i) (b := b) ?_
      have := do_2 (l := l) (i := i) (a := at0 l i) (b := b) (by omega)
      rw [set_same (by assumption)] at this
      exact this
  · obtain rfl : k = 3 := by assumption
    have hd := do_3 (l := l) (i := i) (a := a) (b := b) (by omega)
    conv => whnf
    repeat' (first | (refine brK_true rfl ?_; conv => whnf) | (refine brK_false rfl ?_; conv => whnf) | (refine brK_true (by assumption) ?_; conv => whnf) | (refine brK_false (by assumption) ?_; conv => whnf) | (refine brK_of (fun h => ?_) (fun h => ?_) <;> conv => whnf) | (refine reqK_of ?_ ?_; (focus (first | decide | omega | assumption | (simp [keyNew, sameKey, kEq] <;> omega))); conv => whnf) | (refine reqK_of ?_ ?_; rotate_left; (conv => whnf); rotate_left))
    · refine altK_of ?_ fun hn => ?_
      · conv => whnf
        repeat' (first | (refine brK_true rfl ?_; conv => whnf) | (refine brK_false rfl ?_; conv => whnf) | (refine brK_true (by assumption) ?_; conv => whnf) | (refine brK_false (by assumption) ?_; conv => whnf) | (refine brK_of (fun h => ?_) (fun h => ?_) <;> conv => whnf) | (refine reqK_of ?_ ?_; (focus (first | decide | omega | assumption | (simp [keyNew, sameKey, kEq] <;> omega))); conv => whnf) | (refine reqK_of ?_ ?_; rotate_left; (conv => whnf); rotate_left))
        simp only [subL_00, natadd0, us_set]
        refine do_eq ?_
        rw [if_pos (eq_t.1 (by assumption))] at hd
        exact hd
      · exact absurd hn (us_ne (by omega))
    · rename_i h1 h2 h3
      refine do_eq ?_
      rw [if_pos (eq_t.1 (by assumption))] at hd
      rw [not_f, eq_t] at h
      subst h
      rw [set_same (by assumption)] at hd
      exact hd
    · refine do_eq ?_
      rw [if_neg (eq_f.1 (by assumption))] at hd
      exact hd
  · obtain rfl : k = 4 := by assumption
    have hd := do_4 (l := l) (i := i) (a := a) (b := b) (by omega)
    conv => whnf
    repeat' (first | (refine brK_true rfl ?_; conv => whnf) | (refine brK_false rfl ?_; conv => whnf) | (refine brK_true (by assumption) ?_; conv => whnf) | (refine brK_false (by assumption) ?_; conv => whnf) | (refine brK_of (fun h => ?_) (fun h => ?_) <;> conv => whnf) | (refine reqK_of ?_ ?_; (focus (first | decide | omega | assumption | (simp [keyNew, sameKey, kEq] <;> omega))); conv => whnf) | (refine reqK_of ?_ ?_; rotate_left; (conv => whnf); rotate_left))
    · refine altK_of ?_ fun hn => ?_
      · conv => whnf
        repeat' (first | (refine brK_true rfl ?_; conv => whnf) | (refine brK_false rfl ?_; conv => whnf) | (refine brK_true (by assumption) ?_; conv => whnf) | (refine brK_false (by assumption) ?_; conv => whnf) | (refine brK_of (fun h => ?_) (fun h => ?_) <;> conv => whnf) | (refine reqK_of ?_ ?_; (focus (first | decide | omega | assumption | (simp [keyNew, sameKey, kEq] <;> omega))); conv => whnf) | (refine reqK_of ?_ ?_; rotate_left; (conv => whnf); rotate_left))
        simp only [subL_00, natadd0, us_set]
        exact do_eq hd
      · exact absurd hn (us_ne (by omega))
    · rw [not_f, eq_t] at h
      rw [← h, set_same (by assumption)] at hd
      exact do_eq hd
open Classical in
noncomputable def c69 : List T → Ans
  | [.list 1 xs, .agg [.int .i64 k, .int .i64 i, .int .u64 a, .int .u64 b]] => .req (IsU xs ∧ Sz xs) (.tup [.list 1 (us (doL (nums xs) k i a b)), .int .u64 (doV (nums xs) k i), .bool (doB (nums xs) k i a)])
  | _ => .no
theorem got69 {vs : List T} {x : T} (h : Got (c69 vs) x) : FnOk Try.prog tgl 69 vs x := by
  unfold c69 at h
  split at h
  · obtain ⟨hq, e⟩ := got_req h; rw [e]; exact ok69 _ _ _ _ _ hq
  · exact (got_no h).elim
theorem nogl69 (vs : List T) (p : Prop) (d : Decidable p) (sz : Nat) (xs : List T) (h : c69 vs = @Ans.gl p d sz xs) : False := by
  unfold c69 at h
  split at h <;> cases h
theorem pk69 (vs : List T) (p : Prop) (d : Decidable p) (x : T) (h : c69 vs = @Ans.pk p d x) (hp : p) : FnOk Try.prog tgl 69 vs x := by
  unfold c69 at h
  split at h
  · cases h
  · cases h
def ldV (l : List Int) (i : Int) : Int := doV l 1 i
def stL (l : List Int) (i v : Int) : List Int := doL l 2 i v 0
theorem at0_R {l : List Int} (hl : ∀ n ∈ l, R64 n) {i : Int} (h : i.toNat < l.length) : R64 (at0 l i) := hl _ (at0_mem h)
theorem doV_R {l : List Int} (hl : ∀ n ∈ l, R64 n) (k i : Int) : R64 (doV l k i) := by
  unfold doV
  repeat' split
  · exact at0_R hl (by omega)
  · unfold R64; omega
  · unfold R64; omega
theorem set_R {l : List Int} (hl : ∀ n ∈ l, R64 n) (i : Nat) {a : Int} (ha : R64 a) : ∀ n ∈ l.set i a, R64 n := fun n hn => by
  rcases List.mem_or_eq_of_mem_set hn with h | rfl
  · exact hl n h
  · exact ha
theorem wrapu_R (n : Int) : R64 (IntKind.u64.wrap n) := by rw [wrap_iv]; exact R_iv _
theorem doL_R {l : List Int} (hl : ∀ n ∈ l, R64 n) (k i : Int) {a b : Int} (ha : R64 a) (hb : R64 b) : ∀ n ∈ doL l k i a b, R64 n := by
  unfold doL
  repeat' split
  all_goals first
    | exact hl
    | exact set_R hl _ ha
    | exact set_R hl _ hb
    | exact set_R hl _ (wrapu_R _)
theorem doL_len (l : List Int) (k i a b : Int) : (doL l k i a b).length = l.length := by
  unfold doL
  repeat' split
  all_goals simp
noncomputable def lE2 : List (Nat × (List T → Ans)) := (69, c69) :: lE1
noncomputable def iE2 : List (Nat × Pt) := iE1
noncomputable abbrev E2 : Env := En tgl lE2 iE2
theorem env_E2 : EnvOk Try.prog E2 := (env_fn env_E1 (fun _ _ => got69) (fun vs p d sz xs h _ => (nogl69 vs p d sz xs h).elim) pk69)
theorem ok63 (xs : List T) (i : Int) (hq : IsU xs ∧ Sz xs) : FnOk Try.prog tgl 63 [.list 1 xs, .int .i64 i] (.int .u64 (ldV (nums xs) i)) := by
  refine fn_ok (Γ := E2) env_E2 Try.func63 low63 ?_
  conv => whnf
  repeat' (first | (refine brK_true rfl ?_; conv => whnf) | (refine brK_false rfl ?_; conv => whnf) | (refine brK_true (by assumption) ?_; conv => whnf) | (refine brK_false (by assumption) ?_; conv => whnf) | (refine brK_of (fun h => ?_) (fun h => ?_) <;> conv => whnf) | (refine reqK_of ?_ ?_; (focus (first | decide | omega | assumption | (simp [keyNew, sameKey, kEq] <;> omega))); conv => whnf) | (refine reqK_of ?_ ?_; rotate_left; (conv => whnf); rotate_left))
  rfl
open Classical in
noncomputable def c63 : List T → Ans
  | [.list 1 xs, .int .i64 i] => .req (IsU xs ∧ Sz xs) (.int .u64 (ldV (nums xs) i))
  | _ => .no
theorem got63 {vs : List T} {x : T} (h : Got (c63 vs) x) : FnOk Try.prog tgl 63 vs x := by
  unfold c63 at h
  split at h
  · obtain ⟨hq, e⟩ := got_req h; rw [e]; exact ok63 _ _ hq
  · exact (got_no h).elim
theorem nogl63 (vs : List T) (p : Prop) (d : Decidable p) (sz : Nat) (xs : List T) (h : c63 vs = @Ans.gl p d sz xs) : False := by
  unfold c63 at h
  split at h <;> cases h
theorem pk63 (vs : List T) (p : Prop) (d : Decidable p) (x : T) (h : c63 vs = @Ans.pk p d x) (hp : p) : FnOk Try.prog tgl 63 vs x := by
  unfold c63 at h
  split at h
  · cases h
  · cases h
theorem ok120 (xs : List T) (i v : Int) (hq : IsU xs ∧ Sz xs) : FnOk Try.prog tgl 120 [.list 1 xs, .int .i64 i, .int .u64 v] (.list 1 (us (stL (nums xs) i v))) := by
  refine fn_ok (Γ := E2) env_E2 Try.func120 low120 ?_
  conv => whnf
  repeat' (first | (refine brK_true rfl ?_; conv => whnf) | (refine brK_false rfl ?_; conv => whnf) | (refine brK_true (by assumption) ?_; conv => whnf) | (refine brK_false (by assumption) ?_; conv => whnf) | (refine brK_of (fun h => ?_) (fun h => ?_) <;> conv => whnf) | (refine reqK_of ?_ ?_; (focus (first | decide | omega | assumption | (simp [keyNew, sameKey, kEq] <;> omega))); conv => whnf) | (refine reqK_of ?_ ?_; rotate_left; (conv => whnf); rotate_left))
  rfl
open Classical in
noncomputable def c120 : List T → Ans
  | [.list 1 xs, .int .i64 i, .int .u64 v] => .req (IsU xs ∧ Sz xs) (.list 1 (us (stL (nums xs) i v)))
  | _ => .no
theorem got120 {vs : List T} {x : T} (h : Got (c120 vs) x) : FnOk Try.prog tgl 120 vs x := by
  unfold c120 at h
  split at h
  · obtain ⟨hq, e⟩ := got_req h; rw [e]; exact ok120 _ _ _ hq
  · exact (got_no h).elim
theorem nogl120 (vs : List T) (p : Prop) (d : Decidable p) (sz : Nat) (xs : List T) (h : c120 vs = @Ans.gl p d sz xs) : False := by
  unfold c120 at h
  split at h <;> cases h
theorem pk120 (vs : List T) (p : Prop) (d : Decidable p) (x : T) (h : c120 vs = @Ans.pk p d x) (hp : p) : FnOk Try.prog tgl 120 vs x := by
  unfold c120 at h
  split at h
  · cases h
  · cases h
end Go.Nx
