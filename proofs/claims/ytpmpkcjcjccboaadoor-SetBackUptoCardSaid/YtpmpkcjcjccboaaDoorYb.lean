/-
  SETS OF 64, AS BITS; what the machine's integers are of them.
-/
import Derived.Test.YtpmpkcjcjccboaaDoorXy
import Derived.IntWalk
set_option linter.unusedVariables false
set_option linter.unusedSimpArgs false
namespace Go.Nx
open Go.RowKit

abbrev B := BitVec 64
def bv (s : Int) : B := BitVec.ofInt 64 s
def iv (b : B) : Int := (b.toNat : Int)
def R64 (s : Int) : Prop := 0 ≤ s ∧ s < 18446744073709551616
def I64 (s : Int) : Prop := -9223372036854775808 ≤ s ∧ s ≤ 9223372036854775807

theorem R_iv (b : B) : R64 (iv b) := ⟨Int.natCast_nonneg _, by unfold iv; have := b.isLt; omega⟩
@[simp] theorem bv_iv (b : B) : bv (iv b) = b := by simp [bv, iv]
theorem iv_bv {s : Int} (h : R64 s) : iv (bv s) = s := by
  obtain ⟨h0, h1⟩ := h
  simp only [iv, bv, BitVec.toNat_ofInt]
  have : s % (2 ^ 64 : Nat) = s := Int.emod_eq_of_lt h0 (by simpa using h1)
  rw [this]; omega
theorem iv_inj {a b : B} : iv a = iv b ↔ a = b := by
  unfold iv
  constructor
  · intro h; exact BitVec.eq_of_toNat_eq (by omega)
  · intro h; rw [h]
theorem exists_iv {s : Int} (h : R64 s) : ∃ b, s = iv b := ⟨bv s, (iv_bv h).symm⟩
theorem wrap_u64 {n : Int} (h : R64 n) : IntKind.u64.wrap n = n := IntWalk.u64_in n ⟨h.1, by have := h.2; omega⟩
theorem wrap_i64 {n : Int} (h : I64 n) : IntKind.i64.wrap n = n := IntWalk.i64_in n h
theorem wrap_iv (n : Int) : IntKind.u64.wrap n = iv (bv n) := by
  simp only [iv, bv, BitVec.toNat_ofInt, IntKind.wrap, IntKind.signed, IntKind.bits, Bool.false_and, Bool.false_eq_true, if_false]
  have h0 : (0 : Int) ≤ n % 18446744073709551616 := Int.emod_nonneg _ (by decide)
  have e : ((2 : Int) ^ 64) = 18446744073709551616 := by decide
  have e2 : ((2 ^ 64 : Nat) : Int) = 18446744073709551616 := by decide
  rw [e, e2]
  omega
@[simp] theorem andI_u (a b : Int) : andI .u64 a b = iv (bv a &&& bv b) := wrap_u64 (R_iv (bv a &&& bv b))
@[simp] theorem orI_u (a b : Int) : orI .u64 a b = iv (bv a ||| bv b) := wrap_u64 (R_iv (bv a ||| bv b))
@[simp] theorem xorI_u (a b : Int) : xorI .u64 a b = iv (bv a ^^^ bv b) := wrap_u64 (R_iv (bv a ^^^ bv b))
@[simp] theorem andNotI_u (a b : Int) : andNotI .u64 a b = iv (bv a &&& ~~~ bv b) := wrap_u64 (R_iv (bv a &&& ~~~ bv b))
theorem shlI_u (a n : Int) (h : 0 ≤ n ∧ n < 64) : shlI .u64 a n = iv (bv a <<< n.toNat) := by
  simp only [shlI]
  rw [wrap_iv]
  congr 1
  have : min n.toNat (IntKind.bits .u64) = n.toNat := by simp [IntKind.bits]; omega
  rw [this]
  apply BitVec.eq_of_toNat_eq
  simp only [bv, BitVec.toNat_shiftLeft, BitVec.toNat_ofInt, Nat.shiftLeft_eq]
  have e2 : ((2 ^ 64 : Nat) : Int) = 18446744073709551616 := by decide
  have e3 : (2 ^ 64 : Nat) = 18446744073709551616 := by decide
  rw [e2, e3]
  generalize hp : 2 ^ n.toNat = p
  have hp' : (2 : Int) ^ n.toNat = (p : Int) := by rw [← hp]; simp
  rw [hp']
  have h1 : 0 ≤ a % 18446744073709551616 := Int.emod_nonneg _ (by decide)
  have h2 : 0 ≤ a * p % 18446744073709551616 := Int.emod_nonneg _ (by decide)
  apply Int.ofNat_inj.1
  rw [Int.toNat_of_nonneg h2, Int.natCast_emod, Int.natCast_mul, Int.toNat_of_nonneg h1]
  simp only [Int.cast_ofNat_Int]
  rw [Int.mul_emod (a % 18446744073709551616) (p : Int) 18446744073709551616, Int.emod_emod_of_dvd a (Int.dvd_refl _), ← Int.mul_emod]
theorem shrI_u (b : B) (n : Int) (h : 0 ≤ n ∧ n < 64) : shrI .u64 (iv b) n = iv (b >>> n.toNat) := by
  simp only [shrI]
  have : min n.toNat (IntKind.bits .u64) = n.toNat := by simp [IntKind.bits]; omega
  rw [this]
  simp only [iv, BitVec.toNat_ushiftRight, Nat.shiftRight_eq_div_pow]
  rw [Int.fdiv_eq_ediv_of_nonneg _ (Int.le_of_lt (Int.pow_pos (by decide)))]
  simp

/-! the sets -/
def obj (o : Int) : Bool := decide (1 ≤ o ∧ o ≤ 64)
def bit (o : Int) : B := if obj o then 1#64 <<< (o - 1).toNat else 0
def has (s : B) (o : Int) : Bool := obj o && s.getLsbD (o - 1).toNat
def add (s : B) (o : Int) : B := s ||| bit o
def under (a b : B) : Bool := a &&& b == a
def first (n : Int) : B := if n < 1 then 0 else BitVec.allOnes 64 >>> (64 - min n 64).toNat

theorem one_shl_get (k i : Nat) (hk : k < 64) : (1#64 <<< k).getLsbD i = decide (i = k) := by
  rw [BitVec.getLsbD_shiftLeft]
  by_cases e : i = k
  · subst e; simp [hk]
  · rw [Bool.eq_iff_iff]
    simp only [BitVec.getLsbD_one, Bool.and_eq_true, decide_eq_true_eq, Bool.not_eq_true']
    constructor
    · intro h; have h1 := h.1.2; have h2 := h.2; simp at h1; omega
    · intro h; exact absurd h e
theorem bit_get (o : Int) (i : Nat) : (bit o).getLsbD i = (obj o && decide (i = (o - 1).toNat)) := by
  unfold bit
  split
  · rename_i h
    have h' := of_decide_eq_true h
    rw [one_shl_get _ _ (by omega), h, Bool.true_and]
  · rename_i h
    rw [Bool.not_eq_true] at h
    rw [h, Bool.false_and]; exact BitVec.getLsbD_zero
theorem has_bit (s : B) (o : Int) : (s &&& bit o == 0) = !has s o := by
  unfold has
  have hb := bit_get o
  generalize hk : (o - 1).toNat = k at hb ⊢
  by_cases h : obj o = true
  · by_cases g : s.getLsbD k = true
    · simp only [h, g, Bool.and_self, Bool.not_true, beq_eq_false_iff_ne]
      intro e
      have := congrArg (fun x : B => x.getLsbD k) e
      simp [BitVec.getLsbD_and, hb, h, g] at this
    · simp only [Bool.not_eq_true] at g
      simp only [h, g, Bool.and_false, Bool.not_false, beq_iff_eq]
      apply BitVec.eq_of_getLsbD_eq
      intro i hi
      simp only [BitVec.getLsbD_and, hb, BitVec.getLsbD_zero, h, Bool.true_and]
      by_cases e : i = k
      · subst e; simp [g]
      · simp [e]
  · simp only [Bool.not_eq_true] at h
    simp [h, bit]
theorem eqI_iv (a b : B) : eqI (iv a) (iv b) = (a == b) := by
  rw [eqI_def, Bool.eq_iff_iff]; simp [iv_inj]
theorem iv_zero : iv 0 = 0 := rfl
theorem eqI_iv0 (a : B) : eqI (iv a) 0 = (a == 0) := by rw [← iv_zero, eqI_iv]
theorem under_not (a b : B) : (a &&& ~~~ b == 0) = under a b := by
  unfold under
  rw [Bool.eq_iff_iff]
  simp only [beq_iff_eq]
  constructor
  · intro h
    apply BitVec.eq_of_getLsbD_eq
    intro i hi
    have := congrArg (fun x : B => x.getLsbD i) h
    simp [BitVec.getLsbD_and, BitVec.getLsbD_not, hi] at this ⊢
    exact this
  · intro h
    apply BitVec.eq_of_getLsbD_eq
    intro i hi
    have := congrArg (fun x : B => x.getLsbD i) h
    simp [BitVec.getLsbD_and, BitVec.getLsbD_not, hi] at this ⊢
    exact this
end Go.Nx
