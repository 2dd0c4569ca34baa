/-
  HOW MANY BITS: the library's way of counting, and a set's objects.
-/
import Derived.Test.YtpmpkcjcjccboaaDoorRt
set_option linter.unusedVariables false
set_option maxRecDepth 100000
namespace Go.Nx
open Go.RowKit
namespace Pop
def X : List Nat → Nat
  | [] => 0
  | b :: r => b + 256 * X r
theorem and_split (a q c d : Nat) (ha : a < 256) (hc : c < 256) : (a + 256 * q) &&& (c + 256 * d) = (a &&& c) + 256 * (q &&& d) := by
  have h : (a &&& c) < 2 ^ 8 := Nat.lt_of_le_of_lt Nat.and_le_left ha
  apply Nat.eq_of_testBit_eq
  intro i
  rw [Nat.testBit_and, Nat.add_comm a, Nat.add_comm c, Nat.add_comm (a &&& c), show (256 : Nat) = 2 ^ 8 from rfl, Nat.testBit_two_pow_mul_add _ ha, Nat.testBit_two_pow_mul_add _ hc,
    Nat.testBit_two_pow_mul_add _ h, Nat.testBit_and, Nat.testBit_and]
  split <;> rfl
theorem X_and {m : Nat} (hm : m < 256) : ∀ l : List Nat, (∀ b ∈ l, b < 256) → X l &&& X (l.map fun _ => m) = X (l.map (· &&& m)) := by
  intro l
  induction l with
  | nil => intro _; simp [X]
  | cons b r ih =>
    intro h
    simp only [X, List.map_cons]
    rw [and_split _ _ _ _ (h b (by simp)) hm, ih fun c hc => h c (by simp [hc])]
theorem div2 (b q : Nat) : (b + 256 * q) / 2 = (b / 2 + 128 * (q % 2)) + 256 * (q / 2) := by omega
theorem div4 (b q : Nat) : (b + 256 * q) / 4 = (b / 4 + 64 * (q % 4)) + 256 * (q / 4) := by omega
theorem mask55 : ∀ b < 256, ∀ t < 2, (b / 2 + 128 * t) &&& 85 = (b / 2) &&& 85 := by decide +kernel
theorem mask33 : ∀ b < 256, ∀ t < 4, (b / 4 + 64 * t) &&& 51 = (b / 4) &&& 51 := by decide +kernel
theorem X_and2 : ∀ l : List Nat, (∀ b ∈ l, b < 256) → X l / 2 &&& X (l.map fun _ => 85) = X (l.map fun b => (b / 2) &&& 85) := by
  intro l
  induction l with
  | nil => intro _; rfl
  | cons b r ih =>
    intro h
    have hb := h b (by simp)
    simp only [X, List.map_cons]
    rw [div2, and_split _ _ _ _ (by omega) (by omega), ih fun c hc => h c (by simp [hc]), mask55 b hb _ (by omega)]
theorem X_and4 : ∀ l : List Nat, (∀ b ∈ l, b < 256) → X l / 4 &&& X (l.map fun _ => 51) = X (l.map fun b => (b / 4) &&& 51) := by
  intro l
  induction l with
  | nil => intro _; rfl
  | cons b r ih =>
    intro h
    have hb := h b (by simp)
    simp only [X, List.map_cons]
    rw [div4, and_split _ _ _ _ (by omega) (by omega), ih fun c hc => h c (by simp [hc]), mask33 b hb _ (by omega)]
theorem X_add (f g : Nat → Nat) : ∀ l : List Nat, X (l.map f) + X (l.map g) = X (l.map fun b => f b + g b) := by
  intro l
  induction l with
  | nil => rfl
  | cons b r ih => simp only [X, List.map_cons]; omega
def small (y : Nat) : Prop := y % 16 ≤ 4 ∧ y / 16 ≤ 4
theorem X_mod16 : ∀ l : List Nat, (∀ b ∈ l, small b) → X l % 16 ≤ 4 := by
  intro l h
  cases l with
  | nil => simp [X]
  | cons b r => have := (h b (by simp)).1; simp only [X]; omega
theorem X_and16 : ∀ l : List Nat, (∀ b ∈ l, small b) → (X l / 16 + X l) &&& X (l.map fun _ => 15) = X (l.map fun b => b / 16 + b % 16) := by
  intro l
  induction l with
  | nil => intro _; rfl
  | cons b r ih =>
    intro h
    have hb := h b (by simp)
    have hr := X_mod16 r fun c hc => h c (by simp [hc])
    have e : (b + 256 * X r) / 16 + (b + 256 * X r) = (b / 16 + 16 * (X r % 16) + b) + 256 * (X r / 16 + X r) := by omega
    simp only [X, List.map_cons]
    obtain ⟨h1, h2⟩ := hb
    rw [e, and_split _ _ _ _ (by omega) (by omega), ih fun c hc => h c (by simp [hc]), show 15 = 2 ^ 4 - 1 from rfl, Nat.and_two_pow_sub_one_eq_mod]
    congr 1
    omega
def y1 (b : Nat) : Nat := ((b / 2) &&& 85) + (b &&& 85)
def y2 (y : Nat) : Nat := ((y / 4) &&& 51) + (y &&& 51)
def bits8 (b : Nat) : Nat := (b.testBit 0).toNat + (b.testBit 1).toNat + (b.testBit 2).toNat + (b.testBit 3).toNat + (b.testBit 4).toNat + (b.testBit 5).toNat + (b.testBit 6).toNat + (b.testBit 7).toNat
theorem y1_lt : ∀ b < 256, y1 b < 256 := by decide +kernel
theorem y2_small : ∀ b < 256, y2 (y1 b) % 16 ≤ 4 ∧ y2 (y1 b) / 16 ≤ 4 := by decide +kernel
theorem y3_bits : ∀ b < 256, y2 (y1 b) / 16 + y2 (y1 b) % 16 = bits8 b := by decide +kernel
theorem bits8_le : ∀ b < 256, bits8 b ≤ 8 := by decide +kernel

def step1 (x : Nat) : Nat := (x / 2 &&& 6148914691236517205) + (x &&& 6148914691236517205)
def step2 (x : Nat) : Nat := (x / 4 &&& 3689348814741910323) + (x &&& 3689348814741910323)
def step3 (x : Nat) : Nat := (x / 16 + x) &&& 1085102592571150095
theorem st1 (l : List Nat) (hl : l.length = 8) (h : ∀ b ∈ l, b < 256) : step1 (X l) = X (l.map y1) := by
  have e : X (l.map fun _ => 85) = 6148914691236517205 := by
    match l, hl with
    | [_, _, _, _, _, _, _, _], _ => exact (by decide +kernel : X [85, 85, 85, 85, 85, 85, 85, 85] = 6148914691236517205)
  rw [step1, ← e, X_and2 l h, X_and (by omega) l h, X_add]; rfl
theorem st2 (l : List Nat) (hl : l.length = 8) (h : ∀ b ∈ l, b < 256) : step2 (X l) = X (l.map y2) := by
  have e : X (l.map fun _ => 51) = 3689348814741910323 := by
    match l, hl with
    | [_, _, _, _, _, _, _, _], _ => exact (by decide +kernel : X [51, 51, 51, 51, 51, 51, 51, 51] = 3689348814741910323)
  rw [step2, ← e, X_and4 l h, X_and (by omega) l h, X_add]; rfl
theorem st3 (l : List Nat) (hl : l.length = 8) (h : ∀ b ∈ l, small b) : step3 (X l) = X (l.map fun b => b / 16 + b % 16) := by
  have e : X (l.map fun _ => 15) = 1085102592571150095 := by
    match l, hl with
    | [_, _, _, _, _, _, _, _], _ => exact (by decide +kernel : X [15, 15, 15, 15, 15, 15, 15, 15] = 1085102592571150095)
  rw [step3, ← e, X_and16 l h]
theorem steps123 (l : List Nat) (hl : l.length = 8) (h : ∀ b ∈ l, b < 256) : step3 (step2 (step1 (X l))) = X (l.map bits8) := by
  rw [st1 l hl h, st2 (l.map y1) (by simpa using hl) (fun b hb => by
      obtain ⟨c, hc, rfl⟩ := List.mem_map.1 hb; exact y1_lt c (h c hc)),
    List.map_map, st3 (l.map (y2 ∘ y1)) (by simpa using hl) (fun b hb => by
      obtain ⟨c, hc, rfl⟩ := List.mem_map.1 hb; exact y2_small c (h c hc)), List.map_map]
  congr 1
  apply List.map_congr_left
  intro b hb
  exact y3_bits b (h b hb)
/-- the last steps: the bytes' sum -/
theorem last (z0 z1 z2 z3 z4 z5 z6 z7 : Nat) (h0 : z0 ≤ 8) (h1 : z1 ≤ 8) (h2 : z2 ≤ 8) (h3 : z3 ≤ 8) (h4 : z4 ≤ 8) (h5 : z5 ≤ 8) (h6 : z6 ≤ 8) (h7 : z7 ≤ 8) (x a b c : Nat)
    (hx : x = X [z0, z1, z2, z3, z4, z5, z6, z7]) (ha : a = x + x / 256) (hb : b = a + a / 65536) (hc : c = b + b / 4294967296) :
    c % 128 = z0 + z1 + z2 + z3 + z4 + z5 + z6 + z7 ∧ c < 9223372036854775808 := by
  simp only [X] at hx
  have ha' : a = (z0 + z1) + 256 * ((z1 + z2) + 256 * ((z2 + z3) + 256 * ((z3 + z4) + 256 * ((z4 + z5) + 256 * ((z5 + z6) + 256 * ((z6 + z7) + 256 * z7)))))) := by omega
  clear ha hx x
  have hb' : b = (z0 + z1 + z2 + z3) + 256 * ((z1 + z2 + z3 + z4) + 256 * ((z2 + z3 + z4 + z5) + 256 * ((z3 + z4 + z5 + z6) + 256 * ((z4 + z5 + z6 + z7) + 256 * ((z5 + z6 + z7) + 256 * ((z6 + z7) + 256 * z7)))))) := by omega
  clear hb ha' a
  have hc' : c = (z0 + z1 + z2 + z3 + z4 + z5 + z6 + z7) + 256 * ((z1 + z2 + z3 + z4 + z5 + z6 + z7) + 256 * ((z2 + z3 + z4 + z5 + z6 + z7) + 256 * ((z3 + z4 + z5 + z6 + z7) + 256 * ((z4 + z5 + z6 + z7) + 256 * ((z5 + z6 + z7) + 256 * ((z6 + z7) + 256 * z7)))))) := by omega
  clear hc hb' b
  omega

/-! how many -/
def cntN (x : B) : Nat → Nat
  | 0 => 0
  | k + 1 => cntN x k + (x.getLsbD k).toNat
def cnt (x : B) : Nat := cntN x 64
theorem cntN_part (m b : B) : ∀ k, k ≤ 64 → cntN (m &&& ~~~ b) k + cntN (m &&& b) k = cntN m k := by
  intro k
  induction k with
  | zero => intro _; rfl
  | succ k ih =>
    intro hk
    have := ih (by omega)
    have h : (m &&& ~~~ b).getLsbD k = (m.getLsbD k && !b.getLsbD k) := by
      rw [BitVec.getLsbD_and, BitVec.getLsbD_not, decide_eq_true (show k < 64 by omega), Bool.true_and]
    simp only [cntN]
    rw [h, BitVec.getLsbD_and]
    cases m.getLsbD k <;> cases b.getLsbD k <;> simp <;> omega
theorem cnt_part (m b : B) : cnt (m &&& ~~~ b) + cnt (m &&& b) = cnt m := cntN_part m b 64 (by omega)
theorem cntN_le (x : B) : ∀ k, cntN x k ≤ k := by
  intro k
  induction k with
  | zero => exact Nat.le_refl _
  | succ k ih => simp only [cntN]; have : (x.getLsbD k).toNat ≤ 1 := Bool.toNat_le _; omega
theorem cnt_le (x : B) : cnt x ≤ 64 := cntN_le x 64
def byt (x : Nat) (j : Nat) : Nat := x / 256 ^ j % 256
theorem byt_bit (x : B) (j i : Nat) (hi : i < 8) : (byt x.toNat j).testBit i = x.getLsbD (8 * j + i) := by
  rw [byt, show 256 = 2 ^ 8 from rfl, Nat.testBit_mod_two_pow, ← Nat.pow_mul, Nat.testBit_div_two_pow, BitVec.getLsbD]
  simp only [hi, decide_true, Bool.true_and, Nat.add_comm]
theorem X_bytes (n : Nat) (h : n < 18446744073709551616) : n = X [byt n 0, byt n 1, byt n 2, byt n 3, byt n 4, byt n 5, byt n 6, byt n 7] := by
  simp only [X, byt]
  omega
theorem cnt_bytes (x : B) : cnt x = bits8 (byt x.toNat 0) + bits8 (byt x.toNat 1) + bits8 (byt x.toNat 2) + bits8 (byt x.toNat 3) + bits8 (byt x.toNat 4) + bits8 (byt x.toNat 5) + bits8 (byt x.toNat 6) + bits8 (byt x.toNat 7) := by
  have h : ∀ j, bits8 (byt x.toNat j) = (x.getLsbD (8 * j)).toNat + (x.getLsbD (8 * j + 1)).toNat + (x.getLsbD (8 * j + 2)).toNat + (x.getLsbD (8 * j + 3)).toNat + (x.getLsbD (8 * j + 4)).toNat + (x.getLsbD (8 * j + 5)).toNat + (x.getLsbD (8 * j + 6)).toNat + (x.getLsbD (8 * j + 7)).toNat := by
    intro j
    simp only [bits8]
    rw [byt_bit x j 0 (by omega), byt_bit x j 1 (by omega), byt_bit x j 2 (by omega), byt_bit x j 3 (by omega), byt_bit x j 4 (by omega), byt_bit x j 5 (by omega), byt_bit x j 6 (by omega), byt_bit x j 7 (by omega)]
    rfl
  rw [h, h, h, h, h, h, h, h]
  simp only [cnt, cntN, Nat.reduceMul, Nat.reduceAdd, Nat.zero_add]
  omega
theorem byt_lt (n j : Nat) : byt n j < 256 := Nat.mod_lt _ (by omega)
/-- THE WORD's COUNT -/
theorem pop_count (x : B) (y a b c : Nat) (hy : y = step3 (step2 (step1 x.toNat))) (ha : a = y + y / 256) (hb : b = a + a / 65536) (hc : c = b + b / 4294967296) :
    c % 128 = cnt x ∧ c < 9223372036854775808 ∧ y < 9223372036854775808 := by
  have h0 := X_bytes x.toNat x.isLt
  rw [h0, steps123 _ rfl (by intro b hb; simp only [List.mem_cons, List.not_mem_nil, or_false] at hb; rcases hb with rfl | rfl | rfl | rfl | rfl | rfl | rfl | rfl <;> exact byt_lt _ _)] at hy
  simp only [List.map_cons, List.map_nil] at hy
  have h := last _ _ _ _ _ _ _ _ (bits8_le _ (byt_lt _ _)) (bits8_le _ (byt_lt _ _)) (bits8_le _ (byt_lt _ _)) (bits8_le _ (byt_lt _ _)) (bits8_le _ (byt_lt _ _)) (bits8_le _ (byt_lt _ _)) (bits8_le _ (byt_lt _ _)) (bits8_le _ (byt_lt _ _)) y a b c hy ha hb hc
  rw [cnt_bytes]
  exact ⟨h.1, h.2, by omega⟩
theorem shrN (n k : Nat) (hk : k < 64) : shrI .u64 (n : Int) (k : Int) = ((n / 2 ^ k : Nat) : Int) := by
  simp only [shrI]
  have : min (k : Int).toNat (IntKind.bits .u64) = k := by simp [IntKind.bits]; omega
  rw [this, Int.fdiv_eq_ediv_of_nonneg _ (Int.le_of_lt (Int.pow_pos (by decide)))]
  simp
theorem andN (n m : Nat) (hn : n < 18446744073709551616) (hm : m < 18446744073709551616) : andI .u64 (n : Int) (m : Int) = ((n &&& m : Nat) : Int) := by
  rw [andI_u]
  unfold iv
  rw [BitVec.toNat_and]
  have h : ∀ x : Nat, x < 18446744073709551616 → (bv (x : Int)).toNat = x := fun x hx => by
    simp only [bv, BitVec.ofInt_natCast, BitVec.toNat_ofNat]
    exact Nat.mod_eq_of_lt hx
  rw [h n hn, h m hm]
theorem wrapN (n : Nat) (hn : n < 18446744073709551616) : IntKind.u64.wrap (n : Int) = (n : Int) := wrap_u64 ⟨by omega, by omega⟩
theorem and127 (c : Nat) (hc : c < 9223372036854775808) : andI .i64 (c : Int) 127 = ((c % 128 : Nat) : Int) := by
  have h : ∀ x : Nat, x < 9223372036854775808 → (BitVec.ofInt (IntKind.bits .i64) (x : Int)).toNat = x := fun x hx => by
    show (BitVec.ofInt 64 (x : Int)).toNat = x
    simp only [BitVec.ofInt_natCast, BitVec.toNat_ofNat]
    exact Nat.mod_eq_of_lt (by omega)
  unfold andI
  rw [BitVec.toNat_and, h c hc]
  have h127 : (BitVec.ofInt (IntKind.bits .i64) 127).toNat = 127 := by decide
  rw [h127, show 127 = 2 ^ 7 - 1 from rfl, Nat.and_two_pow_sub_one_eq_mod]
  exact wrap_i64 ⟨by omega, by omega⟩
theorem ivN (x : B) : iv x = (x.toNat : Int) := rfl
theorem step1_lt (n : Nat) : step1 n ≤ 12297829382473034410 := by
  have h1 : n / 2 &&& 6148914691236517205 ≤ 6148914691236517205 := Nat.and_le_right
  have h2 : n &&& 6148914691236517205 ≤ 6148914691236517205 := Nat.and_le_right
  unfold step1; omega
theorem step2_lt (n : Nat) : step2 n ≤ 7378697629483820646 := by
  have h1 : n / 4 &&& 3689348814741910323 ≤ 3689348814741910323 := Nat.and_le_right
  have h2 : n &&& 3689348814741910323 ≤ 3689348814741910323 := Nat.and_le_right
  unfold step2; omega
theorem step3_lt (n : Nat) : step3 n ≤ 1085102592571150095 := Nat.and_le_right
theorem stA (n : Nat) (hn : n < 18446744073709551616) : IntKind.u64.wrap (andI .u64 (shrI .u64 (n : Int) 1) 6148914691236517205 + andI .u64 (n : Int) 6148914691236517205) = (step1 n : Int) := by
  have h1 := shrN n 1 (by omega)
  have h2 := andN (n / 2 ^ 1) 6148914691236517205 (by omega) (by omega)
  have h3 := andN n 6148914691236517205 (by omega) (by omega)
  simp only [Int.cast_ofNat_Int] at h1 h2 h3
  rw [h1, h2, h3, ← Int.natCast_add]
  exact wrapN _ (Nat.lt_of_le_of_lt (step1_lt n) (by omega))
theorem stB (n : Nat) (hn : n < 18446744073709551616) : IntKind.u64.wrap (andI .u64 (shrI .u64 (n : Int) 2) 3689348814741910323 + andI .u64 (n : Int) 3689348814741910323) = (step2 n : Int) := by
  have h1 := shrN n 2 (by omega)
  have h2 := andN (n / 2 ^ 2) 3689348814741910323 (by omega) (by omega)
  have h3 := andN n 3689348814741910323 (by omega) (by omega)
  simp only [Int.cast_ofNat_Int] at h1 h2 h3
  rw [h1, h2, h3, ← Int.natCast_add]
  exact wrapN _ (Nat.lt_of_le_of_lt (step2_lt n) (by omega))
theorem stC (n : Nat) (hn : n ≤ 7378697629483820646) : andI .u64 (IntKind.u64.wrap (shrI .u64 (n : Int) 4 + (n : Int))) 1085102592571150095 = (step3 n : Int) := by
  have h1 := shrN n 4 (by omega)
  have h2 := andN (n / 2 ^ 4 + n) 1085102592571150095 (by omega) (by omega)
  simp only [Int.cast_ofNat_Int] at h1 h2
  rw [h1, ← Int.natCast_add, wrapN _ (by omega), h2]; rfl
theorem stD (n k m : Nat) (hk : k < 64) (hm : m = n + n / 2 ^ k) (h : m < 9223372036854775808) : IntKind.u64.wrap ((n : Int) + shrI .u64 (n : Int) (k : Int)) = (m : Int) := by
  rw [shrN n k hk, ← Int.natCast_add, hm]
  exact wrapN _ (by omega)
theorem onesCount (x : B) (y a b c : Nat) (hy : y = step3 (step2 (step1 x.toNat))) (ha : a = y + y / 256) (hb : b = a + a / 65536) (hc : c = b + b / 4294967296) :
    andI .i64 (IntKind.i64.wrap (c : Int)) 127 = (cnt x : Int) := by
  obtain ⟨h1, h2, h3⟩ := pop_count x y a b c hy ha hb hc
  rw [wrap_i64 ⟨by omega, by omega⟩, and127 c h2, h1]

/-- the library's way -/
def pcJ (s : Int) : Int :=
  let s1 := IntKind.u64.wrap (andI .u64 (shrI .u64 s 1) 6148914691236517205 + andI .u64 s 6148914691236517205)
  let s2 := IntKind.u64.wrap (andI .u64 (shrI .u64 s1 2) 3689348814741910323 + andI .u64 s1 3689348814741910323)
  let s3 := andI .u64 (IntKind.u64.wrap (shrI .u64 s2 4 + s2)) 1085102592571150095
  let s4 := IntKind.u64.wrap (s3 + shrI .u64 s3 8)
  let s5 := IntKind.u64.wrap (s4 + shrI .u64 s4 16)
  let s6 := IntKind.u64.wrap (s5 + shrI .u64 s5 32)
  andI .i64 (IntKind.i64.wrap s6) 127
theorem pcJ_cnt (x : B) : pcJ (iv x) = (cnt x : Int) := by
  obtain ⟨y, hy⟩ : ∃ y, y = step3 (step2 (step1 x.toNat)) := ⟨_, rfl⟩
  obtain ⟨a, ha⟩ : ∃ a, a = y + y / 256 := ⟨_, rfl⟩
  obtain ⟨b, hb⟩ : ∃ b, b = a + a / 65536 := ⟨_, rfl⟩
  obtain ⟨c, hc⟩ : ∃ c, c = b + b / 4294967296 := ⟨_, rfl⟩
  obtain ⟨h1, h2, h3⟩ := pop_count x y a b c hy ha hb hc
  have hx := x.isLt
  have e1 := stD y 8 a (by omega) (by rw [ha]) (by omega)
  have e2 := stD a 16 b (by omega) (by rw [hb]) (by omega)
  have e3 := stD b 32 c (by omega) (by rw [hc]) (by omega)
  simp only [Int.cast_ofNat_Int] at e1 e2 e3
  have f1 := step1_lt x.toNat
  have f2 := step2_lt (step1 x.toNat)
  have hw : IntKind.u64.wrap (step2 (step1 x.toNat) : Int) = (step2 (step1 x.toNat) : Int) := wrapN _ (by omega)
  unfold pcJ
  dsimp only
  rw [ivN, stA x.toNat (by omega), stB _ (by omega), stC _ f2, ← hy, e1, e2, e3, onesCount x y a b c hy ha hb hc]
theorem cntN_lsN (x : B) : ∀ k, k ≤ 64 → cntN x k = (lsN x k).length
  | 0, _ => rfl
  | k + 1, h => by
    have hh : has x ((k : Int) + 1) = x.getLsbD k := by
      unfold has
      rw [obj_t (by omega) (by omega), Bool.true_and, show ((k : Int) + 1 - 1).toNat = k by omega]
    rw [cntN, cntN_lsN x k (by omega), lsN, hh]
    cases x.getLsbD k <;> simp
theorem cnt_ls (x : B) : cnt x = (lsL x).length := cntN_lsN x 64 (Nat.le_refl _)
end Pop
theorem pc_ls (x : B) : Pop.pcJ (iv x) = ((lsL x).length : Int) := by rw [Pop.pcJ_cnt, Pop.cnt_ls]
/-- a list of objects, each once, is as many -/
theorem nodup_len : ∀ {a b : List Int}, a.Nodup → (∀ x ∈ a, x ∈ b) → a.length ≤ b.length
  | [], b, _, _ => by simp
  | x :: a, b, h, hs => by
    obtain ⟨h1, h2⟩ := List.nodup_cons.1 h
    have hx : x ∈ b := hs x (by simp)
    have := nodup_len (a := a) (b := b.erase x) h2 fun y hy => by
      have hne : y ≠ x := fun e => h1 (e ▸ hy)
      exact (List.mem_erase_of_ne hne).2 (hs y (by simp [hy]))
    rw [List.length_erase_of_mem hx] at this
    have hp := List.length_pos_of_mem hx
    simp; omega
theorem nodup_perm : ∀ {a b : List Int}, a.Nodup → (∀ x ∈ a, x ∈ b) → b.length ≤ a.length → a.Perm b
  | [], b, _, _, hl => by
    have : b = [] := List.eq_nil_of_length_eq_zero (by simpa using hl)
    rw [this]
  | x :: a, b, h, hs, hl => by
    obtain ⟨h1, h2⟩ := List.nodup_cons.1 h
    have hx : x ∈ b := hs x (by simp)
    have hp := nodup_perm (a := a) (b := b.erase x) h2 (fun y hy => by
      have hne : y ≠ x := fun e => h1 (e ▸ hy)
      exact (List.mem_erase_of_ne hne).2 (hs y (by simp [hy]))) (by
      rw [List.length_erase_of_mem hx]; simp at hl; omega)
    exact (hp.cons x).trans (List.perm_cons_erase hx).symm
theorem ls_len_le (l : List Int) : (lsL (ofL l)).length ≤ l.length := by
  have hsub : ∀ x ∈ lsL (ofL l), x ∈ l := fun x hx => by
    rw [mem_lsL, has_ofL] at hx
    simp at hx; exact hx.2
  exact nodup_len (lsL_nodup _) hsub
theorem once_iff (l : List Int) : (lsL (ofL l)).length = l.length ↔ l.Nodup ∧ ∀ x ∈ l, obj x = true := by
  constructor
  · intro h
    have hsub : ∀ x ∈ lsL (ofL l), x ∈ l := fun x hx => by
      rw [mem_lsL, has_ofL] at hx
      simp at hx; exact hx.2
    have hp := nodup_perm (lsL_nodup _) hsub (by omega)
    refine ⟨hp.nodup_iff.1 (lsL_nodup _), fun x hx => ?_⟩
    have := hp.mem_iff.2 hx
    rw [mem_lsL, has_ofL] at this
    simp at this; exact this.1
  · rintro ⟨h1, h2⟩
    have hsub : ∀ x ∈ l, x ∈ lsL (ofL l) := fun x hx => by
      rw [mem_lsL, has_ofL, h2 x hx]; simp [hx]
    have a := nodup_len h1 hsub
    have b := ls_len_le l
    omega
end Go.Nx
