/-
  COUNTS; TINT GREYS.
-/
import Derived.Test.YtbcldnaoecnffaaDoorNm
import Derived.Test.YtbcldnaoecnffaaDoorNo1
set_option linter.unusedVariables false
set_option linter.unusedSimpArgs false
set_option maxRecDepth 40000
namespace Go.Mx
open Go.RowKit Go.Proofs

theorem shrN (n k : Nat) (hk : k < 64) : shrI .u64 (n : Int) (k : Int) = ((n / 2 ^ k : Nat) : Int) := by
  simp only [shrI]
  have : min (k : Int).toNat (IntKind.bits .u64) = k := by simp [IntKind.bits]; omega
  rw [this, Int.fdiv_eq_ediv_of_nonneg _ (Int.le_of_lt (Int.pow_pos (by decide)))]
  simp
theorem andN (n m : Nat) (hn : n < 18446744073709551616) (hm : m < 18446744073709551616) : andI .u64 (n : Int) (m : Int) = ((n &&& m : Nat) : Int) := by
  rw [andI_u]
  unfold iv
  rw [BitVec.toNat_and]
  have h : ∀ x : Nat, x < 18446744073709551616 → (bv (x : Int)).toNat = x := fun x hx => by
    simp only [bv, BitVec.ofInt_natCast, BitVec.toNat_ofNat]
    exact Nat.mod_eq_of_lt hx
  rw [h n hn, h m hm]
theorem wrapN (n : Nat) (hn : n < 18446744073709551616) : IntKind.u64.wrap (n : Int) = (n : Int) := wrap_u64 ⟨by omega, by omega⟩
theorem and127 (c : Nat) (hc : c < 9223372036854775808) : andI .i64 (c : Int) 127 = ((c % 128 : Nat) : Int) := by
  have h : ∀ x : Nat, x < 9223372036854775808 → (BitVec.ofInt (IntKind.bits .i64) (x : Int)).toNat = x := fun x hx => by
    show (BitVec.ofInt 64 (x : Int)).toNat = x
    simp only [BitVec.ofInt_natCast, BitVec.toNat_ofNat]
    exact Nat.mod_eq_of_lt (by omega)
  unfold andI
  rw [BitVec.toNat_and, h c hc]
  have h127 : (BitVec.ofInt (IntKind.bits .i64) 127).toNat = 127 := by decide
  rw [h127, show 127 = 2 ^ 7 - 1 from rfl, Nat.and_two_pow_sub_one_eq_mod]
  exact wrap_i64 ⟨by omega, by omega⟩
theorem ivN (x : B) : iv x = (x.toNat : Int) := rfl
theorem step1_lt (n : Nat) : step1 n ≤ 12297829382473034410 := by
  have h1 : n / 2 &&& 6148914691236517205 ≤ 6148914691236517205 := Nat.and_le_right
  have h2 : n &&& 6148914691236517205 ≤ 6148914691236517205 := Nat.and_le_right
  unfold step1; omega
theorem step2_lt (n : Nat) : step2 n ≤ 7378697629483820646 := by
  have h1 : n / 4 &&& 3689348814741910323 ≤ 3689348814741910323 := Nat.and_le_right
  have h2 : n &&& 3689348814741910323 ≤ 3689348814741910323 := Nat.and_le_right
  unfold step2; omega
theorem step3_lt (n : Nat) : step3 n ≤ 1085102592571150095 := Nat.and_le_right
theorem stA (n : Nat) (hn : n < 18446744073709551616) : IntKind.u64.wrap (andI .u64 (shrI .u64 (n : Int) 1) 6148914691236517205 + andI .u64 (n : Int) 6148914691236517205) = (step1 n : Int) := by
  have h1 := shrN n 1 (by omega)
  have h2 := andN (n / 2 ^ 1) 6148914691236517205 (by omega) (by omega)
  have h3 := andN n 6148914691236517205 (by omega) (by omega)
  simp only [Int.cast_ofNat_Int] at h1 h2 h3
  rw [h1, h2, h3, ← Int.natCast_add]
  exact wrapN _ (Nat.lt_of_le_of_lt (step1_lt n) (by omega))
theorem stB (n : Nat) (hn : n < 18446744073709551616) : IntKind.u64.wrap (andI .u64 (shrI .u64 (n : Int) 2) 3689348814741910323 + andI .u64 (n : Int) 3689348814741910323) = (step2 n : Int) := by
  have h1 := shrN n 2 (by omega)
  have h2 := andN (n / 2 ^ 2) 3689348814741910323 (by omega) (by omega)
  have h3 := andN n 3689348814741910323 (by omega) (by omega)
  simp only [Int.cast_ofNat_Int] at h1 h2 h3
  rw [h1, h2, h3, ← Int.natCast_add]
  exact wrapN _ (Nat.lt_of_le_of_lt (step2_lt n) (by omega))
theorem stC (n : Nat) (hn : n ≤ 7378697629483820646) : andI .u64 (IntKind.u64.wrap (shrI .u64 (n : Int) 4 + (n : Int))) 1085102592571150095 = (step3 n : Int) := by
  have h1 := shrN n 4 (by omega)
  have h2 := andN (n / 2 ^ 4 + n) 1085102592571150095 (by omega) (by omega)
  simp only [Int.cast_ofNat_Int] at h1 h2
  rw [h1, ← Int.natCast_add, wrapN _ (by omega), h2]; rfl
theorem stD (n k m : Nat) (hk : k < 64) (hm : m = n + n / 2 ^ k) (h : m < 9223372036854775808) : IntKind.u64.wrap ((n : Int) + shrI .u64 (n : Int) (k : Int)) = (m : Int) := by
  rw [shrN n k hk, ← Int.natCast_add, hm]
  exact wrapN _ (by omega)
theorem onesCount (x : B) (y a b c : Nat) (hy : y = step3 (step2 (step1 x.toNat))) (ha : a = y + y / 256) (hb : b = a + a / 65536) (hc : c = b + b / 4294967296) :
    andI .i64 (IntKind.i64.wrap (c : Int)) 127 = (cnt x : Int) := by
  obtain ⟨h1, h2, h3⟩ := pop_count x y a b c hy ha hb hc
  rw [wrap_i64 ⟨by omega, by omega⟩, and127 c h2, h1]
def c38 : List T → Ans
  | [.int .u64 s] => .req (R64 s) (.int .i64 (cnt (bv s)))
  | _ => .no
theorem ok38 (s : Int) (hq : R64 s) : FnOk Tryd.prog tgl 38 [.int .u64 s] (.int .i64 (cnt (bv s))) := by
  refine fn_ok (Γ := e9) env9 Tryd.func38 low38 ?_
  obtain ⟨x, rfl⟩ := exists_iv hq
  conv => whnf
  repeat' (first | (refine brK_true (by assumption) ?_; conv => whnf) | (refine brK_false (by assumption) ?_; conv => whnf) | (refine brK_of (fun h => ?_) (fun h => ?_) <;> conv => whnf) | (refine reqK_of ?_ ?_; rotate_left; (conv => whnf); rotate_left))
  all_goals first | decide | skip
  rw [bv_iv, ivN]
  obtain ⟨y, hy⟩ : ∃ y, y = step3 (step2 (step1 x.toNat)) := ⟨_, rfl⟩
  obtain ⟨a, ha⟩ : ∃ a, a = y + y / 256 := ⟨_, rfl⟩
  obtain ⟨b, hb⟩ : ∃ b, b = a + a / 65536 := ⟨_, rfl⟩
  obtain ⟨c, hc⟩ : ∃ c, c = b + b / 4294967296 := ⟨_, rfl⟩
  obtain ⟨h1, h2, h3⟩ := pop_count x y a b c hy ha hb hc
  have hx := x.isLt
  have e1 := stD y 8 a (by omega) (by rw [ha]) (by omega)
  have e2 := stD a 16 b (by omega) (by rw [hb]) (by omega)
  have e3 := stD b 32 c (by omega) (by rw [hc]) (by omega)
  simp only [Int.cast_ofNat_Int] at e1 e2 e3
  have f1 := step1_lt x.toNat
  have f2 := step2_lt (step1 x.toNat)
  rw [stA x.toNat (by omega), stB _ (by omega)]
  have hw : IntKind.u64.wrap (step2 (step1 x.toNat) : Int) = (step2 (step1 x.toNat) : Int) := wrapN _ (by omega)
  rw [stC _ f2, ← hy, e1, e2, e3, onesCount x y a b c hy ha hb hc]
theorem got38 {vs : List T} {x : T} (h : Got (c38 vs) x) : FnOk Tryd.prog tgl 38 vs x := by
  unfold c38 at h
  split at h
  · obtain ⟨hq, e⟩ := got_req h; rw [e]; exact ok38 _ hq
  · exact (got_no h).elim
def lB0 : List (Nat × (List T → Ans)) := (38, c38) :: l9
def eB0 : Env := ⟨ansL lB0, tgl⟩
theorem envB0 : EnvOk Tryd.prog eB0 := (env_cons env9 fun _ _ => got38)
def c30 : List T → Ans
  | [.int .u64 s] => .req (R64 s) (.int .i64 (cnt (bv s)))
  | _ => .no
theorem ok30 (s : Int) (hq : R64 s) : FnOk Tryd.prog tgl 30 [.int .u64 s] (.int .i64 (cnt (bv s))) := by
  refine fn_ok (Γ := eB0) envB0 Tryd.func30 low30 ?_
  conv => whnf
  repeat' (first | (refine brK_true (by assumption) ?_; conv => whnf) | (refine brK_false (by assumption) ?_; conv => whnf) | (refine brK_of (fun h => ?_) (fun h => ?_) <;> conv => whnf) | (refine reqK_of ?_ ?_; rotate_left; (conv => whnf); rotate_left))
  exact hq
theorem got30 {vs : List T} {x : T} (h : Got (c30 vs) x) : FnOk Tryd.prog tgl 30 vs x := by
  unfold c30 at h
  split at h
  · obtain ⟨hq, e⟩ := got_req h; rw [e]; exact ok30 _ hq
  · exact (got_no h).elim
def lB : List (Nat × (List T → Ans)) := (30, c30) :: lA
def eB : Env := ⟨ansL lB, tgl⟩
theorem envB : EnvOk Tryd.prog eB := (env_cons envA fun _ _ => got30)

theorem txt_at (m b : B) : ∀ (k i : Nat), i < k → (txt m b k).extract i (i + 1) = letter (colr m b ((i : Int) + 1)) := by
  intro k
  induction k with
  | zero => intro i h; omega
  | succ k ih =>
    intro i h
    have hs : (txt m b k).data.size = k := txt_size m b k
    have hl : (letter (colr m b ((k : Int) + 1))).data.size = 1 := letter_size _
    rw [txt]
    apply ByteArray.ext
    rw [ByteArray.data_extract, ByteArray.data_append, Array.extract_append, hs]
    by_cases e : i < k
    · have h1 := congrArg ByteArray.data (ih i e)
      rw [ByteArray.data_extract] at h1
      rw [h1]
      have : (letter (colr m b ((k : Int) + 1))).data.extract (i - k) (i + 1 - k) = #[] := by
        apply Array.extract_empty_of_stop_le_start; omega
      rw [this, Array.append_empty]
    · have : i = k := by omega
      subst this
      have h1 : (txt m b i).data.extract i (i + 1) = #[] := by
        apply Array.extract_empty_of_size_le_start; omega
      rw [h1, Array.empty_append, show i - i = 0 by omega, show i + 1 - i = 1 by omega, ← hl, Array.extract_size]
theorem grey_iff (a b : B) (o : Int) : has (a &&& ~~~ b) o = eqI (colr a b o) 1 := by
  have h : has (a &&& ~~~ b) o = (has a o && !has b o) := by
    unfold has
    cases h : obj o
    · rfl
    · have h' := of_decide_eq_true h
      rw [BitVec.getLsbD_and, BitVec.getLsbD_not, decide_eq_true (by omega)]
      cases a.getLsbD (o - 1).toNat <;> cases b.getLsbD (o - 1).toNat <;> rfl
  rw [h, eqI_def, colr]
  cases has a o <;> cases has b o <;> rfl
theorem under_part (a b : B) : under (a &&& ~~~ b) a = true := by
  rw [under_iff]
  intro i hi
  rw [grey_iff, eqI_def, colr] at hi
  cases h : has a i
  · rw [h] at hi; simp at hi
  · rfl
theorem cnt_sum (a b : B) : IntKind.i64.wrap ((cnt (a &&& ~~~ (a &&& b)) : Int) + (cnt (a &&& b) : Int)) = (cnt a : Int) := by
  have h1 := cnt_part a (a &&& b)
  have h2 := cnt_le a
  have e : a &&& (a &&& b) = a &&& b := by
    apply BitVec.eq_of_getLsbD_eq
    intro i hi
    simp only [BitVec.getLsbD_and]
    cases a.getLsbD i <;> rfl
  rw [e] at h1
  rw [← Int.natCast_add, h1]
  exact wrap_i64 ⟨by omega, by omega⟩
theorem right64 (a b : B) : rightB a (a &&& b) 64 = true := by
  rw [rightB, Bool.and_eq_true, under_iff, under_iff]
  refine ⟨fun i hi => ?_, fun i hi => ?_⟩
  · rw [has_and, Bool.and_eq_true] at hi; exact hi.1
  · have := has_range hi
    rw [has_first, obj_t this.1 this.2]; simpa using this.2
def setL : List V → List (Nat × V) → List V
  | tm, [] => tm
  | tm, p :: r => setL (tm.set p.1 p.2) r
/-- a loop that turns some slots -/
theorem loopSet {α : Type} {W : St → (Ex → St → Prop) → Prop} {tm : List V} {own : List (Nat × Blk)} {K : Ex → St → Prop} (kt : List Nat) (f : α → List (Nat × V)) (J : α → Prop) (m : α → Nat) (a0 : α) (hJ : J a0) (h0 : tm = setL tm (f a0))
    (h : ∀ a, J a → ∀ C : St → Prop, (∀ b, J b → m b < m a → C ⟨setL tm (f b), own⟩) → W ⟨setL tm (f a), own⟩ fun e s' => match e with
      | .normal => killK kt [] s' C
      | e => K e s') : loopK W ⟨tm, own⟩ K :=
  loopAt kt [] (fun a => ⟨setL tm (f a), own⟩) J m a0 hJ (by rw [← h0]) h
def c8 : List T → Ans
  | [.int .u64 a, .int .u64 b, .int .u8 n] => .req ((R64 a ∧ R64 b) ∧ 0 ≤ n ∧ n ≤ 255) (.bool true)
  | _ => .no
theorem ok8 (a b n : Int) (hq : (R64 a ∧ R64 b) ∧ 0 ≤ n ∧ n ≤ 255) : FnOk Tryd.prog tgl 8 [.int .u64 a, .int .u64 b, .int .u8 n] (.bool true) := by
  refine fn_ok (Γ := eB) envB Tryd.func8 low8 ?_
  obtain ⟨⟨h1, h2⟩, hn0, hn1⟩ := hq
  obtain ⟨a, rfl⟩ := exists_iv h1
  obtain ⟨b, rfl⟩ := exists_iv h2
  have ht : n.tmod 80 = n % 80 := Int.tmod_eq_emod_of_nonneg hn0
  have hw : IntKind.i64.wrap (n.tmod 80) = n % 80 := by rw [ht]; exact wrap_i64 ⟨by omega, by omega⟩
  have hl : ((txt a (a &&& b) (lim (n % 80))).size : Int) = minI (n % 80) 64 := by rw [txt_size, minI_def]; unfold lim; split <;> omega
  have hcs := cnt_sum a b
  have hup := under_part a (a &&& b)
  have hr := right64 a b
  conv => whnf
  repeat' (first
    | (refine reqK_of ?_ ?_; rotate_left; (conv => whnf); rotate_left)
    | (refine brK_true ?_ ?_; (focus (simp only [bv_iv, hw, hl, eqI_self, hup, hcs, Bool.not_true, Bool.not_false]; done)); conv => whnf)
    | (refine brK_false ?_ ?_; (focus (simp only [bv_iv, hw, hl, eqI_self, hup, hcs, Bool.not_true, Bool.not_false]; done)); conv => whnf))
  all_goals first | exact R_iv _ | decide | skip
  refine loopSet [12, 52, 53, 54, 55, 56, 57, 58, 59, 60, 61, 62, 63, 64, 65, 66, 67, 68, 69, 70, 71, 72, 73, 74, 75, 76, 77, 78, 79, 80] (fun k : Nat => [(11, .t (.int .i64 (k : Int)))])
    (fun k => k ≤ lim (n % 80)) (fun k => 64 - k) 0 (Nat.zero_le _) rfl fun k hk C hC => ?_
  have hlim : lim (n % 80) ≤ 64 := by unfold lim; omega
  have hsz : (txt a (a &&& b) (lim (n % 80))).size = lim (n % 80) := txt_size _ _ _
  by_cases hlt : k < lim (n % 80)
  · have hc : ltI (k : Int) ((txt a (a &&& b) (lim (n % 80))).size : Int) = true := lt_t.2 (by omega)
    have hw1 : IntKind.i64.wrap ((k : Int) + 1) = (k : Int) + 1 := wrap_i64 ⟨by omega, by omega⟩
    obtain ⟨g1, g2, g3⟩ := letter_at _ (colr_cases a (a &&& b) ((k : Int) + 1))
    have hg := grey_iff a (a &&& b) ((k : Int) + 1)
    have hx := txt_at a (a &&& b) (lim (n % 80)) k hlt
    have hb : ((has (a &&& ~~~ (a &&& b)) ((k : Int) + 1)) != (eqI (colr a (a &&& b) ((k : Int) + 1)) 1)) = false := by rw [hg]; simp
    have hb' : (!(has (a &&& ~~~ (a &&& b)) ((k : Int) + 1) == eqI (colr a (a &&& b) ((k : Int) + 1)) 1)) = false := by rw [hg]; simp
    conv => whnf
    repeat' (first
      | (refine reqK_of ?_ ?_; rotate_left; (conv => whnf); rotate_left)
      | (refine brK_true ?_ ?_; (focus (simp only [bv_iv, hw, hc, hw1, hb, hb', Bool.not_true, Bool.not_false]; done)); conv => whnf)
      | (refine brK_false ?_ ?_; (focus (simp only [bv_iv, hw, hc, hw1, hb, hb', Bool.not_true, Bool.not_false]; done)); conv => whnf))
    · simp only [bv_iv, hw, hw1, hsz]; omega
    · refine nthK_of (T.str (letter (colr a (a &&& b) ((k : Int) + 1)))) (by simp only [bv_iv, hw1]; exact g1) (by simp only [bv_iv, hw1]; exact g3) ?_
      have hss : (!eqS ((txt a (a &&& b) (lim (n % 80))).extract (k : Int).toNat ((k : Int) + 1).toNat) (letter (colr a (a &&& b) ((k : Int) + 1)))) = false := by
        rw [show (k : Int).toNat = k by omega, show ((k : Int) + 1).toNat = k + 1 by omega, hx, eqS_self]; rfl
      conv => whnf
      simp only [bv_iv, hw, hw1, hb', hss]
      conv => whnf
      simp only [hss]
      conv => whnf
      refine loopC (hC (k + 1) (by omega) (by omega)) ?_
      simp only [bv_iv, hw, hw1]; rfl
  · have hc : ltI (k : Int) ((txt a (a &&& b) (lim (n % 80))).size : Int) = false := lt_f.2 (by omega)
    conv => whnf
    repeat' (first
      | (refine reqK_of ?_ ?_; rotate_left; (conv => whnf); rotate_left)
      | (refine brK_true ?_ ?_; (focus (simp only [bv_iv, hw, hc, hr, Bool.not_true, Bool.not_false]; done)); conv => whnf)
      | (refine brK_false ?_ ?_; (focus (simp only [bv_iv, hw, hc, hr, Bool.not_true, Bool.not_false]; done)); conv => whnf))
    all_goals first | exact ⟨R_iv _, R_iv _⟩ | skip
    all_goals simp only [bv_iv, hr]
theorem got8 {vs : List T} {x : T} (h : Got (c8 vs) x) : FnOk Tryd.prog tgl 8 vs x := by
  unfold c8 at h
  split at h
  · obtain ⟨hq, e⟩ := got_req h; rw [e]; exact ok8 _ _ _ hq
  · exact (got_no h).elim
end Go.Mx
