/-
  TINT DARKER.
-/
import Derived.Test.YtbcldnaoecnffaaDoorNo
set_option linter.unusedVariables false
set_option linter.unusedSimpArgs false
set_option maxRecDepth 40000
set_option maxHeartbeats 4000000
namespace Go.Mx
open Go.RowKit Go.Proofs

theorem colr_add1 {a b : B} {x : Int} (h : shOk a b x = true) (i : Int) : colr (add a x) b i = if i = x then 1 else colr a b i := by
  obtain ⟨h1, h2, h3⟩ := sh_all h
  by_cases e : i = x
  · subst e; rw [if_pos rfl, colr, has_add, h3, h2]; simp
  · rw [if_neg e, colr, colr, has_add, decide_eq_false e, Bool.and_false, Bool.or_false]
theorem colr_add2 {a b : B} {x : Int} (h : scOk a b x = true) (i : Int) : colr a (add b x) i = if i = x then 2 else colr a b i := by
  obtain ⟨h1, h2, h3⟩ := sc_has h
  by_cases e : i = x
  · subst e; rw [if_pos rfl, colr, has_add, h3, h1]; simp
  · rw [if_neg e, colr, colr, has_add, decide_eq_false e, Bool.and_false, Bool.or_false]
theorem colr_add3 {a b : B} {x : Int} (h : shOk a b x = true) (i : Int) : colr (add a x) (add b x) i = if i = x then 2 else colr a b i := by
  obtain ⟨h1, h2, h3⟩ := sh_all h
  by_cases e : i = x
  · subst e; rw [if_pos rfl, colr, has_add, has_add, h3]; simp
  · rw [if_neg e, colr, colr, has_add, has_add, decide_eq_false e, Bool.and_false, Bool.or_false, Bool.or_false]
theorem colr_sh {a b : B} {x : Int} (h : shOk a b x = true) : colr a b x = 0 := by rw [colr, (sh_all h).1]; rfl
theorem colr_sc {a b : B} {x : Int} (h : scOk a b x = true) : colr a b x = 1 := by rw [colr, (sc_has h).1, (sc_has h).2.1]; rfl
theorem colr_sh_no {a b : B} {x : Int} (h : shOk a (a &&& b) x = false) (h1 : 1 ≤ x) (h2 : x ≤ 64) : eqI (colr a (a &&& b) x) 0 = false := by
  rw [eqI_def, colr]
  cases hx : has a x
  · rw [shOk, obj_t h1 h2, hx, has_and, hx] at h; simp at h
  · simp; split <;> simp
theorem colr_sc_no {a b : B} {x : Int} (h : scOk a b x = false) : eqI (colr a b x) 1 = false := by
  have := colr_is1 a b x
  rw [h] at this; simpa using this
theorem right_any {m b : B} (h : ∀ i, has b i = true → has m i = true) : rightB m b 64 = true := by
  rw [rightB, Bool.and_eq_true, under_iff, under_iff]
  refine ⟨h, fun i hi => ?_⟩
  have := has_range hi
  rw [has_first, obj_t this.1 this.2]; simpa using this.2
theorem right_sh (a b : B) (x : Int) : rightB (add a x) (a &&& b) 64 = true := right_any fun i hi => by
  rw [has_and, Bool.and_eq_true] at hi; rw [has_add, hi.1]; rfl
theorem right_sc {a b : B} {x : Int} (h : scOk a (a &&& b) x = true) : rightB a (add (a &&& b) x) 64 = true := right_any fun i hi => by
  rw [has_add, Bool.or_eq_true, has_and, Bool.and_eq_true, Bool.and_eq_true] at hi
  rcases hi with hi | hi
  · exact hi.1
  · rw [of_decide_eq_true hi.2]; exact (sc_has h).1
theorem right_fr (a b : B) (x : Int) : rightB (add a x) (add (a &&& b) x) 64 = true := right_any fun i hi => by
  rw [has_add, Bool.or_eq_true, has_and, Bool.and_eq_true] at hi
  rw [has_add, Bool.or_eq_true]
  rcases hi with hi | hi
  · exact .inl hi.1
  · exact .inr hi
def trn (x i : Int) : Int := if x < i then 1 else 0
theorem trn_0 {x : Int} (h : 1 ≤ x) : trn x 0 = 0 := by unfold trn; rw [if_neg (by omega)]
theorem trn_at {x : Int} : trn x x = 0 := by unfold trn; rw [if_neg (by omega)]
theorem trn_at1 {x : Int} : trn x (x + 1) = 1 := by unfold trn; rw [if_pos (by omega)]
theorem trn_ne {x i : Int} (h : i ≠ x) : trn x (i + 1) = trn x i := by unfold trn; split <;> split <;> omega
theorem trn_end {x i : Int} (h : x < i) : trn x i = 1 := by unfold trn; rw [if_pos h]
theorem wrap1 : IntKind.i64.wrap (0 + 1) = 1 := wrap_i64 ⟨by omega, by omega⟩
theorem ltI_self (a : Int) : ltI a a = false := lt_f.2 (Int.le_refl a)

def c4 : List T → Ans
  | [.int .u64 a, .int .u64 b, .int .u8 o, .int .u8 k] => .req ((R64 a ∧ R64 b) ∧ (0 ≤ o ∧ o ≤ 255) ∧ 0 ≤ k ∧ k ≤ 255) (.bool true)
  | _ => .no
theorem ok4 (a b o k : Int) (hq : (R64 a ∧ R64 b) ∧ (0 ≤ o ∧ o ≤ 255) ∧ 0 ≤ k ∧ k ≤ 255) : FnOk Tryd.prog tgl 4 [.int .u64 a, .int .u64 b, .int .u8 o, .int .u8 k] (.bool true) := by
  refine fn_ok (Γ := eB) envB Tryd.func4 low4 ?_
  obtain ⟨⟨h1, h2⟩, ⟨ho0, ho1⟩, hk0, hk1⟩ := hq
  obtain ⟨a, rfl⟩ := exists_iv h1
  obtain ⟨b, rfl⟩ := exists_iv h2
  have tk : k.tmod 3 = k % 3 := Int.tmod_eq_emod_of_nonneg hk0
  have k3 : k % 3 = 0 ∨ k % 3 = 1 ∨ k % 3 = 2 := by omega
  have t0 : eqI 0 0 = true := eqI_self 0
  have t1 : eqI 1 1 = true := eqI_self 1
  have n01 : eqI 0 1 = false := eqI_ne (by decide)
  have n10 : eqI 1 0 = false := eqI_ne (by decide)
  have n20 : eqI 2 0 = false := eqI_ne (by decide)
  have n21 : eqI 2 1 = false := eqI_ne (by decide)
  have l01 : leI 0 1 = true := le_t.2 (by omega)
  have l11 : leI 1 1 = true := le_t.2 (by omega)
  obtain ⟨X, hX⟩ : ∃ X, X = IntKind.i64.wrap (o.tmod 66) := ⟨_, rfl⟩
  rcases k3 with k3 | k3 | k3
  · have kv : k.tmod 3 = 0 := by omega
    cases hc : shOk a (a &&& b) X
    · have hR := right64 a b
      have base := hc
      rw [hX] at hc
      conv => whnf
      repeat' (first
        | (refine reqK_of ?_ ?_; rotate_left; (conv => whnf); rotate_left)
        | (refine brK_true ?_ ?_; (focus (simp only [bv_iv, kv, t0, t1, n01, n10, n20, n21, hc, sh_no hc, Bool.not_true, Bool.not_false]; done)); conv => whnf)
        | (refine brK_false ?_ ?_; (focus (simp only [bv_iv, kv, t0, t1, n01, n10, n20, n21, hc, sh_no hc, Bool.not_true, Bool.not_false]; done)); conv => whnf))
      all_goals first | decide | exact R_iv _ | exact ⟨R_iv _, R_iv _⟩ | skip
      refine loopSet [52, 53, 54, 55, 56, 57, 58, 59, 60, 61, 62, 63, 64, 65, 66, 67, 68, 69, 70, 71] (fun i : Nat => [(14, .t (.int .i64 0)), (15, .t (.int .i64 (i : Int)))]) (fun i => i ≤ 66) (fun i => 66 - i) 0 (Nat.zero_le _) rfl fun i hi C hC => ?_
      by_cases hlt : i < 66
      · have hc2 : leI (i : Int) 65 = true := le_t.2 (by omega)
        have hw1 : IntKind.i64.wrap ((i : Int) + 1) = (i : Int) + 1 := wrap_i64 ⟨by omega, by omega⟩
        conv => whnf
        repeat' (first
          | (refine reqK_of ?_ ?_; rotate_left; (conv => whnf); rotate_left)
          | (refine brK_true ?_ ?_; (focus (simp only [bv_iv, hc2, hc, sh_no hc, ltI_self, eqI_self, Bool.not_true, Bool.not_false]; done)); conv => whnf)
          | (refine brK_false ?_ ?_; (focus (simp only [bv_iv, hc2, hc, sh_no hc, ltI_self, eqI_self, Bool.not_true, Bool.not_false]; done)); conv => whnf))
        refine loopC (hC (i + 1) (by omega) (by omega)) ?_
        rw [hw1]; rfl
      · have hc2 : leI (i : Int) 65 = false := le_f.2 (by omega)
        clear hC
        have hz0 : leI 1 X = true → leI X 64 = true → eqI (colr a (a &&& b) X) 0 = false := fun g1 g2 => colr_sh_no base (le_t.1 g1) (le_t.1 g2)
        rw [hX] at hz0
        cases g1 : leI 1 (IntKind.i64.wrap (o.tmod 66))
        · conv => whnf
          repeat' (first
            | (refine reqK_of ?_ ?_; rotate_left; (conv => whnf); rotate_left)
            | (refine brK_true ?_ ?_; (focus (simp only [bv_iv, hc, sh_no hc, kv, hR, hc2, g1, eqI_self, n01, n10, n20, n21, t0, t1, l01, Bool.not_true, Bool.not_false, beq_self_eq_true]; done)); conv => whnf)
            | (refine brK_false ?_ ?_; (focus (simp only [bv_iv, hc, sh_no hc, kv, hR, hc2, g1, eqI_self, n01, n10, n20, n21, t0, t1, l01, Bool.not_true, Bool.not_false, beq_self_eq_true]; done)); conv => whnf))
          all_goals first | exact ⟨R_iv _, R_iv _⟩ | decide | skip
          all_goals simp only [bv_iv, hc, sh_no hc, kv, hR, hc2, g1, eqI_self, n01, n10, n20, n21, t0, t1, l01, beq_self_eq_true]
        · cases g2 : leI (IntKind.i64.wrap (o.tmod 66)) 64
          · conv => whnf
            repeat' (first
              | (refine reqK_of ?_ ?_; rotate_left; (conv => whnf); rotate_left)
              | (refine brK_true ?_ ?_; (focus (simp only [bv_iv, hc, sh_no hc, kv, hR, hc2, g1, g2, eqI_self, n01, n10, n20, n21, t0, t1, l01, Bool.not_true, Bool.not_false, beq_self_eq_true]; done)); conv => whnf)
              | (refine brK_false ?_ ?_; (focus (simp only [bv_iv, hc, sh_no hc, kv, hR, hc2, g1, g2, eqI_self, n01, n10, n20, n21, t0, t1, l01, Bool.not_true, Bool.not_false, beq_self_eq_true]; done)); conv => whnf))
            all_goals first | exact ⟨R_iv _, R_iv _⟩ | decide | skip
            all_goals simp only [bv_iv, hc, sh_no hc, kv, hR, hc2, g1, g2, eqI_self, n01, n10, n20, n21, t0, t1, l01, beq_self_eq_true]
          · have hz := hz0 g1 g2
            conv => whnf
            repeat' (first
              | (refine reqK_of ?_ ?_; rotate_left; (conv => whnf); rotate_left)
              | (refine brK_true ?_ ?_; (focus (simp only [bv_iv, hc, sh_no hc, kv, hz, hR, hc2, g1, g2, eqI_self, n01, n10, n20, n21, t0, t1, l01, Bool.not_true, Bool.not_false, beq_self_eq_true]; done)); conv => whnf)
              | (refine brK_false ?_ ?_; (focus (simp only [bv_iv, hc, sh_no hc, kv, hz, hR, hc2, g1, g2, eqI_self, n01, n10, n20, n21, t0, t1, l01, Bool.not_true, Bool.not_false, beq_self_eq_true]; done)); conv => whnf))
            all_goals first | exact ⟨R_iv _, R_iv _⟩ | decide | skip
            all_goals simp only [bv_iv, hc, sh_no hc, kv, hz, hR, hc2, g1, g2, eqI_self, n01, n10, n20, n21, t0, t1, l01, beq_self_eq_true]
    · have hR := right_sh a b X
      have hcol := colr_add1 hc
      have hcx := colr_sh hc
      obtain ⟨hx1, hx2⟩ := obj_iff (sh_all hc).2.2
      have base := hc
      rw [hX] at hc
      conv => whnf
      repeat' (first
        | (refine reqK_of ?_ ?_; rotate_left; (conv => whnf); rotate_left)
        | (refine brK_true ?_ ?_; (focus (simp only [bv_iv, kv, t0, t1, n01, n10, n20, n21, hc, sh_yes hc, Bool.not_true, Bool.not_false]; done)); conv => whnf)
        | (refine brK_false ?_ ?_; (focus (simp only [bv_iv, kv, t0, t1, n01, n10, n20, n21, hc, sh_yes hc, Bool.not_true, Bool.not_false]; done)); conv => whnf))
      all_goals first | decide | exact R_iv _ | exact ⟨R_iv _, R_iv _⟩ | skip
      refine loopSet [52, 53, 54, 55, 56, 57, 58, 59, 60, 61, 62, 63, 64, 65, 66, 67, 68, 69, 70, 71] (fun i : Nat => [(14, .t (.int .i64 (trn X i))), (15, .t (.int .i64 (i : Int)))]) (fun i => i ≤ 66) (fun i => 66 - i) 0 (Nat.zero_le _) (by rw [show trn X ((0 : Nat) : Int) = 0 from trn_0 hx1]; rfl) fun i hi C hC => ?_
      by_cases hlt : i < 66
      · have hc2 : leI (i : Int) 65 = true := le_t.2 (by omega)
        have hw1 : IntKind.i64.wrap ((i : Int) + 1) = (i : Int) + 1 := wrap_i64 ⟨by omega, by omega⟩
        have hi2 := hcol (i : Int)
        by_cases e : (i : Int) = X
        · rw [if_pos e] at hi2
          have hold : colr a (a &&& b) (i : Int) = 0 := by rw [e]; exact hcx
          have q1 : ltI 1 0 = false := lt_f.2 (by omega)
          have q2 : eqI 1 0 = false := eqI_ne (by decide)
          rw [hX] at hi2
          have ht : trn X (i : Int) = 0 := by rw [e]; exact trn_at
          have ht1 : trn X ((i + 1 : Nat) : Int) = 1 := by rw [Int.natCast_add, e]; exact trn_at1
          conv => whnf
          repeat' (first
            | (refine reqK_of ?_ ?_; rotate_left; (conv => whnf); rotate_left)
            | (refine brK_true ?_ ?_; (focus (simp only [bv_iv, hc2, hc, sh_yes hc, hi2, hold, q1, q2, Bool.not_true, Bool.not_false]; done)); conv => whnf)
            | (refine brK_false ?_ ?_; (focus (simp only [bv_iv, hc2, hc, sh_yes hc, hi2, hold, q1, q2, Bool.not_true, Bool.not_false]; done)); conv => whnf))
          refine loopC (hC (i + 1) (by omega) (by omega)) ?_
          rw [hw1, ht, ht1, wrap1]; rfl
        · rw [if_neg e] at hi2
          rw [hX] at hi2
          have ht1 : trn X ((i + 1 : Nat) : Int) = trn X (i : Int) := by rw [Int.natCast_add]; exact trn_ne e
          conv => whnf
          repeat' (first
            | (refine reqK_of ?_ ?_; rotate_left; (conv => whnf); rotate_left)
            | (refine brK_true ?_ ?_; (focus (simp only [bv_iv, hc2, hc, sh_yes hc, hi2, ltI_self, eqI_self, Bool.not_true, Bool.not_false]; done)); conv => whnf)
            | (refine brK_false ?_ ?_; (focus (simp only [bv_iv, hc2, hc, sh_yes hc, hi2, ltI_self, eqI_self, Bool.not_true, Bool.not_false]; done)); conv => whnf))
          refine loopC (hC (i + 1) (by omega) (by omega)) ?_
          rw [hw1, ht1]; rfl
      · have hc2 : leI (i : Int) 65 = false := le_f.2 (by omega)
        have hte : trn X (i : Int) = 1 := trn_end (by omega)
        have g1 : leI 1 (IntKind.i64.wrap (o.tmod 66)) = true := by rw [← hX]; exact le_t.2 hx1
        have g2 : leI (IntKind.i64.wrap (o.tmod 66)) 64 = true := by rw [← hX]; exact le_t.2 hx2
        rw [hX] at hcx hR
        clear hC
        conv => whnf
        repeat' (first
          | (refine reqK_of ?_ ?_; rotate_left; (conv => whnf); rotate_left)
          | (refine brK_true ?_ ?_; (focus (simp only [bv_iv, kv, hc2, hc, sh_yes hc, hte, g1, g2, hcx, hR, t0, t1, n01, n10, n20, n21, l11, Bool.not_true, Bool.not_false, beq_self_eq_true]; done)); conv => whnf)
          | (refine brK_false ?_ ?_; (focus (simp only [bv_iv, kv, hc2, hc, sh_yes hc, hte, g1, g2, hcx, hR, t0, t1, n01, n10, n20, n21, l11, Bool.not_true, Bool.not_false, beq_self_eq_true]; done)); conv => whnf))
        all_goals first | exact ⟨R_iv _, R_iv _⟩ | decide | skip
        all_goals simp only [bv_iv, kv, hte, hcx, hR, t0, t1, n01, n10, n20, n21, l11, hc, sh_yes hc, beq_self_eq_true]
  · have kv : k.tmod 3 = 1 := by omega
    cases hc : scOk a (a &&& b) X
    · have hR := right64 a b
      have base := hc
      rw [hX] at hc
      conv => whnf
      repeat' (first
        | (refine reqK_of ?_ ?_; rotate_left; (conv => whnf); rotate_left)
        | (refine brK_true ?_ ?_; (focus (simp only [bv_iv, kv, t0, t1, n01, n10, n20, n21, hc, sc_no hc, Bool.not_true, Bool.not_false]; done)); conv => whnf)
        | (refine brK_false ?_ ?_; (focus (simp only [bv_iv, kv, t0, t1, n01, n10, n20, n21, hc, sc_no hc, Bool.not_true, Bool.not_false]; done)); conv => whnf))
      all_goals first | decide | exact R_iv _ | exact ⟨R_iv _, R_iv _⟩ | skip
      refine loopSet [52, 53, 54, 55, 56, 57, 58, 59, 60, 61, 62, 63, 64, 65, 66, 67, 68, 69, 70, 71] (fun i : Nat => [(14, .t (.int .i64 0)), (15, .t (.int .i64 (i : Int)))]) (fun i => i ≤ 66) (fun i => 66 - i) 0 (Nat.zero_le _) rfl fun i hi C hC => ?_
      by_cases hlt : i < 66
      · have hc2 : leI (i : Int) 65 = true := le_t.2 (by omega)
        have hw1 : IntKind.i64.wrap ((i : Int) + 1) = (i : Int) + 1 := wrap_i64 ⟨by omega, by omega⟩
        conv => whnf
        repeat' (first
          | (refine reqK_of ?_ ?_; rotate_left; (conv => whnf); rotate_left)
          | (refine brK_true ?_ ?_; (focus (simp only [bv_iv, hc2, hc, sc_no hc, ltI_self, eqI_self, Bool.not_true, Bool.not_false]; done)); conv => whnf)
          | (refine brK_false ?_ ?_; (focus (simp only [bv_iv, hc2, hc, sc_no hc, ltI_self, eqI_self, Bool.not_true, Bool.not_false]; done)); conv => whnf))
        refine loopC (hC (i + 1) (by omega) (by omega)) ?_
        rw [hw1]; rfl
      · have hc2 : leI (i : Int) 65 = false := le_f.2 (by omega)
        clear hC
        have hz := colr_sc_no hc
        have g1 := l01
        have g2 := l01
        cases g3 : leI 1 (IntKind.i64.wrap (o.tmod 66))
        · conv => whnf
          repeat' (first
            | (refine reqK_of ?_ ?_; rotate_left; (conv => whnf); rotate_left)
            | (refine brK_true ?_ ?_; (focus (simp only [bv_iv, hc, sc_no hc, kv, hz, hR, hc2, g3, eqI_self, n01, n10, n20, n21, t0, t1, l01, Bool.not_true, Bool.not_false, beq_self_eq_true]; done)); conv => whnf)
            | (refine brK_false ?_ ?_; (focus (simp only [bv_iv, hc, sc_no hc, kv, hz, hR, hc2, g3, eqI_self, n01, n10, n20, n21, t0, t1, l01, Bool.not_true, Bool.not_false, beq_self_eq_true]; done)); conv => whnf))
          all_goals first | exact ⟨R_iv _, R_iv _⟩ | decide | skip
          all_goals simp only [bv_iv, hc, sc_no hc, kv, hz, hR, hc2, g3, eqI_self, n01, n10, n20, n21, t0, t1, l01, beq_self_eq_true]
        · cases g4 : leI (IntKind.i64.wrap (o.tmod 66)) 64
          · conv => whnf
            repeat' (first
              | (refine reqK_of ?_ ?_; rotate_left; (conv => whnf); rotate_left)
              | (refine brK_true ?_ ?_; (focus (simp only [bv_iv, hc, sc_no hc, kv, hz, hR, hc2, g3, g4, eqI_self, n01, n10, n20, n21, t0, t1, l01, Bool.not_true, Bool.not_false, beq_self_eq_true]; done)); conv => whnf)
              | (refine brK_false ?_ ?_; (focus (simp only [bv_iv, hc, sc_no hc, kv, hz, hR, hc2, g3, g4, eqI_self, n01, n10, n20, n21, t0, t1, l01, Bool.not_true, Bool.not_false, beq_self_eq_true]; done)); conv => whnf))
            all_goals first | exact ⟨R_iv _, R_iv _⟩ | decide | skip
            all_goals simp only [bv_iv, hc, sc_no hc, kv, hz, hR, hc2, g3, g4, eqI_self, n01, n10, n20, n21, t0, t1, l01, beq_self_eq_true]
          · cases g5 : eqI (colr a (a &&& b) (IntKind.i64.wrap (o.tmod 66))) 0
            · conv => whnf
              repeat' (first
                | (refine reqK_of ?_ ?_; rotate_left; (conv => whnf); rotate_left)
                | (refine brK_true ?_ ?_; (focus (simp only [bv_iv, hc, sc_no hc, kv, hz, hR, hc2, g3, g4, g5, eqI_self, n01, n10, n20, n21, t0, t1, l01, Bool.not_true, Bool.not_false, beq_self_eq_true]; done)); conv => whnf)
                | (refine brK_false ?_ ?_; (focus (simp only [bv_iv, hc, sc_no hc, kv, hz, hR, hc2, g3, g4, g5, eqI_self, n01, n10, n20, n21, t0, t1, l01, Bool.not_true, Bool.not_false, beq_self_eq_true]; done)); conv => whnf))
              all_goals first | exact ⟨R_iv _, R_iv _⟩ | decide | skip
              all_goals simp only [bv_iv, hc, sc_no hc, kv, hz, hR, hc2, g3, g4, g5, eqI_self, n01, n10, n20, n21, t0, t1, l01, beq_self_eq_true]
            · conv => whnf
              repeat' (first
                | (refine reqK_of ?_ ?_; rotate_left; (conv => whnf); rotate_left)
                | (refine brK_true ?_ ?_; (focus (simp only [bv_iv, hc, sc_no hc, kv, hz, hR, hc2, g3, g4, g5, eqI_self, n01, n10, n20, n21, t0, t1, l01, Bool.not_true, Bool.not_false, beq_self_eq_true]; done)); conv => whnf)
                | (refine brK_false ?_ ?_; (focus (simp only [bv_iv, hc, sc_no hc, kv, hz, hR, hc2, g3, g4, g5, eqI_self, n01, n10, n20, n21, t0, t1, l01, Bool.not_true, Bool.not_false, beq_self_eq_true]; done)); conv => whnf))
              all_goals first | exact ⟨R_iv _, R_iv _⟩ | decide | skip
              all_goals simp only [bv_iv, hc, sc_no hc, kv, hz, hR, hc2, g3, g4, g5, eqI_self, n01, n10, n20, n21, t0, t1, l01, beq_self_eq_true]
    · have hR := right_sc hc
      have hcol := colr_add2 hc
      have hcx := colr_sc hc
      obtain ⟨hx1, hx2⟩ := obj_iff (sc_has hc).2.2
      have base := hc
      rw [hX] at hc
      conv => whnf
      repeat' (first
        | (refine reqK_of ?_ ?_; rotate_left; (conv => whnf); rotate_left)
        | (refine brK_true ?_ ?_; (focus (simp only [bv_iv, kv, t0, t1, n01, n10, n20, n21, hc, sc_yes hc, Bool.not_true, Bool.not_false]; done)); conv => whnf)
        | (refine brK_false ?_ ?_; (focus (simp only [bv_iv, kv, t0, t1, n01, n10, n20, n21, hc, sc_yes hc, Bool.not_true, Bool.not_false]; done)); conv => whnf))
      all_goals first | decide | exact R_iv _ | exact ⟨R_iv _, R_iv _⟩ | skip
      refine loopSet [52, 53, 54, 55, 56, 57, 58, 59, 60, 61, 62, 63, 64, 65, 66, 67, 68, 69, 70, 71] (fun i : Nat => [(14, .t (.int .i64 (trn X i))), (15, .t (.int .i64 (i : Int)))]) (fun i => i ≤ 66) (fun i => 66 - i) 0 (Nat.zero_le _) (by rw [show trn X ((0 : Nat) : Int) = 0 from trn_0 hx1]; rfl) fun i hi C hC => ?_
      by_cases hlt : i < 66
      · have hc2 : leI (i : Int) 65 = true := le_t.2 (by omega)
        have hw1 : IntKind.i64.wrap ((i : Int) + 1) = (i : Int) + 1 := wrap_i64 ⟨by omega, by omega⟩
        have hi2 := hcol (i : Int)
        by_cases e : (i : Int) = X
        · rw [if_pos e] at hi2
          have hold : colr a (a &&& b) (i : Int) = 1 := by rw [e]; exact hcx
          have q1 : ltI 2 1 = false := lt_f.2 (by omega)
          have q2 : eqI 2 1 = false := eqI_ne (by decide)
          rw [hX] at hi2
          have ht : trn X (i : Int) = 0 := by rw [e]; exact trn_at
          have ht1 : trn X ((i + 1 : Nat) : Int) = 1 := by rw [Int.natCast_add, e]; exact trn_at1
          conv => whnf
          repeat' (first
            | (refine reqK_of ?_ ?_; rotate_left; (conv => whnf); rotate_left)
            | (refine brK_true ?_ ?_; (focus (simp only [bv_iv, hc2, hc, sc_yes hc, hi2, hold, q1, q2, Bool.not_true, Bool.not_false]; done)); conv => whnf)
            | (refine brK_false ?_ ?_; (focus (simp only [bv_iv, hc2, hc, sc_yes hc, hi2, hold, q1, q2, Bool.not_true, Bool.not_false]; done)); conv => whnf))
          refine loopC (hC (i + 1) (by omega) (by omega)) ?_
          rw [hw1, ht, ht1, wrap1]; rfl
        · rw [if_neg e] at hi2
          rw [hX] at hi2
          have ht1 : trn X ((i + 1 : Nat) : Int) = trn X (i : Int) := by rw [Int.natCast_add]; exact trn_ne e
          conv => whnf
          repeat' (first
            | (refine reqK_of ?_ ?_; rotate_left; (conv => whnf); rotate_left)
            | (refine brK_true ?_ ?_; (focus (simp only [bv_iv, hc2, hc, sc_yes hc, hi2, ltI_self, eqI_self, Bool.not_true, Bool.not_false]; done)); conv => whnf)
            | (refine brK_false ?_ ?_; (focus (simp only [bv_iv, hc2, hc, sc_yes hc, hi2, ltI_self, eqI_self, Bool.not_true, Bool.not_false]; done)); conv => whnf))
          refine loopC (hC (i + 1) (by omega) (by omega)) ?_
          rw [hw1, ht1]; rfl
      · have hc2 : leI (i : Int) 65 = false := le_f.2 (by omega)
        have hte : trn X (i : Int) = 1 := trn_end (by omega)
        have g1 : leI 1 (IntKind.i64.wrap (o.tmod 66)) = true := by rw [← hX]; exact le_t.2 hx1
        have g2 : leI (IntKind.i64.wrap (o.tmod 66)) 64 = true := by rw [← hX]; exact le_t.2 hx2
        rw [hX] at hcx hR
        clear hC
        conv => whnf
        repeat' (first
          | (refine reqK_of ?_ ?_; rotate_left; (conv => whnf); rotate_left)
          | (refine brK_true ?_ ?_; (focus (simp only [bv_iv, kv, hc2, hc, sc_yes hc, hte, g1, g2, hcx, hR, t0, t1, n01, n10, n20, n21, l11, Bool.not_true, Bool.not_false, beq_self_eq_true]; done)); conv => whnf)
          | (refine brK_false ?_ ?_; (focus (simp only [bv_iv, kv, hc2, hc, sc_yes hc, hte, g1, g2, hcx, hR, t0, t1, n01, n10, n20, n21, l11, Bool.not_true, Bool.not_false, beq_self_eq_true]; done)); conv => whnf))
        all_goals first | exact ⟨R_iv _, R_iv _⟩ | decide | skip
        all_goals simp only [bv_iv, kv, hte, hcx, hR, t0, t1, n01, n10, n20, n21, l11, hc, sc_yes hc, beq_self_eq_true]
  · have kv : k.tmod 3 = 2 := by omega
    cases hc : shOk a (a &&& b) X
    · have hR := right64 a b
      have base := hc
      rw [hX] at hc
      conv => whnf
      repeat' (first
        | (refine reqK_of ?_ ?_; rotate_left; (conv => whnf); rotate_left)
        | (refine brK_true ?_ ?_; (focus (simp only [bv_iv, kv, t0, t1, n01, n10, n20, n21, hc, sh_no hc, fr_no hc, Bool.not_true, Bool.not_false]; done)); conv => whnf)
        | (refine brK_false ?_ ?_; (focus (simp only [bv_iv, kv, t0, t1, n01, n10, n20, n21, hc, sh_no hc, fr_no hc, Bool.not_true, Bool.not_false]; done)); conv => whnf))
      all_goals first | decide | exact R_iv _ | exact ⟨R_iv _, R_iv _⟩ | skip
      refine loopSet [52, 53, 54, 55, 56, 57, 58, 59, 60, 61, 62, 63, 64, 65, 66, 67, 68, 69, 70, 71] (fun i : Nat => [(14, .t (.int .i64 0)), (15, .t (.int .i64 (i : Int)))]) (fun i => i ≤ 66) (fun i => 66 - i) 0 (Nat.zero_le _) rfl fun i hi C hC => ?_
      by_cases hlt : i < 66
      · have hc2 : leI (i : Int) 65 = true := le_t.2 (by omega)
        have hw1 : IntKind.i64.wrap ((i : Int) + 1) = (i : Int) + 1 := wrap_i64 ⟨by omega, by omega⟩
        conv => whnf
        repeat' (first
          | (refine reqK_of ?_ ?_; rotate_left; (conv => whnf); rotate_left)
          | (refine brK_true ?_ ?_; (focus (simp only [bv_iv, hc2, hc, sh_no hc, fr_no hc, ltI_self, eqI_self, Bool.not_true, Bool.not_false]; done)); conv => whnf)
          | (refine brK_false ?_ ?_; (focus (simp only [bv_iv, hc2, hc, sh_no hc, fr_no hc, ltI_self, eqI_self, Bool.not_true, Bool.not_false]; done)); conv => whnf))
        refine loopC (hC (i + 1) (by omega) (by omega)) ?_
        rw [hw1]; rfl
      · have hc2 : leI (i : Int) 65 = false := le_f.2 (by omega)
        clear hC
        have hz0 : leI 1 X = true → leI X 64 = true → eqI (colr a (a &&& b) X) 0 = false := fun g1 g2 => colr_sh_no base (le_t.1 g1) (le_t.1 g2)
        rw [hX] at hz0
        cases g1 : leI 1 (IntKind.i64.wrap (o.tmod 66))
        · conv => whnf
          repeat' (first
            | (refine reqK_of ?_ ?_; rotate_left; (conv => whnf); rotate_left)
            | (refine brK_true ?_ ?_; (focus (simp only [bv_iv, hc, sh_no hc, fr_no hc, kv, hR, hc2, g1, eqI_self, n01, n10, n20, n21, t0, t1, l01, Bool.not_true, Bool.not_false, beq_self_eq_true]; done)); conv => whnf)
            | (refine brK_false ?_ ?_; (focus (simp only [bv_iv, hc, sh_no hc, fr_no hc, kv, hR, hc2, g1, eqI_self, n01, n10, n20, n21, t0, t1, l01, Bool.not_true, Bool.not_false, beq_self_eq_true]; done)); conv => whnf))
          all_goals first | exact ⟨R_iv _, R_iv _⟩ | decide | skip
          all_goals simp only [bv_iv, hc, sh_no hc, fr_no hc, kv, hR, hc2, g1, eqI_self, n01, n10, n20, n21, t0, t1, l01, beq_self_eq_true]
        · cases g2 : leI (IntKind.i64.wrap (o.tmod 66)) 64
          · conv => whnf
            repeat' (first
              | (refine reqK_of ?_ ?_; rotate_left; (conv => whnf); rotate_left)
              | (refine brK_true ?_ ?_; (focus (simp only [bv_iv, hc, sh_no hc, fr_no hc, kv, hR, hc2, g1, g2, eqI_self, n01, n10, n20, n21, t0, t1, l01, Bool.not_true, Bool.not_false, beq_self_eq_true]; done)); conv => whnf)
              | (refine brK_false ?_ ?_; (focus (simp only [bv_iv, hc, sh_no hc, fr_no hc, kv, hR, hc2, g1, g2, eqI_self, n01, n10, n20, n21, t0, t1, l01, Bool.not_true, Bool.not_false, beq_self_eq_true]; done)); conv => whnf))
            all_goals first | exact ⟨R_iv _, R_iv _⟩ | decide | skip
            all_goals simp only [bv_iv, hc, sh_no hc, fr_no hc, kv, hR, hc2, g1, g2, eqI_self, n01, n10, n20, n21, t0, t1, l01, beq_self_eq_true]
          · have hz := hz0 g1 g2
            conv => whnf
            repeat' (first
              | (refine reqK_of ?_ ?_; rotate_left; (conv => whnf); rotate_left)
              | (refine brK_true ?_ ?_; (focus (simp only [bv_iv, hc, sh_no hc, fr_no hc, kv, hz, hR, hc2, g1, g2, eqI_self, n01, n10, n20, n21, t0, t1, l01, Bool.not_true, Bool.not_false, beq_self_eq_true]; done)); conv => whnf)
              | (refine brK_false ?_ ?_; (focus (simp only [bv_iv, hc, sh_no hc, fr_no hc, kv, hz, hR, hc2, g1, g2, eqI_self, n01, n10, n20, n21, t0, t1, l01, Bool.not_true, Bool.not_false, beq_self_eq_true]; done)); conv => whnf))
            all_goals first | exact ⟨R_iv _, R_iv _⟩ | decide | skip
            all_goals simp only [bv_iv, hc, sh_no hc, fr_no hc, kv, hz, hR, hc2, g1, g2, eqI_self, n01, n10, n20, n21, t0, t1, l01, beq_self_eq_true]
    · have hR := right_fr a b X
      have hcol := colr_add3 hc
      have hcx := colr_sh hc
      obtain ⟨hx1, hx2⟩ := obj_iff (sh_all hc).2.2
      have base := hc
      rw [hX] at hc
      conv => whnf
      repeat' (first
        | (refine reqK_of ?_ ?_; rotate_left; (conv => whnf); rotate_left)
        | (refine brK_true ?_ ?_; (focus (simp only [bv_iv, kv, t0, t1, n01, n10, n20, n21, hc, sh_yes hc, fr_yes hc, Bool.not_true, Bool.not_false]; done)); conv => whnf)
        | (refine brK_false ?_ ?_; (focus (simp only [bv_iv, kv, t0, t1, n01, n10, n20, n21, hc, sh_yes hc, fr_yes hc, Bool.not_true, Bool.not_false]; done)); conv => whnf))
      all_goals first | decide | exact R_iv _ | exact ⟨R_iv _, R_iv _⟩ | skip
      refine loopSet [52, 53, 54, 55, 56, 57, 58, 59, 60, 61, 62, 63, 64, 65, 66, 67, 68, 69, 70, 71] (fun i : Nat => [(14, .t (.int .i64 (trn X i))), (15, .t (.int .i64 (i : Int)))]) (fun i => i ≤ 66) (fun i => 66 - i) 0 (Nat.zero_le _) (by rw [show trn X ((0 : Nat) : Int) = 0 from trn_0 hx1]; rfl) fun i hi C hC => ?_
      by_cases hlt : i < 66
      · have hc2 : leI (i : Int) 65 = true := le_t.2 (by omega)
        have hw1 : IntKind.i64.wrap ((i : Int) + 1) = (i : Int) + 1 := wrap_i64 ⟨by omega, by omega⟩
        have hi2 := hcol (i : Int)
        by_cases e : (i : Int) = X
        · rw [if_pos e] at hi2
          have hold : colr a (a &&& b) (i : Int) = 0 := by rw [e]; exact hcx
          have q1 : ltI 2 0 = false := lt_f.2 (by omega)
          have q2 : eqI 2 0 = false := eqI_ne (by decide)
          rw [hX] at hi2
          have ht : trn X (i : Int) = 0 := by rw [e]; exact trn_at
          have ht1 : trn X ((i + 1 : Nat) : Int) = 1 := by rw [Int.natCast_add, e]; exact trn_at1
          conv => whnf
          repeat' (first
            | (refine reqK_of ?_ ?_; rotate_left; (conv => whnf); rotate_left)
            | (refine brK_true ?_ ?_; (focus (simp only [bv_iv, hc2, hc, sh_yes hc, fr_yes hc, hi2, hold, q1, q2, Bool.not_true, Bool.not_false]; done)); conv => whnf)
            | (refine brK_false ?_ ?_; (focus (simp only [bv_iv, hc2, hc, sh_yes hc, fr_yes hc, hi2, hold, q1, q2, Bool.not_true, Bool.not_false]; done)); conv => whnf))
          refine loopC (hC (i + 1) (by omega) (by omega)) ?_
          rw [hw1, ht, ht1, wrap1]; rfl
        · rw [if_neg e] at hi2
          rw [hX] at hi2
          have ht1 : trn X ((i + 1 : Nat) : Int) = trn X (i : Int) := by rw [Int.natCast_add]; exact trn_ne e
          conv => whnf
          repeat' (first
            | (refine reqK_of ?_ ?_; rotate_left; (conv => whnf); rotate_left)
            | (refine brK_true ?_ ?_; (focus (simp only [bv_iv, hc2, hc, sh_yes hc, fr_yes hc, hi2, ltI_self, eqI_self, Bool.not_true, Bool.not_false]; done)); conv => whnf)
            | (refine brK_false ?_ ?_; (focus (simp only [bv_iv, hc2, hc, sh_yes hc, fr_yes hc, hi2, ltI_self, eqI_self, Bool.not_true, Bool.not_false]; done)); conv => whnf))
          refine loopC (hC (i + 1) (by omega) (by omega)) ?_
          rw [hw1, ht1]; rfl
      · have hc2 : leI (i : Int) 65 = false := le_f.2 (by omega)
        have hte : trn X (i : Int) = 1 := trn_end (by omega)
        have g1 : leI 1 (IntKind.i64.wrap (o.tmod 66)) = true := by rw [← hX]; exact le_t.2 hx1
        have g2 : leI (IntKind.i64.wrap (o.tmod 66)) 64 = true := by rw [← hX]; exact le_t.2 hx2
        rw [hX] at hcx hR
        clear hC
        conv => whnf
        repeat' (first
          | (refine reqK_of ?_ ?_; rotate_left; (conv => whnf); rotate_left)
          | (refine brK_true ?_ ?_; (focus (simp only [bv_iv, kv, hc2, hc, sh_yes hc, fr_yes hc, hte, g1, g2, hcx, hR, t0, t1, n01, n10, n20, n21, l11, Bool.not_true, Bool.not_false, beq_self_eq_true]; done)); conv => whnf)
          | (refine brK_false ?_ ?_; (focus (simp only [bv_iv, kv, hc2, hc, sh_yes hc, fr_yes hc, hte, g1, g2, hcx, hR, t0, t1, n01, n10, n20, n21, l11, Bool.not_true, Bool.not_false, beq_self_eq_true]; done)); conv => whnf))
        all_goals first | exact ⟨R_iv _, R_iv _⟩ | decide | skip
        all_goals simp only [bv_iv, kv, hte, hcx, hR, t0, t1, n01, n10, n20, n21, l11, hc, sh_yes hc, fr_yes hc, beq_self_eq_true]
theorem got4 {vs : List T} {x : T} (h : Got (c4 vs) x) : FnOk Tryd.prog tgl 4 vs x := by
  unfold c4 at h
  split at h
  · obtain ⟨hq, e⟩ := got_req h; rw [e]; exact ok4 _ _ _ _ hq
  · exact (got_no h).elim
end Go.Mx
