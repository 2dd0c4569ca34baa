/-
  TINT BETWEEN.
-/
import Derived.Test.YtbcldnaoecnffaaDoorNl
set_option linter.unusedVariables false
set_option linter.unusedSimpArgs false
set_option maxRecDepth 40000
namespace Go.Mx
open Go.RowKit Go.Proofs

theorem btwF_skip {m b n q : B} {x : Int} {r : Int × Int} (ho : ∀ o, o ≠ x → way1 m b n q o = false ∧ way2 m b n q o = false ∧ way3 m b n q o = false) (hr : ∀ f, btwF m b n q (f + 1) x = r) :
    ∀ (f : Nat) (o : Int), o ≤ x → x < o + f → btwF m b n q f o = r := by
  intro f
  induction f with
  | zero => intro o h1 h2; omega
  | succ f ih =>
    intro o h1 h2
    by_cases e : o = x
    · subst e; exact hr f
    · obtain ⟨w1, w2, w3⟩ := ho o e
      rw [btwF_step w1 w2 w3]
      exact ih _ (by omega) (by omega)
theorem btw_at {m b n q : B} {x : Int} {r : Int × Int} (hne : (m == n && b == q) = false) (hx : 1 ≤ x ∧ x ≤ 64) (ho : ∀ o, o ≠ x → way1 m b n q o = false ∧ way2 m b n q o = false ∧ way3 m b n q o = false)
    (hr : ∀ f, btwF m b n q (f + 1) x = r) : btw m b n q = r := by
  rw [btw, hne]
  exact btwF_skip ho hr 64 1 hx.1 (by omega)
theorem btwF_none {m b n q : B} (ho : ∀ o, way1 m b n q o = false ∧ way2 m b n q o = false ∧ way3 m b n q o = false) : ∀ (f : Nat) (o : Int), btwF m b n q f o = (-1, 0) := by
  intro f
  induction f with
  | zero => intro o; rfl
  | succ f ih => intro o; obtain ⟨w1, w2, w3⟩ := ho o; rw [btwF_step w1 w2 w3]; exact ih _
theorem btw_none {m b n q : B} (hne : (m == n && b == q) = false) (ho : ∀ o, way1 m b n q o = false ∧ way2 m b n q o = false ∧ way3 m b n q o = false) : btw m b n q = (-1, 0) := by
  rw [btw, hne]; exact btwF_none ho 64 1
theorem btw_self (m b : B) : btw m b m b = (0, 0) := by simp [btw]

theorem add_has {s : B} {o : Int} (ho : obj o = true) : has (add s o) o = true := by rw [has_add, ho]; simp
theorem ne_of_has {s t : B} {o : Int} (h1 : has s o = true) (h2 : has t o = false) : (s == t) = false := by
  rw [beq_eq_false_iff_ne]; intro e; subst e; rw [h1] at h2; cases h2
theorem ne_of_has' {s t : B} {o : Int} (h1 : has s o = true) (h2 : has t o = false) : (t == s) = false := by
  rw [beq_eq_false_iff_ne]; intro e; subst e; rw [h1] at h2; cases h2
theorem sc_has {m b : B} {o : Int} (h : scOk m b o = true) : has m o = true ∧ has b o = false ∧ obj o = true := by
  rw [scOk, Bool.and_eq_true] at h
  refine ⟨h.1, by simpa using h.2, ?_⟩
  have := h.1; rw [has, Bool.and_eq_true] at this; exact this.1
theorem sh_all {m b : B} {o : Int} (h : shOk m b o = true) : has m o = false ∧ has b o = false ∧ obj o = true := by
  rw [shOk, Bool.and_eq_true, Bool.and_eq_true] at h
  exact ⟨by simpa using h.1.2, by simpa using h.2, h.1.1⟩
theorem way1_f {m b n q : B} {o : Int} (h : shOk m b o = true → add m o = n → b = q → False) : way1 m b n q o = false := by
  rw [way1]
  cases e : shOk m b o
  · rfl
  · rw [sh_yes e, Bool.true_and, Bool.eq_false_iff]
    intro h2
    rw [Bool.and_eq_true, beq_iff_eq, beq_iff_eq] at h2
    exact h e h2.1 h2.2
theorem way2_f {m b n q : B} {o : Int} (h : scOk m b o = true → m = n → add b o = q → False) : way2 m b n q o = false := by
  rw [way2]
  cases e : scOk m b o
  · rfl
  · rw [sc_yes e, Bool.true_and, Bool.eq_false_iff]
    intro h2
    rw [Bool.and_eq_true, beq_iff_eq, beq_iff_eq] at h2
    exact h e h2.1 h2.2
theorem way3_f {m b n q : B} {o : Int} (h : shOk m b o = true → add m o = n → add b o = q → False) : way3 m b n q o = false := by
  rw [way3]
  cases e : shOk m b o
  · rfl
  · rw [sh_yes e, fr_yes e, Bool.true_and, Bool.eq_false_iff]
    intro h2
    rw [Bool.and_eq_true, beq_iff_eq, beq_iff_eq] at h2
    exact h e h2.1 h2.2
theorem add_eq {s : B} {o p : Int} (ho : obj o = true) (h : has s o = false) (e : add s o = add s p) : o = p := by
  have h1 := add_has (s := s) ho
  rw [e, has_add, h] at h1
  simp at h1; exact h1.2
theorem add_ne {s : B} {o : Int} (ho : obj o = true) (h : has s o = false) (e : add s o = s) : False := by
  have h1 := add_has (s := s) ho
  rw [e, h] at h1; cases h1
theorem obj_iff {o : Int} (h : obj o = true) : 1 ≤ o ∧ o ≤ 64 := of_decide_eq_true h

theorem fwd1 {m b : B} {x : Int} (h : shOk m b x = true) : btw m b (add m x) b = (1, x) := by
  obtain ⟨hm, hb, ho⟩ := sh_all h
  refine btw_at (by rw [ne_of_has' (add_has ho) hm]; rfl) (obj_iff ho) (fun o hne => ⟨way1_f fun e h1 _ => ?_, way2_f fun e h1 _ => ?_, way3_f fun e _ h1 => ?_⟩) fun f => btwF_1 ?_
  · exact hne (add_eq (sh_all e).2.2 (sh_all e).1 h1)
  · exact add_ne ho hm h1.symm
  · exact add_ne (sh_all e).2.2 (sh_all e).2.1 h1
  · rw [way1, h, sh_yes h]; simp
theorem fwd2 {m b : B} {x : Int} (h : scOk m b x = true) : btw m b m (add b x) = (2, x) := by
  obtain ⟨hm, hb, ho⟩ := sc_has h
  refine btw_at (by rw [ne_of_has' (add_has ho) hb, Bool.and_false]) (obj_iff ho) (fun o hne => ⟨way1_f fun e h1 _ => ?_, way2_f fun e _ h1 => ?_, way3_f fun e h1 _ => ?_⟩) fun f => btwF_2 (way1_f fun e h1 _ => ?_) ?_
  · exact add_ne (sh_all e).2.2 (sh_all e).1 h1
  · exact hne (add_eq (sc_has e).2.2 (sc_has e).2.1 h1)
  · exact add_ne (sh_all e).2.2 (sh_all e).1 h1
  · exact add_ne (sh_all e).2.2 (sh_all e).1 h1
  · rw [way2, h, sc_yes h]; simp
theorem fwd3 {m b : B} {x : Int} (h : shOk m b x = true) : btw m b (add m x) (add b x) = (3, x) := by
  obtain ⟨hm, hb, ho⟩ := sh_all h
  refine btw_at (by rw [ne_of_has' (add_has ho) hm]; rfl) (obj_iff ho) (fun o hne => ⟨way1_f fun e _ h1 => ?_, way2_f fun e h1 _ => ?_, way3_f fun e h1 _ => ?_⟩) fun f => btwF_3 (way1_f fun e _ h1 => ?_) (way2_f fun e h1 _ => ?_) ?_
  · exact add_ne ho hb h1.symm
  · exact add_ne ho hm h1.symm
  · exact hne (add_eq (sh_all e).2.2 (sh_all e).1 h1)
  · exact add_ne ho hb h1.symm
  · exact add_ne ho hm h1.symm
  · rw [way3, h, sh_yes h, fr_yes h]; simp
/-- what has more leads not back -/
theorem bwd {m b n q : B} (hne : (m == n && b == q) = false) (h1 : ∀ o, has n o = true → has m o = true) (h2 : ∀ o, has q o = true → has b o = true) : btw m b n q = (-1, 0) := by
  refine btw_none hne fun o => ⟨way1_f fun e h _ => ?_, way2_f fun e _ h => ?_, way3_f fun e h _ => ?_⟩
  · have := h1 o (by rw [← h]; exact add_has (sh_all e).2.2)
    rw [(sh_all e).1] at this; cases this
  · have := h2 o (by rw [← h]; exact add_has (sc_has e).2.2)
    rw [(sc_has e).2.1] at this; cases this
  · have := h1 o (by rw [← h]; exact add_has (sh_all e).2.2)
    rw [(sh_all e).1] at this; cases this
theorem has_more {s : B} {o p : Int} (h : has s p = true) : has (add s o) p = true := by rw [has_add, h]; rfl
theorem bwd1 {m b : B} {x : Int} (h : shOk m b x = true) : btw (add m x) b m b = (-1, 0) :=
  bwd (by rw [ne_of_has (add_has (sh_all h).2.2) (sh_all h).1]; rfl) (fun _ => has_more) fun _ => id
theorem bwd2 {m b : B} {x : Int} (h : scOk m b x = true) : btw m (add b x) m b = (-1, 0) :=
  bwd (by rw [ne_of_has (add_has (sc_has h).2.2) (sc_has h).2.1, Bool.and_false]) (fun _ => id) fun _ => has_more
theorem bwd3 {m b : B} {x : Int} (h : shOk m b x = true) : btw (add m x) (add b x) m b = (-1, 0) :=
  bwd (by rw [ne_of_has (add_has (sh_all h).2.2) (sh_all h).1]; rfl) (fun _ => has_more) fun _ => has_more
theorem eqI_of {a b : Int} (h : a = b) : eqI a b = true := by subst h; exact eqI_self a
theorem eqI_ne {a b : Int} (h : a ≠ b) : eqI a b = false := by rw [eqI_def]; simpa using h

def c6 : List T → Ans
  | [.int .u64 a, .int .u64 b, .int .u8 o, .int .u8 k] => .req ((R64 a ∧ R64 b) ∧ (0 ≤ o ∧ o ≤ 255) ∧ 0 ≤ k ∧ k ≤ 255) (.bool true)
  | _ => .no
theorem ok6 (a b o k : Int) (hq : (R64 a ∧ R64 b) ∧ (0 ≤ o ∧ o ≤ 255) ∧ 0 ≤ k ∧ k ≤ 255) : FnOk Tryd.prog tgl 6 [.int .u64 a, .int .u64 b, .int .u8 o, .int .u8 k] (.bool true) := by
  refine fn_ok (Γ := eA) envA Tryd.func6 low6 ?_
  obtain ⟨⟨h1, h2⟩, ⟨ho0, ho1⟩, hk0, hk1⟩ := hq
  obtain ⟨a, rfl⟩ := exists_iv h1
  obtain ⟨b, rfl⟩ := exists_iv h2
  have tk : k.tmod 3 = k % 3 := Int.tmod_eq_emod_of_nonneg hk0
  have kk : IntKind.i64.wrap (1 + IntKind.i64.wrap (k.tmod 3)) = 1 + k % 3 := by rw [tk, wrap_i64 (n := k % 3) ⟨by omega, by omega⟩, wrap_i64 ⟨by omega, by omega⟩]
  have k3 : k % 3 = 0 ∨ k % 3 = 1 ∨ k % 3 = 2 := by omega
  have tt : eqI 1 1 = true := eqI_self 1
  have t2 : eqI 2 2 = true := eqI_self 2
  have t3 : eqI 3 3 = true := eqI_self 3
  have t0 : eqI 0 0 = true := eqI_self 0
  have t1 : eqI (-1) (-1) = true := eqI_self _
  have n21 : eqI 2 1 = false := eqI_ne (by decide)
  have n31 : eqI 3 1 = false := eqI_ne (by decide)
  have n32 : eqI 3 2 = false := eqI_ne (by decide)
  rcases k3 with k3 | k3 | k3
  · have kv : IntKind.i64.wrap (1 + IntKind.i64.wrap (k.tmod 3)) = 1 := by omega
    cases hc : shOk a (a &&& b) (IntKind.i64.wrap (1 + IntKind.i64.wrap (o.tmod 64)))
    · conv => whnf
      repeat' (first
        | (refine reqK_of ?_ ?_; rotate_left; (conv => whnf); rotate_left)
        | (refine brK_true ?_ ?_; (focus (simp only [bv_iv, kv, tt, t0, hc, sh_no hc, btw_self, Bool.not_true, Bool.not_false]; done)); conv => whnf)
        | (refine brK_false ?_ ?_; (focus (simp only [bv_iv, kv, tt, t0, hc, sh_no hc, btw_self, Bool.not_true, Bool.not_false]; done)); conv => whnf))
      all_goals first | decide | exact R_iv _ | exact ⟨R_iv _, R_iv _⟩ | exact ⟨⟨R_iv _, R_iv _⟩, R_iv _, R_iv _⟩ | skip
      all_goals simp only [bv_iv, hc, sh_no hc, btw_self, t0]
    · conv => whnf
      repeat' (first
        | (refine reqK_of ?_ ?_; rotate_left; (conv => whnf); rotate_left)
        | (refine brK_true ?_ ?_; (focus (simp only [bv_iv, kv, tt, t0, t1, hc, sh_yes hc, fwd1 hc, bwd1 hc, eqI_self, Bool.not_true, Bool.not_false]; done)); conv => whnf)
        | (refine brK_false ?_ ?_; (focus (simp only [bv_iv, kv, tt, t0, t1, hc, sh_yes hc, fwd1 hc, bwd1 hc, eqI_self, Bool.not_true, Bool.not_false]; done)); conv => whnf))
      all_goals first | decide | exact R_iv _ | exact ⟨R_iv _, R_iv _⟩ | exact ⟨⟨R_iv _, R_iv _⟩, R_iv _, R_iv _⟩ | skip
      all_goals simp only [bv_iv, hc, sh_yes hc, bwd1 hc, fwd1 hc, t0]
  · have kv : IntKind.i64.wrap (1 + IntKind.i64.wrap (k.tmod 3)) = 2 := by omega
    cases hc : scOk a (a &&& b) (IntKind.i64.wrap (1 + IntKind.i64.wrap (o.tmod 64)))
    · conv => whnf
      repeat' (first
        | (refine reqK_of ?_ ?_; rotate_left; (conv => whnf); rotate_left)
        | (refine brK_true ?_ ?_; (focus (simp only [bv_iv, kv, n21, t2, t0, hc, sc_no hc, btw_self, Bool.not_true, Bool.not_false]; done)); conv => whnf)
        | (refine brK_false ?_ ?_; (focus (simp only [bv_iv, kv, n21, t2, t0, hc, sc_no hc, btw_self, Bool.not_true, Bool.not_false]; done)); conv => whnf))
      all_goals first | decide | exact R_iv _ | exact ⟨R_iv _, R_iv _⟩ | exact ⟨⟨R_iv _, R_iv _⟩, R_iv _, R_iv _⟩ | skip
      all_goals simp only [bv_iv, hc, sc_no hc, btw_self, t0]
    · conv => whnf
      repeat' (first
        | (refine reqK_of ?_ ?_; rotate_left; (conv => whnf); rotate_left)
        | (refine brK_true ?_ ?_; (focus (simp only [bv_iv, kv, n21, t2, t0, t1, hc, sc_yes hc, fwd2 hc, bwd2 hc, eqI_self, Bool.not_true, Bool.not_false]; done)); conv => whnf)
        | (refine brK_false ?_ ?_; (focus (simp only [bv_iv, kv, n21, t2, t0, t1, hc, sc_yes hc, fwd2 hc, bwd2 hc, eqI_self, Bool.not_true, Bool.not_false]; done)); conv => whnf))
      all_goals first | decide | exact R_iv _ | exact ⟨R_iv _, R_iv _⟩ | exact ⟨⟨R_iv _, R_iv _⟩, R_iv _, R_iv _⟩ | skip
      all_goals simp only [bv_iv, hc, sc_yes hc, bwd2 hc, fwd2 hc, t0]
  · have kv : IntKind.i64.wrap (1 + IntKind.i64.wrap (k.tmod 3)) = 3 := by omega
    cases hc : shOk a (a &&& b) (IntKind.i64.wrap (1 + IntKind.i64.wrap (o.tmod 64)))
    · conv => whnf
      repeat' (first
        | (refine reqK_of ?_ ?_; rotate_left; (conv => whnf); rotate_left)
        | (refine brK_true ?_ ?_; (focus (simp only [bv_iv, kv, n31, n32, t0, hc, sh_no hc, fr_no hc, btw_self, Bool.not_true, Bool.not_false]; done)); conv => whnf)
        | (refine brK_false ?_ ?_; (focus (simp only [bv_iv, kv, n31, n32, t0, hc, sh_no hc, fr_no hc, btw_self, Bool.not_true, Bool.not_false]; done)); conv => whnf))
      all_goals first | decide | exact R_iv _ | exact ⟨R_iv _, R_iv _⟩ | exact ⟨⟨R_iv _, R_iv _⟩, R_iv _, R_iv _⟩ | skip
      all_goals simp only [bv_iv, hc, sh_no hc, fr_no hc, btw_self, t0]
    · conv => whnf
      repeat' (first
        | (refine reqK_of ?_ ?_; rotate_left; (conv => whnf); rotate_left)
        | (refine brK_true ?_ ?_; (focus (simp only [bv_iv, kv, n31, n32, t3, t0, t1, hc, sh_yes hc, fr_yes hc, fwd3 hc, bwd3 hc, eqI_self, Bool.not_true, Bool.not_false]; done)); conv => whnf)
        | (refine brK_false ?_ ?_; (focus (simp only [bv_iv, kv, n31, n32, t3, t0, t1, hc, sh_yes hc, fr_yes hc, fwd3 hc, bwd3 hc, eqI_self, Bool.not_true, Bool.not_false]; done)); conv => whnf))
      all_goals first | decide | exact R_iv _ | exact ⟨R_iv _, R_iv _⟩ | exact ⟨⟨R_iv _, R_iv _⟩, R_iv _, R_iv _⟩ | skip
      all_goals simp only [bv_iv, hc, sh_yes hc, fr_yes hc, bwd3 hc, fwd3 hc, t0]
theorem got6 {vs : List T} {x : T} (h : Got (c6 vs) x) : FnOk Tryd.prog tgl 6 vs x := by
  unfold c6 at h
  split at h
  · obtain ⟨hq, e⟩ := got_req h; rw [e]; exact ok6 _ _ _ _ hq
  · exact (got_no h).elim
end Go.Mx
