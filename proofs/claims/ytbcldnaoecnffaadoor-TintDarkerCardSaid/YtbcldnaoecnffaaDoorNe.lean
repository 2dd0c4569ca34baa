/-
  WHAT THE COLOURS' FUNCTIONS ANSWER.
-/
import Derived.Test.YtbcldnaoecnffaaDoorNd
set_option linter.unusedVariables false
set_option maxRecDepth 20000
namespace Go.Mx
open Go.RowKit Go.Proofs

def colr (m b : B) (o : Int) : Int := if has m o then (if has b o then 2 else 1) else 0
def shOk (m b : B) (o : Int) : Bool := obj o && !has m o && !has b o
def shM (m b : B) (o : Int) : B := if shOk m b o then add m o else m
def scOk (m b : B) (o : Int) : Bool := has m o && !has b o
def scB (m b : B) (o : Int) : B := if scOk m b o then add b o else b
def frB (m b : B) (o : Int) : B := if shOk m b o then add b o else b
def rightB (m b : B) (n : Int) : Bool := under b m && under m (first n)
def tn (m b : B) : T := .agg [.int .u64 (iv m), .int .u64 (iv b)]

theorem has_and (a b : B) (o : Int) : has (a &&& b) o = (has a o && has b o) := by
  unfold has; rw [BitVec.getLsbD_and]; cases obj o <;> cases a.getLsbD (o - 1).toNat <;> cases b.getLsbD (o - 1).toNat <;> rfl
theorem has_obj {s : B} {o : Int} (h : obj o = false) : has s o = false := by simp [has, h]
theorem has_add (s : B) (o p : Int) : has (add s o) p = (has s p || (obj o && decide (p = o))) := by
  unfold has add
  rw [BitVec.getLsbD_or, bit_get]
  by_cases hp : obj p = true
  · have h1 := of_decide_eq_true hp
    rw [hp, Bool.true_and, Bool.true_and]
    by_cases ho : obj o = true
    · have h2 := of_decide_eq_true ho
      rw [ho, Bool.true_and, Bool.true_and]
      congr 1
      apply decide_eq_decide.2; omega
    · simp only [Bool.not_eq_true] at ho; simp [ho]
  · simp only [Bool.not_eq_true] at hp
    rw [hp, Bool.false_and, Bool.false_and, Bool.false_or]
    by_cases e : p = o
    · subst e; simp [hp]
    · simp [e]
theorem add_same (s : B) (o : Int) : (add s o == s) = !(obj o && !has s o) := by
  rw [Bool.eq_iff_iff, beq_iff_eq]
  by_cases ho : obj o = true
  · rw [ho, Bool.true_and, Bool.not_not]
    constructor
    · intro h
      have := has_add s o o
      rw [h, ho] at this
      simp at this; exact this
    · intro h
      apply BitVec.eq_of_getLsbD_eq
      intro i hi
      rw [add, BitVec.getLsbD_or, bit_get, ho, Bool.true_and]
      by_cases e : i = (o - 1).toNat
      · subst e
        simp only [has, ho, Bool.true_and] at h
        rw [h, Bool.true_or]
      · rw [decide_eq_false e, Bool.or_false]
  · simp only [Bool.not_eq_true] at ho
    simp [ho, add, bit_out]
theorem greys_sub (m b : B) : m - (m &&& b) = m &&& ~~~ b := by
  have h0 : (m &&& b) &&& (m &&& ~~~ b) = 0#64 := by
    apply BitVec.eq_of_getLsbD_eq
    intro i hi
    simp only [BitVec.getLsbD_and, BitVec.getLsbD_not, BitVec.getLsbD_zero]
    cases m.getLsbD i <;> cases b.getLsbD i <;> simp
  have h1 : (m &&& b) + (m &&& ~~~ b) = m := by
    rw [BitVec.add_eq_or_of_and_eq_zero _ _ h0]
    apply BitVec.eq_of_getLsbD_eq
    intro i hi
    simp only [BitVec.getLsbD_or, BitVec.getLsbD_and, BitVec.getLsbD_not]
    cases m.getLsbD i <;> cases b.getLsbD i <;> simp [hi]
  have h2 : m - (m &&& b) = ((m &&& b) + (m &&& ~~~ b)) - (m &&& b) := by rw [h1]
  rw [h2, BitVec.add_comm, BitVec.add_sub_cancel]
theorem bv_sub (a b : Int) : bv (a - b) = bv a - bv b := by
  unfold bv
  rw [Int.sub_eq_add_neg, BitVec.ofInt_add, BitVec.ofInt_neg, BitVec.sub_eq_add_neg]

def c27 : List T → Ans
  | [.int .u64 s, .int .u64 t] => .req (R64 s) (tn (bv s) (bv s &&& bv t))
  | _ => .no
theorem ok27 (s t : Int) (hq : R64 s) : FnOk Tryd.prog tgl 27 [.int .u64 s, .int .u64 t] (tn (bv s) (bv s &&& bv t)) := by
  refine fn_ok (Γ := e3) env3 Tryd.func27 low27 ?_
  conv => whnf
  repeat' (first | (refine brK_true (by assumption) ?_; conv => whnf) | (refine brK_false (by assumption) ?_; conv => whnf) | (refine brK_of (fun h => ?_) (fun h => ?_) <;> conv => whnf) | (refine reqK_of ?_ ?_; rotate_left; (conv => whnf); rotate_left))
  rw [andI_u, tn, iv_bv hq]
theorem got27 {vs : List T} {x : T} (h : Got (c27 vs) x) : FnOk Tryd.prog tgl 27 vs x := by
  unfold c27 at h
  split at h
  · obtain ⟨hq, e⟩ := got_req h; rw [e]; exact ok27 _ _ hq
  · exact (got_no h).elim
def c10 : List T → Ans
  | [.agg [.int .u64 m, .int .u64 b]] => .req (R64 m ∧ R64 b) (tn (bv m) (bv b))
  | _ => .no
theorem ok10 (m b : Int) (hq : R64 m ∧ R64 b) : FnOk Tryd.prog tgl 10 [.agg [.int .u64 m, .int .u64 b]] (tn (bv m) (bv b)) := by
  refine fn_ok (Γ := e3) env3 Tryd.func10 low10 ?_
  conv => whnf
  repeat' (first | (refine brK_true (by assumption) ?_; conv => whnf) | (refine brK_false (by assumption) ?_; conv => whnf) | (refine brK_of (fun h => ?_) (fun h => ?_) <;> conv => whnf) | (refine reqK_of ?_ ?_; rotate_left; (conv => whnf); rotate_left))
  rw [tn, iv_bv hq.1, iv_bv hq.2]
theorem got10 {vs : List T} {x : T} (h : Got (c10 vs) x) : FnOk Tryd.prog tgl 10 vs x := by
  unfold c10 at h
  split at h
  · obtain ⟨hq, e⟩ := got_req h; rw [e]; exact ok10 _ _ hq
  · exact (got_no h).elim
def c21 : List T → Ans
  | [.agg [.int .u64 m, .int .u64 b], .int .i64 o] => .yes (.int .i64 (colr (bv m) (bv b) o))
  | _ => .no
theorem ok21 (m b o : Int) : FnOk Tryd.prog tgl 21 [.agg [.int .u64 m, .int .u64 b], .int .i64 o] (.int .i64 (colr (bv m) (bv b) o)) := by
  refine fn_ok (Γ := e3) env3 Tryd.func21 low21 ?_
  conv => whnf
  repeat' (first | (refine brK_true (by assumption) ?_; conv => whnf) | (refine brK_false (by assumption) ?_; conv => whnf) | (refine brK_of (fun h => ?_) (fun h => ?_) <;> conv => whnf) | (refine reqK_of ?_ ?_; rotate_left; (conv => whnf); rotate_left))
  · rw [andI_u, bv_iv, has_and, Bool.and_eq_true] at h
    simp [colr, h]
  · rename_i h'
    rw [andI_u, bv_iv, has_and] at h'
    simp [colr, h] at h' ⊢; simp [h']
  · rename_i h'
    simp [colr, h]
theorem got21 {vs : List T} {x : T} (h : Got (c21 vs) x) : FnOk Tryd.prog tgl 21 vs x := by
  unfold c21 at h
  split at h
  · rw [got_yes h]; exact ok21 _ _ _
  · exact (got_no h).elim
def c22 : List T → Ans
  | [.agg [.int .u64 m, .int .u64 b], .int .i64 o] => .req (R64 m ∧ R64 b) (.int .i64 (colr (bv m) (bv b) o))
  | _ => .no
theorem ok22 (m b o : Int) (hq : R64 m ∧ R64 b) : FnOk Tryd.prog tgl 22 [.agg [.int .u64 m, .int .u64 b], .int .i64 o] (.int .i64 (colr (bv m) (bv b) o)) := by
  refine fn_ok (Γ := e3) env3 Tryd.func22 low22 ?_
  conv => whnf
  repeat' (first | (refine brK_true (by assumption) ?_; conv => whnf) | (refine brK_false (by assumption) ?_; conv => whnf) | (refine brK_of (fun h => ?_) (fun h => ?_) <;> conv => whnf) | (refine reqK_of ?_ ?_; rotate_left; (conv => whnf); rotate_left))
  all_goals first | exact hq.1 | exact hq.2 | skip
  all_goals simp_all [colr]
theorem got22 {vs : List T} {x : T} (h : Got (c22 vs) x) : FnOk Tryd.prog tgl 22 vs x := by
  unfold c22 at h
  split at h
  · obtain ⟨hq, e⟩ := got_req h; rw [e]; exact ok22 _ _ _ hq
  · exact (got_no h).elim
theorem sh_no {m b : B} {o : Int} (h : shOk m b o = false) : shM m b o = m := by simp [shM, h]
theorem sh_yes {m b : B} {o : Int} (h : shOk m b o = true) : shM m b o = add m o := by simp [shM, h]
def c11 : List T → Ans
  | [.agg [.int .u64 m, .int .u64 b], .int .i64 o] => .req (R64 m ∧ R64 b) (.tup [tn (shM (bv m) (bv b) o) (bv b), .bool (shOk (bv m) (bv b) o)])
  | _ => .no
theorem ok11 (m b o : Int) (hq : R64 m ∧ R64 b) : FnOk Tryd.prog tgl 11 [.agg [.int .u64 m, .int .u64 b], .int .i64 o] (.tup [tn (shM (bv m) (bv b) o) (bv b), .bool (shOk (bv m) (bv b) o)]) := by
  refine fn_ok (Γ := e3) env3 Tryd.func11 low11 ?_
  obtain ⟨h1, h2⟩ := hq
  obtain ⟨M, rfl⟩ := exists_iv h1
  obtain ⟨N, rfl⟩ := exists_iv h2
  conv => whnf
  repeat' (first | (refine brK_true (by assumption) ?_; conv => whnf) | (refine brK_false (by assumption) ?_; conv => whnf) | (refine brK_of (fun h => ?_) (fun h => ?_) <;> conv => whnf) | (refine reqK_of ?_ ?_; rotate_left; (conv => whnf); rotate_left))
  · rw [bv_iv, eqI_iv, add_same] at h
    have e0 : (obj o && !has M o) = false := by rw [Bool.not_eq_true'] at h; exact h
    have e : shOk M N o = false := by rw [shOk, e0, Bool.false_and]
    rw [bv_iv, bv_iv, sh_no e, e, tn]
  · rename_i h'
    rw [bv_iv, eqI_iv, add_same] at h'
    rw [bv_iv] at h
    have e : shOk M N o = false := by rw [shOk, h]; simp
    rw [bv_iv, bv_iv, sh_no e, e, tn]
  · rename_i h'
    rw [bv_iv, eqI_iv, add_same] at h'
    rw [bv_iv] at h
    have e0 : (obj o && !has M o) = true := by simpa using h'
    have e : shOk M N o = true := by rw [shOk, e0, h]; rfl
    rw [bv_iv, bv_iv, sh_yes e, e, tn]
theorem got11 {vs : List T} {x : T} (h : Got (c11 vs) x) : FnOk Tryd.prog tgl 11 vs x := by
  unfold c11 at h
  split at h
  · obtain ⟨hq, e⟩ := got_req h; rw [e]; exact ok11 _ _ _ hq
  · exact (got_no h).elim
def c12 : List T → Ans
  | [.agg [.int .u64 m, .int .u64 b], .int .i64 o] => .req (R64 m ∧ R64 b) (.tup [tn (shM (bv m) (bv b) o) (bv b), .bool (shOk (bv m) (bv b) o)])
  | _ => .no
theorem ok12 (m b o : Int) (hq : R64 m ∧ R64 b) : FnOk Tryd.prog tgl 12 [.agg [.int .u64 m, .int .u64 b], .int .i64 o] (.tup [tn (shM (bv m) (bv b) o) (bv b), .bool (shOk (bv m) (bv b) o)]) := by
  refine fn_ok (Γ := e3) env3 Tryd.func12 low12 ?_
  obtain ⟨h1, h2⟩ := hq
  obtain ⟨M, rfl⟩ := exists_iv h1
  obtain ⟨N, rfl⟩ := exists_iv h2
  rw [bv_iv, bv_iv]
  have no : shOk M N o = false → T.tup [T.agg [.int .u64 (iv M), .int .u64 (iv N)], .bool false] = T.tup [tn (shM M N o) N, .bool (shOk M N o)] := fun e => by rw [sh_no e, e, tn]
  have yes : shOk M N o = true → T.tup [T.agg [.int .u64 (iv (add M o)), .int .u64 (iv N)], .bool true] = T.tup [tn (shM M N o) N, .bool (shOk M N o)] := fun e => by rw [sh_yes e, e, tn]
  conv => whnf
  repeat' (first | (refine brK_true (by assumption) ?_; conv => whnf) | (refine brK_false (by assumption) ?_; conv => whnf) | (refine brK_of (fun h => ?_) (fun h => ?_) <;> conv => whnf) | (refine reqK_of ?_ ?_; rotate_left; (conv => whnf); rotate_left))
  all_goals first | exact R_iv _ | skip
  · rw [lt_t] at h; exact no (by rw [shOk, obj_f (.inl h)]; rfl)
  · rw [lt_t] at h; exact no (by rw [shOk, obj_f (.inr h)]; rfl)
  · rw [bv_iv] at h; exact no (by rw [shOk, h]; simp)
  · rw [bv_iv] at h; exact no (by rw [shOk, h]; simp)
  · rename_i ha hb h'
    rw [bv_iv] at h h'
    rw [lt_f] at ha hb
    rw [bv_iv]
    exact yes (by rw [shOk, h, h', obj_t (by assumption) (by assumption)]; rfl)
theorem got12 {vs : List T} {x : T} (h : Got (c12 vs) x) : FnOk Tryd.prog tgl 12 vs x := by
  unfold c12 at h
  split at h
  · obtain ⟨hq, e⟩ := got_req h; rw [e]; exact ok12 _ _ _ hq
  · exact (got_no h).elim
def l4 : List (Nat × (List T → Ans)) := (21, c21) :: (22, c22) :: (27, c27) :: (10, c10) :: (11, c11) :: (12, c12) :: l3
def e4 : Env := ⟨ansL l4, tgl⟩
theorem env4 : EnvOk Tryd.prog e4 := (env_cons (env_cons (env_cons (env_cons (env_cons (env_cons env3 fun _ _ => got12) fun _ _ => got11) fun _ _ => got10) fun _ _ => got27) fun _ _ => got22) fun _ _ => got21)
theorem colr_is1 (m b : B) (o : Int) : (!eqI (colr m b o) 1) = !scOk m b o := by
  rw [eqI_def, colr, scOk]
  cases has m o <;> cases has b o <;> rfl
theorem sc_no {m b : B} {o : Int} (h : scOk m b o = false) : scB m b o = b := by simp [scB, h]
theorem sc_yes {m b : B} {o : Int} (h : scOk m b o = true) : scB m b o = add b o := by simp [scB, h]
theorem fr_no {m b : B} {o : Int} (h : shOk m b o = false) : frB m b o = b := by simp [frB, h]
theorem fr_yes {m b : B} {o : Int} (h : shOk m b o = true) : frB m b o = add b o := by simp [frB, h]
def c13 : List T → Ans
  | [.agg [.int .u64 m, .int .u64 b], .int .i64 o] => .req (R64 m ∧ R64 b) (.tup [tn (bv m) (scB (bv m) (bv b) o), .bool (scOk (bv m) (bv b) o)])
  | _ => .no
theorem ok13 (m b o : Int) (hq : R64 m ∧ R64 b) : FnOk Tryd.prog tgl 13 [.agg [.int .u64 m, .int .u64 b], .int .i64 o] (.tup [tn (bv m) (scB (bv m) (bv b) o), .bool (scOk (bv m) (bv b) o)]) := by
  refine fn_ok (Γ := e4) env4 Tryd.func13 low13 ?_
  obtain ⟨h1, h2⟩ := hq
  obtain ⟨M, rfl⟩ := exists_iv h1
  obtain ⟨N, rfl⟩ := exists_iv h2
  rw [bv_iv, bv_iv]
  have no : scOk M N o = false → T.tup [T.agg [.int .u64 (iv M), .int .u64 (iv N)], .bool false] = T.tup [tn M (scB M N o), .bool (scOk M N o)] := fun e => by rw [sc_no e, e, tn]
  have yes : scOk M N o = true → T.tup [T.agg [.int .u64 (iv M), .int .u64 (iv (add N o))], .bool true] = T.tup [tn M (scB M N o), .bool (scOk M N o)] := fun e => by rw [sc_yes e, e, tn]
  conv => whnf
  repeat' (first | (refine brK_true (by assumption) ?_; conv => whnf) | (refine brK_false (by assumption) ?_; conv => whnf) | (refine brK_of (fun h => ?_) (fun h => ?_) <;> conv => whnf) | (refine reqK_of ?_ ?_; rotate_left; (conv => whnf); rotate_left))
  all_goals first | exact R_iv _ | exact ⟨R_iv _, R_iv _⟩ | skip
  all_goals rw [bv_iv, bv_iv, colr_is1] at h
  · exact no (by simpa using h)
  · rw [bv_iv]; exact yes (by simpa using h)
theorem got13 {vs : List T} {x : T} (h : Got (c13 vs) x) : FnOk Tryd.prog tgl 13 vs x := by
  unfold c13 at h
  split at h
  · obtain ⟨hq, e⟩ := got_req h; rw [e]; exact ok13 _ _ _ hq
  · exact (got_no h).elim
def c14 : List T → Ans
  | [.agg [.int .u64 m, .int .u64 b], .int .i64 o] => .req (R64 m ∧ R64 b) (.tup [tn (bv m) (scB (bv m) (bv b) o), .bool (scOk (bv m) (bv b) o)])
  | _ => .no
theorem ok14 (m b o : Int) (hq : R64 m ∧ R64 b) : FnOk Tryd.prog tgl 14 [.agg [.int .u64 m, .int .u64 b], .int .i64 o] (.tup [tn (bv m) (scB (bv m) (bv b) o), .bool (scOk (bv m) (bv b) o)]) := by
  refine fn_ok (Γ := e4) env4 Tryd.func14 low14 ?_
  obtain ⟨h1, h2⟩ := hq
  obtain ⟨M, rfl⟩ := exists_iv h1
  obtain ⟨N, rfl⟩ := exists_iv h2
  rw [bv_iv, bv_iv]
  have no : scOk M N o = false → T.tup [T.agg [.int .u64 (iv M), .int .u64 (iv N)], .bool false] = T.tup [tn M (scB M N o), .bool (scOk M N o)] := fun e => by rw [sc_no e, e, tn]
  have yes : scOk M N o = true → T.tup [T.agg [.int .u64 (iv M), .int .u64 (iv (add N o))], .bool true] = T.tup [tn M (scB M N o), .bool (scOk M N o)] := fun e => by rw [sc_yes e, e, tn]
  conv => whnf
  repeat' (first | (refine brK_true (by assumption) ?_; conv => whnf) | (refine brK_false (by assumption) ?_; conv => whnf) | (refine brK_of (fun h => ?_) (fun h => ?_) <;> conv => whnf) | (refine reqK_of ?_ ?_; rotate_left; (conv => whnf); rotate_left))
  all_goals first | exact R_iv _ | exact ⟨R_iv _, R_iv _⟩ | skip
  all_goals rw [bv_iv, bv_iv, colr_is1] at h
  · exact no (by simpa using h)
  · rw [bv_iv]; exact yes (by simpa using h)
theorem got14 {vs : List T} {x : T} (h : Got (c14 vs) x) : FnOk Tryd.prog tgl 14 vs x := by
  unfold c14 at h
  split at h
  · obtain ⟨hq, e⟩ := got_req h; rw [e]; exact ok14 _ _ _ hq
  · exact (got_no h).elim
def l5 : List (Nat × (List T → Ans)) := (13, c13) :: (14, c14) :: l4
def e5 : Env := ⟨ansL l5, tgl⟩
theorem env5 : EnvOk Tryd.prog e5 := (env_cons (env_cons env4 fun _ _ => got14) fun _ _ => got13)
theorem sh_has {m b : B} {o : Int} (h : shOk m b o = true) : has (add m o) o = true ∧ has b o = false := by
  rw [shOk, Bool.and_eq_true, Bool.and_eq_true] at h
  rw [has_add, h.1.1]; exact ⟨by simp, by simpa using h.2⟩
def c15 : List T → Ans
  | [.agg [.int .u64 m, .int .u64 b], .int .i64 o] => .req (R64 m ∧ R64 b) (.tup [tn (shM (bv m) (bv b) o) (frB (bv m) (bv b) o), .bool (shOk (bv m) (bv b) o)])
  | _ => .no
theorem ok15 (m b o : Int) (hq : R64 m ∧ R64 b) : FnOk Tryd.prog tgl 15 [.agg [.int .u64 m, .int .u64 b], .int .i64 o] (.tup [tn (shM (bv m) (bv b) o) (frB (bv m) (bv b) o), .bool (shOk (bv m) (bv b) o)]) := by
  refine fn_ok (Γ := e5) env5 Tryd.func15 low15 ?_
  obtain ⟨h1, h2⟩ := hq
  obtain ⟨M, rfl⟩ := exists_iv h1
  obtain ⟨N, rfl⟩ := exists_iv h2
  rw [bv_iv, bv_iv]
  have no : shOk M N o = false → T.tup [T.agg [.int .u64 (iv M), .int .u64 (iv N)], .bool false] = T.tup [tn (shM M N o) (frB M N o), .bool (shOk M N o)] := fun e => by rw [sh_no e, fr_no e, e, tn]
  conv => whnf
  repeat' (first | (refine brK_true (by assumption) ?_; conv => whnf) | (refine brK_false (by assumption) ?_; conv => whnf) | (refine brK_of (fun h => ?_) (fun h => ?_) <;> conv => whnf) | (refine reqK_of ?_ ?_; rotate_left; (conv => whnf); rotate_left))
  all_goals first | exact ⟨R_iv _, R_iv _⟩ | skip
  all_goals rw [bv_iv, bv_iv] at h
  · exact no (by simpa using h)
  · have e : shOk M N o = true := by simpa using h
    have e2 : scOk (add M o) N o = true := by rw [scOk, (sh_has e).1, (sh_has e).2]; rfl
    simp only [bv_iv, sh_yes e, fr_yes e, sc_yes e2, e2, e, tn]
theorem got15 {vs : List T} {x : T} (h : Got (c15 vs) x) : FnOk Tryd.prog tgl 15 vs x := by
  unfold c15 at h
  split at h
  · obtain ⟨hq, e⟩ := got_req h; rw [e]; exact ok15 _ _ _ hq
  · exact (got_no h).elim
def c16 : List T → Ans
  | [.agg [.int .u64 m, .int .u64 b], .int .i64 o] => .req (R64 m ∧ R64 b) (.tup [tn (shM (bv m) (bv b) o) (frB (bv m) (bv b) o), .bool (shOk (bv m) (bv b) o)])
  | _ => .no
theorem ok16 (m b o : Int) (hq : R64 m ∧ R64 b) : FnOk Tryd.prog tgl 16 [.agg [.int .u64 m, .int .u64 b], .int .i64 o] (.tup [tn (shM (bv m) (bv b) o) (frB (bv m) (bv b) o), .bool (shOk (bv m) (bv b) o)]) := by
  refine fn_ok (Γ := e5) env5 Tryd.func16 low16 ?_
  obtain ⟨h1, h2⟩ := hq
  obtain ⟨M, rfl⟩ := exists_iv h1
  obtain ⟨N, rfl⟩ := exists_iv h2
  rw [bv_iv, bv_iv]
  have no : shOk M N o = false → T.tup [T.agg [.int .u64 (iv M), .int .u64 (iv N)], .bool false] = T.tup [tn (shM M N o) (frB M N o), .bool (shOk M N o)] := fun e => by rw [sh_no e, fr_no e, e, tn]
  conv => whnf
  repeat' (first | (refine brK_true (by assumption) ?_; conv => whnf) | (refine brK_false (by assumption) ?_; conv => whnf) | (refine brK_of (fun h => ?_) (fun h => ?_) <;> conv => whnf) | (refine reqK_of ?_ ?_; rotate_left; (conv => whnf); rotate_left))
  all_goals first | exact ⟨R_iv _, R_iv _⟩ | skip
  all_goals rw [bv_iv, bv_iv] at h
  · exact no (by simpa using h)
  · have e : shOk M N o = true := by simpa using h
    have e2 : scOk (add M o) N o = true := by rw [scOk, (sh_has e).1, (sh_has e).2]; rfl
    simp only [bv_iv, sh_yes e, fr_yes e, sc_yes e2, e2, e, tn]
theorem got16 {vs : List T} {x : T} (h : Got (c16 vs) x) : FnOk Tryd.prog tgl 16 vs x := by
  unfold c16 at h
  split at h
  · obtain ⟨hq, e⟩ := got_req h; rw [e]; exact ok16 _ _ _ hq
  · exact (got_no h).elim
def l6 : List (Nat × (List T → Ans)) := (15, c15) :: (16, c16) :: l5
def e6 : Env := ⟨ansL l6, tgl⟩
theorem env6 : EnvOk Tryd.prog e6 := (env_cons (env_cons env5 fun _ _ => got16) fun _ _ => got15)
def c19 : List T → Ans
  | [.agg [.int .u64 m, .int .u64 b], .int .i64 n] => .req (R64 m ∧ R64 b) (.bool (rightB (bv m) (bv b) n))
  | _ => .no
theorem ok19 (m b n : Int) (hq : R64 m ∧ R64 b) : FnOk Tryd.prog tgl 19 [.agg [.int .u64 m, .int .u64 b], .int .i64 n] (.bool (rightB (bv m) (bv b) n)) := by
  refine fn_ok (Γ := e6) env6 Tryd.func19 low19 ?_
  conv => whnf
  repeat' (first | (refine brK_true (by assumption) ?_; conv => whnf) | (refine brK_false (by assumption) ?_; conv => whnf) | (refine brK_of (fun h => ?_) (fun h => ?_) <;> conv => whnf) | (refine reqK_of ?_ ?_; rotate_left; (conv => whnf); rotate_left))
  · rw [bv_iv]; simp [rightB, h]
  · simp [rightB, h]
theorem got19 {vs : List T} {x : T} (h : Got (c19 vs) x) : FnOk Tryd.prog tgl 19 vs x := by
  unfold c19 at h
  split at h
  · obtain ⟨hq, e⟩ := got_req h; rw [e]; exact ok19 _ _ _ hq
  · exact (got_no h).elim
def c20 : List T → Ans
  | [.agg [.int .u64 m, .int .u64 b], .int .i64 n] => .req (R64 m ∧ R64 b) (.bool (rightB (bv m) (bv b) n))
  | _ => .no
theorem ok20 (m b n : Int) (hq : R64 m ∧ R64 b) : FnOk Tryd.prog tgl 20 [.agg [.int .u64 m, .int .u64 b], .int .i64 n] (.bool (rightB (bv m) (bv b) n)) := by
  refine fn_ok (Γ := e6) env6 Tryd.func20 low20 ?_
  conv => whnf
  repeat' (first | (refine brK_true (by assumption) ?_; conv => whnf) | (refine brK_false (by assumption) ?_; conv => whnf) | (refine brK_of (fun h => ?_) (fun h => ?_) <;> conv => whnf) | (refine reqK_of ?_ ?_; rotate_left; (conv => whnf); rotate_left))
  all_goals first | exact hq.1 | exact hq.2 | skip
  · rw [bv_iv]; simp [rightB, h]
  · simp [rightB, h]
theorem got20 {vs : List T} {x : T} (h : Got (c20 vs) x) : FnOk Tryd.prog tgl 20 vs x := by
  unfold c20 at h
  split at h
  · obtain ⟨hq, e⟩ := got_req h; rw [e]; exact ok20 _ _ _ hq
  · exact (got_no h).elim
def c23 : List T → Ans
  | [.agg [.int .u64 m, .int .u64 b]] => .yes (.int .u64 (iv (bv m &&& ~~~ bv b)))
  | _ => .no
theorem ok23 (m b : Int) : FnOk Tryd.prog tgl 23 [.agg [.int .u64 m, .int .u64 b]] (.int .u64 (iv (bv m &&& ~~~ bv b))) := by
  refine fn_ok (Γ := e6) env6 Tryd.func23 low23 ?_
  conv => whnf
  repeat' (first | (refine brK_true (by assumption) ?_; conv => whnf) | (refine brK_false (by assumption) ?_; conv => whnf) | (refine brK_of (fun h => ?_) (fun h => ?_) <;> conv => whnf) | (refine reqK_of ?_ ?_; rotate_left; (conv => whnf); rotate_left))
  rw [andNotI_u]
theorem got23 {vs : List T} {x : T} (h : Got (c23 vs) x) : FnOk Tryd.prog tgl 23 vs x := by
  unfold c23 at h
  split at h
  · rw [got_yes h]; exact ok23 _ _
  · exact (got_no h).elim
def c24 : List T → Ans
  | [.agg [.int .u64 m, .int .u64 b]] => .yes (.int .u64 (iv (bv m &&& ~~~ bv b)))
  | _ => .no
theorem ok24 (m b : Int) : FnOk Tryd.prog tgl 24 [.agg [.int .u64 m, .int .u64 b]] (.int .u64 (iv (bv m &&& ~~~ bv b))) := by
  refine fn_ok (Γ := e6) env6 Tryd.func24 low24 ?_
  conv => whnf
  repeat' (first | (refine brK_true (by assumption) ?_; conv => whnf) | (refine brK_false (by assumption) ?_; conv => whnf) | (refine brK_of (fun h => ?_) (fun h => ?_) <;> conv => whnf) | (refine reqK_of ?_ ?_; rotate_left; (conv => whnf); rotate_left))
  rw [andI_u, wrap_iv, bv_sub, bv_iv, greys_sub]
theorem got24 {vs : List T} {x : T} (h : Got (c24 vs) x) : FnOk Tryd.prog tgl 24 vs x := by
  unfold c24 at h
  split at h
  · rw [got_yes h]; exact ok24 _ _
  · exact (got_no h).elim
def l7 : List (Nat × (List T → Ans)) := (19, c19) :: (20, c20) :: (23, c23) :: (24, c24) :: l6
def e7 : Env := ⟨ansL l7, tgl⟩
theorem env7 : EnvOk Tryd.prog e7 := (env_cons (env_cons (env_cons (env_cons env6 fun _ _ => got24) fun _ _ => got23) fun _ _ => got20) fun _ _ => got19)
end Go.Mx
