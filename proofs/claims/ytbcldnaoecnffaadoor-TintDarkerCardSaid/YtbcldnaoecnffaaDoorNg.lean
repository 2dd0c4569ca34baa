/-
  BETWEEN.
-/
import Derived.Test.YtbcldnaoecnffaaDoorNf
set_option linter.unusedVariables false
set_option maxRecDepth 20000
namespace Go.Mx
open Go.RowKit Go.Proofs

def way1 (m b n q : B) (o : Int) : Bool := shOk m b o && (shM m b o == n && b == q)
def way2 (m b n q : B) (o : Int) : Bool := scOk m b o && (m == n && scB m b o == q)
def way3 (m b n q : B) (o : Int) : Bool := shOk m b o && (shM m b o == n && frB m b o == q)
def btwF (m b n q : B) : Nat → Int → Int × Int
  | 0, _ => (-1, 0)
  | f + 1, o => if way1 m b n q o then (1, o) else if way2 m b n q o then (2, o) else if way3 m b n q o then (3, o) else btwF m b n q f (o + 1)
def btw (m b n q : B) : Int × Int := if m == n && b == q then (0, 0) else btwF m b n q 64 1
theorem btwF_step {m b n q : B} {f : Nat} {o : Int} (h1 : way1 m b n q o = false) (h2 : way2 m b n q o = false) (h3 : way3 m b n q o = false) : btwF m b n q (f + 1) o = btwF m b n q f (o + 1) := by
  simp [btwF, h1, h2, h3]
theorem btwF_1 {m b n q : B} {f : Nat} {o : Int} (h1 : way1 m b n q o = true) : btwF m b n q (f + 1) o = (1, o) := by simp [btwF, h1]
theorem btwF_2 {m b n q : B} {f : Nat} {o : Int} (h1 : way1 m b n q o = false) (h2 : way2 m b n q o = true) : btwF m b n q (f + 1) o = (2, o) := by simp [btwF, h1, h2]
theorem btwF_3 {m b n q : B} {f : Nat} {o : Int} (h1 : way1 m b n q o = false) (h2 : way2 m b n q o = false) (h3 : way3 m b n q o = true) : btwF m b n q (f + 1) o = (3, o) := by simp [btwF, h1, h2, h3]

def c18 : List T → Ans
  | [.agg [.int .u64 m, .int .u64 b], .agg [.int .u64 n, .int .u64 q]] => .req ((R64 m ∧ R64 b) ∧ R64 n ∧ R64 q) (.tup [.int .i64 (btw (bv m) (bv b) (bv n) (bv q)).1, .int .i64 (btw (bv m) (bv b) (bv n) (bv q)).2])
  | _ => .no
theorem ok18 (m b n q : Int) (hq : (R64 m ∧ R64 b) ∧ R64 n ∧ R64 q) : FnOk Tryd.prog tgl 18 [.agg [.int .u64 m, .int .u64 b], .agg [.int .u64 n, .int .u64 q]] (.tup [.int .i64 (btw (bv m) (bv b) (bv n) (bv q)).1, .int .i64 (btw (bv m) (bv b) (bv n) (bv q)).2]) := by
  refine fn_ok (Γ := e8) env8 Tryd.func18 low18 ?_
  obtain ⟨⟨h1, h2⟩, h3, h4⟩ := hq
  obtain ⟨m, rfl⟩ := exists_iv h1
  obtain ⟨b, rfl⟩ := exists_iv h2
  obtain ⟨n, rfl⟩ := exists_iv h3
  obtain ⟨q, rfl⟩ := exists_iv h4
  simp only [bv_iv]
  conv => whnf
  repeat' (first | (refine brK_true (by assumption) ?_; conv => whnf) | (refine brK_false (by assumption) ?_; conv => whnf) | (refine brK_of (fun h => ?_) (fun h => ?_) <;> conv => whnf) | (refine reqK_of ?_ ?_; rotate_left; (conv => whnf); rotate_left))
  · replace h : (eqI (iv m) (iv n) && (eqI (iv b) (iv q) && true)) = true := h
    rw [eqI_iv, eqI_iv, Bool.and_true] at h
    rw [btw, h]; rfl
  replace h : (eqI (iv m) (iv n) && (eqI (iv b) (iv q) && true)) = false := h
  rw [eqI_iv, eqI_iv, Bool.and_true] at h
  rw [show btw m b n q = btwF m b n q 64 1 by rw [btw, h]; rfl]
  clear h
  refine loopAt [7, 8, 9, 10, 11, 12, 16, 17, 18, 19, 20, 21, 22, 23, 24, 25, 26, 27, 28, 29, 30, 31, 32, 33, 34, 35, 36, 37, 38, 39, 40, 41, 42, 43, 44, 45, 46, 47, 48, 49, 50, 51, 52, 53, 54, 55, 56, 57, 58] [71, 73, 75]
    (fun k : Nat => ⟨[.t (.agg [.int .u64 (iv m), .int .u64 (iv b)]), .t (.agg [.int .u64 (iv n), .int .u64 (iv q)]), .ptr 66 0, .ptr 67 0, .t (.int .i64 0), .t (.int .i64 0), .t (.int .i64 ((k : Int) + 1)),
     .dead, .dead, .dead, .dead, .dead, .dead, .t (.agg [.int .u64 (iv m), .int .u64 (iv b)]), .t (.agg [.int .u64 (iv n), .int .u64 (iv q)]), .t (.bool (eqI (iv m) (iv n) && (eqI (iv b) (iv q) && true))), .dead, .dead, .dead, .dead, .dead, .dead, .dead, .dead, .dead, .dead, .dead, .dead, .dead, .dead, .dead, .dead, .dead, .dead, .dead, .dead, .dead, .dead, .dead, .dead, .dead, .dead, .dead, .dead, .dead, .dead, .dead, .dead, .dead, .dead, .dead, .dead, .dead, .dead, .dead, .dead, .dead, .dead, .dead],
     [(67, .cells [.t (.int .u64 (iv n)), .t (.int .u64 (iv q))]), (66, .cells [.t (.int .u64 (iv m)), .t (.int .u64 (iv b))])]⟩)
    (fun k => k ≤ 64 ∧ btwF m b n q 64 1 = btwF m b n q (64 - k) ((k : Int) + 1)) (fun k => 64 - k) 0 ⟨by omega, rfl⟩ rfl fun k hk C hC => ?_
  obtain ⟨hk, hb⟩ := hk
  rw [hb]
  by_cases hlt : k < 64
  · have hle : leI ((k : Int) + 1) 64 = true := le_t.2 (by omega)
    have e : 64 - k = (63 - k) + 1 := by omega
    have hw : IntKind.i64.wrap ((k : Int) + 1 + 1) = ((k + 1 : Nat) : Int) + 1 := by rw [wrap_i64 ⟨by omega, by omega⟩]; omega
    rw [e]
    have next : btwF m b n q (63 - k + 1) ((k : Int) + 1) = btwF m b n q (63 - k) ((k : Int) + 1 + 1) → C ⟨[.t (.agg [.int .u64 (iv m), .int .u64 (iv b)]), .t (.agg [.int .u64 (iv n), .int .u64 (iv q)]), .ptr 66 0, .ptr 67 0, .t (.int .i64 0), .t (.int .i64 0), .t (.int .i64 (IntKind.i64.wrap ((k : Int) + 1 + 1))),
     .dead, .dead, .dead, .dead, .dead, .dead, .t (.agg [.int .u64 (iv m), .int .u64 (iv b)]), .t (.agg [.int .u64 (iv n), .int .u64 (iv q)]), .t (.bool (eqI (iv m) (iv n) && (eqI (iv b) (iv q) && true))), .dead, .dead, .dead, .dead, .dead, .dead, .dead, .dead, .dead, .dead, .dead, .dead, .dead, .dead, .dead, .dead, .dead, .dead, .dead, .dead, .dead, .dead, .dead, .dead, .dead, .dead, .dead, .dead, .dead, .dead, .dead, .dead, .dead, .dead, .dead, .dead, .dead, .dead, .dead, .dead, .dead, .dead, .dead],
     [(67, .cells [.t (.int .u64 (iv n)), .t (.int .u64 (iv q))]), (66, .cells [.t (.int .u64 (iv m)), .t (.int .u64 (iv b))])]⟩ := fun hn => by
      rw [hw]
      refine hC (k + 1) ⟨by omega, ?_⟩ (by omega)
      rw [hb, e, hn, show 64 - (k + 1) = 63 - k by omega]
      congr 1
    clear hC hb
    conv => whnf
    repeat' (first | (refine brK_true (by assumption) ?_; conv => whnf) | (refine brK_false (by assumption) ?_; conv => whnf) | (refine brK_of (fun h => ?_) (fun h => ?_) <;> conv => whnf) | (refine reqK_of ?_ ?_; rotate_left; (conv => whnf); rotate_left))
    all_goals first | exact ⟨R_iv _, R_iv _⟩ | skip
    all_goals simp only [bv_iv, eqI_iv, Bool.and_true] at *
    all_goals first
      | (refine next (btwF_step ?_ ?_ ?_) <;> simp only [way1, way2, way3, *, Bool.and_true, Bool.and_false, Bool.true_and, Bool.false_and] <;> done)
      | (rw [btwF_1] <;> first | assumption | (simp only [way1, way2, way3, *, Bool.and_true, Bool.and_false, Bool.true_and, Bool.false_and] <;> done))
      | (rw [btwF_2] <;> first | assumption | (simp only [way1, way2, way3, *, Bool.and_true, Bool.and_false, Bool.true_and, Bool.false_and] <;> done))
      | (rw [btwF_3] <;> first | assumption | (simp only [way1, way2, way3, *, Bool.and_true, Bool.and_false, Bool.true_and, Bool.false_and] <;> done))
  · have hle : leI ((k : Int) + 1) 64 = false := le_f.2 (by omega)
    clear hC
    conv => whnf
    repeat' (first | (refine brK_true (by assumption) ?_; conv => whnf) | (refine brK_false (by assumption) ?_; conv => whnf) | (refine brK_of (fun h => ?_) (fun h => ?_) <;> conv => whnf) | (refine reqK_of ?_ ?_; rotate_left; (conv => whnf); rotate_left))
    rw [show 64 - k = 0 by omega]; rfl
theorem got18 {vs : List T} {x : T} (h : Got (c18 vs) x) : FnOk Tryd.prog tgl 18 vs x := by
  unfold c18 at h
  split at h
  · obtain ⟨hq, e⟩ := got_req h; rw [e]; exact ok18 _ _ _ _ hq
  · exact (got_no h).elim
def c17 : List T → Ans
  | [.agg [.int .u64 m, .int .u64 b], .agg [.int .u64 n, .int .u64 q]] => .req ((R64 m ∧ R64 b) ∧ R64 n ∧ R64 q) (.tup [.int .i64 (btw (bv m) (bv b) (bv n) (bv q)).1, .int .i64 (btw (bv m) (bv b) (bv n) (bv q)).2])
  | _ => .no
theorem ok17 (m b n q : Int) (hq : (R64 m ∧ R64 b) ∧ R64 n ∧ R64 q) : FnOk Tryd.prog tgl 17 [.agg [.int .u64 m, .int .u64 b], .agg [.int .u64 n, .int .u64 q]] (.tup [.int .i64 (btw (bv m) (bv b) (bv n) (bv q)).1, .int .i64 (btw (bv m) (bv b) (bv n) (bv q)).2]) := by
  refine fn_ok (Γ := e8) env8 Tryd.func17 low17 ?_
  obtain ⟨⟨h1, h2⟩, h3, h4⟩ := hq
  obtain ⟨m, rfl⟩ := exists_iv h1
  obtain ⟨b, rfl⟩ := exists_iv h2
  obtain ⟨n, rfl⟩ := exists_iv h3
  obtain ⟨q, rfl⟩ := exists_iv h4
  simp only [bv_iv]
  conv => whnf
  repeat' (first | (refine brK_true (by assumption) ?_; conv => whnf) | (refine brK_false (by assumption) ?_; conv => whnf) | (refine brK_of (fun h => ?_) (fun h => ?_) <;> conv => whnf) | (refine reqK_of ?_ ?_; rotate_left; (conv => whnf); rotate_left))
  · replace h : (eqI (iv m) (iv n) && (eqI (iv b) (iv q) && true)) = true := h
    rw [eqI_iv, eqI_iv, Bool.and_true] at h
    rw [btw, h]; rfl
  · refine ⟨rfl, rfl, fun x hx => ?_⟩
    simp only [List.mem_cons, List.not_mem_nil, or_false] at hx
    rcases hx with rfl | rfl | rfl | rfl <;> rfl
  replace h : (eqI (iv m) (iv n) && (eqI (iv b) (iv q) && true)) = false := h
  rw [eqI_iv, eqI_iv, Bool.and_true] at h
  rw [show btw m b n q = btwF m b n q 64 1 by rw [btw, h]; rfl]
  clear h
  refine loopAt [7, 8, 9, 10, 16, 17, 18, 19, 20, 21, 22, 23, 24, 25, 26, 27, 28, 29, 30, 31, 32, 33, 34, 35, 36, 37, 38, 39, 40, 41] []
    (fun k : Nat => ⟨[.t (.agg [.int .u64 (iv m), .int .u64 (iv b)]), .t (.agg [.int .u64 (iv n), .int .u64 (iv q)]), .ptr 66 0, .ptr 67 0, .t (.int .i64 0), .t (.int .i64 0), .ptr 70 0, .dead, .dead, .dead, .dead, .t (.agg [.int .u64 (iv m), .int .u64 (iv b)]), .t (.agg [.int .u64 (iv n), .int .u64 (iv q)]), .t (.bool (eqI (iv m) (iv n) && (eqI (iv b) (iv q) && true))), .t (.agg [.nilfn, .fn (.func 11) [] [], .fn (.func 13) [] [], .fn (.func 15) [] []]), .t (.int .i64 (k : Int)), .dead, .dead, .dead, .dead, .dead, .dead, .dead, .dead, .dead, .dead, .dead, .dead, .dead, .dead, .dead, .dead, .dead, .dead, .dead, .dead, .dead, .dead, .dead, .dead, .dead, .dead], [(70, .lst 1 [.nilfn, .fn (.func 11) [] [], .fn (.func 13) [] [], .fn (.func 15) [] []] true), (67, .cells [.t (.int .u64 (iv n)), .t (.int .u64 (iv q))]), (66, .cells [.t (.int .u64 (iv m)), .t (.int .u64 (iv b))])]⟩)
    (fun k => k ≤ 64 ∧ btwF m b n q 64 1 = btwF m b n q (64 - k) ((k : Int) + 1)) (fun k => 64 - k) 0 ⟨by omega, rfl⟩ rfl fun k hk C hC => ?_
  obtain ⟨hk, hb⟩ := hk
  rw [hb]
  by_cases hlt : k < 64
  · have hle : ltI (k : Int) 64 = true := lt_t.2 (by omega)
    have e : 64 - k = (63 - k) + 1 := by omega
    have hw0 : IntKind.i64.wrap ((k : Int) + 1) = (k : Int) + 1 := wrap_i64 ⟨by omega, by omega⟩
    rw [e]
    have next : btwF m b n q (63 - k + 1) ((k : Int) + 1) = btwF m b n q (63 - k) ((k : Int) + 1 + 1) → C ⟨[.t (.agg [.int .u64 (iv m), .int .u64 (iv b)]), .t (.agg [.int .u64 (iv n), .int .u64 (iv q)]), .ptr 66 0, .ptr 67 0, .t (.int .i64 0), .t (.int .i64 0), .ptr 70 0, .dead, .dead, .dead, .dead, .t (.agg [.int .u64 (iv m), .int .u64 (iv b)]), .t (.agg [.int .u64 (iv n), .int .u64 (iv q)]), .t (.bool (eqI (iv m) (iv n) && (eqI (iv b) (iv q) && true))), .t (.agg [.nilfn, .fn (.func 11) [] [], .fn (.func 13) [] [], .fn (.func 15) [] []]), .t (.int .i64 (IntKind.i64.wrap ((k : Int) + 1))), .dead, .dead, .dead, .dead, .dead, .dead, .dead, .dead, .dead, .dead, .dead, .dead, .dead, .dead, .dead, .dead, .dead, .dead, .dead, .dead, .dead, .dead, .dead, .dead, .dead, .dead], [(70, .lst 1 [.nilfn, .fn (.func 11) [] [], .fn (.func 13) [] [], .fn (.func 15) [] []] true), (67, .cells [.t (.int .u64 (iv n)), .t (.int .u64 (iv q))]), (66, .cells [.t (.int .u64 (iv m)), .t (.int .u64 (iv b))])]⟩ := fun hn => by
      rw [hw0]
      refine hC (k + 1) ⟨by omega, ?_⟩ (by omega)
      rw [hb, e, hn, show 64 - (k + 1) = 63 - k by omega]
      congr 1
    clear hC hb
    conv => whnf
    repeat' (first | (refine brK_true (by assumption) ?_; conv => whnf) | (refine brK_false (by assumption) ?_; conv => whnf) | (refine brK_of (fun h => ?_) (fun h => ?_) <;> conv => whnf) | (refine reqK_of ?_ ?_; rotate_left; (conv => whnf); rotate_left))
    refine loopAt [9, 10, 18, 19, 20, 21, 22, 23, 24, 25, 26, 27, 28, 29, 30, 31, 32, 33, 34, 35, 36, 37, 38, 39, 40] [73]
      (fun j : Int => ⟨[.t (.agg [.int .u64 (iv m), .int .u64 (iv b)]), .t (.agg [.int .u64 (iv n), .int .u64 (iv q)]), .ptr 66 0, .ptr 67 0, .t (.int .i64 0), .t (.int .i64 0), .ptr 70 0, .t (.int .i64 (k : Int)), .t (.int .i64 (j)), .dead, .dead, .t (.agg [.int .u64 (iv m), .int .u64 (iv b)]), .t (.agg [.int .u64 (iv n), .int .u64 (iv q)]), .t (.bool (eqI (iv m) (iv n) && (eqI (iv b) (iv q) && true))), .t (.agg [.nilfn, .fn (.func 11) [] [], .fn (.func 13) [] [], .fn (.func 15) [] []]), .t (.int .i64 (k : Int)), .t (.bool (ltI (k : Int) 64)), .t (.int .i64 (k : Int)), .dead, .dead, .dead, .dead, .dead, .dead, .dead, .dead, .dead, .dead, .dead, .dead, .dead, .dead, .dead, .dead, .dead, .dead, .dead, .dead, .dead, .dead, .dead, .dead], [(70, .lst 1 [.nilfn, .fn (.func 11) [] [], .fn (.func 13) [] [], .fn (.func 15) [] []] true), (67, .cells [.t (.int .u64 (iv n)), .t (.int .u64 (iv q))]), (66, .cells [.t (.int .u64 (iv m)), .t (.int .u64 (iv b))])]⟩)
      (fun j => (j = 1 ∨ (j = 2 ∧ way1 m b n q ((k : Int) + 1) = false)) ∨ (j = 3 ∧ way1 m b n q ((k : Int) + 1) = false ∧ way2 m b n q ((k : Int) + 1) = false) ∨ (j = 4 ∧ way1 m b n q ((k : Int) + 1) = false ∧ way2 m b n q ((k : Int) + 1) = false ∧ way3 m b n q ((k : Int) + 1) = false))
      (fun j => (4 - j).toNat) 1 (.inl (.inl rfl)) rfl fun j hj D hD => ?_
    have l1 : leI 1 3 = true := le_t.2 (by decide)
    have l2 : leI 2 3 = true := le_t.2 (by decide)
    have l3 : leI 3 3 = true := le_t.2 (by decide)
    have l4 : leI 4 3 = false := le_f.2 (by decide)
    rcases hj with (rfl | ⟨rfl, w1⟩) | ⟨rfl, w1, w2⟩ | ⟨rfl, w1, w2, w3⟩
    · conv => whnf
      repeat' (first | (refine brK_true (by assumption) ?_; conv => whnf) | (refine brK_false (by assumption) ?_; conv => whnf) | (refine brK_of (fun h => ?_) (fun h => ?_) <;> conv => whnf) | (refine reqK_of ?_ ?_; rotate_left; (conv => whnf); rotate_left))
      · decide
      refine nthK_of (.fn (.func 11) [] []) (by decide) rfl ?_
      conv => whnf
      repeat' (first | (refine brK_true (by assumption) ?_; conv => whnf) | (refine brK_false (by assumption) ?_; conv => whnf) | (refine brK_of (fun h => ?_) (fun h => ?_) <;> conv => whnf) | (refine reqK_of ?_ ?_; rotate_left; (conv => whnf); rotate_left))
      all_goals first | exact ⟨R_iv _, R_iv _⟩ | skip
      all_goals (try rw [hw0] at *)
      all_goals first
        | (refine loopC (hD 2 (.inl (.inr ⟨rfl, ?_⟩)) (by decide)) ?_ <;> first | rfl | (clear next hD; simp only [bv_iv, eqI_iv, Bool.and_true] at *; simp only [way1, way2, way3, *, Bool.and_true, Bool.and_false, Bool.true_and, Bool.false_and] <;> done))
        | (clear next hD; simp only [bv_iv, eqI_iv, Bool.and_true] at *; rw [btwF_1] <;> first | assumption | (simp only [way1, way2, way3, *, Bool.and_true, Bool.and_false, Bool.true_and, Bool.false_and] <;> done))
    · conv => whnf
      repeat' (first | (refine brK_true (by assumption) ?_; conv => whnf) | (refine brK_false (by assumption) ?_; conv => whnf) | (refine brK_of (fun h => ?_) (fun h => ?_) <;> conv => whnf) | (refine reqK_of ?_ ?_; rotate_left; (conv => whnf); rotate_left))
      · decide
      refine nthK_of (.fn (.func 13) [] []) (by decide) rfl ?_
      conv => whnf
      repeat' (first | (refine brK_true (by assumption) ?_; conv => whnf) | (refine brK_false (by assumption) ?_; conv => whnf) | (refine brK_of (fun h => ?_) (fun h => ?_) <;> conv => whnf) | (refine reqK_of ?_ ?_; rotate_left; (conv => whnf); rotate_left))
      all_goals first | exact ⟨R_iv _, R_iv _⟩ | skip
      all_goals (try rw [hw0] at *)
      all_goals first
        | (refine loopC (hD 3 (.inr (.inl ⟨rfl, w1, ?_⟩)) (by decide)) ?_ <;> first | rfl | (clear next hD; simp only [bv_iv, eqI_iv, Bool.and_true] at *; simp only [way1, way2, way3, *, Bool.and_true, Bool.and_false, Bool.true_and, Bool.false_and] <;> done))
        | (clear next hD; simp only [bv_iv, eqI_iv, Bool.and_true] at *; rw [btwF_2] <;> first | assumption | (simp only [way1, way2, way3, *, Bool.and_true, Bool.and_false, Bool.true_and, Bool.false_and] <;> done))
    · conv => whnf
      repeat' (first | (refine brK_true (by assumption) ?_; conv => whnf) | (refine brK_false (by assumption) ?_; conv => whnf) | (refine brK_of (fun h => ?_) (fun h => ?_) <;> conv => whnf) | (refine reqK_of ?_ ?_; rotate_left; (conv => whnf); rotate_left))
      · decide
      refine nthK_of (.fn (.func 15) [] []) (by decide) rfl ?_
      conv => whnf
      repeat' (first | (refine brK_true (by assumption) ?_; conv => whnf) | (refine brK_false (by assumption) ?_; conv => whnf) | (refine brK_of (fun h => ?_) (fun h => ?_) <;> conv => whnf) | (refine reqK_of ?_ ?_; rotate_left; (conv => whnf); rotate_left))
      all_goals first | exact ⟨R_iv _, R_iv _⟩ | skip
      all_goals (try rw [hw0] at *)
      all_goals first
        | (refine loopC (hD 4 (.inr (.inr ⟨rfl, w1, w2, ?_⟩)) (by decide)) ?_ <;> first | rfl | (clear next hD; simp only [bv_iv, eqI_iv, Bool.and_true] at *; simp only [way1, way2, way3, *, Bool.and_true, Bool.and_false, Bool.true_and, Bool.false_and] <;> done))
        | (clear next hD; simp only [bv_iv, eqI_iv, Bool.and_true] at *; rw [btwF_3] <;> first | assumption | (simp only [way1, way2, way3, *, Bool.and_true, Bool.and_false, Bool.true_and, Bool.false_and] <;> done))
    · conv => whnf
      repeat' (first | (refine brK_true (by assumption) ?_; conv => whnf) | (refine brK_false (by assumption) ?_; conv => whnf) | (refine brK_of (fun h => ?_) (fun h => ?_) <;> conv => whnf) | (refine reqK_of ?_ ?_; rotate_left; (conv => whnf); rotate_left))
      exact next (btwF_step w1 w2 w3)
  · have hle : ltI (k : Int) 64 = false := lt_f.2 (by omega)
    clear hC
    conv => whnf
    repeat' (first | (refine brK_true (by assumption) ?_; conv => whnf) | (refine brK_false (by assumption) ?_; conv => whnf) | (refine brK_of (fun h => ?_) (fun h => ?_) <;> conv => whnf) | (refine reqK_of ?_ ?_; rotate_left; (conv => whnf); rotate_left))
    rw [show 64 - k = 0 by omega]; rfl
theorem got17 {vs : List T} {x : T} (h : Got (c17 vs) x) : FnOk Tryd.prog tgl 17 vs x := by
  unfold c17 at h
  split at h
  · obtain ⟨hq, e⟩ := got_req h; rw [e]; exact ok17 _ _ _ _ hq
  · exact (got_no h).elim
def l9 : List (Nat × (List T → Ans)) := (17, c17) :: (18, c18) :: l8
def e9 : Env := ⟨ansL l9, tgl⟩
theorem env9 : EnvOk Tryd.prog e9 := (env_cons (env_cons env8 fun _ _ => got18) fun _ _ => got17)
end Go.Mx
