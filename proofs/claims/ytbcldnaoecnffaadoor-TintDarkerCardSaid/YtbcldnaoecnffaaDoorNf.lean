/-
  TEXTS.
-/
import Derived.Test.YtbcldnaoecnffaaDoorNe
set_option linter.unusedVariables false
set_option maxRecDepth 20000
namespace Go.Mx
open Go.RowKit Go.Proofs

def letter (c : Int) : ByteArray := if c = 0 then ⟨#[119]⟩ else if c = 1 then ⟨#[103]⟩ else ⟨#[98]⟩
def txt (m b : B) : Nat → ByteArray
  | 0 => ⟨#[]⟩
  | k + 1 => txt m b k ++ letter (colr m b (k + 1))
theorem letter_size (c : Int) : (letter c).size = 1 := by unfold letter; split; rfl; split <;> rfl
theorem txt_size (m b : B) (k : Nat) : (txt m b k).size = k := by
  induction k with
  | zero => rfl
  | succ k ih => simp [txt, ih, letter_size]
theorem colr_cases (m b : B) (o : Int) : colr m b o = 0 ∨ colr m b o = 1 ∨ colr m b o = 2 := by
  unfold colr; split <;> (try split) <;> simp
theorem letter_at (c : Int) (h : c = 0 ∨ c = 1 ∨ c = 2) : 0 ≤ c ∧ c < 3 ∧ [T.str ⟨#[119]⟩, .str ⟨#[103]⟩, .str ⟨#[98]⟩][c.toNat]? = some (.str (letter c)) := by
  rcases h with rfl | rfl | rfl <;> exact ⟨by decide, by decide, rfl⟩
def lim (n : Int) : Nat := (min (max n 0) 64).toNat
def c25 : List T → Ans
  | [.agg [.int .u64 m, .int .u64 b], .int .i64 n] => .yes (.str (txt (bv m) (bv b) (lim n)))
  | _ => .no
theorem ok25 (m b n : Int) : FnOk Tryd.prog tgl 25 [.agg [.int .u64 m, .int .u64 b], .int .i64 n] (.str (txt (bv m) (bv b) (lim n))) := by
  refine fn_ok (Γ := e7) env7 Tryd.func25 low25 ?_
  have hlim : minI (maxI n 0) 64 = (lim n : Int) := by rw [minI_def, maxI_def, lim]; omega
  conv => whnf
  refine loopAt [6, 11, 12, 13, 14, 15, 16, 17, 18, 19, 20, 21] [] (fun k : Nat => ⟨[.t (.agg [.int .u64 m, .int .u64 b]), .t (.int .i64 n), .ptr 66 0, .dead, .t (.str ⟨#[]⟩), .t (.str (txt (bv m) (bv b) k)), .dead, .t (.int .i64 n),
     .t (.int .i64 (maxI n 0)), .t (.int .i64 (minI (maxI n 0) 64)), .t (.int .i64 (k : Int)), .dead, .dead, .dead, .dead, .dead, .dead, .dead, .dead, .dead, .dead, .dead, .dead], [(66, .cells [.t (.int .u64 m), .t (.int .u64 b)])]⟩)
    (fun k => k ≤ lim n) (fun k => 64 - k) 0 (Nat.zero_le _) rfl fun k hk C hC => ?_
  have hl : lim n ≤ 64 := by unfold lim; omega
  conv => whnf
  repeat' (first | (refine brK_true (by assumption) ?_; conv => whnf) | (refine brK_false (by assumption) ?_; conv => whnf) | (refine brK_of (fun h => ?_) (fun h => ?_) <;> conv => whnf) | (refine reqK_of ?_ ?_; rotate_left; (conv => whnf); rotate_left))
  · rw [hlim, lt_t] at h
    have h64 : IntKind.i64.wrap ((k : Int) + 1) = (k : Int) + 1 := wrap_i64 ⟨by omega, by omega⟩
    rw [h64]
    obtain ⟨g1, g2, g3⟩ := letter_at _ (colr_cases (bv m) (bv b) ((k : Int) + 1))
    refine nthK_of _ g1 g3 ?_
    conv => whnf
    repeat' (first | (refine brK_true (by assumption) ?_; conv => whnf) | (refine brK_false (by assumption) ?_; conv => whnf) | (refine brK_of (fun h => ?_) (fun h => ?_) <;> conv => whnf) | (refine reqK_of ?_ ?_; rotate_left; (conv => whnf); rotate_left))
    · exact g2
    · rw [txt_size, letter_size]; omega
    · refine loopC (hC (k + 1) (by omega) (by omega)) ?_
      rw [h64]; rfl
  · rw [hlim, lt_f] at h
    rw [show k = lim n by omega]
theorem got25 {vs : List T} {x : T} (h : Got (c25 vs) x) : FnOk Tryd.prog tgl 25 vs x := by
  unfold c25 at h
  split at h
  · rw [got_yes h]; exact ok25 _ _ _
  · exact (got_no h).elim
def c26 : List T → Ans
  | [.agg [.int .u64 m, .int .u64 b], .int .i64 n] => .req (R64 m ∧ R64 b) (.str (txt (bv m) (bv b) (lim n)))
  | _ => .no
theorem ok26 (m b n : Int) (hq : R64 m ∧ R64 b) : FnOk Tryd.prog tgl 26 [.agg [.int .u64 m, .int .u64 b], .int .i64 n] (.str (txt (bv m) (bv b) (lim n))) := by
  refine fn_ok (Γ := e7) env7 Tryd.func26 low26 ?_
  conv => whnf
  refine loopAt [7, 8, 9, 10, 11, 12, 13, 14, 15, 16, 17, 18, 19, 20, 21, 22, 23] [] (fun k : Nat => ⟨[.t (.agg [.int .u64 m, .int .u64 b]), .t (.int .i64 n), .ptr 66 0, .dead, .t (.str ⟨#[]⟩), .t (.str (txt (bv m) (bv b) k)), .t (.int .i64 ((k : Int) + 1)),
     .dead, .dead, .dead, .dead, .dead, .dead, .dead, .dead, .dead, .dead, .dead, .dead, .dead, .dead, .dead, .dead, .dead, .dead], [(66, .cells [.t (.int .u64 m), .t (.int .u64 b)])]⟩)
    (fun k => k ≤ 64 ∧ (k = 0 ∨ (k : Int) ≤ n)) (fun k => 64 - k) 0 (by omega) rfl fun k hk C hC => ?_
  conv => whnf
  repeat' (first | (refine brK_true (by assumption) ?_; conv => whnf) | (refine brK_false (by assumption) ?_; conv => whnf) | (refine brK_of (fun h => ?_) (fun h => ?_) <;> conv => whnf) | (refine reqK_of ?_ ?_; rotate_left; (conv => whnf); rotate_left))
  · exact hq
  · rename_i h'
    rw [le_t] at h h'
    obtain ⟨g1, g2, g3⟩ := letter_at _ (colr_cases (bv m) (bv b) ((k : Int) + 1))
    refine nthK_of _ g1 g3 ?_
    conv => whnf
    repeat' (first | (refine brK_true (by assumption) ?_; conv => whnf) | (refine brK_false (by assumption) ?_; conv => whnf) | (refine brK_of (fun h => ?_) (fun h => ?_) <;> conv => whnf) | (refine reqK_of ?_ ?_; rotate_left; (conv => whnf); rotate_left))
    · rw [txt_size, letter_size]; omega
    · refine loopC (hC (k + 1) (by omega) (by omega)) ?_
      rw [wrap_i64 ⟨by omega, by omega⟩]; rfl
  · rename_i h'
    rw [le_t] at h'
    rw [le_f] at h
    rw [show k = lim n by unfold lim; omega]
  · rw [le_f] at h
    rw [show k = lim n by unfold lim; omega]
theorem got26 {vs : List T} {x : T} (h : Got (c26 vs) x) : FnOk Tryd.prog tgl 26 vs x := by
  unfold c26 at h
  split at h
  · obtain ⟨hq, e⟩ := got_req h; rw [e]; exact ok26 _ _ _ hq
  · exact (got_no h).elim
def l8 : List (Nat × (List T → Ans)) := (25, c25) :: (26, c26) :: l7
def e8 : Env := ⟨ansL l8, tgl⟩
theorem env8 : EnvOk Tryd.prog e8 := (env_cons (env_cons env7 fun _ _ => got26) fun _ _ => got25)
end Go.Mx
