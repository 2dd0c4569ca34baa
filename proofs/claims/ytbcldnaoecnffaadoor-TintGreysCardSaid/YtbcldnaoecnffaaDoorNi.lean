/-
  TINT TELLS.
-/
import Derived.Test.YtbcldnaoecnffaaDoorNh
set_option linter.unusedVariables false
set_option maxRecDepth 40000
namespace Go.Mx
open Go.RowKit Go.Proofs

theorem eqI_self (a : Int) : eqI a a = true := by rw [eqI_def]; simp
theorem eqS_self (a : ByteArray) : eqS a a = true := by rw [eqS_def]; simp
def c3 : List T → Ans
  | [.agg [.int .u64 m, .int .u64 b], .agg [.int .u64 n, .int .u64 q], .int .i64 o, .int .i64 k] => .req ((R64 m ∧ R64 b) ∧ R64 n ∧ R64 q) (.bool true)
  | _ => .no
theorem ok3 (m b n q o k : Int) (hq : (R64 m ∧ R64 b) ∧ R64 n ∧ R64 q) : FnOk Tryd.prog tgl 3 [.agg [.int .u64 m, .int .u64 b], .agg [.int .u64 n, .int .u64 q], .int .i64 o, .int .i64 k] (.bool true) := by
  refine fn_ok (Γ := eA) envA Tryd.func3 low3 ?_
  obtain ⟨⟨h1, h2⟩, h3, h4⟩ := hq
  obtain ⟨m, rfl⟩ := exists_iv h1
  obtain ⟨b, rfl⟩ := exists_iv h2
  obtain ⟨n, rfl⟩ := exists_iv h3
  obtain ⟨q, rfl⟩ := exists_iv h4
  conv => whnf
  repeat' (first
    | (refine reqK_of ?_ ?_; rotate_left; (conv => whnf); rotate_left)
    | (refine brK_true ?_ ?_; (focus (simp only [bv_iv, eqI_self, eqS_self, Bool.and_self, Bool.not_true, Bool.not_false, beq_self_eq_true]; done)); conv => whnf)
    | (refine brK_false ?_ ?_; (focus (simp only [bv_iv, eqI_self, eqS_self, Bool.and_self, Bool.not_true, Bool.not_false, beq_self_eq_true]; done)); conv => whnf))
  all_goals first | rfl | exact ⟨R_iv _, R_iv _⟩ | exact ⟨⟨R_iv _, R_iv _⟩, R_iv _, R_iv _⟩ | skip
  all_goals simp only [bv_iv, eqI_self, eqS_self]
theorem got3 {vs : List T} {x : T} (h : Got (c3 vs) x) : FnOk Tryd.prog tgl 3 vs x := by
  unfold c3 at h
  split at h
  · obtain ⟨hq, e⟩ := got_req h; rw [e]; exact ok3 _ _ _ _ _ _ hq
  · exact (got_no h).elim
end Go.Mx
