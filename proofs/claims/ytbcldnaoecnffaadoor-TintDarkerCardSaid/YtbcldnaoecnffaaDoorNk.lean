/-
  TINT FRESH.
-/
import Derived.Test.YtbcldnaoecnffaaDoorNi
set_option linter.unusedVariables false
set_option linter.unusedSimpArgs false
set_option maxRecDepth 40000
namespace Go.Mx
open Go.RowKit Go.Proofs

theorem sc_of_sh {m b : B} {o : Int} (h : shOk m b o = true) : scOk (add m o) b o = true := by rw [scOk, (sh_has h).1, (sh_has h).2]; rfl
theorem grey_of_sh {m b : B} {o : Int} (h : shOk m b o = true) : colr (add m o) b o = 1 := by rw [colr, (sh_has h).1, (sh_has h).2]; rfl
theorem sh_obj {m b : B} {o : Int} (h : shOk m b o = true) : obj o = true := by rw [shOk, Bool.and_eq_true, Bool.and_eq_true] at h; exact h.1.1
theorem black_of_sh {m b : B} {o : Int} (h : shOk m b o = true) : colr (add m o) (add b o) o = 2 := by
  rw [colr, (sh_has h).1, has_add, sh_obj h]; simp
def c5 : List T → Ans
  | [.int .u64 a, .int .u64 b, .int .u8 o] => .req (R64 a ∧ R64 b) (.bool true)
  | _ => .no
theorem ok5 (a b o : Int) (hq : R64 a ∧ R64 b) : FnOk Tryd.prog tgl 5 [.int .u64 a, .int .u64 b, .int .u8 o] (.bool true) := by
  refine fn_ok (Γ := eA) envA Tryd.func5 low5 ?_
  obtain ⟨h1, h2⟩ := hq
  obtain ⟨a, rfl⟩ := exists_iv h1
  obtain ⟨b, rfl⟩ := exists_iv h2
  cases hc : shOk a (a &&& b) (IntKind.i64.wrap (o.tmod 66))
  · conv => whnf
    repeat' (first
      | (refine reqK_of ?_ ?_; rotate_left; (conv => whnf); rotate_left)
      | (refine brK_true ?_ ?_; (focus (simp only [bv_iv, eqI_self, hc, sh_no hc, fr_no hc, Bool.and_self, Bool.not_true, Bool.not_false]; done)); conv => whnf)
      | (refine brK_false ?_ ?_; (focus (simp only [bv_iv, eqI_self, hc, sh_no hc, fr_no hc, Bool.and_self, Bool.not_true, Bool.not_false]; done)); conv => whnf))
    all_goals first | exact R_iv _ | exact ⟨R_iv _, R_iv _⟩ | decide | skip
    all_goals trace_state
    all_goals simp only [bv_iv, eqI_self, hc, sh_no hc, fr_no hc, Bool.and_self]
  · conv => whnf
    repeat' (first
      | (refine reqK_of ?_ ?_; rotate_left; (conv => whnf); rotate_left)
      | (refine brK_true ?_ ?_; (focus (simp only [bv_iv, eqI_self, hc, sh_yes hc, fr_yes hc, sc_of_sh hc, sc_yes (sc_of_sh hc), grey_of_sh hc, black_of_sh hc, Bool.and_self, Bool.not_true, Bool.not_false]; done)); conv => whnf)
      | (refine brK_false ?_ ?_; (focus (simp only [bv_iv, eqI_self, hc, sh_yes hc, fr_yes hc, sc_of_sh hc, sc_yes (sc_of_sh hc), grey_of_sh hc, black_of_sh hc, Bool.and_self, Bool.not_true, Bool.not_false]; done)); conv => whnf))
    all_goals first | exact R_iv _ | exact ⟨R_iv _, R_iv _⟩ | decide | skip
    all_goals simp only [bv_iv, eqI_self, hc, sh_yes hc, fr_yes hc, sc_of_sh hc, sc_yes (sc_of_sh hc), grey_of_sh hc, black_of_sh hc, Bool.and_self]
theorem got5 {vs : List T} {x : T} (h : Got (c5 vs) x) : FnOk Tryd.prog tgl 5 vs x := by
  unfold c5 at h
  split at h
  · obtain ⟨hq, e⟩ := got_req h; rw [e]; exact ok5 _ _ _ hq
  · exact (got_no h).elim
end Go.Mx
