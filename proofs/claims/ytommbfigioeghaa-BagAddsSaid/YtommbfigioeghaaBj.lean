/-
  Whatever the input, BagAdds answers true: one that is added so often is there so much more often; taken out again it is as it was; more than are there can't be taken.
-/
import Derived.Test.YtommbfigioeghaaBi
import Derived.Test.YtommbfigioeghaaBh
set_option linter.unusedVariables false
namespace Go.Proofs.Ytommbfigioeghaa
open Go.ChangeShapes Go.WideShapes Go.ChangeAt Go.RowKit Go.Nx
/-- What BagAdds asks of its arguments, it has of any. -/
theorem hok8 : ∀ xs, FitsAll [(.sl 1 8 (.int .i64)), (.int .i64), (.int .u8)] xs → FnOk Try.prog tgl 8 xs (.bool true) := by
  intro xs hx
  obtain ⟨x0, r0, rfl, f0, hx0⟩ := hx
  obtain ⟨y0, e, b0, hf0⟩ := f0; cases e
  obtain ⟨l0, rfl, h0⟩ := fits_is hf0
  rw [is_len] at b0
  obtain ⟨x1, r1, rfl, f1, hx1⟩ := hx0
  obtain ⟨n1, e, wf1⟩ := f1; cases e
  have w1 := wf_i64 wf1
  obtain ⟨x2, r2, rfl, f2, hx2⟩ := hx1
  obtain ⟨n2, e, wf2⟩ := f2; cases e
  have w2 := wf_u8 wf2
  have ehx := hx2; unfold FitsAll at ehx; subst ehx
  exact ok8 _ _ _ ⟨⟨⟨⟨_, rfl, h0⟩, by unfold SzA; rw [is_len]; omega⟩, w1⟩, w2⟩
def wit8 : Array Value := #[.slice none 0 0, .int .i64 0, .int .u8 0]
theorem reads8 (os : Os) {H : Type} (enc : TypeId × Value → H) : ∃ places, DataW.whole enc Try.prog ((World.holding Try.prog os ⟨#[], #[], []⟩).forCall (fun _ _ => 0) ⟨#[], wit8, []⟩).memory Try.f8.params.toList Rows.bagAddsSpec.vars false wit8.toList 8 = some ([.nil, .lit (.int .i64 0), .lit (.int .u8 0)], [], places) :=
  ⟨[], by kernel_rfl⟩
set_option maxRecDepth 100000 in
theorem lifted8 (os : Os) (started : os.Started) (H : Type) (enc : TypeId × Value → H) (F : Stop.Interp) :
    ReturnsInHanded {} Try.checked os 8 .any ((OpenSpec.ofChange Rows.bagAddsSpec).preRow enc Try.prog Try.f8 Rows.bagAddsRow.domain false Rows.bagAddsRow.laid) (((OpenSpec.ofChange Rows.bagAddsSpec).at F).post enc Try.prog Try.f8 false true false false) := by
  obtain ⟨places, hx⟩ := reads8 os enc
  refine returnsInHanded_of_row (C := Try.checked) (s := OpenSpec.ofChange Rows.bagAddsSpec) own started (by kernel_rfl) Try.func8
    (witness_row_at (enc := enc) (C := Try.checked) false (World.holding Try.prog os ⟨#[], #[], []⟩) wit8 rfl (by kernel_rfl) (by kernel_rfl) (by kernel_rfl)
      (OpenSpec.preRow_of_cond 8 hx (by kernel_rfl) (fun k hk => by cases hk) (by kernel_rfl) (laidMet_of_run' 8 (by kernel_rfl) (by kernel_rfl)))) ?_
  intro W base args ds gs before hval hW _ _ hwt hL _ _
  refine law_calls (shs := [(.sl 1 8 (.int .i64)), (.int .i64), (.int .u8)]) (by kernel_rfl) hok8 glOk_none laidOut (by kernel_rfl) rfl (by kernel_rfl) rfl (fun ds hd => ?_) hval hW hwt
  match ds, hd with
  | [d0, d1, d2], _ => exact ⟨rfl, rfl, rfl⟩
/-- THE LAW. -/
theorem bagAdds : Rows.BagAddsSaid :=
  OpenClaim.holds_of_cond 8 Try.f8 rfl rfl rfl rfl rfl rfl rfl ⟨rfl, rfl, rfl, rfl, rfl⟩ rfl rfl rfl rfl rfl (by kernel_rfl) Try.func8 (by kernel_rfl)
    (of_decide_eq_true (by kernel_rfl)) (by unfold Func.isWrapper; first | (rw [if_pos (by decide +kernel)]; kernel_rfl) | (rw [if_neg (by decide +kernel)]; exact ⟨rfl, rfl⟩))
    (fun os started H enc _ F => by rw [OpenClaim.pre_eq_preRow]; exact lifted8 os started H enc F)
#print axioms bagAdds
end Go.Proofs.Ytommbfigioeghaa
