/-
  Whatever the input, BagNorm answers true: a bag, normed, rises, and is the same; in another order it is the same, and so are all that is told of it.
-/
import Derived.Test.YtommbfigioeghaaBn
import Derived.Test.YtommbfigioeghaaBh
set_option linter.unusedVariables false
namespace Go.Proofs.Ytommbfigioeghaa
open Go.ChangeShapes Go.WideShapes Go.ChangeAt Go.RowKit Go.Nx
/-- What BagNorm asks of its arguments, it has of any. -/
theorem hok7 : ∀ xs, FitsAll [(.sl 1 8 (.int .i64)), (.int .i64)] xs → FnOk Try.prog tgl 7 xs (.bool true) := by
  intro xs hx
  obtain ⟨x0, r0, rfl, f0, hx0⟩ := hx
  obtain ⟨y0, e, b0, hf0⟩ := f0; cases e
  obtain ⟨l0, rfl, h0⟩ := fits_is hf0
  rw [is_len] at b0
  obtain ⟨x1, r1, rfl, f1, hx1⟩ := hx0
  obtain ⟨n1, e, wf1⟩ := f1; cases e
  have w1 := wf_i64 wf1
  have ehx := hx1; unfold FitsAll at ehx; subst ehx
  exact ok7 _ _ ⟨⟨⟨_, rfl, h0⟩, by unfold SzA; rw [is_len]; omega⟩, w1⟩
def wit7 : Array Value := #[.slice none 0 0, .int .i64 0]
theorem reads7 (os : Os) {H : Type} (enc : TypeId × Value → H) : ∃ places, DataW.whole enc Try.prog ((World.holding Try.prog os ⟨#[], #[], []⟩).forCall (fun _ _ => 0) ⟨#[], wit7, []⟩).memory Try.f7.params.toList Rows.bagNormSpec.vars false wit7.toList 8 = some ([.nil, .lit (.int .i64 0)], [], places) :=
  ⟨[], by kernel_rfl⟩
set_option maxRecDepth 100000 in
theorem lifted7 (os : Os) (started : os.Started) (H : Type) (enc : TypeId × Value → H) (F : Stop.Interp) :
    ReturnsInHanded {} Try.checked os 7 .any ((OpenSpec.ofChange Rows.bagNormSpec).preRow enc Try.prog Try.f7 Rows.bagNormRow.domain false Rows.bagNormRow.laid) (((OpenSpec.ofChange Rows.bagNormSpec).at F).post enc Try.prog Try.f7 false true false false) := by
  obtain ⟨places, hx⟩ := reads7 os enc
  refine returnsInHanded_of_row (C := Try.checked) (s := OpenSpec.ofChange Rows.bagNormSpec) own started (by kernel_rfl) Try.func7
    (witness_row_at (enc := enc) (C := Try.checked) false (World.holding Try.prog os ⟨#[], #[], []⟩) wit7 rfl (by kernel_rfl) (by kernel_rfl) (by kernel_rfl)
      (OpenSpec.preRow_of_cond 8 hx (by kernel_rfl) (fun k hk => by cases hk) (by kernel_rfl) (laidMet_of_run' 8 (by kernel_rfl) (by kernel_rfl)))) ?_
  intro W base args ds gs before hval hW _ _ hwt hL _ _
  refine law_calls (shs := [(.sl 1 8 (.int .i64)), (.int .i64)]) (by kernel_rfl) hok7 glOk_none laidOut (by kernel_rfl) rfl (by kernel_rfl) rfl (fun ds hd => ?_) hval hW hwt
  match ds, hd with
  | [d0, d1], _ => exact ⟨rfl, rfl, rfl⟩
/-- THE LAW. -/
theorem bagNorm : Rows.BagNormSaid :=
  OpenClaim.holds_of_cond 7 Try.f7 rfl rfl rfl rfl rfl rfl rfl ⟨rfl, rfl, rfl, rfl, rfl⟩ rfl rfl rfl rfl rfl (by kernel_rfl) Try.func7 (by kernel_rfl)
    (of_decide_eq_true (by kernel_rfl)) (by unfold Func.isWrapper; first | (rw [if_pos (by decide +kernel)]; kernel_rfl) | (rw [if_neg (by decide +kernel)]; exact ⟨rfl, rfl⟩))
    (fun os started H enc _ F => by rw [OpenClaim.pre_eq_preRow]; exact lifted7 os started H enc F)
#print axioms bagNorm
end Go.Proofs.Ytommbfigioeghaa
