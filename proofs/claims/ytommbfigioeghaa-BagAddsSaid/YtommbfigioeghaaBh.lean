/-
  Whatever the input, BagSame answers true: to be the same is one: of itself, either way, by what is between; one more is not the same.
-/
import Derived.Test.YtommbfigioeghaaBg
import Derived.Test.YtommbfigioeghaaYe
import Derived.Test.YtommbfigioeghaaRows
import Derived.WalkKit
import Derived.OpenShut
import Derived.Deep.DeepHandedRow
set_option linter.unusedVariables false
namespace Go.Proofs.Ytommbfigioeghaa
open Go.ChangeShapes Go.WideShapes Go.ChangeAt Go.RowKit Go.Nx

theorem own : ownKnob Try.prog.godebug = none := by kernel_rfl
theorem laidOut : laidOutB Try.prog = true := by kernel_rfl
/-- What BagSame asks of its arguments, it has of any. -/
theorem hok9 : ∀ xs, FitsAll [(.sl 1 8 (.int .i64)), (.sl 1 8 (.int .i64)), (.sl 1 8 (.int .i64)), (.int .i64)] xs → FnOk Try.prog tgl 9 xs (.bool true) := by
  intro xs hx
  obtain ⟨x0, r0, rfl, f0, hx0⟩ := hx
  obtain ⟨y0, e, b0, hf0⟩ := f0; cases e
  obtain ⟨l0, rfl, h0⟩ := fits_is hf0
  rw [is_len] at b0
  obtain ⟨x1, r1, rfl, f1, hx1⟩ := hx0
  obtain ⟨y1, e, b1, hf1⟩ := f1; cases e
  obtain ⟨l1, rfl, h1⟩ := fits_is hf1
  rw [is_len] at b1
  obtain ⟨x2, r2, rfl, f2, hx2⟩ := hx1
  obtain ⟨y2, e, b2, hf2⟩ := f2; cases e
  obtain ⟨l2, rfl, h2⟩ := fits_is hf2
  rw [is_len] at b2
  obtain ⟨x3, r3, rfl, f3, hx3⟩ := hx2
  obtain ⟨n3, e, wf3⟩ := f3; cases e
  have w3 := wf_i64 wf3
  have ehx := hx3; unfold FitsAll at ehx; subst ehx
  exact ok9 _ _ _ _ ⟨⟨⟨⟨_, rfl, h0⟩, by unfold SzA; rw [is_len]; omega⟩, ⟨⟨_, rfl, h1⟩, by unfold SzA; rw [is_len]; omega⟩, ⟨_, rfl, h2⟩, by unfold SzA; rw [is_len]; omega⟩, w3⟩
def wit9 : Array Value := #[.slice none 0 0, .slice none 0 0, .slice none 0 0, .int .i64 0]
theorem reads9 (os : Os) {H : Type} (enc : TypeId × Value → H) : ∃ places, DataW.whole enc Try.prog ((World.holding Try.prog os ⟨#[], #[], []⟩).forCall (fun _ _ => 0) ⟨#[], wit9, []⟩).memory Try.f9.params.toList Rows.bagSameSpec.vars false wit9.toList 8 = some ([.nil, .nil, .nil, .lit (.int .i64 0)], [], places) :=
  ⟨[], by kernel_rfl⟩
set_option maxRecDepth 100000 in
theorem lifted9 (os : Os) (started : os.Started) (H : Type) (enc : TypeId × Value → H) (F : Stop.Interp) :
    ReturnsInHanded {} Try.checked os 9 .any ((OpenSpec.ofChange Rows.bagSameSpec).preRow enc Try.prog Try.f9 Rows.bagSameRow.domain false Rows.bagSameRow.laid) (((OpenSpec.ofChange Rows.bagSameSpec).at F).post enc Try.prog Try.f9 false true false false) := by
  obtain ⟨places, hx⟩ := reads9 os enc
  refine returnsInHanded_of_row (C := Try.checked) (s := OpenSpec.ofChange Rows.bagSameSpec) own started (by kernel_rfl) Try.func9
    (witness_row_at (enc := enc) (C := Try.checked) false (World.holding Try.prog os ⟨#[], #[], []⟩) wit9 rfl (by kernel_rfl) (by kernel_rfl) (by kernel_rfl)
      (OpenSpec.preRow_of_cond 8 hx (by kernel_rfl) (fun k hk => by cases hk) (by kernel_rfl) (laidMet_of_run' 8 (by kernel_rfl) (by kernel_rfl)))) ?_
  intro W base args ds gs before hval hW _ _ hwt hL _ _
  refine law_calls (shs := [(.sl 1 8 (.int .i64)), (.sl 1 8 (.int .i64)), (.sl 1 8 (.int .i64)), (.int .i64)]) (by kernel_rfl) hok9 glOk_none laidOut (by kernel_rfl) rfl (by kernel_rfl) rfl (fun ds hd => ?_) hval hW hwt
  match ds, hd with
  | [d0, d1, d2, d3], _ => exact ⟨rfl, rfl, rfl⟩
/-- THE LAW. -/
theorem bagSame : Rows.BagSameSaid :=
  OpenClaim.holds_of_cond 9 Try.f9 rfl rfl rfl rfl rfl rfl rfl ⟨rfl, rfl, rfl, rfl, rfl⟩ rfl rfl rfl rfl rfl (by kernel_rfl) Try.func9 (by kernel_rfl)
    (of_decide_eq_true (by kernel_rfl)) (by unfold Func.isWrapper; first | (rw [if_pos (by decide +kernel)]; kernel_rfl) | (rw [if_neg (by decide +kernel)]; exact ⟨rfl, rfl⟩))
    (fun os started H enc _ F => by rw [OpenClaim.pre_eq_preRow]; exact lifted9 os started H enc F)
#print axioms bagSame
end Go.Proofs.Ytommbfigioeghaa
