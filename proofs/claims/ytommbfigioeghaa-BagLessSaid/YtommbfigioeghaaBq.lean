/-
  Whatever the input, BagLess answers true: what is left, and what was taken out, are what was there.
-/
import Derived.Test.YtommbfigioeghaaBp
import Derived.Test.YtommbfigioeghaaYe
import Derived.Test.YtommbfigioeghaaRows
import Derived.WalkKit
import Derived.OpenShut
import Derived.Deep.DeepHandedRow
set_option linter.unusedVariables false
namespace Go.Proofs.Ytommbfigioeghaa
open Go.ChangeShapes Go.WideShapes Go.ChangeAt Go.RowKit Go.Nx

theorem own : ownKnob Try.prog.godebug = none := by kernel_rfl
theorem laidOut : laidOutB Try.prog = true := by kernel_rfl
/-- What BagLess asks of its arguments, it has of any. -/
theorem hok6 : ∀ xs, FitsAll [(.sl 1 8 (.int .i64)), (.sl 1 8 (.int .i64))] xs → FnOk Try.prog tgl 6 xs (.bool true) := by
  intro xs hx
  obtain ⟨x0, r0, rfl, f0, hx0⟩ := hx
  obtain ⟨y0, e, b0, hf0⟩ := f0; cases e
  obtain ⟨l0, rfl, h0⟩ := fits_is hf0
  rw [is_len] at b0
  obtain ⟨x1, r1, rfl, f1, hx1⟩ := hx0
  obtain ⟨y1, e, b1, hf1⟩ := f1; cases e
  obtain ⟨l1, rfl, h1⟩ := fits_is hf1
  rw [is_len] at b1
  have ehx := hx1; unfold FitsAll at ehx; subst ehx
  exact ok6 _ _ ⟨⟨⟨_, rfl, h0⟩, by unfold SzA; rw [is_len]; omega⟩, ⟨_, rfl, h1⟩, by unfold SzA; rw [is_len]; omega⟩
def wit6 : Array Value := #[.slice none 0 0, .slice none 0 0]
theorem reads6 (os : Os) {H : Type} (enc : TypeId × Value → H) : ∃ places, DataW.whole enc Try.prog ((World.holding Try.prog os ⟨#[], #[], []⟩).forCall (fun _ _ => 0) ⟨#[], wit6, []⟩).memory Try.f6.params.toList Rows.bagLessSpec.vars false wit6.toList 8 = some ([.nil, .nil], [], places) :=
  ⟨[], by kernel_rfl⟩
set_option maxRecDepth 100000 in
theorem lifted6 (os : Os) (started : os.Started) (H : Type) (enc : TypeId × Value → H) (F : Stop.Interp) :
    ReturnsInHanded {} Try.checked os 6 .any ((OpenSpec.ofChange Rows.bagLessSpec).preRow enc Try.prog Try.f6 Rows.bagLessRow.domain false Rows.bagLessRow.laid) (((OpenSpec.ofChange Rows.bagLessSpec).at F).post enc Try.prog Try.f6 false true false false) := by
  obtain ⟨places, hx⟩ := reads6 os enc
  refine returnsInHanded_of_row (C := Try.checked) (s := OpenSpec.ofChange Rows.bagLessSpec) own started (by kernel_rfl) Try.func6
    (witness_row_at (enc := enc) (C := Try.checked) false (World.holding Try.prog os ⟨#[], #[], []⟩) wit6 rfl (by kernel_rfl) (by kernel_rfl) (by kernel_rfl)
      (OpenSpec.preRow_of_cond 8 hx (by kernel_rfl) (fun k hk => by cases hk) (by kernel_rfl) (laidMet_of_run' 8 (by kernel_rfl) (by kernel_rfl)))) ?_
  intro W base args ds gs before hval hW _ _ hwt hL _ _
  refine law_calls (shs := [(.sl 1 8 (.int .i64)), (.sl 1 8 (.int .i64))]) (by kernel_rfl) hok6 glOk_none laidOut (by kernel_rfl) rfl (by kernel_rfl) rfl (fun ds hd => ?_) hval hW hwt
  match ds, hd with
  | [d0, d1], _ => exact ⟨rfl, rfl, rfl⟩
/-- THE LAW. -/
theorem bagLess : Rows.BagLessSaid :=
  OpenClaim.holds_of_cond 6 Try.f6 rfl rfl rfl rfl rfl rfl rfl ⟨rfl, rfl, rfl, rfl, rfl⟩ rfl rfl rfl rfl rfl (by kernel_rfl) Try.func6 (by kernel_rfl)
    (of_decide_eq_true (by kernel_rfl)) (by unfold Func.isWrapper; first | (rw [if_pos (by decide +kernel)]; kernel_rfl) | (rw [if_neg (by decide +kernel)]; exact ⟨rfl, rfl⟩))
    (fun os started H enc _ F => by rw [OpenClaim.pre_eq_preRow]; exact lifted6 os started H enc F)
#print axioms bagLess
end Go.Proofs.Ytommbfigioeghaa
