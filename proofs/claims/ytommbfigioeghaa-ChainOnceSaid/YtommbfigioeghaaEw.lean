/-
  Whatever the input, ChainOnce answers true: whatever the schedule, at each step each node is in one list, or somebody has it: once.
-/
import Derived.Test.YtommbfigioeghaaEv
import Derived.Test.YtommbfigioeghaaYe
import Derived.Test.YtommbfigioeghaaRows
import Derived.WalkKit
import Derived.OpenShut
import Derived.Deep.DeepHandedRow
set_option linter.unusedVariables false
namespace Go.Proofs.Ytommbfigioeghaa
open Go.ChangeShapes Go.WideShapes Go.ChangeAt Go.RowKit Go.Nx

theorem own : ownKnob Try.prog.godebug = none := by kernel_rfl
theorem laidOut : laidOutB Try.prog = true := by kernel_rfl
/-- What ChainOnce asks of its arguments, it has of any. -/
theorem hok3 : ∀ xs, FitsAll [(.sl 1 1 (.int .u8))] xs → FnOk Try.prog tgl 3 xs (.bool true) := by
  intro xs hx
  obtain ⟨x0, r0, rfl, f0, hx0⟩ := hx
  obtain ⟨y0, e, b0, hf0⟩ := f0; cases e
  obtain ⟨l0, rfl, h0⟩ := fits_bs hf0
  rw [bs_len] at b0
  have ehx := hx0; unfold FitsAll at ehx; subst ehx
  exact ok3 _ ⟨⟨_, rfl, h0⟩, by unfold Szb maxBytes; rw [bs_len]; omega⟩
def wit3 : Array Value := #[.slice none 0 0]
theorem reads3 (os : Os) {H : Type} (enc : TypeId × Value → H) : ∃ places, DataW.whole enc Try.prog ((World.holding Try.prog os ⟨#[], #[], []⟩).forCall (fun _ _ => 0) ⟨#[], wit3, []⟩).memory Try.f3.params.toList Rows.chainOnceSpec.vars false wit3.toList 8 = some ([.nil], [], places) :=
  ⟨[], by kernel_rfl⟩
set_option maxRecDepth 100000 in
theorem lifted3 (os : Os) (started : os.Started) (H : Type) (enc : TypeId × Value → H) (F : Stop.Interp) :
    ReturnsInHanded {} Try.checked os 3 .any ((OpenSpec.ofChange Rows.chainOnceSpec).preRow enc Try.prog Try.f3 Rows.chainOnceRow.domain false Rows.chainOnceRow.laid) (((OpenSpec.ofChange Rows.chainOnceSpec).at F).post enc Try.prog Try.f3 false true false false) := by
  obtain ⟨places, hx⟩ := reads3 os enc
  refine returnsInHanded_of_row (C := Try.checked) (s := OpenSpec.ofChange Rows.chainOnceSpec) own started (by kernel_rfl) Try.func3
    (witness_row_at (enc := enc) (C := Try.checked) false (World.holding Try.prog os ⟨#[], #[], []⟩) wit3 rfl (by kernel_rfl) (by kernel_rfl) (by kernel_rfl)
      (OpenSpec.preRow_of_cond 8 hx (by kernel_rfl) (fun k hk => by cases hk) (by kernel_rfl) (laidMet_of_run' 8 (by kernel_rfl) (by kernel_rfl)))) ?_
  intro W base args ds gs before hval hW _ _ hwt hL _ _
  refine law_calls (shs := [(.sl 1 1 (.int .u8))]) (by kernel_rfl) hok3 glOk_none laidOut (by kernel_rfl) rfl (by kernel_rfl) rfl (fun ds hd => ?_) hval hW hwt
  match ds, hd with
  | [d0], _ => exact ⟨rfl, rfl, rfl⟩
/-- THE LAW. -/
theorem chainOnce : Rows.ChainOnceSaid :=
  OpenClaim.holds_of_cond 3 Try.f3 rfl rfl rfl rfl rfl rfl rfl ⟨rfl, rfl, rfl, rfl, rfl⟩ rfl rfl rfl rfl rfl (by kernel_rfl) Try.func3 (by kernel_rfl)
    (of_decide_eq_true (by kernel_rfl)) (by unfold Func.isWrapper; first | (rw [if_pos (by decide +kernel)]; kernel_rfl) | (rw [if_neg (by decide +kernel)]; exact ⟨rfl, rfl⟩))
    (fun os started H enc _ F => by rw [OpenClaim.pre_eq_preRow]; exact lifted3 os started H enc F)
#print axioms chainOnce
end Go.Proofs.Ytommbfigioeghaa
