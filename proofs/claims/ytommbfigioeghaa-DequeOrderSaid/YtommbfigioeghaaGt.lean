/-
  Whatever the input, DequeOrder answers true: whatever the schedule, who steals gets them in the order in which they were pushed.
-/
import Derived.Test.YtommbfigioeghaaGs
import Derived.Test.YtommbfigioeghaaYe
import Derived.Test.YtommbfigioeghaaRows
import Derived.WalkKit
import Derived.OpenShut
import Derived.Deep.DeepHandedRow
set_option linter.unusedVariables false
namespace Go.Proofs.Ytommbfigioeghaa
open Go.ChangeShapes Go.WideShapes Go.ChangeAt Go.RowKit Go.Nx

theorem own : ownKnob Try.prog.godebug = none := by kernel_rfl
theorem laidOut : laidOutB Try.prog = true := by kernel_rfl
/-- What DequeOrder asks of its arguments, it has of any. -/
theorem hok11 : ∀ xs, FitsAll [(.int .u8), (.sl 1 1 (.int .u8))] xs → FnOk Try.prog tgl 11 xs (.bool true) := by
  intro xs hx
  obtain ⟨x0, r0, rfl, f0, hx0⟩ := hx
  obtain ⟨n0, e, wf0⟩ := f0; cases e
  have w0 := wf_u8 wf0
  obtain ⟨x1, r1, rfl, f1, hx1⟩ := hx0
  obtain ⟨y1, e, b1, hf1⟩ := f1; cases e
  obtain ⟨l1, rfl, h1⟩ := fits_bs hf1
  rw [bs_len] at b1
  have ehx := hx1; unfold FitsAll at ehx; subst ehx
  exact Gs.ok11 _ _ ⟨w0, ⟨⟨_, rfl, h1⟩, by unfold Szb8 maxBytes; rw [bs_len]; omega⟩⟩
def wit11 : Array Value := #[.int .u8 0, .slice none 0 0]
theorem reads11 (os : Os) {H : Type} (enc : TypeId × Value → H) : ∃ places, DataW.whole enc Try.prog ((World.holding Try.prog os ⟨#[], #[], []⟩).forCall (fun _ _ => 0) ⟨#[], wit11, []⟩).memory Try.f11.params.toList Rows.dequeOrderSpec.vars false wit11.toList 8 = some ([.lit (.int .u8 0), .nil], [], places) :=
  ⟨[], by kernel_rfl⟩
set_option maxRecDepth 100000 in
theorem lifted11 (os : Os) (started : os.Started) (H : Type) (enc : TypeId × Value → H) (F : Stop.Interp) :
    ReturnsInHanded {} Try.checked os 11 .any ((OpenSpec.ofChange Rows.dequeOrderSpec).preRow enc Try.prog Try.f11 Rows.dequeOrderRow.domain false Rows.dequeOrderRow.laid) (((OpenSpec.ofChange Rows.dequeOrderSpec).at F).post enc Try.prog Try.f11 false true false false) := by
  obtain ⟨places, hx⟩ := reads11 os enc
  refine returnsInHanded_of_row (C := Try.checked) (s := OpenSpec.ofChange Rows.dequeOrderSpec) own started (by kernel_rfl) Try.func11
    (witness_row_at (enc := enc) (C := Try.checked) false (World.holding Try.prog os ⟨#[], #[], []⟩) wit11 rfl (by kernel_rfl) (by kernel_rfl) (by kernel_rfl)
      (OpenSpec.preRow_of_cond 8 hx (by kernel_rfl) (fun k hk => by cases hk) (by kernel_rfl) (laidMet_of_run' 8 (by kernel_rfl) (by kernel_rfl)))) ?_
  intro W base args ds gs before hval hW _ _ hwt hL _ _
  refine law_calls (shs := [(.int .u8), (.sl 1 1 (.int .u8))]) (by kernel_rfl) hok11 glOk_none laidOut (by kernel_rfl) rfl (by kernel_rfl) rfl (fun ds hd => ?_) hval hW hwt
  match ds, hd with
  | [d0, d1], _ => exact ⟨rfl, rfl, rfl⟩
/-- THE LAW. -/
theorem dequeOrder : Rows.DequeOrderSaid :=
  OpenClaim.holds_of_cond 11 Try.f11 rfl rfl rfl rfl rfl rfl rfl ⟨rfl, rfl, rfl, rfl, rfl⟩ rfl rfl rfl rfl rfl (by kernel_rfl) Try.func11 (by kernel_rfl)
    (of_decide_eq_true (by kernel_rfl)) (by unfold Func.isWrapper; first | (rw [if_pos (by decide +kernel)]; kernel_rfl) | (rw [if_neg (by decide +kernel)]; exact ⟨rfl, rfl⟩))
    (fun os started H enc _ F => by rw [OpenClaim.pre_eq_preRow]; exact lifted11 os started H enc F)
#print axioms dequeOrder
end Go.Proofs.Ytommbfigioeghaa
