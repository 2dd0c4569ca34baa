/-
  Whatever the input, ChainAlone answers true: alone a list is a stack.
-/
import Derived.Test.YtlgnjeilhjhnkaaCx
import Derived.Test.YtlgnjeilhjhnkaaCk
set_option linter.unusedVariables false
namespace Go.Proofs.Ytlgnjeilhjhnkaa
open Go.ChangeShapes Go.WideShapes Go.ChangeAt Go.RowKit Go.Nx
/-- What ChainAlone asks of its arguments, it has of any. -/
theorem hok5 : ∀ xs, FitsAll [(.sl 1 1 (.int .u8))] xs → FnOk Try.prog tgl 5 xs (.bool true) := by
  intro xs hx
  obtain ⟨x0, r0, rfl, f0, hx0⟩ := hx
  obtain ⟨y0, e, b0, hf0⟩ := f0; cases e
  obtain ⟨l0, rfl, h0⟩ := fits_bs hf0
  rw [bs_len] at b0
  have ehx := hx0; unfold FitsAll at ehx; subst ehx
  exact ok5 _ ⟨⟨_, rfl, h0⟩, by unfold Szb maxBytes; rw [bs_len]; omega⟩
def wit5 : Array Value := #[.slice none 0 0]
theorem reads5 (os : Os) {H : Type} (enc : TypeId × Value → H) : ∃ places, DataW.whole enc Try.prog ((World.holding Try.prog os ⟨#[], #[], []⟩).forCall (fun _ _ => 0) ⟨#[], wit5, []⟩).memory Try.f5.params.toList Rows.chainAloneSpec.vars false wit5.toList 8 = some ([.nil], [], places) :=
  ⟨[], by kernel_rfl⟩
set_option maxRecDepth 100000 in
theorem lifted5 (os : Os) (started : os.Started) (H : Type) (enc : TypeId × Value → H) (F : Stop.Interp) :
    ReturnsInHanded {} Try.checked os 5 .any ((OpenSpec.ofChange Rows.chainAloneSpec).preRow enc Try.prog Try.f5 Rows.chainAloneRow.domain false Rows.chainAloneRow.laid) (((OpenSpec.ofChange Rows.chainAloneSpec).at F).post enc Try.prog Try.f5 false true false false) := by
  obtain ⟨places, hx⟩ := reads5 os enc
  refine returnsInHanded_of_row (C := Try.checked) (s := OpenSpec.ofChange Rows.chainAloneSpec) own started (by kernel_rfl) Try.func5
    (witness_row_at (enc := enc) (C := Try.checked) false (World.holding Try.prog os ⟨#[], #[], []⟩) wit5 rfl (by kernel_rfl) (by kernel_rfl) (by kernel_rfl)
      (OpenSpec.preRow_of_cond 8 hx (by kernel_rfl) (fun k hk => by cases hk) (by kernel_rfl) (laidMet_of_run' 8 (by kernel_rfl) (by kernel_rfl)))) ?_
  intro W base args ds gs before hval hW _ _ hwt hL _ _
  refine law_calls (shs := [(.sl 1 1 (.int .u8))]) (by kernel_rfl) hok5 glOk_none laidOut (by kernel_rfl) rfl (by kernel_rfl) rfl (fun ds hd => ?_) hval hW hwt
  match ds, hd with
  | [d0], _ => exact ⟨rfl, rfl, rfl⟩
/-- THE LAW. -/
theorem chainAlone : Rows.ChainAloneSaid :=
  OpenClaim.holds_of_cond 5 Try.f5 rfl rfl rfl rfl rfl rfl rfl ⟨rfl, rfl, rfl, rfl, rfl⟩ rfl rfl rfl rfl rfl (by kernel_rfl) Try.func5 (by kernel_rfl)
    (of_decide_eq_true (by kernel_rfl)) (by unfold Func.isWrapper; first | (rw [if_pos (by decide +kernel)]; kernel_rfl) | (rw [if_neg (by decide +kernel)]; exact ⟨rfl, rfl⟩))
    (fun os started H enc _ F => by rw [OpenClaim.pre_eq_preRow]; exact lifted5 os started H enc F)
#print axioms chainAlone
end Go.Proofs.Ytlgnjeilhjhnkaa
