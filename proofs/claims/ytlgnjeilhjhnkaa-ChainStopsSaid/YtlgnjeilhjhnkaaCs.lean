/-
  Whatever the input, ChainVersions answers true (each swap that is done makes a head's version one more); so does ChainStops (who stops stops others not).
-/
import Derived.Test.YtlgnjeilhjhnkaaCr
import Derived.Test.YtlgnjeilhjhnkaaCk
set_option linter.unusedVariables false
namespace Go.Proofs.Ytlgnjeilhjhnkaa
open Go.ChangeShapes Go.WideShapes Go.ChangeAt Go.RowKit Go.Nx
/-- What ChainVersions asks of its arguments, it has of any. -/
theorem hok4 : ∀ xs, FitsAll [(.sl 1 1 (.int .u8))] xs → FnOk Try.prog tgl 4 xs (.bool true) := by
  intro xs hx
  obtain ⟨x0, r0, rfl, f0, hx0⟩ := hx
  obtain ⟨y0, e, b0, hf0⟩ := f0; cases e
  obtain ⟨l0, rfl, h0⟩ := fits_bs hf0
  rw [bs_len] at b0
  have ehx := hx0; unfold FitsAll at ehx; subst ehx
  exact ok4 _ ⟨⟨_, rfl, h0⟩, by unfold Szb maxBytes; rw [bs_len]; omega⟩
def wit4 : Array Value := #[.slice none 0 0]
theorem reads4 (os : Os) {H : Type} (enc : TypeId × Value → H) : ∃ places, DataW.whole enc Try.prog ((World.holding Try.prog os ⟨#[], #[], []⟩).forCall (fun _ _ => 0) ⟨#[], wit4, []⟩).memory Try.f4.params.toList Rows.chainVersionsSpec.vars false wit4.toList 8 = some ([.nil], [], places) :=
  ⟨[], by kernel_rfl⟩
set_option maxRecDepth 100000 in
theorem lifted4 (os : Os) (started : os.Started) (H : Type) (enc : TypeId × Value → H) (F : Stop.Interp) :
    ReturnsInHanded {} Try.checked os 4 .any ((OpenSpec.ofChange Rows.chainVersionsSpec).preRow enc Try.prog Try.f4 Rows.chainVersionsRow.domain false Rows.chainVersionsRow.laid) (((OpenSpec.ofChange Rows.chainVersionsSpec).at F).post enc Try.prog Try.f4 false true false false) := by
  obtain ⟨places, hx⟩ := reads4 os enc
  refine returnsInHanded_of_row (C := Try.checked) (s := OpenSpec.ofChange Rows.chainVersionsSpec) own started (by kernel_rfl) Try.func4
    (witness_row_at (enc := enc) (C := Try.checked) false (World.holding Try.prog os ⟨#[], #[], []⟩) wit4 rfl (by kernel_rfl) (by kernel_rfl) (by kernel_rfl)
      (OpenSpec.preRow_of_cond 8 hx (by kernel_rfl) (fun k hk => by cases hk) (by kernel_rfl) (laidMet_of_run' 8 (by kernel_rfl) (by kernel_rfl)))) ?_
  intro W base args ds gs before hval hW _ _ hwt hL _ _
  refine law_calls (shs := [(.sl 1 1 (.int .u8))]) (by kernel_rfl) hok4 glOk_none laidOut (by kernel_rfl) rfl (by kernel_rfl) rfl (fun ds hd => ?_) hval hW hwt
  match ds, hd with
  | [d0], _ => exact ⟨rfl, rfl, rfl⟩
/-- THE LAW. -/
theorem chainVersions : Rows.ChainVersionsSaid :=
  OpenClaim.holds_of_cond 4 Try.f4 rfl rfl rfl rfl rfl rfl rfl ⟨rfl, rfl, rfl, rfl, rfl⟩ rfl rfl rfl rfl rfl (by kernel_rfl) Try.func4 (by kernel_rfl)
    (of_decide_eq_true (by kernel_rfl)) (by unfold Func.isWrapper; first | (rw [if_pos (by decide +kernel)]; kernel_rfl) | (rw [if_neg (by decide +kernel)]; exact ⟨rfl, rfl⟩))
    (fun os started H enc _ F => by rw [OpenClaim.pre_eq_preRow]; exact lifted4 os started H enc F)
#print axioms chainVersions
/-- What ChainStops asks of its arguments, it has of any. -/
theorem hok6 : ∀ xs, FitsAll [(.sl 1 1 (.int .u8)), (.int .u8)] xs → FnOk Try.prog tgl 6 xs (.bool true) := by
  intro xs hx
  obtain ⟨x0, r0, rfl, f0, hx0⟩ := hx
  obtain ⟨y0, e, b0, hf0⟩ := f0; cases e
  obtain ⟨l0, rfl, h0⟩ := fits_bs hf0
  rw [bs_len] at b0
  obtain ⟨x1, r1, rfl, f1, hx1⟩ := hx0
  obtain ⟨n1, e, wf1⟩ := f1; cases e
  have w1 := wf_u8 wf1
  have ehx := hx1; unfold FitsAll at ehx; subst ehx
  exact ok6 _ _ ⟨⟨⟨_, rfl, h0⟩, by unfold Szb maxBytes; rw [bs_len]; omega⟩, w1⟩
def wit6 : Array Value := #[.slice none 0 0, .int .u8 0]
theorem reads6 (os : Os) {H : Type} (enc : TypeId × Value → H) : ∃ places, DataW.whole enc Try.prog ((World.holding Try.prog os ⟨#[], #[], []⟩).forCall (fun _ _ => 0) ⟨#[], wit6, []⟩).memory Try.f6.params.toList Rows.chainStopsSpec.vars false wit6.toList 8 = some ([.nil, .lit (.int .u8 0)], [], places) :=
  ⟨[], by kernel_rfl⟩
set_option maxRecDepth 100000 in
theorem lifted6 (os : Os) (started : os.Started) (H : Type) (enc : TypeId × Value → H) (F : Stop.Interp) :
    ReturnsInHanded {} Try.checked os 6 .any ((OpenSpec.ofChange Rows.chainStopsSpec).preRow enc Try.prog Try.f6 Rows.chainStopsRow.domain false Rows.chainStopsRow.laid) (((OpenSpec.ofChange Rows.chainStopsSpec).at F).post enc Try.prog Try.f6 false true false false) := by
  obtain ⟨places, hx⟩ := reads6 os enc
  refine returnsInHanded_of_row (C := Try.checked) (s := OpenSpec.ofChange Rows.chainStopsSpec) own started (by kernel_rfl) Try.func6
    (witness_row_at (enc := enc) (C := Try.checked) false (World.holding Try.prog os ⟨#[], #[], []⟩) wit6 rfl (by kernel_rfl) (by kernel_rfl) (by kernel_rfl)
      (OpenSpec.preRow_of_cond 8 hx (by kernel_rfl) (fun k hk => by cases hk) (by kernel_rfl) (laidMet_of_run' 8 (by kernel_rfl) (by kernel_rfl)))) ?_
  intro W base args ds gs before hval hW _ _ hwt hL _ _
  refine law_calls (shs := [(.sl 1 1 (.int .u8)), (.int .u8)]) (by kernel_rfl) hok6 glOk_none laidOut (by kernel_rfl) rfl (by kernel_rfl) rfl (fun ds hd => ?_) hval hW hwt
  match ds, hd with
  | [d0, d1], _ => exact ⟨rfl, rfl, rfl⟩
/-- THE LAW. -/
theorem chainStops : Rows.ChainStopsSaid :=
  OpenClaim.holds_of_cond 6 Try.f6 rfl rfl rfl rfl rfl rfl rfl ⟨rfl, rfl, rfl, rfl, rfl⟩ rfl rfl rfl rfl rfl (by kernel_rfl) Try.func6 (by kernel_rfl)
    (of_decide_eq_true (by kernel_rfl)) (by unfold Func.isWrapper; first | (rw [if_pos (by decide +kernel)]; kernel_rfl) | (rw [if_neg (by decide +kernel)]; exact ⟨rfl, rfl⟩))
    (fun os started H enc _ F => by rw [OpenClaim.pre_eq_preRow]; exact lifted6 os started H enc F)
#print axioms chainStops
end Go.Proofs.Ytlgnjeilhjhnkaa
