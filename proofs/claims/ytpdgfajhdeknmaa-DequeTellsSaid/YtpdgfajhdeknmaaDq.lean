/-
  Whatever the input, DequeTells answers true: a step is what the chapter says; so are items, and new cells.
-/
import Derived.Test.YtpdgfajhdeknmaaDp
import Derived.Test.YtpdgfajhdeknmaaYe
import Derived.Test.YtpdgfajhdeknmaaRows
import Derived.WalkKit
import Derived.OpenShut
import Derived.Deep.DeepHandedRow
set_option linter.unusedVariables false
namespace Go.Proofs.Ytpdgfajhdeknmaa
open Go.ChangeShapes Go.WideShapes Go.ChangeAt Go.RowKit Go.Nx

theorem own : ownKnob Try.prog.godebug = none := by kernel_rfl
theorem laidOut : laidOutB Try.prog = true := by kernel_rfl
/-- What DequeTells asks of its arguments, it has of any. -/
theorem hok3 : ∀ xs, FitsAll [(.sl 1 8 (.int .u64)), (.st (.fs 1 (.int .i64) (.fs 1 (.int .i64) (.fs 1 (.int .i64) (.fs 1 (.int .i64) (.fs 1 (.int .u64) (.fs 1 (.int .u64) (.fs 1 (.int .i64) (.fs 1 (.int .i64) .fnil))))))))), (.int .i64)] xs → FnOk Try.prog tgl 3 xs (.bool true) := by
  intro xs hx
  obtain ⟨x0, r0, rfl, f0, hx0⟩ := hx
  obtain ⟨y0, e, b0, hf0⟩ := f0; cases e
  obtain ⟨l0, rfl, h0⟩ := fits_us hf0
  rw [us_len] at b0
  obtain ⟨x1, r1, rfl, f1, hx1⟩ := hx0
  obtain ⟨q1, rfl, g1⟩ := f1
  obtain ⟨x1_0, z1_0, rfl, f1_0, g1_0⟩ := fits_fs1 g1
  obtain ⟨n1_0, e, wf1_0⟩ := f1_0; cases e
  have w1_0 := wf_i64 wf1_0
  obtain ⟨x1_1, z1_1, rfl, f1_1, g1_0_1⟩ := fits_fs1 g1_0
  obtain ⟨n1_1, e, wf1_1⟩ := f1_1; cases e
  have w1_1 := wf_i64 wf1_1
  obtain ⟨x1_2, z1_2, rfl, f1_2, g1_0_1_2⟩ := fits_fs1 g1_0_1
  obtain ⟨n1_2, e, wf1_2⟩ := f1_2; cases e
  have w1_2 := wf_i64 wf1_2
  obtain ⟨x1_3, z1_3, rfl, f1_3, g1_0_1_2_3⟩ := fits_fs1 g1_0_1_2
  obtain ⟨n1_3, e, wf1_3⟩ := f1_3; cases e
  have w1_3 := wf_i64 wf1_3
  obtain ⟨x1_4, z1_4, rfl, f1_4, g1_0_1_2_3_4⟩ := fits_fs1 g1_0_1_2_3
  obtain ⟨n1_4, e, wf1_4⟩ := f1_4; cases e
  have w1_4 := wf_u64 wf1_4
  obtain ⟨x1_5, z1_5, rfl, f1_5, g1_0_1_2_3_4_5⟩ := fits_fs1 g1_0_1_2_3_4
  obtain ⟨n1_5, e, wf1_5⟩ := f1_5; cases e
  have w1_5 := wf_u64 wf1_5
  obtain ⟨x1_6, z1_6, rfl, f1_6, g1_0_1_2_3_4_5_6⟩ := fits_fs1 g1_0_1_2_3_4_5
  obtain ⟨n1_6, e, wf1_6⟩ := f1_6; cases e
  have w1_6 := wf_i64 wf1_6
  obtain ⟨x1_7, z1_7, rfl, f1_7, g1_0_1_2_3_4_5_6_7⟩ := fits_fs1 g1_0_1_2_3_4_5_6
  obtain ⟨n1_7, e, wf1_7⟩ := f1_7; cases e
  have w1_7 := wf_i64 wf1_7
  have eg1_0_1_2_3_4_5_6_7 := g1_0_1_2_3_4_5_6_7; unfold Fits at eg1_0_1_2_3_4_5_6_7; subst eg1_0_1_2_3_4_5_6_7
  obtain ⟨x2, r2, rfl, f2, hx2⟩ := hx1
  obtain ⟨n2, e, wf2⟩ := f2; cases e
  have w2 := wf_i64 wf2
  have ehx := hx2; unfold FitsAll at ehx; subst ehx
  try simp only [List.cons_append, List.nil_append, List.append_nil]
  exact Go.Nx.G.ok3 _ _ _ _ _ _ _ _ _ _ ⟨⟨⟨⟨⟨⟨_, rfl, h0⟩, by unfold Sz maxBytes; rw [us_len]; omega⟩, w1_4⟩, w1_2, w1_3⟩, w2⟩, w1_5⟩
def wit3 : Array Value := #[.slice none 0 0, .agg #[.int .i64 0, .int .i64 0, .int .i64 0, .int .i64 0, .int .u64 0, .int .u64 0, .int .i64 0, .int .i64 0], .int .i64 0]
theorem reads3 (os : Os) {H : Type} (enc : TypeId × Value → H) : ∃ places, DataW.whole enc Try.prog ((World.holding Try.prog os ⟨#[], #[], []⟩).forCall (fun _ _ => 0) ⟨#[], wit3, []⟩).memory Try.f3.params.toList Rows.dequeTellsSpec.vars false wit3.toList 8 = some ([.nil, .agg [.lit (.int .i64 0), .lit (.int .i64 0), .lit (.int .i64 0), .lit (.int .i64 0), .lit (.int .u64 0), .lit (.int .u64 0), .lit (.int .i64 0), .lit (.int .i64 0)], .lit (.int .i64 0)], [], places) :=
  ⟨[], by kernel_rfl⟩
set_option maxRecDepth 100000 in
theorem lifted3 (os : Os) (started : os.Started) (H : Type) (enc : TypeId × Value → H) (F : Stop.Interp) :
    ReturnsInHanded {} Try.checked os 3 .any ((OpenSpec.ofChange Rows.dequeTellsSpec).preRow enc Try.prog Try.f3 Rows.dequeTellsRow.domain false Rows.dequeTellsRow.laid) (((OpenSpec.ofChange Rows.dequeTellsSpec).at F).post enc Try.prog Try.f3 false true false false) := by
  obtain ⟨places, hx⟩ := reads3 os enc
  refine returnsInHanded_of_row (C := Try.checked) (s := OpenSpec.ofChange Rows.dequeTellsSpec) own started (by kernel_rfl) Try.func3
    (witness_row_at (enc := enc) (C := Try.checked) false (World.holding Try.prog os ⟨#[], #[], []⟩) wit3 rfl (by kernel_rfl) (by kernel_rfl) (by kernel_rfl)
      (OpenSpec.preRow_of_cond 8 hx (by kernel_rfl) (fun k hk => by cases hk) (by kernel_rfl) (laidMet_of_run' 8 (by kernel_rfl) (by kernel_rfl)))) ?_
  intro W base args ds gs before hval hW _ _ hwt hL _ _
  refine law_calls (shs := [(.sl 1 8 (.int .u64)), (.st (.fs 1 (.int .i64) (.fs 1 (.int .i64) (.fs 1 (.int .i64) (.fs 1 (.int .i64) (.fs 1 (.int .u64) (.fs 1 (.int .u64) (.fs 1 (.int .i64) (.fs 1 (.int .i64) .fnil))))))))), (.int .i64)]) (by kernel_rfl) hok3 glOk_none laidOut (by kernel_rfl) rfl (by kernel_rfl) rfl (fun ds hd => ?_) hval hW hwt
  match ds, hd with
  | [d0, d1, d2], _ => exact ⟨rfl, rfl, rfl⟩
/-- THE LAW. -/
theorem dequeTells : Rows.DequeTellsSaid :=
  OpenClaim.holds_of_cond 3 Try.f3 rfl rfl rfl rfl rfl rfl rfl ⟨rfl, rfl, rfl, rfl, rfl⟩ rfl rfl rfl rfl rfl (by kernel_rfl) Try.func3 (by kernel_rfl)
    (of_decide_eq_true (by kernel_rfl)) (by unfold Func.isWrapper; first | (rw [if_pos (by decide +kernel)]; kernel_rfl) | (rw [if_neg (by decide +kernel)]; exact ⟨rfl, rfl⟩))
    (fun os started H enc _ F => by rw [OpenClaim.pre_eq_preRow]; exact lifted3 os started H enc F)
#print axioms dequeTells
end Go.Proofs.Ytpdgfajhdeknmaa
