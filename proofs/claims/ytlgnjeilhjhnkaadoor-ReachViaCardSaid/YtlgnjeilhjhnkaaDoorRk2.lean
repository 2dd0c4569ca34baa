/-
  Whatever the input, ReachVia answers true: by way of all it is what is reached; by way of more no less; what is gone by is told.
-/
import Derived.Test.YtlgnjeilhjhnkaaDoorRk
set_option linter.unusedVariables false
namespace Go.Proofs.YtlgnjeilhjhnkaaDoor
open Go.ChangeShapes Go.WideShapes Go.ChangeAt Go.RowKit Go.Nx

/-- What ReachVia asks of its arguments, it has of any. -/
theorem hok5 : ∀ xs, FitsAll [(.st (.fs 1 (.int .i64) (.fs 1 (.sl 1 24 (.sl 1 8 (.int .i64))) .fnil))), (.int .u64), (.int .u64), (.int .u64)] xs → FnOk Tryd.prog tgl 5 xs (.bool true) := by
  intro xs hx
  obtain ⟨x0, r0, rfl, f0, hx0⟩ := hx
  obtain ⟨q0, rfl, g0⟩ := f0
  obtain ⟨x0_0, z0_0, rfl, f0_0, g0_0⟩ := fits_fs1 g0
  obtain ⟨n0_0, e, wf0_0⟩ := f0_0; cases e
  have w0_0 := wf_i64 wf0_0
  obtain ⟨x0_1, z0_1, rfl, f0_1, g0_0_1⟩ := fits_fs1 g0_0
  obtain ⟨y0_1, e, b0_1, hf0_1⟩ := f0_1; cases e
  obtain ⟨L0_1, rfl, h0_1⟩ := fits_rs hf0_1
  rw [List.length_map] at b0_1
  have eg0_0_1 := g0_0_1; unfold Fits at eg0_0_1; subst eg0_0_1
  obtain ⟨x1, r1, rfl, f1, hx1⟩ := hx0
  obtain ⟨n1, e, wf1⟩ := f1; cases e
  have w1 := wf_u64 wf1
  obtain ⟨x2, r2, rfl, f2, hx2⟩ := hx1
  obtain ⟨n2, e, wf2⟩ := f2; cases e
  have w2 := wf_u64 wf2
  obtain ⟨x3, r3, rfl, f3, hx3⟩ := hx2
  obtain ⟨n3, e, wf3⟩ := f3; cases e
  have w3 := wf_u64 wf3
  have ehx := hx3; unfold FitsAll at ehx; subst ehx
  try simp only [List.cons_append, List.nil_append, List.append_nil]
  exact ok5 _ _ _ _ _ ⟨isR h0_1 b0_1, w1, w2, w3⟩
def wit5 : Array Value := #[.agg #[.int .i64 0, .slice none 0 0], .int .u64 0, .int .u64 0, .int .u64 0]
theorem laid_met5 (os : Os) : laidMet Tryd.prog Rows.reachViaRow.laid ((laidWorld os).forCall (fun _ _ => 0) ⟨#[], wit5, []⟩).memory :=
  laidMet_of_run' 8 (by kernel_rfl) (by kernel_rfl)
theorem reads5 (os : Os) {H : Type} (enc : TypeId × Value → H) : ∃ places, DataW.whole enc Tryd.prog ((laidWorld os).forCall (fun _ _ => 0) ⟨#[], wit5, []⟩).memory Tryd.f5.params.toList Rows.reachViaSpec.vars false wit5.toList 8 = some ([.agg [.lit (.int .i64 0), .nil], .lit (.int .u64 0), .lit (.int .u64 0), .lit (.int .u64 0)], [], places) :=
  ⟨[], by kernel_rfl⟩
set_option maxRecDepth 100000 in
theorem lifted5 (os : Os) (started : os.Started) (H : Type) (enc : TypeId × Value → H) (F : Stop.Interp) :
    ReturnsInHanded {} Tryd.checked os 5 .any ((OpenSpec.ofChange Rows.reachViaSpec).preRow enc Tryd.prog Tryd.f5 Rows.reachViaRow.domain false Rows.reachViaRow.laid) (((OpenSpec.ofChange Rows.reachViaSpec).at F).post enc Tryd.prog Tryd.f5 false true false false) := by
  obtain ⟨places, hx⟩ := reads5 os enc
  refine returnsInHanded_of_row (C := Tryd.checked) (s := OpenSpec.ofChange Rows.reachViaSpec) own started (by kernel_rfl) Tryd.func5
    (witness_row_at (enc := enc) (C := Tryd.checked) false (laidWorld os) wit5 rfl (by kernel_rfl) (by kernel_rfl) (by kernel_rfl)
      (OpenSpec.preRow_of_cond 8 hx (by kernel_rfl) (fun k hk => by cases hk) (by kernel_rfl) (laid_met5 os))) ?_
  intro W base args ds gs before hval hW _ _ hwt hL _ _
  refine law_calls (shs := [(.st (.fs 1 (.int .i64) (.fs 1 (.sl 1 24 (.sl 1 8 (.int .i64))) .fnil))), (.int .u64), (.int .u64), (.int .u64)]) (by kernel_rfl) hok5 (glok hL) laidOut (by kernel_rfl) rfl (by kernel_rfl) rfl (fun ds hd => ?_) hval hW hwt
  match ds, hd with
  | [d0, d1, d2, d3], _ => exact ⟨rfl, rfl, rfl⟩
theorem said5 : Rows.ReachViaSaid :=
  OpenClaim.holds_of_cond 5 Tryd.f5 rfl rfl rfl rfl rfl rfl rfl ⟨rfl, rfl, rfl, rfl, rfl⟩ rfl rfl rfl rfl rfl (by kernel_rfl) Tryd.func5 (by kernel_rfl)
    (of_decide_eq_true (by kernel_rfl)) (by unfold Func.isWrapper; first | (rw [if_pos (by decide +kernel)]; kernel_rfl) | (rw [if_neg (by decide +kernel)]; exact ⟨rfl, rfl⟩))
    (fun os started H enc _ F => by rw [OpenClaim.pre_eq_preRow]; exact lifted5 os started H enc F)
theorem plain5 (f : FuncId) (fn : Func) (hf : Tryd.pinned.checked.prog.funcNamed "besom/besomlaw04.ReachVia" = some f) (hfn : Tryd.pinned.checked.prog.funcs[f]? = some fn) :
    false = Tryd.pinned.checked.prog.looks [] ∧ ∀ (j : Nat) t, fn.params[j]? = some t → Tryd.pinned.checked.prog.wantsStandIn t = false := by
  obtain rfl : f = 5 := Option.some.inj ((show Tryd.prog.funcNamed "besom/besomlaw04.ReachVia" = some 5 by kernel_rfl).symm.trans hf) |>.symm
  obtain rfl : fn = Tryd.f5 := (Option.some.inj (Tryd.func5.symm.trans hfn)).symm
  refine ⟨by kernel_rfl, fun j t ht => ?_⟩
  have h2 : (Tryd.f5.params.toList.all fun t => !(Tryd.prog.wantsStandIn t)) = true := by kernel_rfl
  have h3 := List.all_eq_true.1 h2 t (Array.mem_toList_iff.2 (Array.mem_of_getElem? ht))
  rw [Bool.not_eq_true'] at h3
  exact h3
/-- THE CARD. -/
theorem reachVia : Rows.ReachViaCardSaid :=
  Claim7.holds_tied_plain_at .later [] _ _ _ _ said5 (fun _ h => by cases h) (by kernel_rfl) (fun _ h => by cases h) reachVia_row_tie rfl ⟨rfl, rfl⟩ (by kernel_rfl) rfl plain5 (by kernel_rfl)
#print axioms reachVia
end Go.Proofs.YtlgnjeilhjhnkaaDoor
