/-
  Whatever the input, ReachDist answers true: what has a distance is what is reached; a root's is 0, and what is further has one in front of it that is nearer by one.
-/
import Derived.Test.YtlgnjeilhjhnkaaDoorRk
import Derived.Test.YtlgnjeilhjhnkaaDoorRq
set_option linter.unusedVariables false
namespace Go.Proofs.YtlgnjeilhjhnkaaDoor
open Go.ChangeShapes Go.WideShapes Go.ChangeAt Go.RowKit Go.Nx

/-- What ReachDist asks of its arguments, it has of any. -/
theorem hok6 : ∀ xs, FitsAll [(.st (.fs 1 (.int .i64) (.fs 1 (.sl 1 24 (.sl 1 8 (.int .i64))) .fnil))), (.int .u64)] xs → FnOk Tryd.prog tgl 6 xs (.bool true) := by
  intro xs hx
  obtain ⟨x0, r0, rfl, f0, hx0⟩ := hx
  obtain ⟨q0, rfl, g0⟩ := f0
  obtain ⟨x0_0, z0_0, rfl, f0_0, g0_0⟩ := fits_fs1 g0
  obtain ⟨n0_0, e, wf0_0⟩ := f0_0; cases e
  have w0_0 := wf_i64 wf0_0
  obtain ⟨x0_1, z0_1, rfl, f0_1, g0_0_1⟩ := fits_fs1 g0_0
  obtain ⟨y0_1, e, b0_1, hf0_1⟩ := f0_1; cases e
  obtain ⟨L0_1, rfl, h0_1⟩ := fits_rs hf0_1
  rw [List.length_map] at b0_1
  have eg0_0_1 := g0_0_1; unfold Fits at eg0_0_1; subst eg0_0_1
  obtain ⟨x1, r1, rfl, f1, hx1⟩ := hx0
  obtain ⟨n1, e, wf1⟩ := f1; cases e
  have w1 := wf_u64 wf1
  have ehx := hx1; unfold FitsAll at ehx; subst ehx
  try simp only [List.cons_append, List.nil_append, List.append_nil]
  exact ok6 _ _ _ ⟨isR h0_1 b0_1, w1⟩
def wit6 : Array Value := #[.agg #[.int .i64 0, .slice none 0 0], .int .u64 0]
theorem laid_met6 (os : Os) : laidMet Tryd.prog Rows.reachDistRow.laid ((laidWorld os).forCall (fun _ _ => 0) ⟨#[], wit6, []⟩).memory :=
  laidMet_of_run' 8 (by kernel_rfl) (by kernel_rfl)
theorem reads6 (os : Os) {H : Type} (enc : TypeId × Value → H) : ∃ places, DataW.whole enc Tryd.prog ((laidWorld os).forCall (fun _ _ => 0) ⟨#[], wit6, []⟩).memory Tryd.f6.params.toList Rows.reachDistSpec.vars false wit6.toList 8 = some ([.agg [.lit (.int .i64 0), .nil], .lit (.int .u64 0)], [], places) :=
  ⟨[], by kernel_rfl⟩
set_option maxRecDepth 100000 in
theorem lifted6 (os : Os) (started : os.Started) (H : Type) (enc : TypeId × Value → H) (F : Stop.Interp) :
    ReturnsInHanded {} Tryd.checked os 6 .any ((OpenSpec.ofChange Rows.reachDistSpec).preRow enc Tryd.prog Tryd.f6 Rows.reachDistRow.domain false Rows.reachDistRow.laid) (((OpenSpec.ofChange Rows.reachDistSpec).at F).post enc Tryd.prog Tryd.f6 false true false false) := by
  obtain ⟨places, hx⟩ := reads6 os enc
  refine returnsInHanded_of_row (C := Tryd.checked) (s := OpenSpec.ofChange Rows.reachDistSpec) own started (by kernel_rfl) Tryd.func6
    (witness_row_at (enc := enc) (C := Tryd.checked) false (laidWorld os) wit6 rfl (by kernel_rfl) (by kernel_rfl) (by kernel_rfl)
      (OpenSpec.preRow_of_cond 8 hx (by kernel_rfl) (fun k hk => by cases hk) (by kernel_rfl) (laid_met6 os))) ?_
  intro W base args ds gs before hval hW _ _ hwt hL _ _
  refine law_calls (shs := [(.st (.fs 1 (.int .i64) (.fs 1 (.sl 1 24 (.sl 1 8 (.int .i64))) .fnil))), (.int .u64)]) (by kernel_rfl) hok6 (glok hL) laidOut (by kernel_rfl) rfl (by kernel_rfl) rfl (fun ds hd => ?_) hval hW hwt
  match ds, hd with
  | [d0, d1], _ => exact ⟨rfl, rfl, rfl⟩
theorem said6 : Rows.ReachDistSaid :=
  OpenClaim.holds_of_cond 6 Tryd.f6 rfl rfl rfl rfl rfl rfl rfl ⟨rfl, rfl, rfl, rfl, rfl⟩ rfl rfl rfl rfl rfl (by kernel_rfl) Tryd.func6 (by kernel_rfl)
    (of_decide_eq_true (by kernel_rfl)) (by unfold Func.isWrapper; first | (rw [if_pos (by decide +kernel)]; kernel_rfl) | (rw [if_neg (by decide +kernel)]; exact ⟨rfl, rfl⟩))
    (fun os started H enc _ F => by rw [OpenClaim.pre_eq_preRow]; exact lifted6 os started H enc F)
theorem plain6 (f : FuncId) (fn : Func) (hf : Tryd.pinned.checked.prog.funcNamed "besom/besomlaw04.ReachDist" = some f) (hfn : Tryd.pinned.checked.prog.funcs[f]? = some fn) :
    false = Tryd.pinned.checked.prog.looks [] ∧ ∀ (j : Nat) t, fn.params[j]? = some t → Tryd.pinned.checked.prog.wantsStandIn t = false := by
  obtain rfl : f = 6 := Option.some.inj ((show Tryd.prog.funcNamed "besom/besomlaw04.ReachDist" = some 6 by kernel_rfl).symm.trans hf) |>.symm
  obtain rfl : fn = Tryd.f6 := (Option.some.inj (Tryd.func6.symm.trans hfn)).symm
  refine ⟨by kernel_rfl, fun j t ht => ?_⟩
  have h2 : (Tryd.f6.params.toList.all fun t => !(Tryd.prog.wantsStandIn t)) = true := by kernel_rfl
  have h3 := List.all_eq_true.1 h2 t (Array.mem_toList_iff.2 (Array.mem_of_getElem? ht))
  rw [Bool.not_eq_true'] at h3
  exact h3
/-- THE CARD. -/
theorem reachDist : Rows.ReachDistCardSaid :=
  Claim7.holds_tied_plain_at .later [] _ _ _ _ said6 (fun _ h => by cases h) (by kernel_rfl) (fun _ h => by cases h) reachDist_row_tie rfl ⟨rfl, rfl⟩ (by kernel_rfl) rfl plain6 (by kernel_rfl)
#print axioms reachDist
end Go.Proofs.YtlgnjeilhjhnkaaDoor
