/-
  Whatever the input, SetUnder answers true: to be under is an order.
-/
import Derived.Test.YtpmpkcjcjccboaaDoorSj
import Derived.Test.YtpmpkcjcjccboaaDoorSl
set_option linter.unusedVariables false
namespace Go.Proofs.YtpmpkcjcjccboaaDoor
open Go.ChangeShapes Go.WideShapes Go.ChangeAt Go.RowKit Go.Nx

/-- What SetUnder asks of its arguments, it has of any. -/
theorem hok6 : ∀ xs, FitsAll [(.int .u64), (.int .u64), (.int .u64), (.int .u8)] xs → FnOk Tryd.prog tgl 6 xs (.bool true) := by
  intro xs hx
  obtain ⟨x0, r0, rfl, f0, hx0⟩ := hx
  obtain ⟨n0, e, wf0⟩ := f0; cases e
  have w0 := wf_u64 wf0
  obtain ⟨x1, r1, rfl, f1, hx1⟩ := hx0
  obtain ⟨n1, e, wf1⟩ := f1; cases e
  have w1 := wf_u64 wf1
  obtain ⟨x2, r2, rfl, f2, hx2⟩ := hx1
  obtain ⟨n2, e, wf2⟩ := f2; cases e
  have w2 := wf_u64 wf2
  obtain ⟨x3, r3, rfl, f3, hx3⟩ := hx2
  obtain ⟨n3, e, wf3⟩ := f3; cases e
  have w3 := wf_u8 wf3
  have ehx := hx3; unfold FitsAll at ehx; subst ehx
  exact ok6 _ _ _ _ ⟨⟨w0, w1⟩, w2, w3.1, by omega⟩
def wit6 : Array Value := #[.int .u64 0, .int .u64 0, .int .u64 0, .int .u8 0]
theorem laid_met6 (os : Os) : laidMet Tryd.prog Rows.setUnderRow.laid ((laidWorld os).forCall (fun _ _ => 0) ⟨#[], wit6, []⟩).memory :=
  laidMet_of_run' 8 (by kernel_rfl) (by kernel_rfl)
theorem reads6 (os : Os) {H : Type} (enc : TypeId × Value → H) : ∃ places, DataW.whole enc Tryd.prog ((laidWorld os).forCall (fun _ _ => 0) ⟨#[], wit6, []⟩).memory Tryd.f6.params.toList Rows.setUnderSpec.vars false wit6.toList 8 = some ([.lit (.int .u64 0), .lit (.int .u64 0), .lit (.int .u64 0), .lit (.int .u8 0)], [], places) :=
  ⟨[], by kernel_rfl⟩
set_option maxRecDepth 100000 in
theorem lifted6 (os : Os) (started : os.Started) (H : Type) (enc : TypeId × Value → H) (F : Stop.Interp) :
    ReturnsInHanded {} Tryd.checked os 6 .any ((OpenSpec.ofChange Rows.setUnderSpec).preRow enc Tryd.prog Tryd.f6 Rows.setUnderRow.domain false Rows.setUnderRow.laid) (((OpenSpec.ofChange Rows.setUnderSpec).at F).post enc Tryd.prog Tryd.f6 false true false false) := by
  obtain ⟨places, hx⟩ := reads6 os enc
  refine returnsInHanded_of_row (C := Tryd.checked) (s := OpenSpec.ofChange Rows.setUnderSpec) own started (by kernel_rfl) Tryd.func6
    (witness_row_at (enc := enc) (C := Tryd.checked) false (laidWorld os) wit6 rfl (by kernel_rfl) (by kernel_rfl) (by kernel_rfl)
      (OpenSpec.preRow_of_cond 8 hx (by kernel_rfl) (fun k hk => by cases hk) (by kernel_rfl) (laid_met6 os))) ?_
  intro W base args ds gs before hval hW _ _ hwt hL _ _
  refine law_calls (shs := [(.int .u64), (.int .u64), (.int .u64), (.int .u8)]) (by kernel_rfl) hok6 (glok hL) laidOut (by kernel_rfl) rfl (by kernel_rfl) rfl (fun ds hd => ?_) hval hW hwt
  match ds, hd with
  | [d0, d1, d2, d3], _ => exact ⟨rfl, rfl, rfl⟩
theorem said6 : Rows.SetUnderSaid :=
  OpenClaim.holds_of_cond 6 Tryd.f6 rfl rfl rfl rfl rfl rfl rfl ⟨rfl, rfl, rfl, rfl, rfl⟩ rfl rfl rfl rfl rfl (by kernel_rfl) Tryd.func6 (by kernel_rfl)
    (of_decide_eq_true (by kernel_rfl)) (by unfold Func.isWrapper; first | (rw [if_pos (by decide +kernel)]; kernel_rfl) | (rw [if_neg (by decide +kernel)]; exact ⟨rfl, rfl⟩))
    (fun os started H enc _ F => by rw [OpenClaim.pre_eq_preRow]; exact lifted6 os started H enc F)
theorem plain6 (f : FuncId) (fn : Func) (hf : Tryd.pinned.checked.prog.funcNamed "besom/besomlaw02.SetUnder" = some f) (hfn : Tryd.pinned.checked.prog.funcs[f]? = some fn) :
    true = Tryd.pinned.checked.prog.looks [] ∧ ∀ (j : Nat) t, fn.params[j]? = some t → Tryd.pinned.checked.prog.wantsStandIn t = false := by
  obtain rfl : f = 6 := Option.some.inj ((show Tryd.prog.funcNamed "besom/besomlaw02.SetUnder" = some 6 by kernel_rfl).symm.trans hf) |>.symm
  obtain rfl : fn = Tryd.f6 := (Option.some.inj (Tryd.func6.symm.trans hfn)).symm
  refine ⟨by kernel_rfl, fun j t ht => ?_⟩
  have h2 : (Tryd.f6.params.toList.all fun t => !(Tryd.prog.wantsStandIn t)) = true := by kernel_rfl
  have h3 := List.all_eq_true.1 h2 t (Array.mem_toList_iff.2 (Array.mem_of_getElem? ht))
  rw [Bool.not_eq_true'] at h3
  exact h3
/-- THE CARD. -/
theorem setUnder : Rows.SetUnderCardSaid :=
  Claim7.holds_tied_plain_at .later [] _ _ _ _ said6 (fun _ h => by cases h) (by kernel_rfl) (fun _ h => by cases h) setUnder_row_tie rfl ⟨rfl, rfl⟩ (by kernel_rfl) rfl plain6 (by kernel_rfl)
#print axioms setUnder
end Go.Proofs.YtpmpkcjcjccboaaDoor
