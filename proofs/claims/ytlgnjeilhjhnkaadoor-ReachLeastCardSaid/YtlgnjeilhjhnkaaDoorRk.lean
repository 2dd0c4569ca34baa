/-
  Whatever the input, ReachTells answers true: of any heap, any sets all is told as the chapter says.
-/
import Derived.Test.YtlgnjeilhjhnkaaDoorRj
import Derived.Test.YtlgnjeilhjhnkaaDoorYf
import Derived.Test.YtlgnjeilhjhnkaaDoorTie
import Derived.Test.YtlgnjeilhjhnkaaDoorCards
import Derived.WalkKit
import Derived.OpenShut
import Derived.Deep.DeepHandedRow
set_option linter.unusedVariables false
namespace Go.Proofs.YtlgnjeilhjhnkaaDoor
open Go.ChangeShapes Go.WideShapes Go.ChangeAt Go.RowKit Go.Nx

theorem own : ownKnob Tryd.prog.godebug = none := by kernel_rfl
theorem laidOut : laidOutB Tryd.prog = true := by kernel_rfl
theorem gTab : Tryd.prog.globalNamed "math/bits.deBruijn64tab" = some 0 := by kernel_rfl
theorem gTabType : (Tryd.prog.globals[0]?).map (·.type) = some 74 := by kernel_rfl
theorem cells74 : Tryd.prog.cellsOf 74 = 64 := by kernel_rfl
theorem cells5 : Tryd.prog.cellsOf 5 = 1 := by kernel_rfl
theorem glok {W : World} (h : laidMetH Tryd.prog Rows.reachTellsRow.laid W) : GlOk tgl (InW W) W :=
  glOk_ints (ints_of_head (zs := dbTab) (rest := []) gTab gTabType Tryd.underlying74 Tryd.underlying5 cells5 cells74 h) fun g cs hg => by
    unfold tgl at hg
    split at hg
    · cases hg; exact ⟨rfl, rfl⟩
    · cases hg
/-- A WORLD FOR THE WITNESS. -/
noncomputable def laidWorld (os : Os) : World :=
  { World.holding Tryd.prog os ⟨#[], #[], []⟩ with heap := (World.holding Tryd.prog os ⟨#[], #[], []⟩).heap.modify 0 fun
      | .cells _ t frozen => .cells (dbTab.map (Value.int .u8)).toArray t frozen
      | o => o }
theorem isR {L : List (List Int)} (h : ∀ l ∈ L, l.length * 8 ≤ 140737488351232 ∧ ∀ n ∈ l, I64 n) (hb : L.length * 24 ≤ 140737488351232) : IsR (L.map fun l => T.list 1 (is l)) :=
  ⟨L, rfl, by omega, fun l hl => ⟨isI_is (h l hl).2, by have := (h l hl).1; unfold Sz maxBytes; rw [is_len]; omega⟩⟩
/-- What ReachTells asks of its arguments, it has of any. -/
theorem hok3 : ∀ xs, FitsAll [(.st (.fs 1 (.int .i64) (.fs 1 (.sl 1 24 (.sl 1 8 (.int .i64))) .fnil))), (.int .u64), (.int .u64)] xs → FnOk Tryd.prog tgl 3 xs (.bool true) := by
  intro xs hx
  obtain ⟨x0, r0, rfl, f0, hx0⟩ := hx
  obtain ⟨q0, rfl, g0⟩ := f0
  obtain ⟨x0_0, z0_0, rfl, f0_0, g0_0⟩ := fits_fs1 g0
  obtain ⟨n0_0, e, wf0_0⟩ := f0_0; cases e
  have w0_0 := wf_i64 wf0_0
  obtain ⟨x0_1, z0_1, rfl, f0_1, g0_0_1⟩ := fits_fs1 g0_0
  obtain ⟨y0_1, e, b0_1, hf0_1⟩ := f0_1; cases e
  obtain ⟨L0_1, rfl, h0_1⟩ := fits_rs hf0_1
  rw [List.length_map] at b0_1
  have eg0_0_1 := g0_0_1; unfold Fits at eg0_0_1; subst eg0_0_1
  obtain ⟨x1, r1, rfl, f1, hx1⟩ := hx0
  obtain ⟨n1, e, wf1⟩ := f1; cases e
  have w1 := wf_u64 wf1
  obtain ⟨x2, r2, rfl, f2, hx2⟩ := hx1
  obtain ⟨n2, e, wf2⟩ := f2; cases e
  have w2 := wf_u64 wf2
  have ehx := hx2; unfold FitsAll at ehx; subst ehx
  try simp only [List.cons_append, List.nil_append, List.append_nil]
  exact ok3 _ _ _ _ ⟨isR h0_1 b0_1, w1, w2⟩
def wit3 : Array Value := #[.agg #[.int .i64 0, .slice none 0 0], .int .u64 0, .int .u64 0]
theorem laid_met3 (os : Os) : laidMet Tryd.prog Rows.reachTellsRow.laid ((laidWorld os).forCall (fun _ _ => 0) ⟨#[], wit3, []⟩).memory :=
  laidMet_of_run' 8 (by kernel_rfl) (by kernel_rfl)
theorem reads3 (os : Os) {H : Type} (enc : TypeId × Value → H) : ∃ places, DataW.whole enc Tryd.prog ((laidWorld os).forCall (fun _ _ => 0) ⟨#[], wit3, []⟩).memory Tryd.f3.params.toList Rows.reachTellsSpec.vars false wit3.toList 8 = some ([.agg [.lit (.int .i64 0), .nil], .lit (.int .u64 0), .lit (.int .u64 0)], [], places) :=
  ⟨[], by kernel_rfl⟩
set_option maxRecDepth 100000 in
theorem lifted3 (os : Os) (started : os.Started) (H : Type) (enc : TypeId × Value → H) (F : Stop.Interp) :
    ReturnsInHanded {} Tryd.checked os 3 .any ((OpenSpec.ofChange Rows.reachTellsSpec).preRow enc Tryd.prog Tryd.f3 Rows.reachTellsRow.domain false Rows.reachTellsRow.laid) (((OpenSpec.ofChange Rows.reachTellsSpec).at F).post enc Tryd.prog Tryd.f3 false true false false) := by
  obtain ⟨places, hx⟩ := reads3 os enc
  refine returnsInHanded_of_row (C := Tryd.checked) (s := OpenSpec.ofChange Rows.reachTellsSpec) own started (by kernel_rfl) Tryd.func3
    (witness_row_at (enc := enc) (C := Tryd.checked) false (laidWorld os) wit3 rfl (by kernel_rfl) (by kernel_rfl) (by kernel_rfl)
      (OpenSpec.preRow_of_cond 8 hx (by kernel_rfl) (fun k hk => by cases hk) (by kernel_rfl) (laid_met3 os))) ?_
  intro W base args ds gs before hval hW _ _ hwt hL _ _
  refine law_calls (shs := [(.st (.fs 1 (.int .i64) (.fs 1 (.sl 1 24 (.sl 1 8 (.int .i64))) .fnil))), (.int .u64), (.int .u64)]) (by kernel_rfl) hok3 (glok hL) laidOut (by kernel_rfl) rfl (by kernel_rfl) rfl (fun ds hd => ?_) hval hW hwt
  match ds, hd with
  | [d0, d1, d2], _ => exact ⟨rfl, rfl, rfl⟩
theorem said3 : Rows.ReachTellsSaid :=
  OpenClaim.holds_of_cond 3 Tryd.f3 rfl rfl rfl rfl rfl rfl rfl ⟨rfl, rfl, rfl, rfl, rfl⟩ rfl rfl rfl rfl rfl (by kernel_rfl) Tryd.func3 (by kernel_rfl)
    (of_decide_eq_true (by kernel_rfl)) (by unfold Func.isWrapper; first | (rw [if_pos (by decide +kernel)]; kernel_rfl) | (rw [if_neg (by decide +kernel)]; exact ⟨rfl, rfl⟩))
    (fun os started H enc _ F => by rw [OpenClaim.pre_eq_preRow]; exact lifted3 os started H enc F)
theorem plain3 (f : FuncId) (fn : Func) (hf : Tryd.pinned.checked.prog.funcNamed "besom/besomlaw04.ReachTells" = some f) (hfn : Tryd.pinned.checked.prog.funcs[f]? = some fn) :
    false = Tryd.pinned.checked.prog.looks [] ∧ ∀ (j : Nat) t, fn.params[j]? = some t → Tryd.pinned.checked.prog.wantsStandIn t = false := by
  obtain rfl : f = 3 := Option.some.inj ((show Tryd.prog.funcNamed "besom/besomlaw04.ReachTells" = some 3 by kernel_rfl).symm.trans hf) |>.symm
  obtain rfl : fn = Tryd.f3 := (Option.some.inj (Tryd.func3.symm.trans hfn)).symm
  refine ⟨by kernel_rfl, fun j t ht => ?_⟩
  have h2 : (Tryd.f3.params.toList.all fun t => !(Tryd.prog.wantsStandIn t)) = true := by kernel_rfl
  have h3 := List.all_eq_true.1 h2 t (Array.mem_toList_iff.2 (Array.mem_of_getElem? ht))
  rw [Bool.not_eq_true'] at h3
  exact h3
/-- THE CARD. -/
theorem reachTells : Rows.ReachTellsCardSaid :=
  Claim7.holds_tied_plain_at .later [] _ _ _ _ said3 (fun _ h => by cases h) (by kernel_rfl) (fun _ h => by cases h) reachTells_row_tie rfl ⟨rfl, rfl⟩ (by kernel_rfl) rfl plain3 (by kernel_rfl)
#print axioms reachTells
end Go.Proofs.YtlgnjeilhjhnkaaDoor
