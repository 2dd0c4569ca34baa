/-
  TINT TELLS: THE CARD.
-/
import Derived.Test.YtbcldnaoecnffaaDoorNi
import Derived.Test.YtbcldnaoecnffaaDoorMy
import Derived.Test.YtbcldnaoecnffaaDoorTie
import Derived.WalkKit
import Derived.OpenShut
import Derived.Deep.DeepHandedRow
set_option linter.unusedVariables false
namespace Go.Proofs.YtbcldnaoecnffaaDoor
open Go.ChangeShapes Go.WideShapes Go.ChangeAt Go.RowKit Go.Mx

theorem own : ownKnob Tryd.prog.godebug = none := by kernel_rfl
theorem gTab : Tryd.prog.globalNamed "besom/tint.letters" = some 0 := by kernel_rfl
theorem gTabType : (Tryd.prog.globals[0]?).map (·.type) = some 61 := by kernel_rfl
theorem cells61 : Tryd.prog.cellsOf 61 = 3 := by kernel_rfl
theorem cells9 : Tryd.prog.cellsOf 9 = 1 := by kernel_rfl
theorem cells25 : Tryd.prog.cellsOf 25 = 2 := by kernel_rfl
theorem laidOut : laidOutB Tryd.prog = true := by kernel_rfl
theorem laid_cells {W : World} (h : laidMetH Tryd.prog Rows.tintTellsRow.laid W) (i : Nat) (hi : i < 3) : W.cell? ⟨0, i, none⟩ = some (.string ⟨([[119], [103], [98]][i]).toArray⟩) :=
  strs_of_head (zs := [[119], [103], [98]]) (rest := []) gTab gTabType Tryd.underlying61 Tryd.underlying9 cells9 cells61 h i hi
def Sg (b o : Nat) : Prop := b = 0 ∧ o < 3
theorem glok {W : World} (h : laidMetH Tryd.prog Rows.tintTellsRow.laid W) : GlOk tgl Sg W ∧ ∀ b o, Sg b o → b < W.heap.size := by
  have h0 := laid_cells h 0 (by decide)
  have h1 := laid_cells h 1 (by decide)
  have h2 := laid_cells h 2 (by decide)
  refine ⟨fun g cs hg i c hc => ?_, fun b o hb => by obtain ⟨rfl, _⟩ := hb; exact cell_lt h0⟩
  unfold tgl at hg
  split at hg
  · cases hg
    rcases i with _ | _ | _ | i
    · simp at hc; subst hc; exact ⟨⟨rfl, by decide⟩, _, h0, .str _⟩
    · simp at hc; subst hc; exact ⟨⟨rfl, by decide⟩, _, h1, .str _⟩
    · simp at hc; subst hc; exact ⟨⟨rfl, by decide⟩, _, h2, .str _⟩
    · simp at hc
  · cases hg

theorem contract3 (H : Type) (enc : TypeId × Value → H) (W : World) (base : Nat) (args : Array Value) (ds gs : List (DataW H)) (before : List MemPlace)
    (hval : ∀ (j : Nat) t v, Tryd.f3.params[j]? = some t → args[j]? = some v → Value.okWide Tryd.prog W .any base t v)
    (hW : DataW.Whole enc Tryd.prog Tryd.f3.params.toList Rows.tintTellsSpec.vars false W args.toList ds gs before) (hL : laidMetH Tryd.prog Rows.tintTellsRow.laid W) :
    Calls Tryd.prog 3 args W fun e W' => ∃ v, e = .returned v ∧ Rows.tintTellsSpec.post enc Tryd.prog Tryd.f3 false true false false W args v W' := by
  have hW' := hW
  obtain ⟨p, q, hA0, hV, rfl, hfz, hnd⟩ := hW
  have hA : DataW.TrodAll enc Tryd.prog W 0 (fun _ => true) true Tryd.f3.params.toList args.toList ds p := hA0
  rw [Tryd.params3] at hA hval
  obtain ⟨v0, vs0, d0, ds0, p0, q0, hargs, rfl, rfl, g0, r0⟩ := trodAll_cons hA
  obtain ⟨v1, vs1, d1, ds1, p1, q1, rfl, rfl, rfl, g1, r1⟩ := trodAll_cons r0
  obtain ⟨v2, vs2, d2, ds2, p2, q2, rfl, rfl, rfl, g2, r2⟩ := trodAll_cons r1
  obtain ⟨v3, vs3, d3, ds3, p3, q3, rfl, rfl, rfl, g3, r3⟩ := trodAll_cons r2
  obtain ⟨rfl, rfl, rfl⟩ := trodAll_nil r3
  obtain rfl : args = #[v0, v1, v2, v3] := by cases args; simp_all
  obtain ⟨rfl, rfl⟩ := trodVars_none hV
  obtain ⟨m, b, rfl, w0, w1⟩ := open_two Tryd.underlying25 (by kernel_rfl) cells25 Tryd.underlying23 Tryd.underlying23 (hval 0 25 v0 rfl rfl) g0
  obtain ⟨n, q, rfl, w2, w3⟩ := open_two Tryd.underlying25 (by kernel_rfl) cells25 Tryd.underlying23 Tryd.underlying23 (hval 1 25 v1 rfl rfl) g1
  obtain ⟨o, rfl, _, _, _⟩ := open_int Tryd.underlying3 (hval 2 3 v2 rfl rfl) g2
  obtain ⟨k, rfl, _, _, _⟩ := open_int Tryd.underlying3 (hval 3 3 v3 rfl rfl) g3
  obtain ⟨hgl, hS⟩ := glok hL
  have hok := (ok3 m b n q o k ⟨⟨wf_u64 w0, wf_u64 w1⟩, wf_u64 w2, wf_u64 w3⟩).2 Sg W #[.agg #[.int .u64 m, .int .u64 b], .agg #[.int .u64 n, .int .u64 q], .int .i64 o, .int .i64 k] hS hgl rfl (fun i c u hc hu => by
    rcases i with _ | _ | _ | _ | i
    · simp at hc hu; subst hc hu; exact relT_two
    · simp at hc hu; subst hc hu; exact relT_two
    · simp at hc hu; subst hc hu; exact .int _ _
    · simp at hc hu; subst hc hu; exact .int _ _
    · simp at hc)
  refine hok.mono fun e W' ⟨v, he, hr, hb⟩ => ?_
  subst he
  obtain rfl := RelT.bool_of hr
  refine ⟨_, rfl, post_true hW' hb laidOut (fun t ht => ?_) rfl Tryd.underlying4 rfl rfl rfl rfl⟩
  rw [Tryd.params3] at ht
  simp only [List.mem_cons, List.not_mem_nil, or_false] at ht
  rcases ht with rfl | rfl | rfl | rfl <;> exact ⟨by kernel_rfl, by decide +kernel⟩

/-- A WORLD FOR THE WITNESS. -/
noncomputable def laidWorld (os : Os) : World :=
  { World.holding Tryd.prog os ⟨#[], #[], []⟩ with heap := (World.holding Tryd.prog os ⟨#[], #[], []⟩).heap.modify 0 fun
      | .cells _ t frozen => .cells #[.string ⟨#[119]⟩, .string ⟨#[103]⟩, .string ⟨#[98]⟩] t frozen
      | o => o }
def wit : Array Value := #[.agg #[.int .u64 0, .int .u64 0], .agg #[.int .u64 0, .int .u64 0], .int .i64 0, .int .i64 0]
theorem laid_met3 (os : Os) : laidMet Tryd.prog Rows.tintTellsRow.laid ((laidWorld os).forCall (fun _ _ => 0) ⟨#[], wit, []⟩).memory :=
  laidMet_of_run' 8 (by kernel_rfl) (by kernel_rfl)
theorem reads3 (os : Os) {H : Type} (enc : TypeId × Value → H) : ∃ places, DataW.whole enc Tryd.prog ((laidWorld os).forCall (fun _ _ => 0) ⟨#[], wit, []⟩).memory Tryd.f3.params.toList Rows.tintTellsSpec.vars false wit.toList 8 = some ([.agg [.lit (.int .u64 0), .lit (.int .u64 0)], .agg [.lit (.int .u64 0), .lit (.int .u64 0)], .lit (.int .i64 0), .lit (.int .i64 0)], [], places) :=
  ⟨[], by kernel_rfl⟩
set_option maxRecDepth 100000 in
theorem lifted3 (os : Os) (started : os.Started) (H : Type) (enc : TypeId × Value → H) (F : Stop.Interp) :
    ReturnsInHanded {} Tryd.checked os 3 .any ((OpenSpec.ofChange Rows.tintTellsSpec).preRow enc Tryd.prog Tryd.f3 Rows.tintTellsRow.domain false Rows.tintTellsRow.laid) (((OpenSpec.ofChange Rows.tintTellsSpec).at F).post enc Tryd.prog Tryd.f3 false true false false) := by
  obtain ⟨places, hx⟩ := reads3 os enc
  refine returnsInHanded_of_row (C := Tryd.checked) (s := OpenSpec.ofChange Rows.tintTellsSpec) own started (by kernel_rfl) Tryd.func3
    (witness_row_at (enc := enc) (C := Tryd.checked) false (laidWorld os) wit rfl (by kernel_rfl) (by kernel_rfl) (by kernel_rfl)
      (OpenSpec.preRow_of_cond 8 hx (by kernel_rfl) (fun k hk => by cases hk) (by kernel_rfl) (laid_met3 os))) ?_
  intro W base args ds gs before hval hW _ _ _ hL _ _
  exact contract3 H enc W base args ds gs before hval hW hL
theorem said3 : Rows.TintTellsSaid :=
  OpenClaim.holds_of_cond 3 Tryd.f3 rfl rfl rfl rfl rfl rfl rfl ⟨rfl, rfl, rfl, rfl, rfl⟩ rfl rfl rfl rfl rfl (by kernel_rfl) Tryd.func3 (by kernel_rfl)
    (of_decide_eq_true (by kernel_rfl)) (by unfold Func.isWrapper; first | (rw [if_pos (by decide +kernel)]; kernel_rfl) | (rw [if_neg (by decide +kernel)]; exact ⟨rfl, rfl⟩))
    (fun os started H enc _ F => by rw [OpenClaim.pre_eq_preRow]; exact lifted3 os started H enc F)
theorem plain3 (f : FuncId) (fn : Func) (hf : Tryd.pinned.checked.prog.funcNamed "besom/besomlaw09.TintTells" = some f) (hfn : Tryd.pinned.checked.prog.funcs[f]? = some fn) :
    false = Tryd.pinned.checked.prog.looks [] ∧ ∀ (j : Nat) t, fn.params[j]? = some t → Tryd.pinned.checked.prog.wantsStandIn t = false := by
  obtain rfl : f = 3 := Option.some.inj ((show Tryd.prog.funcNamed "besom/besomlaw09.TintTells" = some 3 by kernel_rfl).symm.trans hf) |>.symm
  obtain rfl : fn = Tryd.f3 := (Option.some.inj (Tryd.func3.symm.trans hfn)).symm
  refine ⟨by kernel_rfl, fun j t ht => ?_⟩
  rw [Tryd.params3] at ht
  have ht' : t = 25 ∨ t = 3 := by
    have := Array.mem_of_getElem? ht
    simp at this; omega
  rcases ht' with rfl | rfl
  · exact (show Tryd.prog.wantsStandIn 25 = false by kernel_rfl)
  · exact (show Tryd.prog.wantsStandIn 3 = false by kernel_rfl)
/-- THE CARD. -/
theorem tintTells : Rows.TintTellsCardSaid :=
  Claim7.holds_tied_plain_at .later [] _ _ _ _ said3 (fun _ h => by cases h) (by kernel_rfl) (fun _ h => by cases h) tintTells_row_tie rfl ⟨rfl, rfl⟩ (by kernel_rfl) rfl plain3 (by kernel_rfl)
#print axioms tintTells
end Go.Proofs.YtbcldnaoecnffaaDoor
