/-
  Whatever the set and the number, BagOnce answers true.
-/
import Derived.Test.YtdfjedkpclebgaaDoorP17
import Derived.Test.YtdfjedkpclebgaaDoorTie
import Derived.Test.YtdfjedkpclebgaaDoorCards
import Derived.WalkKit
import Derived.OpenShut
import Derived.Deep.DeepHandedRow
set_option linter.unusedVariables false
namespace Go.Proofs.YtdfjedkpclebgaaDoor
open Go.ChangeShapes Go.WideShapes Go.ChangeAt Go.RowKit Go.Nx

theorem own : ownKnob Tryd.prog.godebug = none := by kernel_rfl
theorem laidOut : laidOutB Tryd.prog = true := by kernel_rfl
theorem gTab : Tryd.prog.globalNamed "math/bits.deBruijn64tab" = some 0 := by kernel_rfl
theorem gTabType : (Tryd.prog.globals[0]?).map (·.type) = some 128 := by kernel_rfl
theorem cells128 : Tryd.prog.cellsOf 128 = 64 := by kernel_rfl
theorem cells5 : Tryd.prog.cellsOf 5 = 1 := by kernel_rfl
theorem glok {W : World} (h : laidMetH Tryd.prog Rows.bagOnceRow.laid W) : GlOk tgl (InW W) W :=
  glOk_ints (ints_of_head (zs := dbTab) (rest := []) gTab gTabType Tryd.underlying128 Tryd.underlying5 cells5 cells128 h) fun g cs hg => by
    unfold tgl at hg
    split at hg
    · cases hg; exact ⟨rfl, rfl⟩
    · cases hg
noncomputable def laidWorld (os : Os) : World :=
  { World.holding Tryd.prog os ⟨#[], #[], []⟩ with heap := (World.holding Tryd.prog os ⟨#[], #[], []⟩).heap.modify 0 fun
      | .cells _ t frozen => .cells (dbTab.map (Value.int .u8)).toArray t frozen
      | o => o }
theorem bulk_mem {H : Type} {ds : List (DataW H)} {d : DataW H} (h : d ∈ ds) : Rows.uptoBulk d ≤ Rows.uptoBulkAll ds := by
  induction ds with
  | nil => cases h
  | cons x r ih =>
    unfold Rows.uptoBulkAll
    rcases List.mem_cons.1 h with rfl | h
    · omega
    · have := ih h; omega
theorem bulk_pos {H : Type} (d : DataW H) : 1 ≤ Rows.uptoBulk d := by
  cases d with
  | lit l => cases l <;> simp [Rows.uptoBulk]
  | _ => simp [Rows.uptoBulk]
theorem bulk_len {H : Type} (ds : List (DataW H)) : ds.length ≤ Rows.uptoBulkAll ds := by
  induction ds with
  | nil => simp
  | cons x r ih => unfold Rows.uptoBulkAll; have := bulk_pos x; simp; omega
theorem bkOk {H : Type} : BkOk (Rows.uptoBulk (H := H)) := by
  refine ⟨fun b => ?_, fun el sp => ⟨?_, fun x hx => ?_⟩, fun ps x hx => ?_⟩
  · simp [Rows.uptoBulk]
  · have := bulk_len el; simp only [Rows.uptoBulk]; omega
  · have := bulk_mem hx; simp only [Rows.uptoBulk]; omega
  · have := bulk_mem hx; simp only [Rows.uptoBulk]; omega
theorem hok4 : ∀ xs, FitsAll [(.int .u64), (.int .i64)] xs → (True → SmallAll 1048576 [(.int .u64), (.int .i64)] xs) → FnOk Tryd.prog tgl 4 xs (.bool true) := by
  intro xs hx hsm
  have hsm := hsm trivial
  obtain ⟨x0, r0, rfl, f0, hx0⟩ := hx
  obtain ⟨n0, e, wf0⟩ := f0; cases e
  have w0 := wf_u64 wf0
  obtain ⟨x1, r1, rfl, f1, hx1⟩ := hx0
  obtain ⟨n1, e, wf1⟩ := f1; cases e
  have w1 := wf_i64 wf1
  have ehx := hx1; unfold FitsAll at ehx; subst ehx
  exact ok4 _ _ ⟨w0, w1⟩
def wit4 : Array Value := #[.int .u64 0, .int .i64 0]
theorem laid_met4 (os : Os) : laidMet Tryd.prog Rows.bagOnceUptoRow.laid ((laidWorld os).forCall (fun _ _ => 0) ⟨#[], wit4, []⟩).memory :=
  laidMet_of_run' 8 (by kernel_rfl) (by kernel_rfl)
theorem reads4 (os : Os) {H : Type} (enc : TypeId × Value → H) : ∃ places, DataW.whole enc Tryd.prog ((laidWorld os).forCall (fun _ _ => 0) ⟨#[], wit4, []⟩).memory Tryd.f4.params.toList Rows.bagOnceSpec.vars false wit4.toList 8 = some ([.lit (.int .u64 0), .lit (.int .i64 0)], [], places) :=
  ⟨[], by kernel_rfl⟩
set_option maxRecDepth 100000 in
theorem lifted4 (os : Os) (started : os.Started) (H : Type) (enc : TypeId × Value → H) (F : Stop.Interp) :
    ReturnsInHanded {} Tryd.checked os 4 .any ((Rows.OpenSpec.upto Rows.bagOnceSpec).preRow enc Tryd.prog Tryd.f4 Rows.bagOnceUptoRow.domain false Rows.bagOnceUptoRow.laid) (((Rows.OpenSpec.upto Rows.bagOnceSpec).at F).post enc Tryd.prog Tryd.f4 false true false false) := by
  obtain ⟨places, hx⟩ := reads4 os enc
  refine returnsInHanded_of_row (C := Tryd.checked) (s := Rows.OpenSpec.upto Rows.bagOnceSpec) own started (by kernel_rfl) Tryd.func4
    (witness_row_at (enc := enc) (C := Tryd.checked) false (laidWorld os) wit4 rfl (by kernel_rfl) (by kernel_rfl) (by kernel_rfl)
      (OpenSpec.preRow_of_cond 8 hx (by kernel_rfl) (fun k hk => by cases hk; kernel_rfl) (by kernel_rfl) (laid_met4 os))) ?_
  intro W base args ds gs before hval hW _ hcond hwt hL _ _
  have hbulk := hcond _ rfl
  have hbk : Rows.uptoBulkAll (ds ++ gs) ≤ 1048576 := of_decide_eq_true hbulk
  refine law_callsU (bk := Rows.uptoBulk) (B := 1048576) (sm := True) (fun _ => bkOk) (shs := [(.int .u64), (.int .i64)]) (by kernel_rfl) hok4 (glok hL) laidOut (by kernel_rfl) rfl (by kernel_rfl) rfl (fun ds hd => ?_) hval hW hwt (fun _ d hd => Nat.le_trans (bulk_mem (List.mem_append.2 (.inl hd))) hbk)
  match ds, hd with
  | [d0, d1], _ => exact ⟨rfl, rfl, rfl⟩
theorem said4 : Rows.BagOnceUptoSaid :=
  OpenClaim.holds_of_cond 4 Tryd.f4 rfl rfl rfl rfl rfl rfl rfl ⟨rfl, rfl, rfl, rfl, rfl⟩ rfl rfl rfl rfl rfl (by kernel_rfl) Tryd.func4 (by kernel_rfl)
    (of_decide_eq_true (by kernel_rfl)) (by unfold Func.isWrapper; first | (rw [if_pos (by decide +kernel)]; kernel_rfl) | (rw [if_neg (by decide +kernel)]; exact ⟨rfl, rfl⟩))
    (fun os started H enc _ F => by rw [OpenClaim.pre_eq_preRow]; exact lifted4 os started H enc F)
theorem plain4 (f : FuncId) (fn : Func) (hf : Tryd.pinned.checked.prog.funcNamed "besom/besomlaw06.BagOnce" = some f) (hfn : Tryd.pinned.checked.prog.funcs[f]? = some fn) :
    true = Tryd.pinned.checked.prog.looks [] ∧ ∀ (j : Nat) t, fn.params[j]? = some t → Tryd.pinned.checked.prog.wantsStandIn t = false := by
  obtain rfl : f = 4 := Option.some.inj ((show Tryd.prog.funcNamed "besom/besomlaw06.BagOnce" = some 4 by kernel_rfl).symm.trans hf) |>.symm
  obtain rfl : fn = Tryd.f4 := (Option.some.inj (Tryd.func4.symm.trans hfn)).symm
  refine ⟨by kernel_rfl, fun j t ht => ?_⟩
  have h2 : (Tryd.f4.params.toList.all fun t => !(Tryd.prog.wantsStandIn t)) = true := by kernel_rfl
  have h3 := List.all_eq_true.1 h2 t (Array.mem_toList_iff.2 (Array.mem_of_getElem? ht))
  rw [Bool.not_eq_true'] at h3
  exact h3
theorem bagOnceUpto : Rows.BagOnceUptoCardSaid :=
  Claim7.holds_tied_plain_at .later [] _ _ _ _ said4 (fun _ h => by cases h) (by kernel_rfl) (fun _ h => by cases h) bagOnceUpto_row_tie rfl ⟨rfl, rfl⟩ (by kernel_rfl) rfl plain4 (by kernel_rfl)
#print axioms bagOnceUpto
end Go.Proofs.YtdfjedkpclebgaaDoor
