/-
  Whatever the heap, the roots and the slot, of bulk at most 1048576, ReachCut answers true.
-/
import Derived.Test.YtdfjedkpclebgaaDoorP16
import Derived.Test.YtdfjedkpclebgaaDoorTie
import Derived.Test.YtdfjedkpclebgaaDoorCards
import Derived.WalkKit
import Derived.OpenShut
import Derived.Deep.DeepHandedRow
set_option linter.unusedVariables false
namespace Go.Proofs.YtdfjedkpclebgaaDoor
open Go.ChangeShapes Go.WideShapes Go.ChangeAt Go.RowKit Go.Nx

theorem own : ownKnob Tryd.prog.godebug = none := by kernel_rfl
theorem laidOut : laidOutB Tryd.prog = true := by kernel_rfl
theorem gTab : Tryd.prog.globalNamed "math/bits.deBruijn64tab" = some 0 := by kernel_rfl
theorem gTabType : (Tryd.prog.globals[0]?).map (·.type) = some 128 := by kernel_rfl
theorem cells128 : Tryd.prog.cellsOf 128 = 64 := by kernel_rfl
theorem cells5 : Tryd.prog.cellsOf 5 = 1 := by kernel_rfl
theorem glok {W : World} (h : laidMetH Tryd.prog Rows.reachCutRow.laid W) : GlOk tgl (InW W) W :=
  glOk_ints (ints_of_head (zs := dbTab) (rest := []) gTab gTabType Tryd.underlying128 Tryd.underlying5 cells5 cells128 h) fun g cs hg => by
    unfold tgl at hg
    split at hg
    · cases hg; exact ⟨rfl, rfl⟩
    · cases hg
noncomputable def laidWorld (os : Os) : World :=
  { World.holding Tryd.prog os ⟨#[], #[], []⟩ with heap := (World.holding Tryd.prog os ⟨#[], #[], []⟩).heap.modify 0 fun
      | .cells _ t frozen => .cells (dbTab.map (Value.int .u8)).toArray t frozen
      | o => o }
theorem bulk_mem {H : Type} {ds : List (DataW H)} {d : DataW H} (h : d ∈ ds) : Rows.uptoBulk d ≤ Rows.uptoBulkAll ds := by
  induction ds with
  | nil => cases h
  | cons x r ih =>
    unfold Rows.uptoBulkAll
    rcases List.mem_cons.1 h with rfl | h
    · omega
    · have := ih h; omega
theorem bulk_pos {H : Type} (d : DataW H) : 1 ≤ Rows.uptoBulk d := by
  cases d with
  | lit l => cases l <;> simp [Rows.uptoBulk]
  | _ => simp [Rows.uptoBulk]
theorem bulk_len {H : Type} (ds : List (DataW H)) : ds.length ≤ Rows.uptoBulkAll ds := by
  induction ds with
  | nil => simp
  | cons x r ih => unfold Rows.uptoBulkAll; have := bulk_pos x; simp; omega
theorem bkOk {H : Type} : BkOk (Rows.uptoBulk (H := H)) := by
  refine ⟨fun b => ?_, fun el sp => ⟨?_, fun x hx => ?_⟩, fun ps x hx => ?_⟩
  · simp [Rows.uptoBulk]
  · have := bulk_len el; simp only [Rows.uptoBulk]; omega
  · have := bulk_mem hx; simp only [Rows.uptoBulk]; omega
  · have := bulk_mem hx; simp only [Rows.uptoBulk]; omega
theorem isH_of {n : Int} {L : List (List Int)} (hv : SmallV 1048576 ((Sh.fs 1 (Sh.int .i64) (Sh.fs 1 (Sh.sl 1 24 (Sh.sl 1 8 (Sh.int .i64))) Sh.fnil)).st) (T.agg [.int .i64 n, .list 1 (L.map fun l => .list 1 (is l))])) (h : ∀ l ∈ L, l.length * 8 ≤ 140737488351232 ∧ ∀ n ∈ l, I64 n) : IsH (L.map fun l => .list 1 (is l)) := by
  have k := (hv _ rfl).2.1 1 _ rfl
  refine ⟨L, rfl, by have := k.1; rwa [List.length_map] at this, fun l hl => ⟨?_, (h l hl).2⟩⟩
  have := (k.2 _ (List.mem_map.2 ⟨l, hl, rfl⟩) 1 _ rfl).1
  rwa [is_len] at this
theorem hok3 : ∀ xs, FitsAll [(.st (.fs 1 (.int .i64) (.fs 1 (.sl 1 24 (.sl 1 8 (.int .i64))) .fnil))), (.int .u64), (.int .u8), (.int .u8)] xs → (True → SmallAll 1048576 [(.st (.fs 1 (.int .i64) (.fs 1 (.sl 1 24 (.sl 1 8 (.int .i64))) .fnil))), (.int .u64), (.int .u8), (.int .u8)] xs) → FnOk Tryd.prog tgl 3 xs (.bool true) := by
  intro xs hx hsm
  have hsm := hsm trivial
  obtain ⟨x0, r0, rfl, f0, hx0⟩ := hx
  obtain ⟨q0, rfl, g0⟩ := f0
  obtain ⟨x0_0, z0_0, rfl, f0_0, g0_0⟩ := fits_fs1 g0
  obtain ⟨n0_0, e, wf0_0⟩ := f0_0; cases e
  have w0_0 := wf_i64 wf0_0
  obtain ⟨x0_1, z0_1, rfl, f0_1, g0_0_1⟩ := fits_fs1 g0_0
  obtain ⟨y0_1, e, b0_1, hf0_1⟩ := f0_1; cases e
  obtain ⟨L0_1, rfl, h0_1⟩ := fits_rs hf0_1
  rw [List.length_map] at b0_1
  have eg0_0_1 := g0_0_1; unfold Fits at eg0_0_1; subst eg0_0_1
  obtain ⟨x1, r1, rfl, f1, hx1⟩ := hx0
  obtain ⟨n1, e, wf1⟩ := f1; cases e
  have w1 := wf_u64 wf1
  obtain ⟨x2, r2, rfl, f2, hx2⟩ := hx1
  obtain ⟨n2, e, wf2⟩ := f2; cases e
  have w2 := wf_u8 wf2
  obtain ⟨x3, r3, rfl, f3, hx3⟩ := hx2
  obtain ⟨n3, e, wf3⟩ := f3; cases e
  have w3 := wf_u8 wf3
  have ehx := hx3; unfold FitsAll at ehx; subst ehx
  try simp only [List.cons_append, List.nil_append, List.append_nil]
  have u2 : R8 n2 := by unfold R8; omega
  have u3 : R8 n3 := by unfold R8; omega
  exact ok3 _ _ _ _ _ ⟨⟨isH_of (hsm _ _ rfl).1 h0_1, w1⟩, u2, u3⟩
def wit3 : Array Value := #[.agg #[.int .i64 0, .slice none 0 0], .int .u64 0, .int .u8 0, .int .u8 0]
theorem laid_met3 (os : Os) : laidMet Tryd.prog Rows.reachCutUptoRow.laid ((laidWorld os).forCall (fun _ _ => 0) ⟨#[], wit3, []⟩).memory :=
  laidMet_of_run' 8 (by kernel_rfl) (by kernel_rfl)
theorem reads3 (os : Os) {H : Type} (enc : TypeId × Value → H) : ∃ places, DataW.whole enc Tryd.prog ((laidWorld os).forCall (fun _ _ => 0) ⟨#[], wit3, []⟩).memory Tryd.f3.params.toList Rows.reachCutSpec.vars false wit3.toList 8 = some ([.agg [.lit (.int .i64 0), .nil], .lit (.int .u64 0), .lit (.int .u8 0), .lit (.int .u8 0)], [], places) :=
  ⟨[], by kernel_rfl⟩
set_option maxRecDepth 100000 in
theorem lifted3 (os : Os) (started : os.Started) (H : Type) (enc : TypeId × Value → H) (F : Stop.Interp) :
    ReturnsInHanded {} Tryd.checked os 3 .any ((Rows.OpenSpec.upto Rows.reachCutSpec).preRow enc Tryd.prog Tryd.f3 Rows.reachCutUptoRow.domain false Rows.reachCutUptoRow.laid) (((Rows.OpenSpec.upto Rows.reachCutSpec).at F).post enc Tryd.prog Tryd.f3 false true false false) := by
  obtain ⟨places, hx⟩ := reads3 os enc
  refine returnsInHanded_of_row (C := Tryd.checked) (s := Rows.OpenSpec.upto Rows.reachCutSpec) own started (by kernel_rfl) Tryd.func3
    (witness_row_at (enc := enc) (C := Tryd.checked) false (laidWorld os) wit3 rfl (by kernel_rfl) (by kernel_rfl) (by kernel_rfl)
      (OpenSpec.preRow_of_cond 8 hx (by kernel_rfl) (fun k hk => by cases hk; kernel_rfl) (by kernel_rfl) (laid_met3 os))) ?_
  intro W base args ds gs before hval hW _ hcond hwt hL _ _
  have hbulk := hcond _ rfl
  have hbk : Rows.uptoBulkAll (ds ++ gs) ≤ 1048576 := of_decide_eq_true hbulk
  refine law_callsU (bk := Rows.uptoBulk) (B := 1048576) (sm := True) (fun _ => bkOk) (shs := [(.st (.fs 1 (.int .i64) (.fs 1 (.sl 1 24 (.sl 1 8 (.int .i64))) .fnil))), (.int .u64), (.int .u8), (.int .u8)]) (by kernel_rfl) hok3 (glok hL) laidOut (by kernel_rfl) rfl (by kernel_rfl) rfl (fun ds hd => ?_) hval hW hwt (fun _ d hd => Nat.le_trans (bulk_mem (List.mem_append.2 (.inl hd))) hbk)
  match ds, hd with
  | [d0, d1, d2, d3], _ => exact ⟨rfl, rfl, rfl⟩
theorem said3 : Rows.ReachCutUptoSaid :=
  OpenClaim.holds_of_cond 3 Tryd.f3 rfl rfl rfl rfl rfl rfl rfl ⟨rfl, rfl, rfl, rfl, rfl⟩ rfl rfl rfl rfl rfl (by kernel_rfl) Tryd.func3 (by kernel_rfl)
    (of_decide_eq_true (by kernel_rfl)) (by unfold Func.isWrapper; first | (rw [if_pos (by decide +kernel)]; kernel_rfl) | (rw [if_neg (by decide +kernel)]; exact ⟨rfl, rfl⟩))
    (fun os started H enc _ F => by rw [OpenClaim.pre_eq_preRow]; exact lifted3 os started H enc F)
theorem plain3 (f : FuncId) (fn : Func) (hf : Tryd.pinned.checked.prog.funcNamed "besom/besomlaw04.ReachCut" = some f) (hfn : Tryd.pinned.checked.prog.funcs[f]? = some fn) :
    true = Tryd.pinned.checked.prog.looks [] ∧ ∀ (j : Nat) t, fn.params[j]? = some t → Tryd.pinned.checked.prog.wantsStandIn t = false := by
  obtain rfl : f = 3 := Option.some.inj ((show Tryd.prog.funcNamed "besom/besomlaw04.ReachCut" = some 3 by kernel_rfl).symm.trans hf) |>.symm
  obtain rfl : fn = Tryd.f3 := (Option.some.inj (Tryd.func3.symm.trans hfn)).symm
  refine ⟨by kernel_rfl, fun j t ht => ?_⟩
  have h2 : (Tryd.f3.params.toList.all fun t => !(Tryd.prog.wantsStandIn t)) = true := by kernel_rfl
  have h3 := List.all_eq_true.1 h2 t (Array.mem_toList_iff.2 (Array.mem_of_getElem? ht))
  rw [Bool.not_eq_true'] at h3
  exact h3
theorem reachCutUpto : Rows.ReachCutUptoCardSaid :=
  Claim7.holds_tied_plain_at .later [] _ _ _ _ said3 (fun _ h => by cases h) (by kernel_rfl) (fun _ h => by cases h) reachCutUpto_row_tie rfl ⟨rfl, rfl⟩ (by kernel_rfl) rfl plain3 (by kernel_rfl)
#print axioms reachCutUpto
end Go.Proofs.YtdfjedkpclebgaaDoor
