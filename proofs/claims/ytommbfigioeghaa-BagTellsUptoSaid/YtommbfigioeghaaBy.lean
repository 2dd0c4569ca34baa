/-
  Whatever the input, BagTells answers true, where the bags are small: of any bags, any numbers all is told as the chapter says.
-/
import Derived.Test.YtommbfigioeghaaBz
import Derived.Test.YtommbfigioeghaaYe
import Derived.Test.YtommbfigioeghaaRows
import Derived.WalkKit
import Derived.OpenShut
import Derived.Deep.DeepHandedRow
set_option linter.unusedVariables false
namespace Go.Proofs.Ytommbfigioeghaa
open Go.ChangeShapes Go.WideShapes Go.ChangeAt Go.RowKit Go.Nx

theorem own : ownKnob Try.prog.godebug = none := by kernel_rfl
theorem laidOut : laidOutB Try.prog = true := by kernel_rfl
theorem bulk_mem {H : Type} {ds : List (DataW H)} {d : DataW H} (h : d ∈ ds) : Rows.uptoBulk d ≤ Rows.uptoBulkAll ds := by
  induction ds with
  | nil => cases h
  | cons x r ih =>
    unfold Rows.uptoBulkAll
    rcases List.mem_cons.1 h with rfl | h
    · omega
    · have := ih h; omega
theorem bulk_pos {H : Type} (d : DataW H) : 1 ≤ Rows.uptoBulk d := by
  cases d with
  | lit l => cases l <;> simp [Rows.uptoBulk]
  | _ => simp [Rows.uptoBulk]
theorem bulk_len {H : Type} (ds : List (DataW H)) : ds.length ≤ Rows.uptoBulkAll ds := by
  induction ds with
  | nil => simp
  | cons x r ih => unfold Rows.uptoBulkAll; have := bulk_pos x; simp; omega
theorem bkOk {H : Type} : BkOk (Rows.uptoBulk (H := H)) := by
  refine ⟨fun b => ?_, fun el sp => ⟨?_, fun x hx => ?_⟩, fun ps x hx => ?_⟩
  · simp [Rows.uptoBulk]
  · have := bulk_len el; simp only [Rows.uptoBulk]; omega
  · have := bulk_mem hx; simp only [Rows.uptoBulk]; omega
  · have := bulk_mem hx; simp only [Rows.uptoBulk]; omega
/-- What BagTells asks of its arguments, it has of any. -/
theorem hok4 : ∀ xs, FitsAll [(.sl 1 8 (.int .i64)), (.sl 1 8 (.int .i64)), (.int .i64), (.int .i64)] xs → (True → SmallAll 1048576 [(.sl 1 8 (.int .i64)), (.sl 1 8 (.int .i64)), (.int .i64), (.int .i64)] xs) → FnOk Try.prog tgl 4 xs (.bool true) := by
  intro xs hx hsm
  have hsm := hsm trivial
  obtain ⟨x0, r0, rfl, f0, hx0⟩ := hx
  obtain ⟨y0, e, b0, hf0⟩ := f0; cases e
  obtain ⟨l0, rfl, h0⟩ := fits_is hf0
  rw [is_len] at b0
  obtain ⟨x1, r1, rfl, f1, hx1⟩ := hx0
  obtain ⟨y1, e, b1, hf1⟩ := f1; cases e
  obtain ⟨l1, rfl, h1⟩ := fits_is hf1
  rw [is_len] at b1
  obtain ⟨x2, r2, rfl, f2, hx2⟩ := hx1
  obtain ⟨n2, e, wf2⟩ := f2; cases e
  have w2 := wf_i64 wf2
  obtain ⟨x3, r3, rfl, f3, hx3⟩ := hx2
  obtain ⟨n3, e, wf3⟩ := f3; cases e
  have w3 := wf_i64 wf3
  have ehx := hx3; unfold FitsAll at ehx; subst ehx
  have s0 := (hsm _ _ rfl).1 _ _ rfl
  have s1 := ((hsm _ _ rfl).2 _ _ rfl).1 _ _ rfl
  rw [is_len] at s0 s1
  exact ok4 _ _ _ _ ⟨⟨⟨⟨_, rfl, h0⟩, by rw [is_len]; exact s0.1⟩, ⟨_, rfl, h1⟩, by rw [is_len]; exact s1.1⟩, w2, w3⟩
def wit4 : Array Value := #[.slice none 0 0, .slice none 0 0, .int .i64 0, .int .i64 0]
theorem reads4 (os : Os) {H : Type} (enc : TypeId × Value → H) : ∃ places, DataW.whole enc Try.prog ((World.holding Try.prog os ⟨#[], #[], []⟩).forCall (fun _ _ => 0) ⟨#[], wit4, []⟩).memory Try.f4.params.toList Rows.bagTellsSpec.vars false wit4.toList 8 = some ([.nil, .nil, .lit (.int .i64 0), .lit (.int .i64 0)], [], places) :=
  ⟨[], by kernel_rfl⟩
set_option maxRecDepth 100000 in
theorem lifted4 (os : Os) (started : os.Started) (H : Type) (enc : TypeId × Value → H) (F : Stop.Interp) :
    ReturnsInHanded {} Try.checked os 4 .any ((Rows.OpenSpec.upto Rows.bagTellsSpec).preRow enc Try.prog Try.f4 Rows.bagTellsUptoRow.domain false Rows.bagTellsUptoRow.laid) (((Rows.OpenSpec.upto Rows.bagTellsSpec).at F).post enc Try.prog Try.f4 false true false false) := by
  obtain ⟨places, hx⟩ := reads4 os enc
  refine returnsInHanded_of_row (C := Try.checked) (s := Rows.OpenSpec.upto Rows.bagTellsSpec) own started (by kernel_rfl) Try.func4
    (witness_row_at (enc := enc) (C := Try.checked) false (World.holding Try.prog os ⟨#[], #[], []⟩) wit4 rfl (by kernel_rfl) (by kernel_rfl) (by kernel_rfl)
      (OpenSpec.preRow_of_cond 8 hx (by kernel_rfl) (fun k hk => by cases hk; kernel_rfl) (by kernel_rfl) (laidMet_of_run' 8 (by kernel_rfl) (by kernel_rfl)))) ?_
  intro W base args ds gs before hval hW _ hcond hwt hL _ _
  have hbulk := hcond _ rfl
  have hbk : Rows.uptoBulkAll (ds ++ gs) ≤ 1048576 := of_decide_eq_true hbulk
  refine law_callsU (bk := Rows.uptoBulk) (B := 1048576) (sm := True) (fun _ => bkOk) (shs := [(.sl 1 8 (.int .i64)), (.sl 1 8 (.int .i64)), (.int .i64), (.int .i64)]) (by kernel_rfl) hok4 glOk_none laidOut (by kernel_rfl) rfl (by kernel_rfl) rfl (fun ds hd => ?_) hval hW hwt (fun _ d hd => Nat.le_trans (bulk_mem (List.mem_append.2 (.inl hd))) hbk)
  match ds, hd with
  | [d0, d1, d2, d3], _ => exact ⟨rfl, rfl, rfl⟩
/-- THE LAW. -/
theorem bagTellsUpto : Rows.BagTellsUptoSaid :=
  OpenClaim.holds_of_cond 4 Try.f4 rfl rfl rfl rfl rfl rfl rfl ⟨rfl, rfl, rfl, rfl, rfl⟩ rfl rfl rfl rfl rfl (by kernel_rfl) Try.func4 (by kernel_rfl)
    (of_decide_eq_true (by kernel_rfl)) (by unfold Func.isWrapper; first | (rw [if_pos (by decide +kernel)]; kernel_rfl) | (rw [if_neg (by decide +kernel)]; exact ⟨rfl, rfl⟩))
    (fun os started H enc _ F => by rw [OpenClaim.pre_eq_preRow]; exact lifted4 os started H enc F)
#print axioms bagTellsUpto
end Go.Proofs.Ytommbfigioeghaa
