/-
  Whatever the ops, the numbers and the text, of bulk at most 1048576, the six laws of code answer true.
-/
import Derived.Test.YtahlhckojmpaaaaDoorP15
import Derived.Test.YtahlhckojmpaaaaDoorTie
import Derived.Test.YtahlhckojmpaaaaDoorCards
import Derived.WalkKit
import Derived.OpenShut
import Derived.Deep.DeepHandedRow
import Derived.Stop.LaidErr
set_option linter.unusedVariables false
namespace Go.Proofs.YtahlhckojmpaaaaDoor
open Go.ChangeShapes Go.WideShapes Go.ChangeAt Go.RowKit Go.Nx Go.Shelf

theorem own : ownKnob Tryd.prog.godebug = none := by kernel_rfl
theorem laidOut : laidOutB Tryd.prog = true := by kernel_rfl
theorem glok {W : World} (h : laidMetH Tryd.prog Rows.codeTellsRow.laid W) : GlOk tgl (InW W) W := fun g cs hg => by cases hg
def one : DataW Unit → Value
  | .lit (.int k n) => .int k n
  | _ => .nilFunc
def flat1 : DataW Unit → Array Value
  | .agg l => (l.map one).toArray
  | _ => #[]
def flat2 : DataW Unit → Array Value
  | .agg l => (l.flatMap fun d => (flat1 d).toList).toArray
  | _ => #[]
def put (cs : Array Value) : Obj → Obj
  | .cells _ t frozen => .cells cs t frozen
  | o => o
noncomputable def laidWorld (os : Os) : World :=
  let w := World.holding Tryd.prog os ⟨#[], #[], []⟩
  { w with heap := ((((((((w.heap.modify 6 (put (flat1 Rows.laid_math_bits_deBruijn32tab))).modify 7 (put (flat1 Rows.laid_math_bits_deBruijn64tab))).modify 0 (put (flat1 Rows.laid_internal_strconv_uint64pow10))).modify 5 (put (flat2 Rows.laid_unicode_utf8_acceptRanges))).modify 4 (put (flat1 Rows.laid_unicode_utf8_first))).modify 3 (put #[.iface 181 (.pointer (some ⟨w.heap.size, 0, none⟩))])).modify 2 (put #[.iface 181 (.pointer (some ⟨w.heap.size + 1, 0, none⟩))])).push (.cells #[.string ⟨#[118, 97, 108, 117, 101, 32, 111, 117, 116, 32, 111, 102, 32, 114, 97, 110, 103, 101]⟩] 183)).push (.cells #[.string ⟨#[105, 110, 118, 97, 108, 105, 100, 32, 115, 121, 110, 116, 97, 120]⟩] 183) }
theorem bulk_mem {H : Type} {ds : List (DataW H)} {d : DataW H} (h : d ∈ ds) : Rows.uptoBulk d ≤ Rows.uptoBulkAll ds := by
  induction ds with
  | nil => cases h
  | cons x r ih =>
    unfold Rows.uptoBulkAll
    rcases List.mem_cons.1 h with rfl | h
    · omega
    · have := ih h; omega
theorem bulk_pos {H : Type} (d : DataW H) : 1 ≤ Rows.uptoBulk d := by
  cases d with
  | lit l => cases l <;> simp [Rows.uptoBulk]
  | _ => simp [Rows.uptoBulk]
theorem bulk_len {H : Type} (ds : List (DataW H)) : ds.length ≤ Rows.uptoBulkAll ds := by
  induction ds with
  | nil => simp
  | cons x r ih => unfold Rows.uptoBulkAll; have := bulk_pos x; simp; omega
theorem bkOk {H : Type} : BkOk (Rows.uptoBulk (H := H)) := by
  refine ⟨fun b => ?_, fun el sp => ⟨?_, fun x hx => ?_⟩, fun ps x hx => ?_⟩
  · simp [Rows.uptoBulk]
  · have := bulk_len el; simp only [Rows.uptoBulk]; omega
  · have := bulk_mem hx; simp only [Rows.uptoBulk]; omega
  · have := bulk_mem hx; simp only [Rows.uptoBulk]; omega
abbrev opSh : Sh := .st (.fs 1 (.int .i64) (.fs 1 (.int .i64) (.fs 1 (.int .i64) (.fs 1 (.int .i64) .fnil))))
theorem fits_op {xs : List T} (h : Fits opSh xs) : ∃ o, xs = [.int .i64 o.k, .int .i64 o.r, .int .i64 o.a, .int .i64 o.s] ∧ OpI o := by
  obtain ⟨x0, r0, rfl, f0, h⟩ := fits_fs1 (show Fits (.fs 1 (.int .i64) (.fs 1 (.int .i64) (.fs 1 (.int .i64) (.fs 1 (.int .i64) .fnil)))) xs from h)
  obtain ⟨x1, r1, rfl, f1, h⟩ := fits_fs1 h
  obtain ⟨x2, r2, rfl, f2, h⟩ := fits_fs1 h
  obtain ⟨x3, r3, rfl, f3, h⟩ := fits_fs1 h
  unfold Fits at h
  subst h
  obtain ⟨a, e, wa⟩ := f0; cases e
  obtain ⟨b, e, wb⟩ := f1; cases e
  obtain ⟨c, e, wc⟩ := f2; cases e
  obtain ⟨d, e, wd⟩ := f3; cases e
  exact ⟨⟨a, b, c, d⟩, rfl, wf_i64 wa, wf_i64 wb, wf_i64 wc, wf_i64 wd⟩
theorem fits_os : ∀ {ys : List T}, (∀ y ∈ ys, Flat 4 y ∧ Fits opSh y.cells ∧ y = mkEl y.cells) → ∃ l, ys = os l ∧ ∀ o ∈ l, OpI o
  | [], _ => ⟨[], rfl, fun o h => by cases h⟩
  | y :: r, h => by
    obtain ⟨_, h2, h3⟩ := h y (by simp)
    obtain ⟨o, e, ho⟩ := fits_op h2
    obtain ⟨l, e2, hl⟩ := fits_os (ys := r) fun z hz => h z (by simp [hz])
    subst e2
    rw [e] at h3
    refine ⟨o :: l, ?_, fun p hp => ?_⟩
    · rw [h3]; rfl
    · rcases List.mem_cons.1 hp with rfl | hp
      · exact ho
      · exact hl p hp
theorem hok7 : ∀ xs, FitsAll [(.sl 4 32 (.st (.fs 1 (.int .i64) (.fs 1 (.int .i64) (.fs 1 (.int .i64) (.fs 1 (.int .i64) .fnil)))))), (.int .u8), (.int .u8)] xs → (True → SmallAll 1048576 [(.sl 4 32 (.st (.fs 1 (.int .i64) (.fs 1 (.int .i64) (.fs 1 (.int .i64) (.fs 1 (.int .i64) .fnil)))))), (.int .u8), (.int .u8)] xs) → FnOk Tryd.prog tgl 7 xs (.bool true) := by
  intro xs hx hsm
  have hsm := hsm trivial
  obtain ⟨x0, r0, rfl, f0, hx0⟩ := hx
  obtain ⟨y0, e, b0, hf0⟩ := f0; cases e
  obtain ⟨x1, r1, rfl, f1, hx1⟩ := hx0
  obtain ⟨n1, e, wf1⟩ := f1; cases e
  have w1 := wf_u8 wf1
  obtain ⟨x2, r2, rfl, f2, hx2⟩ := hx1
  obtain ⟨n2, e, wf2⟩ := f2; cases e
  have w2 := wf_u8 wf2
  have ehx := hx2; unfold FitsAll at ehx; subst ehx
  obtain ⟨l0, rfl, h0⟩ := fits_os hf0
  have b0 := ((hsm _ _ rfl).1 _ _ rfl).1
  exact ok7 _ _ _ ⟨⟨l0, rfl, by rw [os_len] at b0; omega, h0⟩, by unfold U8'; omega, by unfold U8'; omega⟩
def wit7 : Array Value := #[.slice none 0 0, .int .u8 0, .int .u8 0]
theorem laid_met7 (os : Os) : laidMet Tryd.prog Rows.codeFitsUptoRow.laid ((laidWorld os).forCall (fun _ _ => 0) ⟨#[], wit7, []⟩).memory :=
  laidMet_of_run' 8 (by kernel_rfl) (by kernel_rfl)
theorem reads7 (os : Os) {H : Type} (enc : TypeId × Value → H) : ∃ places, DataW.whole enc Tryd.prog ((laidWorld os).forCall (fun _ _ => 0) ⟨#[], wit7, []⟩).memory Tryd.f7.params.toList Rows.codeFitsSpec.vars false wit7.toList 8 = some ([.nil, .lit (.int .u8 0), .lit (.int .u8 0)], [], places) :=
  ⟨[], by kernel_rfl⟩
set_option maxRecDepth 100000 in
theorem lifted7 (os : Os) (started : os.Started) (H : Type) (enc : TypeId × Value → H) (F : Stop.Interp) :
    ReturnsInHanded {} Tryd.checked os 7 .any ((Rows.OpenSpec.upto Rows.codeFitsSpec).preRow enc Tryd.prog Tryd.f7 Rows.codeFitsUptoRow.domain false Rows.codeFitsUptoRow.laid) (((Rows.OpenSpec.upto Rows.codeFitsSpec).at F).post enc Tryd.prog Tryd.f7 false true false false) := by
  obtain ⟨places, hx⟩ := reads7 os enc
  refine returnsInHanded_of_row (C := Tryd.checked) (s := Rows.OpenSpec.upto Rows.codeFitsSpec) own started (by kernel_rfl) Tryd.func7
    (witness_row_at (enc := enc) (C := Tryd.checked) false (laidWorld os) wit7 rfl (by kernel_rfl) (by kernel_rfl) (by kernel_rfl)
      (OpenSpec.preRow_of_cond 8 hx (by kernel_rfl) (fun k hk => by cases hk; kernel_rfl) (by kernel_rfl) (laid_met7 os))) ?_
  intro W base args ds gs before hval hW _ hcond hwt hL _ _
  have hbulk := hcond _ rfl
  have hbk : Rows.uptoBulkAll (ds ++ gs) ≤ 1048576 := of_decide_eq_true hbulk
  refine law_callsU (bk := Rows.uptoBulk) (B := 1048576) (sm := True) (fun _ => bkOk) (shs := [(.sl 4 32 (.st (.fs 1 (.int .i64) (.fs 1 (.int .i64) (.fs 1 (.int .i64) (.fs 1 (.int .i64) .fnil)))))), (.int .u8), (.int .u8)]) (by kernel_rfl) hok7 (glok hL) laidOut (by kernel_rfl) rfl (by kernel_rfl) rfl (fun ds hd => ?_) hval hW hwt (fun _ d hd => Nat.le_trans (bulk_mem (List.mem_append.2 (.inl hd))) hbk)
  match ds, hd with
  | [d0, d1, d2], _ => exact ⟨rfl, rfl, rfl⟩
theorem said7 : Rows.CodeFitsUptoSaid :=
  OpenClaim.holds_of_cond 7 Tryd.f7 rfl rfl rfl rfl rfl rfl rfl ⟨rfl, rfl, rfl, rfl, rfl⟩ rfl rfl rfl rfl rfl (by kernel_rfl) Tryd.func7 (by kernel_rfl)
    (of_decide_eq_true (by kernel_rfl)) (by unfold Func.isWrapper; first | (rw [if_pos (by decide +kernel)]; kernel_rfl) | (rw [if_neg (by decide +kernel)]; exact ⟨rfl, rfl⟩))
    (fun os started H enc _ F => by rw [OpenClaim.pre_eq_preRow]; exact lifted7 os started H enc F)
theorem plain7 (f : FuncId) (fn : Func) (hf : Tryd.pinned.checked.prog.funcNamed "besom/besomlaw11.CodeFits" = some f) (hfn : Tryd.pinned.checked.prog.funcs[f]? = some fn) :
    true = Tryd.pinned.checked.prog.looks [] ∧ ∀ (j : Nat) t, fn.params[j]? = some t → Tryd.pinned.checked.prog.wantsStandIn t = false := by
  obtain rfl : f = 7 := Option.some.inj ((show Tryd.prog.funcNamed "besom/besomlaw11.CodeFits" = some 7 by kernel_rfl).symm.trans hf) |>.symm
  obtain rfl : fn = Tryd.f7 := (Option.some.inj (Tryd.func7.symm.trans hfn)).symm
  refine ⟨by kernel_rfl, fun j t ht => ?_⟩
  have h2 : (Tryd.f7.params.toList.all fun t => !(Tryd.prog.wantsStandIn t)) = true := by kernel_rfl
  have h3 := List.all_eq_true.1 h2 t (Array.mem_toList_iff.2 (Array.mem_of_getElem? ht))
  rw [Bool.not_eq_true'] at h3
  exact h3
theorem codeFitsUpto : Rows.CodeFitsUptoCardSaid :=
  Claim7.holds_tied_plain_at .later [] _ _ _ _ said7 (fun _ h => by cases h) (by kernel_rfl) (fun _ h => by cases h) codeFitsUpto_row_tie rfl ⟨rfl, rfl⟩ (by kernel_rfl) rfl plain7 (by kernel_rfl)
#print axioms codeFitsUpto
theorem hok8 : ∀ xs, FitsAll [(.sl 4 32 (.st (.fs 1 (.int .i64) (.fs 1 (.int .i64) (.fs 1 (.int .i64) (.fs 1 (.int .i64) .fnil)))))), (.sl 4 32 (.st (.fs 1 (.int .i64) (.fs 1 (.int .i64) (.fs 1 (.int .i64) (.fs 1 (.int .i64) .fnil))))))] xs → (True → SmallAll 1048576 [(.sl 4 32 (.st (.fs 1 (.int .i64) (.fs 1 (.int .i64) (.fs 1 (.int .i64) (.fs 1 (.int .i64) .fnil)))))), (.sl 4 32 (.st (.fs 1 (.int .i64) (.fs 1 (.int .i64) (.fs 1 (.int .i64) (.fs 1 (.int .i64) .fnil))))))] xs) → FnOk Tryd.prog tgl 8 xs (.bool true) := by
  intro xs hx hsm
  have hsm := hsm trivial
  obtain ⟨x0, r0, rfl, f0, hx0⟩ := hx
  obtain ⟨y0, e, b0, hf0⟩ := f0; cases e
  obtain ⟨x1, r1, rfl, f1, hx1⟩ := hx0
  obtain ⟨y1, e, b1, hf1⟩ := f1; cases e
  have ehx := hx1; unfold FitsAll at ehx; subst ehx
  obtain ⟨l0, rfl, h0⟩ := fits_os hf0
  have b0 := ((hsm _ _ rfl).1 _ _ rfl).1
  obtain ⟨l1, rfl, h1⟩ := fits_os hf1
  have b1 := (((hsm _ _ rfl).2 _ _ rfl).1 _ _ rfl).1
  exact ok8 _ _ ⟨⟨⟨l0, rfl, by rw [os_len] at b0; omega, h0⟩, b0⟩, ⟨l1, rfl, by rw [os_len] at b1; omega, h1⟩, b1⟩
def wit8 : Array Value := #[.slice none 0 0, .slice none 0 0]
theorem laid_met8 (os : Os) : laidMet Tryd.prog Rows.codeWritesUptoRow.laid ((laidWorld os).forCall (fun _ _ => 0) ⟨#[], wit8, []⟩).memory :=
  laidMet_of_run' 8 (by kernel_rfl) (by kernel_rfl)
theorem reads8 (os : Os) {H : Type} (enc : TypeId × Value → H) : ∃ places, DataW.whole enc Tryd.prog ((laidWorld os).forCall (fun _ _ => 0) ⟨#[], wit8, []⟩).memory Tryd.f8.params.toList Rows.codeWritesSpec.vars false wit8.toList 8 = some ([.nil, .nil], [], places) :=
  ⟨[], by kernel_rfl⟩
set_option maxRecDepth 100000 in
theorem lifted8 (os : Os) (started : os.Started) (H : Type) (enc : TypeId × Value → H) (F : Stop.Interp) :
    ReturnsInHanded {} Tryd.checked os 8 .any ((Rows.OpenSpec.upto Rows.codeWritesSpec).preRow enc Tryd.prog Tryd.f8 Rows.codeWritesUptoRow.domain false Rows.codeWritesUptoRow.laid) (((Rows.OpenSpec.upto Rows.codeWritesSpec).at F).post enc Tryd.prog Tryd.f8 false true false false) := by
  obtain ⟨places, hx⟩ := reads8 os enc
  refine returnsInHanded_of_row (C := Tryd.checked) (s := Rows.OpenSpec.upto Rows.codeWritesSpec) own started (by kernel_rfl) Tryd.func8
    (witness_row_at (enc := enc) (C := Tryd.checked) false (laidWorld os) wit8 rfl (by kernel_rfl) (by kernel_rfl) (by kernel_rfl)
      (OpenSpec.preRow_of_cond 8 hx (by kernel_rfl) (fun k hk => by cases hk; kernel_rfl) (by kernel_rfl) (laid_met8 os))) ?_
  intro W base args ds gs before hval hW _ hcond hwt hL _ _
  have hbulk := hcond _ rfl
  have hbk : Rows.uptoBulkAll (ds ++ gs) ≤ 1048576 := of_decide_eq_true hbulk
  refine law_callsU (bk := Rows.uptoBulk) (B := 1048576) (sm := True) (fun _ => bkOk) (shs := [(.sl 4 32 (.st (.fs 1 (.int .i64) (.fs 1 (.int .i64) (.fs 1 (.int .i64) (.fs 1 (.int .i64) .fnil)))))), (.sl 4 32 (.st (.fs 1 (.int .i64) (.fs 1 (.int .i64) (.fs 1 (.int .i64) (.fs 1 (.int .i64) .fnil))))))]) (by kernel_rfl) hok8 (glok hL) laidOut (by kernel_rfl) rfl (by kernel_rfl) rfl (fun ds hd => ?_) hval hW hwt (fun _ d hd => Nat.le_trans (bulk_mem (List.mem_append.2 (.inl hd))) hbk)
  match ds, hd with
  | [d0, d1], _ => exact ⟨rfl, rfl, rfl⟩
theorem said8 : Rows.CodeWritesUptoSaid :=
  OpenClaim.holds_of_cond 8 Tryd.f8 rfl rfl rfl rfl rfl rfl rfl ⟨rfl, rfl, rfl, rfl, rfl⟩ rfl rfl rfl rfl rfl (by kernel_rfl) Tryd.func8 (by kernel_rfl)
    (of_decide_eq_true (by kernel_rfl)) (by unfold Func.isWrapper; first | (rw [if_pos (by decide +kernel)]; kernel_rfl) | (rw [if_neg (by decide +kernel)]; exact ⟨rfl, rfl⟩))
    (fun os started H enc _ F => by rw [OpenClaim.pre_eq_preRow]; exact lifted8 os started H enc F)
theorem plain8 (f : FuncId) (fn : Func) (hf : Tryd.pinned.checked.prog.funcNamed "besom/besomlaw11.CodeWrites" = some f) (hfn : Tryd.pinned.checked.prog.funcs[f]? = some fn) :
    true = Tryd.pinned.checked.prog.looks [] ∧ ∀ (j : Nat) t, fn.params[j]? = some t → Tryd.pinned.checked.prog.wantsStandIn t = false := by
  obtain rfl : f = 8 := Option.some.inj ((show Tryd.prog.funcNamed "besom/besomlaw11.CodeWrites" = some 8 by kernel_rfl).symm.trans hf) |>.symm
  obtain rfl : fn = Tryd.f8 := (Option.some.inj (Tryd.func8.symm.trans hfn)).symm
  refine ⟨by kernel_rfl, fun j t ht => ?_⟩
  have h2 : (Tryd.f8.params.toList.all fun t => !(Tryd.prog.wantsStandIn t)) = true := by kernel_rfl
  have h3 := List.all_eq_true.1 h2 t (Array.mem_toList_iff.2 (Array.mem_of_getElem? ht))
  rw [Bool.not_eq_true'] at h3
  exact h3
theorem codeWritesUpto : Rows.CodeWritesUptoCardSaid :=
  Claim7.holds_tied_plain_at .later [] _ _ _ _ said8 (fun _ h => by cases h) (by kernel_rfl) (fun _ h => by cases h) codeWritesUpto_row_tie rfl ⟨rfl, rfl⟩ (by kernel_rfl) rfl plain8 (by kernel_rfl)
#print axioms codeWritesUpto
end Go.Proofs.YtahlhckojmpaaaaDoor
