/-
  Whatever the ops, the numbers and the text, of bulk at most 1048576, the six laws of code answer true.
-/
import Derived.Test.YtahlhckojmpaaaaDoorP15
import Derived.Test.YtahlhckojmpaaaaDoorTie
import Derived.Test.YtahlhckojmpaaaaDoorCards
import Derived.WalkKit
import Derived.OpenShut
import Derived.Deep.DeepHandedRow
import Derived.Stop.LaidErr
set_option linter.unusedVariables false
namespace Go.Proofs.YtahlhckojmpaaaaDoor
open Go.ChangeShapes Go.WideShapes Go.ChangeAt Go.RowKit Go.Nx Go.Shelf

theorem own : ownKnob Tryd.prog.godebug = none := by kernel_rfl
theorem laidOut : laidOutB Tryd.prog = true := by kernel_rfl
theorem glok {W : World} (h : laidMetH Tryd.prog Rows.codeTellsRow.laid W) : GlOk tgl (InW W) W := fun g cs hg => by cases hg
def one : DataW Unit → Value
  | .lit (.int k n) => .int k n
  | _ => .nilFunc
def flat1 : DataW Unit → Array Value
  | .agg l => (l.map one).toArray
  | _ => #[]
def flat2 : DataW Unit → Array Value
  | .agg l => (l.flatMap fun d => (flat1 d).toList).toArray
  | _ => #[]
def put (cs : Array Value) : Obj → Obj
  | .cells _ t frozen => .cells cs t frozen
  | o => o
noncomputable def laidWorld (os : Os) : World :=
  let w := World.holding Tryd.prog os ⟨#[], #[], []⟩
  { w with heap := ((((((((w.heap.modify 6 (put (flat1 Rows.laid_math_bits_deBruijn32tab))).modify 7 (put (flat1 Rows.laid_math_bits_deBruijn64tab))).modify 0 (put (flat1 Rows.laid_internal_strconv_uint64pow10))).modify 5 (put (flat2 Rows.laid_unicode_utf8_acceptRanges))).modify 4 (put (flat1 Rows.laid_unicode_utf8_first))).modify 3 (put #[.iface 181 (.pointer (some ⟨w.heap.size, 0, none⟩))])).modify 2 (put #[.iface 181 (.pointer (some ⟨w.heap.size + 1, 0, none⟩))])).push (.cells #[.string ⟨#[118, 97, 108, 117, 101, 32, 111, 117, 116, 32, 111, 102, 32, 114, 97, 110, 103, 101]⟩] 183)).push (.cells #[.string ⟨#[105, 110, 118, 97, 108, 105, 100, 32, 115, 121, 110, 116, 97, 120]⟩] 183) }
theorem bulk_mem {H : Type} {ds : List (DataW H)} {d : DataW H} (h : d ∈ ds) : Rows.uptoBulk d ≤ Rows.uptoBulkAll ds := by
  induction ds with
  | nil => cases h
  | cons x r ih =>
    unfold Rows.uptoBulkAll
    rcases List.mem_cons.1 h with rfl | h
    · omega
    · have := ih h; omega
theorem bulk_pos {H : Type} (d : DataW H) : 1 ≤ Rows.uptoBulk d := by
  cases d with
  | lit l => cases l <;> simp [Rows.uptoBulk]
  | _ => simp [Rows.uptoBulk]
theorem bulk_len {H : Type} (ds : List (DataW H)) : ds.length ≤ Rows.uptoBulkAll ds := by
  induction ds with
  | nil => simp
  | cons x r ih => unfold Rows.uptoBulkAll; have := bulk_pos x; simp; omega
theorem bkOk {H : Type} : BkOk (Rows.uptoBulk (H := H)) := by
  refine ⟨fun b => ?_, fun el sp => ⟨?_, fun x hx => ?_⟩, fun ps x hx => ?_⟩
  · simp [Rows.uptoBulk]
  · have := bulk_len el; simp only [Rows.uptoBulk]; omega
  · have := bulk_mem hx; simp only [Rows.uptoBulk]; omega
  · have := bulk_mem hx; simp only [Rows.uptoBulk]; omega
abbrev opSh : Sh := .st (.fs 1 (.int .i64) (.fs 1 (.int .i64) (.fs 1 (.int .i64) (.fs 1 (.int .i64) .fnil))))
theorem fits_op {xs : List T} (h : Fits opSh xs) : ∃ o, xs = [.int .i64 o.k, .int .i64 o.r, .int .i64 o.a, .int .i64 o.s] ∧ OpI o := by
  obtain ⟨x0, r0, rfl, f0, h⟩ := fits_fs1 (show Fits (.fs 1 (.int .i64) (.fs 1 (.int .i64) (.fs 1 (.int .i64) (.fs 1 (.int .i64) .fnil)))) xs from h)
  obtain ⟨x1, r1, rfl, f1, h⟩ := fits_fs1 h
  obtain ⟨x2, r2, rfl, f2, h⟩ := fits_fs1 h
  obtain ⟨x3, r3, rfl, f3, h⟩ := fits_fs1 h
  unfold Fits at h
  subst h
  obtain ⟨a, e, wa⟩ := f0; cases e
  obtain ⟨b, e, wb⟩ := f1; cases e
  obtain ⟨c, e, wc⟩ := f2; cases e
  obtain ⟨d, e, wd⟩ := f3; cases e
  exact ⟨⟨a, b, c, d⟩, rfl, wf_i64 wa, wf_i64 wb, wf_i64 wc, wf_i64 wd⟩
theorem fits_os : ∀ {ys : List T}, (∀ y ∈ ys, Flat 4 y ∧ Fits opSh y.cells ∧ y = mkEl y.cells) → ∃ l, ys = os l ∧ ∀ o ∈ l, OpI o
  | [], _ => ⟨[], rfl, fun o h => by cases h⟩
  | y :: r, h => by
    obtain ⟨_, h2, h3⟩ := h y (by simp)
    obtain ⟨o, e, ho⟩ := fits_op h2
    obtain ⟨l, e2, hl⟩ := fits_os (ys := r) fun z hz => h z (by simp [hz])
    subst e2
    rw [e] at h3
    refine ⟨o :: l, ?_, fun p hp => ?_⟩
    · rw [h3]; rfl
    · rcases List.mem_cons.1 hp with rfl | hp
      · exact ho
      · exact hl p hp
theorem hok3 : ∀ xs, FitsAll [(.sl 4 32 (.st (.fs 1 (.int .i64) (.fs 1 (.int .i64) (.fs 1 (.int .i64) (.fs 1 (.int .i64) .fnil)))))), (.st (.fs 1 (.int .i64) (.fs 1 (.int .i64) (.fs 1 (.int .i64) (.fs 1 (.int .i64) .fnil))))), (.int .i64), (.int .i64), .str] xs → (True → SmallAll 1048576 [(.sl 4 32 (.st (.fs 1 (.int .i64) (.fs 1 (.int .i64) (.fs 1 (.int .i64) (.fs 1 (.int .i64) .fnil)))))), (.st (.fs 1 (.int .i64) (.fs 1 (.int .i64) (.fs 1 (.int .i64) (.fs 1 (.int .i64) .fnil))))), (.int .i64), (.int .i64), .str] xs) → FnOk Tryd.prog tgl 3 xs (.bool true) := by
  intro xs hx hsm
  have hsm := hsm trivial
  obtain ⟨x0, r0, rfl, f0, hx0⟩ := hx
  obtain ⟨y0, e, b0, hf0⟩ := f0; cases e
  obtain ⟨x1, r1, rfl, f1, hx1⟩ := hx0
  obtain ⟨q1, rfl, g1⟩ := f1
  obtain ⟨x1_0, z1_0, rfl, f1_0, g1_0⟩ := fits_fs1 g1
  obtain ⟨n1_0, e, wf1_0⟩ := f1_0; cases e
  have w1_0 := wf_i64 wf1_0
  obtain ⟨x1_1, z1_1, rfl, f1_1, g1_0_1⟩ := fits_fs1 g1_0
  obtain ⟨n1_1, e, wf1_1⟩ := f1_1; cases e
  have w1_1 := wf_i64 wf1_1
  obtain ⟨x1_2, z1_2, rfl, f1_2, g1_0_1_2⟩ := fits_fs1 g1_0_1
  obtain ⟨n1_2, e, wf1_2⟩ := f1_2; cases e
  have w1_2 := wf_i64 wf1_2
  obtain ⟨x1_3, z1_3, rfl, f1_3, g1_0_1_2_3⟩ := fits_fs1 g1_0_1_2
  obtain ⟨n1_3, e, wf1_3⟩ := f1_3; cases e
  have w1_3 := wf_i64 wf1_3
  have eg1_0_1_2_3 := g1_0_1_2_3; unfold Fits at eg1_0_1_2_3; subst eg1_0_1_2_3
  obtain ⟨x2, r2, rfl, f2, hx2⟩ := hx1
  obtain ⟨n2, e, wf2⟩ := f2; cases e
  have w2 := wf_i64 wf2
  obtain ⟨x3, r3, rfl, f3, hx3⟩ := hx2
  obtain ⟨n3, e, wf3⟩ := f3; cases e
  have w3 := wf_i64 wf3
  obtain ⟨x4, r4, rfl, f4, hx4⟩ := hx3
  obtain ⟨s4, e, w4⟩ := f4; cases e
  have ehx := hx4; unfold FitsAll at ehx; subst ehx
  try simp only [List.cons_append, List.nil_append, List.append_nil]
  obtain ⟨l0, rfl, h0⟩ := fits_os hf0
  have b0 := ((hsm _ _ rfl).1 _ _ rfl).1
  exact ok3 _ _ _ _ _ _ _ _ ⟨⟨l0, rfl, by rw [os_len] at b0; omega, h0⟩, ⟨w1_0, w1_1, w1_2, w1_3⟩, ((((hsm _ _ rfl).2 _ _ rfl).2 _ _ rfl).2 _ _ rfl).2 _ _ rfl |>.1 _ rfl⟩
def wit3 : Array Value := #[.slice none 0 0, .agg #[.int .i64 0, .int .i64 0, .int .i64 0, .int .i64 0], .int .i64 0, .int .i64 0, .string ⟨#[]⟩]
theorem laid_met3 (os : Os) : laidMet Tryd.prog Rows.codeTellsUptoRow.laid ((laidWorld os).forCall (fun _ _ => 0) ⟨#[], wit3, []⟩).memory :=
  laidMet_of_run' 8 (by kernel_rfl) (by kernel_rfl)
theorem reads3 (os : Os) {H : Type} (enc : TypeId × Value → H) : ∃ places, DataW.whole enc Tryd.prog ((laidWorld os).forCall (fun _ _ => 0) ⟨#[], wit3, []⟩).memory Tryd.f3.params.toList Rows.codeTellsSpec.vars false wit3.toList 8 = some ([.nil, .agg [.lit (.int .i64 0), .lit (.int .i64 0), .lit (.int .i64 0), .lit (.int .i64 0)], .lit (.int .i64 0), .lit (.int .i64 0), .lit (.string [])], [], places) :=
  ⟨[], by kernel_rfl⟩
set_option maxRecDepth 100000 in
theorem lifted3 (os : Os) (started : os.Started) (H : Type) (enc : TypeId × Value → H) (F : Stop.Interp) :
    ReturnsInHanded {} Tryd.checked os 3 .any ((Rows.OpenSpec.upto Rows.codeTellsSpec).preRow enc Tryd.prog Tryd.f3 Rows.codeTellsUptoRow.domain false Rows.codeTellsUptoRow.laid) (((Rows.OpenSpec.upto Rows.codeTellsSpec).at F).post enc Tryd.prog Tryd.f3 false true false false) := by
  obtain ⟨places, hx⟩ := reads3 os enc
  refine returnsInHanded_of_row (C := Tryd.checked) (s := Rows.OpenSpec.upto Rows.codeTellsSpec) own started (by kernel_rfl) Tryd.func3
    (witness_row_at (enc := enc) (C := Tryd.checked) false (laidWorld os) wit3 rfl (by kernel_rfl) (by kernel_rfl) (by kernel_rfl)
      (OpenSpec.preRow_of_cond 8 hx (by kernel_rfl) (fun k hk => by cases hk; kernel_rfl) (by kernel_rfl) (laid_met3 os))) ?_
  intro W base args ds gs before hval hW _ hcond hwt hL _ _
  have hbulk := hcond _ rfl
  have hbk : Rows.uptoBulkAll (ds ++ gs) ≤ 1048576 := of_decide_eq_true hbulk
  refine law_callsU (bk := Rows.uptoBulk) (B := 1048576) (sm := True) (fun _ => bkOk) (shs := [(.sl 4 32 (.st (.fs 1 (.int .i64) (.fs 1 (.int .i64) (.fs 1 (.int .i64) (.fs 1 (.int .i64) .fnil)))))), (.st (.fs 1 (.int .i64) (.fs 1 (.int .i64) (.fs 1 (.int .i64) (.fs 1 (.int .i64) .fnil))))), (.int .i64), (.int .i64), .str]) (by kernel_rfl) hok3 (glok hL) laidOut (by kernel_rfl) rfl (by kernel_rfl) rfl (fun ds hd => ?_) hval hW hwt (fun _ d hd => Nat.le_trans (bulk_mem (List.mem_append.2 (.inl hd))) hbk)
  match ds, hd with
  | [d0, d1, d2, d3, d4], _ => exact ⟨rfl, rfl, rfl⟩
theorem said3 : Rows.CodeTellsUptoSaid :=
  OpenClaim.holds_of_cond 3 Tryd.f3 rfl rfl rfl rfl rfl rfl rfl ⟨rfl, rfl, rfl, rfl, rfl⟩ rfl rfl rfl rfl rfl (by kernel_rfl) Tryd.func3 (by kernel_rfl)
    (of_decide_eq_true (by kernel_rfl)) (by unfold Func.isWrapper; first | (rw [if_pos (by decide +kernel)]; kernel_rfl) | (rw [if_neg (by decide +kernel)]; exact ⟨rfl, rfl⟩))
    (fun os started H enc _ F => by rw [OpenClaim.pre_eq_preRow]; exact lifted3 os started H enc F)
theorem plain3 (f : FuncId) (fn : Func) (hf : Tryd.pinned.checked.prog.funcNamed "besom/besomlaw11.CodeTells" = some f) (hfn : Tryd.pinned.checked.prog.funcs[f]? = some fn) :
    true = Tryd.pinned.checked.prog.looks [] ∧ ∀ (j : Nat) t, fn.params[j]? = some t → Tryd.pinned.checked.prog.wantsStandIn t = false := by
  obtain rfl : f = 3 := Option.some.inj ((show Tryd.prog.funcNamed "besom/besomlaw11.CodeTells" = some 3 by kernel_rfl).symm.trans hf) |>.symm
  obtain rfl : fn = Tryd.f3 := (Option.some.inj (Tryd.func3.symm.trans hfn)).symm
  refine ⟨by kernel_rfl, fun j t ht => ?_⟩
  have h2 : (Tryd.f3.params.toList.all fun t => !(Tryd.prog.wantsStandIn t)) = true := by kernel_rfl
  have h3 := List.all_eq_true.1 h2 t (Array.mem_toList_iff.2 (Array.mem_of_getElem? ht))
  rw [Bool.not_eq_true'] at h3
  exact h3
theorem codeTellsUpto : Rows.CodeTellsUptoCardSaid :=
  Claim7.holds_tied_plain_at .later [] _ _ _ _ said3 (fun _ h => by cases h) (by kernel_rfl) (fun _ h => by cases h) codeTellsUpto_row_tie rfl ⟨rfl, rfl⟩ (by kernel_rfl) rfl plain3 (by kernel_rfl)
#print axioms codeTellsUpto
theorem hok4 : ∀ xs, FitsAll [(.sl 1 1 (.int .u8))] xs → (True → SmallAll 1048576 [(.sl 1 1 (.int .u8))] xs) → FnOk Tryd.prog tgl 4 xs (.bool true) := by
  intro xs hx hsm
  have hsm := hsm trivial
  obtain ⟨x0, r0, rfl, f0, hx0⟩ := hx
  obtain ⟨y0, e, b0, hf0⟩ := f0; cases e
  obtain ⟨l0, rfl, h0⟩ := fits_bs hf0
  rw [bs_len] at b0
  have ehx := hx0; unfold FitsAll at ehx; subst ehx
  have b0 := ((hsm _ _ rfl).1 _ _ rfl).1
  exact ok4 _ ⟨l0, rfl, by rw [bs_len] at b0; omega, fun b hb => by have := h0 b hb; unfold R8 at this; omega⟩
def wit4 : Array Value := #[.slice none 0 0]
theorem laid_met4 (os : Os) : laidMet Tryd.prog Rows.codeBackUptoRow.laid ((laidWorld os).forCall (fun _ _ => 0) ⟨#[], wit4, []⟩).memory :=
  laidMet_of_run' 8 (by kernel_rfl) (by kernel_rfl)
theorem reads4 (os : Os) {H : Type} (enc : TypeId × Value → H) : ∃ places, DataW.whole enc Tryd.prog ((laidWorld os).forCall (fun _ _ => 0) ⟨#[], wit4, []⟩).memory Tryd.f4.params.toList Rows.codeBackSpec.vars false wit4.toList 8 = some ([.nil], [], places) :=
  ⟨[], by kernel_rfl⟩
set_option maxRecDepth 100000 in
theorem lifted4 (os : Os) (started : os.Started) (H : Type) (enc : TypeId × Value → H) (F : Stop.Interp) :
    ReturnsInHanded {} Tryd.checked os 4 .any ((Rows.OpenSpec.upto Rows.codeBackSpec).preRow enc Tryd.prog Tryd.f4 Rows.codeBackUptoRow.domain false Rows.codeBackUptoRow.laid) (((Rows.OpenSpec.upto Rows.codeBackSpec).at F).post enc Tryd.prog Tryd.f4 false true false false) := by
  obtain ⟨places, hx⟩ := reads4 os enc
  refine returnsInHanded_of_row (C := Tryd.checked) (s := Rows.OpenSpec.upto Rows.codeBackSpec) own started (by kernel_rfl) Tryd.func4
    (witness_row_at (enc := enc) (C := Tryd.checked) false (laidWorld os) wit4 rfl (by kernel_rfl) (by kernel_rfl) (by kernel_rfl)
      (OpenSpec.preRow_of_cond 8 hx (by kernel_rfl) (fun k hk => by cases hk; kernel_rfl) (by kernel_rfl) (laid_met4 os))) ?_
  intro W base args ds gs before hval hW _ hcond hwt hL _ _
  have hbulk := hcond _ rfl
  have hbk : Rows.uptoBulkAll (ds ++ gs) ≤ 1048576 := of_decide_eq_true hbulk
  refine law_callsU (bk := Rows.uptoBulk) (B := 1048576) (sm := True) (fun _ => bkOk) (shs := [(.sl 1 1 (.int .u8))]) (by kernel_rfl) hok4 (glok hL) laidOut (by kernel_rfl) rfl (by kernel_rfl) rfl (fun ds hd => ?_) hval hW hwt (fun _ d hd => Nat.le_trans (bulk_mem (List.mem_append.2 (.inl hd))) hbk)
  match ds, hd with
  | [d0], _ => exact ⟨rfl, rfl, rfl⟩
theorem said4 : Rows.CodeBackUptoSaid :=
  OpenClaim.holds_of_cond 4 Tryd.f4 rfl rfl rfl rfl rfl rfl rfl ⟨rfl, rfl, rfl, rfl, rfl⟩ rfl rfl rfl rfl rfl (by kernel_rfl) Tryd.func4 (by kernel_rfl)
    (of_decide_eq_true (by kernel_rfl)) (by unfold Func.isWrapper; first | (rw [if_pos (by decide +kernel)]; kernel_rfl) | (rw [if_neg (by decide +kernel)]; exact ⟨rfl, rfl⟩))
    (fun os started H enc _ F => by rw [OpenClaim.pre_eq_preRow]; exact lifted4 os started H enc F)
theorem plain4 (f : FuncId) (fn : Func) (hf : Tryd.pinned.checked.prog.funcNamed "besom/besomlaw11.CodeBack" = some f) (hfn : Tryd.pinned.checked.prog.funcs[f]? = some fn) :
    true = Tryd.pinned.checked.prog.looks [] ∧ ∀ (j : Nat) t, fn.params[j]? = some t → Tryd.pinned.checked.prog.wantsStandIn t = false := by
  obtain rfl : f = 4 := Option.some.inj ((show Tryd.prog.funcNamed "besom/besomlaw11.CodeBack" = some 4 by kernel_rfl).symm.trans hf) |>.symm
  obtain rfl : fn = Tryd.f4 := (Option.some.inj (Tryd.func4.symm.trans hfn)).symm
  refine ⟨by kernel_rfl, fun j t ht => ?_⟩
  have h2 : (Tryd.f4.params.toList.all fun t => !(Tryd.prog.wantsStandIn t)) = true := by kernel_rfl
  have h3 := List.all_eq_true.1 h2 t (Array.mem_toList_iff.2 (Array.mem_of_getElem? ht))
  rw [Bool.not_eq_true'] at h3
  exact h3
theorem codeBackUpto : Rows.CodeBackUptoCardSaid :=
  Claim7.holds_tied_plain_at .later [] _ _ _ _ said4 (fun _ h => by cases h) (by kernel_rfl) (fun _ h => by cases h) codeBackUpto_row_tie rfl ⟨rfl, rfl⟩ (by kernel_rfl) rfl plain4 (by kernel_rfl)
#print axioms codeBackUpto
end Go.Proofs.YtahlhckojmpaaaaDoor
