/-
  Whatever the heaps, the numbers and the text, of bulk at most 1048576, HeapTells answers true.
-/
import Derived.Test.YtdfjedkpclebgaaDoorP17
import Derived.Test.YtdfjedkpclebgaaDoorTie
import Derived.Test.YtdfjedkpclebgaaDoorCards
import Derived.WalkKit
import Derived.OpenShut
import Derived.Deep.DeepHandedRow
import Derived.Stop.LaidErr
set_option linter.unusedVariables false
namespace Go.Proofs.YtdfjedkpclebgaaDoor
open Go.ChangeShapes Go.WideShapes Go.ChangeAt Go.RowKit Go.Nx Go.Shelf

theorem own : ownKnob Tryd.prog.godebug = none := by kernel_rfl
theorem laidOut : laidOutB Tryd.prog = true := by kernel_rfl
theorem gES : Tryd.prog.globalNamed "strconv.ErrSyntax" = some 2 := by kernel_rfl
theorem gESType : (Tryd.prog.globals[2]?).map (·.type) = some 115 := by kernel_rfl
theorem cells193 : Tryd.prog.cellsOf 193 = 1 := by kernel_rfl
theorem cells9 : Tryd.prog.cellsOf 9 = 1 := by kernel_rfl
theorem star : "*" ++ "errors.errorString" = "*errors.errorString" := by decide
theorem row191 (u : TypeId) (h : Tryd.prog.typeName? 3 u = some "*errors.errorString") : u = 191 :=
  typeName_ptr_named (nm := "errors.errorString") (by rw [star]; kernel_rfl) (by kernel_rfl) (by decide) u (by rw [star]; exact h)
theorem gER : Tryd.prog.globalNamed "strconv.ErrRange" = some 3 := by kernel_rfl
theorem gERType : (Tryd.prog.globals[3]?).map (·.type) = some 115 := by kernel_rfl
theorem glok {W : World} (h : laidMetH Tryd.prog Rows.heapTellsRow.laid W) : GlOk tgl (InW W) W := by
  have h0 : laidMet Tryd.prog Rows.heapTellsRow.laid W := h
  intro g cs hg
  unfold tgl at hg
  split at hg
  · cases hg
    intro i c hc
    obtain ⟨a, s, hv, hc1, hs, -⟩ := laid_sentinel h0.tail.tail.tail.tail.tail gES gESType Tryd.underlying115 row191 Tryd.underlying191 Tryd.underlying193 rfl rfl Tryd.underlying9 cells193 cells9
    have hv0 := World.var?_cell gES hv 0
    have hw : W.cell? ⟨2, 0, none⟩ = some (.iface 191 (.pointer (some a))) := by simpa using hv0
    match i with
    | 0 =>
      simp at hc; subst hc
      refine ⟨cell_lt hw, _, hw, ?_⟩
      obtain ⟨b, o, sp⟩ := a
      obtain rfl : sp = none := by
        cases sp with
        | none => rfl
        | some k => exfalso; unfold World.cell? at hc1; split at hc1 <;> simp at hc1
      have e : s = ⟨#[105, 110, 118, 97, 108, 105, 100, 32, 115, 121, 110, 116, 97, 120]⟩ := by
        obtain ⟨d⟩ := s
        congr 1
        exact Array.toList_inj.1 hs
      subst e
      refine .ifc _ _ _ (.ref _ b o (fun _ => .string ⟨#[105, 110, 118, 97, 108, 105, 100, 32, 115, 121, 110, 116, 97, 120]⟩) (fun i hi => ?_) fun i c hc => ?_)
      · obtain rfl : i = 0 := by simp at hi; omega
        exact ⟨cell_lt hc1, hc1⟩
      · match i with
        | 0 => simp at hc; subst hc; exact .str _
        | i + 1 => simp at hc
    | i + 1 => simp at hc
  · cases hg
    intro i c hc
    obtain ⟨a, s, hv, hc1, hs, -⟩ := laid_sentinel h0.tail.tail.tail.tail gER gERType Tryd.underlying115 row191 Tryd.underlying191 Tryd.underlying193 rfl rfl Tryd.underlying9 cells193 cells9
    have hv0 := World.var?_cell gER hv 0
    have hw : W.cell? ⟨3, 0, none⟩ = some (.iface 191 (.pointer (some a))) := by simpa using hv0
    match i with
    | 0 =>
      simp at hc; subst hc
      refine ⟨cell_lt hw, _, hw, ?_⟩
      obtain ⟨b, o, sp⟩ := a
      obtain rfl : sp = none := by
        cases sp with
        | none => rfl
        | some k => exfalso; unfold World.cell? at hc1; split at hc1 <;> simp at hc1
      have e : s = ⟨#[118, 97, 108, 117, 101, 32, 111, 117, 116, 32, 111, 102, 32, 114, 97, 110, 103, 101]⟩ := by
        obtain ⟨d⟩ := s
        congr 1
        exact Array.toList_inj.1 hs
      subst e
      refine .ifc _ _ _ (.ref _ b o (fun _ => .string ⟨#[118, 97, 108, 117, 101, 32, 111, 117, 116, 32, 111, 102, 32, 114, 97, 110, 103, 101]⟩) (fun i hi => ?_) fun i c hc => ?_)
      · obtain rfl : i = 0 := by simp at hi; omega
        exact ⟨cell_lt hc1, hc1⟩
      · match i with
        | 0 => simp at hc; subst hc; exact .str _
        | i + 1 => simp at hc
    | i + 1 => simp at hc
  · cases hg
def one : DataW Unit → Value
  | .lit (.int k n) => .int k n
  | _ => .nilFunc
def flat1 : DataW Unit → Array Value
  | .agg l => (l.map one).toArray
  | _ => #[]
def flat2 : DataW Unit → Array Value
  | .agg l => (l.flatMap fun d => (flat1 d).toList).toArray
  | _ => #[]
def put (cs : Array Value) : Obj → Obj
  | .cells _ t frozen => .cells cs t frozen
  | o => o
noncomputable def laidWorld (os : Os) : World :=
  let w := World.holding Tryd.prog os ⟨#[], #[], []⟩
  { w with heap := ((((((((w.heap.modify 7 (put (flat1 Rows.laid_math_bits_deBruijn32tab))).modify 0 (put (flat1 Rows.laid_math_bits_deBruijn64tab))).modify 4 (put (flat1 Rows.laid_internal_strconv_uint64pow10))).modify 6 (put (flat2 Rows.laid_unicode_utf8_acceptRanges))).modify 5 (put (flat1 Rows.laid_unicode_utf8_first))).modify 3 (put #[.iface 191 (.pointer (some ⟨w.heap.size, 0, none⟩))])).modify 2 (put #[.iface 191 (.pointer (some ⟨w.heap.size + 1, 0, none⟩))])).push (.cells #[.string ⟨#[118, 97, 108, 117, 101, 32, 111, 117, 116, 32, 111, 102, 32, 114, 97, 110, 103, 101]⟩] 193)).push (.cells #[.string ⟨#[105, 110, 118, 97, 108, 105, 100, 32, 115, 121, 110, 116, 97, 120]⟩] 193) }
theorem bulk_mem {H : Type} {ds : List (DataW H)} {d : DataW H} (h : d ∈ ds) : Rows.uptoBulk d ≤ Rows.uptoBulkAll ds := by
  induction ds with
  | nil => cases h
  | cons x r ih =>
    unfold Rows.uptoBulkAll
    rcases List.mem_cons.1 h with rfl | h
    · omega
    · have := ih h; omega
theorem bulk_pos {H : Type} (d : DataW H) : 1 ≤ Rows.uptoBulk d := by
  cases d with
  | lit l => cases l <;> simp [Rows.uptoBulk]
  | _ => simp [Rows.uptoBulk]
theorem bulk_len {H : Type} (ds : List (DataW H)) : ds.length ≤ Rows.uptoBulkAll ds := by
  induction ds with
  | nil => simp
  | cons x r ih => unfold Rows.uptoBulkAll; have := bulk_pos x; simp; omega
theorem bkOk {H : Type} : BkOk (Rows.uptoBulk (H := H)) := by
  refine ⟨fun b => ?_, fun el sp => ⟨?_, fun x hx => ?_⟩, fun ps x hx => ?_⟩
  · simp [Rows.uptoBulk]
  · have := bulk_len el; simp only [Rows.uptoBulk]; omega
  · have := bulk_mem hx; simp only [Rows.uptoBulk]; omega
  · have := bulk_mem hx; simp only [Rows.uptoBulk]; omega
theorem isH_of {n : Int} {L : List (List Int)} (hv : SmallV 1048576 ((Sh.fs 1 (Sh.int .i64) (Sh.fs 1 (Sh.sl 1 24 (Sh.sl 1 8 (Sh.int .i64))) Sh.fnil)).st) (T.agg [.int .i64 n, .list 1 (L.map fun l => .list 1 (is l))])) (h : ∀ l ∈ L, l.length * 8 ≤ 140737488351232 ∧ ∀ n ∈ l, I64 n) : IsH (L.map fun l => .list 1 (is l)) := by
  have k := (hv _ rfl).2.1 1 _ rfl
  refine ⟨L, rfl, by have := k.1; rwa [List.length_map] at this, fun l hl => ⟨?_, (h l hl).2⟩⟩
  have := (k.2 _ (List.mem_map.2 ⟨l, hl, rfl⟩) 1 _ rfl).1
  rwa [is_len] at this
theorem hok5 : ∀ xs, FitsAll [(.st (.fs 1 (.int .i64) (.fs 1 (.sl 1 24 (.sl 1 8 (.int .i64))) .fnil))), (.st (.fs 1 (.int .i64) (.fs 1 (.sl 1 24 (.sl 1 8 (.int .i64))) .fnil))), (.int .i64), (.int .i64), (.int .i64), (.int .i64), .str] xs → (True → SmallAll 1048576 [(.st (.fs 1 (.int .i64) (.fs 1 (.sl 1 24 (.sl 1 8 (.int .i64))) .fnil))), (.st (.fs 1 (.int .i64) (.fs 1 (.sl 1 24 (.sl 1 8 (.int .i64))) .fnil))), (.int .i64), (.int .i64), (.int .i64), (.int .i64), .str] xs) → FnOk Tryd.prog tgl 5 xs (.bool true) := by
  intro xs hx hsm
  have hsm := hsm trivial
  obtain ⟨x0, r0, rfl, f0, hx0⟩ := hx
  obtain ⟨q0, rfl, g0⟩ := f0
  obtain ⟨x0_0, z0_0, rfl, f0_0, g0_0⟩ := fits_fs1 g0
  obtain ⟨n0_0, e, wf0_0⟩ := f0_0; cases e
  have w0_0 := wf_i64 wf0_0
  obtain ⟨x0_1, z0_1, rfl, f0_1, g0_0_1⟩ := fits_fs1 g0_0
  obtain ⟨y0_1, e, b0_1, hf0_1⟩ := f0_1; cases e
  obtain ⟨L0_1, rfl, h0_1⟩ := fits_rs hf0_1
  rw [List.length_map] at b0_1
  have eg0_0_1 := g0_0_1; unfold Fits at eg0_0_1; subst eg0_0_1
  obtain ⟨x1, r1, rfl, f1, hx1⟩ := hx0
  obtain ⟨q1, rfl, g1⟩ := f1
  obtain ⟨x1_0, z1_0, rfl, f1_0, g1_0⟩ := fits_fs1 g1
  obtain ⟨n1_0, e, wf1_0⟩ := f1_0; cases e
  have w1_0 := wf_i64 wf1_0
  obtain ⟨x1_1, z1_1, rfl, f1_1, g1_0_1⟩ := fits_fs1 g1_0
  obtain ⟨y1_1, e, b1_1, hf1_1⟩ := f1_1; cases e
  obtain ⟨L1_1, rfl, h1_1⟩ := fits_rs hf1_1
  rw [List.length_map] at b1_1
  have eg1_0_1 := g1_0_1; unfold Fits at eg1_0_1; subst eg1_0_1
  obtain ⟨x2, r2, rfl, f2, hx2⟩ := hx1
  obtain ⟨n2, e, wf2⟩ := f2; cases e
  have w2 := wf_i64 wf2
  obtain ⟨x3, r3, rfl, f3, hx3⟩ := hx2
  obtain ⟨n3, e, wf3⟩ := f3; cases e
  have w3 := wf_i64 wf3
  obtain ⟨x4, r4, rfl, f4, hx4⟩ := hx3
  obtain ⟨n4, e, wf4⟩ := f4; cases e
  have w4 := wf_i64 wf4
  obtain ⟨x5, r5, rfl, f5, hx5⟩ := hx4
  obtain ⟨n5, e, wf5⟩ := f5; cases e
  have w5 := wf_i64 wf5
  obtain ⟨x6, r6, rfl, f6, hx6⟩ := hx5
  obtain ⟨s6, e, w6⟩ := f6; cases e
  have ehx := hx6; unfold FitsAll at ehx; subst ehx
  try simp only [List.cons_append, List.nil_append, List.append_nil]
  have s6' : s6.size ≤ 1048576 := ((((((((hsm _ _ rfl).2 _ _ rfl).2 _ _ rfl).2 _ _ rfl).2 _ _ rfl).2 _ _ rfl).2 _ _ rfl).1 _ rfl)
  exact ok5 _ _ _ _ _ _ _ _ _ ⟨⟨isH_of (hsm _ _ rfl).1 h0_1, isH_of ((hsm _ _ rfl).2 _ _ rfl).1 h1_1⟩, ⟨w2, w3, w4, w5⟩, s6'⟩
def wit5 : Array Value := #[.agg #[.int .i64 0, .slice none 0 0], .agg #[.int .i64 0, .slice none 0 0], .int .i64 0, .int .i64 0, .int .i64 0, .int .i64 0, .string ⟨#[]⟩]
theorem laid_met5 (os : Os) : laidMet Tryd.prog Rows.heapTellsUptoRow.laid ((laidWorld os).forCall (fun _ _ => 0) ⟨#[], wit5, []⟩).memory :=
  laidMet_of_run' 8 (by kernel_rfl) (by kernel_rfl)
theorem reads5 (os : Os) {H : Type} (enc : TypeId × Value → H) : ∃ places, DataW.whole enc Tryd.prog ((laidWorld os).forCall (fun _ _ => 0) ⟨#[], wit5, []⟩).memory Tryd.f5.params.toList Rows.heapTellsSpec.vars false wit5.toList 8 = some ([.agg [.lit (.int .i64 0), .nil], .agg [.lit (.int .i64 0), .nil], .lit (.int .i64 0), .lit (.int .i64 0), .lit (.int .i64 0), .lit (.int .i64 0), .lit (.string [])], [], places) :=
  ⟨[], by kernel_rfl⟩
set_option maxRecDepth 100000 in
theorem lifted5 (os : Os) (started : os.Started) (H : Type) (enc : TypeId × Value → H) (F : Stop.Interp) :
    ReturnsInHanded {} Tryd.checked os 5 .any ((Rows.OpenSpec.upto Rows.heapTellsSpec).preRow enc Tryd.prog Tryd.f5 Rows.heapTellsUptoRow.domain false Rows.heapTellsUptoRow.laid) (((Rows.OpenSpec.upto Rows.heapTellsSpec).at F).post enc Tryd.prog Tryd.f5 false true false false) := by
  obtain ⟨places, hx⟩ := reads5 os enc
  refine returnsInHanded_of_row (C := Tryd.checked) (s := Rows.OpenSpec.upto Rows.heapTellsSpec) own started (by kernel_rfl) Tryd.func5
    (witness_row_at (enc := enc) (C := Tryd.checked) false (laidWorld os) wit5 rfl (by kernel_rfl) (by kernel_rfl) (by kernel_rfl)
      (OpenSpec.preRow_of_cond 8 hx (by kernel_rfl) (fun k hk => by cases hk; kernel_rfl) (by kernel_rfl) (laid_met5 os))) ?_
  intro W base args ds gs before hval hW _ hcond hwt hL _ _
  have hbulk := hcond _ rfl
  have hbk : Rows.uptoBulkAll (ds ++ gs) ≤ 1048576 := of_decide_eq_true hbulk
  refine law_callsU (bk := Rows.uptoBulk) (B := 1048576) (sm := True) (fun _ => bkOk) (shs := [(.st (.fs 1 (.int .i64) (.fs 1 (.sl 1 24 (.sl 1 8 (.int .i64))) .fnil))), (.st (.fs 1 (.int .i64) (.fs 1 (.sl 1 24 (.sl 1 8 (.int .i64))) .fnil))), (.int .i64), (.int .i64), (.int .i64), (.int .i64), .str]) (by kernel_rfl) hok5 (glok hL) laidOut (by kernel_rfl) rfl (by kernel_rfl) rfl (fun ds hd => ?_) hval hW hwt (fun _ d hd => Nat.le_trans (bulk_mem (List.mem_append.2 (.inl hd))) hbk)
  match ds, hd with
  | [d0, d1, d2, d3, d4, d5, d6], _ => exact ⟨rfl, rfl, rfl⟩
theorem said5 : Rows.HeapTellsUptoSaid :=
  OpenClaim.holds_of_cond 5 Tryd.f5 rfl rfl rfl rfl rfl rfl rfl ⟨rfl, rfl, rfl, rfl, rfl⟩ rfl rfl rfl rfl rfl (by kernel_rfl) Tryd.func5 (by kernel_rfl)
    (of_decide_eq_true (by kernel_rfl)) (by unfold Func.isWrapper; first | (rw [if_pos (by decide +kernel)]; kernel_rfl) | (rw [if_neg (by decide +kernel)]; exact ⟨rfl, rfl⟩))
    (fun os started H enc _ F => by rw [OpenClaim.pre_eq_preRow]; exact lifted5 os started H enc F)
theorem plain5 (f : FuncId) (fn : Func) (hf : Tryd.pinned.checked.prog.funcNamed "besom/besomlaw03.HeapTells" = some f) (hfn : Tryd.pinned.checked.prog.funcs[f]? = some fn) :
    true = Tryd.pinned.checked.prog.looks [] ∧ ∀ (j : Nat) t, fn.params[j]? = some t → Tryd.pinned.checked.prog.wantsStandIn t = false := by
  obtain rfl : f = 5 := Option.some.inj ((show Tryd.prog.funcNamed "besom/besomlaw03.HeapTells" = some 5 by kernel_rfl).symm.trans hf) |>.symm
  obtain rfl : fn = Tryd.f5 := (Option.some.inj (Tryd.func5.symm.trans hfn)).symm
  refine ⟨by kernel_rfl, fun j t ht => ?_⟩
  have h2 : (Tryd.f5.params.toList.all fun t => !(Tryd.prog.wantsStandIn t)) = true := by kernel_rfl
  have h3 := List.all_eq_true.1 h2 t (Array.mem_toList_iff.2 (Array.mem_of_getElem? ht))
  rw [Bool.not_eq_true'] at h3
  exact h3
theorem heapTellsUpto : Rows.HeapTellsUptoCardSaid :=
  Claim7.holds_tied_plain_at .later [] _ _ _ _ said5 (fun _ h => by cases h) (by kernel_rfl) (fun _ h => by cases h) heapTellsUpto_row_tie rfl ⟨rfl, rfl⟩ (by kernel_rfl) rfl plain5 (by kernel_rfl)
#print axioms heapTellsUpto
end Go.Proofs.YtdfjedkpclebgaaDoor
