/-
  Whatever the heaps, the text and the numbers, of bulk at most 1048576, HeapSame, HeapBack and HeapPuts answer true.
-/
import Derived.Test.YtahlhckojmpaaaaDoorP17
import Derived.Test.YtahlhckojmpaaaaDoorTie
import Derived.Test.YtahlhckojmpaaaaDoorCards
import Derived.WalkKit
import Derived.OpenShut
import Derived.Deep.DeepHandedRow
import Derived.Stop.LaidErr
set_option linter.unusedVariables false
namespace Go.Proofs.YtahlhckojmpaaaaDoor
open Go.ChangeShapes Go.WideShapes Go.ChangeAt Go.RowKit Go.Nx Go.Shelf

theorem own : ownKnob Tryd.prog.godebug = none := by kernel_rfl
theorem laidOut : laidOutB Tryd.prog = true := by kernel_rfl
theorem gES : Tryd.prog.globalNamed "strconv.ErrSyntax" = some 2 := by kernel_rfl
theorem gESType : (Tryd.prog.globals[2]?).map (·.type) = some 120 := by kernel_rfl
theorem cells183 : Tryd.prog.cellsOf 183 = 1 := by kernel_rfl
theorem cells9 : Tryd.prog.cellsOf 9 = 1 := by kernel_rfl
theorem star : "*" ++ "errors.errorString" = "*errors.errorString" := by decide
theorem row181 (u : TypeId) (h : Tryd.prog.typeName? 3 u = some "*errors.errorString") : u = 181 :=
  typeName_ptr_named (nm := "errors.errorString") (by rw [star]; kernel_rfl) (by kernel_rfl) (by decide) u (by rw [star]; exact h)
theorem gER : Tryd.prog.globalNamed "strconv.ErrRange" = some 3 := by kernel_rfl
theorem gERType : (Tryd.prog.globals[3]?).map (·.type) = some 120 := by kernel_rfl
theorem glok {W : World} (h : laidMetH Tryd.prog Rows.heapPutsRow.laid W) : GlOk tgl (InW W) W := by
  have h0 : laidMet Tryd.prog Rows.heapPutsRow.laid W := h
  intro g cs hg
  unfold tgl at hg
  split at hg
  · cases hg
    intro i c hc
    obtain ⟨a, s, hv, hc1, hs, -⟩ := laid_sentinel h0.tail.tail.tail.tail.tail gES gESType Tryd.underlying120 row181 Tryd.underlying181 Tryd.underlying183 rfl rfl Tryd.underlying9 cells183 cells9
    have hv0 := World.var?_cell gES hv 0
    have hw : W.cell? ⟨2, 0, none⟩ = some (.iface 181 (.pointer (some a))) := by simpa using hv0
    match i with
    | 0 =>
      simp at hc; subst hc
      refine ⟨cell_lt hw, _, hw, ?_⟩
      obtain ⟨b, o, sp⟩ := a
      obtain rfl : sp = none := by
        cases sp with
        | none => rfl
        | some k => exfalso; unfold World.cell? at hc1; split at hc1 <;> simp at hc1
      have e : s = ⟨#[105, 110, 118, 97, 108, 105, 100, 32, 115, 121, 110, 116, 97, 120]⟩ := by
        obtain ⟨d⟩ := s
        congr 1
        exact Array.toList_inj.1 hs
      subst e
      refine .ifc _ _ _ (.ref _ b o (fun _ => .string ⟨#[105, 110, 118, 97, 108, 105, 100, 32, 115, 121, 110, 116, 97, 120]⟩) (fun i hi => ?_) fun i c hc => ?_)
      · obtain rfl : i = 0 := by simp at hi; omega
        exact ⟨cell_lt hc1, hc1⟩
      · match i with
        | 0 => simp at hc; subst hc; exact .str _
        | i + 1 => simp at hc
    | i + 1 => simp at hc
  · cases hg
    intro i c hc
    obtain ⟨a, s, hv, hc1, hs, -⟩ := laid_sentinel h0.tail.tail.tail.tail gER gERType Tryd.underlying120 row181 Tryd.underlying181 Tryd.underlying183 rfl rfl Tryd.underlying9 cells183 cells9
    have hv0 := World.var?_cell gER hv 0
    have hw : W.cell? ⟨3, 0, none⟩ = some (.iface 181 (.pointer (some a))) := by simpa using hv0
    match i with
    | 0 =>
      simp at hc; subst hc
      refine ⟨cell_lt hw, _, hw, ?_⟩
      obtain ⟨b, o, sp⟩ := a
      obtain rfl : sp = none := by
        cases sp with
        | none => rfl
        | some k => exfalso; unfold World.cell? at hc1; split at hc1 <;> simp at hc1
      have e : s = ⟨#[118, 97, 108, 117, 101, 32, 111, 117, 116, 32, 111, 102, 32, 114, 97, 110, 103, 101]⟩ := by
        obtain ⟨d⟩ := s
        congr 1
        exact Array.toList_inj.1 hs
      subst e
      refine .ifc _ _ _ (.ref _ b o (fun _ => .string ⟨#[118, 97, 108, 117, 101, 32, 111, 117, 116, 32, 111, 102, 32, 114, 97, 110, 103, 101]⟩) (fun i hi => ?_) fun i c hc => ?_)
      · obtain rfl : i = 0 := by simp at hi; omega
        exact ⟨cell_lt hc1, hc1⟩
      · match i with
        | 0 => simp at hc; subst hc; exact .str _
        | i + 1 => simp at hc
    | i + 1 => simp at hc
  · cases hg
def one : DataW Unit → Value
  | .lit (.int k n) => .int k n
  | _ => .nilFunc
def flat1 : DataW Unit → Array Value
  | .agg l => (l.map one).toArray
  | _ => #[]
def flat2 : DataW Unit → Array Value
  | .agg l => (l.flatMap fun d => (flat1 d).toList).toArray
  | _ => #[]
def put (cs : Array Value) : Obj → Obj
  | .cells _ t frozen => .cells cs t frozen
  | o => o
noncomputable def laidWorld (os : Os) : World :=
  let w := World.holding Tryd.prog os ⟨#[], #[], []⟩
  { w with heap := ((((((((w.heap.modify 6 (put (flat1 Rows.laid_math_bits_deBruijn32tab))).modify 7 (put (flat1 Rows.laid_math_bits_deBruijn64tab))).modify 0 (put (flat1 Rows.laid_internal_strconv_uint64pow10))).modify 5 (put (flat2 Rows.laid_unicode_utf8_acceptRanges))).modify 4 (put (flat1 Rows.laid_unicode_utf8_first))).modify 3 (put #[.iface 181 (.pointer (some ⟨w.heap.size, 0, none⟩))])).modify 2 (put #[.iface 181 (.pointer (some ⟨w.heap.size + 1, 0, none⟩))])).push (.cells #[.string ⟨#[118, 97, 108, 117, 101, 32, 111, 117, 116, 32, 111, 102, 32, 114, 97, 110, 103, 101]⟩] 183)).push (.cells #[.string ⟨#[105, 110, 118, 97, 108, 105, 100, 32, 115, 121, 110, 116, 97, 120]⟩] 183) }
theorem bulk_mem {H : Type} {ds : List (DataW H)} {d : DataW H} (h : d ∈ ds) : Rows.uptoBulk d ≤ Rows.uptoBulkAll ds := by
  induction ds with
  | nil => cases h
  | cons x r ih =>
    unfold Rows.uptoBulkAll
    rcases List.mem_cons.1 h with rfl | h
    · omega
    · have := ih h; omega
theorem bulk_pos {H : Type} (d : DataW H) : 1 ≤ Rows.uptoBulk d := by
  cases d with
  | lit l => cases l <;> simp [Rows.uptoBulk]
  | _ => simp [Rows.uptoBulk]
theorem bulk_len {H : Type} (ds : List (DataW H)) : ds.length ≤ Rows.uptoBulkAll ds := by
  induction ds with
  | nil => simp
  | cons x r ih => unfold Rows.uptoBulkAll; have := bulk_pos x; simp; omega
theorem bkOk {H : Type} : BkOk (Rows.uptoBulk (H := H)) := by
  refine ⟨fun b => ?_, fun el sp => ⟨?_, fun x hx => ?_⟩, fun ps x hx => ?_⟩
  · simp [Rows.uptoBulk]
  · have := bulk_len el; simp only [Rows.uptoBulk]; omega
  · have := bulk_mem hx; simp only [Rows.uptoBulk]; omega
  · have := bulk_mem hx; simp only [Rows.uptoBulk]; omega
theorem isH_of {n : Int} {L : List (List Int)} (hv : SmallV 1048576 ((Sh.fs 1 (Sh.int .i64) (Sh.fs 1 (Sh.sl 1 24 (Sh.sl 1 8 (Sh.int .i64))) Sh.fnil)).st) (T.agg [.int .i64 n, .list 1 (L.map fun l => .list 1 (is l))])) (h : ∀ l ∈ L, l.length * 8 ≤ 140737488351232 ∧ ∀ n ∈ l, I64 n) : IsH (L.map fun l => .list 1 (is l)) := by
  have k := (hv _ rfl).2.1 1 _ rfl
  refine ⟨L, rfl, by have := k.1; rwa [List.length_map] at this, fun l hl => ⟨?_, (h l hl).2⟩⟩
  have := (k.2 _ (List.mem_map.2 ⟨l, hl, rfl⟩) 1 _ rfl).1
  rwa [is_len] at this
theorem hok13 : ∀ xs, FitsAll [(.st (.fs 1 (.int .i64) (.fs 1 (.sl 1 24 (.sl 1 8 (.int .i64))) .fnil))), (.st (.fs 1 (.int .i64) (.fs 1 (.sl 1 24 (.sl 1 8 (.int .i64))) .fnil)))] xs → (True → SmallAll 1048576 [(.st (.fs 1 (.int .i64) (.fs 1 (.sl 1 24 (.sl 1 8 (.int .i64))) .fnil))), (.st (.fs 1 (.int .i64) (.fs 1 (.sl 1 24 (.sl 1 8 (.int .i64))) .fnil)))] xs) → FnOk Tryd.prog tgl 13 xs (.bool true) := by
  intro xs hx hsm
  have hsm := hsm trivial
  obtain ⟨x0, r0, rfl, f0, hx0⟩ := hx
  obtain ⟨q0, rfl, g0⟩ := f0
  obtain ⟨x0_0, z0_0, rfl, f0_0, g0_0⟩ := fits_fs1 g0
  obtain ⟨n0_0, e, wf0_0⟩ := f0_0; cases e
  have w0_0 := wf_i64 wf0_0
  obtain ⟨x0_1, z0_1, rfl, f0_1, g0_0_1⟩ := fits_fs1 g0_0
  obtain ⟨y0_1, e, b0_1, hf0_1⟩ := f0_1; cases e
  obtain ⟨L0_1, rfl, h0_1⟩ := fits_rs hf0_1
  rw [List.length_map] at b0_1
  have eg0_0_1 := g0_0_1; unfold Fits at eg0_0_1; subst eg0_0_1
  obtain ⟨x1, r1, rfl, f1, hx1⟩ := hx0
  obtain ⟨q1, rfl, g1⟩ := f1
  obtain ⟨x1_0, z1_0, rfl, f1_0, g1_0⟩ := fits_fs1 g1
  obtain ⟨n1_0, e, wf1_0⟩ := f1_0; cases e
  have w1_0 := wf_i64 wf1_0
  obtain ⟨x1_1, z1_1, rfl, f1_1, g1_0_1⟩ := fits_fs1 g1_0
  obtain ⟨y1_1, e, b1_1, hf1_1⟩ := f1_1; cases e
  obtain ⟨L1_1, rfl, h1_1⟩ := fits_rs hf1_1
  rw [List.length_map] at b1_1
  have eg1_0_1 := g1_0_1; unfold Fits at eg1_0_1; subst eg1_0_1
  have ehx := hx1; unfold FitsAll at ehx; subst ehx
  try simp only [List.cons_append, List.nil_append, List.append_nil]
  exact ok13 _ _ _ _ ⟨isH_of (hsm _ _ rfl).1 h0_1, isH_of ((hsm _ _ rfl).2 _ _ rfl).1 h1_1⟩
def wit13 : Array Value := #[.agg #[.int .i64 0, .slice none 0 0], .agg #[.int .i64 0, .slice none 0 0]]
theorem laid_met13 (os : Os) : laidMet Tryd.prog Rows.heapSameUptoRow.laid ((laidWorld os).forCall (fun _ _ => 0) ⟨#[], wit13, []⟩).memory :=
  laidMet_of_run' 8 (by kernel_rfl) (by kernel_rfl)
theorem reads13 (os : Os) {H : Type} (enc : TypeId × Value → H) : ∃ places, DataW.whole enc Tryd.prog ((laidWorld os).forCall (fun _ _ => 0) ⟨#[], wit13, []⟩).memory Tryd.f13.params.toList Rows.heapSameSpec.vars false wit13.toList 8 = some ([.agg [.lit (.int .i64 0), .nil], .agg [.lit (.int .i64 0), .nil]], [], places) :=
  ⟨[], by kernel_rfl⟩
set_option maxRecDepth 100000 in
theorem lifted13 (os : Os) (started : os.Started) (H : Type) (enc : TypeId × Value → H) (F : Stop.Interp) :
    ReturnsInHanded {} Tryd.checked os 13 .any ((Rows.OpenSpec.upto Rows.heapSameSpec).preRow enc Tryd.prog Tryd.f13 Rows.heapSameUptoRow.domain false Rows.heapSameUptoRow.laid) (((Rows.OpenSpec.upto Rows.heapSameSpec).at F).post enc Tryd.prog Tryd.f13 false true false false) := by
  obtain ⟨places, hx⟩ := reads13 os enc
  refine returnsInHanded_of_row (C := Tryd.checked) (s := Rows.OpenSpec.upto Rows.heapSameSpec) own started (by kernel_rfl) Tryd.func13
    (witness_row_at (enc := enc) (C := Tryd.checked) false (laidWorld os) wit13 rfl (by kernel_rfl) (by kernel_rfl) (by kernel_rfl)
      (OpenSpec.preRow_of_cond 8 hx (by kernel_rfl) (fun k hk => by cases hk; kernel_rfl) (by kernel_rfl) (laid_met13 os))) ?_
  intro W base args ds gs before hval hW _ hcond hwt hL _ _
  have hbulk := hcond _ rfl
  have hbk : Rows.uptoBulkAll (ds ++ gs) ≤ 1048576 := of_decide_eq_true hbulk
  refine law_callsU (bk := Rows.uptoBulk) (B := 1048576) (sm := True) (fun _ => bkOk) (shs := [(.st (.fs 1 (.int .i64) (.fs 1 (.sl 1 24 (.sl 1 8 (.int .i64))) .fnil))), (.st (.fs 1 (.int .i64) (.fs 1 (.sl 1 24 (.sl 1 8 (.int .i64))) .fnil)))]) (by kernel_rfl) hok13 (glok hL) laidOut (by kernel_rfl) rfl (by kernel_rfl) rfl (fun ds hd => ?_) hval hW hwt (fun _ d hd => Nat.le_trans (bulk_mem (List.mem_append.2 (.inl hd))) hbk)
  match ds, hd with
  | [d0, d1], _ => exact ⟨rfl, rfl, rfl⟩
theorem said13 : Rows.HeapSameUptoSaid :=
  OpenClaim.holds_of_cond 13 Tryd.f13 rfl rfl rfl rfl rfl rfl rfl ⟨rfl, rfl, rfl, rfl, rfl⟩ rfl rfl rfl rfl rfl (by kernel_rfl) Tryd.func13 (by kernel_rfl)
    (of_decide_eq_true (by kernel_rfl)) (by unfold Func.isWrapper; first | (rw [if_pos (by decide +kernel)]; kernel_rfl) | (rw [if_neg (by decide +kernel)]; exact ⟨rfl, rfl⟩))
    (fun os started H enc _ F => by rw [OpenClaim.pre_eq_preRow]; exact lifted13 os started H enc F)
theorem plain13 (f : FuncId) (fn : Func) (hf : Tryd.pinned.checked.prog.funcNamed "besom/besomlaw03.HeapSame" = some f) (hfn : Tryd.pinned.checked.prog.funcs[f]? = some fn) :
    true = Tryd.pinned.checked.prog.looks [] ∧ ∀ (j : Nat) t, fn.params[j]? = some t → Tryd.pinned.checked.prog.wantsStandIn t = false := by
  obtain rfl : f = 13 := Option.some.inj ((show Tryd.prog.funcNamed "besom/besomlaw03.HeapSame" = some 13 by kernel_rfl).symm.trans hf) |>.symm
  obtain rfl : fn = Tryd.f13 := (Option.some.inj (Tryd.func13.symm.trans hfn)).symm
  refine ⟨by kernel_rfl, fun j t ht => ?_⟩
  have h2 : (Tryd.f13.params.toList.all fun t => !(Tryd.prog.wantsStandIn t)) = true := by kernel_rfl
  have h3 := List.all_eq_true.1 h2 t (Array.mem_toList_iff.2 (Array.mem_of_getElem? ht))
  rw [Bool.not_eq_true'] at h3
  exact h3
theorem heapSameUpto : Rows.HeapSameUptoCardSaid :=
  Claim7.holds_tied_plain_at .later [] _ _ _ _ said13 (fun _ h => by cases h) (by kernel_rfl) (fun _ h => by cases h) heapSameUpto_row_tie rfl ⟨rfl, rfl⟩ (by kernel_rfl) rfl plain13 (by kernel_rfl)
#print axioms heapSameUpto
theorem hok12 : ∀ xs, FitsAll [(.st (.fs 1 (.int .i64) (.fs 1 (.sl 1 24 (.sl 1 8 (.int .i64))) .fnil))), .str] xs → (True → SmallAll 1048576 [(.st (.fs 1 (.int .i64) (.fs 1 (.sl 1 24 (.sl 1 8 (.int .i64))) .fnil))), .str] xs) → FnOk Tryd.prog tgl 12 xs (.bool true) := by
  intro xs hx hsm
  have hsm := hsm trivial
  obtain ⟨x0, r0, rfl, f0, hx0⟩ := hx
  obtain ⟨q0, rfl, g0⟩ := f0
  obtain ⟨x0_0, z0_0, rfl, f0_0, g0_0⟩ := fits_fs1 g0
  obtain ⟨n0_0, e, wf0_0⟩ := f0_0; cases e
  have w0_0 := wf_i64 wf0_0
  obtain ⟨x0_1, z0_1, rfl, f0_1, g0_0_1⟩ := fits_fs1 g0_0
  obtain ⟨y0_1, e, b0_1, hf0_1⟩ := f0_1; cases e
  obtain ⟨L0_1, rfl, h0_1⟩ := fits_rs hf0_1
  rw [List.length_map] at b0_1
  have eg0_0_1 := g0_0_1; unfold Fits at eg0_0_1; subst eg0_0_1
  obtain ⟨x1, r1, rfl, f1, hx1⟩ := hx0
  obtain ⟨s1, e, w1⟩ := f1; cases e
  have ehx := hx1; unfold FitsAll at ehx; subst ehx
  try simp only [List.cons_append, List.nil_append, List.append_nil]
  have s1' : s1.size ≤ 1048576 := ((hsm _ _ rfl).2 _ _ rfl).1 _ rfl
  exact ok12 _ _ _ ⟨isH_of (hsm _ _ rfl).1 h0_1, s1'⟩
def wit12 : Array Value := #[.agg #[.int .i64 0, .slice none 0 0], .string ⟨#[]⟩]
theorem laid_met12 (os : Os) : laidMet Tryd.prog Rows.heapBackUptoRow.laid ((laidWorld os).forCall (fun _ _ => 0) ⟨#[], wit12, []⟩).memory :=
  laidMet_of_run' 8 (by kernel_rfl) (by kernel_rfl)
theorem reads12 (os : Os) {H : Type} (enc : TypeId × Value → H) : ∃ places, DataW.whole enc Tryd.prog ((laidWorld os).forCall (fun _ _ => 0) ⟨#[], wit12, []⟩).memory Tryd.f12.params.toList Rows.heapBackSpec.vars false wit12.toList 8 = some ([.agg [.lit (.int .i64 0), .nil], .lit (.string [])], [], places) :=
  ⟨[], by kernel_rfl⟩
set_option maxRecDepth 100000 in
theorem lifted12 (os : Os) (started : os.Started) (H : Type) (enc : TypeId × Value → H) (F : Stop.Interp) :
    ReturnsInHanded {} Tryd.checked os 12 .any ((Rows.OpenSpec.upto Rows.heapBackSpec).preRow enc Tryd.prog Tryd.f12 Rows.heapBackUptoRow.domain false Rows.heapBackUptoRow.laid) (((Rows.OpenSpec.upto Rows.heapBackSpec).at F).post enc Tryd.prog Tryd.f12 false true false false) := by
  obtain ⟨places, hx⟩ := reads12 os enc
  refine returnsInHanded_of_row (C := Tryd.checked) (s := Rows.OpenSpec.upto Rows.heapBackSpec) own started (by kernel_rfl) Tryd.func12
    (witness_row_at (enc := enc) (C := Tryd.checked) false (laidWorld os) wit12 rfl (by kernel_rfl) (by kernel_rfl) (by kernel_rfl)
      (OpenSpec.preRow_of_cond 8 hx (by kernel_rfl) (fun k hk => by cases hk; kernel_rfl) (by kernel_rfl) (laid_met12 os))) ?_
  intro W base args ds gs before hval hW _ hcond hwt hL _ _
  have hbulk := hcond _ rfl
  have hbk : Rows.uptoBulkAll (ds ++ gs) ≤ 1048576 := of_decide_eq_true hbulk
  refine law_callsU (bk := Rows.uptoBulk) (B := 1048576) (sm := True) (fun _ => bkOk) (shs := [(.st (.fs 1 (.int .i64) (.fs 1 (.sl 1 24 (.sl 1 8 (.int .i64))) .fnil))), .str]) (by kernel_rfl) hok12 (glok hL) laidOut (by kernel_rfl) rfl (by kernel_rfl) rfl (fun ds hd => ?_) hval hW hwt (fun _ d hd => Nat.le_trans (bulk_mem (List.mem_append.2 (.inl hd))) hbk)
  match ds, hd with
  | [d0, d1], _ => exact ⟨rfl, rfl, rfl⟩
theorem said12 : Rows.HeapBackUptoSaid :=
  OpenClaim.holds_of_cond 12 Tryd.f12 rfl rfl rfl rfl rfl rfl rfl ⟨rfl, rfl, rfl, rfl, rfl⟩ rfl rfl rfl rfl rfl (by kernel_rfl) Tryd.func12 (by kernel_rfl)
    (of_decide_eq_true (by kernel_rfl)) (by unfold Func.isWrapper; first | (rw [if_pos (by decide +kernel)]; kernel_rfl) | (rw [if_neg (by decide +kernel)]; exact ⟨rfl, rfl⟩))
    (fun os started H enc _ F => by rw [OpenClaim.pre_eq_preRow]; exact lifted12 os started H enc F)
theorem plain12 (f : FuncId) (fn : Func) (hf : Tryd.pinned.checked.prog.funcNamed "besom/besomlaw03.HeapBack" = some f) (hfn : Tryd.pinned.checked.prog.funcs[f]? = some fn) :
    true = Tryd.pinned.checked.prog.looks [] ∧ ∀ (j : Nat) t, fn.params[j]? = some t → Tryd.pinned.checked.prog.wantsStandIn t = false := by
  obtain rfl : f = 12 := Option.some.inj ((show Tryd.prog.funcNamed "besom/besomlaw03.HeapBack" = some 12 by kernel_rfl).symm.trans hf) |>.symm
  obtain rfl : fn = Tryd.f12 := (Option.some.inj (Tryd.func12.symm.trans hfn)).symm
  refine ⟨by kernel_rfl, fun j t ht => ?_⟩
  have h2 : (Tryd.f12.params.toList.all fun t => !(Tryd.prog.wantsStandIn t)) = true := by kernel_rfl
  have h3 := List.all_eq_true.1 h2 t (Array.mem_toList_iff.2 (Array.mem_of_getElem? ht))
  rw [Bool.not_eq_true'] at h3
  exact h3
theorem heapBackUpto : Rows.HeapBackUptoCardSaid :=
  Claim7.holds_tied_plain_at .later [] _ _ _ _ said12 (fun _ h => by cases h) (by kernel_rfl) (fun _ h => by cases h) heapBackUpto_row_tie rfl ⟨rfl, rfl⟩ (by kernel_rfl) rfl plain12 (by kernel_rfl)
#print axioms heapBackUpto
theorem hok10 : ∀ xs, FitsAll [(.st (.fs 1 (.int .i64) (.fs 1 (.sl 1 24 (.sl 1 8 (.int .i64))) .fnil))), (.int .u8), (.int .u8), (.int .u8), (.int .u8), (.int .u8)] xs → (True → SmallAll 1048576 [(.st (.fs 1 (.int .i64) (.fs 1 (.sl 1 24 (.sl 1 8 (.int .i64))) .fnil))), (.int .u8), (.int .u8), (.int .u8), (.int .u8), (.int .u8)] xs) → FnOk Tryd.prog tgl 10 xs (.bool true) := by
  intro xs hx hsm
  have hsm := hsm trivial
  obtain ⟨x0, r0, rfl, f0, hx0⟩ := hx
  obtain ⟨q0, rfl, g0⟩ := f0
  obtain ⟨x0_0, z0_0, rfl, f0_0, g0_0⟩ := fits_fs1 g0
  obtain ⟨n0_0, e, wf0_0⟩ := f0_0; cases e
  have w0_0 := wf_i64 wf0_0
  obtain ⟨x0_1, z0_1, rfl, f0_1, g0_0_1⟩ := fits_fs1 g0_0
  obtain ⟨y0_1, e, b0_1, hf0_1⟩ := f0_1; cases e
  obtain ⟨L0_1, rfl, h0_1⟩ := fits_rs hf0_1
  rw [List.length_map] at b0_1
  have eg0_0_1 := g0_0_1; unfold Fits at eg0_0_1; subst eg0_0_1
  obtain ⟨x1, r1, rfl, f1, hx1⟩ := hx0
  obtain ⟨n1, e, wf1⟩ := f1; cases e
  have w1 := wf_u8 wf1
  obtain ⟨x2, r2, rfl, f2, hx2⟩ := hx1
  obtain ⟨n2, e, wf2⟩ := f2; cases e
  have w2 := wf_u8 wf2
  obtain ⟨x3, r3, rfl, f3, hx3⟩ := hx2
  obtain ⟨n3, e, wf3⟩ := f3; cases e
  have w3 := wf_u8 wf3
  obtain ⟨x4, r4, rfl, f4, hx4⟩ := hx3
  obtain ⟨n4, e, wf4⟩ := f4; cases e
  have w4 := wf_u8 wf4
  obtain ⟨x5, r5, rfl, f5, hx5⟩ := hx4
  obtain ⟨n5, e, wf5⟩ := f5; cases e
  have w5 := wf_u8 wf5
  have ehx := hx5; unfold FitsAll at ehx; subst ehx
  try simp only [List.cons_append, List.nil_append, List.append_nil]
  have u1 : U8 n1 := by unfold U8; omega
  have u2 : U8 n2 := by unfold U8; omega
  have u3 : U8 n3 := by unfold U8; omega
  have u4 : U8 n4 := by unfold U8; omega
  have u5 : U8 n5 := by unfold U8; omega
  exact ok10 _ _ _ _ _ _ _ ⟨isH_of (hsm _ _ rfl).1 h0_1, u1, u2, u3, u4, u5⟩
def wit10 : Array Value := #[.agg #[.int .i64 0, .slice none 0 0], .int .u8 0, .int .u8 0, .int .u8 0, .int .u8 0, .int .u8 0]
theorem laid_met10 (os : Os) : laidMet Tryd.prog Rows.heapPutsUptoRow.laid ((laidWorld os).forCall (fun _ _ => 0) ⟨#[], wit10, []⟩).memory :=
  laidMet_of_run' 8 (by kernel_rfl) (by kernel_rfl)
theorem reads10 (os : Os) {H : Type} (enc : TypeId × Value → H) : ∃ places, DataW.whole enc Tryd.prog ((laidWorld os).forCall (fun _ _ => 0) ⟨#[], wit10, []⟩).memory Tryd.f10.params.toList Rows.heapPutsSpec.vars false wit10.toList 8 = some ([.agg [.lit (.int .i64 0), .nil], .lit (.int .u8 0), .lit (.int .u8 0), .lit (.int .u8 0), .lit (.int .u8 0), .lit (.int .u8 0)], [], places) :=
  ⟨[], by kernel_rfl⟩
set_option maxRecDepth 100000 in
theorem lifted10 (os : Os) (started : os.Started) (H : Type) (enc : TypeId × Value → H) (F : Stop.Interp) :
    ReturnsInHanded {} Tryd.checked os 10 .any ((Rows.OpenSpec.upto Rows.heapPutsSpec).preRow enc Tryd.prog Tryd.f10 Rows.heapPutsUptoRow.domain false Rows.heapPutsUptoRow.laid) (((Rows.OpenSpec.upto Rows.heapPutsSpec).at F).post enc Tryd.prog Tryd.f10 false true false false) := by
  obtain ⟨places, hx⟩ := reads10 os enc
  refine returnsInHanded_of_row (C := Tryd.checked) (s := Rows.OpenSpec.upto Rows.heapPutsSpec) own started (by kernel_rfl) Tryd.func10
    (witness_row_at (enc := enc) (C := Tryd.checked) false (laidWorld os) wit10 rfl (by kernel_rfl) (by kernel_rfl) (by kernel_rfl)
      (OpenSpec.preRow_of_cond 8 hx (by kernel_rfl) (fun k hk => by cases hk; kernel_rfl) (by kernel_rfl) (laid_met10 os))) ?_
  intro W base args ds gs before hval hW _ hcond hwt hL _ _
  have hbulk := hcond _ rfl
  have hbk : Rows.uptoBulkAll (ds ++ gs) ≤ 1048576 := of_decide_eq_true hbulk
  refine law_callsU (bk := Rows.uptoBulk) (B := 1048576) (sm := True) (fun _ => bkOk) (shs := [(.st (.fs 1 (.int .i64) (.fs 1 (.sl 1 24 (.sl 1 8 (.int .i64))) .fnil))), (.int .u8), (.int .u8), (.int .u8), (.int .u8), (.int .u8)]) (by kernel_rfl) hok10 (glok hL) laidOut (by kernel_rfl) rfl (by kernel_rfl) rfl (fun ds hd => ?_) hval hW hwt (fun _ d hd => Nat.le_trans (bulk_mem (List.mem_append.2 (.inl hd))) hbk)
  match ds, hd with
  | [d0, d1, d2, d3, d4, d5], _ => exact ⟨rfl, rfl, rfl⟩
theorem said10 : Rows.HeapPutsUptoSaid :=
  OpenClaim.holds_of_cond 10 Tryd.f10 rfl rfl rfl rfl rfl rfl rfl ⟨rfl, rfl, rfl, rfl, rfl⟩ rfl rfl rfl rfl rfl (by kernel_rfl) Tryd.func10 (by kernel_rfl)
    (of_decide_eq_true (by kernel_rfl)) (by unfold Func.isWrapper; first | (rw [if_pos (by decide +kernel)]; kernel_rfl) | (rw [if_neg (by decide +kernel)]; exact ⟨rfl, rfl⟩))
    (fun os started H enc _ F => by rw [OpenClaim.pre_eq_preRow]; exact lifted10 os started H enc F)
theorem plain10 (f : FuncId) (fn : Func) (hf : Tryd.pinned.checked.prog.funcNamed "besom/besomlaw03.HeapPuts" = some f) (hfn : Tryd.pinned.checked.prog.funcs[f]? = some fn) :
    true = Tryd.pinned.checked.prog.looks [] ∧ ∀ (j : Nat) t, fn.params[j]? = some t → Tryd.pinned.checked.prog.wantsStandIn t = false := by
  obtain rfl : f = 10 := Option.some.inj ((show Tryd.prog.funcNamed "besom/besomlaw03.HeapPuts" = some 10 by kernel_rfl).symm.trans hf) |>.symm
  obtain rfl : fn = Tryd.f10 := (Option.some.inj (Tryd.func10.symm.trans hfn)).symm
  refine ⟨by kernel_rfl, fun j t ht => ?_⟩
  have h2 : (Tryd.f10.params.toList.all fun t => !(Tryd.prog.wantsStandIn t)) = true := by kernel_rfl
  have h3 := List.all_eq_true.1 h2 t (Array.mem_toList_iff.2 (Array.mem_of_getElem? ht))
  rw [Bool.not_eq_true'] at h3
  exact h3
theorem heapPutsUpto : Rows.HeapPutsUptoCardSaid :=
  Claim7.holds_tied_plain_at .later [] _ _ _ _ said10 (fun _ h => by cases h) (by kernel_rfl) (fun _ h => by cases h) heapPutsUpto_row_tie rfl ⟨rfl, rfl⟩ (by kernel_rfl) rfl plain10 (by kernel_rfl)
#print axioms heapPutsUpto
end Go.Proofs.YtahlhckojmpaaaaDoor
