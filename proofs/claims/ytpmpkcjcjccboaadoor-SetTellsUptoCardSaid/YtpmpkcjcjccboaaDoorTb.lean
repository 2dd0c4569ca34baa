/-
  Whatever the sets, the number, the list and the text, of bulk at most 1048576, SetTells answers true: all is told as the chapter says; and SetBack, too: what is shown of a set is parsed as it.
-/
import Derived.Test.YtpmpkcjcjccboaaDoorTa
import Derived.Test.YtpmpkcjcjccboaaDoorYf
import Derived.Test.YtpmpkcjcjccboaaDoorTie
import Derived.Test.YtpmpkcjcjccboaaDoorCards
import Derived.WalkKit
import Derived.OpenShut
import Derived.Deep.DeepHandedRow
import Derived.Stop.LaidErr
set_option linter.unusedVariables false
namespace Go.Proofs.YtpmpkcjcjccboaaDoor
open Go.ChangeShapes Go.WideShapes Go.ChangeAt Go.RowKit Go.Nx Go.Shelf

theorem own : ownKnob Tryd.prog.godebug = none := by kernel_rfl
theorem laidOut : laidOutB Tryd.prog = true := by kernel_rfl
theorem gTab : Tryd.prog.globalNamed "math/bits.deBruijn64tab" = some 0 := by kernel_rfl
theorem gTabType : (Tryd.prog.globals[0]?).map (·.type) = some 82 := by kernel_rfl
theorem cells82 : Tryd.prog.cellsOf 82 = 64 := by kernel_rfl
theorem cells5 : Tryd.prog.cellsOf 5 = 1 := by kernel_rfl
theorem gES : Tryd.prog.globalNamed "strconv.ErrSyntax" = some 1 := by kernel_rfl
theorem gESType : (Tryd.prog.globals[1]?).map (·.type) = some 57 := by kernel_rfl
theorem cells107 : Tryd.prog.cellsOf 107 = 1 := by kernel_rfl
theorem cells9 : Tryd.prog.cellsOf 9 = 1 := by kernel_rfl
theorem star : "*" ++ "errors.errorString" = "*errors.errorString" := by decide
theorem row105 (u : TypeId) (h : Tryd.prog.typeName? 3 u = some "*errors.errorString") : u = 105 :=
  typeName_ptr_named (nm := "errors.errorString") (by rw [star]; kernel_rfl) (by kernel_rfl) (by decide) u (by rw [star]; exact h)
theorem gER : Tryd.prog.globalNamed "strconv.ErrRange" = some 2 := by kernel_rfl
theorem gERType : (Tryd.prog.globals[2]?).map (·.type) = some 57 := by kernel_rfl
theorem glok {W : World} (h : laidMetH Tryd.prog Rows.setTellsRow.laid W) : GlOk tgl (InW W) W := by
  have h0 : laidMet Tryd.prog Rows.setTellsRow.laid W := h
  intro g cs hg
  unfold tgl at hg
  split at hg
  · exact glOk_ints (gl := fun g => if g = 0 then some (bs dbTab) else none) (ints_of_head (zs := dbTab) (rest := _) gTab gTabType Tryd.underlying82 Tryd.underlying5 cells5 cells82 h0.tail) (fun g cs hg => by
      split at hg
      · rename_i e; cases hg; exact ⟨e, rfl⟩
      · cases hg) 0 cs (show (if (0:Nat) = 0 then some (bs dbTab) else none) = some cs by rw [if_pos rfl]; exact hg)
  · cases hg
    intro i c hc
    obtain ⟨a, s, hv, hc1, hs, -⟩ := laid_sentinel h0.tail.tail.tail.tail.tail gES gESType Tryd.underlying57 row105 Tryd.underlying105 Tryd.underlying107 rfl rfl Tryd.underlying9 cells107 cells9
    have hv0 := World.var?_cell gES hv 0
    have hw : W.cell? ⟨1, 0, none⟩ = some (.iface 105 (.pointer (some a))) := by simpa using hv0
    match i with
    | 0 =>
      simp at hc; subst hc
      refine ⟨cell_lt hw, _, hw, ?_⟩
      obtain ⟨b, o, sp⟩ := a
      obtain rfl : sp = none := by
        cases sp with
        | none => rfl
        | some k => exfalso; unfold World.cell? at hc1; split at hc1 <;> simp at hc1
      have e : s = ⟨#[105, 110, 118, 97, 108, 105, 100, 32, 115, 121, 110, 116, 97, 120]⟩ := by
        obtain ⟨d⟩ := s
        congr 1
        exact Array.toList_inj.1 hs
      subst e
      refine .ifc _ _ _ (.ref _ b o (fun _ => .string ⟨#[105, 110, 118, 97, 108, 105, 100, 32, 115, 121, 110, 116, 97, 120]⟩) (fun i hi => ?_) fun i c hc => ?_)
      · obtain rfl : i = 0 := by simp at hi; omega
        exact ⟨cell_lt hc1, hc1⟩
      · match i with
        | 0 => simp at hc; subst hc; exact .str _
        | i + 1 => simp at hc
    | i + 1 => simp at hc
  · cases hg
    intro i c hc
    obtain ⟨a, s, hv, hc1, hs, -⟩ := laid_sentinel h0.tail.tail.tail.tail gER gERType Tryd.underlying57 row105 Tryd.underlying105 Tryd.underlying107 rfl rfl Tryd.underlying9 cells107 cells9
    have hv0 := World.var?_cell gER hv 0
    have hw : W.cell? ⟨2, 0, none⟩ = some (.iface 105 (.pointer (some a))) := by simpa using hv0
    match i with
    | 0 =>
      simp at hc; subst hc
      refine ⟨cell_lt hw, _, hw, ?_⟩
      obtain ⟨b, o, sp⟩ := a
      obtain rfl : sp = none := by
        cases sp with
        | none => rfl
        | some k => exfalso; unfold World.cell? at hc1; split at hc1 <;> simp at hc1
      have e : s = ⟨#[118, 97, 108, 117, 101, 32, 111, 117, 116, 32, 111, 102, 32, 114, 97, 110, 103, 101]⟩ := by
        obtain ⟨d⟩ := s
        congr 1
        exact Array.toList_inj.1 hs
      subst e
      refine .ifc _ _ _ (.ref _ b o (fun _ => .string ⟨#[118, 97, 108, 117, 101, 32, 111, 117, 116, 32, 111, 102, 32, 114, 97, 110, 103, 101]⟩) (fun i hi => ?_) fun i c hc => ?_)
      · obtain rfl : i = 0 := by simp at hi; omega
        exact ⟨cell_lt hc1, hc1⟩
      · match i with
        | 0 => simp at hc; subst hc; exact .str _
        | i + 1 => simp at hc
    | i + 1 => simp at hc
  · cases hg
def one : DataW Unit → Value
  | .lit (.int k n) => .int k n
  | _ => .nilFunc
def flat1 : DataW Unit → Array Value
  | .agg l => (l.map one).toArray
  | _ => #[]
def flat2 : DataW Unit → Array Value
  | .agg l => (l.flatMap fun d => (flat1 d).toList).toArray
  | _ => #[]
def put (cs : Array Value) : Obj → Obj
  | .cells _ t frozen => .cells cs t frozen
  | o => o
/-- A WORLD FOR THE WITNESS. -/
noncomputable def laidWorld (os : Os) : World :=
  let w := World.holding Tryd.prog os ⟨#[], #[], []⟩
  { w with heap := ((((((((w.heap.modify 7 (put (flat1 Rows.laid_math_bits_deBruijn32tab))).modify 0 (put (flat1 Rows.laid_math_bits_deBruijn64tab))).modify 4 (put (flat1 Rows.laid_internal_strconv_uint64pow10))).modify 6 (put (flat2 Rows.laid_unicode_utf8_acceptRanges))).modify 5 (put (flat1 Rows.laid_unicode_utf8_first))).modify 2 (put #[.iface 105 (.pointer (some ⟨w.heap.size, 0, none⟩))])).modify 1 (put #[.iface 105 (.pointer (some ⟨w.heap.size + 1, 0, none⟩))])).push (.cells #[.string ⟨#[118, 97, 108, 117, 101, 32, 111, 117, 116, 32, 111, 102, 32, 114, 97, 110, 103, 101]⟩] 107)).push (.cells #[.string ⟨#[105, 110, 118, 97, 108, 105, 100, 32, 115, 121, 110, 116, 97, 120]⟩] 107) }
theorem bulk_mem {H : Type} {ds : List (DataW H)} {d : DataW H} (h : d ∈ ds) : Rows.uptoBulk d ≤ Rows.uptoBulkAll ds := by
  induction ds with
  | nil => cases h
  | cons x r ih =>
    unfold Rows.uptoBulkAll
    rcases List.mem_cons.1 h with rfl | h
    · omega
    · have := ih h; omega
theorem bulk_pos {H : Type} (d : DataW H) : 1 ≤ Rows.uptoBulk d := by
  cases d with
  | lit l => cases l <;> simp [Rows.uptoBulk]
  | _ => simp [Rows.uptoBulk]
theorem bulk_len {H : Type} (ds : List (DataW H)) : ds.length ≤ Rows.uptoBulkAll ds := by
  induction ds with
  | nil => simp
  | cons x r ih => unfold Rows.uptoBulkAll; have := bulk_pos x; simp; omega
theorem bkOk {H : Type} : BkOk (Rows.uptoBulk (H := H)) := by
  refine ⟨fun b => ?_, fun el sp => ⟨?_, fun x hx => ?_⟩, fun ps x hx => ?_⟩
  · simp [Rows.uptoBulk]
  · have := bulk_len el; simp only [Rows.uptoBulk]; omega
  · have := bulk_mem hx; simp only [Rows.uptoBulk]; omega
  · have := bulk_mem hx; simp only [Rows.uptoBulk]; omega
/-- What SetTells asks of its arguments, it has of any. -/
theorem hok3 : ∀ xs, FitsAll [(.int .u64), (.int .u64), (.int .i64), (.sl 1 8 (.int .i64)), .str] xs → (True → SmallAll 1048576 [(.int .u64), (.int .u64), (.int .i64), (.sl 1 8 (.int .i64)), .str] xs) → FnOk Tryd.prog tgl 3 xs (.bool true) := by
  intro xs hx hsm
  have hsm := hsm trivial
  obtain ⟨x0, r0, rfl, f0, hx0⟩ := hx
  obtain ⟨n0, e, wf0⟩ := f0; cases e
  have w0 := wf_u64 wf0
  obtain ⟨x1, r1, rfl, f1, hx1⟩ := hx0
  obtain ⟨n1, e, wf1⟩ := f1; cases e
  have w1 := wf_u64 wf1
  obtain ⟨x2, r2, rfl, f2, hx2⟩ := hx1
  obtain ⟨n2, e, wf2⟩ := f2; cases e
  have w2 := wf_i64 wf2
  obtain ⟨x3, r3, rfl, f3, hx3⟩ := hx2
  obtain ⟨y3, e, b3, hf3⟩ := f3; cases e
  obtain ⟨l3, rfl, h3⟩ := fits_is hf3
  rw [is_len] at b3
  obtain ⟨x4, r4, rfl, f4, hx4⟩ := hx3
  obtain ⟨s4, e, w4⟩ := f4; cases e
  have ehx := hx4; unfold FitsAll at ehx; subst ehx
  have s4' : s4.size ≤ 1048576 := (((((hsm _ _ rfl).2 _ _ rfl).2 _ _ rfl).2 _ _ rfl).2 _ _ rfl).1 _ rfl
  exact ok3 _ _ _ _ _ ⟨⟨w0, w1⟩, ⟨⟨_, rfl, h3⟩, by unfold Sz maxBytes; rw [is_len]; omega⟩, s4'⟩
def wit3 : Array Value := #[.int .u64 0, .int .u64 0, .int .i64 0, .slice none 0 0, .string ⟨#[]⟩]
theorem laid_met3 (os : Os) : laidMet Tryd.prog Rows.setTellsUptoRow.laid ((laidWorld os).forCall (fun _ _ => 0) ⟨#[], wit3, []⟩).memory :=
  laidMet_of_run' 8 (by kernel_rfl) (by kernel_rfl)
theorem reads3 (os : Os) {H : Type} (enc : TypeId × Value → H) : ∃ places, DataW.whole enc Tryd.prog ((laidWorld os).forCall (fun _ _ => 0) ⟨#[], wit3, []⟩).memory Tryd.f3.params.toList Rows.setTellsSpec.vars false wit3.toList 8 = some ([.lit (.int .u64 0), .lit (.int .u64 0), .lit (.int .i64 0), .nil, .lit (.string [])], [], places) :=
  ⟨[], by kernel_rfl⟩
set_option maxRecDepth 100000 in
theorem lifted3 (os : Os) (started : os.Started) (H : Type) (enc : TypeId × Value → H) (F : Stop.Interp) :
    ReturnsInHanded {} Tryd.checked os 3 .any ((Rows.OpenSpec.upto Rows.setTellsSpec).preRow enc Tryd.prog Tryd.f3 Rows.setTellsUptoRow.domain false Rows.setTellsUptoRow.laid) (((Rows.OpenSpec.upto Rows.setTellsSpec).at F).post enc Tryd.prog Tryd.f3 false true false false) := by
  obtain ⟨places, hx⟩ := reads3 os enc
  refine returnsInHanded_of_row (C := Tryd.checked) (s := Rows.OpenSpec.upto Rows.setTellsSpec) own started (by kernel_rfl) Tryd.func3
    (witness_row_at (enc := enc) (C := Tryd.checked) false (laidWorld os) wit3 rfl (by kernel_rfl) (by kernel_rfl) (by kernel_rfl)
      (OpenSpec.preRow_of_cond 8 hx (by kernel_rfl) (fun k hk => by cases hk; kernel_rfl) (by kernel_rfl) (laid_met3 os))) ?_
  intro W base args ds gs before hval hW _ hcond hwt hL _ _
  have hbulk := hcond _ rfl
  have hbk : Rows.uptoBulkAll (ds ++ gs) ≤ 1048576 := of_decide_eq_true hbulk
  refine law_callsU (bk := Rows.uptoBulk) (B := 1048576) (sm := True) (fun _ => bkOk) (shs := [(.int .u64), (.int .u64), (.int .i64), (.sl 1 8 (.int .i64)), .str]) (by kernel_rfl) hok3 (glok hL) laidOut (by kernel_rfl) rfl (by kernel_rfl) rfl (fun ds hd => ?_) hval hW hwt (fun _ d hd => Nat.le_trans (bulk_mem (List.mem_append.2 (.inl hd))) hbk)
  match ds, hd with
  | [d0, d1, d2, d3, d4], _ => exact ⟨rfl, rfl, rfl⟩
theorem said3 : Rows.SetTellsUptoSaid :=
  OpenClaim.holds_of_cond 3 Tryd.f3 rfl rfl rfl rfl rfl rfl rfl ⟨rfl, rfl, rfl, rfl, rfl⟩ rfl rfl rfl rfl rfl (by kernel_rfl) Tryd.func3 (by kernel_rfl)
    (of_decide_eq_true (by kernel_rfl)) (by unfold Func.isWrapper; first | (rw [if_pos (by decide +kernel)]; kernel_rfl) | (rw [if_neg (by decide +kernel)]; exact ⟨rfl, rfl⟩))
    (fun os started H enc _ F => by rw [OpenClaim.pre_eq_preRow]; exact lifted3 os started H enc F)
theorem plain3 (f : FuncId) (fn : Func) (hf : Tryd.pinned.checked.prog.funcNamed "besom/besomlaw02.SetTells" = some f) (hfn : Tryd.pinned.checked.prog.funcs[f]? = some fn) :
    true = Tryd.pinned.checked.prog.looks [] ∧ ∀ (j : Nat) t, fn.params[j]? = some t → Tryd.pinned.checked.prog.wantsStandIn t = false := by
  obtain rfl : f = 3 := Option.some.inj ((show Tryd.prog.funcNamed "besom/besomlaw02.SetTells" = some 3 by kernel_rfl).symm.trans hf) |>.symm
  obtain rfl : fn = Tryd.f3 := (Option.some.inj (Tryd.func3.symm.trans hfn)).symm
  refine ⟨by kernel_rfl, fun j t ht => ?_⟩
  have h2 : (Tryd.f3.params.toList.all fun t => !(Tryd.prog.wantsStandIn t)) = true := by kernel_rfl
  have h3 := List.all_eq_true.1 h2 t (Array.mem_toList_iff.2 (Array.mem_of_getElem? ht))
  rw [Bool.not_eq_true'] at h3
  exact h3
/-- THE CARD. -/
theorem setTellsUpto : Rows.SetTellsUptoCardSaid :=
  Claim7.holds_tied_plain_at .later [] _ _ _ _ said3 (fun _ h => by cases h) (by kernel_rfl) (fun _ h => by cases h) setTellsUpto_row_tie rfl ⟨rfl, rfl⟩ (by kernel_rfl) rfl plain3 (by kernel_rfl)
#print axioms setTellsUpto
/-- What SetBack asks of its arguments, it has of any. -/
theorem hok7 : ∀ xs, FitsAll [(.int .u64), .str] xs → (True → SmallAll 1048576 [(.int .u64), .str] xs) → FnOk Tryd.prog tgl 7 xs (.bool true) := by
  intro xs hx hsm
  have hsm := hsm trivial
  obtain ⟨x0, r0, rfl, f0, hx0⟩ := hx
  obtain ⟨n0, e, wf0⟩ := f0; cases e
  have w0 := wf_u64 wf0
  obtain ⟨x1, r1, rfl, f1, hx1⟩ := hx0
  obtain ⟨s1, e, w1⟩ := f1; cases e
  have ehx := hx1; unfold FitsAll at ehx; subst ehx
  have s1' : s1.size ≤ 1048576 := ((hsm _ _ rfl).2 _ _ rfl).1 _ rfl
  exact ok7 _ _ ⟨w0, s1'⟩
def wit7 : Array Value := #[.int .u64 0, .string ⟨#[]⟩]
theorem laid_met7 (os : Os) : laidMet Tryd.prog Rows.setBackUptoRow.laid ((laidWorld os).forCall (fun _ _ => 0) ⟨#[], wit7, []⟩).memory :=
  laidMet_of_run' 8 (by kernel_rfl) (by kernel_rfl)
theorem reads7 (os : Os) {H : Type} (enc : TypeId × Value → H) : ∃ places, DataW.whole enc Tryd.prog ((laidWorld os).forCall (fun _ _ => 0) ⟨#[], wit7, []⟩).memory Tryd.f7.params.toList Rows.setBackSpec.vars false wit7.toList 8 = some ([.lit (.int .u64 0), .lit (.string [])], [], places) :=
  ⟨[], by kernel_rfl⟩
set_option maxRecDepth 100000 in
theorem lifted7 (os : Os) (started : os.Started) (H : Type) (enc : TypeId × Value → H) (F : Stop.Interp) :
    ReturnsInHanded {} Tryd.checked os 7 .any ((Rows.OpenSpec.upto Rows.setBackSpec).preRow enc Tryd.prog Tryd.f7 Rows.setBackUptoRow.domain false Rows.setBackUptoRow.laid) (((Rows.OpenSpec.upto Rows.setBackSpec).at F).post enc Tryd.prog Tryd.f7 false true false false) := by
  obtain ⟨places, hx⟩ := reads7 os enc
  refine returnsInHanded_of_row (C := Tryd.checked) (s := Rows.OpenSpec.upto Rows.setBackSpec) own started (by kernel_rfl) Tryd.func7
    (witness_row_at (enc := enc) (C := Tryd.checked) false (laidWorld os) wit7 rfl (by kernel_rfl) (by kernel_rfl) (by kernel_rfl)
      (OpenSpec.preRow_of_cond 8 hx (by kernel_rfl) (fun k hk => by cases hk; kernel_rfl) (by kernel_rfl) (laid_met7 os))) ?_
  intro W base args ds gs before hval hW _ hcond hwt hL _ _
  have hbulk := hcond _ rfl
  have hbk : Rows.uptoBulkAll (ds ++ gs) ≤ 1048576 := of_decide_eq_true hbulk
  refine law_callsU (bk := Rows.uptoBulk) (B := 1048576) (sm := True) (fun _ => bkOk) (shs := [(.int .u64), .str]) (by kernel_rfl) hok7 (glok hL) laidOut (by kernel_rfl) rfl (by kernel_rfl) rfl (fun ds hd => ?_) hval hW hwt (fun _ d hd => Nat.le_trans (bulk_mem (List.mem_append.2 (.inl hd))) hbk)
  match ds, hd with
  | [d0, d1], _ => exact ⟨rfl, rfl, rfl⟩
theorem said7 : Rows.SetBackUptoSaid :=
  OpenClaim.holds_of_cond 7 Tryd.f7 rfl rfl rfl rfl rfl rfl rfl ⟨rfl, rfl, rfl, rfl, rfl⟩ rfl rfl rfl rfl rfl (by kernel_rfl) Tryd.func7 (by kernel_rfl)
    (of_decide_eq_true (by kernel_rfl)) (by unfold Func.isWrapper; first | (rw [if_pos (by decide +kernel)]; kernel_rfl) | (rw [if_neg (by decide +kernel)]; exact ⟨rfl, rfl⟩))
    (fun os started H enc _ F => by rw [OpenClaim.pre_eq_preRow]; exact lifted7 os started H enc F)
theorem plain7 (f : FuncId) (fn : Func) (hf : Tryd.pinned.checked.prog.funcNamed "besom/besomlaw02.SetBack" = some f) (hfn : Tryd.pinned.checked.prog.funcs[f]? = some fn) :
    true = Tryd.pinned.checked.prog.looks [] ∧ ∀ (j : Nat) t, fn.params[j]? = some t → Tryd.pinned.checked.prog.wantsStandIn t = false := by
  obtain rfl : f = 7 := Option.some.inj ((show Tryd.prog.funcNamed "besom/besomlaw02.SetBack" = some 7 by kernel_rfl).symm.trans hf) |>.symm
  obtain rfl : fn = Tryd.f7 := (Option.some.inj (Tryd.func7.symm.trans hfn)).symm
  refine ⟨by kernel_rfl, fun j t ht => ?_⟩
  have h2 : (Tryd.f7.params.toList.all fun t => !(Tryd.prog.wantsStandIn t)) = true := by kernel_rfl
  have h3 := List.all_eq_true.1 h2 t (Array.mem_toList_iff.2 (Array.mem_of_getElem? ht))
  rw [Bool.not_eq_true'] at h3
  exact h3
/-- THE CARD. -/
theorem setBackUpto : Rows.SetBackUptoCardSaid :=
  Claim7.holds_tied_plain_at .later [] _ _ _ _ said7 (fun _ h => by cases h) (by kernel_rfl) (fun _ h => by cases h) setBackUpto_row_tie rfl ⟨rfl, rfl⟩ (by kernel_rfl) rfl plain7 (by kernel_rfl)
#print axioms setBackUpto
end Go.Proofs.YtpmpkcjcjccboaaDoor
