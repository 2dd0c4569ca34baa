/-
  NARROWER THAN 'FOR EVERY INPUT', by the rows' own cells (each row's printed sentence says how): TintTells: laid · TintDarker: laid · TintFresh: laid · TintBetween: laid · TintRight: laid · TintGreys: laid.
  DERIVED. THE GIVEN ROWS OF THIS SEAT. 6 by the template 'for every input the law returns true; each argument reads behind the call as it read before'; 0 by the template 'total and deterministic' (their statements: YtbcldnaoecnffaaDoorTotals.lean).
  GIVEN WITH THE SEED: the statements are not yours to turn. If you find one false, say at which input.
  Laid BY PROGRAM, IN A SANDBOX (cutbox-rows.mjs): the forced cells as the released guide's own fill.sh prints them over the translation 9e3b05d52a12341c… (all of the seat's roots in one cut). By AI agents, Wed Nov 11 2026. No macro, syntax, notation, axiom, sorry.
-/
import Derived.Test.YtbcldnaoecnffaaDoorChecked
import GoSem.Claim
import GoSem.ClaimJoined
import GoSem.ClaimMapViews
import Derived.JoinedTies
import Derived.KernelRfl
namespace Go.Proofs.YtbcldnaoecnffaaDoor
/- THE CELL 'sum', in the pinned program and in every row, IS THE sha256 OF THE DUMP (.gsa) THAT YtbcldnaoecnffaaDoorProg.lean LOADS. Nothing in Lean hashes anything: it is a label: what it is worth is what the hold of that sum in a sandbox is worth. -/
noncomputable def Tryd.pinned : Pinned := { name := "ytbcldnaoecnffaadoor", sum := "9e3b05d52a12341c37faec0a0506e9d7404fa66276fdd54e42a71198d7dceab2", checked := Tryd.checked }
namespace Rows
def none {H : Type} : Left H := { results := [], args := [] }

/- WHAT THE LISTED PACKAGE-LEVEL VARIABLES READ AS WHEN THE CALL BEGINS. Each datum BY PROGRAM (the guide's laid-datum.mjs) off the statement by which the dump's own 'gosem.cut.vars' lays the variable. In a bare row this is a premise. The card (YtbcldnaoecnffaaDoorCards.lean) ties it to the program's text. -/
def laid_besom_tint_letters {H : Type} : DataW H := .agg [.lit (.string [119]), .lit (.string [103]), .lit (.string [98])]

/-- 'besomlaw09.TintTells': WHATEVER THE INPUT: true; the input reads as it did. -/
def tintTellsSpec : ChangeSpec := { name := "tintTells", fn := fun _ => fun
  | [d1, d2, d3, d4] => { results := [.lit (.bool true)], args := [d1, d2, d3, d4] }
  | _ => none }
def tintTellsRow : OpenClaim := { program := "ytbcldnaoecnffaadoor", sum := "9e3b05d52a12341c37faec0a0506e9d7404fa66276fdd54e42a71198d7dceab2", func := "besom/besomlaw09.TintTells", spec := "tintTells", unfollowed := true, recurses := true, named := ["besom/tint.letters"], apart := false, laid := [("besom/tint.letters", laid_besom_tint_letters)] }
def TintTellsSaid : Prop := tintTellsRow.holds Tryd.pinned (OpenSpec.ofChange tintTellsSpec)

/-- ITS FALSE NEIGHBOUR: 'it returns false'. Refute it at one input. -/
def tintTellsWrong : ChangeSpec := { name := "tintTells", fn := fun _ => fun
  | [d1, d2, d3, d4] => { results := [.lit (.bool false)], args := [d1, d2, d3, d4] }
  | _ => none }
def TintTellsWrongFalsely : Prop := tintTellsRow.holds Tryd.pinned (OpenSpec.ofChange tintTellsWrong)

/-- 'besomlaw09.TintDarker': WHATEVER THE INPUT: true; the input reads as it did. -/
def tintDarkerSpec : ChangeSpec := { name := "tintDarker", fn := fun _ => fun
  | [d1, d2, d3, d4] => { results := [.lit (.bool true)], args := [d1, d2, d3, d4] }
  | _ => none }
def tintDarkerRow : OpenClaim := { program := "ytbcldnaoecnffaadoor", sum := "9e3b05d52a12341c37faec0a0506e9d7404fa66276fdd54e42a71198d7dceab2", func := "besom/besomlaw09.TintDarker", spec := "tintDarker", unfollowed := true, recurses := true, named := ["besom/tint.letters"], apart := false, laid := [("besom/tint.letters", laid_besom_tint_letters)] }
def TintDarkerSaid : Prop := tintDarkerRow.holds Tryd.pinned (OpenSpec.ofChange tintDarkerSpec)

/-- ITS FALSE NEIGHBOUR: 'it returns false'. Refute it at one input. -/
def tintDarkerWrong : ChangeSpec := { name := "tintDarker", fn := fun _ => fun
  | [d1, d2, d3, d4] => { results := [.lit (.bool false)], args := [d1, d2, d3, d4] }
  | _ => none }
def TintDarkerWrongFalsely : Prop := tintDarkerRow.holds Tryd.pinned (OpenSpec.ofChange tintDarkerWrong)

/-- 'besomlaw09.TintFresh': WHATEVER THE INPUT: true; the input reads as it did. -/
def tintFreshSpec : ChangeSpec := { name := "tintFresh", fn := fun _ => fun
  | [d1, d2, d3] => { results := [.lit (.bool true)], args := [d1, d2, d3] }
  | _ => none }
def tintFreshRow : OpenClaim := { program := "ytbcldnaoecnffaadoor", sum := "9e3b05d52a12341c37faec0a0506e9d7404fa66276fdd54e42a71198d7dceab2", func := "besom/besomlaw09.TintFresh", spec := "tintFresh", unfollowed := true, recurses := true, named := ["besom/tint.letters"], apart := false, laid := [("besom/tint.letters", laid_besom_tint_letters)] }
def TintFreshSaid : Prop := tintFreshRow.holds Tryd.pinned (OpenSpec.ofChange tintFreshSpec)

/-- ITS FALSE NEIGHBOUR: 'it returns false'. Refute it at one input. -/
def tintFreshWrong : ChangeSpec := { name := "tintFresh", fn := fun _ => fun
  | [d1, d2, d3] => { results := [.lit (.bool false)], args := [d1, d2, d3] }
  | _ => none }
def TintFreshWrongFalsely : Prop := tintFreshRow.holds Tryd.pinned (OpenSpec.ofChange tintFreshWrong)

/-- 'besomlaw09.TintBetween': WHATEVER THE INPUT: true; the input reads as it did. -/
def tintBetweenSpec : ChangeSpec := { name := "tintBetween", fn := fun _ => fun
  | [d1, d2, d3, d4] => { results := [.lit (.bool true)], args := [d1, d2, d3, d4] }
  | _ => none }
def tintBetweenRow : OpenClaim := { program := "ytbcldnaoecnffaadoor", sum := "9e3b05d52a12341c37faec0a0506e9d7404fa66276fdd54e42a71198d7dceab2", func := "besom/besomlaw09.TintBetween", spec := "tintBetween", unfollowed := true, recurses := true, named := ["besom/tint.letters"], apart := false, laid := [("besom/tint.letters", laid_besom_tint_letters)] }
def TintBetweenSaid : Prop := tintBetweenRow.holds Tryd.pinned (OpenSpec.ofChange tintBetweenSpec)

/-- ITS FALSE NEIGHBOUR: 'it returns false'. Refute it at one input. -/
def tintBetweenWrong : ChangeSpec := { name := "tintBetween", fn := fun _ => fun
  | [d1, d2, d3, d4] => { results := [.lit (.bool false)], args := [d1, d2, d3, d4] }
  | _ => none }
def TintBetweenWrongFalsely : Prop := tintBetweenRow.holds Tryd.pinned (OpenSpec.ofChange tintBetweenWrong)

/-- 'besomlaw09.TintRight': WHATEVER THE INPUT: true; the input reads as it did. -/
def tintRightSpec : ChangeSpec := { name := "tintRight", fn := fun _ => fun
  | [d1, d2] => { results := [.lit (.bool true)], args := [d1, d2] }
  | _ => none }
def tintRightRow : OpenClaim := { program := "ytbcldnaoecnffaadoor", sum := "9e3b05d52a12341c37faec0a0506e9d7404fa66276fdd54e42a71198d7dceab2", func := "besom/besomlaw09.TintRight", spec := "tintRight", unfollowed := true, recurses := true, named := ["besom/tint.letters"], apart := false, laid := [("besom/tint.letters", laid_besom_tint_letters)] }
def TintRightSaid : Prop := tintRightRow.holds Tryd.pinned (OpenSpec.ofChange tintRightSpec)

/-- ITS FALSE NEIGHBOUR: 'it returns false'. Refute it at one input. -/
def tintRightWrong : ChangeSpec := { name := "tintRight", fn := fun _ => fun
  | [d1, d2] => { results := [.lit (.bool false)], args := [d1, d2] }
  | _ => none }
def TintRightWrongFalsely : Prop := tintRightRow.holds Tryd.pinned (OpenSpec.ofChange tintRightWrong)

/-- 'besomlaw09.TintGreys': WHATEVER THE INPUT: true; the input reads as it did. -/
def tintGreysSpec : ChangeSpec := { name := "tintGreys", fn := fun _ => fun
  | [d1, d2, d3] => { results := [.lit (.bool true)], args := [d1, d2, d3] }
  | _ => none }
def tintGreysRow : OpenClaim := { program := "ytbcldnaoecnffaadoor", sum := "9e3b05d52a12341c37faec0a0506e9d7404fa66276fdd54e42a71198d7dceab2", func := "besom/besomlaw09.TintGreys", spec := "tintGreys", unfollowed := true, recurses := true, named := ["besom/tint.letters"], apart := false, laid := [("besom/tint.letters", laid_besom_tint_letters)] }
def TintGreysSaid : Prop := tintGreysRow.holds Tryd.pinned (OpenSpec.ofChange tintGreysSpec)

/-- ITS FALSE NEIGHBOUR: 'it returns false'. Refute it at one input. -/
def tintGreysWrong : ChangeSpec := { name := "tintGreys", fn := fun _ => fun
  | [d1, d2, d3] => { results := [.lit (.bool false)], args := [d1, d2, d3] }
  | _ => none }
def TintGreysWrongFalsely : Prop := tintGreysRow.holds Tryd.pinned (OpenSpec.ofChange tintGreysWrong)

/- THE SECOND FORM. 'bulk': how many values and letters a reading holds, each counted each time it is reached (what is shared counts as often as it is met; a slice's spare places count too). A statement '..UptoSaid' is the law's where the arguments, and the package variables that the reading takes, are together of bulk at most 1048576: NARROWER than '..Said'. Prove '..Said' where nothing that the law and all that it calls make is longer than what came in: it says more and counts as full. Else prove '..UptoSaid'. A law counts once. -/
mutual
def uptoBulk {H : Type} : DataW H → Nat
  | .lit (.string bytes) => bytes.length + 1
  | .lit _ => 1
  | .nil => 1
  | .ptr d => uptoBulk d + 1
  | .slice elems spare => uptoBulkAll elems + uptoBulkAll spare + 1
  | .agg parts => uptoBulkAll parts + 1
  | .iface _ d => uptoBulk d + 1
  | .map entries => uptoBulkEntries entries + 1
  | .held _ => 1
def uptoBulkAll {H : Type} : List (DataW H) → Nat
  | [] => 0
  | d :: r => uptoBulk d + uptoBulkAll r
def uptoBulkEntries {H : Type} : List (Lit × DataW H) → Nat
  | [] => 0
  | x :: r => uptoBulkEntry x + uptoBulkEntries r
def uptoBulkEntry {H : Type} : Lit × DataW H → Nat
  | (.string bytes, d) => bytes.length + uptoBulk d + 1
  | (_, d) => uptoBulk d + 1
 end
def uptoSmall : (H : Type) → List (DataW H) → Bool := fun _ ds => decide (uptoBulkAll ds ≤ 1048576)
def OpenSpec.upto (s : _root_.Go.ChangeSpec) : _root_.Go.OpenSpec := { _root_.Go.OpenSpec.ofChange s with cond := some uptoSmall }

/-- 'besomlaw09.TintTells', WHERE WHAT IT READS IS OF BULK AT MOST 1048576: true; the input reads as it did. -/
def tintTellsUptoRow : OpenClaim := { program := "ytbcldnaoecnffaadoor", sum := "9e3b05d52a12341c37faec0a0506e9d7404fa66276fdd54e42a71198d7dceab2", func := "besom/besomlaw09.TintTells", spec := "tintTells", unfollowed := true, recurses := true, named := ["besom/tint.letters"], apart := false, laid := [("besom/tint.letters", laid_besom_tint_letters)], narrowed := true }
def TintTellsUptoSaid : Prop := tintTellsUptoRow.holds Tryd.pinned (OpenSpec.upto tintTellsSpec)

/-- 'besomlaw09.TintDarker', WHERE WHAT IT READS IS OF BULK AT MOST 1048576: true; the input reads as it did. -/
def tintDarkerUptoRow : OpenClaim := { program := "ytbcldnaoecnffaadoor", sum := "9e3b05d52a12341c37faec0a0506e9d7404fa66276fdd54e42a71198d7dceab2", func := "besom/besomlaw09.TintDarker", spec := "tintDarker", unfollowed := true, recurses := true, named := ["besom/tint.letters"], apart := false, laid := [("besom/tint.letters", laid_besom_tint_letters)], narrowed := true }
def TintDarkerUptoSaid : Prop := tintDarkerUptoRow.holds Tryd.pinned (OpenSpec.upto tintDarkerSpec)

/-- 'besomlaw09.TintFresh', WHERE WHAT IT READS IS OF BULK AT MOST 1048576: true; the input reads as it did. -/
def tintFreshUptoRow : OpenClaim := { program := "ytbcldnaoecnffaadoor", sum := "9e3b05d52a12341c37faec0a0506e9d7404fa66276fdd54e42a71198d7dceab2", func := "besom/besomlaw09.TintFresh", spec := "tintFresh", unfollowed := true, recurses := true, named := ["besom/tint.letters"], apart := false, laid := [("besom/tint.letters", laid_besom_tint_letters)], narrowed := true }
def TintFreshUptoSaid : Prop := tintFreshUptoRow.holds Tryd.pinned (OpenSpec.upto tintFreshSpec)

/-- 'besomlaw09.TintBetween', WHERE WHAT IT READS IS OF BULK AT MOST 1048576: true; the input reads as it did. -/
def tintBetweenUptoRow : OpenClaim := { program := "ytbcldnaoecnffaadoor", sum := "9e3b05d52a12341c37faec0a0506e9d7404fa66276fdd54e42a71198d7dceab2", func := "besom/besomlaw09.TintBetween", spec := "tintBetween", unfollowed := true, recurses := true, named := ["besom/tint.letters"], apart := false, laid := [("besom/tint.letters", laid_besom_tint_letters)], narrowed := true }
def TintBetweenUptoSaid : Prop := tintBetweenUptoRow.holds Tryd.pinned (OpenSpec.upto tintBetweenSpec)

/-- 'besomlaw09.TintRight', WHERE WHAT IT READS IS OF BULK AT MOST 1048576: true; the input reads as it did. -/
def tintRightUptoRow : OpenClaim := { program := "ytbcldnaoecnffaadoor", sum := "9e3b05d52a12341c37faec0a0506e9d7404fa66276fdd54e42a71198d7dceab2", func := "besom/besomlaw09.TintRight", spec := "tintRight", unfollowed := true, recurses := true, named := ["besom/tint.letters"], apart := false, laid := [("besom/tint.letters", laid_besom_tint_letters)], narrowed := true }
def TintRightUptoSaid : Prop := tintRightUptoRow.holds Tryd.pinned (OpenSpec.upto tintRightSpec)

/-- 'besomlaw09.TintGreys', WHERE WHAT IT READS IS OF BULK AT MOST 1048576: true; the input reads as it did. -/
def tintGreysUptoRow : OpenClaim := { program := "ytbcldnaoecnffaadoor", sum := "9e3b05d52a12341c37faec0a0506e9d7404fa66276fdd54e42a71198d7dceab2", func := "besom/besomlaw09.TintGreys", spec := "tintGreys", unfollowed := true, recurses := true, named := ["besom/tint.letters"], apart := false, laid := [("besom/tint.letters", laid_besom_tint_letters)], narrowed := true }
def TintGreysUptoSaid : Prop := tintGreysUptoRow.holds Tryd.pinned (OpenSpec.upto tintGreysSpec)

end Rows
end Go.Proofs.YtbcldnaoecnffaaDoor
