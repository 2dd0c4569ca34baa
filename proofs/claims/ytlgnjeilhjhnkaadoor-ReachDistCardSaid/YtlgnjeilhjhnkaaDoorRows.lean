/-
  NARROWER THAN 'FOR EVERY INPUT', by the rows' own cells (each row's printed sentence says how): ReachTells: laid · ReachGoes: laid · ReachVia: laid · ReachDist: laid · ReachLeast: laid · ReachCut: laid.
  DERIVED. THE GIVEN ROWS OF THIS SEAT. 6 by the template 'for every input the law returns true; each argument reads behind the call as it read before'; 0 by the template 'total and deterministic' (their statements: YtlgnjeilhjhnkaaDoorTotals.lean).
  GIVEN WITH THE SEED: the statements are not yours to turn. If you find one false, say at which input.
  Laid BY PROGRAM, IN A SANDBOX (cutbox-rows.mjs): the forced cells as the released guide's own fill.sh prints them over the translation f9ec9ba561a0bde7… (all of the seat's roots in one cut). By AI agents, Wed Nov 11 2026. No macro, syntax, notation, axiom, sorry.
-/
import Derived.Test.YtlgnjeilhjhnkaaDoorChecked
import GoSem.Claim
import GoSem.ClaimJoined
import GoSem.ClaimMapViews
import Derived.JoinedTies
import Derived.KernelRfl
namespace Go.Proofs.YtlgnjeilhjhnkaaDoor
/- THE CELL 'sum', in the pinned program and in every row, IS THE sha256 OF THE DUMP (.gsa) THAT YtlgnjeilhjhnkaaDoorProg.lean LOADS. Nothing in Lean hashes anything: it is a label: what it is worth is what the hold of that sum in a sandbox is worth. -/
noncomputable def Tryd.pinned : Pinned := { name := "ytlgnjeilhjhnkaadoor", sum := "f9ec9ba561a0bde7f7fe67eb3d65f03dfc9e453d1056e81b8b8f95f9c4255342", checked := Tryd.checked }
namespace Rows
def none {H : Type} : Left H := { results := [], args := [] }

/- WHAT THE LISTED PACKAGE-LEVEL VARIABLES READ AS WHEN THE CALL BEGINS. Each datum BY PROGRAM (the guide's laid-datum.mjs) off the statement by which the dump's own 'gosem.cut.vars' lays the variable. In a bare row this is a premise. The card (YtlgnjeilhjhnkaaDoorCards.lean) ties it to the program's text. -/
def laid_math_bits_deBruijn64tab {H : Type} : DataW H := .agg [.lit (.int .u8 0), .lit (.int .u8 1), .lit (.int .u8 56), .lit (.int .u8 2), .lit (.int .u8 57), .lit (.int .u8 49), .lit (.int .u8 28), .lit (.int .u8 3), .lit (.int .u8 61), .lit (.int .u8 58), .lit (.int .u8 42), .lit (.int .u8 50), .lit (.int .u8 38), .lit (.int .u8 29), .lit (.int .u8 17), .lit (.int .u8 4), .lit (.int .u8 62), .lit (.int .u8 47), .lit (.int .u8 59), .lit (.int .u8 36), .lit (.int .u8 45), .lit (.int .u8 43), .lit (.int .u8 51), .lit (.int .u8 22), .lit (.int .u8 53), .lit (.int .u8 39), .lit (.int .u8 33), .lit (.int .u8 30), .lit (.int .u8 24), .lit (.int .u8 18), .lit (.int .u8 12), .lit (.int .u8 5), .lit (.int .u8 63), .lit (.int .u8 55), .lit (.int .u8 48), .lit (.int .u8 27), .lit (.int .u8 60), .lit (.int .u8 41), .lit (.int .u8 37), .lit (.int .u8 16), .lit (.int .u8 46), .lit (.int .u8 35), .lit (.int .u8 44), .lit (.int .u8 21), .lit (.int .u8 52), .lit (.int .u8 32), .lit (.int .u8 23), .lit (.int .u8 11), .lit (.int .u8 54), .lit (.int .u8 26), .lit (.int .u8 40), .lit (.int .u8 15), .lit (.int .u8 34), .lit (.int .u8 20), .lit (.int .u8 31), .lit (.int .u8 10), .lit (.int .u8 25), .lit (.int .u8 14), .lit (.int .u8 19), .lit (.int .u8 9), .lit (.int .u8 13), .lit (.int .u8 8), .lit (.int .u8 7), .lit (.int .u8 6)]

/-- 'besomlaw04.ReachTells': WHATEVER THE INPUT: true; the input reads as it did. -/
def reachTellsSpec : ChangeSpec := { name := "reachTells", fn := fun _ => fun
  | [d1, d2, d3] => { results := [.lit (.bool true)], args := [d1, d2, d3] }
  | _ => none }
def reachTellsRow : OpenClaim := { program := "ytlgnjeilhjhnkaadoor", sum := "f9ec9ba561a0bde7f7fe67eb3d65f03dfc9e453d1056e81b8b8f95f9c4255342", func := "besom/besomlaw04.ReachTells", spec := "reachTells", unfollowed := true, recurses := true, named := ["math/bits.deBruijn64tab"], apart := false, laid := [("math/bits.deBruijn64tab", laid_math_bits_deBruijn64tab)] }
def ReachTellsSaid : Prop := reachTellsRow.holds Tryd.pinned (OpenSpec.ofChange reachTellsSpec)

/-- ITS FALSE NEIGHBOUR: 'it returns false'. Refute it at one input. -/
def reachTellsWrong : ChangeSpec := { name := "reachTells", fn := fun _ => fun
  | [d1, d2, d3] => { results := [.lit (.bool false)], args := [d1, d2, d3] }
  | _ => none }
def ReachTellsWrongFalsely : Prop := reachTellsRow.holds Tryd.pinned (OpenSpec.ofChange reachTellsWrong)

/-- 'besomlaw04.ReachGoes': WHATEVER THE INPUT: true; the input reads as it did. -/
def reachGoesSpec : ChangeSpec := { name := "reachGoes", fn := fun _ => fun
  | [d1, d2, d3] => { results := [.lit (.bool true)], args := [d1, d2, d3] }
  | _ => none }
def reachGoesRow : OpenClaim := { program := "ytlgnjeilhjhnkaadoor", sum := "f9ec9ba561a0bde7f7fe67eb3d65f03dfc9e453d1056e81b8b8f95f9c4255342", func := "besom/besomlaw04.ReachGoes", spec := "reachGoes", unfollowed := true, recurses := true, named := ["math/bits.deBruijn64tab"], apart := false, laid := [("math/bits.deBruijn64tab", laid_math_bits_deBruijn64tab)] }
def ReachGoesSaid : Prop := reachGoesRow.holds Tryd.pinned (OpenSpec.ofChange reachGoesSpec)

/-- ITS FALSE NEIGHBOUR: 'it returns false'. Refute it at one input. -/
def reachGoesWrong : ChangeSpec := { name := "reachGoes", fn := fun _ => fun
  | [d1, d2, d3] => { results := [.lit (.bool false)], args := [d1, d2, d3] }
  | _ => none }
def ReachGoesWrongFalsely : Prop := reachGoesRow.holds Tryd.pinned (OpenSpec.ofChange reachGoesWrong)

/-- 'besomlaw04.ReachVia': WHATEVER THE INPUT: true; the input reads as it did. -/
def reachViaSpec : ChangeSpec := { name := "reachVia", fn := fun _ => fun
  | [d1, d2, d3, d4] => { results := [.lit (.bool true)], args := [d1, d2, d3, d4] }
  | _ => none }
def reachViaRow : OpenClaim := { program := "ytlgnjeilhjhnkaadoor", sum := "f9ec9ba561a0bde7f7fe67eb3d65f03dfc9e453d1056e81b8b8f95f9c4255342", func := "besom/besomlaw04.ReachVia", spec := "reachVia", unfollowed := true, recurses := true, named := ["math/bits.deBruijn64tab"], apart := false, laid := [("math/bits.deBruijn64tab", laid_math_bits_deBruijn64tab)] }
def ReachViaSaid : Prop := reachViaRow.holds Tryd.pinned (OpenSpec.ofChange reachViaSpec)

/-- ITS FALSE NEIGHBOUR: 'it returns false'. Refute it at one input. -/
def reachViaWrong : ChangeSpec := { name := "reachVia", fn := fun _ => fun
  | [d1, d2, d3, d4] => { results := [.lit (.bool false)], args := [d1, d2, d3, d4] }
  | _ => none }
def ReachViaWrongFalsely : Prop := reachViaRow.holds Tryd.pinned (OpenSpec.ofChange reachViaWrong)

/-- 'besomlaw04.ReachDist': WHATEVER THE INPUT: true; the input reads as it did. -/
def reachDistSpec : ChangeSpec := { name := "reachDist", fn := fun _ => fun
  | [d1, d2] => { results := [.lit (.bool true)], args := [d1, d2] }
  | _ => none }
def reachDistRow : OpenClaim := { program := "ytlgnjeilhjhnkaadoor", sum := "f9ec9ba561a0bde7f7fe67eb3d65f03dfc9e453d1056e81b8b8f95f9c4255342", func := "besom/besomlaw04.ReachDist", spec := "reachDist", unfollowed := true, recurses := true, named := ["math/bits.deBruijn64tab"], apart := false, laid := [("math/bits.deBruijn64tab", laid_math_bits_deBruijn64tab)] }
def ReachDistSaid : Prop := reachDistRow.holds Tryd.pinned (OpenSpec.ofChange reachDistSpec)

/-- ITS FALSE NEIGHBOUR: 'it returns false'. Refute it at one input. -/
def reachDistWrong : ChangeSpec := { name := "reachDist", fn := fun _ => fun
  | [d1, d2] => { results := [.lit (.bool false)], args := [d1, d2] }
  | _ => none }
def ReachDistWrongFalsely : Prop := reachDistRow.holds Tryd.pinned (OpenSpec.ofChange reachDistWrong)

/-- 'besomlaw04.ReachLeast': WHATEVER THE INPUT: true; the input reads as it did. -/
def reachLeastSpec : ChangeSpec := { name := "reachLeast", fn := fun _ => fun
  | [d1, d2, d3] => { results := [.lit (.bool true)], args := [d1, d2, d3] }
  | _ => none }
def reachLeastRow : OpenClaim := { program := "ytlgnjeilhjhnkaadoor", sum := "f9ec9ba561a0bde7f7fe67eb3d65f03dfc9e453d1056e81b8b8f95f9c4255342", func := "besom/besomlaw04.ReachLeast", spec := "reachLeast", unfollowed := true, recurses := true, named := ["math/bits.deBruijn64tab"], apart := false, laid := [("math/bits.deBruijn64tab", laid_math_bits_deBruijn64tab)] }
def ReachLeastSaid : Prop := reachLeastRow.holds Tryd.pinned (OpenSpec.ofChange reachLeastSpec)

/-- ITS FALSE NEIGHBOUR: 'it returns false'. Refute it at one input. -/
def reachLeastWrong : ChangeSpec := { name := "reachLeast", fn := fun _ => fun
  | [d1, d2, d3] => { results := [.lit (.bool false)], args := [d1, d2, d3] }
  | _ => none }
def ReachLeastWrongFalsely : Prop := reachLeastRow.holds Tryd.pinned (OpenSpec.ofChange reachLeastWrong)

/-- 'besomlaw04.ReachCut': WHATEVER THE INPUT: true; the input reads as it did. -/
def reachCutSpec : ChangeSpec := { name := "reachCut", fn := fun _ => fun
  | [d1, d2, d3, d4] => { results := [.lit (.bool true)], args := [d1, d2, d3, d4] }
  | _ => none }
def reachCutRow : OpenClaim := { program := "ytlgnjeilhjhnkaadoor", sum := "f9ec9ba561a0bde7f7fe67eb3d65f03dfc9e453d1056e81b8b8f95f9c4255342", func := "besom/besomlaw04.ReachCut", spec := "reachCut", unfollowed := true, recurses := true, named := ["math/bits.deBruijn64tab"], apart := false, laid := [("math/bits.deBruijn64tab", laid_math_bits_deBruijn64tab)] }
def ReachCutSaid : Prop := reachCutRow.holds Tryd.pinned (OpenSpec.ofChange reachCutSpec)

/-- ITS FALSE NEIGHBOUR: 'it returns false'. Refute it at one input. -/
def reachCutWrong : ChangeSpec := { name := "reachCut", fn := fun _ => fun
  | [d1, d2, d3, d4] => { results := [.lit (.bool false)], args := [d1, d2, d3, d4] }
  | _ => none }
def ReachCutWrongFalsely : Prop := reachCutRow.holds Tryd.pinned (OpenSpec.ofChange reachCutWrong)

/- THE SECOND FORM. 'bulk': how many values and letters a reading holds, each counted each time it is reached (what is shared counts as often as it is met; a slice's spare places count too). A statement '..UptoSaid' is the law's where the arguments, and the package variables that the reading takes, are together of bulk at most 1048576: NARROWER than '..Said'. Prove '..Said' where nothing that the law and all that it calls make is longer than what came in: it says more and counts as full. Else prove '..UptoSaid'. A law counts once. -/
mutual
def uptoBulk {H : Type} : DataW H → Nat
  | .lit (.string bytes) => bytes.length + 1
  | .lit _ => 1
  | .nil => 1
  | .ptr d => uptoBulk d + 1
  | .slice elems spare => uptoBulkAll elems + uptoBulkAll spare + 1
  | .agg parts => uptoBulkAll parts + 1
  | .iface _ d => uptoBulk d + 1
  | .map entries => uptoBulkEntries entries + 1
  | .held _ => 1
def uptoBulkAll {H : Type} : List (DataW H) → Nat
  | [] => 0
  | d :: r => uptoBulk d + uptoBulkAll r
def uptoBulkEntries {H : Type} : List (Lit × DataW H) → Nat
  | [] => 0
  | x :: r => uptoBulkEntry x + uptoBulkEntries r
def uptoBulkEntry {H : Type} : Lit × DataW H → Nat
  | (.string bytes, d) => bytes.length + uptoBulk d + 1
  | (_, d) => uptoBulk d + 1
 end
def uptoSmall : (H : Type) → List (DataW H) → Bool := fun _ ds => decide (uptoBulkAll ds ≤ 1048576)
def OpenSpec.upto (s : _root_.Go.ChangeSpec) : _root_.Go.OpenSpec := { _root_.Go.OpenSpec.ofChange s with cond := some uptoSmall }

/-- 'besomlaw04.ReachTells', WHERE WHAT IT READS IS OF BULK AT MOST 1048576: true; the input reads as it did. -/
def reachTellsUptoRow : OpenClaim := { program := "ytlgnjeilhjhnkaadoor", sum := "f9ec9ba561a0bde7f7fe67eb3d65f03dfc9e453d1056e81b8b8f95f9c4255342", func := "besom/besomlaw04.ReachTells", spec := "reachTells", unfollowed := true, recurses := true, named := ["math/bits.deBruijn64tab"], apart := false, laid := [("math/bits.deBruijn64tab", laid_math_bits_deBruijn64tab)], narrowed := true }
def ReachTellsUptoSaid : Prop := reachTellsUptoRow.holds Tryd.pinned (OpenSpec.upto reachTellsSpec)

/-- 'besomlaw04.ReachGoes', WHERE WHAT IT READS IS OF BULK AT MOST 1048576: true; the input reads as it did. -/
def reachGoesUptoRow : OpenClaim := { program := "ytlgnjeilhjhnkaadoor", sum := "f9ec9ba561a0bde7f7fe67eb3d65f03dfc9e453d1056e81b8b8f95f9c4255342", func := "besom/besomlaw04.ReachGoes", spec := "reachGoes", unfollowed := true, recurses := true, named := ["math/bits.deBruijn64tab"], apart := false, laid := [("math/bits.deBruijn64tab", laid_math_bits_deBruijn64tab)], narrowed := true }
def ReachGoesUptoSaid : Prop := reachGoesUptoRow.holds Tryd.pinned (OpenSpec.upto reachGoesSpec)

/-- 'besomlaw04.ReachVia', WHERE WHAT IT READS IS OF BULK AT MOST 1048576: true; the input reads as it did. -/
def reachViaUptoRow : OpenClaim := { program := "ytlgnjeilhjhnkaadoor", sum := "f9ec9ba561a0bde7f7fe67eb3d65f03dfc9e453d1056e81b8b8f95f9c4255342", func := "besom/besomlaw04.ReachVia", spec := "reachVia", unfollowed := true, recurses := true, named := ["math/bits.deBruijn64tab"], apart := false, laid := [("math/bits.deBruijn64tab", laid_math_bits_deBruijn64tab)], narrowed := true }
def ReachViaUptoSaid : Prop := reachViaUptoRow.holds Tryd.pinned (OpenSpec.upto reachViaSpec)

/-- 'besomlaw04.ReachDist', WHERE WHAT IT READS IS OF BULK AT MOST 1048576: true; the input reads as it did. -/
def reachDistUptoRow : OpenClaim := { program := "ytlgnjeilhjhnkaadoor", sum := "f9ec9ba561a0bde7f7fe67eb3d65f03dfc9e453d1056e81b8b8f95f9c4255342", func := "besom/besomlaw04.ReachDist", spec := "reachDist", unfollowed := true, recurses := true, named := ["math/bits.deBruijn64tab"], apart := false, laid := [("math/bits.deBruijn64tab", laid_math_bits_deBruijn64tab)], narrowed := true }
def ReachDistUptoSaid : Prop := reachDistUptoRow.holds Tryd.pinned (OpenSpec.upto reachDistSpec)

/-- 'besomlaw04.ReachLeast', WHERE WHAT IT READS IS OF BULK AT MOST 1048576: true; the input reads as it did. -/
def reachLeastUptoRow : OpenClaim := { program := "ytlgnjeilhjhnkaadoor", sum := "f9ec9ba561a0bde7f7fe67eb3d65f03dfc9e453d1056e81b8b8f95f9c4255342", func := "besom/besomlaw04.ReachLeast", spec := "reachLeast", unfollowed := true, recurses := true, named := ["math/bits.deBruijn64tab"], apart := false, laid := [("math/bits.deBruijn64tab", laid_math_bits_deBruijn64tab)], narrowed := true }
def ReachLeastUptoSaid : Prop := reachLeastUptoRow.holds Tryd.pinned (OpenSpec.upto reachLeastSpec)

/-- 'besomlaw04.ReachCut', WHERE WHAT IT READS IS OF BULK AT MOST 1048576: true; the input reads as it did. -/
def reachCutUptoRow : OpenClaim := { program := "ytlgnjeilhjhnkaadoor", sum := "f9ec9ba561a0bde7f7fe67eb3d65f03dfc9e453d1056e81b8b8f95f9c4255342", func := "besom/besomlaw04.ReachCut", spec := "reachCut", unfollowed := true, recurses := true, named := ["math/bits.deBruijn64tab"], apart := false, laid := [("math/bits.deBruijn64tab", laid_math_bits_deBruijn64tab)], narrowed := true }
def ReachCutUptoSaid : Prop := reachCutUptoRow.holds Tryd.pinned (OpenSpec.upto reachCutSpec)

end Rows
end Go.Proofs.YtlgnjeilhjhnkaaDoor
