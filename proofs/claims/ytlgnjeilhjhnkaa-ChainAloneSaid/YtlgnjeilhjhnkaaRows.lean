/-
  No cell of these rows narrows 'for every input' (looked for: loops, veiled, ifaces, maps, wideKeys, modest, calm, conditions, laid).
  DERIVED. THE GIVEN ROWS OF THIS SEAT. 6 by the template 'for every input the law returns true; each argument reads behind the call as it read before'; 0 by the template 'total and deterministic' (their statements: YtlgnjeilhjhnkaaTotals.lean).
  GIVEN WITH THE SEED: the statements are not yours to turn. If you find one false, say at which input.
  Laid BY PROGRAM, IN A SANDBOX (cutbox-rows.mjs): the forced cells as the released guide's own fill.sh prints them over the translation 66a881d9d29ec6b5… (all of the seat's roots in one cut). By AI agents, Wed Nov 11 2026. No macro, syntax, notation, axiom, sorry.
-/
import Derived.Test.YtlgnjeilhjhnkaaChecked
import GoSem.Claim
import GoSem.ClaimJoined
import GoSem.ClaimMapViews
import Derived.JoinedTies
import Derived.KernelRfl
namespace Go.Proofs.Ytlgnjeilhjhnkaa
/- THE CELL 'sum', in the pinned program and in every row, IS THE sha256 OF THE DUMP (.gsa) THAT YtlgnjeilhjhnkaaProg.lean LOADS. Nothing in Lean hashes anything: it is a label: what it is worth is what the hold of that sum in a sandbox is worth. -/
noncomputable def Try.pinned : Pinned := { name := "ytlgnjeilhjhnkaa", sum := "66a881d9d29ec6b5d3860e99fad30e6b5b2f353d32f514a9b5985ff693005a39", checked := Try.checked }
namespace Rows
def none {H : Type} : Left H := { results := [], args := [] }

/-- 'besomlaw08.ChainTells': WHATEVER THE INPUT: true; the input reads as it did. -/
def chainTellsSpec : ChangeSpec := { name := "chainTells", fn := fun _ => fun
  | [d1, d2, d3, d4, d5] => { results := [.lit (.bool true)], args := [d1, d2, d3, d4, d5] }
  | _ => none }
def chainTellsRow : OpenClaim := { program := "ytlgnjeilhjhnkaa", sum := "66a881d9d29ec6b5d3860e99fad30e6b5b2f353d32f514a9b5985ff693005a39", func := "besom/besomlaw08.ChainTells", spec := "chainTells", unfollowed := true, recurses := true, apart := false }
def ChainTellsSaid : Prop := chainTellsRow.holds Try.pinned (OpenSpec.ofChange chainTellsSpec)

/-- ITS FALSE NEIGHBOUR: 'it returns false'. Refute it at one input. -/
def chainTellsWrong : ChangeSpec := { name := "chainTells", fn := fun _ => fun
  | [d1, d2, d3, d4, d5] => { results := [.lit (.bool false)], args := [d1, d2, d3, d4, d5] }
  | _ => none }
def ChainTellsWrongFalsely : Prop := chainTellsRow.holds Try.pinned (OpenSpec.ofChange chainTellsWrong)

/-- 'besomlaw08.ChainVersions': WHATEVER THE INPUT: true; the input reads as it did. -/
def chainVersionsSpec : ChangeSpec := { name := "chainVersions", fn := fun _ => fun
  | [d] => { results := [.lit (.bool true)], args := [d] }
  | _ => none }
def chainVersionsRow : OpenClaim := { program := "ytlgnjeilhjhnkaa", sum := "66a881d9d29ec6b5d3860e99fad30e6b5b2f353d32f514a9b5985ff693005a39", func := "besom/besomlaw08.ChainVersions", spec := "chainVersions", unfollowed := true, recurses := true, apart := false }
def ChainVersionsSaid : Prop := chainVersionsRow.holds Try.pinned (OpenSpec.ofChange chainVersionsSpec)

/-- ITS FALSE NEIGHBOUR: 'it returns false'. Refute it at one input. -/
def chainVersionsWrong : ChangeSpec := { name := "chainVersions", fn := fun _ => fun
  | [d] => { results := [.lit (.bool false)], args := [d] }
  | _ => none }
def ChainVersionsWrongFalsely : Prop := chainVersionsRow.holds Try.pinned (OpenSpec.ofChange chainVersionsWrong)

/-- 'besomlaw08.ChainAlone': WHATEVER THE INPUT: true; the input reads as it did. -/
def chainAloneSpec : ChangeSpec := { name := "chainAlone", fn := fun _ => fun
  | [d] => { results := [.lit (.bool true)], args := [d] }
  | _ => none }
def chainAloneRow : OpenClaim := { program := "ytlgnjeilhjhnkaa", sum := "66a881d9d29ec6b5d3860e99fad30e6b5b2f353d32f514a9b5985ff693005a39", func := "besom/besomlaw08.ChainAlone", spec := "chainAlone", unfollowed := true, recurses := true, apart := false }
def ChainAloneSaid : Prop := chainAloneRow.holds Try.pinned (OpenSpec.ofChange chainAloneSpec)

/-- ITS FALSE NEIGHBOUR: 'it returns false'. Refute it at one input. -/
def chainAloneWrong : ChangeSpec := { name := "chainAlone", fn := fun _ => fun
  | [d] => { results := [.lit (.bool false)], args := [d] }
  | _ => none }
def ChainAloneWrongFalsely : Prop := chainAloneRow.holds Try.pinned (OpenSpec.ofChange chainAloneWrong)

/-- 'besomlaw08.ChainStops': WHATEVER THE INPUT: true; the input reads as it did. -/
def chainStopsSpec : ChangeSpec := { name := "chainStops", fn := fun _ => fun
  | [d1, d2] => { results := [.lit (.bool true)], args := [d1, d2] }
  | _ => none }
def chainStopsRow : OpenClaim := { program := "ytlgnjeilhjhnkaa", sum := "66a881d9d29ec6b5d3860e99fad30e6b5b2f353d32f514a9b5985ff693005a39", func := "besom/besomlaw08.ChainStops", spec := "chainStops", unfollowed := true, recurses := true, apart := false }
def ChainStopsSaid : Prop := chainStopsRow.holds Try.pinned (OpenSpec.ofChange chainStopsSpec)

/-- ITS FALSE NEIGHBOUR: 'it returns false'. Refute it at one input. -/
def chainStopsWrong : ChangeSpec := { name := "chainStops", fn := fun _ => fun
  | [d1, d2] => { results := [.lit (.bool false)], args := [d1, d2] }
  | _ => none }
def ChainStopsWrongFalsely : Prop := chainStopsRow.holds Try.pinned (OpenSpec.ofChange chainStopsWrong)

/-- 'besomlaw08.ChainLays': WHATEVER THE INPUT: true; the input reads as it did. -/
def chainLaysSpec : ChangeSpec := { name := "chainLays", fn := fun _ => fun
  | [d1, d2] => { results := [.lit (.bool true)], args := [d1, d2] }
  | _ => none }
def chainLaysRow : OpenClaim := { program := "ytlgnjeilhjhnkaa", sum := "66a881d9d29ec6b5d3860e99fad30e6b5b2f353d32f514a9b5985ff693005a39", func := "besom/besomlaw08.ChainLays", spec := "chainLays", unfollowed := true, recurses := true, apart := false }
def ChainLaysSaid : Prop := chainLaysRow.holds Try.pinned (OpenSpec.ofChange chainLaysSpec)

/-- ITS FALSE NEIGHBOUR: 'it returns false'. Refute it at one input. -/
def chainLaysWrong : ChangeSpec := { name := "chainLays", fn := fun _ => fun
  | [d1, d2] => { results := [.lit (.bool false)], args := [d1, d2] }
  | _ => none }
def ChainLaysWrongFalsely : Prop := chainLaysRow.holds Try.pinned (OpenSpec.ofChange chainLaysWrong)

/-- 'besomlaw08.ChainPure': WHATEVER THE INPUT: true; the input reads as it did. -/
def chainPureSpec : ChangeSpec := { name := "chainPure", fn := fun _ => fun
  | [d1, d2] => { results := [.lit (.bool true)], args := [d1, d2] }
  | _ => none }
def chainPureRow : OpenClaim := { program := "ytlgnjeilhjhnkaa", sum := "66a881d9d29ec6b5d3860e99fad30e6b5b2f353d32f514a9b5985ff693005a39", func := "besom/besomlaw08.ChainPure", spec := "chainPure", unfollowed := true, recurses := true, apart := false }
def ChainPureSaid : Prop := chainPureRow.holds Try.pinned (OpenSpec.ofChange chainPureSpec)

/-- ITS FALSE NEIGHBOUR: 'it returns false'. Refute it at one input. -/
def chainPureWrong : ChangeSpec := { name := "chainPure", fn := fun _ => fun
  | [d1, d2] => { results := [.lit (.bool false)], args := [d1, d2] }
  | _ => none }
def ChainPureWrongFalsely : Prop := chainPureRow.holds Try.pinned (OpenSpec.ofChange chainPureWrong)

/- THE SECOND FORM. 'bulk': how many values and letters a reading holds, each counted each time it is reached (what is shared counts as often as it is met; a slice's spare places count too). A statement '..UptoSaid' is the law's where the arguments, and the package variables that the reading takes, are together of bulk at most 1048576: NARROWER than '..Said'. Prove '..Said' where nothing that the law and all that it calls make is longer than what came in: it says more and counts as full. Else prove '..UptoSaid'. A law counts once. -/
mutual
def uptoBulk {H : Type} : DataW H → Nat
  | .lit (.string bytes) => bytes.length + 1
  | .lit _ => 1
  | .nil => 1
  | .ptr d => uptoBulk d + 1
  | .slice elems spare => uptoBulkAll elems + uptoBulkAll spare + 1
  | .agg parts => uptoBulkAll parts + 1
  | .iface _ d => uptoBulk d + 1
  | .map entries => uptoBulkEntries entries + 1
  | .held _ => 1
def uptoBulkAll {H : Type} : List (DataW H) → Nat
  | [] => 0
  | d :: r => uptoBulk d + uptoBulkAll r
def uptoBulkEntries {H : Type} : List (Lit × DataW H) → Nat
  | [] => 0
  | x :: r => uptoBulkEntry x + uptoBulkEntries r
def uptoBulkEntry {H : Type} : Lit × DataW H → Nat
  | (.string bytes, d) => bytes.length + uptoBulk d + 1
  | (_, d) => uptoBulk d + 1
 end
def uptoSmall : (H : Type) → List (DataW H) → Bool := fun _ ds => decide (uptoBulkAll ds ≤ 1048576)
def OpenSpec.upto (s : _root_.Go.ChangeSpec) : _root_.Go.OpenSpec := { _root_.Go.OpenSpec.ofChange s with cond := some uptoSmall }

/-- 'besomlaw08.ChainTells', WHERE WHAT IT READS IS OF BULK AT MOST 1048576: true; the input reads as it did. -/
def chainTellsUptoRow : OpenClaim := { program := "ytlgnjeilhjhnkaa", sum := "66a881d9d29ec6b5d3860e99fad30e6b5b2f353d32f514a9b5985ff693005a39", func := "besom/besomlaw08.ChainTells", spec := "chainTells", unfollowed := true, recurses := true, apart := false, narrowed := true }
def ChainTellsUptoSaid : Prop := chainTellsUptoRow.holds Try.pinned (OpenSpec.upto chainTellsSpec)

/-- 'besomlaw08.ChainVersions', WHERE WHAT IT READS IS OF BULK AT MOST 1048576: true; the input reads as it did. -/
def chainVersionsUptoRow : OpenClaim := { program := "ytlgnjeilhjhnkaa", sum := "66a881d9d29ec6b5d3860e99fad30e6b5b2f353d32f514a9b5985ff693005a39", func := "besom/besomlaw08.ChainVersions", spec := "chainVersions", unfollowed := true, recurses := true, apart := false, narrowed := true }
def ChainVersionsUptoSaid : Prop := chainVersionsUptoRow.holds Try.pinned (OpenSpec.upto chainVersionsSpec)

/-- 'besomlaw08.ChainAlone', WHERE WHAT IT READS IS OF BULK AT MOST 1048576: true; the input reads as it did. -/
def chainAloneUptoRow : OpenClaim := { program := "ytlgnjeilhjhnkaa", sum := "66a881d9d29ec6b5d3860e99fad30e6b5b2f353d32f514a9b5985ff693005a39", func := "besom/besomlaw08.ChainAlone", spec := "chainAlone", unfollowed := true, recurses := true, apart := false, narrowed := true }
def ChainAloneUptoSaid : Prop := chainAloneUptoRow.holds Try.pinned (OpenSpec.upto chainAloneSpec)

/-- 'besomlaw08.ChainStops', WHERE WHAT IT READS IS OF BULK AT MOST 1048576: true; the input reads as it did. -/
def chainStopsUptoRow : OpenClaim := { program := "ytlgnjeilhjhnkaa", sum := "66a881d9d29ec6b5d3860e99fad30e6b5b2f353d32f514a9b5985ff693005a39", func := "besom/besomlaw08.ChainStops", spec := "chainStops", unfollowed := true, recurses := true, apart := false, narrowed := true }
def ChainStopsUptoSaid : Prop := chainStopsUptoRow.holds Try.pinned (OpenSpec.upto chainStopsSpec)

/-- 'besomlaw08.ChainLays', WHERE WHAT IT READS IS OF BULK AT MOST 1048576: true; the input reads as it did. -/
def chainLaysUptoRow : OpenClaim := { program := "ytlgnjeilhjhnkaa", sum := "66a881d9d29ec6b5d3860e99fad30e6b5b2f353d32f514a9b5985ff693005a39", func := "besom/besomlaw08.ChainLays", spec := "chainLays", unfollowed := true, recurses := true, apart := false, narrowed := true }
def ChainLaysUptoSaid : Prop := chainLaysUptoRow.holds Try.pinned (OpenSpec.upto chainLaysSpec)

/-- 'besomlaw08.ChainPure', WHERE WHAT IT READS IS OF BULK AT MOST 1048576: true; the input reads as it did. -/
def chainPureUptoRow : OpenClaim := { program := "ytlgnjeilhjhnkaa", sum := "66a881d9d29ec6b5d3860e99fad30e6b5b2f353d32f514a9b5985ff693005a39", func := "besom/besomlaw08.ChainPure", spec := "chainPure", unfollowed := true, recurses := true, apart := false, narrowed := true }
def ChainPureUptoSaid : Prop := chainPureUptoRow.holds Try.pinned (OpenSpec.upto chainPureSpec)

end Rows
end Go.Proofs.Ytlgnjeilhjhnkaa
