/-
  No cell of these rows narrows 'for every input' (looked for: loops, veiled, ifaces, maps, wideKeys, modest, calm, conditions, laid).
  DERIVED. THE GIVEN ROWS OF THIS SEAT. 10 by the template 'for every input the law returns true; each argument reads behind the call as it read before'; 0 by the template 'total and deterministic' (their statements: YtommbfigioeghaaTotals.lean).
  GIVEN WITH THE SEED: the statements are not yours to turn. If you find one false, say at which input.
  Laid BY PROGRAM, IN A SANDBOX (cutbox-rows.mjs): the forced cells as the released guide's own fill.sh prints them over the translation 5887bad9ef2a4e2d… (all of the seat's roots in one cut). By AI agents, Wed Nov 11 2026. No macro, syntax, notation, axiom, sorry.
-/
import Derived.Test.YtommbfigioeghaaChecked
import GoSem.Claim
import GoSem.ClaimJoined
import GoSem.ClaimMapViews
import Derived.JoinedTies
import Derived.KernelRfl
namespace Go.Proofs.Ytommbfigioeghaa
/- THE CELL 'sum', in the pinned program and in every row, IS THE sha256 OF THE DUMP (.gsa) THAT YtommbfigioeghaaProg.lean LOADS. Nothing in Lean hashes anything: it is a label: what it is worth is what the hold of that sum in a sandbox is worth. -/
noncomputable def Try.pinned : Pinned := { name := "ytommbfigioeghaa", sum := "5887bad9ef2a4e2df381061cfd4cb062d73fafbcd204fcc4707d90b2c640cf5a", checked := Try.checked }
namespace Rows
def none {H : Type} : Left H := { results := [], args := [] }

/-- 'besomlaw08.ChainOnce': WHATEVER THE INPUT: true; the input reads as it did. -/
def chainOnceSpec : ChangeSpec := { name := "chainOnce", fn := fun _ => fun
  | [d] => { results := [.lit (.bool true)], args := [d] }
  | _ => none }
def chainOnceRow : OpenClaim := { program := "ytommbfigioeghaa", sum := "5887bad9ef2a4e2df381061cfd4cb062d73fafbcd204fcc4707d90b2c640cf5a", func := "besom/besomlaw08.ChainOnce", spec := "chainOnce", unfollowed := true, recurses := true, apart := false }
def ChainOnceSaid : Prop := chainOnceRow.holds Try.pinned (OpenSpec.ofChange chainOnceSpec)

/-- ITS FALSE NEIGHBOUR: 'it returns false'. Refute it at one input. -/
def chainOnceWrong : ChangeSpec := { name := "chainOnce", fn := fun _ => fun
  | [d] => { results := [.lit (.bool false)], args := [d] }
  | _ => none }
def ChainOnceWrongFalsely : Prop := chainOnceRow.holds Try.pinned (OpenSpec.ofChange chainOnceWrong)

/-- 'besomlaw06.BagTells': WHATEVER THE INPUT: true; the input reads as it did. -/
def bagTellsSpec : ChangeSpec := { name := "bagTells", fn := fun _ => fun
  | [d1, d2, d3, d4] => { results := [.lit (.bool true)], args := [d1, d2, d3, d4] }
  | _ => none }
def bagTellsRow : OpenClaim := { program := "ytommbfigioeghaa", sum := "5887bad9ef2a4e2df381061cfd4cb062d73fafbcd204fcc4707d90b2c640cf5a", func := "besom/besomlaw06.BagTells", spec := "bagTells", unfollowed := true, recurses := true, apart := false }
def BagTellsSaid : Prop := bagTellsRow.holds Try.pinned (OpenSpec.ofChange bagTellsSpec)

/-- ITS FALSE NEIGHBOUR: 'it returns false'. Refute it at one input. -/
def bagTellsWrong : ChangeSpec := { name := "bagTells", fn := fun _ => fun
  | [d1, d2, d3, d4] => { results := [.lit (.bool false)], args := [d1, d2, d3, d4] }
  | _ => none }
def BagTellsWrongFalsely : Prop := bagTellsRow.holds Try.pinned (OpenSpec.ofChange bagTellsWrong)

/-- 'besomlaw06.BagSums': WHATEVER THE INPUT: true; the input reads as it did. -/
def bagSumsSpec : ChangeSpec := { name := "bagSums", fn := fun _ => fun
  | [d1, d2, d3] => { results := [.lit (.bool true)], args := [d1, d2, d3] }
  | _ => none }
def bagSumsRow : OpenClaim := { program := "ytommbfigioeghaa", sum := "5887bad9ef2a4e2df381061cfd4cb062d73fafbcd204fcc4707d90b2c640cf5a", func := "besom/besomlaw06.BagSums", spec := "bagSums", unfollowed := true, recurses := true, apart := false }
def BagSumsSaid : Prop := bagSumsRow.holds Try.pinned (OpenSpec.ofChange bagSumsSpec)

/-- ITS FALSE NEIGHBOUR: 'it returns false'. Refute it at one input. -/
def bagSumsWrong : ChangeSpec := { name := "bagSums", fn := fun _ => fun
  | [d1, d2, d3] => { results := [.lit (.bool false)], args := [d1, d2, d3] }
  | _ => none }
def BagSumsWrongFalsely : Prop := bagSumsRow.holds Try.pinned (OpenSpec.ofChange bagSumsWrong)

/-- 'besomlaw06.BagLess': WHATEVER THE INPUT: true; the input reads as it did. -/
def bagLessSpec : ChangeSpec := { name := "bagLess", fn := fun _ => fun
  | [d1, d2] => { results := [.lit (.bool true)], args := [d1, d2] }
  | _ => none }
def bagLessRow : OpenClaim := { program := "ytommbfigioeghaa", sum := "5887bad9ef2a4e2df381061cfd4cb062d73fafbcd204fcc4707d90b2c640cf5a", func := "besom/besomlaw06.BagLess", spec := "bagLess", unfollowed := true, recurses := true, apart := false }
def BagLessSaid : Prop := bagLessRow.holds Try.pinned (OpenSpec.ofChange bagLessSpec)

/-- ITS FALSE NEIGHBOUR: 'it returns false'. Refute it at one input. -/
def bagLessWrong : ChangeSpec := { name := "bagLess", fn := fun _ => fun
  | [d1, d2] => { results := [.lit (.bool false)], args := [d1, d2] }
  | _ => none }
def BagLessWrongFalsely : Prop := bagLessRow.holds Try.pinned (OpenSpec.ofChange bagLessWrong)

/-- 'besomlaw06.BagNorm': WHATEVER THE INPUT: true; the input reads as it did. -/
def bagNormSpec : ChangeSpec := { name := "bagNorm", fn := fun _ => fun
  | [d1, d2] => { results := [.lit (.bool true)], args := [d1, d2] }
  | _ => none }
def bagNormRow : OpenClaim := { program := "ytommbfigioeghaa", sum := "5887bad9ef2a4e2df381061cfd4cb062d73fafbcd204fcc4707d90b2c640cf5a", func := "besom/besomlaw06.BagNorm", spec := "bagNorm", unfollowed := true, recurses := true, apart := false }
def BagNormSaid : Prop := bagNormRow.holds Try.pinned (OpenSpec.ofChange bagNormSpec)

/-- ITS FALSE NEIGHBOUR: 'it returns false'. Refute it at one input. -/
def bagNormWrong : ChangeSpec := { name := "bagNorm", fn := fun _ => fun
  | [d1, d2] => { results := [.lit (.bool false)], args := [d1, d2] }
  | _ => none }
def BagNormWrongFalsely : Prop := bagNormRow.holds Try.pinned (OpenSpec.ofChange bagNormWrong)

/-- 'besomlaw06.BagAdds': WHATEVER THE INPUT: true; the input reads as it did. -/
def bagAddsSpec : ChangeSpec := { name := "bagAdds", fn := fun _ => fun
  | [d1, d2, d3] => { results := [.lit (.bool true)], args := [d1, d2, d3] }
  | _ => none }
def bagAddsRow : OpenClaim := { program := "ytommbfigioeghaa", sum := "5887bad9ef2a4e2df381061cfd4cb062d73fafbcd204fcc4707d90b2c640cf5a", func := "besom/besomlaw06.BagAdds", spec := "bagAdds", unfollowed := true, recurses := true, apart := false }
def BagAddsSaid : Prop := bagAddsRow.holds Try.pinned (OpenSpec.ofChange bagAddsSpec)

/-- ITS FALSE NEIGHBOUR: 'it returns false'. Refute it at one input. -/
def bagAddsWrong : ChangeSpec := { name := "bagAdds", fn := fun _ => fun
  | [d1, d2, d3] => { results := [.lit (.bool false)], args := [d1, d2, d3] }
  | _ => none }
def BagAddsWrongFalsely : Prop := bagAddsRow.holds Try.pinned (OpenSpec.ofChange bagAddsWrong)

/-- 'besomlaw06.BagSame': WHATEVER THE INPUT: true; the input reads as it did. -/
def bagSameSpec : ChangeSpec := { name := "bagSame", fn := fun _ => fun
  | [d1, d2, d3, d4] => { results := [.lit (.bool true)], args := [d1, d2, d3, d4] }
  | _ => none }
def bagSameRow : OpenClaim := { program := "ytommbfigioeghaa", sum := "5887bad9ef2a4e2df381061cfd4cb062d73fafbcd204fcc4707d90b2c640cf5a", func := "besom/besomlaw06.BagSame", spec := "bagSame", unfollowed := true, recurses := true, apart := false }
def BagSameSaid : Prop := bagSameRow.holds Try.pinned (OpenSpec.ofChange bagSameSpec)

/-- ITS FALSE NEIGHBOUR: 'it returns false'. Refute it at one input. -/
def bagSameWrong : ChangeSpec := { name := "bagSame", fn := fun _ => fun
  | [d1, d2, d3, d4] => { results := [.lit (.bool false)], args := [d1, d2, d3, d4] }
  | _ => none }
def BagSameWrongFalsely : Prop := bagSameRow.holds Try.pinned (OpenSpec.ofChange bagSameWrong)

/-- 'besomlaw07.DequeStops': WHATEVER THE INPUT: true; the input reads as it did. -/
def dequeStopsSpec : ChangeSpec := { name := "dequeStops", fn := fun _ => fun
  | [d1, d2, d3] => { results := [.lit (.bool true)], args := [d1, d2, d3] }
  | _ => none }
def dequeStopsRow : OpenClaim := { program := "ytommbfigioeghaa", sum := "5887bad9ef2a4e2df381061cfd4cb062d73fafbcd204fcc4707d90b2c640cf5a", func := "besom/besomlaw07.DequeStops", spec := "dequeStops", unfollowed := true, recurses := true, apart := false }
def DequeStopsSaid : Prop := dequeStopsRow.holds Try.pinned (OpenSpec.ofChange dequeStopsSpec)

/-- ITS FALSE NEIGHBOUR: 'it returns false'. Refute it at one input. -/
def dequeStopsWrong : ChangeSpec := { name := "dequeStops", fn := fun _ => fun
  | [d1, d2, d3] => { results := [.lit (.bool false)], args := [d1, d2, d3] }
  | _ => none }
def DequeStopsWrongFalsely : Prop := dequeStopsRow.holds Try.pinned (OpenSpec.ofChange dequeStopsWrong)

/-- 'besomlaw07.DequeOrder': WHATEVER THE INPUT: true; the input reads as it did. -/
def dequeOrderSpec : ChangeSpec := { name := "dequeOrder", fn := fun _ => fun
  | [d1, d2] => { results := [.lit (.bool true)], args := [d1, d2] }
  | _ => none }
def dequeOrderRow : OpenClaim := { program := "ytommbfigioeghaa", sum := "5887bad9ef2a4e2df381061cfd4cb062d73fafbcd204fcc4707d90b2c640cf5a", func := "besom/besomlaw07.DequeOrder", spec := "dequeOrder", unfollowed := true, recurses := true, apart := false }
def DequeOrderSaid : Prop := dequeOrderRow.holds Try.pinned (OpenSpec.ofChange dequeOrderSpec)

/-- ITS FALSE NEIGHBOUR: 'it returns false'. Refute it at one input. -/
def dequeOrderWrong : ChangeSpec := { name := "dequeOrder", fn := fun _ => fun
  | [d1, d2] => { results := [.lit (.bool false)], args := [d1, d2] }
  | _ => none }
def DequeOrderWrongFalsely : Prop := dequeOrderRow.holds Try.pinned (OpenSpec.ofChange dequeOrderWrong)

/-- 'besomlaw07.DequeOnce': WHATEVER THE INPUT: true; the input reads as it did. -/
def dequeOnceSpec : ChangeSpec := { name := "dequeOnce", fn := fun _ => fun
  | [d1, d2] => { results := [.lit (.bool true)], args := [d1, d2] }
  | _ => none }
def dequeOnceRow : OpenClaim := { program := "ytommbfigioeghaa", sum := "5887bad9ef2a4e2df381061cfd4cb062d73fafbcd204fcc4707d90b2c640cf5a", func := "besom/besomlaw07.DequeOnce", spec := "dequeOnce", unfollowed := true, recurses := true, apart := false }
def DequeOnceSaid : Prop := dequeOnceRow.holds Try.pinned (OpenSpec.ofChange dequeOnceSpec)

/-- ITS FALSE NEIGHBOUR: 'it returns false'. Refute it at one input. -/
def dequeOnceWrong : ChangeSpec := { name := "dequeOnce", fn := fun _ => fun
  | [d1, d2] => { results := [.lit (.bool false)], args := [d1, d2] }
  | _ => none }
def DequeOnceWrongFalsely : Prop := dequeOnceRow.holds Try.pinned (OpenSpec.ofChange dequeOnceWrong)

/- THE SECOND FORM. 'bulk': how many values and letters a reading holds, each counted each time it is reached (what is shared counts as often as it is met; a slice's spare places count too). A statement '..UptoSaid' is the law's where the arguments, and the package variables that the reading takes, are together of bulk at most 1048576: NARROWER than '..Said'. Prove '..Said' where nothing that the law and all that it calls make is longer than what came in: it says more and counts as full. Else prove '..UptoSaid'. A law counts once. -/
mutual
def uptoBulk {H : Type} : DataW H → Nat
  | .lit (.string bytes) => bytes.length + 1
  | .lit _ => 1
  | .nil => 1
  | .ptr d => uptoBulk d + 1
  | .slice elems spare => uptoBulkAll elems + uptoBulkAll spare + 1
  | .agg parts => uptoBulkAll parts + 1
  | .iface _ d => uptoBulk d + 1
  | .map entries => uptoBulkEntries entries + 1
  | .held _ => 1
def uptoBulkAll {H : Type} : List (DataW H) → Nat
  | [] => 0
  | d :: r => uptoBulk d + uptoBulkAll r
def uptoBulkEntries {H : Type} : List (Lit × DataW H) → Nat
  | [] => 0
  | x :: r => uptoBulkEntry x + uptoBulkEntries r
def uptoBulkEntry {H : Type} : Lit × DataW H → Nat
  | (.string bytes, d) => bytes.length + uptoBulk d + 1
  | (_, d) => uptoBulk d + 1
 end
def uptoSmall : (H : Type) → List (DataW H) → Bool := fun _ ds => decide (uptoBulkAll ds ≤ 1048576)
def OpenSpec.upto (s : _root_.Go.ChangeSpec) : _root_.Go.OpenSpec := { _root_.Go.OpenSpec.ofChange s with cond := some uptoSmall }

/-- 'besomlaw08.ChainOnce', WHERE WHAT IT READS IS OF BULK AT MOST 1048576: true; the input reads as it did. -/
def chainOnceUptoRow : OpenClaim := { program := "ytommbfigioeghaa", sum := "5887bad9ef2a4e2df381061cfd4cb062d73fafbcd204fcc4707d90b2c640cf5a", func := "besom/besomlaw08.ChainOnce", spec := "chainOnce", unfollowed := true, recurses := true, apart := false, narrowed := true }
def ChainOnceUptoSaid : Prop := chainOnceUptoRow.holds Try.pinned (OpenSpec.upto chainOnceSpec)

/-- 'besomlaw06.BagTells', WHERE WHAT IT READS IS OF BULK AT MOST 1048576: true; the input reads as it did. -/
def bagTellsUptoRow : OpenClaim := { program := "ytommbfigioeghaa", sum := "5887bad9ef2a4e2df381061cfd4cb062d73fafbcd204fcc4707d90b2c640cf5a", func := "besom/besomlaw06.BagTells", spec := "bagTells", unfollowed := true, recurses := true, apart := false, narrowed := true }
def BagTellsUptoSaid : Prop := bagTellsUptoRow.holds Try.pinned (OpenSpec.upto bagTellsSpec)

/-- 'besomlaw06.BagSums', WHERE WHAT IT READS IS OF BULK AT MOST 1048576: true; the input reads as it did. -/
def bagSumsUptoRow : OpenClaim := { program := "ytommbfigioeghaa", sum := "5887bad9ef2a4e2df381061cfd4cb062d73fafbcd204fcc4707d90b2c640cf5a", func := "besom/besomlaw06.BagSums", spec := "bagSums", unfollowed := true, recurses := true, apart := false, narrowed := true }
def BagSumsUptoSaid : Prop := bagSumsUptoRow.holds Try.pinned (OpenSpec.upto bagSumsSpec)

/-- 'besomlaw06.BagLess', WHERE WHAT IT READS IS OF BULK AT MOST 1048576: true; the input reads as it did. -/
def bagLessUptoRow : OpenClaim := { program := "ytommbfigioeghaa", sum := "5887bad9ef2a4e2df381061cfd4cb062d73fafbcd204fcc4707d90b2c640cf5a", func := "besom/besomlaw06.BagLess", spec := "bagLess", unfollowed := true, recurses := true, apart := false, narrowed := true }
def BagLessUptoSaid : Prop := bagLessUptoRow.holds Try.pinned (OpenSpec.upto bagLessSpec)

/-- 'besomlaw06.BagNorm', WHERE WHAT IT READS IS OF BULK AT MOST 1048576: true; the input reads as it did. -/
def bagNormUptoRow : OpenClaim := { program := "ytommbfigioeghaa", sum := "5887bad9ef2a4e2df381061cfd4cb062d73fafbcd204fcc4707d90b2c640cf5a", func := "besom/besomlaw06.BagNorm", spec := "bagNorm", unfollowed := true, recurses := true, apart := false, narrowed := true }
def BagNormUptoSaid : Prop := bagNormUptoRow.holds Try.pinned (OpenSpec.upto bagNormSpec)

/-- 'besomlaw06.BagAdds', WHERE WHAT IT READS IS OF BULK AT MOST 1048576: true; the input reads as it did. -/
def bagAddsUptoRow : OpenClaim := { program := "ytommbfigioeghaa", sum := "5887bad9ef2a4e2df381061cfd4cb062d73fafbcd204fcc4707d90b2c640cf5a", func := "besom/besomlaw06.BagAdds", spec := "bagAdds", unfollowed := true, recurses := true, apart := false, narrowed := true }
def BagAddsUptoSaid : Prop := bagAddsUptoRow.holds Try.pinned (OpenSpec.upto bagAddsSpec)

/-- 'besomlaw06.BagSame', WHERE WHAT IT READS IS OF BULK AT MOST 1048576: true; the input reads as it did. -/
def bagSameUptoRow : OpenClaim := { program := "ytommbfigioeghaa", sum := "5887bad9ef2a4e2df381061cfd4cb062d73fafbcd204fcc4707d90b2c640cf5a", func := "besom/besomlaw06.BagSame", spec := "bagSame", unfollowed := true, recurses := true, apart := false, narrowed := true }
def BagSameUptoSaid : Prop := bagSameUptoRow.holds Try.pinned (OpenSpec.upto bagSameSpec)

/-- 'besomlaw07.DequeStops', WHERE WHAT IT READS IS OF BULK AT MOST 1048576: true; the input reads as it did. -/
def dequeStopsUptoRow : OpenClaim := { program := "ytommbfigioeghaa", sum := "5887bad9ef2a4e2df381061cfd4cb062d73fafbcd204fcc4707d90b2c640cf5a", func := "besom/besomlaw07.DequeStops", spec := "dequeStops", unfollowed := true, recurses := true, apart := false, narrowed := true }
def DequeStopsUptoSaid : Prop := dequeStopsUptoRow.holds Try.pinned (OpenSpec.upto dequeStopsSpec)

/-- 'besomlaw07.DequeOrder', WHERE WHAT IT READS IS OF BULK AT MOST 1048576: true; the input reads as it did. -/
def dequeOrderUptoRow : OpenClaim := { program := "ytommbfigioeghaa", sum := "5887bad9ef2a4e2df381061cfd4cb062d73fafbcd204fcc4707d90b2c640cf5a", func := "besom/besomlaw07.DequeOrder", spec := "dequeOrder", unfollowed := true, recurses := true, apart := false, narrowed := true }
def DequeOrderUptoSaid : Prop := dequeOrderUptoRow.holds Try.pinned (OpenSpec.upto dequeOrderSpec)

/-- 'besomlaw07.DequeOnce', WHERE WHAT IT READS IS OF BULK AT MOST 1048576: true; the input reads as it did. -/
def dequeOnceUptoRow : OpenClaim := { program := "ytommbfigioeghaa", sum := "5887bad9ef2a4e2df381061cfd4cb062d73fafbcd204fcc4707d90b2c640cf5a", func := "besom/besomlaw07.DequeOnce", spec := "dequeOnce", unfollowed := true, recurses := true, apart := false, narrowed := true }
def DequeOnceUptoSaid : Prop := dequeOnceUptoRow.holds Try.pinned (OpenSpec.upto dequeOnceSpec)

end Rows
end Go.Proofs.Ytommbfigioeghaa
