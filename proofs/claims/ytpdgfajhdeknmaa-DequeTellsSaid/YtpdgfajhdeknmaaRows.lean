/-
  No cell of these rows narrows 'for every input' (looked for: loops, veiled, ifaces, maps, wideKeys, modest, calm, conditions, laid).
  DERIVED. THE GIVEN ROWS OF THIS SEAT. 3 by the template 'for every input the law returns true; each argument reads behind the call as it read before'; 0 by the template 'total and deterministic' (their statements: YtpdgfajhdeknmaaTotals.lean).
  GIVEN WITH THE SEED: the statements are not yours to turn. If you find one false, say at which input.
  Laid BY PROGRAM, IN A SANDBOX (cutbox-rows.mjs): the forced cells as the released guide's own fill.sh prints them over the translation 0b74d562ef00b6f7… (all of the seat's roots in one cut). By AI agents, Wed Nov 11 2026. No macro, syntax, notation, axiom, sorry.
-/
import Derived.Test.YtpdgfajhdeknmaaChecked
import GoSem.Claim
import GoSem.ClaimJoined
import GoSem.ClaimMapViews
import Derived.JoinedTies
import Derived.KernelRfl
namespace Go.Proofs.Ytpdgfajhdeknmaa
/- THE CELL 'sum', in the pinned program and in every row, IS THE sha256 OF THE DUMP (.gsa) THAT YtpdgfajhdeknmaaProg.lean LOADS. Nothing in Lean hashes anything: it is a label: what it is worth is what the hold of that sum in a sandbox is worth. -/
noncomputable def Try.pinned : Pinned := { name := "ytpdgfajhdeknmaa", sum := "0b74d562ef00b6f7097cf4bf09ffb40828a7ae90d1b32f2971540af95c7b76b8", checked := Try.checked }
namespace Rows
def none {H : Type} : Left H := { results := [], args := [] }

/-- 'besomlaw07.DequeTells': WHATEVER THE INPUT: true; the input reads as it did. -/
def dequeTellsSpec : ChangeSpec := { name := "dequeTells", fn := fun _ => fun
  | [d1, d2, d3] => { results := [.lit (.bool true)], args := [d1, d2, d3] }
  | _ => none }
def dequeTellsRow : OpenClaim := { program := "ytpdgfajhdeknmaa", sum := "0b74d562ef00b6f7097cf4bf09ffb40828a7ae90d1b32f2971540af95c7b76b8", func := "besom/besomlaw07.DequeTells", spec := "dequeTells", unfollowed := true, recurses := true, apart := false }
def DequeTellsSaid : Prop := dequeTellsRow.holds Try.pinned (OpenSpec.ofChange dequeTellsSpec)

/-- ITS FALSE NEIGHBOUR: 'it returns false'. Refute it at one input. -/
def dequeTellsWrong : ChangeSpec := { name := "dequeTells", fn := fun _ => fun
  | [d1, d2, d3] => { results := [.lit (.bool false)], args := [d1, d2, d3] }
  | _ => none }
def DequeTellsWrongFalsely : Prop := dequeTellsRow.holds Try.pinned (OpenSpec.ofChange dequeTellsWrong)

/-- 'besomlaw07.DequeAlone': WHATEVER THE INPUT: true; the input reads as it did. -/
def dequeAloneSpec : ChangeSpec := { name := "dequeAlone", fn := fun _ => fun
  | [d1, d2] => { results := [.lit (.bool true)], args := [d1, d2] }
  | _ => none }
def dequeAloneRow : OpenClaim := { program := "ytpdgfajhdeknmaa", sum := "0b74d562ef00b6f7097cf4bf09ffb40828a7ae90d1b32f2971540af95c7b76b8", func := "besom/besomlaw07.DequeAlone", spec := "dequeAlone", unfollowed := true, recurses := true, apart := false }
def DequeAloneSaid : Prop := dequeAloneRow.holds Try.pinned (OpenSpec.ofChange dequeAloneSpec)

/-- ITS FALSE NEIGHBOUR: 'it returns false'. Refute it at one input. -/
def dequeAloneWrong : ChangeSpec := { name := "dequeAlone", fn := fun _ => fun
  | [d1, d2] => { results := [.lit (.bool false)], args := [d1, d2] }
  | _ => none }
def DequeAloneWrongFalsely : Prop := dequeAloneRow.holds Try.pinned (OpenSpec.ofChange dequeAloneWrong)

/-- 'besomlaw07.DequePure': WHATEVER THE INPUT: true; the input reads as it did. -/
def dequePureSpec : ChangeSpec := { name := "dequePure", fn := fun _ => fun
  | [d1, d2] => { results := [.lit (.bool true)], args := [d1, d2] }
  | _ => none }
def dequePureRow : OpenClaim := { program := "ytpdgfajhdeknmaa", sum := "0b74d562ef00b6f7097cf4bf09ffb40828a7ae90d1b32f2971540af95c7b76b8", func := "besom/besomlaw07.DequePure", spec := "dequePure", unfollowed := true, recurses := true, apart := false }
def DequePureSaid : Prop := dequePureRow.holds Try.pinned (OpenSpec.ofChange dequePureSpec)

/-- ITS FALSE NEIGHBOUR: 'it returns false'. Refute it at one input. -/
def dequePureWrong : ChangeSpec := { name := "dequePure", fn := fun _ => fun
  | [d1, d2] => { results := [.lit (.bool false)], args := [d1, d2] }
  | _ => none }
def DequePureWrongFalsely : Prop := dequePureRow.holds Try.pinned (OpenSpec.ofChange dequePureWrong)

/- THE SECOND FORM. 'bulk': how many values and letters a reading holds, each counted each time it is reached (what is shared counts as often as it is met; a slice's spare places count too). A statement '..UptoSaid' is the law's where the arguments, and the package variables that the reading takes, are together of bulk at most 1048576: NARROWER than '..Said'. Prove '..Said' where nothing that the law and all that it calls make is longer than what came in: it says more and counts as full. Else prove '..UptoSaid'. A law counts once. -/
mutual
def uptoBulk {H : Type} : DataW H → Nat
  | .lit (.string bytes) => bytes.length + 1
  | .lit _ => 1
  | .nil => 1
  | .ptr d => uptoBulk d + 1
  | .slice elems spare => uptoBulkAll elems + uptoBulkAll spare + 1
  | .agg parts => uptoBulkAll parts + 1
  | .iface _ d => uptoBulk d + 1
  | .map entries => uptoBulkEntries entries + 1
  | .held _ => 1
def uptoBulkAll {H : Type} : List (DataW H) → Nat
  | [] => 0
  | d :: r => uptoBulk d + uptoBulkAll r
def uptoBulkEntries {H : Type} : List (Lit × DataW H) → Nat
  | [] => 0
  | x :: r => uptoBulkEntry x + uptoBulkEntries r
def uptoBulkEntry {H : Type} : Lit × DataW H → Nat
  | (.string bytes, d) => bytes.length + uptoBulk d + 1
  | (_, d) => uptoBulk d + 1
 end
def uptoSmall : (H : Type) → List (DataW H) → Bool := fun _ ds => decide (uptoBulkAll ds ≤ 1048576)
def OpenSpec.upto (s : _root_.Go.ChangeSpec) : _root_.Go.OpenSpec := { _root_.Go.OpenSpec.ofChange s with cond := some uptoSmall }

/-- 'besomlaw07.DequeTells', WHERE WHAT IT READS IS OF BULK AT MOST 1048576: true; the input reads as it did. -/
def dequeTellsUptoRow : OpenClaim := { program := "ytpdgfajhdeknmaa", sum := "0b74d562ef00b6f7097cf4bf09ffb40828a7ae90d1b32f2971540af95c7b76b8", func := "besom/besomlaw07.DequeTells", spec := "dequeTells", unfollowed := true, recurses := true, apart := false, narrowed := true }
def DequeTellsUptoSaid : Prop := dequeTellsUptoRow.holds Try.pinned (OpenSpec.upto dequeTellsSpec)

/-- 'besomlaw07.DequeAlone', WHERE WHAT IT READS IS OF BULK AT MOST 1048576: true; the input reads as it did. -/
def dequeAloneUptoRow : OpenClaim := { program := "ytpdgfajhdeknmaa", sum := "0b74d562ef00b6f7097cf4bf09ffb40828a7ae90d1b32f2971540af95c7b76b8", func := "besom/besomlaw07.DequeAlone", spec := "dequeAlone", unfollowed := true, recurses := true, apart := false, narrowed := true }
def DequeAloneUptoSaid : Prop := dequeAloneUptoRow.holds Try.pinned (OpenSpec.upto dequeAloneSpec)

/-- 'besomlaw07.DequePure', WHERE WHAT IT READS IS OF BULK AT MOST 1048576: true; the input reads as it did. -/
def dequePureUptoRow : OpenClaim := { program := "ytpdgfajhdeknmaa", sum := "0b74d562ef00b6f7097cf4bf09ffb40828a7ae90d1b32f2971540af95c7b76b8", func := "besom/besomlaw07.DequePure", spec := "dequePure", unfollowed := true, recurses := true, apart := false, narrowed := true }
def DequePureUptoSaid : Prop := dequePureUptoRow.holds Try.pinned (OpenSpec.upto dequePureSpec)

end Rows
end Go.Proofs.Ytpdgfajhdeknmaa
