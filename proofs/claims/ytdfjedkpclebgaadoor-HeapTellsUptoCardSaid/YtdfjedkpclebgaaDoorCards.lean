/-
  DERIVED. GIVEN WITH THE SEED: THE CARDS: each row of YtdfjedkpclebgaaDoorRows.lean that lists a variable, with what it lists TIED to the program's text (the seventh form; the later family's looks); each row that meets fmt, with fmt's text TOLD by the authors' own Lean function (tested against real Go, not proved from fmt's source: count such statements apart). THE CARD IS WHAT COUNTS. Prove the row's statement (the work); the ties are given (YtdfjedkpclebgaaDoorTie.lean); close each card by the builder's one call (the guide's Derived/Test/ToyasCard.lean, 'card_holds'). Laid BY PROGRAM, IN A SANDBOX (cutbox-door.mjs). By AI agents, Wed Nov 11 2026. No macro, syntax, notation, axiom, sorry.
-/
import Derived.Test.YtdfjedkpclebgaaDoorRows
import GoSem.ClaimSeven
namespace Go.Proofs.YtdfjedkpclebgaaDoor
namespace Rows

/-- THE TIED CARD OF 'besomlaw04.ReachCut'. -/
def reachCutCard : Claim7 := { stood := { row := reachCutRow, standIns := [], harness := (true, "ccbaa9f80c5a903c5457e4b2f3e1505c285882da8df4a674b105761a978d8934"), looks := true }, kinds := [], alts := [], laidByText := true, laidKinds := [.data], laidTests := true, laidLooks := .later }
def ReachCutCardSaid : Prop := Claim7.holds Tryd.pinned (.plain (OpenSpec.ofChange reachCutSpec)) reachCutCard

/-- THE TIED CARD OF 'besomlaw06.BagOnce'. -/
def bagOnceCard : Claim7 := { stood := { row := bagOnceRow, standIns := [], harness := (true, "ccbaa9f80c5a903c5457e4b2f3e1505c285882da8df4a674b105761a978d8934"), looks := true }, kinds := [], alts := [], laidByText := true, laidKinds := [.data], laidTests := true, laidLooks := .later }
def BagOnceCardSaid : Prop := Claim7.holds Tryd.pinned (.plain (OpenSpec.ofChange bagOnceSpec)) bagOnceCard

/-- THE TIED CARD OF 'besomlaw03.HeapTells'. -/
def heapTellsCard : Claim7 := { stood := { row := heapTellsRow, standIns := [], harness := (true, "ccbaa9f80c5a903c5457e4b2f3e1505c285882da8df4a674b105761a978d8934"), looks := true }, kinds := [], alts := [], laidByText := true, laidKinds := [.data, .data, .data, .data, .sentinel, .sentinel, .pinned], laidTests := true, laidLooks := .later }
def HeapTellsCardSaid : Prop := Claim7.holds Tryd.pinned (.plain (OpenSpec.ofChange heapTellsSpec)) heapTellsCard

/-- THE SECOND FORM's CARD OF 'besomlaw04.ReachCut'. -/
def reachCutUptoCard : Claim7 := { stood := { row := reachCutUptoRow, standIns := [], harness := (true, "ccbaa9f80c5a903c5457e4b2f3e1505c285882da8df4a674b105761a978d8934"), looks := true }, kinds := [], alts := [], laidByText := true, laidKinds := [.data], laidTests := true, laidLooks := .later }
def ReachCutUptoCardSaid : Prop := Claim7.holds Tryd.pinned (.plain (OpenSpec.upto reachCutSpec)) reachCutUptoCard

/-- THE SECOND FORM's CARD OF 'besomlaw06.BagOnce'. -/
def bagOnceUptoCard : Claim7 := { stood := { row := bagOnceUptoRow, standIns := [], harness := (true, "ccbaa9f80c5a903c5457e4b2f3e1505c285882da8df4a674b105761a978d8934"), looks := true }, kinds := [], alts := [], laidByText := true, laidKinds := [.data], laidTests := true, laidLooks := .later }
def BagOnceUptoCardSaid : Prop := Claim7.holds Tryd.pinned (.plain (OpenSpec.upto bagOnceSpec)) bagOnceUptoCard

/-- THE SECOND FORM's CARD OF 'besomlaw03.HeapTells'. -/
def heapTellsUptoCard : Claim7 := { stood := { row := heapTellsUptoRow, standIns := [], harness := (true, "ccbaa9f80c5a903c5457e4b2f3e1505c285882da8df4a674b105761a978d8934"), looks := true }, kinds := [], alts := [], laidByText := true, laidKinds := [.data, .data, .data, .data, .sentinel, .sentinel, .pinned], laidTests := true, laidLooks := .later }
def HeapTellsUptoCardSaid : Prop := Claim7.holds Tryd.pinned (.plain (OpenSpec.upto heapTellsSpec)) heapTellsUptoCard
end Rows
end Go.Proofs.YtdfjedkpclebgaaDoor
