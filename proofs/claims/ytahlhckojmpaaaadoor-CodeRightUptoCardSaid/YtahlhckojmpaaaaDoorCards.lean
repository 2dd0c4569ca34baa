/-
  DERIVED. GIVEN WITH THE SEED: THE CARDS: each row of YtahlhckojmpaaaaDoorRows.lean that lists a variable, with what it lists TIED to the program's text (the seventh form; the later family's looks); each row that meets fmt, with fmt's text TOLD by the authors' own Lean function (tested against real Go, not proved from fmt's source: count such statements apart). THE CARD IS WHAT COUNTS. Prove the row's statement (the work); the ties are given (YtahlhckojmpaaaaDoorTie.lean); close each card by the builder's one call (the guide's Derived/Test/ToyasCard.lean, 'card_holds'). Laid BY PROGRAM, IN A SANDBOX (cutbox-door.mjs). By AI agents, Wed Nov 11 2026. No macro, syntax, notation, axiom, sorry.
-/
import Derived.Test.YtahlhckojmpaaaaDoorRows
import GoSem.ClaimSeven
namespace Go.Proofs.YtahlhckojmpaaaaDoor
namespace Rows

/-- THE TIED CARD OF 'besomlaw11.CodeTells'. -/
def codeTellsCard : Claim7 := { stood := { row := codeTellsRow, standIns := [], harness := (true, "a4da0861d83b324a832844bf42b700df08b5931f38c19526af4303c5c6364abc"), looks := true }, kinds := [], alts := [], laidByText := true, laidKinds := [.data, .data, .data, .data, .pinned], laidTests := true, laidLooks := .later }
def CodeTellsCardSaid : Prop := Claim7.holds Tryd.pinned (.plain (OpenSpec.ofChange codeTellsSpec)) codeTellsCard

/-- THE TIED CARD OF 'besomlaw11.CodeBack'. -/
def codeBackCard : Claim7 := { stood := { row := codeBackRow, standIns := [], harness := (true, "a4da0861d83b324a832844bf42b700df08b5931f38c19526af4303c5c6364abc"), looks := true }, kinds := [], alts := [], laidByText := true, laidKinds := [.data, .data, .data, .data, .pinned], laidTests := true, laidLooks := .later }
def CodeBackCardSaid : Prop := Claim7.holds Tryd.pinned (.plain (OpenSpec.ofChange codeBackSpec)) codeBackCard

/-- THE TIED CARD OF 'besomlaw11.CodeRight'. -/
def codeRightCard : Claim7 := { stood := { row := codeRightRow, standIns := [], harness := (true, "a4da0861d83b324a832844bf42b700df08b5931f38c19526af4303c5c6364abc"), looks := true }, kinds := [], alts := [], laidByText := true, laidKinds := [.data, .data, .data, .data, .pinned], laidTests := true, laidLooks := .later }
def CodeRightCardSaid : Prop := Claim7.holds Tryd.pinned (.plain (OpenSpec.ofChange codeRightSpec)) codeRightCard

/-- THE TIED CARD OF 'besomlaw11.CodeApart'. -/
def codeApartCard : Claim7 := { stood := { row := codeApartRow, standIns := [], harness := (true, "a4da0861d83b324a832844bf42b700df08b5931f38c19526af4303c5c6364abc"), looks := true }, kinds := [], alts := [], laidByText := true, laidKinds := [.data, .data, .data, .data, .pinned], laidTests := true, laidLooks := .later }
def CodeApartCardSaid : Prop := Claim7.holds Tryd.pinned (.plain (OpenSpec.ofChange codeApartSpec)) codeApartCard

/-- THE TIED CARD OF 'besomlaw11.CodeFits'. -/
def codeFitsCard : Claim7 := { stood := { row := codeFitsRow, standIns := [], harness := (true, "a4da0861d83b324a832844bf42b700df08b5931f38c19526af4303c5c6364abc"), looks := true }, kinds := [], alts := [], laidByText := true, laidKinds := [.data, .data, .data, .data, .pinned], laidTests := true, laidLooks := .later }
def CodeFitsCardSaid : Prop := Claim7.holds Tryd.pinned (.plain (OpenSpec.ofChange codeFitsSpec)) codeFitsCard

/-- THE TIED CARD OF 'besomlaw11.CodeWrites'. -/
def codeWritesCard : Claim7 := { stood := { row := codeWritesRow, standIns := [], harness := (true, "a4da0861d83b324a832844bf42b700df08b5931f38c19526af4303c5c6364abc"), looks := true }, kinds := [], alts := [], laidByText := true, laidKinds := [.data, .data, .data, .data, .pinned], laidTests := true, laidLooks := .later }
def CodeWritesCardSaid : Prop := Claim7.holds Tryd.pinned (.plain (OpenSpec.ofChange codeWritesSpec)) codeWritesCard

/-- THE TIED CARD OF 'besomlaw03.HeapTells'. -/
def heapTellsCard : Claim7 := { stood := { row := heapTellsRow, standIns := [], harness := (true, "a4da0861d83b324a832844bf42b700df08b5931f38c19526af4303c5c6364abc"), looks := true }, kinds := [], alts := [], laidByText := true, laidKinds := [.data, .data, .data, .data, .sentinel, .sentinel, .pinned], laidTests := true, laidLooks := .later }
def HeapTellsCardSaid : Prop := Claim7.holds Tryd.pinned (.plain (OpenSpec.ofChange heapTellsSpec)) heapTellsCard

/-- THE TIED CARD OF 'besomlaw03.HeapPuts'. -/
def heapPutsCard : Claim7 := { stood := { row := heapPutsRow, standIns := [], harness := (true, "a4da0861d83b324a832844bf42b700df08b5931f38c19526af4303c5c6364abc"), looks := true }, kinds := [], alts := [], laidByText := true, laidKinds := [.data, .data, .data, .data, .sentinel, .sentinel, .pinned], laidTests := true, laidLooks := .later }
def HeapPutsCardSaid : Prop := Claim7.holds Tryd.pinned (.plain (OpenSpec.ofChange heapPutsSpec)) heapPutsCard

/-- THE TIED CARD OF 'besomlaw03.HeapAllocs'. -/
def heapAllocsCard : Claim7 := { stood := { row := heapAllocsRow, standIns := [], harness := (true, "a4da0861d83b324a832844bf42b700df08b5931f38c19526af4303c5c6364abc"), looks := true }, kinds := [], alts := [], laidByText := true, laidKinds := [.data, .data, .data, .data, .sentinel, .sentinel, .pinned], laidTests := true, laidLooks := .later }
def HeapAllocsCardSaid : Prop := Claim7.holds Tryd.pinned (.plain (OpenSpec.ofChange heapAllocsSpec)) heapAllocsCard

/-- THE TIED CARD OF 'besomlaw03.HeapBack'. -/
def heapBackCard : Claim7 := { stood := { row := heapBackRow, standIns := [], harness := (true, "a4da0861d83b324a832844bf42b700df08b5931f38c19526af4303c5c6364abc"), looks := true }, kinds := [], alts := [], laidByText := true, laidKinds := [.data, .data, .data, .data, .sentinel, .sentinel, .pinned], laidTests := true, laidLooks := .later }
def HeapBackCardSaid : Prop := Claim7.holds Tryd.pinned (.plain (OpenSpec.ofChange heapBackSpec)) heapBackCard

/-- THE TIED CARD OF 'besomlaw03.HeapSame'. -/
def heapSameCard : Claim7 := { stood := { row := heapSameRow, standIns := [], harness := (true, "a4da0861d83b324a832844bf42b700df08b5931f38c19526af4303c5c6364abc"), looks := true }, kinds := [], alts := [], laidByText := true, laidKinds := [.data, .data, .data, .data, .sentinel, .sentinel, .pinned], laidTests := true, laidLooks := .later }
def HeapSameCardSaid : Prop := Claim7.holds Tryd.pinned (.plain (OpenSpec.ofChange heapSameSpec)) heapSameCard

/-- THE TIED CARD OF 'besomlaw03.HeapTwice'. -/
def heapTwiceCard : Claim7 := { stood := { row := heapTwiceRow, standIns := [], harness := (true, "a4da0861d83b324a832844bf42b700df08b5931f38c19526af4303c5c6364abc"), looks := true }, kinds := [], alts := [], laidByText := true, laidKinds := [.data, .data, .data, .data, .sentinel, .sentinel, .pinned], laidTests := true, laidLooks := .later }
def HeapTwiceCardSaid : Prop := Claim7.holds Tryd.pinned (.plain (OpenSpec.ofChange heapTwiceSpec)) heapTwiceCard

/-- THE SECOND FORM's CARD OF 'besomlaw11.CodeTells'. -/
def codeTellsUptoCard : Claim7 := { stood := { row := codeTellsUptoRow, standIns := [], harness := (true, "a4da0861d83b324a832844bf42b700df08b5931f38c19526af4303c5c6364abc"), looks := true }, kinds := [], alts := [], laidByText := true, laidKinds := [.data, .data, .data, .data, .pinned], laidTests := true, laidLooks := .later }
def CodeTellsUptoCardSaid : Prop := Claim7.holds Tryd.pinned (.plain (OpenSpec.upto codeTellsSpec)) codeTellsUptoCard

/-- THE SECOND FORM's CARD OF 'besomlaw11.CodeBack'. -/
def codeBackUptoCard : Claim7 := { stood := { row := codeBackUptoRow, standIns := [], harness := (true, "a4da0861d83b324a832844bf42b700df08b5931f38c19526af4303c5c6364abc"), looks := true }, kinds := [], alts := [], laidByText := true, laidKinds := [.data, .data, .data, .data, .pinned], laidTests := true, laidLooks := .later }
def CodeBackUptoCardSaid : Prop := Claim7.holds Tryd.pinned (.plain (OpenSpec.upto codeBackSpec)) codeBackUptoCard

/-- THE SECOND FORM's CARD OF 'besomlaw11.CodeRight'. -/
def codeRightUptoCard : Claim7 := { stood := { row := codeRightUptoRow, standIns := [], harness := (true, "a4da0861d83b324a832844bf42b700df08b5931f38c19526af4303c5c6364abc"), looks := true }, kinds := [], alts := [], laidByText := true, laidKinds := [.data, .data, .data, .data, .pinned], laidTests := true, laidLooks := .later }
def CodeRightUptoCardSaid : Prop := Claim7.holds Tryd.pinned (.plain (OpenSpec.upto codeRightSpec)) codeRightUptoCard

/-- THE SECOND FORM's CARD OF 'besomlaw11.CodeApart'. -/
def codeApartUptoCard : Claim7 := { stood := { row := codeApartUptoRow, standIns := [], harness := (true, "a4da0861d83b324a832844bf42b700df08b5931f38c19526af4303c5c6364abc"), looks := true }, kinds := [], alts := [], laidByText := true, laidKinds := [.data, .data, .data, .data, .pinned], laidTests := true, laidLooks := .later }
def CodeApartUptoCardSaid : Prop := Claim7.holds Tryd.pinned (.plain (OpenSpec.upto codeApartSpec)) codeApartUptoCard

/-- THE SECOND FORM's CARD OF 'besomlaw11.CodeFits'. -/
def codeFitsUptoCard : Claim7 := { stood := { row := codeFitsUptoRow, standIns := [], harness := (true, "a4da0861d83b324a832844bf42b700df08b5931f38c19526af4303c5c6364abc"), looks := true }, kinds := [], alts := [], laidByText := true, laidKinds := [.data, .data, .data, .data, .pinned], laidTests := true, laidLooks := .later }
def CodeFitsUptoCardSaid : Prop := Claim7.holds Tryd.pinned (.plain (OpenSpec.upto codeFitsSpec)) codeFitsUptoCard

/-- THE SECOND FORM's CARD OF 'besomlaw11.CodeWrites'. -/
def codeWritesUptoCard : Claim7 := { stood := { row := codeWritesUptoRow, standIns := [], harness := (true, "a4da0861d83b324a832844bf42b700df08b5931f38c19526af4303c5c6364abc"), looks := true }, kinds := [], alts := [], laidByText := true, laidKinds := [.data, .data, .data, .data, .pinned], laidTests := true, laidLooks := .later }
def CodeWritesUptoCardSaid : Prop := Claim7.holds Tryd.pinned (.plain (OpenSpec.upto codeWritesSpec)) codeWritesUptoCard

/-- THE SECOND FORM's CARD OF 'besomlaw03.HeapTells'. -/
def heapTellsUptoCard : Claim7 := { stood := { row := heapTellsUptoRow, standIns := [], harness := (true, "a4da0861d83b324a832844bf42b700df08b5931f38c19526af4303c5c6364abc"), looks := true }, kinds := [], alts := [], laidByText := true, laidKinds := [.data, .data, .data, .data, .sentinel, .sentinel, .pinned], laidTests := true, laidLooks := .later }
def HeapTellsUptoCardSaid : Prop := Claim7.holds Tryd.pinned (.plain (OpenSpec.upto heapTellsSpec)) heapTellsUptoCard

/-- THE SECOND FORM's CARD OF 'besomlaw03.HeapPuts'. -/
def heapPutsUptoCard : Claim7 := { stood := { row := heapPutsUptoRow, standIns := [], harness := (true, "a4da0861d83b324a832844bf42b700df08b5931f38c19526af4303c5c6364abc"), looks := true }, kinds := [], alts := [], laidByText := true, laidKinds := [.data, .data, .data, .data, .sentinel, .sentinel, .pinned], laidTests := true, laidLooks := .later }
def HeapPutsUptoCardSaid : Prop := Claim7.holds Tryd.pinned (.plain (OpenSpec.upto heapPutsSpec)) heapPutsUptoCard

/-- THE SECOND FORM's CARD OF 'besomlaw03.HeapAllocs'. -/
def heapAllocsUptoCard : Claim7 := { stood := { row := heapAllocsUptoRow, standIns := [], harness := (true, "a4da0861d83b324a832844bf42b700df08b5931f38c19526af4303c5c6364abc"), looks := true }, kinds := [], alts := [], laidByText := true, laidKinds := [.data, .data, .data, .data, .sentinel, .sentinel, .pinned], laidTests := true, laidLooks := .later }
def HeapAllocsUptoCardSaid : Prop := Claim7.holds Tryd.pinned (.plain (OpenSpec.upto heapAllocsSpec)) heapAllocsUptoCard

/-- THE SECOND FORM's CARD OF 'besomlaw03.HeapBack'. -/
def heapBackUptoCard : Claim7 := { stood := { row := heapBackUptoRow, standIns := [], harness := (true, "a4da0861d83b324a832844bf42b700df08b5931f38c19526af4303c5c6364abc"), looks := true }, kinds := [], alts := [], laidByText := true, laidKinds := [.data, .data, .data, .data, .sentinel, .sentinel, .pinned], laidTests := true, laidLooks := .later }
def HeapBackUptoCardSaid : Prop := Claim7.holds Tryd.pinned (.plain (OpenSpec.upto heapBackSpec)) heapBackUptoCard

/-- THE SECOND FORM's CARD OF 'besomlaw03.HeapSame'. -/
def heapSameUptoCard : Claim7 := { stood := { row := heapSameUptoRow, standIns := [], harness := (true, "a4da0861d83b324a832844bf42b700df08b5931f38c19526af4303c5c6364abc"), looks := true }, kinds := [], alts := [], laidByText := true, laidKinds := [.data, .data, .data, .data, .sentinel, .sentinel, .pinned], laidTests := true, laidLooks := .later }
def HeapSameUptoCardSaid : Prop := Claim7.holds Tryd.pinned (.plain (OpenSpec.upto heapSameSpec)) heapSameUptoCard

/-- THE SECOND FORM's CARD OF 'besomlaw03.HeapTwice'. -/
def heapTwiceUptoCard : Claim7 := { stood := { row := heapTwiceUptoRow, standIns := [], harness := (true, "a4da0861d83b324a832844bf42b700df08b5931f38c19526af4303c5c6364abc"), looks := true }, kinds := [], alts := [], laidByText := true, laidKinds := [.data, .data, .data, .data, .sentinel, .sentinel, .pinned], laidTests := true, laidLooks := .later }
def HeapTwiceUptoCardSaid : Prop := Claim7.holds Tryd.pinned (.plain (OpenSpec.upto heapTwiceSpec)) heapTwiceUptoCard
end Rows
end Go.Proofs.YtahlhckojmpaaaaDoor
