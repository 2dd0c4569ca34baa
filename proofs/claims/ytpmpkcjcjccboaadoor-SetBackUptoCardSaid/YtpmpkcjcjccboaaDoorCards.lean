/-
  DERIVED. GIVEN WITH THE SEED: THE CARDS: each row of YtpmpkcjcjccboaaDoorRows.lean that lists a variable, with what it lists TIED to the program's text (the seventh form; the later family's looks); each row that meets fmt, with fmt's text TOLD by the authors' own Lean function (tested against real Go, not proved from fmt's source: count such statements apart). THE CARD IS WHAT COUNTS. Prove the row's statement (the work); the ties are given (YtpmpkcjcjccboaaDoorTie.lean); close each card by the builder's one call (the guide's Derived/Test/ToyasCard.lean, 'card_holds'). Laid BY PROGRAM, IN A SANDBOX (cutbox-door.mjs). By AI agents, Wed Nov 11 2026. No macro, syntax, notation, axiom, sorry.
-/
import Derived.Test.YtpmpkcjcjccboaaDoorRows
import GoSem.ClaimSeven
namespace Go.Proofs.YtpmpkcjcjccboaaDoor
namespace Rows

/-- THE TIED CARD OF 'besomlaw02.SetTells'. -/
def setTellsCard : Claim7 := { stood := { row := setTellsRow, standIns := [], harness := (true, "c5f566a1766b488e5e92558099ffd7f58c5a33a742b08b61521ddc53c357db8a"), looks := true }, kinds := [], alts := [], laidByText := true, laidKinds := [.data, .data, .data, .data, .sentinel, .sentinel, .pinned], laidTests := true, laidLooks := .later }
def SetTellsCardSaid : Prop := Claim7.holds Tryd.pinned (.plain (OpenSpec.ofChange setTellsSpec)) setTellsCard

/-- THE TIED CARD OF 'besomlaw02.SetTurns'. -/
def setTurnsCard : Claim7 := { stood := { row := setTurnsRow, standIns := [], harness := (true, "c5f566a1766b488e5e92558099ffd7f58c5a33a742b08b61521ddc53c357db8a"), looks := true }, kinds := [], alts := [], laidByText := true, laidKinds := [.data, .data, .data, .data, .sentinel, .sentinel, .pinned], laidTests := true, laidLooks := .later }
def SetTurnsCardSaid : Prop := Claim7.holds Tryd.pinned (.plain (OpenSpec.ofChange setTurnsSpec)) setTurnsCard

/-- THE TIED CARD OF 'besomlaw02.SetLists'. -/
def setListsCard : Claim7 := { stood := { row := setListsRow, standIns := [], harness := (true, "c5f566a1766b488e5e92558099ffd7f58c5a33a742b08b61521ddc53c357db8a"), looks := true }, kinds := [], alts := [], laidByText := true, laidKinds := [.data, .data, .data, .data, .sentinel, .sentinel, .pinned], laidTests := true, laidLooks := .later }
def SetListsCardSaid : Prop := Claim7.holds Tryd.pinned (.plain (OpenSpec.ofChange setListsSpec)) setListsCard

/-- THE TIED CARD OF 'besomlaw02.SetUnder'. -/
def setUnderCard : Claim7 := { stood := { row := setUnderRow, standIns := [], harness := (true, "c5f566a1766b488e5e92558099ffd7f58c5a33a742b08b61521ddc53c357db8a"), looks := true }, kinds := [], alts := [], laidByText := true, laidKinds := [.data, .data, .data, .data, .sentinel, .sentinel, .pinned], laidTests := true, laidLooks := .later }
def SetUnderCardSaid : Prop := Claim7.holds Tryd.pinned (.plain (OpenSpec.ofChange setUnderSpec)) setUnderCard

/-- THE TIED CARD OF 'besomlaw02.SetBack'. -/
def setBackCard : Claim7 := { stood := { row := setBackRow, standIns := [], harness := (true, "c5f566a1766b488e5e92558099ffd7f58c5a33a742b08b61521ddc53c357db8a"), looks := true }, kinds := [], alts := [], laidByText := true, laidKinds := [.data, .data, .data, .data, .sentinel, .sentinel, .pinned], laidTests := true, laidLooks := .later }
def SetBackCardSaid : Prop := Claim7.holds Tryd.pinned (.plain (OpenSpec.ofChange setBackSpec)) setBackCard

/-- THE TIED CARD OF 'besomlaw02.SetFirst'. -/
def setFirstCard : Claim7 := { stood := { row := setFirstRow, standIns := [], harness := (true, "c5f566a1766b488e5e92558099ffd7f58c5a33a742b08b61521ddc53c357db8a"), looks := true }, kinds := [], alts := [], laidByText := true, laidKinds := [.data, .data, .data, .data, .sentinel, .sentinel, .pinned], laidTests := true, laidLooks := .later }
def SetFirstCardSaid : Prop := Claim7.holds Tryd.pinned (.plain (OpenSpec.ofChange setFirstSpec)) setFirstCard

/-- THE SECOND FORM's CARD OF 'besomlaw02.SetTells'. -/
def setTellsUptoCard : Claim7 := { stood := { row := setTellsUptoRow, standIns := [], harness := (true, "c5f566a1766b488e5e92558099ffd7f58c5a33a742b08b61521ddc53c357db8a"), looks := true }, kinds := [], alts := [], laidByText := true, laidKinds := [.data, .data, .data, .data, .sentinel, .sentinel, .pinned], laidTests := true, laidLooks := .later }
def SetTellsUptoCardSaid : Prop := Claim7.holds Tryd.pinned (.plain (OpenSpec.upto setTellsSpec)) setTellsUptoCard

/-- THE SECOND FORM's CARD OF 'besomlaw02.SetTurns'. -/
def setTurnsUptoCard : Claim7 := { stood := { row := setTurnsUptoRow, standIns := [], harness := (true, "c5f566a1766b488e5e92558099ffd7f58c5a33a742b08b61521ddc53c357db8a"), looks := true }, kinds := [], alts := [], laidByText := true, laidKinds := [.data, .data, .data, .data, .sentinel, .sentinel, .pinned], laidTests := true, laidLooks := .later }
def SetTurnsUptoCardSaid : Prop := Claim7.holds Tryd.pinned (.plain (OpenSpec.upto setTurnsSpec)) setTurnsUptoCard

/-- THE SECOND FORM's CARD OF 'besomlaw02.SetLists'. -/
def setListsUptoCard : Claim7 := { stood := { row := setListsUptoRow, standIns := [], harness := (true, "c5f566a1766b488e5e92558099ffd7f58c5a33a742b08b61521ddc53c357db8a"), looks := true }, kinds := [], alts := [], laidByText := true, laidKinds := [.data, .data, .data, .data, .sentinel, .sentinel, .pinned], laidTests := true, laidLooks := .later }
def SetListsUptoCardSaid : Prop := Claim7.holds Tryd.pinned (.plain (OpenSpec.upto setListsSpec)) setListsUptoCard

/-- THE SECOND FORM's CARD OF 'besomlaw02.SetUnder'. -/
def setUnderUptoCard : Claim7 := { stood := { row := setUnderUptoRow, standIns := [], harness := (true, "c5f566a1766b488e5e92558099ffd7f58c5a33a742b08b61521ddc53c357db8a"), looks := true }, kinds := [], alts := [], laidByText := true, laidKinds := [.data, .data, .data, .data, .sentinel, .sentinel, .pinned], laidTests := true, laidLooks := .later }
def SetUnderUptoCardSaid : Prop := Claim7.holds Tryd.pinned (.plain (OpenSpec.upto setUnderSpec)) setUnderUptoCard

/-- THE SECOND FORM's CARD OF 'besomlaw02.SetBack'. -/
def setBackUptoCard : Claim7 := { stood := { row := setBackUptoRow, standIns := [], harness := (true, "c5f566a1766b488e5e92558099ffd7f58c5a33a742b08b61521ddc53c357db8a"), looks := true }, kinds := [], alts := [], laidByText := true, laidKinds := [.data, .data, .data, .data, .sentinel, .sentinel, .pinned], laidTests := true, laidLooks := .later }
def SetBackUptoCardSaid : Prop := Claim7.holds Tryd.pinned (.plain (OpenSpec.upto setBackSpec)) setBackUptoCard

/-- THE SECOND FORM's CARD OF 'besomlaw02.SetFirst'. -/
def setFirstUptoCard : Claim7 := { stood := { row := setFirstUptoRow, standIns := [], harness := (true, "c5f566a1766b488e5e92558099ffd7f58c5a33a742b08b61521ddc53c357db8a"), looks := true }, kinds := [], alts := [], laidByText := true, laidKinds := [.data, .data, .data, .data, .sentinel, .sentinel, .pinned], laidTests := true, laidLooks := .later }
def SetFirstUptoCardSaid : Prop := Claim7.holds Tryd.pinned (.plain (OpenSpec.upto setFirstSpec)) setFirstUptoCard
end Rows
end Go.Proofs.YtpmpkcjcjccboaaDoor
