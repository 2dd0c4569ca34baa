/-
  DERIVED. GIVEN WITH THE SEED: THE CARDS: each row of YtbcldnaoecnffaaDoorRows.lean that lists a variable, with what it lists TIED to the program's text (the seventh form; the later family's looks); each row that meets fmt, with fmt's text TOLD by the authors' own Lean function (tested against real Go, not proved from fmt's source: count such statements apart). THE CARD IS WHAT COUNTS. Prove the row's statement (the work); the ties are given (YtbcldnaoecnffaaDoorTie.lean); close each card by the builder's one call (the guide's Derived/Test/ToyasCard.lean, 'card_holds'). Laid BY PROGRAM, IN A SANDBOX (cutbox-door.mjs). By AI agents, Wed Nov 11 2026. No macro, syntax, notation, axiom, sorry.
-/
import Derived.Test.YtbcldnaoecnffaaDoorRows
import GoSem.ClaimSeven
namespace Go.Proofs.YtbcldnaoecnffaaDoor
namespace Rows

/-- THE TIED CARD OF 'besomlaw09.TintTells'. -/
def tintTellsCard : Claim7 := { stood := { row := tintTellsRow, standIns := [], harness := (true, "e8301d7fc72db9a711b52fd78111bc563f795972a5668a566a7b512f263cda9e"), looks := false }, kinds := [], alts := [], laidByText := true, laidKinds := [.data], laidTests := true, laidLooks := .later }
def TintTellsCardSaid : Prop := Claim7.holds Tryd.pinned (.plain (OpenSpec.ofChange tintTellsSpec)) tintTellsCard

/-- THE TIED CARD OF 'besomlaw09.TintDarker'. -/
def tintDarkerCard : Claim7 := { stood := { row := tintDarkerRow, standIns := [], harness := (true, "e8301d7fc72db9a711b52fd78111bc563f795972a5668a566a7b512f263cda9e"), looks := false }, kinds := [], alts := [], laidByText := true, laidKinds := [.data], laidTests := true, laidLooks := .later }
def TintDarkerCardSaid : Prop := Claim7.holds Tryd.pinned (.plain (OpenSpec.ofChange tintDarkerSpec)) tintDarkerCard

/-- THE TIED CARD OF 'besomlaw09.TintFresh'. -/
def tintFreshCard : Claim7 := { stood := { row := tintFreshRow, standIns := [], harness := (true, "e8301d7fc72db9a711b52fd78111bc563f795972a5668a566a7b512f263cda9e"), looks := false }, kinds := [], alts := [], laidByText := true, laidKinds := [.data], laidTests := true, laidLooks := .later }
def TintFreshCardSaid : Prop := Claim7.holds Tryd.pinned (.plain (OpenSpec.ofChange tintFreshSpec)) tintFreshCard

/-- THE TIED CARD OF 'besomlaw09.TintBetween'. -/
def tintBetweenCard : Claim7 := { stood := { row := tintBetweenRow, standIns := [], harness := (true, "e8301d7fc72db9a711b52fd78111bc563f795972a5668a566a7b512f263cda9e"), looks := false }, kinds := [], alts := [], laidByText := true, laidKinds := [.data], laidTests := true, laidLooks := .later }
def TintBetweenCardSaid : Prop := Claim7.holds Tryd.pinned (.plain (OpenSpec.ofChange tintBetweenSpec)) tintBetweenCard

/-- THE TIED CARD OF 'besomlaw09.TintRight'. -/
def tintRightCard : Claim7 := { stood := { row := tintRightRow, standIns := [], harness := (true, "e8301d7fc72db9a711b52fd78111bc563f795972a5668a566a7b512f263cda9e"), looks := false }, kinds := [], alts := [], laidByText := true, laidKinds := [.data], laidTests := true, laidLooks := .later }
def TintRightCardSaid : Prop := Claim7.holds Tryd.pinned (.plain (OpenSpec.ofChange tintRightSpec)) tintRightCard

/-- THE TIED CARD OF 'besomlaw09.TintGreys'. -/
def tintGreysCard : Claim7 := { stood := { row := tintGreysRow, standIns := [], harness := (true, "e8301d7fc72db9a711b52fd78111bc563f795972a5668a566a7b512f263cda9e"), looks := false }, kinds := [], alts := [], laidByText := true, laidKinds := [.data], laidTests := true, laidLooks := .later }
def TintGreysCardSaid : Prop := Claim7.holds Tryd.pinned (.plain (OpenSpec.ofChange tintGreysSpec)) tintGreysCard

/-- THE SECOND FORM's CARD OF 'besomlaw09.TintTells'. -/
def tintTellsUptoCard : Claim7 := { stood := { row := tintTellsUptoRow, standIns := [], harness := (true, "e8301d7fc72db9a711b52fd78111bc563f795972a5668a566a7b512f263cda9e"), looks := false }, kinds := [], alts := [], laidByText := true, laidKinds := [.data], laidTests := true, laidLooks := .later }
def TintTellsUptoCardSaid : Prop := Claim7.holds Tryd.pinned (.plain (OpenSpec.upto tintTellsSpec)) tintTellsUptoCard

/-- THE SECOND FORM's CARD OF 'besomlaw09.TintDarker'. -/
def tintDarkerUptoCard : Claim7 := { stood := { row := tintDarkerUptoRow, standIns := [], harness := (true, "e8301d7fc72db9a711b52fd78111bc563f795972a5668a566a7b512f263cda9e"), looks := false }, kinds := [], alts := [], laidByText := true, laidKinds := [.data], laidTests := true, laidLooks := .later }
def TintDarkerUptoCardSaid : Prop := Claim7.holds Tryd.pinned (.plain (OpenSpec.upto tintDarkerSpec)) tintDarkerUptoCard

/-- THE SECOND FORM's CARD OF 'besomlaw09.TintFresh'. -/
def tintFreshUptoCard : Claim7 := { stood := { row := tintFreshUptoRow, standIns := [], harness := (true, "e8301d7fc72db9a711b52fd78111bc563f795972a5668a566a7b512f263cda9e"), looks := false }, kinds := [], alts := [], laidByText := true, laidKinds := [.data], laidTests := true, laidLooks := .later }
def TintFreshUptoCardSaid : Prop := Claim7.holds Tryd.pinned (.plain (OpenSpec.upto tintFreshSpec)) tintFreshUptoCard

/-- THE SECOND FORM's CARD OF 'besomlaw09.TintBetween'. -/
def tintBetweenUptoCard : Claim7 := { stood := { row := tintBetweenUptoRow, standIns := [], harness := (true, "e8301d7fc72db9a711b52fd78111bc563f795972a5668a566a7b512f263cda9e"), looks := false }, kinds := [], alts := [], laidByText := true, laidKinds := [.data], laidTests := true, laidLooks := .later }
def TintBetweenUptoCardSaid : Prop := Claim7.holds Tryd.pinned (.plain (OpenSpec.upto tintBetweenSpec)) tintBetweenUptoCard

/-- THE SECOND FORM's CARD OF 'besomlaw09.TintRight'. -/
def tintRightUptoCard : Claim7 := { stood := { row := tintRightUptoRow, standIns := [], harness := (true, "e8301d7fc72db9a711b52fd78111bc563f795972a5668a566a7b512f263cda9e"), looks := false }, kinds := [], alts := [], laidByText := true, laidKinds := [.data], laidTests := true, laidLooks := .later }
def TintRightUptoCardSaid : Prop := Claim7.holds Tryd.pinned (.plain (OpenSpec.upto tintRightSpec)) tintRightUptoCard

/-- THE SECOND FORM's CARD OF 'besomlaw09.TintGreys'. -/
def tintGreysUptoCard : Claim7 := { stood := { row := tintGreysUptoRow, standIns := [], harness := (true, "e8301d7fc72db9a711b52fd78111bc563f795972a5668a566a7b512f263cda9e"), looks := false }, kinds := [], alts := [], laidByText := true, laidKinds := [.data], laidTests := true, laidLooks := .later }
def TintGreysUptoCardSaid : Prop := Claim7.holds Tryd.pinned (.plain (OpenSpec.upto tintGreysSpec)) tintGreysUptoCard
end Rows
end Go.Proofs.YtbcldnaoecnffaaDoor
