/-
  DERIVED. GIVEN WITH THE SEED: THE CARDS: each row of YtlgnjeilhjhnkaaDoorRows.lean that lists a variable, with what it lists TIED to the program's text (the seventh form; the later family's looks); each row that meets fmt, with fmt's text TOLD by the authors' own Lean function (tested against real Go, not proved from fmt's source: count such statements apart). THE CARD IS WHAT COUNTS. Prove the row's statement (the work); the ties are given (YtlgnjeilhjhnkaaDoorTie.lean); close each card by the builder's one call (the guide's Derived/Test/ToyasCard.lean, 'card_holds'). Laid BY PROGRAM, IN A SANDBOX (cutbox-door.mjs). By AI agents, Wed Nov 11 2026. No macro, syntax, notation, axiom, sorry.
-/
import Derived.Test.YtlgnjeilhjhnkaaDoorRows
import GoSem.ClaimSeven
namespace Go.Proofs.YtlgnjeilhjhnkaaDoor
namespace Rows

/-- THE TIED CARD OF 'besomlaw04.ReachTells'. -/
def reachTellsCard : Claim7 := { stood := { row := reachTellsRow, standIns := [], harness := (true, "a81b2e614d13aefd601af14c83ebcea211e6cb6739c5ad01c5cc9a26ba2a27d8"), looks := false }, kinds := [], alts := [], laidByText := true, laidKinds := [.data], laidTests := true, laidLooks := .later }
def ReachTellsCardSaid : Prop := Claim7.holds Tryd.pinned (.plain (OpenSpec.ofChange reachTellsSpec)) reachTellsCard

/-- THE TIED CARD OF 'besomlaw04.ReachGoes'. -/
def reachGoesCard : Claim7 := { stood := { row := reachGoesRow, standIns := [], harness := (true, "a81b2e614d13aefd601af14c83ebcea211e6cb6739c5ad01c5cc9a26ba2a27d8"), looks := false }, kinds := [], alts := [], laidByText := true, laidKinds := [.data], laidTests := true, laidLooks := .later }
def ReachGoesCardSaid : Prop := Claim7.holds Tryd.pinned (.plain (OpenSpec.ofChange reachGoesSpec)) reachGoesCard

/-- THE TIED CARD OF 'besomlaw04.ReachVia'. -/
def reachViaCard : Claim7 := { stood := { row := reachViaRow, standIns := [], harness := (true, "a81b2e614d13aefd601af14c83ebcea211e6cb6739c5ad01c5cc9a26ba2a27d8"), looks := false }, kinds := [], alts := [], laidByText := true, laidKinds := [.data], laidTests := true, laidLooks := .later }
def ReachViaCardSaid : Prop := Claim7.holds Tryd.pinned (.plain (OpenSpec.ofChange reachViaSpec)) reachViaCard

/-- THE TIED CARD OF 'besomlaw04.ReachDist'. -/
def reachDistCard : Claim7 := { stood := { row := reachDistRow, standIns := [], harness := (true, "a81b2e614d13aefd601af14c83ebcea211e6cb6739c5ad01c5cc9a26ba2a27d8"), looks := false }, kinds := [], alts := [], laidByText := true, laidKinds := [.data], laidTests := true, laidLooks := .later }
def ReachDistCardSaid : Prop := Claim7.holds Tryd.pinned (.plain (OpenSpec.ofChange reachDistSpec)) reachDistCard

/-- THE TIED CARD OF 'besomlaw04.ReachLeast'. -/
def reachLeastCard : Claim7 := { stood := { row := reachLeastRow, standIns := [], harness := (true, "a81b2e614d13aefd601af14c83ebcea211e6cb6739c5ad01c5cc9a26ba2a27d8"), looks := false }, kinds := [], alts := [], laidByText := true, laidKinds := [.data], laidTests := true, laidLooks := .later }
def ReachLeastCardSaid : Prop := Claim7.holds Tryd.pinned (.plain (OpenSpec.ofChange reachLeastSpec)) reachLeastCard

/-- THE TIED CARD OF 'besomlaw04.ReachCut'. -/
def reachCutCard : Claim7 := { stood := { row := reachCutRow, standIns := [], harness := (true, "a81b2e614d13aefd601af14c83ebcea211e6cb6739c5ad01c5cc9a26ba2a27d8"), looks := false }, kinds := [], alts := [], laidByText := true, laidKinds := [.data], laidTests := true, laidLooks := .later }
def ReachCutCardSaid : Prop := Claim7.holds Tryd.pinned (.plain (OpenSpec.ofChange reachCutSpec)) reachCutCard

/-- THE SECOND FORM's CARD OF 'besomlaw04.ReachTells'. -/
def reachTellsUptoCard : Claim7 := { stood := { row := reachTellsUptoRow, standIns := [], harness := (true, "a81b2e614d13aefd601af14c83ebcea211e6cb6739c5ad01c5cc9a26ba2a27d8"), looks := false }, kinds := [], alts := [], laidByText := true, laidKinds := [.data], laidTests := true, laidLooks := .later }
def ReachTellsUptoCardSaid : Prop := Claim7.holds Tryd.pinned (.plain (OpenSpec.upto reachTellsSpec)) reachTellsUptoCard

/-- THE SECOND FORM's CARD OF 'besomlaw04.ReachGoes'. -/
def reachGoesUptoCard : Claim7 := { stood := { row := reachGoesUptoRow, standIns := [], harness := (true, "a81b2e614d13aefd601af14c83ebcea211e6cb6739c5ad01c5cc9a26ba2a27d8"), looks := false }, kinds := [], alts := [], laidByText := true, laidKinds := [.data], laidTests := true, laidLooks := .later }
def ReachGoesUptoCardSaid : Prop := Claim7.holds Tryd.pinned (.plain (OpenSpec.upto reachGoesSpec)) reachGoesUptoCard

/-- THE SECOND FORM's CARD OF 'besomlaw04.ReachVia'. -/
def reachViaUptoCard : Claim7 := { stood := { row := reachViaUptoRow, standIns := [], harness := (true, "a81b2e614d13aefd601af14c83ebcea211e6cb6739c5ad01c5cc9a26ba2a27d8"), looks := false }, kinds := [], alts := [], laidByText := true, laidKinds := [.data], laidTests := true, laidLooks := .later }
def ReachViaUptoCardSaid : Prop := Claim7.holds Tryd.pinned (.plain (OpenSpec.upto reachViaSpec)) reachViaUptoCard

/-- THE SECOND FORM's CARD OF 'besomlaw04.ReachDist'. -/
def reachDistUptoCard : Claim7 := { stood := { row := reachDistUptoRow, standIns := [], harness := (true, "a81b2e614d13aefd601af14c83ebcea211e6cb6739c5ad01c5cc9a26ba2a27d8"), looks := false }, kinds := [], alts := [], laidByText := true, laidKinds := [.data], laidTests := true, laidLooks := .later }
def ReachDistUptoCardSaid : Prop := Claim7.holds Tryd.pinned (.plain (OpenSpec.upto reachDistSpec)) reachDistUptoCard

/-- THE SECOND FORM's CARD OF 'besomlaw04.ReachLeast'. -/
def reachLeastUptoCard : Claim7 := { stood := { row := reachLeastUptoRow, standIns := [], harness := (true, "a81b2e614d13aefd601af14c83ebcea211e6cb6739c5ad01c5cc9a26ba2a27d8"), looks := false }, kinds := [], alts := [], laidByText := true, laidKinds := [.data], laidTests := true, laidLooks := .later }
def ReachLeastUptoCardSaid : Prop := Claim7.holds Tryd.pinned (.plain (OpenSpec.upto reachLeastSpec)) reachLeastUptoCard

/-- THE SECOND FORM's CARD OF 'besomlaw04.ReachCut'. -/
def reachCutUptoCard : Claim7 := { stood := { row := reachCutUptoRow, standIns := [], harness := (true, "a81b2e614d13aefd601af14c83ebcea211e6cb6739c5ad01c5cc9a26ba2a27d8"), looks := false }, kinds := [], alts := [], laidByText := true, laidKinds := [.data], laidTests := true, laidLooks := .later }
def ReachCutUptoCardSaid : Prop := Claim7.holds Tryd.pinned (.plain (OpenSpec.upto reachCutSpec)) reachCutUptoCard
end Rows
end Go.Proofs.YtlgnjeilhjhnkaaDoor
