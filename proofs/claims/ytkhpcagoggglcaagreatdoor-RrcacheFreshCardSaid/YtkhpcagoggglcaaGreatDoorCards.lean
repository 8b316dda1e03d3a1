/-
  DERIVED. GIVEN WITH THE SEED: THE CARDS: each row of YtkhpcagoggglcaaGreatDoorRows.lean that lists a variable, with what it lists TIED to the program's text (the seventh form; the later family's looks); each row that meets fmt, with fmt's text TOLD by the authors' own Lean function (tested against real Go, not proved from fmt's source: count such statements apart). THE CARD IS WHAT COUNTS. Prove the row's statement (the work); the ties are given (YtkhpcagoggglcaaGreatDoorTie.lean); close each card by the builder's one call (the guide's Derived/Test/ToyasCard.lean, 'card_holds'). Laid BY PROGRAM, IN A SANDBOX (cutbox-door.mjs). By AI agents, Wed Nov 11 2026. No macro, syntax, notation, axiom, sorry.
-/
import Derived.Test.YtkhpcagoggglcaaGreatDoorRows
import GoSem.ClaimSeven
namespace Go.Proofs.YtkhpcagoggglcaaGreatDoor
namespace Rows

/-- THE TIED CARD OF 'guidepostlaw16.RrcacheFresh'. -/
def rrcacheFreshCard : Claim7 := { stood := { row := rrcacheFreshRow, standIns := [], harness := (true, "4bb2b308898b43065a3df03d9b85988efb173a7ff79488bee5bc2886f1a588ff"), looks := true }, kinds := [], alts := [], laidByText := true, laidKinds := [.data, .data, .data, .data, .sentinel, .sentinel, .pinned], laidTests := true, laidLooks := .later }
def RrcacheFreshCardSaid : Prop := Claim7.holds Tryz.pinned (.plain (OpenSpec.ofChange rrcacheFreshSpec)) rrcacheFreshCard

/-- THE TIED CARD OF 'guidepostlaw16.RrcacheVersions'. -/
def rrcacheVersionsCard : Claim7 := { stood := { row := rrcacheVersionsRow, standIns := [], harness := (true, "4bb2b308898b43065a3df03d9b85988efb173a7ff79488bee5bc2886f1a588ff"), looks := true }, kinds := [], alts := [], laidByText := true, laidKinds := [.data, .data, .data, .data, .sentinel, .sentinel, .pinned], laidTests := true, laidLooks := .later }
def RrcacheVersionsCardSaid : Prop := Claim7.holds Tryz.pinned (.plain (OpenSpec.ofChange rrcacheVersionsSpec)) rrcacheVersionsCard

/-- THE SECOND FORM's CARD OF 'guidepostlaw16.RrcacheFresh'. -/
def rrcacheFreshUptoCard : Claim7 := { stood := { row := rrcacheFreshUptoRow, standIns := [], harness := (true, "4bb2b308898b43065a3df03d9b85988efb173a7ff79488bee5bc2886f1a588ff"), looks := true }, kinds := [], alts := [], laidByText := true, laidKinds := [.data, .data, .data, .data, .sentinel, .sentinel, .pinned], laidTests := true, laidLooks := .later }
def RrcacheFreshUptoCardSaid : Prop := Claim7.holds Tryz.pinned (.plain (OpenSpec.upto rrcacheFreshSpec)) rrcacheFreshUptoCard

/-- THE SECOND FORM's CARD OF 'guidepostlaw16.RrcacheVersions'. -/
def rrcacheVersionsUptoCard : Claim7 := { stood := { row := rrcacheVersionsUptoRow, standIns := [], harness := (true, "4bb2b308898b43065a3df03d9b85988efb173a7ff79488bee5bc2886f1a588ff"), looks := true }, kinds := [], alts := [], laidByText := true, laidKinds := [.data, .data, .data, .data, .sentinel, .sentinel, .pinned], laidTests := true, laidLooks := .later }
def RrcacheVersionsUptoCardSaid : Prop := Claim7.holds Tryz.pinned (.plain (OpenSpec.upto rrcacheVersionsSpec)) rrcacheVersionsUptoCard
end Rows
end Go.Proofs.YtkhpcagoggglcaaGreatDoor
