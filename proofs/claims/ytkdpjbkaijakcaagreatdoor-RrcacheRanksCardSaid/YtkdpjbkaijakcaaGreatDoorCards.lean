/-
  DERIVED. GIVEN WITH THE SEED: THE CARDS: each row of YtkdpjbkaijakcaaGreatDoorRows.lean that lists a variable, with what it lists TIED to the program's text (the seventh form; the later family's looks); each row that meets fmt, with fmt's text TOLD by the authors' own Lean function (tested against real Go, not proved from fmt's source: count such statements apart). THE CARD IS WHAT COUNTS. Prove the row's statement (the work); the ties are given (YtkdpjbkaijakcaaGreatDoorTie.lean); close each card by the builder's one call (the guide's Derived/Test/ToyasCard.lean, 'card_holds'). Laid BY PROGRAM, IN A SANDBOX (cutbox-door.mjs). By AI agents, Wed Nov 11 2026. No macro, syntax, notation, axiom, sorry.
-/
import Derived.Test.YtkdpjbkaijakcaaGreatDoorRows
import GoSem.ClaimSeven
namespace Go.Proofs.YtkdpjbkaijakcaaGreatDoor
namespace Rows

/-- THE TIED CARD OF 'guidepostlaw16.RrcacheRanks'. -/
def rrcacheRanksCard : Claim7 := { stood := { row := rrcacheRanksRow, standIns := [], harness := (true, "667af2d4a63b82fcd6b3c042d26651af6304c6ca156712f0d6599fec3e360f46"), looks := true }, kinds := [], alts := [], laidByText := true, laidKinds := [.data, .data, .data, .data, .sentinel, .sentinel, .pinned], laidTests := true, laidLooks := .later }
def RrcacheRanksCardSaid : Prop := Claim7.holds Tryz.pinned (.plain (OpenSpec.ofChange rrcacheRanksSpec)) rrcacheRanksCard

/-- THE SECOND FORM's CARD OF 'guidepostlaw16.RrcacheRanks'. -/
def rrcacheRanksUptoCard : Claim7 := { stood := { row := rrcacheRanksUptoRow, standIns := [], harness := (true, "667af2d4a63b82fcd6b3c042d26651af6304c6ca156712f0d6599fec3e360f46"), looks := true }, kinds := [], alts := [], laidByText := true, laidKinds := [.data, .data, .data, .data, .sentinel, .sentinel, .pinned], laidTests := true, laidLooks := .later }
def RrcacheRanksUptoCardSaid : Prop := Claim7.holds Tryz.pinned (.plain (OpenSpec.upto rrcacheRanksSpec)) rrcacheRanksUptoCard
end Rows
end Go.Proofs.YtkdpjbkaijakcaaGreatDoor
