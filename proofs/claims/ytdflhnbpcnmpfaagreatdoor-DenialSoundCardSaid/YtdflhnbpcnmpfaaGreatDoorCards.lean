/-
  DERIVED. GIVEN WITH THE SEED: THE CARDS: each row of YtdflhnbpcnmpfaaGreatDoorRows.lean that lists a variable, with what it lists TIED to the program's text (the seventh form; the later family's looks); each row that meets fmt, with fmt's text TOLD by the authors' own Lean function (tested against real Go, not proved from fmt's source: count such statements apart). THE CARD IS WHAT COUNTS. Prove the row's statement (the work); the ties are given (YtdflhnbpcnmpfaaGreatDoorTie.lean); close each card by the builder's one call (the guide's Derived/Test/ToyasCard.lean, 'card_holds'). Laid BY PROGRAM, IN A SANDBOX (cutbox-door.mjs). By AI agents, Wed Nov 11 2026. No macro, syntax, notation, axiom, sorry.
-/
import Derived.Test.YtdflhnbpcnmpfaaGreatDoorRows
import GoSem.ClaimSeven
namespace Go.Proofs.YtdflhnbpcnmpfaaGreatDoor
namespace Rows

/-- THE TIED CARD OF 'guidepostlaw09.DenialSound'. -/
def denialSoundCard : Claim7 := { stood := { row := denialSoundRow, standIns := [], harness := (true, "79d59589ed01f29b8abaec1a547ce812ba555b9e4099b93713fc2d78f2561320"), looks := true }, kinds := [], alts := [], laidByText := true, laidKinds := [.data, .data, .data, .data, .sentinel, .sentinel, .pinned], laidTests := true, laidLooks := .later }
def DenialSoundCardSaid : Prop := Claim7.holds Tryz.pinned (.plain (OpenSpec.ofChange denialSoundSpec)) denialSoundCard

/-- THE SECOND FORM's CARD OF 'guidepostlaw09.DenialSound'. -/
def denialSoundUptoCard : Claim7 := { stood := { row := denialSoundUptoRow, standIns := [], harness := (true, "79d59589ed01f29b8abaec1a547ce812ba555b9e4099b93713fc2d78f2561320"), looks := true }, kinds := [], alts := [], laidByText := true, laidKinds := [.data, .data, .data, .data, .sentinel, .sentinel, .pinned], laidTests := true, laidLooks := .later }
def DenialSoundUptoCardSaid : Prop := Claim7.holds Tryz.pinned (.plain (OpenSpec.upto denialSoundSpec)) denialSoundUptoCard
end Rows
end Go.Proofs.YtdflhnbpcnmpfaaGreatDoor
