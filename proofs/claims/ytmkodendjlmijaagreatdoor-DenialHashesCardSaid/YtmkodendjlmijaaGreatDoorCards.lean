/-
  DERIVED. GIVEN WITH THE SEED: THE CARDS: each row of YtmkodendjlmijaaGreatDoorRows.lean that lists a variable, with what it lists TIED to the program's text (the seventh form; the later family's looks); each row that meets fmt, with fmt's text TOLD by the authors' own Lean function (tested against real Go, not proved from fmt's source: count such statements apart). THE CARD IS WHAT COUNTS. Prove the row's statement (the work); the ties are given (YtmkodendjlmijaaGreatDoorTie.lean); close each card by the builder's one call (the guide's Derived/Test/ToyasCard.lean, 'card_holds'). Laid BY PROGRAM, IN A SANDBOX (cutbox-door.mjs). By AI agents, Wed Nov 11 2026. No macro, syntax, notation, axiom, sorry.
-/
import Derived.Test.YtmkodendjlmijaaGreatDoorRows
import GoSem.ClaimSeven
namespace Go.Proofs.YtmkodendjlmijaaGreatDoor
namespace Rows

/-- THE TIED CARD OF 'guidepostlaw09.DenialHashes'. -/
def denialHashesCard : Claim7 := { stood := { row := denialHashesRow, standIns := [], harness := (true, "78a266fe9d0711a0d9dab8bcb82e2238974444689a2fe5e8145701f4dd61ff3b"), looks := true }, kinds := [], alts := [], laidByText := true, laidKinds := [.data, .data, .data, .data, .sentinel, .sentinel, .pinned], laidTests := true, laidLooks := .later }
def DenialHashesCardSaid : Prop := Claim7.holds Tryz.pinned (.plain (OpenSpec.ofChange denialHashesSpec)) denialHashesCard

/-- THE TIED CARD OF 'guidepostlaw09.DenialSides'. -/
def denialSidesCard : Claim7 := { stood := { row := denialSidesRow, standIns := [], harness := (true, "78a266fe9d0711a0d9dab8bcb82e2238974444689a2fe5e8145701f4dd61ff3b"), looks := true }, kinds := [], alts := [], laidByText := true, laidKinds := [.data, .data, .data, .data, .sentinel, .sentinel, .pinned], laidTests := true, laidLooks := .later }
def DenialSidesCardSaid : Prop := Claim7.holds Tryz.pinned (.plain (OpenSpec.ofChange denialSidesSpec)) denialSidesCard

/-- THE TIED CARD OF 'guidepostlaw09.DenialLetters'. -/
def denialLettersCard : Claim7 := { stood := { row := denialLettersRow, standIns := [], harness := (true, "78a266fe9d0711a0d9dab8bcb82e2238974444689a2fe5e8145701f4dd61ff3b"), looks := true }, kinds := [], alts := [], laidByText := true, laidKinds := [.data, .data, .data, .data, .sentinel, .sentinel, .pinned], laidTests := true, laidLooks := .later }
def DenialLettersCardSaid : Prop := Claim7.holds Tryz.pinned (.plain (OpenSpec.ofChange denialLettersSpec)) denialLettersCard

/-- THE TIED CARD OF 'guidepostlaw09.DenialSound'. -/
def denialSoundCard : Claim7 := { stood := { row := denialSoundRow, standIns := [], harness := (true, "78a266fe9d0711a0d9dab8bcb82e2238974444689a2fe5e8145701f4dd61ff3b"), looks := true }, kinds := [], alts := [], laidByText := true, laidKinds := [.data, .data, .data, .data, .sentinel, .sentinel, .pinned], laidTests := true, laidLooks := .later }
def DenialSoundCardSaid : Prop := Claim7.holds Tryz.pinned (.plain (OpenSpec.ofChange denialSoundSpec)) denialSoundCard

/-- THE SECOND FORM's CARD OF 'guidepostlaw09.DenialHashes'. -/
def denialHashesUptoCard : Claim7 := { stood := { row := denialHashesUptoRow, standIns := [], harness := (true, "78a266fe9d0711a0d9dab8bcb82e2238974444689a2fe5e8145701f4dd61ff3b"), looks := true }, kinds := [], alts := [], laidByText := true, laidKinds := [.data, .data, .data, .data, .sentinel, .sentinel, .pinned], laidTests := true, laidLooks := .later }
def DenialHashesUptoCardSaid : Prop := Claim7.holds Tryz.pinned (.plain (OpenSpec.upto denialHashesSpec)) denialHashesUptoCard

/-- THE SECOND FORM's CARD OF 'guidepostlaw09.DenialSides'. -/
def denialSidesUptoCard : Claim7 := { stood := { row := denialSidesUptoRow, standIns := [], harness := (true, "78a266fe9d0711a0d9dab8bcb82e2238974444689a2fe5e8145701f4dd61ff3b"), looks := true }, kinds := [], alts := [], laidByText := true, laidKinds := [.data, .data, .data, .data, .sentinel, .sentinel, .pinned], laidTests := true, laidLooks := .later }
def DenialSidesUptoCardSaid : Prop := Claim7.holds Tryz.pinned (.plain (OpenSpec.upto denialSidesSpec)) denialSidesUptoCard

/-- THE SECOND FORM's CARD OF 'guidepostlaw09.DenialLetters'. -/
def denialLettersUptoCard : Claim7 := { stood := { row := denialLettersUptoRow, standIns := [], harness := (true, "78a266fe9d0711a0d9dab8bcb82e2238974444689a2fe5e8145701f4dd61ff3b"), looks := true }, kinds := [], alts := [], laidByText := true, laidKinds := [.data, .data, .data, .data, .sentinel, .sentinel, .pinned], laidTests := true, laidLooks := .later }
def DenialLettersUptoCardSaid : Prop := Claim7.holds Tryz.pinned (.plain (OpenSpec.upto denialLettersSpec)) denialLettersUptoCard

/-- THE SECOND FORM's CARD OF 'guidepostlaw09.DenialSound'. -/
def denialSoundUptoCard : Claim7 := { stood := { row := denialSoundUptoRow, standIns := [], harness := (true, "78a266fe9d0711a0d9dab8bcb82e2238974444689a2fe5e8145701f4dd61ff3b"), looks := true }, kinds := [], alts := [], laidByText := true, laidKinds := [.data, .data, .data, .data, .sentinel, .sentinel, .pinned], laidTests := true, laidLooks := .later }
def DenialSoundUptoCardSaid : Prop := Claim7.holds Tryz.pinned (.plain (OpenSpec.upto denialSoundSpec)) denialSoundUptoCard
end Rows
end Go.Proofs.YtmkodendjlmijaaGreatDoor
