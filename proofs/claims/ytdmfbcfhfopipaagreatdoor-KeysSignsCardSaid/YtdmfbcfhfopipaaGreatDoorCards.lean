/-
  DERIVED. GIVEN WITH THE SEED: THE CARDS: each row of YtdmfbcfhfopipaaGreatDoorRows.lean that lists a variable, with what it lists TIED to the program's text (the seventh form; the later family's looks); each row that meets fmt, with fmt's text TOLD by the authors' own Lean function (tested against real Go, not proved from fmt's source: count such statements apart). THE CARD IS WHAT COUNTS. Prove the row's statement (the work); the ties are given (YtdmfbcfhfopipaaGreatDoorTie.lean); close each card by the builder's one call (the guide's Derived/Test/ToyasCard.lean, 'card_holds'). Laid BY PROGRAM, IN A SANDBOX (cutbox-door.mjs). By AI agents, Wed Nov 11 2026. No macro, syntax, notation, axiom, sorry.
-/
import Derived.Test.YtdmfbcfhfopipaaGreatDoorRows
import GoSem.ClaimSeven
namespace Go.Proofs.YtdmfbcfhfopipaaGreatDoor
namespace Rows

/-- THE TIED CARD OF 'guidepostlaw06.KeysTags'. -/
def keysTagsCard : Claim7 := { stood := { row := keysTagsRow, standIns := [], harness := (true, "a09616d6173a328a831be6e0f51517a46bcfbfbb6630f15630fba411aacb9533"), looks := true }, kinds := [], alts := [], laidByText := true, laidKinds := [.data, .data, .data, .data, .sentinel, .sentinel, .pinned], laidTests := true, laidLooks := .later }
def KeysTagsCardSaid : Prop := Claim7.holds Tryz.pinned (.plain (OpenSpec.ofChange keysTagsSpec)) keysTagsCard

/-- THE TIED CARD OF 'guidepostlaw06.KeysFits'. -/
def keysFitsCard : Claim7 := { stood := { row := keysFitsRow, standIns := [], harness := (true, "a09616d6173a328a831be6e0f51517a46bcfbfbb6630f15630fba411aacb9533"), looks := true }, kinds := [], alts := [], laidByText := true, laidKinds := [.data, .data, .data, .data, .sentinel, .sentinel, .pinned], laidTests := true, laidLooks := .later }
def KeysFitsCardSaid : Prop := Claim7.holds Tryz.pinned (.plain (OpenSpec.ofChange keysFitsSpec)) keysFitsCard

/-- THE TIED CARD OF 'guidepostlaw06.KeysSwaps'. -/
def keysSwapsCard : Claim7 := { stood := { row := keysSwapsRow, standIns := [], harness := (true, "a09616d6173a328a831be6e0f51517a46bcfbfbb6630f15630fba411aacb9533"), looks := true }, kinds := [], alts := [], laidByText := true, laidKinds := [.data, .data, .data, .data, .sentinel, .sentinel, .pinned], laidTests := true, laidLooks := .later }
def KeysSwapsCardSaid : Prop := Claim7.holds Tryz.pinned (.plain (OpenSpec.ofChange keysSwapsSpec)) keysSwapsCard

/-- THE TIED CARD OF 'guidepostlaw06.KeysRsa'. -/
def keysRsaCard : Claim7 := { stood := { row := keysRsaRow, standIns := [], harness := (true, "a09616d6173a328a831be6e0f51517a46bcfbfbb6630f15630fba411aacb9533"), looks := true }, kinds := [], alts := [], laidByText := true, laidKinds := [.data, .data, .data, .data, .sentinel, .sentinel, .pinned], laidTests := true, laidLooks := .later }
def KeysRsaCardSaid : Prop := Claim7.holds Tryz.pinned (.plain (OpenSpec.ofChange keysRsaSpec)) keysRsaCard

/-- THE TIED CARD OF 'guidepostlaw06.KeysVerify'. -/
def keysVerifyCard : Claim7 := { stood := { row := keysVerifyRow, standIns := [], harness := (true, "a09616d6173a328a831be6e0f51517a46bcfbfbb6630f15630fba411aacb9533"), looks := true }, kinds := [], alts := [], laidByText := true, laidKinds := [.data, .data, .data, .data, .sentinel, .sentinel, .pinned], laidTests := true, laidLooks := .later }
def KeysVerifyCardSaid : Prop := Claim7.holds Tryz.pinned (.plain (OpenSpec.ofChange keysVerifySpec)) keysVerifyCard

/-- THE TIED CARD OF 'guidepostlaw06.KeysSigns'. -/
def keysSignsCard : Claim7 := { stood := { row := keysSignsRow, standIns := [], harness := (true, "a09616d6173a328a831be6e0f51517a46bcfbfbb6630f15630fba411aacb9533"), looks := true }, kinds := [], alts := [], laidByText := true, laidKinds := [.data, .data, .data, .data, .sentinel, .sentinel, .pinned], laidTests := true, laidLooks := .later }
def KeysSignsCardSaid : Prop := Claim7.holds Tryz.pinned (.plain (OpenSpec.ofChange keysSignsSpec)) keysSignsCard

/-- THE SECOND FORM's CARD OF 'guidepostlaw06.KeysTags'. -/
def keysTagsUptoCard : Claim7 := { stood := { row := keysTagsUptoRow, standIns := [], harness := (true, "a09616d6173a328a831be6e0f51517a46bcfbfbb6630f15630fba411aacb9533"), looks := true }, kinds := [], alts := [], laidByText := true, laidKinds := [.data, .data, .data, .data, .sentinel, .sentinel, .pinned], laidTests := true, laidLooks := .later }
def KeysTagsUptoCardSaid : Prop := Claim7.holds Tryz.pinned (.plain (OpenSpec.upto keysTagsSpec)) keysTagsUptoCard

/-- THE SECOND FORM's CARD OF 'guidepostlaw06.KeysFits'. -/
def keysFitsUptoCard : Claim7 := { stood := { row := keysFitsUptoRow, standIns := [], harness := (true, "a09616d6173a328a831be6e0f51517a46bcfbfbb6630f15630fba411aacb9533"), looks := true }, kinds := [], alts := [], laidByText := true, laidKinds := [.data, .data, .data, .data, .sentinel, .sentinel, .pinned], laidTests := true, laidLooks := .later }
def KeysFitsUptoCardSaid : Prop := Claim7.holds Tryz.pinned (.plain (OpenSpec.upto keysFitsSpec)) keysFitsUptoCard

/-- THE SECOND FORM's CARD OF 'guidepostlaw06.KeysSwaps'. -/
def keysSwapsUptoCard : Claim7 := { stood := { row := keysSwapsUptoRow, standIns := [], harness := (true, "a09616d6173a328a831be6e0f51517a46bcfbfbb6630f15630fba411aacb9533"), looks := true }, kinds := [], alts := [], laidByText := true, laidKinds := [.data, .data, .data, .data, .sentinel, .sentinel, .pinned], laidTests := true, laidLooks := .later }
def KeysSwapsUptoCardSaid : Prop := Claim7.holds Tryz.pinned (.plain (OpenSpec.upto keysSwapsSpec)) keysSwapsUptoCard

/-- THE SECOND FORM's CARD OF 'guidepostlaw06.KeysRsa'. -/
def keysRsaUptoCard : Claim7 := { stood := { row := keysRsaUptoRow, standIns := [], harness := (true, "a09616d6173a328a831be6e0f51517a46bcfbfbb6630f15630fba411aacb9533"), looks := true }, kinds := [], alts := [], laidByText := true, laidKinds := [.data, .data, .data, .data, .sentinel, .sentinel, .pinned], laidTests := true, laidLooks := .later }
def KeysRsaUptoCardSaid : Prop := Claim7.holds Tryz.pinned (.plain (OpenSpec.upto keysRsaSpec)) keysRsaUptoCard

/-- THE SECOND FORM's CARD OF 'guidepostlaw06.KeysVerify'. -/
def keysVerifyUptoCard : Claim7 := { stood := { row := keysVerifyUptoRow, standIns := [], harness := (true, "a09616d6173a328a831be6e0f51517a46bcfbfbb6630f15630fba411aacb9533"), looks := true }, kinds := [], alts := [], laidByText := true, laidKinds := [.data, .data, .data, .data, .sentinel, .sentinel, .pinned], laidTests := true, laidLooks := .later }
def KeysVerifyUptoCardSaid : Prop := Claim7.holds Tryz.pinned (.plain (OpenSpec.upto keysVerifySpec)) keysVerifyUptoCard

/-- THE SECOND FORM's CARD OF 'guidepostlaw06.KeysSigns'. -/
def keysSignsUptoCard : Claim7 := { stood := { row := keysSignsUptoRow, standIns := [], harness := (true, "a09616d6173a328a831be6e0f51517a46bcfbfbb6630f15630fba411aacb9533"), looks := true }, kinds := [], alts := [], laidByText := true, laidKinds := [.data, .data, .data, .data, .sentinel, .sentinel, .pinned], laidTests := true, laidLooks := .later }
def KeysSignsUptoCardSaid : Prop := Claim7.holds Tryz.pinned (.plain (OpenSpec.upto keysSignsSpec)) keysSignsUptoCard
end Rows
end Go.Proofs.YtdmfbcfhfopipaaGreatDoor
