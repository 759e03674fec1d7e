/-
  DERIVED. GIVEN WITH THE SEED: THE CARDS: each row of YtgjfbbmachoolaaGreatDoorRows.lean that lists a variable, with what it lists TIED to the program's text (the seventh form; the later family's looks); each row that meets fmt, with fmt's text TOLD by the authors' own Lean function (tested against real Go, not proved from fmt's source: count such statements apart). THE CARD IS WHAT COUNTS. Prove the row's statement (the work); the ties are given (YtgjfbbmachoolaaGreatDoorTie.lean); close each card by the builder's one call (the guide's Derived/Test/ToyasCard.lean, 'card_holds'). Laid BY PROGRAM, IN A SANDBOX (cutbox-door.mjs). By AI agents, Wed Nov 11 2026. No macro, syntax, notation, axiom, sorry.
-/
import Derived.Test.YtgjfbbmachoolaaGreatDoorRows
import GoSem.ClaimSeven
namespace Go.Proofs.YtgjfbbmachoolaaGreatDoor
namespace Rows

/-- THE TIED CARD OF 'potsherdlaw04.BindNames'. -/
def bindNamesCard : Claim7 := { stood := { row := bindNamesRow, standIns := [], harness := (true, "7c7086f1b0093ff052129a7568e2f91e702816e76ebb9970614bb15d7ea1462b"), looks := true }, kinds := [], alts := [], laidByText := true, laidKinds := [.data, .data, .data, .data, .sentinel, .sentinel, .listed, .data, .pinned], laidTests := true, laidLooks := .later }
def BindNamesCardSaid : Prop := Claim7.holds Tryz.pinned (.plain (OpenSpec.ofChange bindNamesSpec)) bindNamesCard

/-- THE TIED CARD OF 'potsherdlaw04.BindAll'. -/
def bindAllCard : Claim7 := { stood := { row := bindAllRow, standIns := [], harness := (true, "7c7086f1b0093ff052129a7568e2f91e702816e76ebb9970614bb15d7ea1462b"), looks := true }, kinds := [], alts := [], laidByText := true, laidKinds := [.data, .data, .data, .data, .sentinel, .sentinel, .listed, .data, .pinned], laidTests := true, laidLooks := .later }
def BindAllCardSaid : Prop := Claim7.holds Tryz.pinned (.plain (OpenSpec.ofChange bindAllSpec)) bindAllCard

/-- THE TIED CARD OF 'potsherdlaw04.BindRows'. -/
def bindRowsCard : Claim7 := { stood := { row := bindRowsRow, standIns := [], harness := (true, "7c7086f1b0093ff052129a7568e2f91e702816e76ebb9970614bb15d7ea1462b"), looks := true }, kinds := [], alts := [], laidByText := true, laidKinds := [.data, .data, .data, .data, .sentinel, .sentinel, .listed, .data, .pinned], laidTests := true, laidLooks := .later }
def BindRowsCardSaid : Prop := Claim7.holds Tryz.pinned (.plain (OpenSpec.ofChange bindRowsSpec)) bindRowsCard

/-- THE TIED CARD OF 'potsherdlaw04.BindKinds'. -/
def bindKindsCard : Claim7 := { stood := { row := bindKindsRow, standIns := [], harness := (true, "7c7086f1b0093ff052129a7568e2f91e702816e76ebb9970614bb15d7ea1462b"), looks := true }, kinds := [], alts := [], laidByText := true, laidKinds := [.data, .data, .data, .data, .sentinel, .sentinel, .listed, .data, .pinned], laidTests := true, laidLooks := .later }
def BindKindsCardSaid : Prop := Claim7.holds Tryz.pinned (.plain (OpenSpec.ofChange bindKindsSpec)) bindKindsCard

/-- THE TIED CARD OF 'potsherdlaw04.BindTypes'. -/
def bindTypesCard : Claim7 := { stood := { row := bindTypesRow, standIns := [], harness := (true, "7c7086f1b0093ff052129a7568e2f91e702816e76ebb9970614bb15d7ea1462b"), looks := true }, kinds := [], alts := [], laidByText := true, laidKinds := [.data, .data, .data, .data, .sentinel, .sentinel, .listed, .data, .pinned], laidTests := true, laidLooks := .later }
def BindTypesCardSaid : Prop := Claim7.holds Tryz.pinned (.plain (OpenSpec.ofChange bindTypesSpec)) bindTypesCard

/-- THE SECOND FORM's CARD OF 'potsherdlaw04.BindNames'. -/
def bindNamesUptoCard : Claim7 := { stood := { row := bindNamesUptoRow, standIns := [], harness := (true, "7c7086f1b0093ff052129a7568e2f91e702816e76ebb9970614bb15d7ea1462b"), looks := true }, kinds := [], alts := [], laidByText := true, laidKinds := [.data, .data, .data, .data, .sentinel, .sentinel, .listed, .data, .pinned], laidTests := true, laidLooks := .later }
def BindNamesUptoCardSaid : Prop := Claim7.holds Tryz.pinned (.plain (OpenSpec.upto bindNamesSpec)) bindNamesUptoCard

/-- THE SECOND FORM's CARD OF 'potsherdlaw04.BindAll'. -/
def bindAllUptoCard : Claim7 := { stood := { row := bindAllUptoRow, standIns := [], harness := (true, "7c7086f1b0093ff052129a7568e2f91e702816e76ebb9970614bb15d7ea1462b"), looks := true }, kinds := [], alts := [], laidByText := true, laidKinds := [.data, .data, .data, .data, .sentinel, .sentinel, .listed, .data, .pinned], laidTests := true, laidLooks := .later }
def BindAllUptoCardSaid : Prop := Claim7.holds Tryz.pinned (.plain (OpenSpec.upto bindAllSpec)) bindAllUptoCard

/-- THE SECOND FORM's CARD OF 'potsherdlaw04.BindRows'. -/
def bindRowsUptoCard : Claim7 := { stood := { row := bindRowsUptoRow, standIns := [], harness := (true, "7c7086f1b0093ff052129a7568e2f91e702816e76ebb9970614bb15d7ea1462b"), looks := true }, kinds := [], alts := [], laidByText := true, laidKinds := [.data, .data, .data, .data, .sentinel, .sentinel, .listed, .data, .pinned], laidTests := true, laidLooks := .later }
def BindRowsUptoCardSaid : Prop := Claim7.holds Tryz.pinned (.plain (OpenSpec.upto bindRowsSpec)) bindRowsUptoCard

/-- THE SECOND FORM's CARD OF 'potsherdlaw04.BindKinds'. -/
def bindKindsUptoCard : Claim7 := { stood := { row := bindKindsUptoRow, standIns := [], harness := (true, "7c7086f1b0093ff052129a7568e2f91e702816e76ebb9970614bb15d7ea1462b"), looks := true }, kinds := [], alts := [], laidByText := true, laidKinds := [.data, .data, .data, .data, .sentinel, .sentinel, .listed, .data, .pinned], laidTests := true, laidLooks := .later }
def BindKindsUptoCardSaid : Prop := Claim7.holds Tryz.pinned (.plain (OpenSpec.upto bindKindsSpec)) bindKindsUptoCard

/-- THE SECOND FORM's CARD OF 'potsherdlaw04.BindTypes'. -/
def bindTypesUptoCard : Claim7 := { stood := { row := bindTypesUptoRow, standIns := [], harness := (true, "7c7086f1b0093ff052129a7568e2f91e702816e76ebb9970614bb15d7ea1462b"), looks := true }, kinds := [], alts := [], laidByText := true, laidKinds := [.data, .data, .data, .data, .sentinel, .sentinel, .listed, .data, .pinned], laidTests := true, laidLooks := .later }
def BindTypesUptoCardSaid : Prop := Claim7.holds Tryz.pinned (.plain (OpenSpec.upto bindTypesSpec)) bindTypesUptoCard
end Rows
end Go.Proofs.YtgjfbbmachoolaaGreatDoor
