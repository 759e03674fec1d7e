/-
  DERIVED. GIVEN WITH THE SEED: THE CARDS: each row of YtegnoaejlhbpbaaGreatDoorRows.lean that lists a variable, with what it lists TIED to the program's text (the seventh form; the later family's looks); each row that meets fmt, with fmt's text TOLD by the authors' own Lean function (tested against real Go, not proved from fmt's source: count such statements apart). THE CARD IS WHAT COUNTS. Prove the row's statement (the work); the ties are given (YtegnoaejlhbpbaaGreatDoorTie.lean); close each card by the builder's one call (the guide's Derived/Test/ToyasCard.lean, 'card_holds'). Laid BY PROGRAM, IN A SANDBOX (cutbox-door.mjs). By AI agents, Wed Nov 11 2026. No macro, syntax, notation, axiom, sorry.
-/
import Derived.Test.YtegnoaejlhbpbaaGreatDoorRows
import GoSem.ClaimSeven
namespace Go.Proofs.YtegnoaejlhbpbaaGreatDoor
namespace Rows

/-- THE TIED CARD OF 'potsherdlaw03.ParseWrites'. -/
def parseWritesCard : Claim7 := { stood := { row := parseWritesRow, standIns := [], harness := (true, "4f07d43d3f245e4c6c2667fd61ae4a3d7e326103486d7ed7895ec7747bd6f7b8"), looks := true }, kinds := [], alts := [], laidByText := true, laidKinds := [.data, .data, .data, .data, .sentinel, .sentinel, .listed, .data, .pinned], laidTests := true, laidLooks := .later }
def ParseWritesCardSaid : Prop := Claim7.holds Tryz.pinned (.plain (OpenSpec.ofChange parseWritesSpec)) parseWritesCard

/-- THE TIED CARD OF 'potsherdlaw03.ParseOnce'. -/
def parseOnceCard : Claim7 := { stood := { row := parseOnceRow, standIns := [], harness := (true, "4f07d43d3f245e4c6c2667fd61ae4a3d7e326103486d7ed7895ec7747bd6f7b8"), looks := true }, kinds := [], alts := [], laidByText := true, laidKinds := [.data, .data, .data, .data, .sentinel, .sentinel, .listed, .data, .pinned], laidTests := true, laidLooks := .later }
def ParseOnceCardSaid : Prop := Claim7.holds Tryz.pinned (.plain (OpenSpec.ofChange parseOnceSpec)) parseOnceCard

/-- THE TIED CARD OF 'potsherdlaw03.ParseClauses'. -/
def parseClausesCard : Claim7 := { stood := { row := parseClausesRow, standIns := [], harness := (true, "4f07d43d3f245e4c6c2667fd61ae4a3d7e326103486d7ed7895ec7747bd6f7b8"), looks := true }, kinds := [], alts := [], laidByText := true, laidKinds := [.data, .data, .data, .data, .sentinel, .sentinel, .listed, .data, .pinned], laidTests := true, laidLooks := .later }
def ParseClausesCardSaid : Prop := Claim7.holds Tryz.pinned (.plain (OpenSpec.ofChange parseClausesSpec)) parseClausesCard

/-- THE TIED CARD OF 'potsherdlaw03.ParseOwn'. -/
def parseOwnCard : Claim7 := { stood := { row := parseOwnRow, standIns := [], harness := (true, "4f07d43d3f245e4c6c2667fd61ae4a3d7e326103486d7ed7895ec7747bd6f7b8"), looks := true }, kinds := [], alts := [], laidByText := true, laidKinds := [.data, .data, .data, .data, .sentinel, .sentinel, .listed, .data, .pinned], laidTests := true, laidLooks := .later }
def ParseOwnCardSaid : Prop := Claim7.holds Tryz.pinned (.plain (OpenSpec.ofChange parseOwnSpec)) parseOwnCard

/-- THE SECOND FORM's CARD OF 'potsherdlaw03.ParseWrites'. -/
def parseWritesUptoCard : Claim7 := { stood := { row := parseWritesUptoRow, standIns := [], harness := (true, "4f07d43d3f245e4c6c2667fd61ae4a3d7e326103486d7ed7895ec7747bd6f7b8"), looks := true }, kinds := [], alts := [], laidByText := true, laidKinds := [.data, .data, .data, .data, .sentinel, .sentinel, .listed, .data, .pinned], laidTests := true, laidLooks := .later }
def ParseWritesUptoCardSaid : Prop := Claim7.holds Tryz.pinned (.plain (OpenSpec.upto parseWritesSpec)) parseWritesUptoCard

/-- THE SECOND FORM's CARD OF 'potsherdlaw03.ParseOnce'. -/
def parseOnceUptoCard : Claim7 := { stood := { row := parseOnceUptoRow, standIns := [], harness := (true, "4f07d43d3f245e4c6c2667fd61ae4a3d7e326103486d7ed7895ec7747bd6f7b8"), looks := true }, kinds := [], alts := [], laidByText := true, laidKinds := [.data, .data, .data, .data, .sentinel, .sentinel, .listed, .data, .pinned], laidTests := true, laidLooks := .later }
def ParseOnceUptoCardSaid : Prop := Claim7.holds Tryz.pinned (.plain (OpenSpec.upto parseOnceSpec)) parseOnceUptoCard

/-- THE SECOND FORM's CARD OF 'potsherdlaw03.ParseClauses'. -/
def parseClausesUptoCard : Claim7 := { stood := { row := parseClausesUptoRow, standIns := [], harness := (true, "4f07d43d3f245e4c6c2667fd61ae4a3d7e326103486d7ed7895ec7747bd6f7b8"), looks := true }, kinds := [], alts := [], laidByText := true, laidKinds := [.data, .data, .data, .data, .sentinel, .sentinel, .listed, .data, .pinned], laidTests := true, laidLooks := .later }
def ParseClausesUptoCardSaid : Prop := Claim7.holds Tryz.pinned (.plain (OpenSpec.upto parseClausesSpec)) parseClausesUptoCard

/-- THE SECOND FORM's CARD OF 'potsherdlaw03.ParseOwn'. -/
def parseOwnUptoCard : Claim7 := { stood := { row := parseOwnUptoRow, standIns := [], harness := (true, "4f07d43d3f245e4c6c2667fd61ae4a3d7e326103486d7ed7895ec7747bd6f7b8"), looks := true }, kinds := [], alts := [], laidByText := true, laidKinds := [.data, .data, .data, .data, .sentinel, .sentinel, .listed, .data, .pinned], laidTests := true, laidLooks := .later }
def ParseOwnUptoCardSaid : Prop := Claim7.holds Tryz.pinned (.plain (OpenSpec.upto parseOwnSpec)) parseOwnUptoCard
end Rows
end Go.Proofs.YtegnoaejlhbpbaaGreatDoor
