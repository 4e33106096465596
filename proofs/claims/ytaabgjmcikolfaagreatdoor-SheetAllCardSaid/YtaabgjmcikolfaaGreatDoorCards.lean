/-
  DERIVED. GIVEN WITH THE SEED: THE CARDS: each row of YtaabgjmcikolfaaGreatDoorRows.lean that lists a variable, with what it lists TIED to the program's text (the seventh form; the later family's looks); each row that meets fmt, with fmt's text TOLD by the authors' own Lean function (tested against real Go, not proved from fmt's source: count such statements apart). THE CARD IS WHAT COUNTS. Prove the row's statement (the work); the ties are given (YtaabgjmcikolfaaGreatDoorTie.lean); close each card by the builder's one call (the guide's Derived/Test/ToyasCard.lean, 'card_holds'). Laid BY PROGRAM, IN A SANDBOX (cutbox-door.mjs). By AI agents, Wed Nov 11 2026. No macro, syntax, notation, axiom, sorry.
-/
import Derived.Test.YtaabgjmcikolfaaGreatDoorRows
import GoSem.ClaimSeven
namespace Go.Proofs.YtaabgjmcikolfaaGreatDoor
namespace Rows

/-- THE TIED CARD OF 'zelligelaw25.SheetSpecs'. -/
def sheetSpecsCard : Claim7 := { stood := { row := sheetSpecsRow, standIns := [], harness := (true, "24025cc071cbbc7658646a4303fd07c069c66ccc5f32da4e576c5387c582788a"), looks := true }, kinds := [], alts := [], laidByText := true, laidKinds := [.data, .data, .data], laidTests := true, laidLooks := .later }
def SheetSpecsCardSaid : Prop := Claim7.holds Tryz.pinned (.plain (OpenSpec.ofChange sheetSpecsSpec)) sheetSpecsCard

/-- THE TIED CARD OF 'zelligelaw25.SheetAll'. -/
def sheetAllCard : Claim7 := { stood := { row := sheetAllRow, standIns := [], harness := (true, "24025cc071cbbc7658646a4303fd07c069c66ccc5f32da4e576c5387c582788a"), looks := true }, kinds := [], alts := [], laidByText := true, laidKinds := [.data, .data, .data], laidTests := true, laidLooks := .later }
def SheetAllCardSaid : Prop := Claim7.holds Tryz.pinned (.plain (OpenSpec.ofChange sheetAllSpec)) sheetAllCard

/-- THE TIED CARD OF 'zelligelaw29.ReportDegrees'. -/
def reportDegreesCard : Claim7 := { stood := { row := reportDegreesRow, standIns := [], harness := (true, "24025cc071cbbc7658646a4303fd07c069c66ccc5f32da4e576c5387c582788a"), looks := true }, kinds := [], alts := [], laidByText := true, laidKinds := [.data, .data, .data], laidTests := true, laidLooks := .later }
def ReportDegreesCardSaid : Prop := Claim7.holds Tryz.pinned (.plain (OpenSpec.ofChange reportDegreesSpec)) reportDegreesCard

/-- THE SECOND FORM's CARD OF 'zelligelaw25.SheetSpecs'. -/
def sheetSpecsUptoCard : Claim7 := { stood := { row := sheetSpecsUptoRow, standIns := [], harness := (true, "24025cc071cbbc7658646a4303fd07c069c66ccc5f32da4e576c5387c582788a"), looks := true }, kinds := [], alts := [], laidByText := true, laidKinds := [.data, .data, .data], laidTests := true, laidLooks := .later }
def SheetSpecsUptoCardSaid : Prop := Claim7.holds Tryz.pinned (.plain (OpenSpec.upto sheetSpecsSpec)) sheetSpecsUptoCard

/-- THE SECOND FORM's CARD OF 'zelligelaw25.SheetAll'. -/
def sheetAllUptoCard : Claim7 := { stood := { row := sheetAllUptoRow, standIns := [], harness := (true, "24025cc071cbbc7658646a4303fd07c069c66ccc5f32da4e576c5387c582788a"), looks := true }, kinds := [], alts := [], laidByText := true, laidKinds := [.data, .data, .data], laidTests := true, laidLooks := .later }
def SheetAllUptoCardSaid : Prop := Claim7.holds Tryz.pinned (.plain (OpenSpec.upto sheetAllSpec)) sheetAllUptoCard

/-- THE SECOND FORM's CARD OF 'zelligelaw29.ReportDegrees'. -/
def reportDegreesUptoCard : Claim7 := { stood := { row := reportDegreesUptoRow, standIns := [], harness := (true, "24025cc071cbbc7658646a4303fd07c069c66ccc5f32da4e576c5387c582788a"), looks := true }, kinds := [], alts := [], laidByText := true, laidKinds := [.data, .data, .data], laidTests := true, laidLooks := .later }
def ReportDegreesUptoCardSaid : Prop := Claim7.holds Tryz.pinned (.plain (OpenSpec.upto reportDegreesSpec)) reportDegreesUptoCard
end Rows
end Go.Proofs.YtaabgjmcikolfaaGreatDoor
