/-
  DERIVED. GIVEN WITH THE SEED: THE CARDS: each row of YtodgddpkbmanoaaGreatDoorRows.lean that lists a variable, with what it lists TIED to the program's text (the seventh form; the later family's looks); each row that meets fmt, with fmt's text TOLD by the authors' own Lean function (tested against real Go, not proved from fmt's source: count such statements apart). THE CARD IS WHAT COUNTS. Prove the row's statement (the work); the ties are given (YtodgddpkbmanoaaGreatDoorTie.lean); close each card by the builder's one call (the guide's Derived/Test/ToyasCard.lean, 'card_holds'). Laid BY PROGRAM, IN A SANDBOX (cutbox-door.mjs). By AI agents, Wed Nov 11 2026. No macro, syntax, notation, axiom, sorry.
-/
import Derived.Test.YtodgddpkbmanoaaGreatDoorRows
import GoSem.ClaimSeven
namespace Go.Proofs.YtodgddpkbmanoaaGreatDoor
namespace Rows

/-- THE TIED CARD OF 'swardlaw11.ReprUses'. -/
def reprUsesCard : Claim7 := { stood := { row := reprUsesRow, standIns := [], harness := (true, "50f10f2299f9fe1b7bfea6cdba47d036a08b7c3402c48f88c9c787ab497cb52f"), looks := true }, kinds := [], alts := [], laidByText := true, laidKinds := [.data, .data, .data, .listed, .data], laidTests := true, laidLooks := .later }
def ReprUsesCardSaid : Prop := Claim7.holds Tryz.pinned (.plain (OpenSpec.ofChange reprUsesSpec)) reprUsesCard

/-- THE TIED CARD OF 'swardlaw11.ReprBounds'. -/
def reprBoundsCard : Claim7 := { stood := { row := reprBoundsRow, standIns := [], harness := (true, "50f10f2299f9fe1b7bfea6cdba47d036a08b7c3402c48f88c9c787ab497cb52f"), looks := true }, kinds := [], alts := [], laidByText := true, laidKinds := [.data, .data, .data, .listed, .data], laidTests := true, laidLooks := .later }
def ReprBoundsCardSaid : Prop := Claim7.holds Tryz.pinned (.plain (OpenSpec.ofChange reprBoundsSpec)) reprBoundsCard

/-- THE TIED CARD OF 'swardlaw11.ReprCheapest'. -/
def reprCheapestCard : Claim7 := { stood := { row := reprCheapestRow, standIns := [], harness := (true, "50f10f2299f9fe1b7bfea6cdba47d036a08b7c3402c48f88c9c787ab497cb52f"), looks := true }, kinds := [], alts := [], laidByText := true, laidKinds := [.data, .data, .data, .listed, .data], laidTests := true, laidLooks := .later }
def ReprCheapestCardSaid : Prop := Claim7.holds Tryz.pinned (.plain (OpenSpec.ofChange reprCheapestSpec)) reprCheapestCard

/-- THE TIED CARD OF 'swardlaw11.ReprNumbers'. -/
def reprNumbersCard : Claim7 := { stood := { row := reprNumbersRow, standIns := [], harness := (true, "50f10f2299f9fe1b7bfea6cdba47d036a08b7c3402c48f88c9c787ab497cb52f"), looks := true }, kinds := [], alts := [], laidByText := true, laidKinds := [.data, .data, .data, .listed, .data], laidTests := true, laidLooks := .later }
def ReprNumbersCardSaid : Prop := Claim7.holds Tryz.pinned (.plain (OpenSpec.ofChange reprNumbersSpec)) reprNumbersCard

/-- THE SECOND FORM's CARD OF 'swardlaw11.ReprUses'. -/
def reprUsesUptoCard : Claim7 := { stood := { row := reprUsesUptoRow, standIns := [], harness := (true, "50f10f2299f9fe1b7bfea6cdba47d036a08b7c3402c48f88c9c787ab497cb52f"), looks := true }, kinds := [], alts := [], laidByText := true, laidKinds := [.data, .data, .data, .listed, .data], laidTests := true, laidLooks := .later }
def ReprUsesUptoCardSaid : Prop := Claim7.holds Tryz.pinned (.plain (OpenSpec.upto reprUsesSpec)) reprUsesUptoCard

/-- THE SECOND FORM's CARD OF 'swardlaw11.ReprBounds'. -/
def reprBoundsUptoCard : Claim7 := { stood := { row := reprBoundsUptoRow, standIns := [], harness := (true, "50f10f2299f9fe1b7bfea6cdba47d036a08b7c3402c48f88c9c787ab497cb52f"), looks := true }, kinds := [], alts := [], laidByText := true, laidKinds := [.data, .data, .data, .listed, .data], laidTests := true, laidLooks := .later }
def ReprBoundsUptoCardSaid : Prop := Claim7.holds Tryz.pinned (.plain (OpenSpec.upto reprBoundsSpec)) reprBoundsUptoCard

/-- THE SECOND FORM's CARD OF 'swardlaw11.ReprCheapest'. -/
def reprCheapestUptoCard : Claim7 := { stood := { row := reprCheapestUptoRow, standIns := [], harness := (true, "50f10f2299f9fe1b7bfea6cdba47d036a08b7c3402c48f88c9c787ab497cb52f"), looks := true }, kinds := [], alts := [], laidByText := true, laidKinds := [.data, .data, .data, .listed, .data], laidTests := true, laidLooks := .later }
def ReprCheapestUptoCardSaid : Prop := Claim7.holds Tryz.pinned (.plain (OpenSpec.upto reprCheapestSpec)) reprCheapestUptoCard

/-- THE SECOND FORM's CARD OF 'swardlaw11.ReprNumbers'. -/
def reprNumbersUptoCard : Claim7 := { stood := { row := reprNumbersUptoRow, standIns := [], harness := (true, "50f10f2299f9fe1b7bfea6cdba47d036a08b7c3402c48f88c9c787ab497cb52f"), looks := true }, kinds := [], alts := [], laidByText := true, laidKinds := [.data, .data, .data, .listed, .data], laidTests := true, laidLooks := .later }
def ReprNumbersUptoCardSaid : Prop := Claim7.holds Tryz.pinned (.plain (OpenSpec.upto reprNumbersSpec)) reprNumbersUptoCard
end Rows
end Go.Proofs.YtodgddpkbmanoaaGreatDoor
