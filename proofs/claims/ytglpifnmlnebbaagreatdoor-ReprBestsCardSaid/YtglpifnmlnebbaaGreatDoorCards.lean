/-
  DERIVED. GIVEN WITH THE SEED: THE CARDS: each row of YtglpifnmlnebbaaGreatDoorRows.lean that lists a variable, with what it lists TIED to the program's text (the seventh form; the later family's looks); each row that meets fmt, with fmt's text TOLD by the authors' own Lean function (tested against real Go, not proved from fmt's source: count such statements apart). THE CARD IS WHAT COUNTS. Prove the row's statement (the work); the ties are given (YtglpifnmlnebbaaGreatDoorTie.lean); close each card by the builder's one call (the guide's Derived/Test/ToyasCard.lean, 'card_holds'). Laid BY PROGRAM, IN A SANDBOX (cutbox-door.mjs). By AI agents, Wed Nov 11 2026. No macro, syntax, notation, axiom, sorry.
-/
import Derived.Test.YtglpifnmlnebbaaGreatDoorRows
import GoSem.ClaimSeven
namespace Go.Proofs.YtglpifnmlnebbaaGreatDoor
namespace Rows

/-- THE TIED CARD OF 'swardlaw11.ReprCosts'. -/
def reprCostsCard : Claim7 := { stood := { row := reprCostsRow, standIns := [], harness := (true, "f09c92e748e3128a13db757f44f026e8ef412a9db4337d22ba23badf3936210c"), looks := true }, kinds := [], alts := [], laidByText := true, laidKinds := [.data, .data, .data, .listed, .data], laidTests := true, laidLooks := .later }
def ReprCostsCardSaid : Prop := Claim7.holds Tryz.pinned (.plain (OpenSpec.ofChange reprCostsSpec)) reprCostsCard

/-- THE TIED CARD OF 'swardlaw11.ReprBests'. -/
def reprBestsCard : Claim7 := { stood := { row := reprBestsRow, standIns := [], harness := (true, "f09c92e748e3128a13db757f44f026e8ef412a9db4337d22ba23badf3936210c"), looks := true }, kinds := [], alts := [], laidByText := true, laidKinds := [.data, .data, .data, .listed, .data], laidTests := true, laidLooks := .later }
def ReprBestsCardSaid : Prop := Claim7.holds Tryz.pinned (.plain (OpenSpec.ofChange reprBestsSpec)) reprBestsCard

/-- THE TIED CARD OF 'swardlaw11.ReprProves'. -/
def reprProvesCard : Claim7 := { stood := { row := reprProvesRow, standIns := [], harness := (true, "f09c92e748e3128a13db757f44f026e8ef412a9db4337d22ba23badf3936210c"), looks := true }, kinds := [], alts := [], laidByText := true, laidKinds := [.data, .data, .data, .listed, .data], laidTests := true, laidLooks := .later }
def ReprProvesCardSaid : Prop := Claim7.holds Tryz.pinned (.plain (OpenSpec.ofChange reprProvesSpec)) reprProvesCard

/-- THE TIED CARD OF 'swardlaw11.ReprAccepts'. -/
def reprAcceptsCard : Claim7 := { stood := { row := reprAcceptsRow, standIns := [], harness := (true, "f09c92e748e3128a13db757f44f026e8ef412a9db4337d22ba23badf3936210c"), looks := true }, kinds := [], alts := [], laidByText := true, laidKinds := [.data, .data, .data, .listed, .data], laidTests := true, laidLooks := .later }
def ReprAcceptsCardSaid : Prop := Claim7.holds Tryz.pinned (.plain (OpenSpec.ofChange reprAcceptsSpec)) reprAcceptsCard

/-- THE TIED CARD OF 'swardlaw11.ReprKnown'. -/
def reprKnownCard : Claim7 := { stood := { row := reprKnownRow, standIns := [], harness := (true, "f09c92e748e3128a13db757f44f026e8ef412a9db4337d22ba23badf3936210c"), looks := true }, kinds := [], alts := [], laidByText := true, laidKinds := [.data, .data, .data, .listed, .data], laidTests := true, laidLooks := .later }
def ReprKnownCardSaid : Prop := Claim7.holds Tryz.pinned (.plain (OpenSpec.ofChange reprKnownSpec)) reprKnownCard

/-- THE SECOND FORM's CARD OF 'swardlaw11.ReprCosts'. -/
def reprCostsUptoCard : Claim7 := { stood := { row := reprCostsUptoRow, standIns := [], harness := (true, "f09c92e748e3128a13db757f44f026e8ef412a9db4337d22ba23badf3936210c"), looks := true }, kinds := [], alts := [], laidByText := true, laidKinds := [.data, .data, .data, .listed, .data], laidTests := true, laidLooks := .later }
def ReprCostsUptoCardSaid : Prop := Claim7.holds Tryz.pinned (.plain (OpenSpec.upto reprCostsSpec)) reprCostsUptoCard

/-- THE SECOND FORM's CARD OF 'swardlaw11.ReprBests'. -/
def reprBestsUptoCard : Claim7 := { stood := { row := reprBestsUptoRow, standIns := [], harness := (true, "f09c92e748e3128a13db757f44f026e8ef412a9db4337d22ba23badf3936210c"), looks := true }, kinds := [], alts := [], laidByText := true, laidKinds := [.data, .data, .data, .listed, .data], laidTests := true, laidLooks := .later }
def ReprBestsUptoCardSaid : Prop := Claim7.holds Tryz.pinned (.plain (OpenSpec.upto reprBestsSpec)) reprBestsUptoCard

/-- THE SECOND FORM's CARD OF 'swardlaw11.ReprProves'. -/
def reprProvesUptoCard : Claim7 := { stood := { row := reprProvesUptoRow, standIns := [], harness := (true, "f09c92e748e3128a13db757f44f026e8ef412a9db4337d22ba23badf3936210c"), looks := true }, kinds := [], alts := [], laidByText := true, laidKinds := [.data, .data, .data, .listed, .data], laidTests := true, laidLooks := .later }
def ReprProvesUptoCardSaid : Prop := Claim7.holds Tryz.pinned (.plain (OpenSpec.upto reprProvesSpec)) reprProvesUptoCard

/-- THE SECOND FORM's CARD OF 'swardlaw11.ReprAccepts'. -/
def reprAcceptsUptoCard : Claim7 := { stood := { row := reprAcceptsUptoRow, standIns := [], harness := (true, "f09c92e748e3128a13db757f44f026e8ef412a9db4337d22ba23badf3936210c"), looks := true }, kinds := [], alts := [], laidByText := true, laidKinds := [.data, .data, .data, .listed, .data], laidTests := true, laidLooks := .later }
def ReprAcceptsUptoCardSaid : Prop := Claim7.holds Tryz.pinned (.plain (OpenSpec.upto reprAcceptsSpec)) reprAcceptsUptoCard

/-- THE SECOND FORM's CARD OF 'swardlaw11.ReprKnown'. -/
def reprKnownUptoCard : Claim7 := { stood := { row := reprKnownUptoRow, standIns := [], harness := (true, "f09c92e748e3128a13db757f44f026e8ef412a9db4337d22ba23badf3936210c"), looks := true }, kinds := [], alts := [], laidByText := true, laidKinds := [.data, .data, .data, .listed, .data], laidTests := true, laidLooks := .later }
def ReprKnownUptoCardSaid : Prop := Claim7.holds Tryz.pinned (.plain (OpenSpec.upto reprKnownSpec)) reprKnownUptoCard
end Rows
end Go.Proofs.YtglpifnmlnebbaaGreatDoor
