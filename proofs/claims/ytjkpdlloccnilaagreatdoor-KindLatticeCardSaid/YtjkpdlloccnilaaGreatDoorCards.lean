/-
  DERIVED. GIVEN WITH THE SEED: THE CARDS: each row of YtjkpdlloccnilaaGreatDoorRows.lean that lists a variable, with what it lists TIED to the program's text (the seventh form; the later family's looks); each row that meets fmt, with fmt's text TOLD by the authors' own Lean function (tested against real Go, not proved from fmt's source: count such statements apart). THE CARD IS WHAT COUNTS. Prove the row's statement (the work); the ties are given (YtjkpdlloccnilaaGreatDoorTie.lean); close each card by the builder's one call (the guide's Derived/Test/ToyasCard.lean, 'card_holds'). Laid BY PROGRAM, IN A SANDBOX (cutbox-door.mjs). By AI agents, Wed Nov 11 2026. No macro, syntax, notation, axiom, sorry.
-/
import Derived.Test.YtjkpdlloccnilaaGreatDoorRows
import GoSem.ClaimSeven
namespace Go.Proofs.YtjkpdlloccnilaaGreatDoor
namespace Rows

/-- THE TIED CARD OF 'swardlaw05.KindIs'. -/
def kindIsCard : Claim7 := { stood := { row := kindIsRow, standIns := [], harness := (true, "2b2dd42976df36376e3edc59743bc25e3b279e2145e2c684f4402163bc343186"), looks := true }, kinds := [], alts := [], laidByText := true, laidKinds := [.data, .data, .data, .listed, .data], laidTests := true, laidLooks := .later }
def KindIsCardSaid : Prop := Claim7.holds Tryz.pinned (.plain (OpenSpec.ofChange kindIsSpec)) kindIsCard

/-- THE TIED CARD OF 'swardlaw05.KindJoins'. -/
def kindJoinsCard : Claim7 := { stood := { row := kindJoinsRow, standIns := [], harness := (true, "2b2dd42976df36376e3edc59743bc25e3b279e2145e2c684f4402163bc343186"), looks := true }, kinds := [], alts := [], laidByText := true, laidKinds := [.data, .data, .data, .listed, .data], laidTests := true, laidLooks := .later }
def KindJoinsCardSaid : Prop := Claim7.holds Tryz.pinned (.plain (OpenSpec.ofChange kindJoinsSpec)) kindJoinsCard

/-- THE TIED CARD OF 'swardlaw05.KindLattice'. -/
def kindLatticeCard : Claim7 := { stood := { row := kindLatticeRow, standIns := [], harness := (true, "2b2dd42976df36376e3edc59743bc25e3b279e2145e2c684f4402163bc343186"), looks := true }, kinds := [], alts := [], laidByText := true, laidKinds := [.data, .data, .data, .listed, .data], laidTests := true, laidLooks := .later }
def KindLatticeCardSaid : Prop := Claim7.holds Tryz.pinned (.plain (OpenSpec.ofChange kindLatticeSpec)) kindLatticeCard

/-- THE TIED CARD OF 'swardlaw05.KindLarge'. -/
def kindLargeCard : Claim7 := { stood := { row := kindLargeRow, standIns := [], harness := (true, "2b2dd42976df36376e3edc59743bc25e3b279e2145e2c684f4402163bc343186"), looks := true }, kinds := [], alts := [], laidByText := true, laidKinds := [.data, .data, .data, .listed, .data], laidTests := true, laidLooks := .later }
def KindLargeCardSaid : Prop := Claim7.holds Tryz.pinned (.plain (OpenSpec.ofChange kindLargeSpec)) kindLargeCard

/-- THE TIED CARD OF 'swardlaw05.KindOfs'. -/
def kindOfsCard : Claim7 := { stood := { row := kindOfsRow, standIns := [], harness := (true, "2b2dd42976df36376e3edc59743bc25e3b279e2145e2c684f4402163bc343186"), looks := true }, kinds := [], alts := [], laidByText := true, laidKinds := [.data, .data, .data, .listed, .data], laidTests := true, laidLooks := .later }
def KindOfsCardSaid : Prop := Claim7.holds Tryz.pinned (.plain (OpenSpec.ofChange kindOfsSpec)) kindOfsCard

/-- THE TIED CARD OF 'swardlaw05.KindNarrow'. -/
def kindNarrowCard : Claim7 := { stood := { row := kindNarrowRow, standIns := [], harness := (true, "2b2dd42976df36376e3edc59743bc25e3b279e2145e2c684f4402163bc343186"), looks := true }, kinds := [], alts := [], laidByText := true, laidKinds := [.data, .data, .data, .listed, .data], laidTests := true, laidLooks := .later }
def KindNarrowCardSaid : Prop := Claim7.holds Tryz.pinned (.plain (OpenSpec.ofChange kindNarrowSpec)) kindNarrowCard

/-- THE TIED CARD OF 'swardlaw05.KindNamed'. -/
def kindNamedCard : Claim7 := { stood := { row := kindNamedRow, standIns := [], harness := (true, "2b2dd42976df36376e3edc59743bc25e3b279e2145e2c684f4402163bc343186"), looks := true }, kinds := [], alts := [], laidByText := true, laidKinds := [.data, .data, .data, .listed, .data], laidTests := true, laidLooks := .later }
def KindNamedCardSaid : Prop := Claim7.holds Tryz.pinned (.plain (OpenSpec.ofChange kindNamedSpec)) kindNamedCard

/-- THE TIED CARD OF 'swardlaw05.KindChecks'. -/
def kindChecksCard : Claim7 := { stood := { row := kindChecksRow, standIns := [], harness := (true, "2b2dd42976df36376e3edc59743bc25e3b279e2145e2c684f4402163bc343186"), looks := true }, kinds := [], alts := [], laidByText := true, laidKinds := [.data, .data, .data, .listed, .data], laidTests := true, laidLooks := .later }
def KindChecksCardSaid : Prop := Claim7.holds Tryz.pinned (.plain (OpenSpec.ofChange kindChecksSpec)) kindChecksCard

/-- THE TIED CARD OF 'swardlaw05.KindTotals'. -/
def kindTotalsCard : Claim7 := { stood := { row := kindTotalsRow, standIns := [], harness := (true, "2b2dd42976df36376e3edc59743bc25e3b279e2145e2c684f4402163bc343186"), looks := true }, kinds := [], alts := [], laidByText := true, laidKinds := [.data, .data, .data, .listed, .data], laidTests := true, laidLooks := .later }
def KindTotalsCardSaid : Prop := Claim7.holds Tryz.pinned (.plain (OpenSpec.ofChange kindTotalsSpec)) kindTotalsCard

/-- THE SECOND FORM's CARD OF 'swardlaw05.KindIs'. -/
def kindIsUptoCard : Claim7 := { stood := { row := kindIsUptoRow, standIns := [], harness := (true, "2b2dd42976df36376e3edc59743bc25e3b279e2145e2c684f4402163bc343186"), looks := true }, kinds := [], alts := [], laidByText := true, laidKinds := [.data, .data, .data, .listed, .data], laidTests := true, laidLooks := .later }
def KindIsUptoCardSaid : Prop := Claim7.holds Tryz.pinned (.plain (OpenSpec.upto kindIsSpec)) kindIsUptoCard

/-- THE SECOND FORM's CARD OF 'swardlaw05.KindJoins'. -/
def kindJoinsUptoCard : Claim7 := { stood := { row := kindJoinsUptoRow, standIns := [], harness := (true, "2b2dd42976df36376e3edc59743bc25e3b279e2145e2c684f4402163bc343186"), looks := true }, kinds := [], alts := [], laidByText := true, laidKinds := [.data, .data, .data, .listed, .data], laidTests := true, laidLooks := .later }
def KindJoinsUptoCardSaid : Prop := Claim7.holds Tryz.pinned (.plain (OpenSpec.upto kindJoinsSpec)) kindJoinsUptoCard

/-- THE SECOND FORM's CARD OF 'swardlaw05.KindLattice'. -/
def kindLatticeUptoCard : Claim7 := { stood := { row := kindLatticeUptoRow, standIns := [], harness := (true, "2b2dd42976df36376e3edc59743bc25e3b279e2145e2c684f4402163bc343186"), looks := true }, kinds := [], alts := [], laidByText := true, laidKinds := [.data, .data, .data, .listed, .data], laidTests := true, laidLooks := .later }
def KindLatticeUptoCardSaid : Prop := Claim7.holds Tryz.pinned (.plain (OpenSpec.upto kindLatticeSpec)) kindLatticeUptoCard

/-- THE SECOND FORM's CARD OF 'swardlaw05.KindLarge'. -/
def kindLargeUptoCard : Claim7 := { stood := { row := kindLargeUptoRow, standIns := [], harness := (true, "2b2dd42976df36376e3edc59743bc25e3b279e2145e2c684f4402163bc343186"), looks := true }, kinds := [], alts := [], laidByText := true, laidKinds := [.data, .data, .data, .listed, .data], laidTests := true, laidLooks := .later }
def KindLargeUptoCardSaid : Prop := Claim7.holds Tryz.pinned (.plain (OpenSpec.upto kindLargeSpec)) kindLargeUptoCard

/-- THE SECOND FORM's CARD OF 'swardlaw05.KindOfs'. -/
def kindOfsUptoCard : Claim7 := { stood := { row := kindOfsUptoRow, standIns := [], harness := (true, "2b2dd42976df36376e3edc59743bc25e3b279e2145e2c684f4402163bc343186"), looks := true }, kinds := [], alts := [], laidByText := true, laidKinds := [.data, .data, .data, .listed, .data], laidTests := true, laidLooks := .later }
def KindOfsUptoCardSaid : Prop := Claim7.holds Tryz.pinned (.plain (OpenSpec.upto kindOfsSpec)) kindOfsUptoCard

/-- THE SECOND FORM's CARD OF 'swardlaw05.KindNarrow'. -/
def kindNarrowUptoCard : Claim7 := { stood := { row := kindNarrowUptoRow, standIns := [], harness := (true, "2b2dd42976df36376e3edc59743bc25e3b279e2145e2c684f4402163bc343186"), looks := true }, kinds := [], alts := [], laidByText := true, laidKinds := [.data, .data, .data, .listed, .data], laidTests := true, laidLooks := .later }
def KindNarrowUptoCardSaid : Prop := Claim7.holds Tryz.pinned (.plain (OpenSpec.upto kindNarrowSpec)) kindNarrowUptoCard

/-- THE SECOND FORM's CARD OF 'swardlaw05.KindNamed'. -/
def kindNamedUptoCard : Claim7 := { stood := { row := kindNamedUptoRow, standIns := [], harness := (true, "2b2dd42976df36376e3edc59743bc25e3b279e2145e2c684f4402163bc343186"), looks := true }, kinds := [], alts := [], laidByText := true, laidKinds := [.data, .data, .data, .listed, .data], laidTests := true, laidLooks := .later }
def KindNamedUptoCardSaid : Prop := Claim7.holds Tryz.pinned (.plain (OpenSpec.upto kindNamedSpec)) kindNamedUptoCard

/-- THE SECOND FORM's CARD OF 'swardlaw05.KindChecks'. -/
def kindChecksUptoCard : Claim7 := { stood := { row := kindChecksUptoRow, standIns := [], harness := (true, "2b2dd42976df36376e3edc59743bc25e3b279e2145e2c684f4402163bc343186"), looks := true }, kinds := [], alts := [], laidByText := true, laidKinds := [.data, .data, .data, .listed, .data], laidTests := true, laidLooks := .later }
def KindChecksUptoCardSaid : Prop := Claim7.holds Tryz.pinned (.plain (OpenSpec.upto kindChecksSpec)) kindChecksUptoCard

/-- THE SECOND FORM's CARD OF 'swardlaw05.KindTotals'. -/
def kindTotalsUptoCard : Claim7 := { stood := { row := kindTotalsUptoRow, standIns := [], harness := (true, "2b2dd42976df36376e3edc59743bc25e3b279e2145e2c684f4402163bc343186"), looks := true }, kinds := [], alts := [], laidByText := true, laidKinds := [.data, .data, .data, .listed, .data], laidTests := true, laidLooks := .later }
def KindTotalsUptoCardSaid : Prop := Claim7.holds Tryz.pinned (.plain (OpenSpec.upto kindTotalsSpec)) kindTotalsUptoCard
end Rows
end Go.Proofs.YtjkpdlloccnilaaGreatDoor
