/-
  DERIVED. GIVEN WITH THE SEED: THE CARDS: each row of YtojkbmepcbgbhaaGreatDoorRows.lean that lists a variable, with what it lists TIED to the program's text (the seventh form; the later family's looks); each row that meets fmt, with fmt's text TOLD by the authors' own Lean function (tested against real Go, not proved from fmt's source: count such statements apart). THE CARD IS WHAT COUNTS. Prove the row's statement (the work); the ties are given (YtojkbmepcbgbhaaGreatDoorTie.lean); close each card by the builder's one call (the guide's Derived/Test/ToyasCard.lean, 'card_holds'). Laid BY PROGRAM, IN A SANDBOX (cutbox-door.mjs). By AI agents, Wed Nov 11 2026. No macro, syntax, notation, axiom, sorry.
-/
import Derived.Test.YtojkbmepcbgbhaaGreatDoorRows
import GoSem.ClaimSeven
namespace Go.Proofs.YtojkbmepcbgbhaaGreatDoor
namespace Rows

/-- THE TIED CARD OF 'swardlaw01.ValuePaths'. -/
def valuePathsCard : Claim7 := { stood := { row := valuePathsRow, standIns := [], harness := (true, "c34d290d85786d74c502a8452a522338a794309c88c3ab8fcbf9d6a88bbe40cb"), looks := true }, kinds := [], alts := [], laidByText := true, laidKinds := [.data, .data, .data], laidTests := true, laidLooks := .later }
def ValuePathsCardSaid : Prop := Claim7.holds Tryz.pinned (.plain (OpenSpec.ofChange valuePathsSpec)) valuePathsCard

/-- THE TIED CARD OF 'swardlaw01.ValueOrder'. -/
def valueOrderCard : Claim7 := { stood := { row := valueOrderRow, standIns := [], harness := (true, "c34d290d85786d74c502a8452a522338a794309c88c3ab8fcbf9d6a88bbe40cb"), looks := true }, kinds := [], alts := [], laidByText := true, laidKinds := [.data, .data, .data], laidTests := true, laidLooks := .later }
def ValueOrderCardSaid : Prop := Claim7.holds Tryz.pinned (.plain (OpenSpec.ofChange valueOrderSpec)) valueOrderCard

/-- THE TIED CARD OF 'swardlaw01.ValueReads'. -/
def valueReadsCard : Claim7 := { stood := { row := valueReadsRow, standIns := [], harness := (true, "c34d290d85786d74c502a8452a522338a794309c88c3ab8fcbf9d6a88bbe40cb"), looks := true }, kinds := [], alts := [], laidByText := true, laidKinds := [.data, .data, .data], laidTests := true, laidLooks := .later }
def ValueReadsCardSaid : Prop := Claim7.holds Tryz.pinned (.plain (OpenSpec.ofChange valueReadsSpec)) valueReadsCard

/-- THE TIED CARD OF 'swardlaw01.ValueChecks'. -/
def valueChecksCard : Claim7 := { stood := { row := valueChecksRow, standIns := [], harness := (true, "c34d290d85786d74c502a8452a522338a794309c88c3ab8fcbf9d6a88bbe40cb"), looks := true }, kinds := [], alts := [], laidByText := true, laidKinds := [.data, .data, .data], laidTests := true, laidLooks := .later }
def ValueChecksCardSaid : Prop := Claim7.holds Tryz.pinned (.plain (OpenSpec.ofChange valueChecksSpec)) valueChecksCard

/-- THE TIED CARD OF 'swardlaw01.ValueCompares'. -/
def valueComparesCard : Claim7 := { stood := { row := valueComparesRow, standIns := [], harness := (true, "c34d290d85786d74c502a8452a522338a794309c88c3ab8fcbf9d6a88bbe40cb"), looks := true }, kinds := [], alts := [], laidByText := true, laidKinds := [.data, .data, .data], laidTests := true, laidLooks := .later }
def ValueComparesCardSaid : Prop := Claim7.holds Tryz.pinned (.plain (OpenSpec.ofChange valueComparesSpec)) valueComparesCard

/-- THE TIED CARD OF 'swardlaw01.ValueJoins'. -/
def valueJoinsCard : Claim7 := { stood := { row := valueJoinsRow, standIns := [], harness := (true, "c34d290d85786d74c502a8452a522338a794309c88c3ab8fcbf9d6a88bbe40cb"), looks := true }, kinds := [], alts := [], laidByText := true, laidKinds := [.data, .data, .data], laidTests := true, laidLooks := .later }
def ValueJoinsCardSaid : Prop := Claim7.holds Tryz.pinned (.plain (OpenSpec.ofChange valueJoinsSpec)) valueJoinsCard

/-- THE TIED CARD OF 'swardlaw01.ValueLaws'. -/
def valueLawsCard : Claim7 := { stood := { row := valueLawsRow, standIns := [], harness := (true, "c34d290d85786d74c502a8452a522338a794309c88c3ab8fcbf9d6a88bbe40cb"), looks := true }, kinds := [], alts := [], laidByText := true, laidKinds := [.data, .data, .data], laidTests := true, laidLooks := .later }
def ValueLawsCardSaid : Prop := Claim7.holds Tryz.pinned (.plain (OpenSpec.ofChange valueLawsSpec)) valueLawsCard

/-- THE TIED CARD OF 'swardlaw01.ValueWrites'. -/
def valueWritesCard : Claim7 := { stood := { row := valueWritesRow, standIns := [], harness := (true, "c34d290d85786d74c502a8452a522338a794309c88c3ab8fcbf9d6a88bbe40cb"), looks := true }, kinds := [], alts := [], laidByText := true, laidKinds := [.data, .data, .data], laidTests := true, laidLooks := .later }
def ValueWritesCardSaid : Prop := Claim7.holds Tryz.pinned (.plain (OpenSpec.ofChange valueWritesSpec)) valueWritesCard

/-- THE TIED CARD OF 'swardlaw01.ValueLoads'. -/
def valueLoadsCard : Claim7 := { stood := { row := valueLoadsRow, standIns := [], harness := (true, "c34d290d85786d74c502a8452a522338a794309c88c3ab8fcbf9d6a88bbe40cb"), looks := true }, kinds := [], alts := [], laidByText := true, laidKinds := [.data, .data, .data], laidTests := true, laidLooks := .later }
def ValueLoadsCardSaid : Prop := Claim7.holds Tryz.pinned (.plain (OpenSpec.ofChange valueLoadsSpec)) valueLoadsCard

/-- THE TIED CARD OF 'swardlaw01.ValueMaps'. -/
def valueMapsCard : Claim7 := { stood := { row := valueMapsRow, standIns := [], harness := (true, "c34d290d85786d74c502a8452a522338a794309c88c3ab8fcbf9d6a88bbe40cb"), looks := true }, kinds := [], alts := [], laidByText := true, laidKinds := [.data, .data, .data], laidTests := true, laidLooks := .later }
def ValueMapsCardSaid : Prop := Claim7.holds Tryz.pinned (.plain (OpenSpec.ofChange valueMapsSpec)) valueMapsCard

/-- THE TIED CARD OF 'swardlaw01.ValueLaid'. -/
def valueLaidCard : Claim7 := { stood := { row := valueLaidRow, standIns := [], harness := (true, "c34d290d85786d74c502a8452a522338a794309c88c3ab8fcbf9d6a88bbe40cb"), looks := true }, kinds := [], alts := [], laidByText := true, laidKinds := [.data, .data, .data], laidTests := true, laidLooks := .later }
def ValueLaidCardSaid : Prop := Claim7.holds Tryz.pinned (.plain (OpenSpec.ofChange valueLaidSpec)) valueLaidCard

/-- THE TIED CARD OF 'swardlaw01.ValueSets'. -/
def valueSetsCard : Claim7 := { stood := { row := valueSetsRow, standIns := [], harness := (true, "c34d290d85786d74c502a8452a522338a794309c88c3ab8fcbf9d6a88bbe40cb"), looks := true }, kinds := [], alts := [], laidByText := true, laidKinds := [.data, .data, .data], laidTests := true, laidLooks := .later }
def ValueSetsCardSaid : Prop := Claim7.holds Tryz.pinned (.plain (OpenSpec.ofChange valueSetsSpec)) valueSetsCard

/-- THE TIED CARD OF 'swardlaw01.ValueOnce'. -/
def valueOnceCard : Claim7 := { stood := { row := valueOnceRow, standIns := [], harness := (true, "c34d290d85786d74c502a8452a522338a794309c88c3ab8fcbf9d6a88bbe40cb"), looks := true }, kinds := [], alts := [], laidByText := true, laidKinds := [.data, .data, .data], laidTests := true, laidLooks := .later }
def ValueOnceCardSaid : Prop := Claim7.holds Tryz.pinned (.plain (OpenSpec.ofChange valueOnceSpec)) valueOnceCard

/-- THE SECOND FORM's CARD OF 'swardlaw01.ValuePaths'. -/
def valuePathsUptoCard : Claim7 := { stood := { row := valuePathsUptoRow, standIns := [], harness := (true, "c34d290d85786d74c502a8452a522338a794309c88c3ab8fcbf9d6a88bbe40cb"), looks := true }, kinds := [], alts := [], laidByText := true, laidKinds := [.data, .data, .data], laidTests := true, laidLooks := .later }
def ValuePathsUptoCardSaid : Prop := Claim7.holds Tryz.pinned (.plain (OpenSpec.upto valuePathsSpec)) valuePathsUptoCard

/-- THE SECOND FORM's CARD OF 'swardlaw01.ValueOrder'. -/
def valueOrderUptoCard : Claim7 := { stood := { row := valueOrderUptoRow, standIns := [], harness := (true, "c34d290d85786d74c502a8452a522338a794309c88c3ab8fcbf9d6a88bbe40cb"), looks := true }, kinds := [], alts := [], laidByText := true, laidKinds := [.data, .data, .data], laidTests := true, laidLooks := .later }
def ValueOrderUptoCardSaid : Prop := Claim7.holds Tryz.pinned (.plain (OpenSpec.upto valueOrderSpec)) valueOrderUptoCard

/-- THE SECOND FORM's CARD OF 'swardlaw01.ValueReads'. -/
def valueReadsUptoCard : Claim7 := { stood := { row := valueReadsUptoRow, standIns := [], harness := (true, "c34d290d85786d74c502a8452a522338a794309c88c3ab8fcbf9d6a88bbe40cb"), looks := true }, kinds := [], alts := [], laidByText := true, laidKinds := [.data, .data, .data], laidTests := true, laidLooks := .later }
def ValueReadsUptoCardSaid : Prop := Claim7.holds Tryz.pinned (.plain (OpenSpec.upto valueReadsSpec)) valueReadsUptoCard

/-- THE SECOND FORM's CARD OF 'swardlaw01.ValueChecks'. -/
def valueChecksUptoCard : Claim7 := { stood := { row := valueChecksUptoRow, standIns := [], harness := (true, "c34d290d85786d74c502a8452a522338a794309c88c3ab8fcbf9d6a88bbe40cb"), looks := true }, kinds := [], alts := [], laidByText := true, laidKinds := [.data, .data, .data], laidTests := true, laidLooks := .later }
def ValueChecksUptoCardSaid : Prop := Claim7.holds Tryz.pinned (.plain (OpenSpec.upto valueChecksSpec)) valueChecksUptoCard

/-- THE SECOND FORM's CARD OF 'swardlaw01.ValueCompares'. -/
def valueComparesUptoCard : Claim7 := { stood := { row := valueComparesUptoRow, standIns := [], harness := (true, "c34d290d85786d74c502a8452a522338a794309c88c3ab8fcbf9d6a88bbe40cb"), looks := true }, kinds := [], alts := [], laidByText := true, laidKinds := [.data, .data, .data], laidTests := true, laidLooks := .later }
def ValueComparesUptoCardSaid : Prop := Claim7.holds Tryz.pinned (.plain (OpenSpec.upto valueComparesSpec)) valueComparesUptoCard

/-- THE SECOND FORM's CARD OF 'swardlaw01.ValueJoins'. -/
def valueJoinsUptoCard : Claim7 := { stood := { row := valueJoinsUptoRow, standIns := [], harness := (true, "c34d290d85786d74c502a8452a522338a794309c88c3ab8fcbf9d6a88bbe40cb"), looks := true }, kinds := [], alts := [], laidByText := true, laidKinds := [.data, .data, .data], laidTests := true, laidLooks := .later }
def ValueJoinsUptoCardSaid : Prop := Claim7.holds Tryz.pinned (.plain (OpenSpec.upto valueJoinsSpec)) valueJoinsUptoCard

/-- THE SECOND FORM's CARD OF 'swardlaw01.ValueLaws'. -/
def valueLawsUptoCard : Claim7 := { stood := { row := valueLawsUptoRow, standIns := [], harness := (true, "c34d290d85786d74c502a8452a522338a794309c88c3ab8fcbf9d6a88bbe40cb"), looks := true }, kinds := [], alts := [], laidByText := true, laidKinds := [.data, .data, .data], laidTests := true, laidLooks := .later }
def ValueLawsUptoCardSaid : Prop := Claim7.holds Tryz.pinned (.plain (OpenSpec.upto valueLawsSpec)) valueLawsUptoCard

/-- THE SECOND FORM's CARD OF 'swardlaw01.ValueWrites'. -/
def valueWritesUptoCard : Claim7 := { stood := { row := valueWritesUptoRow, standIns := [], harness := (true, "c34d290d85786d74c502a8452a522338a794309c88c3ab8fcbf9d6a88bbe40cb"), looks := true }, kinds := [], alts := [], laidByText := true, laidKinds := [.data, .data, .data], laidTests := true, laidLooks := .later }
def ValueWritesUptoCardSaid : Prop := Claim7.holds Tryz.pinned (.plain (OpenSpec.upto valueWritesSpec)) valueWritesUptoCard

/-- THE SECOND FORM's CARD OF 'swardlaw01.ValueLoads'. -/
def valueLoadsUptoCard : Claim7 := { stood := { row := valueLoadsUptoRow, standIns := [], harness := (true, "c34d290d85786d74c502a8452a522338a794309c88c3ab8fcbf9d6a88bbe40cb"), looks := true }, kinds := [], alts := [], laidByText := true, laidKinds := [.data, .data, .data], laidTests := true, laidLooks := .later }
def ValueLoadsUptoCardSaid : Prop := Claim7.holds Tryz.pinned (.plain (OpenSpec.upto valueLoadsSpec)) valueLoadsUptoCard

/-- THE SECOND FORM's CARD OF 'swardlaw01.ValueMaps'. -/
def valueMapsUptoCard : Claim7 := { stood := { row := valueMapsUptoRow, standIns := [], harness := (true, "c34d290d85786d74c502a8452a522338a794309c88c3ab8fcbf9d6a88bbe40cb"), looks := true }, kinds := [], alts := [], laidByText := true, laidKinds := [.data, .data, .data], laidTests := true, laidLooks := .later }
def ValueMapsUptoCardSaid : Prop := Claim7.holds Tryz.pinned (.plain (OpenSpec.upto valueMapsSpec)) valueMapsUptoCard

/-- THE SECOND FORM's CARD OF 'swardlaw01.ValueLaid'. -/
def valueLaidUptoCard : Claim7 := { stood := { row := valueLaidUptoRow, standIns := [], harness := (true, "c34d290d85786d74c502a8452a522338a794309c88c3ab8fcbf9d6a88bbe40cb"), looks := true }, kinds := [], alts := [], laidByText := true, laidKinds := [.data, .data, .data], laidTests := true, laidLooks := .later }
def ValueLaidUptoCardSaid : Prop := Claim7.holds Tryz.pinned (.plain (OpenSpec.upto valueLaidSpec)) valueLaidUptoCard

/-- THE SECOND FORM's CARD OF 'swardlaw01.ValueSets'. -/
def valueSetsUptoCard : Claim7 := { stood := { row := valueSetsUptoRow, standIns := [], harness := (true, "c34d290d85786d74c502a8452a522338a794309c88c3ab8fcbf9d6a88bbe40cb"), looks := true }, kinds := [], alts := [], laidByText := true, laidKinds := [.data, .data, .data], laidTests := true, laidLooks := .later }
def ValueSetsUptoCardSaid : Prop := Claim7.holds Tryz.pinned (.plain (OpenSpec.upto valueSetsSpec)) valueSetsUptoCard

/-- THE SECOND FORM's CARD OF 'swardlaw01.ValueOnce'. -/
def valueOnceUptoCard : Claim7 := { stood := { row := valueOnceUptoRow, standIns := [], harness := (true, "c34d290d85786d74c502a8452a522338a794309c88c3ab8fcbf9d6a88bbe40cb"), looks := true }, kinds := [], alts := [], laidByText := true, laidKinds := [.data, .data, .data], laidTests := true, laidLooks := .later }
def ValueOnceUptoCardSaid : Prop := Claim7.holds Tryz.pinned (.plain (OpenSpec.upto valueOnceSpec)) valueOnceUptoCard
end Rows
end Go.Proofs.YtojkbmepcbgbhaaGreatDoor
