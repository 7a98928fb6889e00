/-
  DERIVED. GIVEN WITH THE SEED: THE CARDS: each row of YtkdjibejnncmfaaGreatDoorRows.lean that lists a variable, with what it lists TIED to the program's text (the seventh form; the later family's looks); each row that meets fmt, with fmt's text TOLD by the authors' own Lean function (tested against real Go, not proved from fmt's source: count such statements apart). THE CARD IS WHAT COUNTS. Prove the row's statement (the work); the ties are given (YtkdjibejnncmfaaGreatDoorTie.lean); close each card by the builder's one call (the guide's Derived/Test/ToyasCard.lean, 'card_holds'). Laid BY PROGRAM, IN A SANDBOX (cutbox-door.mjs). By AI agents, Wed Nov 11 2026. No macro, syntax, notation, axiom, sorry.
-/
import Derived.Test.YtkdjibejnncmfaaGreatDoorRows
import GoSem.ClaimSeven
namespace Go.Proofs.YtkdjibejnncmfaaGreatDoor
namespace Rows

/-- THE TIED CARD OF 'quicksilverlaw09.CodedField'. -/
def codedFieldCard : Claim7 := { stood := { row := codedFieldRow, standIns := [], harness := (true, "5acc4c936bb7c9e6fd0a264c2fa7eb287417863294e058aac2f729c9e9094bef"), looks := false }, kinds := [], alts := [], laidByText := true, laidKinds := [.data, .pinned], laidTests := true, laidLooks := .later }
def CodedFieldCardSaid : Prop := Claim7.holds Tryz.pinned (.plain (OpenSpec.ofChange codedFieldSpec)) codedFieldCard

/-- THE TIED CARD OF 'quicksilverlaw09.CodedPieces'. -/
def codedPiecesCard : Claim7 := { stood := { row := codedPiecesRow, standIns := [], harness := (true, "5acc4c936bb7c9e6fd0a264c2fa7eb287417863294e058aac2f729c9e9094bef"), looks := false }, kinds := [], alts := [], laidByText := true, laidKinds := [.data, .pinned], laidTests := true, laidLooks := .later }
def CodedPiecesCardSaid : Prop := Claim7.holds Tryz.pinned (.plain (OpenSpec.ofChange codedPiecesSpec)) codedPiecesCard

/-- THE TIED CARD OF 'quicksilverlaw09.CodedLaws'. -/
def codedLawsCard : Claim7 := { stood := { row := codedLawsRow, standIns := [], harness := (true, "5acc4c936bb7c9e6fd0a264c2fa7eb287417863294e058aac2f729c9e9094bef"), looks := false }, kinds := [], alts := [], laidByText := true, laidKinds := [.data, .pinned], laidTests := true, laidLooks := .later }
def CodedLawsCardSaid : Prop := Claim7.holds Tryz.pinned (.plain (OpenSpec.ofChange codedLawsSpec)) codedLawsCard

/-- THE TIED CARD OF 'quicksilverlaw09.CodedStraight'. -/
def codedStraightCard : Claim7 := { stood := { row := codedStraightRow, standIns := [], harness := (true, "5acc4c936bb7c9e6fd0a264c2fa7eb287417863294e058aac2f729c9e9094bef"), looks := false }, kinds := [], alts := [], laidByText := true, laidKinds := [.data, .pinned], laidTests := true, laidLooks := .later }
def CodedStraightCardSaid : Prop := Claim7.holds Tryz.pinned (.plain (OpenSpec.ofChange codedStraightSpec)) codedStraightCard

/-- THE TIED CARD OF 'quicksilverlaw09.CodedTexts'. -/
def codedTextsCard : Claim7 := { stood := { row := codedTextsRow, standIns := [], harness := (true, "5acc4c936bb7c9e6fd0a264c2fa7eb287417863294e058aac2f729c9e9094bef"), looks := false }, kinds := [], alts := [], laidByText := true, laidKinds := [.data, .pinned], laidTests := true, laidLooks := .later }
def CodedTextsCardSaid : Prop := Claim7.holds Tryz.pinned (.plain (OpenSpec.ofChange codedTextsSpec)) codedTextsCard

/-- THE TIED CARD OF 'quicksilverlaw09.CodedHeals'. -/
def codedHealsCard : Claim7 := { stood := { row := codedHealsRow, standIns := [], harness := (true, "5acc4c936bb7c9e6fd0a264c2fa7eb287417863294e058aac2f729c9e9094bef"), looks := false }, kinds := [], alts := [], laidByText := true, laidKinds := [.data, .pinned], laidTests := true, laidLooks := .later }
def CodedHealsCardSaid : Prop := Claim7.holds Tryz.pinned (.plain (OpenSpec.ofChange codedHealsSpec)) codedHealsCard

/-- THE TIED CARD OF 'quicksilverlaw09.CodedRepairs'. -/
def codedRepairsCard : Claim7 := { stood := { row := codedRepairsRow, standIns := [], harness := (true, "5acc4c936bb7c9e6fd0a264c2fa7eb287417863294e058aac2f729c9e9094bef"), looks := false }, kinds := [], alts := [], laidByText := true, laidKinds := [.data, .pinned], laidTests := true, laidLooks := .later }
def CodedRepairsCardSaid : Prop := Claim7.holds Tryz.pinned (.plain (OpenSpec.ofChange codedRepairsSpec)) codedRepairsCard

/-- THE TIED CARD OF 'quicksilverlaw09.CodedStorms'. -/
def codedStormsCard : Claim7 := { stood := { row := codedStormsRow, standIns := [], harness := (true, "5acc4c936bb7c9e6fd0a264c2fa7eb287417863294e058aac2f729c9e9094bef"), looks := false }, kinds := [], alts := [], laidByText := true, laidKinds := [.data, .pinned], laidTests := true, laidLooks := .later }
def CodedStormsCardSaid : Prop := Claim7.holds Tryz.pinned (.plain (OpenSpec.ofChange codedStormsSpec)) codedStormsCard

/-- THE TIED CARD OF 'quicksilverlaw09.CodedDisks'. -/
def codedDisksCard : Claim7 := { stood := { row := codedDisksRow, standIns := [], harness := (true, "5acc4c936bb7c9e6fd0a264c2fa7eb287417863294e058aac2f729c9e9094bef"), looks := false }, kinds := [], alts := [], laidByText := true, laidKinds := [.data, .pinned], laidTests := true, laidLooks := .later }
def CodedDisksCardSaid : Prop := Claim7.holds Tryz.pinned (.plain (OpenSpec.ofChange codedDisksSpec)) codedDisksCard

/-- THE TIED CARD OF 'quicksilverlaw09.CodedVaults'. -/
def codedVaultsCard : Claim7 := { stood := { row := codedVaultsRow, standIns := [], harness := (true, "5acc4c936bb7c9e6fd0a264c2fa7eb287417863294e058aac2f729c9e9094bef"), looks := false }, kinds := [], alts := [], laidByText := true, laidKinds := [.data, .pinned], laidTests := true, laidLooks := .later }
def CodedVaultsCardSaid : Prop := Claim7.holds Tryz.pinned (.plain (OpenSpec.ofChange codedVaultsSpec)) codedVaultsCard

/-- THE TIED CARD OF 'quicksilverlaw09.CodedAny'. -/
def codedAnyCard : Claim7 := { stood := { row := codedAnyRow, standIns := [], harness := (true, "5acc4c936bb7c9e6fd0a264c2fa7eb287417863294e058aac2f729c9e9094bef"), looks := false }, kinds := [], alts := [], laidByText := true, laidKinds := [.data, .pinned], laidTests := true, laidLooks := .later }
def CodedAnyCardSaid : Prop := Claim7.holds Tryz.pinned (.plain (OpenSpec.ofChange codedAnySpec)) codedAnyCard

/-- THE SECOND FORM's CARD OF 'quicksilverlaw09.CodedField'. -/
def codedFieldUptoCard : Claim7 := { stood := { row := codedFieldUptoRow, standIns := [], harness := (true, "5acc4c936bb7c9e6fd0a264c2fa7eb287417863294e058aac2f729c9e9094bef"), looks := false }, kinds := [], alts := [], laidByText := true, laidKinds := [.data, .pinned], laidTests := true, laidLooks := .later }
def CodedFieldUptoCardSaid : Prop := Claim7.holds Tryz.pinned (.plain (OpenSpec.upto codedFieldSpec)) codedFieldUptoCard

/-- THE SECOND FORM's CARD OF 'quicksilverlaw09.CodedPieces'. -/
def codedPiecesUptoCard : Claim7 := { stood := { row := codedPiecesUptoRow, standIns := [], harness := (true, "5acc4c936bb7c9e6fd0a264c2fa7eb287417863294e058aac2f729c9e9094bef"), looks := false }, kinds := [], alts := [], laidByText := true, laidKinds := [.data, .pinned], laidTests := true, laidLooks := .later }
def CodedPiecesUptoCardSaid : Prop := Claim7.holds Tryz.pinned (.plain (OpenSpec.upto codedPiecesSpec)) codedPiecesUptoCard

/-- THE SECOND FORM's CARD OF 'quicksilverlaw09.CodedLaws'. -/
def codedLawsUptoCard : Claim7 := { stood := { row := codedLawsUptoRow, standIns := [], harness := (true, "5acc4c936bb7c9e6fd0a264c2fa7eb287417863294e058aac2f729c9e9094bef"), looks := false }, kinds := [], alts := [], laidByText := true, laidKinds := [.data, .pinned], laidTests := true, laidLooks := .later }
def CodedLawsUptoCardSaid : Prop := Claim7.holds Tryz.pinned (.plain (OpenSpec.upto codedLawsSpec)) codedLawsUptoCard

/-- THE SECOND FORM's CARD OF 'quicksilverlaw09.CodedStraight'. -/
def codedStraightUptoCard : Claim7 := { stood := { row := codedStraightUptoRow, standIns := [], harness := (true, "5acc4c936bb7c9e6fd0a264c2fa7eb287417863294e058aac2f729c9e9094bef"), looks := false }, kinds := [], alts := [], laidByText := true, laidKinds := [.data, .pinned], laidTests := true, laidLooks := .later }
def CodedStraightUptoCardSaid : Prop := Claim7.holds Tryz.pinned (.plain (OpenSpec.upto codedStraightSpec)) codedStraightUptoCard

/-- THE SECOND FORM's CARD OF 'quicksilverlaw09.CodedTexts'. -/
def codedTextsUptoCard : Claim7 := { stood := { row := codedTextsUptoRow, standIns := [], harness := (true, "5acc4c936bb7c9e6fd0a264c2fa7eb287417863294e058aac2f729c9e9094bef"), looks := false }, kinds := [], alts := [], laidByText := true, laidKinds := [.data, .pinned], laidTests := true, laidLooks := .later }
def CodedTextsUptoCardSaid : Prop := Claim7.holds Tryz.pinned (.plain (OpenSpec.upto codedTextsSpec)) codedTextsUptoCard

/-- THE SECOND FORM's CARD OF 'quicksilverlaw09.CodedHeals'. -/
def codedHealsUptoCard : Claim7 := { stood := { row := codedHealsUptoRow, standIns := [], harness := (true, "5acc4c936bb7c9e6fd0a264c2fa7eb287417863294e058aac2f729c9e9094bef"), looks := false }, kinds := [], alts := [], laidByText := true, laidKinds := [.data, .pinned], laidTests := true, laidLooks := .later }
def CodedHealsUptoCardSaid : Prop := Claim7.holds Tryz.pinned (.plain (OpenSpec.upto codedHealsSpec)) codedHealsUptoCard

/-- THE SECOND FORM's CARD OF 'quicksilverlaw09.CodedRepairs'. -/
def codedRepairsUptoCard : Claim7 := { stood := { row := codedRepairsUptoRow, standIns := [], harness := (true, "5acc4c936bb7c9e6fd0a264c2fa7eb287417863294e058aac2f729c9e9094bef"), looks := false }, kinds := [], alts := [], laidByText := true, laidKinds := [.data, .pinned], laidTests := true, laidLooks := .later }
def CodedRepairsUptoCardSaid : Prop := Claim7.holds Tryz.pinned (.plain (OpenSpec.upto codedRepairsSpec)) codedRepairsUptoCard

/-- THE SECOND FORM's CARD OF 'quicksilverlaw09.CodedStorms'. -/
def codedStormsUptoCard : Claim7 := { stood := { row := codedStormsUptoRow, standIns := [], harness := (true, "5acc4c936bb7c9e6fd0a264c2fa7eb287417863294e058aac2f729c9e9094bef"), looks := false }, kinds := [], alts := [], laidByText := true, laidKinds := [.data, .pinned], laidTests := true, laidLooks := .later }
def CodedStormsUptoCardSaid : Prop := Claim7.holds Tryz.pinned (.plain (OpenSpec.upto codedStormsSpec)) codedStormsUptoCard

/-- THE SECOND FORM's CARD OF 'quicksilverlaw09.CodedDisks'. -/
def codedDisksUptoCard : Claim7 := { stood := { row := codedDisksUptoRow, standIns := [], harness := (true, "5acc4c936bb7c9e6fd0a264c2fa7eb287417863294e058aac2f729c9e9094bef"), looks := false }, kinds := [], alts := [], laidByText := true, laidKinds := [.data, .pinned], laidTests := true, laidLooks := .later }
def CodedDisksUptoCardSaid : Prop := Claim7.holds Tryz.pinned (.plain (OpenSpec.upto codedDisksSpec)) codedDisksUptoCard

/-- THE SECOND FORM's CARD OF 'quicksilverlaw09.CodedVaults'. -/
def codedVaultsUptoCard : Claim7 := { stood := { row := codedVaultsUptoRow, standIns := [], harness := (true, "5acc4c936bb7c9e6fd0a264c2fa7eb287417863294e058aac2f729c9e9094bef"), looks := false }, kinds := [], alts := [], laidByText := true, laidKinds := [.data, .pinned], laidTests := true, laidLooks := .later }
def CodedVaultsUptoCardSaid : Prop := Claim7.holds Tryz.pinned (.plain (OpenSpec.upto codedVaultsSpec)) codedVaultsUptoCard

/-- THE SECOND FORM's CARD OF 'quicksilverlaw09.CodedAny'. -/
def codedAnyUptoCard : Claim7 := { stood := { row := codedAnyUptoRow, standIns := [], harness := (true, "5acc4c936bb7c9e6fd0a264c2fa7eb287417863294e058aac2f729c9e9094bef"), looks := false }, kinds := [], alts := [], laidByText := true, laidKinds := [.data, .pinned], laidTests := true, laidLooks := .later }
def CodedAnyUptoCardSaid : Prop := Claim7.holds Tryz.pinned (.plain (OpenSpec.upto codedAnySpec)) codedAnyUptoCard
end Rows
end Go.Proofs.YtkdjibejnncmfaaGreatDoor
