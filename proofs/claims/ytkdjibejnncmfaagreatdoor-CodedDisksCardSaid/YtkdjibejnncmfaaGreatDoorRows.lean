/-
  NARROWER THAN 'FOR EVERY INPUT', by the rows' own cells (each row's printed sentence says how): CodedField: laid · CodedPieces: laid · CodedLaws: laid · CodedStraight: laid · CodedTexts: laid · CodedHeals: laid · CodedRepairs: laid · CodedStorms: laid · CodedDisks: laid · CodedVaults: laid · CodedAny: laid.
  DERIVED. THE GIVEN ROWS OF THIS SEAT. 11 by the template 'for every input the law returns true; each argument reads behind the call as it read before'; 0 by the template 'total and deterministic' (their statements: YtkdjibejnncmfaaGreatDoorTotals.lean).
  GIVEN WITH THE SEED: the statements are not yours to turn. If you find one false, say at which input.
  Laid BY PROGRAM, IN A SANDBOX (cutbox-rows.mjs): the forced cells as the released guide's own fill.sh prints them over the translation eb660e7409e3c0d9… (all of the seat's roots in one cut). By AI agents, Wed Nov 11 2026. No macro, syntax, notation, axiom, sorry.
-/
import Derived.Test.YtkdjibejnncmfaaGreatDoorChecked
import GoSem.PinnedTables
import GoSem.Claim
import GoSem.ClaimJoined
import GoSem.ClaimMapViews
import Derived.JoinedTies
import Derived.KernelRfl
namespace Go.Proofs.YtkdjibejnncmfaaGreatDoor
/- THE CELL 'sum', in the pinned program and in every row, IS THE sha256 OF THE DUMP (.gsa) THAT YtkdjibejnncmfaaGreatDoorProg.lean LOADS. Nothing in Lean hashes anything: it is a label: what it is worth is what the hold of that sum in a sandbox is worth. -/
noncomputable def Tryz.pinned : Pinned := { name := "ytkdjibejnncmfaagreatdoor", sum := "eb660e7409e3c0d9c934d0d42d1eeb76166df8392e798c18e78e4669527c8faa", checked := Tryz.checked }
namespace Rows
def none {H : Type} : Left H := { results := [], args := [] }

/- WHAT THE LISTED PACKAGE-LEVEL VARIABLES READ AS WHEN THE CALL BEGINS. Each datum BY PROGRAM (the guide's laid-datum.mjs) off the statement by which the dump's own 'gosem.cut.vars' lays the variable. In a bare row this is a premise. The card (YtkdjibejnncmfaaGreatDoorCards.lean) ties it to the program's text. -/
def laid_unicode_utf8_acceptRanges {H : Type} : DataW H := .agg [.agg [.lit (.int .u8 128), .lit (.int .u8 191)], .agg [.lit (.int .u8 160), .lit (.int .u8 191)], .agg [.lit (.int .u8 128), .lit (.int .u8 159)], .agg [.lit (.int .u8 144), .lit (.int .u8 191)], .agg [.lit (.int .u8 128), .lit (.int .u8 143)], .agg [.lit (.int .u8 0), .lit (.int .u8 0)], .agg [.lit (.int .u8 0), .lit (.int .u8 0)], .agg [.lit (.int .u8 0), .lit (.int .u8 0)], .agg [.lit (.int .u8 0), .lit (.int .u8 0)], .agg [.lit (.int .u8 0), .lit (.int .u8 0)], .agg [.lit (.int .u8 0), .lit (.int .u8 0)], .agg [.lit (.int .u8 0), .lit (.int .u8 0)], .agg [.lit (.int .u8 0), .lit (.int .u8 0)], .agg [.lit (.int .u8 0), .lit (.int .u8 0)], .agg [.lit (.int .u8 0), .lit (.int .u8 0)], .agg [.lit (.int .u8 0), .lit (.int .u8 0)]]
/-- One of Go's own tables, pinned by name: the form's constant. -/
def laid_unicode_utf8_first : DataW Unit := Go.Pinned.utf8First

/-- 'quicksilverlaw09.CodedField': WHATEVER THE INPUT: true; the input reads as it did. -/
def codedFieldSpec : ChangeSpec := { name := "codedField", fn := fun _ => fun
  | [d1, d2, d3, d4] => { results := [.lit (.bool true)], args := [d1, d2, d3, d4] }
  | _ => none }
def codedFieldRow : OpenClaim := { program := "ytkdjibejnncmfaagreatdoor", sum := "eb660e7409e3c0d9c934d0d42d1eeb76166df8392e798c18e78e4669527c8faa", func := "quicksilver/quicksilverlaw09.CodedField", spec := "codedField", unfollowed := true, recurses := true, named := ["unicode/utf8.first", "unicode/utf8.acceptRanges"], plainKeys := false, apart := false, laid := [("unicode/utf8.acceptRanges", laid_unicode_utf8_acceptRanges), ("unicode/utf8.first", laid_unicode_utf8_first)] }
def CodedFieldSaid : Prop := codedFieldRow.holds Tryz.pinned (OpenSpec.ofChange codedFieldSpec)

/-- ITS FALSE NEIGHBOUR: 'it returns false'. Refute it at one input. -/
def codedFieldWrong : ChangeSpec := { name := "codedField", fn := fun _ => fun
  | [d1, d2, d3, d4] => { results := [.lit (.bool false)], args := [d1, d2, d3, d4] }
  | _ => none }
def CodedFieldWrongFalsely : Prop := codedFieldRow.holds Tryz.pinned (OpenSpec.ofChange codedFieldWrong)

/-- 'quicksilverlaw09.CodedPieces': WHATEVER THE INPUT: true; the input reads as it did. -/
def codedPiecesSpec : ChangeSpec := { name := "codedPieces", fn := fun _ => fun
  | [d1, d2, d3, d4] => { results := [.lit (.bool true)], args := [d1, d2, d3, d4] }
  | _ => none }
def codedPiecesRow : OpenClaim := { program := "ytkdjibejnncmfaagreatdoor", sum := "eb660e7409e3c0d9c934d0d42d1eeb76166df8392e798c18e78e4669527c8faa", func := "quicksilver/quicksilverlaw09.CodedPieces", spec := "codedPieces", unfollowed := true, recurses := true, named := ["unicode/utf8.first", "unicode/utf8.acceptRanges"], plainKeys := false, apart := false, laid := [("unicode/utf8.acceptRanges", laid_unicode_utf8_acceptRanges), ("unicode/utf8.first", laid_unicode_utf8_first)] }
def CodedPiecesSaid : Prop := codedPiecesRow.holds Tryz.pinned (OpenSpec.ofChange codedPiecesSpec)

/-- ITS FALSE NEIGHBOUR: 'it returns false'. Refute it at one input. -/
def codedPiecesWrong : ChangeSpec := { name := "codedPieces", fn := fun _ => fun
  | [d1, d2, d3, d4] => { results := [.lit (.bool false)], args := [d1, d2, d3, d4] }
  | _ => none }
def CodedPiecesWrongFalsely : Prop := codedPiecesRow.holds Tryz.pinned (OpenSpec.ofChange codedPiecesWrong)

/-- 'quicksilverlaw09.CodedLaws': WHATEVER THE INPUT: true; the input reads as it did. -/
def codedLawsSpec : ChangeSpec := { name := "codedLaws", fn := fun _ => fun
  | [d1, d2, d3] => { results := [.lit (.bool true)], args := [d1, d2, d3] }
  | _ => none }
def codedLawsRow : OpenClaim := { program := "ytkdjibejnncmfaagreatdoor", sum := "eb660e7409e3c0d9c934d0d42d1eeb76166df8392e798c18e78e4669527c8faa", func := "quicksilver/quicksilverlaw09.CodedLaws", spec := "codedLaws", unfollowed := true, recurses := true, named := ["unicode/utf8.first", "unicode/utf8.acceptRanges"], plainKeys := false, apart := false, laid := [("unicode/utf8.acceptRanges", laid_unicode_utf8_acceptRanges), ("unicode/utf8.first", laid_unicode_utf8_first)] }
def CodedLawsSaid : Prop := codedLawsRow.holds Tryz.pinned (OpenSpec.ofChange codedLawsSpec)

/-- ITS FALSE NEIGHBOUR: 'it returns false'. Refute it at one input. -/
def codedLawsWrong : ChangeSpec := { name := "codedLaws", fn := fun _ => fun
  | [d1, d2, d3] => { results := [.lit (.bool false)], args := [d1, d2, d3] }
  | _ => none }
def CodedLawsWrongFalsely : Prop := codedLawsRow.holds Tryz.pinned (OpenSpec.ofChange codedLawsWrong)

/-- 'quicksilverlaw09.CodedStraight': WHATEVER THE INPUT: true; the input reads as it did. -/
def codedStraightSpec : ChangeSpec := { name := "codedStraight", fn := fun _ => fun
  | [d1, d2, d3, d4] => { results := [.lit (.bool true)], args := [d1, d2, d3, d4] }
  | _ => none }
def codedStraightRow : OpenClaim := { program := "ytkdjibejnncmfaagreatdoor", sum := "eb660e7409e3c0d9c934d0d42d1eeb76166df8392e798c18e78e4669527c8faa", func := "quicksilver/quicksilverlaw09.CodedStraight", spec := "codedStraight", unfollowed := true, recurses := true, named := ["unicode/utf8.first", "unicode/utf8.acceptRanges"], plainKeys := false, apart := false, laid := [("unicode/utf8.acceptRanges", laid_unicode_utf8_acceptRanges), ("unicode/utf8.first", laid_unicode_utf8_first)] }
def CodedStraightSaid : Prop := codedStraightRow.holds Tryz.pinned (OpenSpec.ofChange codedStraightSpec)

/-- ITS FALSE NEIGHBOUR: 'it returns false'. Refute it at one input. -/
def codedStraightWrong : ChangeSpec := { name := "codedStraight", fn := fun _ => fun
  | [d1, d2, d3, d4] => { results := [.lit (.bool false)], args := [d1, d2, d3, d4] }
  | _ => none }
def CodedStraightWrongFalsely : Prop := codedStraightRow.holds Tryz.pinned (OpenSpec.ofChange codedStraightWrong)

/-- 'quicksilverlaw09.CodedTexts': WHATEVER THE INPUT: true; the input reads as it did. -/
def codedTextsSpec : ChangeSpec := { name := "codedTexts", fn := fun _ => fun
  | [d1, d2, d3, d4] => { results := [.lit (.bool true)], args := [d1, d2, d3, d4] }
  | _ => none }
def codedTextsRow : OpenClaim := { program := "ytkdjibejnncmfaagreatdoor", sum := "eb660e7409e3c0d9c934d0d42d1eeb76166df8392e798c18e78e4669527c8faa", func := "quicksilver/quicksilverlaw09.CodedTexts", spec := "codedTexts", unfollowed := true, recurses := true, named := ["unicode/utf8.first", "unicode/utf8.acceptRanges"], plainKeys := false, apart := false, laid := [("unicode/utf8.acceptRanges", laid_unicode_utf8_acceptRanges), ("unicode/utf8.first", laid_unicode_utf8_first)] }
def CodedTextsSaid : Prop := codedTextsRow.holds Tryz.pinned (OpenSpec.ofChange codedTextsSpec)

/-- ITS FALSE NEIGHBOUR: 'it returns false'. Refute it at one input. -/
def codedTextsWrong : ChangeSpec := { name := "codedTexts", fn := fun _ => fun
  | [d1, d2, d3, d4] => { results := [.lit (.bool false)], args := [d1, d2, d3, d4] }
  | _ => none }
def CodedTextsWrongFalsely : Prop := codedTextsRow.holds Tryz.pinned (OpenSpec.ofChange codedTextsWrong)

/-- 'quicksilverlaw09.CodedHeals': WHATEVER THE INPUT: true; the input reads as it did. -/
def codedHealsSpec : ChangeSpec := { name := "codedHeals", fn := fun _ => fun
  | [d1, d2, d3, d4, d5, d6, d7] => { results := [.lit (.bool true)], args := [d1, d2, d3, d4, d5, d6, d7] }
  | _ => none }
def codedHealsRow : OpenClaim := { program := "ytkdjibejnncmfaagreatdoor", sum := "eb660e7409e3c0d9c934d0d42d1eeb76166df8392e798c18e78e4669527c8faa", func := "quicksilver/quicksilverlaw09.CodedHeals", spec := "codedHeals", unfollowed := true, recurses := true, named := ["unicode/utf8.first", "unicode/utf8.acceptRanges"], plainKeys := false, apart := false, laid := [("unicode/utf8.acceptRanges", laid_unicode_utf8_acceptRanges), ("unicode/utf8.first", laid_unicode_utf8_first)] }
def CodedHealsSaid : Prop := codedHealsRow.holds Tryz.pinned (OpenSpec.ofChange codedHealsSpec)

/-- ITS FALSE NEIGHBOUR: 'it returns false'. Refute it at one input. -/
def codedHealsWrong : ChangeSpec := { name := "codedHeals", fn := fun _ => fun
  | [d1, d2, d3, d4, d5, d6, d7] => { results := [.lit (.bool false)], args := [d1, d2, d3, d4, d5, d6, d7] }
  | _ => none }
def CodedHealsWrongFalsely : Prop := codedHealsRow.holds Tryz.pinned (OpenSpec.ofChange codedHealsWrong)

/-- 'quicksilverlaw09.CodedRepairs': WHATEVER THE INPUT: true; the input reads as it did. -/
def codedRepairsSpec : ChangeSpec := { name := "codedRepairs", fn := fun _ => fun
  | [d1, d2, d3, d4, d5] => { results := [.lit (.bool true)], args := [d1, d2, d3, d4, d5] }
  | _ => none }
def codedRepairsRow : OpenClaim := { program := "ytkdjibejnncmfaagreatdoor", sum := "eb660e7409e3c0d9c934d0d42d1eeb76166df8392e798c18e78e4669527c8faa", func := "quicksilver/quicksilverlaw09.CodedRepairs", spec := "codedRepairs", unfollowed := true, recurses := true, named := ["unicode/utf8.first", "unicode/utf8.acceptRanges"], plainKeys := false, apart := false, laid := [("unicode/utf8.acceptRanges", laid_unicode_utf8_acceptRanges), ("unicode/utf8.first", laid_unicode_utf8_first)] }
def CodedRepairsSaid : Prop := codedRepairsRow.holds Tryz.pinned (OpenSpec.ofChange codedRepairsSpec)

/-- ITS FALSE NEIGHBOUR: 'it returns false'. Refute it at one input. -/
def codedRepairsWrong : ChangeSpec := { name := "codedRepairs", fn := fun _ => fun
  | [d1, d2, d3, d4, d5] => { results := [.lit (.bool false)], args := [d1, d2, d3, d4, d5] }
  | _ => none }
def CodedRepairsWrongFalsely : Prop := codedRepairsRow.holds Tryz.pinned (OpenSpec.ofChange codedRepairsWrong)

/-- 'quicksilverlaw09.CodedStorms': WHATEVER THE INPUT: true; the input reads as it did. -/
def codedStormsSpec : ChangeSpec := { name := "codedStorms", fn := fun _ => fun
  | [d1, d2, d3, d4] => { results := [.lit (.bool true)], args := [d1, d2, d3, d4] }
  | _ => none }
def codedStormsRow : OpenClaim := { program := "ytkdjibejnncmfaagreatdoor", sum := "eb660e7409e3c0d9c934d0d42d1eeb76166df8392e798c18e78e4669527c8faa", func := "quicksilver/quicksilverlaw09.CodedStorms", spec := "codedStorms", unfollowed := true, recurses := true, named := ["unicode/utf8.first", "unicode/utf8.acceptRanges"], plainKeys := false, apart := false, laid := [("unicode/utf8.acceptRanges", laid_unicode_utf8_acceptRanges), ("unicode/utf8.first", laid_unicode_utf8_first)] }
def CodedStormsSaid : Prop := codedStormsRow.holds Tryz.pinned (OpenSpec.ofChange codedStormsSpec)

/-- ITS FALSE NEIGHBOUR: 'it returns false'. Refute it at one input. -/
def codedStormsWrong : ChangeSpec := { name := "codedStorms", fn := fun _ => fun
  | [d1, d2, d3, d4] => { results := [.lit (.bool false)], args := [d1, d2, d3, d4] }
  | _ => none }
def CodedStormsWrongFalsely : Prop := codedStormsRow.holds Tryz.pinned (OpenSpec.ofChange codedStormsWrong)

/-- 'quicksilverlaw09.CodedDisks': WHATEVER THE INPUT: true; the input reads as it did. -/
def codedDisksSpec : ChangeSpec := { name := "codedDisks", fn := fun _ => fun
  | [d1, d2, d3] => { results := [.lit (.bool true)], args := [d1, d2, d3] }
  | _ => none }
def codedDisksRow : OpenClaim := { program := "ytkdjibejnncmfaagreatdoor", sum := "eb660e7409e3c0d9c934d0d42d1eeb76166df8392e798c18e78e4669527c8faa", func := "quicksilver/quicksilverlaw09.CodedDisks", spec := "codedDisks", unfollowed := true, recurses := true, named := ["unicode/utf8.first", "unicode/utf8.acceptRanges"], plainKeys := false, apart := false, laid := [("unicode/utf8.acceptRanges", laid_unicode_utf8_acceptRanges), ("unicode/utf8.first", laid_unicode_utf8_first)] }
def CodedDisksSaid : Prop := codedDisksRow.holds Tryz.pinned (OpenSpec.ofChange codedDisksSpec)

/-- ITS FALSE NEIGHBOUR: 'it returns false'. Refute it at one input. -/
def codedDisksWrong : ChangeSpec := { name := "codedDisks", fn := fun _ => fun
  | [d1, d2, d3] => { results := [.lit (.bool false)], args := [d1, d2, d3] }
  | _ => none }
def CodedDisksWrongFalsely : Prop := codedDisksRow.holds Tryz.pinned (OpenSpec.ofChange codedDisksWrong)

/-- 'quicksilverlaw09.CodedVaults': WHATEVER THE INPUT: true; the input reads as it did. -/
def codedVaultsSpec : ChangeSpec := { name := "codedVaults", fn := fun _ => fun
  | [d1, d2, d3] => { results := [.lit (.bool true)], args := [d1, d2, d3] }
  | _ => none }
def codedVaultsRow : OpenClaim := { program := "ytkdjibejnncmfaagreatdoor", sum := "eb660e7409e3c0d9c934d0d42d1eeb76166df8392e798c18e78e4669527c8faa", func := "quicksilver/quicksilverlaw09.CodedVaults", spec := "codedVaults", unfollowed := true, recurses := true, named := ["unicode/utf8.first", "unicode/utf8.acceptRanges"], plainKeys := false, apart := false, laid := [("unicode/utf8.acceptRanges", laid_unicode_utf8_acceptRanges), ("unicode/utf8.first", laid_unicode_utf8_first)] }
def CodedVaultsSaid : Prop := codedVaultsRow.holds Tryz.pinned (OpenSpec.ofChange codedVaultsSpec)

/-- ITS FALSE NEIGHBOUR: 'it returns false'. Refute it at one input. -/
def codedVaultsWrong : ChangeSpec := { name := "codedVaults", fn := fun _ => fun
  | [d1, d2, d3] => { results := [.lit (.bool false)], args := [d1, d2, d3] }
  | _ => none }
def CodedVaultsWrongFalsely : Prop := codedVaultsRow.holds Tryz.pinned (OpenSpec.ofChange codedVaultsWrong)

/-- 'quicksilverlaw09.CodedAny': WHATEVER THE INPUT: true; the input reads as it did. -/
def codedAnySpec : ChangeSpec := { name := "codedAny", fn := fun _ => fun
  | [d1, d2, d3] => { results := [.lit (.bool true)], args := [d1, d2, d3] }
  | _ => none }
def codedAnyRow : OpenClaim := { program := "ytkdjibejnncmfaagreatdoor", sum := "eb660e7409e3c0d9c934d0d42d1eeb76166df8392e798c18e78e4669527c8faa", func := "quicksilver/quicksilverlaw09.CodedAny", spec := "codedAny", unfollowed := true, recurses := true, named := ["unicode/utf8.first", "unicode/utf8.acceptRanges"], plainKeys := false, apart := false, laid := [("unicode/utf8.acceptRanges", laid_unicode_utf8_acceptRanges), ("unicode/utf8.first", laid_unicode_utf8_first)] }
def CodedAnySaid : Prop := codedAnyRow.holds Tryz.pinned (OpenSpec.ofChange codedAnySpec)

/-- ITS FALSE NEIGHBOUR: 'it returns false'. Refute it at one input. -/
def codedAnyWrong : ChangeSpec := { name := "codedAny", fn := fun _ => fun
  | [d1, d2, d3] => { results := [.lit (.bool false)], args := [d1, d2, d3] }
  | _ => none }
def CodedAnyWrongFalsely : Prop := codedAnyRow.holds Tryz.pinned (OpenSpec.ofChange codedAnyWrong)

/- THE SECOND FORM. 'bulk': how many values and letters a reading holds, each counted each time it is reached (what is shared counts as often as it is met; a slice's spare places count too). A statement '..UptoSaid' is the law's where the arguments, and the package variables that the reading takes, are together of bulk at most 1048576: NARROWER than '..Said'. Prove '..Said' where nothing that the law and all that it calls make is longer than what came in: it says more and counts as full. Else prove '..UptoSaid'. A law counts once. -/
mutual
def uptoBulk {H : Type} : DataW H → Nat
  | .lit (.string bytes) => bytes.length + 1
  | .lit _ => 1
  | .nil => 1
  | .ptr d => uptoBulk d + 1
  | .slice elems spare => uptoBulkAll elems + uptoBulkAll spare + 1
  | .agg parts => uptoBulkAll parts + 1
  | .iface _ d => uptoBulk d + 1
  | .map entries => uptoBulkEntries entries + 1
  | .held _ => 1
def uptoBulkAll {H : Type} : List (DataW H) → Nat
  | [] => 0
  | d :: r => uptoBulk d + uptoBulkAll r
def uptoBulkEntries {H : Type} : List (Lit × DataW H) → Nat
  | [] => 0
  | x :: r => uptoBulkEntry x + uptoBulkEntries r
def uptoBulkEntry {H : Type} : Lit × DataW H → Nat
  | (.string bytes, d) => bytes.length + uptoBulk d + 1
  | (_, d) => uptoBulk d + 1
 end
def uptoSmall : (H : Type) → List (DataW H) → Bool := fun _ ds => decide (uptoBulkAll ds ≤ 1048576)
def OpenSpec.upto (s : _root_.Go.ChangeSpec) : _root_.Go.OpenSpec := { _root_.Go.OpenSpec.ofChange s with cond := some uptoSmall }

/-- 'quicksilverlaw09.CodedField', WHERE WHAT IT READS IS OF BULK AT MOST 1048576: true; the input reads as it did. -/
def codedFieldUptoRow : OpenClaim := { program := "ytkdjibejnncmfaagreatdoor", sum := "eb660e7409e3c0d9c934d0d42d1eeb76166df8392e798c18e78e4669527c8faa", func := "quicksilver/quicksilverlaw09.CodedField", spec := "codedField", unfollowed := true, recurses := true, named := ["unicode/utf8.first", "unicode/utf8.acceptRanges"], plainKeys := false, apart := false, laid := [("unicode/utf8.acceptRanges", laid_unicode_utf8_acceptRanges), ("unicode/utf8.first", laid_unicode_utf8_first)], narrowed := true }
def CodedFieldUptoSaid : Prop := codedFieldUptoRow.holds Tryz.pinned (OpenSpec.upto codedFieldSpec)

/-- 'quicksilverlaw09.CodedPieces', WHERE WHAT IT READS IS OF BULK AT MOST 1048576: true; the input reads as it did. -/
def codedPiecesUptoRow : OpenClaim := { program := "ytkdjibejnncmfaagreatdoor", sum := "eb660e7409e3c0d9c934d0d42d1eeb76166df8392e798c18e78e4669527c8faa", func := "quicksilver/quicksilverlaw09.CodedPieces", spec := "codedPieces", unfollowed := true, recurses := true, named := ["unicode/utf8.first", "unicode/utf8.acceptRanges"], plainKeys := false, apart := false, laid := [("unicode/utf8.acceptRanges", laid_unicode_utf8_acceptRanges), ("unicode/utf8.first", laid_unicode_utf8_first)], narrowed := true }
def CodedPiecesUptoSaid : Prop := codedPiecesUptoRow.holds Tryz.pinned (OpenSpec.upto codedPiecesSpec)

/-- 'quicksilverlaw09.CodedLaws', WHERE WHAT IT READS IS OF BULK AT MOST 1048576: true; the input reads as it did. -/
def codedLawsUptoRow : OpenClaim := { program := "ytkdjibejnncmfaagreatdoor", sum := "eb660e7409e3c0d9c934d0d42d1eeb76166df8392e798c18e78e4669527c8faa", func := "quicksilver/quicksilverlaw09.CodedLaws", spec := "codedLaws", unfollowed := true, recurses := true, named := ["unicode/utf8.first", "unicode/utf8.acceptRanges"], plainKeys := false, apart := false, laid := [("unicode/utf8.acceptRanges", laid_unicode_utf8_acceptRanges), ("unicode/utf8.first", laid_unicode_utf8_first)], narrowed := true }
def CodedLawsUptoSaid : Prop := codedLawsUptoRow.holds Tryz.pinned (OpenSpec.upto codedLawsSpec)

/-- 'quicksilverlaw09.CodedStraight', WHERE WHAT IT READS IS OF BULK AT MOST 1048576: true; the input reads as it did. -/
def codedStraightUptoRow : OpenClaim := { program := "ytkdjibejnncmfaagreatdoor", sum := "eb660e7409e3c0d9c934d0d42d1eeb76166df8392e798c18e78e4669527c8faa", func := "quicksilver/quicksilverlaw09.CodedStraight", spec := "codedStraight", unfollowed := true, recurses := true, named := ["unicode/utf8.first", "unicode/utf8.acceptRanges"], plainKeys := false, apart := false, laid := [("unicode/utf8.acceptRanges", laid_unicode_utf8_acceptRanges), ("unicode/utf8.first", laid_unicode_utf8_first)], narrowed := true }
def CodedStraightUptoSaid : Prop := codedStraightUptoRow.holds Tryz.pinned (OpenSpec.upto codedStraightSpec)

/-- 'quicksilverlaw09.CodedTexts', WHERE WHAT IT READS IS OF BULK AT MOST 1048576: true; the input reads as it did. -/
def codedTextsUptoRow : OpenClaim := { program := "ytkdjibejnncmfaagreatdoor", sum := "eb660e7409e3c0d9c934d0d42d1eeb76166df8392e798c18e78e4669527c8faa", func := "quicksilver/quicksilverlaw09.CodedTexts", spec := "codedTexts", unfollowed := true, recurses := true, named := ["unicode/utf8.first", "unicode/utf8.acceptRanges"], plainKeys := false, apart := false, laid := [("unicode/utf8.acceptRanges", laid_unicode_utf8_acceptRanges), ("unicode/utf8.first", laid_unicode_utf8_first)], narrowed := true }
def CodedTextsUptoSaid : Prop := codedTextsUptoRow.holds Tryz.pinned (OpenSpec.upto codedTextsSpec)

/-- 'quicksilverlaw09.CodedHeals', WHERE WHAT IT READS IS OF BULK AT MOST 1048576: true; the input reads as it did. -/
def codedHealsUptoRow : OpenClaim := { program := "ytkdjibejnncmfaagreatdoor", sum := "eb660e7409e3c0d9c934d0d42d1eeb76166df8392e798c18e78e4669527c8faa", func := "quicksilver/quicksilverlaw09.CodedHeals", spec := "codedHeals", unfollowed := true, recurses := true, named := ["unicode/utf8.first", "unicode/utf8.acceptRanges"], plainKeys := false, apart := false, laid := [("unicode/utf8.acceptRanges", laid_unicode_utf8_acceptRanges), ("unicode/utf8.first", laid_unicode_utf8_first)], narrowed := true }
def CodedHealsUptoSaid : Prop := codedHealsUptoRow.holds Tryz.pinned (OpenSpec.upto codedHealsSpec)

/-- 'quicksilverlaw09.CodedRepairs', WHERE WHAT IT READS IS OF BULK AT MOST 1048576: true; the input reads as it did. -/
def codedRepairsUptoRow : OpenClaim := { program := "ytkdjibejnncmfaagreatdoor", sum := "eb660e7409e3c0d9c934d0d42d1eeb76166df8392e798c18e78e4669527c8faa", func := "quicksilver/quicksilverlaw09.CodedRepairs", spec := "codedRepairs", unfollowed := true, recurses := true, named := ["unicode/utf8.first", "unicode/utf8.acceptRanges"], plainKeys := false, apart := false, laid := [("unicode/utf8.acceptRanges", laid_unicode_utf8_acceptRanges), ("unicode/utf8.first", laid_unicode_utf8_first)], narrowed := true }
def CodedRepairsUptoSaid : Prop := codedRepairsUptoRow.holds Tryz.pinned (OpenSpec.upto codedRepairsSpec)

/-- 'quicksilverlaw09.CodedStorms', WHERE WHAT IT READS IS OF BULK AT MOST 1048576: true; the input reads as it did. -/
def codedStormsUptoRow : OpenClaim := { program := "ytkdjibejnncmfaagreatdoor", sum := "eb660e7409e3c0d9c934d0d42d1eeb76166df8392e798c18e78e4669527c8faa", func := "quicksilver/quicksilverlaw09.CodedStorms", spec := "codedStorms", unfollowed := true, recurses := true, named := ["unicode/utf8.first", "unicode/utf8.acceptRanges"], plainKeys := false, apart := false, laid := [("unicode/utf8.acceptRanges", laid_unicode_utf8_acceptRanges), ("unicode/utf8.first", laid_unicode_utf8_first)], narrowed := true }
def CodedStormsUptoSaid : Prop := codedStormsUptoRow.holds Tryz.pinned (OpenSpec.upto codedStormsSpec)

/-- 'quicksilverlaw09.CodedDisks', WHERE WHAT IT READS IS OF BULK AT MOST 1048576: true; the input reads as it did. -/
def codedDisksUptoRow : OpenClaim := { program := "ytkdjibejnncmfaagreatdoor", sum := "eb660e7409e3c0d9c934d0d42d1eeb76166df8392e798c18e78e4669527c8faa", func := "quicksilver/quicksilverlaw09.CodedDisks", spec := "codedDisks", unfollowed := true, recurses := true, named := ["unicode/utf8.first", "unicode/utf8.acceptRanges"], plainKeys := false, apart := false, laid := [("unicode/utf8.acceptRanges", laid_unicode_utf8_acceptRanges), ("unicode/utf8.first", laid_unicode_utf8_first)], narrowed := true }
def CodedDisksUptoSaid : Prop := codedDisksUptoRow.holds Tryz.pinned (OpenSpec.upto codedDisksSpec)

/-- 'quicksilverlaw09.CodedVaults', WHERE WHAT IT READS IS OF BULK AT MOST 1048576: true; the input reads as it did. -/
def codedVaultsUptoRow : OpenClaim := { program := "ytkdjibejnncmfaagreatdoor", sum := "eb660e7409e3c0d9c934d0d42d1eeb76166df8392e798c18e78e4669527c8faa", func := "quicksilver/quicksilverlaw09.CodedVaults", spec := "codedVaults", unfollowed := true, recurses := true, named := ["unicode/utf8.first", "unicode/utf8.acceptRanges"], plainKeys := false, apart := false, laid := [("unicode/utf8.acceptRanges", laid_unicode_utf8_acceptRanges), ("unicode/utf8.first", laid_unicode_utf8_first)], narrowed := true }
def CodedVaultsUptoSaid : Prop := codedVaultsUptoRow.holds Tryz.pinned (OpenSpec.upto codedVaultsSpec)

/-- 'quicksilverlaw09.CodedAny', WHERE WHAT IT READS IS OF BULK AT MOST 1048576: true; the input reads as it did. -/
def codedAnyUptoRow : OpenClaim := { program := "ytkdjibejnncmfaagreatdoor", sum := "eb660e7409e3c0d9c934d0d42d1eeb76166df8392e798c18e78e4669527c8faa", func := "quicksilver/quicksilverlaw09.CodedAny", spec := "codedAny", unfollowed := true, recurses := true, named := ["unicode/utf8.first", "unicode/utf8.acceptRanges"], plainKeys := false, apart := false, laid := [("unicode/utf8.acceptRanges", laid_unicode_utf8_acceptRanges), ("unicode/utf8.first", laid_unicode_utf8_first)], narrowed := true }
def CodedAnyUptoSaid : Prop := codedAnyUptoRow.holds Tryz.pinned (OpenSpec.upto codedAnySpec)

end Rows
end Go.Proofs.YtkdjibejnncmfaaGreatDoor
