/-
  DERIVED. GIVEN WITH THE SEED: THE CARDS: each row of YteodfondjogmoaaGreatDoorRows.lean that lists a variable, with what it lists TIED to the program's text (the seventh form; the later family's looks); each row that meets fmt, with fmt's text TOLD by the authors' own Lean function (tested against real Go, not proved from fmt's source: count such statements apart). THE CARD IS WHAT COUNTS. Prove the row's statement (the work); the ties are given (YteodfondjogmoaaGreatDoorTie.lean); close each card by the builder's one call (the guide's Derived/Test/ToyasCard.lean, 'card_holds'). Laid BY PROGRAM, IN A SANDBOX (cutbox-door.mjs). By AI agents, Wed Nov 11 2026. No macro, syntax, notation, axiom, sorry.
-/
import Derived.Test.YteodfondjogmoaaGreatDoorRows
import GoSem.ClaimSeven
namespace Go.Proofs.YteodfondjogmoaaGreatDoor
namespace Rows

/-- THE TIED CARD OF 'canticlelaw21.ConcordNear'. -/
def concordNearCard : Claim7 := { stood := { row := concordNearRow, standIns := [], harness := (true, "c65937f532aa189ca7ec8876911f226457a61883bb3cd877ad0e38783083099d"), looks := false }, kinds := [], alts := [], laidByText := true, laidKinds := [.data, .pinned], laidTests := true, laidLooks := .later }
def ConcordNearCardSaid : Prop := Claim7.holds Tryz.pinned (.plain (OpenSpec.ofChange concordNearSpec)) concordNearCard

/-- THE TIED CARD OF 'canticlelaw21.ConcordLines'. -/
def concordLinesCard : Claim7 := { stood := { row := concordLinesRow, standIns := [], harness := (true, "c65937f532aa189ca7ec8876911f226457a61883bb3cd877ad0e38783083099d"), looks := false }, kinds := [], alts := [], laidByText := true, laidKinds := [.data, .pinned], laidTests := true, laidLooks := .later }
def ConcordLinesCardSaid : Prop := Claim7.holds Tryz.pinned (.plain (OpenSpec.ofChange concordLinesSpec)) concordLinesCard

/-- THE TIED CARD OF 'canticlelaw21.ConcordWords'. -/
def concordWordsCard : Claim7 := { stood := { row := concordWordsRow, standIns := [], harness := (true, "c65937f532aa189ca7ec8876911f226457a61883bb3cd877ad0e38783083099d"), looks := false }, kinds := [], alts := [], laidByText := true, laidKinds := [.data, .pinned], laidTests := true, laidLooks := .later }
def ConcordWordsCardSaid : Prop := Claim7.holds Tryz.pinned (.plain (OpenSpec.ofChange concordWordsSpec)) concordWordsCard

/-- THE TIED CARD OF 'canticlelaw21.ConcordSuch'. -/
def concordSuchCard : Claim7 := { stood := { row := concordSuchRow, standIns := [], harness := (true, "c65937f532aa189ca7ec8876911f226457a61883bb3cd877ad0e38783083099d"), looks := false }, kinds := [], alts := [], laidByText := true, laidKinds := [.data, .pinned], laidTests := true, laidLooks := .later }
def ConcordSuchCardSaid : Prop := Claim7.holds Tryz.pinned (.plain (OpenSpec.ofChange concordSuchSpec)) concordSuchCard

/-- THE TIED CARD OF 'canticlelaw21.ConcordPhrases'. -/
def concordPhrasesCard : Claim7 := { stood := { row := concordPhrasesRow, standIns := [], harness := (true, "c65937f532aa189ca7ec8876911f226457a61883bb3cd877ad0e38783083099d"), looks := false }, kinds := [], alts := [], laidByText := true, laidKinds := [.data, .pinned], laidTests := true, laidLooks := .later }
def ConcordPhrasesCardSaid : Prop := Claim7.holds Tryz.pinned (.plain (OpenSpec.ofChange concordPhrasesSpec)) concordPhrasesCard

/-- THE TIED CARD OF 'canticlelaw21.ConcordJoins'. -/
def concordJoinsCard : Claim7 := { stood := { row := concordJoinsRow, standIns := [], harness := (true, "c65937f532aa189ca7ec8876911f226457a61883bb3cd877ad0e38783083099d"), looks := false }, kinds := [], alts := [], laidByText := true, laidKinds := [.data, .pinned], laidTests := true, laidLooks := .later }
def ConcordJoinsCardSaid : Prop := Claim7.holds Tryz.pinned (.plain (OpenSpec.ofChange concordJoinsSpec)) concordJoinsCard

/-- THE TIED CARD OF 'canticlelaw21.ConcordAt'. -/
def concordAtCard : Claim7 := { stood := { row := concordAtRow, standIns := [], harness := (true, "c65937f532aa189ca7ec8876911f226457a61883bb3cd877ad0e38783083099d"), looks := false }, kinds := [], alts := [], laidByText := true, laidKinds := [.data, .pinned], laidTests := true, laidLooks := .later }
def ConcordAtCardSaid : Prop := Claim7.holds Tryz.pinned (.plain (OpenSpec.ofChange concordAtSpec)) concordAtCard

/-- THE TIED CARD OF 'canticlelaw21.ConcordAround'. -/
def concordAroundCard : Claim7 := { stood := { row := concordAroundRow, standIns := [], harness := (true, "c65937f532aa189ca7ec8876911f226457a61883bb3cd877ad0e38783083099d"), looks := false }, kinds := [], alts := [], laidByText := true, laidKinds := [.data, .pinned], laidTests := true, laidLooks := .later }
def ConcordAroundCardSaid : Prop := Claim7.holds Tryz.pinned (.plain (OpenSpec.ofChange concordAroundSpec)) concordAroundCard

/-- THE TIED CARD OF 'canticlelaw21.ConcordAsked'. -/
def concordAskedCard : Claim7 := { stood := { row := concordAskedRow, standIns := [], harness := (true, "c65937f532aa189ca7ec8876911f226457a61883bb3cd877ad0e38783083099d"), looks := false }, kinds := [], alts := [], laidByText := true, laidKinds := [.data, .pinned], laidTests := true, laidLooks := .later }
def ConcordAskedCardSaid : Prop := Claim7.holds Tryz.pinned (.plain (OpenSpec.ofChange concordAskedSpec)) concordAskedCard

/-- THE TIED CARD OF 'canticletop.TopConcord'. -/
def topConcordCard : Claim7 := { stood := { row := topConcordRow, standIns := [], harness := (true, "c65937f532aa189ca7ec8876911f226457a61883bb3cd877ad0e38783083099d"), looks := false }, kinds := [], alts := [], laidByText := true, laidKinds := [.data, .pinned], laidTests := true, laidLooks := .later }
def TopConcordCardSaid : Prop := Claim7.holds Tryz.pinned (.plain (OpenSpec.ofChange topConcordSpec)) topConcordCard

/-- THE SECOND FORM's CARD OF 'canticlelaw21.ConcordNear'. -/
def concordNearUptoCard : Claim7 := { stood := { row := concordNearUptoRow, standIns := [], harness := (true, "c65937f532aa189ca7ec8876911f226457a61883bb3cd877ad0e38783083099d"), looks := false }, kinds := [], alts := [], laidByText := true, laidKinds := [.data, .pinned], laidTests := true, laidLooks := .later }
def ConcordNearUptoCardSaid : Prop := Claim7.holds Tryz.pinned (.plain (OpenSpec.upto concordNearSpec)) concordNearUptoCard

/-- THE SECOND FORM's CARD OF 'canticlelaw21.ConcordLines'. -/
def concordLinesUptoCard : Claim7 := { stood := { row := concordLinesUptoRow, standIns := [], harness := (true, "c65937f532aa189ca7ec8876911f226457a61883bb3cd877ad0e38783083099d"), looks := false }, kinds := [], alts := [], laidByText := true, laidKinds := [.data, .pinned], laidTests := true, laidLooks := .later }
def ConcordLinesUptoCardSaid : Prop := Claim7.holds Tryz.pinned (.plain (OpenSpec.upto concordLinesSpec)) concordLinesUptoCard

/-- THE SECOND FORM's CARD OF 'canticlelaw21.ConcordWords'. -/
def concordWordsUptoCard : Claim7 := { stood := { row := concordWordsUptoRow, standIns := [], harness := (true, "c65937f532aa189ca7ec8876911f226457a61883bb3cd877ad0e38783083099d"), looks := false }, kinds := [], alts := [], laidByText := true, laidKinds := [.data, .pinned], laidTests := true, laidLooks := .later }
def ConcordWordsUptoCardSaid : Prop := Claim7.holds Tryz.pinned (.plain (OpenSpec.upto concordWordsSpec)) concordWordsUptoCard

/-- THE SECOND FORM's CARD OF 'canticlelaw21.ConcordSuch'. -/
def concordSuchUptoCard : Claim7 := { stood := { row := concordSuchUptoRow, standIns := [], harness := (true, "c65937f532aa189ca7ec8876911f226457a61883bb3cd877ad0e38783083099d"), looks := false }, kinds := [], alts := [], laidByText := true, laidKinds := [.data, .pinned], laidTests := true, laidLooks := .later }
def ConcordSuchUptoCardSaid : Prop := Claim7.holds Tryz.pinned (.plain (OpenSpec.upto concordSuchSpec)) concordSuchUptoCard

/-- THE SECOND FORM's CARD OF 'canticlelaw21.ConcordPhrases'. -/
def concordPhrasesUptoCard : Claim7 := { stood := { row := concordPhrasesUptoRow, standIns := [], harness := (true, "c65937f532aa189ca7ec8876911f226457a61883bb3cd877ad0e38783083099d"), looks := false }, kinds := [], alts := [], laidByText := true, laidKinds := [.data, .pinned], laidTests := true, laidLooks := .later }
def ConcordPhrasesUptoCardSaid : Prop := Claim7.holds Tryz.pinned (.plain (OpenSpec.upto concordPhrasesSpec)) concordPhrasesUptoCard

/-- THE SECOND FORM's CARD OF 'canticlelaw21.ConcordJoins'. -/
def concordJoinsUptoCard : Claim7 := { stood := { row := concordJoinsUptoRow, standIns := [], harness := (true, "c65937f532aa189ca7ec8876911f226457a61883bb3cd877ad0e38783083099d"), looks := false }, kinds := [], alts := [], laidByText := true, laidKinds := [.data, .pinned], laidTests := true, laidLooks := .later }
def ConcordJoinsUptoCardSaid : Prop := Claim7.holds Tryz.pinned (.plain (OpenSpec.upto concordJoinsSpec)) concordJoinsUptoCard

/-- THE SECOND FORM's CARD OF 'canticlelaw21.ConcordAt'. -/
def concordAtUptoCard : Claim7 := { stood := { row := concordAtUptoRow, standIns := [], harness := (true, "c65937f532aa189ca7ec8876911f226457a61883bb3cd877ad0e38783083099d"), looks := false }, kinds := [], alts := [], laidByText := true, laidKinds := [.data, .pinned], laidTests := true, laidLooks := .later }
def ConcordAtUptoCardSaid : Prop := Claim7.holds Tryz.pinned (.plain (OpenSpec.upto concordAtSpec)) concordAtUptoCard

/-- THE SECOND FORM's CARD OF 'canticlelaw21.ConcordAround'. -/
def concordAroundUptoCard : Claim7 := { stood := { row := concordAroundUptoRow, standIns := [], harness := (true, "c65937f532aa189ca7ec8876911f226457a61883bb3cd877ad0e38783083099d"), looks := false }, kinds := [], alts := [], laidByText := true, laidKinds := [.data, .pinned], laidTests := true, laidLooks := .later }
def ConcordAroundUptoCardSaid : Prop := Claim7.holds Tryz.pinned (.plain (OpenSpec.upto concordAroundSpec)) concordAroundUptoCard

/-- THE SECOND FORM's CARD OF 'canticlelaw21.ConcordAsked'. -/
def concordAskedUptoCard : Claim7 := { stood := { row := concordAskedUptoRow, standIns := [], harness := (true, "c65937f532aa189ca7ec8876911f226457a61883bb3cd877ad0e38783083099d"), looks := false }, kinds := [], alts := [], laidByText := true, laidKinds := [.data, .pinned], laidTests := true, laidLooks := .later }
def ConcordAskedUptoCardSaid : Prop := Claim7.holds Tryz.pinned (.plain (OpenSpec.upto concordAskedSpec)) concordAskedUptoCard

/-- THE SECOND FORM's CARD OF 'canticletop.TopConcord'. -/
def topConcordUptoCard : Claim7 := { stood := { row := topConcordUptoRow, standIns := [], harness := (true, "c65937f532aa189ca7ec8876911f226457a61883bb3cd877ad0e38783083099d"), looks := false }, kinds := [], alts := [], laidByText := true, laidKinds := [.data, .pinned], laidTests := true, laidLooks := .later }
def TopConcordUptoCardSaid : Prop := Claim7.holds Tryz.pinned (.plain (OpenSpec.upto topConcordSpec)) topConcordUptoCard
end Rows
end Go.Proofs.YteodfondjogmoaaGreatDoor
