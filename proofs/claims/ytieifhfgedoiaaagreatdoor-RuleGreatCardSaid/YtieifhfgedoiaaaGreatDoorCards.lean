/-
  DERIVED. GIVEN WITH THE SEED: THE CARDS: each row of YtieifhfgedoiaaaGreatDoorRows.lean that lists a variable, with what it lists TIED to the program's text (the seventh form; the later family's looks); each row that meets fmt, with fmt's text TOLD by the authors' own Lean function (tested against real Go, not proved from fmt's source: count such statements apart). THE CARD IS WHAT COUNTS. Prove the row's statement (the work); the ties are given (YtieifhfgedoiaaaGreatDoorTie.lean); close each card by the builder's one call (the guide's Derived/Test/ToyasCard.lean, 'card_holds'). Laid BY PROGRAM, IN A SANDBOX (cutbox-door.mjs). By AI agents, Wed Nov 11 2026. No macro, syntax, notation, axiom, sorry.
-/
import Derived.Test.YtieifhfgedoiaaaGreatDoorRows
import GoSem.ClaimSeven
namespace Go.Proofs.YtieifhfgedoiaaaGreatDoor
namespace Rows

/-- THE TIED CARD OF 'canticlelaw09.RuleGreat'. -/
def ruleGreatCard : Claim7 := { stood := { row := ruleGreatRow, standIns := [], harness := (true, "bd29505e166d2e6458111e79f3ac1ce2c681be1a2289c7e0aade65faeaeeff8a"), looks := false }, kinds := [], alts := [], laidByText := true, laidKinds := [.data, .pinned], laidTests := true, laidLooks := .later }
def RuleGreatCardSaid : Prop := Claim7.holds Tryz.pinned (.plain (OpenSpec.ofChange ruleGreatSpec)) ruleGreatCard

/-- THE SECOND FORM's CARD OF 'canticlelaw09.RuleGreat'. -/
def ruleGreatUptoCard : Claim7 := { stood := { row := ruleGreatUptoRow, standIns := [], harness := (true, "bd29505e166d2e6458111e79f3ac1ce2c681be1a2289c7e0aade65faeaeeff8a"), looks := false }, kinds := [], alts := [], laidByText := true, laidKinds := [.data, .pinned], laidTests := true, laidLooks := .later }
def RuleGreatUptoCardSaid : Prop := Claim7.holds Tryz.pinned (.plain (OpenSpec.upto ruleGreatSpec)) ruleGreatUptoCard
end Rows
end Go.Proofs.YtieifhfgedoiaaaGreatDoor
