/-
  DERIVED. GIVEN WITH THE SEED: THE CARDS: each row of YtmpkfpabejpbkaaGreatDoorRows.lean that lists a variable, with what it lists TIED to the program's text (the seventh form; the later family's looks); each row that meets fmt, with fmt's text TOLD by the authors' own Lean function (tested against real Go, not proved from fmt's source: count such statements apart). THE CARD IS WHAT COUNTS. Prove the row's statement (the work); the ties are given (YtmpkfpabejpbkaaGreatDoorTie.lean); close each card by the builder's one call (the guide's Derived/Test/ToyasCard.lean, 'card_holds'). Laid BY PROGRAM, IN A SANDBOX (cutbox-door.mjs). By AI agents, Wed Nov 11 2026. No macro, syntax, notation, axiom, sorry.
-/
import Derived.Test.YtmpkfpabejpbkaaGreatDoorRows
import GoSem.ClaimSeven
namespace Go.Proofs.YtmpkfpabejpbkaaGreatDoor
namespace Rows

/-- THE TIED CARD OF 'canticlelaw20.CountPoems'. -/
def countPoemsCard : Claim7 := { stood := { row := countPoemsRow, standIns := [], harness := (true, "ee4638a9d6953e1e2974289ab44041006ae13e370855a539b31d72e3bc310ddb"), looks := false }, kinds := [], alts := [], laidByText := true, laidKinds := [.data, .pinned], laidTests := true, laidLooks := .later }
def CountPoemsCardSaid : Prop := Claim7.holds Tryz.pinned (.plain (OpenSpec.ofChange countPoemsSpec)) countPoemsCard

/-- THE SECOND FORM's CARD OF 'canticlelaw20.CountPoems'. -/
def countPoemsUptoCard : Claim7 := { stood := { row := countPoemsUptoRow, standIns := [], harness := (true, "ee4638a9d6953e1e2974289ab44041006ae13e370855a539b31d72e3bc310ddb"), looks := false }, kinds := [], alts := [], laidByText := true, laidKinds := [.data, .pinned], laidTests := true, laidLooks := .later }
def CountPoemsUptoCardSaid : Prop := Claim7.holds Tryz.pinned (.plain (OpenSpec.upto countPoemsSpec)) countPoemsUptoCard
end Rows
end Go.Proofs.YtmpkfpabejpbkaaGreatDoor
