/-
  DERIVED. GIVEN WITH THE SEED: THE CARDS: each row of YtieifhfgedoiaaaDoorRows.lean that lists a variable, with what it lists TIED to the program's text (the seventh form; the later family's looks); each row that meets fmt, with fmt's text TOLD by the authors' own Lean function (tested against real Go, not proved from fmt's source: count such statements apart). THE CARD IS WHAT COUNTS. Prove the row's statement (the work); the ties are given (YtieifhfgedoiaaaDoorTie.lean); close each card by the builder's one call (the guide's Derived/Test/ToyasCard.lean, 'card_holds'). Laid BY PROGRAM, IN A SANDBOX (cutbox-door.mjs). By AI agents, Wed Nov 11 2026. No macro, syntax, notation, axiom, sorry.
-/
import Derived.Test.YtieifhfgedoiaaaDoorRows
import GoSem.ClaimSeven
namespace Go.Proofs.YtieifhfgedoiaaaDoor
namespace Rows

/-- THE TIED CARD OF 'canticlelaw09.RuleReads'. -/
def ruleReadsCard : Claim7 := { stood := { row := ruleReadsRow, standIns := [], harness := (true, "0d8d3e6e1e0d5e546de98fccaef137a5fccc8dac655142315024293a1657ffbf"), looks := false }, kinds := [], alts := [], laidByText := true, laidKinds := [.data, .pinned], laidTests := true, laidLooks := .later }
def RuleReadsCardSaid : Prop := Claim7.holds Tryd.pinned (.plain (OpenSpec.ofChange ruleReadsSpec)) ruleReadsCard

/-- THE TIED CARD OF 'canticlelaw09.RuleFits'. -/
def ruleFitsCard : Claim7 := { stood := { row := ruleFitsRow, standIns := [], harness := (true, "0d8d3e6e1e0d5e546de98fccaef137a5fccc8dac655142315024293a1657ffbf"), looks := false }, kinds := [], alts := [], laidByText := true, laidKinds := [.data, .pinned], laidTests := true, laidLooks := .later }
def RuleFitsCardSaid : Prop := Claim7.holds Tryd.pinned (.plain (OpenSpec.ofChange ruleFitsSpec)) ruleFitsCard

/-- THE TIED CARD OF 'canticlelaw09.RuleSounds'. -/
def ruleSoundsCard : Claim7 := { stood := { row := ruleSoundsRow, standIns := [], harness := (true, "0d8d3e6e1e0d5e546de98fccaef137a5fccc8dac655142315024293a1657ffbf"), looks := false }, kinds := [], alts := [], laidByText := true, laidKinds := [.data, .pinned], laidTests := true, laidLooks := .later }
def RuleSoundsCardSaid : Prop := Claim7.holds Tryd.pinned (.plain (OpenSpec.ofChange ruleSoundsSpec)) ruleSoundsCard

/-- THE TIED CARD OF 'canticlelaw09.RuleCover'. -/
def ruleCoverCard : Claim7 := { stood := { row := ruleCoverRow, standIns := [], harness := (true, "0d8d3e6e1e0d5e546de98fccaef137a5fccc8dac655142315024293a1657ffbf"), looks := false }, kinds := [], alts := [], laidByText := true, laidKinds := [.data, .pinned], laidTests := true, laidLooks := .later }
def RuleCoverCardSaid : Prop := Claim7.holds Tryd.pinned (.plain (OpenSpec.ofChange ruleCoverSpec)) ruleCoverCard

/-- THE TIED CARD OF 'canticlelaw09.RuleBack'. -/
def ruleBackCard : Claim7 := { stood := { row := ruleBackRow, standIns := [], harness := (true, "0d8d3e6e1e0d5e546de98fccaef137a5fccc8dac655142315024293a1657ffbf"), looks := false }, kinds := [], alts := [], laidByText := true, laidKinds := [.data, .pinned], laidTests := true, laidLooks := .later }
def RuleBackCardSaid : Prop := Claim7.holds Tryd.pinned (.plain (OpenSpec.ofChange ruleBackSpec)) ruleBackCard

/-- THE TIED CARD OF 'canticlelaw09.RuleCovers'. -/
def ruleCoversCard : Claim7 := { stood := { row := ruleCoversRow, standIns := [], harness := (true, "0d8d3e6e1e0d5e546de98fccaef137a5fccc8dac655142315024293a1657ffbf"), looks := false }, kinds := [], alts := [], laidByText := true, laidKinds := [.data, .pinned], laidTests := true, laidLooks := .later }
def RuleCoversCardSaid : Prop := Claim7.holds Tryd.pinned (.plain (OpenSpec.ofChange ruleCoversSpec)) ruleCoversCard

/-- THE TIED CARD OF 'canticlelaw09.RuleAlive'. -/
def ruleAliveCard : Claim7 := { stood := { row := ruleAliveRow, standIns := [], harness := (true, "0d8d3e6e1e0d5e546de98fccaef137a5fccc8dac655142315024293a1657ffbf"), looks := false }, kinds := [], alts := [], laidByText := true, laidKinds := [.data, .pinned], laidTests := true, laidLooks := .later }
def RuleAliveCardSaid : Prop := Claim7.holds Tryd.pinned (.plain (OpenSpec.ofChange ruleAliveSpec)) ruleAliveCard

/-- THE TIED CARD OF 'canticlelaw09.RuleNames'. -/
def ruleNamesCard : Claim7 := { stood := { row := ruleNamesRow, standIns := [], harness := (true, "0d8d3e6e1e0d5e546de98fccaef137a5fccc8dac655142315024293a1657ffbf"), looks := false }, kinds := [], alts := [], laidByText := true, laidKinds := [.data, .pinned], laidTests := true, laidLooks := .later }
def RuleNamesCardSaid : Prop := Claim7.holds Tryd.pinned (.plain (OpenSpec.ofChange ruleNamesSpec)) ruleNamesCard

/-- THE SECOND FORM's CARD OF 'canticlelaw09.RuleReads'. -/
def ruleReadsUptoCard : Claim7 := { stood := { row := ruleReadsUptoRow, standIns := [], harness := (true, "0d8d3e6e1e0d5e546de98fccaef137a5fccc8dac655142315024293a1657ffbf"), looks := false }, kinds := [], alts := [], laidByText := true, laidKinds := [.data, .pinned], laidTests := true, laidLooks := .later }
def RuleReadsUptoCardSaid : Prop := Claim7.holds Tryd.pinned (.plain (OpenSpec.upto ruleReadsSpec)) ruleReadsUptoCard

/-- THE SECOND FORM's CARD OF 'canticlelaw09.RuleFits'. -/
def ruleFitsUptoCard : Claim7 := { stood := { row := ruleFitsUptoRow, standIns := [], harness := (true, "0d8d3e6e1e0d5e546de98fccaef137a5fccc8dac655142315024293a1657ffbf"), looks := false }, kinds := [], alts := [], laidByText := true, laidKinds := [.data, .pinned], laidTests := true, laidLooks := .later }
def RuleFitsUptoCardSaid : Prop := Claim7.holds Tryd.pinned (.plain (OpenSpec.upto ruleFitsSpec)) ruleFitsUptoCard

/-- THE SECOND FORM's CARD OF 'canticlelaw09.RuleSounds'. -/
def ruleSoundsUptoCard : Claim7 := { stood := { row := ruleSoundsUptoRow, standIns := [], harness := (true, "0d8d3e6e1e0d5e546de98fccaef137a5fccc8dac655142315024293a1657ffbf"), looks := false }, kinds := [], alts := [], laidByText := true, laidKinds := [.data, .pinned], laidTests := true, laidLooks := .later }
def RuleSoundsUptoCardSaid : Prop := Claim7.holds Tryd.pinned (.plain (OpenSpec.upto ruleSoundsSpec)) ruleSoundsUptoCard

/-- THE SECOND FORM's CARD OF 'canticlelaw09.RuleCover'. -/
def ruleCoverUptoCard : Claim7 := { stood := { row := ruleCoverUptoRow, standIns := [], harness := (true, "0d8d3e6e1e0d5e546de98fccaef137a5fccc8dac655142315024293a1657ffbf"), looks := false }, kinds := [], alts := [], laidByText := true, laidKinds := [.data, .pinned], laidTests := true, laidLooks := .later }
def RuleCoverUptoCardSaid : Prop := Claim7.holds Tryd.pinned (.plain (OpenSpec.upto ruleCoverSpec)) ruleCoverUptoCard

/-- THE SECOND FORM's CARD OF 'canticlelaw09.RuleBack'. -/
def ruleBackUptoCard : Claim7 := { stood := { row := ruleBackUptoRow, standIns := [], harness := (true, "0d8d3e6e1e0d5e546de98fccaef137a5fccc8dac655142315024293a1657ffbf"), looks := false }, kinds := [], alts := [], laidByText := true, laidKinds := [.data, .pinned], laidTests := true, laidLooks := .later }
def RuleBackUptoCardSaid : Prop := Claim7.holds Tryd.pinned (.plain (OpenSpec.upto ruleBackSpec)) ruleBackUptoCard

/-- THE SECOND FORM's CARD OF 'canticlelaw09.RuleCovers'. -/
def ruleCoversUptoCard : Claim7 := { stood := { row := ruleCoversUptoRow, standIns := [], harness := (true, "0d8d3e6e1e0d5e546de98fccaef137a5fccc8dac655142315024293a1657ffbf"), looks := false }, kinds := [], alts := [], laidByText := true, laidKinds := [.data, .pinned], laidTests := true, laidLooks := .later }
def RuleCoversUptoCardSaid : Prop := Claim7.holds Tryd.pinned (.plain (OpenSpec.upto ruleCoversSpec)) ruleCoversUptoCard

/-- THE SECOND FORM's CARD OF 'canticlelaw09.RuleAlive'. -/
def ruleAliveUptoCard : Claim7 := { stood := { row := ruleAliveUptoRow, standIns := [], harness := (true, "0d8d3e6e1e0d5e546de98fccaef137a5fccc8dac655142315024293a1657ffbf"), looks := false }, kinds := [], alts := [], laidByText := true, laidKinds := [.data, .pinned], laidTests := true, laidLooks := .later }
def RuleAliveUptoCardSaid : Prop := Claim7.holds Tryd.pinned (.plain (OpenSpec.upto ruleAliveSpec)) ruleAliveUptoCard

/-- THE SECOND FORM's CARD OF 'canticlelaw09.RuleNames'. -/
def ruleNamesUptoCard : Claim7 := { stood := { row := ruleNamesUptoRow, standIns := [], harness := (true, "0d8d3e6e1e0d5e546de98fccaef137a5fccc8dac655142315024293a1657ffbf"), looks := false }, kinds := [], alts := [], laidByText := true, laidKinds := [.data, .pinned], laidTests := true, laidLooks := .later }
def RuleNamesUptoCardSaid : Prop := Claim7.holds Tryd.pinned (.plain (OpenSpec.upto ruleNamesSpec)) ruleNamesUptoCard
end Rows
end Go.Proofs.YtieifhfgedoiaaaDoor
