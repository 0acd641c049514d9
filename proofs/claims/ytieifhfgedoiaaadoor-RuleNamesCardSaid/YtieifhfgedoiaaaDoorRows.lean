/-
  NARROWER THAN 'FOR EVERY INPUT', by the rows' own cells (each row's printed sentence says how): RuleReads: laid · RuleFits: laid · RuleSounds: laid · RuleCover: laid · RuleBack: laid · RuleCovers: laid · RuleAlive: laid · RuleNames: laid.
  DERIVED. THE GIVEN ROWS OF THIS SEAT. 8 by the template 'for every input the law returns true; each argument reads behind the call as it read before'; 0 by the template 'total and deterministic' (their statements: YtieifhfgedoiaaaDoorTotals.lean).
  GIVEN WITH THE SEED: the statements are not yours to turn. If you find one false, say at which input.
  Laid BY PROGRAM, IN A SANDBOX (cutbox-rows.mjs): the forced cells as the released guide's own fill.sh prints them over the translation 281298c97b993955… (all of the seat's roots in one cut). By AI agents, Wed Nov 11 2026. No macro, syntax, notation, axiom, sorry.
-/
import Derived.Test.YtieifhfgedoiaaaDoorChecked
import GoSem.PinnedTables
import GoSem.Claim
import GoSem.ClaimJoined
import GoSem.ClaimMapViews
import Derived.JoinedTies
import Derived.KernelRfl
namespace Go.Proofs.YtieifhfgedoiaaaDoor
/- THE CELL 'sum', in the pinned program and in every row, IS THE sha256 OF THE DUMP (.gsa) THAT YtieifhfgedoiaaaDoorProg.lean LOADS. Nothing in Lean hashes anything: it is a label: what it is worth is what the hold of that sum in a sandbox is worth. -/
noncomputable def Tryd.pinned : Pinned := { name := "ytieifhfgedoiaaadoor", sum := "281298c97b993955f3d67157ab1b17c90d21641a39cf90f30a51f3bc70b9ae9a", checked := Tryd.checked }
namespace Rows
def none {H : Type} : Left H := { results := [], args := [] }

/- WHAT THE LISTED PACKAGE-LEVEL VARIABLES READ AS WHEN THE CALL BEGINS. Each datum BY PROGRAM (the guide's laid-datum.mjs) off the statement by which the dump's own 'gosem.cut.vars' lays the variable. In a bare row this is a premise. The card (YtieifhfgedoiaaaDoorCards.lean) ties it to the program's text. -/
def laid_unicode_utf8_acceptRanges {H : Type} : DataW H := .agg [.agg [.lit (.int .u8 128), .lit (.int .u8 191)], .agg [.lit (.int .u8 160), .lit (.int .u8 191)], .agg [.lit (.int .u8 128), .lit (.int .u8 159)], .agg [.lit (.int .u8 144), .lit (.int .u8 191)], .agg [.lit (.int .u8 128), .lit (.int .u8 143)], .agg [.lit (.int .u8 0), .lit (.int .u8 0)], .agg [.lit (.int .u8 0), .lit (.int .u8 0)], .agg [.lit (.int .u8 0), .lit (.int .u8 0)], .agg [.lit (.int .u8 0), .lit (.int .u8 0)], .agg [.lit (.int .u8 0), .lit (.int .u8 0)], .agg [.lit (.int .u8 0), .lit (.int .u8 0)], .agg [.lit (.int .u8 0), .lit (.int .u8 0)], .agg [.lit (.int .u8 0), .lit (.int .u8 0)], .agg [.lit (.int .u8 0), .lit (.int .u8 0)], .agg [.lit (.int .u8 0), .lit (.int .u8 0)], .agg [.lit (.int .u8 0), .lit (.int .u8 0)]]
/-- One of Go's own tables, pinned by name: the form's constant. -/
def laid_unicode_utf8_first : DataW Unit := Go.Pinned.utf8First

/-- 'canticlelaw09.RuleReads': WHATEVER THE INPUT: true; the input reads as it did. -/
def ruleReadsSpec : ChangeSpec := { name := "ruleReads", fn := fun _ => fun
  | [d] => { results := [.lit (.bool true)], args := [d] }
  | _ => none }
def ruleReadsRow : OpenClaim := { program := "ytieifhfgedoiaaadoor", sum := "281298c97b993955f3d67157ab1b17c90d21641a39cf90f30a51f3bc70b9ae9a", func := "canticle/canticlelaw09.RuleReads", spec := "ruleReads", inPlace := ["internal/bytealg.CountString", "internal/bytealg.IndexByteString", "internal/bytealg.IndexString", "internal/abi.NoEscape"], unfollowed := true, recurses := true, named := ["unicode/utf8.first", "unicode/utf8.acceptRanges", "internal/bytealg.MaxLen"], plainKeys := false, apart := false, laid := [("unicode/utf8.acceptRanges", laid_unicode_utf8_acceptRanges), ("unicode/utf8.first", laid_unicode_utf8_first)] }
def RuleReadsSaid : Prop := ruleReadsRow.holds Tryd.pinned (OpenSpec.ofChange ruleReadsSpec)

/-- ITS FALSE NEIGHBOUR: 'it returns false'. Refute it at one input. -/
def ruleReadsWrong : ChangeSpec := { name := "ruleReads", fn := fun _ => fun
  | [d] => { results := [.lit (.bool false)], args := [d] }
  | _ => none }
def RuleReadsWrongFalsely : Prop := ruleReadsRow.holds Tryd.pinned (OpenSpec.ofChange ruleReadsWrong)

/-- 'canticlelaw09.RuleFits': WHATEVER THE INPUT: true; the input reads as it did. -/
def ruleFitsSpec : ChangeSpec := { name := "ruleFits", fn := fun _ => fun
  | [d1, d2] => { results := [.lit (.bool true)], args := [d1, d2] }
  | _ => none }
def ruleFitsRow : OpenClaim := { program := "ytieifhfgedoiaaadoor", sum := "281298c97b993955f3d67157ab1b17c90d21641a39cf90f30a51f3bc70b9ae9a", func := "canticle/canticlelaw09.RuleFits", spec := "ruleFits", inPlace := ["internal/bytealg.CountString", "internal/bytealg.IndexByteString", "internal/bytealg.IndexString"], unfollowed := true, recurses := true, named := ["unicode/utf8.first", "unicode/utf8.acceptRanges", "internal/bytealg.MaxLen"], plainKeys := false, apart := false, laid := [("unicode/utf8.acceptRanges", laid_unicode_utf8_acceptRanges), ("unicode/utf8.first", laid_unicode_utf8_first)] }
def RuleFitsSaid : Prop := ruleFitsRow.holds Tryd.pinned (OpenSpec.ofChange ruleFitsSpec)

/-- ITS FALSE NEIGHBOUR: 'it returns false'. Refute it at one input. -/
def ruleFitsWrong : ChangeSpec := { name := "ruleFits", fn := fun _ => fun
  | [d1, d2] => { results := [.lit (.bool false)], args := [d1, d2] }
  | _ => none }
def RuleFitsWrongFalsely : Prop := ruleFitsRow.holds Tryd.pinned (OpenSpec.ofChange ruleFitsWrong)

/-- 'canticlelaw09.RuleSounds': WHATEVER THE INPUT: true; the input reads as it did. -/
def ruleSoundsSpec : ChangeSpec := { name := "ruleSounds", fn := fun _ => fun
  | [d1, d2] => { results := [.lit (.bool true)], args := [d1, d2] }
  | _ => none }
def ruleSoundsRow : OpenClaim := { program := "ytieifhfgedoiaaadoor", sum := "281298c97b993955f3d67157ab1b17c90d21641a39cf90f30a51f3bc70b9ae9a", func := "canticle/canticlelaw09.RuleSounds", spec := "ruleSounds", inPlace := ["internal/bytealg.CountString", "internal/bytealg.IndexByteString", "internal/bytealg.IndexString"], unfollowed := true, recurses := true, named := ["unicode/utf8.first", "unicode/utf8.acceptRanges", "internal/bytealg.MaxLen"], plainKeys := false, apart := false, laid := [("unicode/utf8.acceptRanges", laid_unicode_utf8_acceptRanges), ("unicode/utf8.first", laid_unicode_utf8_first)] }
def RuleSoundsSaid : Prop := ruleSoundsRow.holds Tryd.pinned (OpenSpec.ofChange ruleSoundsSpec)

/-- ITS FALSE NEIGHBOUR: 'it returns false'. Refute it at one input. -/
def ruleSoundsWrong : ChangeSpec := { name := "ruleSounds", fn := fun _ => fun
  | [d1, d2] => { results := [.lit (.bool false)], args := [d1, d2] }
  | _ => none }
def RuleSoundsWrongFalsely : Prop := ruleSoundsRow.holds Tryd.pinned (OpenSpec.ofChange ruleSoundsWrong)

/-- 'canticlelaw09.RuleCover': WHATEVER THE INPUT: true; the input reads as it did. -/
def ruleCoverSpec : ChangeSpec := { name := "ruleCover", fn := fun _ => fun
  | [d1, d2] => { results := [.lit (.bool true)], args := [d1, d2] }
  | _ => none }
def ruleCoverRow : OpenClaim := { program := "ytieifhfgedoiaaadoor", sum := "281298c97b993955f3d67157ab1b17c90d21641a39cf90f30a51f3bc70b9ae9a", func := "canticle/canticlelaw09.RuleCover", spec := "ruleCover", inPlace := ["internal/bytealg.CountString", "internal/bytealg.IndexByteString", "internal/bytealg.IndexString"], unfollowed := true, recurses := true, named := ["unicode/utf8.first", "unicode/utf8.acceptRanges", "internal/bytealg.MaxLen"], plainKeys := false, apart := false, laid := [("unicode/utf8.acceptRanges", laid_unicode_utf8_acceptRanges), ("unicode/utf8.first", laid_unicode_utf8_first)] }
def RuleCoverSaid : Prop := ruleCoverRow.holds Tryd.pinned (OpenSpec.ofChange ruleCoverSpec)

/-- ITS FALSE NEIGHBOUR: 'it returns false'. Refute it at one input. -/
def ruleCoverWrong : ChangeSpec := { name := "ruleCover", fn := fun _ => fun
  | [d1, d2] => { results := [.lit (.bool false)], args := [d1, d2] }
  | _ => none }
def RuleCoverWrongFalsely : Prop := ruleCoverRow.holds Tryd.pinned (OpenSpec.ofChange ruleCoverWrong)

/-- 'canticlelaw09.RuleBack': WHATEVER THE INPUT: true; the input reads as it did. -/
def ruleBackSpec : ChangeSpec := { name := "ruleBack", fn := fun _ => fun
  | [d1, d2] => { results := [.lit (.bool true)], args := [d1, d2] }
  | _ => none }
def ruleBackRow : OpenClaim := { program := "ytieifhfgedoiaaadoor", sum := "281298c97b993955f3d67157ab1b17c90d21641a39cf90f30a51f3bc70b9ae9a", func := "canticle/canticlelaw09.RuleBack", spec := "ruleBack", inPlace := ["internal/bytealg.CountString", "internal/bytealg.IndexByteString", "internal/bytealg.IndexString", "internal/abi.NoEscape"], unfollowed := true, recurses := true, named := ["unicode/utf8.first", "unicode/utf8.acceptRanges", "internal/bytealg.MaxLen"], plainKeys := false, apart := false, laid := [("unicode/utf8.acceptRanges", laid_unicode_utf8_acceptRanges), ("unicode/utf8.first", laid_unicode_utf8_first)] }
def RuleBackSaid : Prop := ruleBackRow.holds Tryd.pinned (OpenSpec.ofChange ruleBackSpec)

/-- ITS FALSE NEIGHBOUR: 'it returns false'. Refute it at one input. -/
def ruleBackWrong : ChangeSpec := { name := "ruleBack", fn := fun _ => fun
  | [d1, d2] => { results := [.lit (.bool false)], args := [d1, d2] }
  | _ => none }
def RuleBackWrongFalsely : Prop := ruleBackRow.holds Tryd.pinned (OpenSpec.ofChange ruleBackWrong)

/-- 'canticlelaw09.RuleCovers': WHATEVER THE INPUT: true; the input reads as it did. -/
def ruleCoversSpec : ChangeSpec := { name := "ruleCovers", fn := fun _ => fun
  | [d1, d2] => { results := [.lit (.bool true)], args := [d1, d2] }
  | _ => none }
def ruleCoversRow : OpenClaim := { program := "ytieifhfgedoiaaadoor", sum := "281298c97b993955f3d67157ab1b17c90d21641a39cf90f30a51f3bc70b9ae9a", func := "canticle/canticlelaw09.RuleCovers", spec := "ruleCovers", inPlace := ["internal/bytealg.CountString", "internal/bytealg.IndexByteString", "internal/bytealg.IndexString"], unfollowed := true, recurses := true, named := ["unicode/utf8.first", "unicode/utf8.acceptRanges", "internal/bytealg.MaxLen"], plainKeys := false, apart := false, laid := [("unicode/utf8.acceptRanges", laid_unicode_utf8_acceptRanges), ("unicode/utf8.first", laid_unicode_utf8_first)] }
def RuleCoversSaid : Prop := ruleCoversRow.holds Tryd.pinned (OpenSpec.ofChange ruleCoversSpec)

/-- ITS FALSE NEIGHBOUR: 'it returns false'. Refute it at one input. -/
def ruleCoversWrong : ChangeSpec := { name := "ruleCovers", fn := fun _ => fun
  | [d1, d2] => { results := [.lit (.bool false)], args := [d1, d2] }
  | _ => none }
def RuleCoversWrongFalsely : Prop := ruleCoversRow.holds Tryd.pinned (OpenSpec.ofChange ruleCoversWrong)

/-- 'canticlelaw09.RuleAlive': WHATEVER THE INPUT: true; the input reads as it did. -/
def ruleAliveSpec : ChangeSpec := { name := "ruleAlive", fn := fun _ => fun
  | [d1, d2] => { results := [.lit (.bool true)], args := [d1, d2] }
  | _ => none }
def ruleAliveRow : OpenClaim := { program := "ytieifhfgedoiaaadoor", sum := "281298c97b993955f3d67157ab1b17c90d21641a39cf90f30a51f3bc70b9ae9a", func := "canticle/canticlelaw09.RuleAlive", spec := "ruleAlive", inPlace := ["internal/bytealg.CountString", "internal/bytealg.IndexByteString", "internal/bytealg.IndexString"], unfollowed := true, recurses := true, named := ["unicode/utf8.first", "unicode/utf8.acceptRanges", "internal/bytealg.MaxLen"], plainKeys := false, apart := false, laid := [("unicode/utf8.acceptRanges", laid_unicode_utf8_acceptRanges), ("unicode/utf8.first", laid_unicode_utf8_first)] }
def RuleAliveSaid : Prop := ruleAliveRow.holds Tryd.pinned (OpenSpec.ofChange ruleAliveSpec)

/-- ITS FALSE NEIGHBOUR: 'it returns false'. Refute it at one input. -/
def ruleAliveWrong : ChangeSpec := { name := "ruleAlive", fn := fun _ => fun
  | [d1, d2] => { results := [.lit (.bool false)], args := [d1, d2] }
  | _ => none }
def RuleAliveWrongFalsely : Prop := ruleAliveRow.holds Tryd.pinned (OpenSpec.ofChange ruleAliveWrong)

/-- 'canticlelaw09.RuleNames': WHATEVER THE INPUT: true; the input reads as it did. -/
def ruleNamesSpec : ChangeSpec := { name := "ruleNames", fn := fun _ => fun
  | [] => { results := [.lit (.bool true)], args := [] }
  | _ => none }
def ruleNamesRow : OpenClaim := { program := "ytieifhfgedoiaaadoor", sum := "281298c97b993955f3d67157ab1b17c90d21641a39cf90f30a51f3bc70b9ae9a", func := "canticle/canticlelaw09.RuleNames", spec := "ruleNames", inPlace := ["internal/bytealg.CountString", "internal/bytealg.IndexByteString", "internal/bytealg.IndexString", "internal/abi.NoEscape"], unfollowed := true, recurses := true, named := ["unicode/utf8.first", "unicode/utf8.acceptRanges", "internal/bytealg.MaxLen"], plainKeys := false, apart := false, laid := [("unicode/utf8.acceptRanges", laid_unicode_utf8_acceptRanges), ("unicode/utf8.first", laid_unicode_utf8_first)] }
def RuleNamesSaid : Prop := ruleNamesRow.holds Tryd.pinned (OpenSpec.ofChange ruleNamesSpec)

/-- ITS FALSE NEIGHBOUR: 'it returns false'. Refute it at one input. -/
def ruleNamesWrong : ChangeSpec := { name := "ruleNames", fn := fun _ => fun
  | [] => { results := [.lit (.bool false)], args := [] }
  | _ => none }
def RuleNamesWrongFalsely : Prop := ruleNamesRow.holds Tryd.pinned (OpenSpec.ofChange ruleNamesWrong)

/- THE SECOND FORM. 'bulk': how many values and letters a reading holds, each counted each time it is reached (what is shared counts as often as it is met; a slice's spare places count too). A statement '..UptoSaid' is the law's where the arguments, and the package variables that the reading takes, are together of bulk at most 1048576: NARROWER than '..Said'. Prove '..Said' where nothing that the law and all that it calls make is longer than what came in: it says more and counts as full. Else prove '..UptoSaid'. A law counts once. -/
mutual
def uptoBulk {H : Type} : DataW H → Nat
  | .lit (.string bytes) => bytes.length + 1
  | .lit _ => 1
  | .nil => 1
  | .ptr d => uptoBulk d + 1
  | .slice elems spare => uptoBulkAll elems + uptoBulkAll spare + 1
  | .agg parts => uptoBulkAll parts + 1
  | .iface _ d => uptoBulk d + 1
  | .map entries => uptoBulkEntries entries + 1
  | .held _ => 1
def uptoBulkAll {H : Type} : List (DataW H) → Nat
  | [] => 0
  | d :: r => uptoBulk d + uptoBulkAll r
def uptoBulkEntries {H : Type} : List (Lit × DataW H) → Nat
  | [] => 0
  | x :: r => uptoBulkEntry x + uptoBulkEntries r
def uptoBulkEntry {H : Type} : Lit × DataW H → Nat
  | (.string bytes, d) => bytes.length + uptoBulk d + 1
  | (_, d) => uptoBulk d + 1
 end
def uptoSmall : (H : Type) → List (DataW H) → Bool := fun _ ds => decide (uptoBulkAll ds ≤ 1048576)
def OpenSpec.upto (s : _root_.Go.ChangeSpec) : _root_.Go.OpenSpec := { _root_.Go.OpenSpec.ofChange s with cond := some uptoSmall }

/-- 'canticlelaw09.RuleReads', WHERE WHAT IT READS IS OF BULK AT MOST 1048576: true; the input reads as it did. -/
def ruleReadsUptoRow : OpenClaim := { program := "ytieifhfgedoiaaadoor", sum := "281298c97b993955f3d67157ab1b17c90d21641a39cf90f30a51f3bc70b9ae9a", func := "canticle/canticlelaw09.RuleReads", spec := "ruleReads", inPlace := ["internal/bytealg.CountString", "internal/bytealg.IndexByteString", "internal/bytealg.IndexString", "internal/abi.NoEscape"], unfollowed := true, recurses := true, named := ["unicode/utf8.first", "unicode/utf8.acceptRanges", "internal/bytealg.MaxLen"], plainKeys := false, apart := false, laid := [("unicode/utf8.acceptRanges", laid_unicode_utf8_acceptRanges), ("unicode/utf8.first", laid_unicode_utf8_first)], narrowed := true }
def RuleReadsUptoSaid : Prop := ruleReadsUptoRow.holds Tryd.pinned (OpenSpec.upto ruleReadsSpec)

/-- 'canticlelaw09.RuleFits', WHERE WHAT IT READS IS OF BULK AT MOST 1048576: true; the input reads as it did. -/
def ruleFitsUptoRow : OpenClaim := { program := "ytieifhfgedoiaaadoor", sum := "281298c97b993955f3d67157ab1b17c90d21641a39cf90f30a51f3bc70b9ae9a", func := "canticle/canticlelaw09.RuleFits", spec := "ruleFits", inPlace := ["internal/bytealg.CountString", "internal/bytealg.IndexByteString", "internal/bytealg.IndexString"], unfollowed := true, recurses := true, named := ["unicode/utf8.first", "unicode/utf8.acceptRanges", "internal/bytealg.MaxLen"], plainKeys := false, apart := false, laid := [("unicode/utf8.acceptRanges", laid_unicode_utf8_acceptRanges), ("unicode/utf8.first", laid_unicode_utf8_first)], narrowed := true }
def RuleFitsUptoSaid : Prop := ruleFitsUptoRow.holds Tryd.pinned (OpenSpec.upto ruleFitsSpec)

/-- 'canticlelaw09.RuleSounds', WHERE WHAT IT READS IS OF BULK AT MOST 1048576: true; the input reads as it did. -/
def ruleSoundsUptoRow : OpenClaim := { program := "ytieifhfgedoiaaadoor", sum := "281298c97b993955f3d67157ab1b17c90d21641a39cf90f30a51f3bc70b9ae9a", func := "canticle/canticlelaw09.RuleSounds", spec := "ruleSounds", inPlace := ["internal/bytealg.CountString", "internal/bytealg.IndexByteString", "internal/bytealg.IndexString"], unfollowed := true, recurses := true, named := ["unicode/utf8.first", "unicode/utf8.acceptRanges", "internal/bytealg.MaxLen"], plainKeys := false, apart := false, laid := [("unicode/utf8.acceptRanges", laid_unicode_utf8_acceptRanges), ("unicode/utf8.first", laid_unicode_utf8_first)], narrowed := true }
def RuleSoundsUptoSaid : Prop := ruleSoundsUptoRow.holds Tryd.pinned (OpenSpec.upto ruleSoundsSpec)

/-- 'canticlelaw09.RuleCover', WHERE WHAT IT READS IS OF BULK AT MOST 1048576: true; the input reads as it did. -/
def ruleCoverUptoRow : OpenClaim := { program := "ytieifhfgedoiaaadoor", sum := "281298c97b993955f3d67157ab1b17c90d21641a39cf90f30a51f3bc70b9ae9a", func := "canticle/canticlelaw09.RuleCover", spec := "ruleCover", inPlace := ["internal/bytealg.CountString", "internal/bytealg.IndexByteString", "internal/bytealg.IndexString"], unfollowed := true, recurses := true, named := ["unicode/utf8.first", "unicode/utf8.acceptRanges", "internal/bytealg.MaxLen"], plainKeys := false, apart := false, laid := [("unicode/utf8.acceptRanges", laid_unicode_utf8_acceptRanges), ("unicode/utf8.first", laid_unicode_utf8_first)], narrowed := true }
def RuleCoverUptoSaid : Prop := ruleCoverUptoRow.holds Tryd.pinned (OpenSpec.upto ruleCoverSpec)

/-- 'canticlelaw09.RuleBack', WHERE WHAT IT READS IS OF BULK AT MOST 1048576: true; the input reads as it did. -/
def ruleBackUptoRow : OpenClaim := { program := "ytieifhfgedoiaaadoor", sum := "281298c97b993955f3d67157ab1b17c90d21641a39cf90f30a51f3bc70b9ae9a", func := "canticle/canticlelaw09.RuleBack", spec := "ruleBack", inPlace := ["internal/bytealg.CountString", "internal/bytealg.IndexByteString", "internal/bytealg.IndexString", "internal/abi.NoEscape"], unfollowed := true, recurses := true, named := ["unicode/utf8.first", "unicode/utf8.acceptRanges", "internal/bytealg.MaxLen"], plainKeys := false, apart := false, laid := [("unicode/utf8.acceptRanges", laid_unicode_utf8_acceptRanges), ("unicode/utf8.first", laid_unicode_utf8_first)], narrowed := true }
def RuleBackUptoSaid : Prop := ruleBackUptoRow.holds Tryd.pinned (OpenSpec.upto ruleBackSpec)

/-- 'canticlelaw09.RuleCovers', WHERE WHAT IT READS IS OF BULK AT MOST 1048576: true; the input reads as it did. -/
def ruleCoversUptoRow : OpenClaim := { program := "ytieifhfgedoiaaadoor", sum := "281298c97b993955f3d67157ab1b17c90d21641a39cf90f30a51f3bc70b9ae9a", func := "canticle/canticlelaw09.RuleCovers", spec := "ruleCovers", inPlace := ["internal/bytealg.CountString", "internal/bytealg.IndexByteString", "internal/bytealg.IndexString"], unfollowed := true, recurses := true, named := ["unicode/utf8.first", "unicode/utf8.acceptRanges", "internal/bytealg.MaxLen"], plainKeys := false, apart := false, laid := [("unicode/utf8.acceptRanges", laid_unicode_utf8_acceptRanges), ("unicode/utf8.first", laid_unicode_utf8_first)], narrowed := true }
def RuleCoversUptoSaid : Prop := ruleCoversUptoRow.holds Tryd.pinned (OpenSpec.upto ruleCoversSpec)

/-- 'canticlelaw09.RuleAlive', WHERE WHAT IT READS IS OF BULK AT MOST 1048576: true; the input reads as it did. -/
def ruleAliveUptoRow : OpenClaim := { program := "ytieifhfgedoiaaadoor", sum := "281298c97b993955f3d67157ab1b17c90d21641a39cf90f30a51f3bc70b9ae9a", func := "canticle/canticlelaw09.RuleAlive", spec := "ruleAlive", inPlace := ["internal/bytealg.CountString", "internal/bytealg.IndexByteString", "internal/bytealg.IndexString"], unfollowed := true, recurses := true, named := ["unicode/utf8.first", "unicode/utf8.acceptRanges", "internal/bytealg.MaxLen"], plainKeys := false, apart := false, laid := [("unicode/utf8.acceptRanges", laid_unicode_utf8_acceptRanges), ("unicode/utf8.first", laid_unicode_utf8_first)], narrowed := true }
def RuleAliveUptoSaid : Prop := ruleAliveUptoRow.holds Tryd.pinned (OpenSpec.upto ruleAliveSpec)

/-- 'canticlelaw09.RuleNames', WHERE WHAT IT READS IS OF BULK AT MOST 1048576: true; the input reads as it did. -/
def ruleNamesUptoRow : OpenClaim := { program := "ytieifhfgedoiaaadoor", sum := "281298c97b993955f3d67157ab1b17c90d21641a39cf90f30a51f3bc70b9ae9a", func := "canticle/canticlelaw09.RuleNames", spec := "ruleNames", inPlace := ["internal/bytealg.CountString", "internal/bytealg.IndexByteString", "internal/bytealg.IndexString", "internal/abi.NoEscape"], unfollowed := true, recurses := true, named := ["unicode/utf8.first", "unicode/utf8.acceptRanges", "internal/bytealg.MaxLen"], plainKeys := false, apart := false, laid := [("unicode/utf8.acceptRanges", laid_unicode_utf8_acceptRanges), ("unicode/utf8.first", laid_unicode_utf8_first)], narrowed := true }
def RuleNamesUptoSaid : Prop := ruleNamesUptoRow.holds Tryd.pinned (OpenSpec.upto ruleNamesSpec)

end Rows
end Go.Proofs.YtieifhfgedoiaaaDoor
