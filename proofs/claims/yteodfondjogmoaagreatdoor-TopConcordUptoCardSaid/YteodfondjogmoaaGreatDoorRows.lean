/-
  NARROWER THAN 'FOR EVERY INPUT', by the rows' own cells (each row's printed sentence says how): ConcordNear: laid · ConcordLines: laid · ConcordWords: laid · ConcordSuch: laid · ConcordPhrases: laid · ConcordJoins: laid · ConcordAt: laid · ConcordAround: laid · ConcordAsked: laid · TopConcord: laid.
  DERIVED. THE GIVEN ROWS OF THIS SEAT. 10 by the template 'for every input the law returns true; each argument reads behind the call as it read before'; 0 by the template 'total and deterministic' (their statements: YteodfondjogmoaaGreatDoorTotals.lean).
  GIVEN WITH THE SEED: the statements are not yours to turn. If you find one false, say at which input.
  Laid BY PROGRAM, IN A SANDBOX (cutbox-rows.mjs): the forced cells as the released guide's own fill.sh prints them over the translation 364042a0266f34ac… (all of the seat's roots in one cut). By AI agents, Wed Nov 11 2026. No macro, syntax, notation, axiom, sorry.
-/
import Derived.Test.YteodfondjogmoaaGreatDoorChecked
import GoSem.PinnedTables
import GoSem.Claim
import GoSem.ClaimJoined
import GoSem.ClaimMapViews
import Derived.JoinedTies
import Derived.KernelRfl
namespace Go.Proofs.YteodfondjogmoaaGreatDoor
/- THE CELL 'sum', in the pinned program and in every row, IS THE sha256 OF THE DUMP (.gsa) THAT YteodfondjogmoaaGreatDoorProg.lean LOADS. Nothing in Lean hashes anything: it is a label: what it is worth is what the hold of that sum in a sandbox is worth. -/
noncomputable def Tryz.pinned : Pinned := { name := "yteodfondjogmoaagreatdoor", sum := "364042a0266f34ac27abb7c3549cfbb70ec26dff08103c9d7c05b491cae36906", checked := Tryz.checked }
namespace Rows
def none {H : Type} : Left H := { results := [], args := [] }

/- WHAT THE LISTED PACKAGE-LEVEL VARIABLES READ AS WHEN THE CALL BEGINS. Each datum BY PROGRAM (the guide's laid-datum.mjs) off the statement by which the dump's own 'gosem.cut.vars' lays the variable. In a bare row this is a premise. The card (YteodfondjogmoaaGreatDoorCards.lean) ties it to the program's text. -/
def laid_unicode_utf8_acceptRanges {H : Type} : DataW H := .agg [.agg [.lit (.int .u8 128), .lit (.int .u8 191)], .agg [.lit (.int .u8 160), .lit (.int .u8 191)], .agg [.lit (.int .u8 128), .lit (.int .u8 159)], .agg [.lit (.int .u8 144), .lit (.int .u8 191)], .agg [.lit (.int .u8 128), .lit (.int .u8 143)], .agg [.lit (.int .u8 0), .lit (.int .u8 0)], .agg [.lit (.int .u8 0), .lit (.int .u8 0)], .agg [.lit (.int .u8 0), .lit (.int .u8 0)], .agg [.lit (.int .u8 0), .lit (.int .u8 0)], .agg [.lit (.int .u8 0), .lit (.int .u8 0)], .agg [.lit (.int .u8 0), .lit (.int .u8 0)], .agg [.lit (.int .u8 0), .lit (.int .u8 0)], .agg [.lit (.int .u8 0), .lit (.int .u8 0)], .agg [.lit (.int .u8 0), .lit (.int .u8 0)], .agg [.lit (.int .u8 0), .lit (.int .u8 0)], .agg [.lit (.int .u8 0), .lit (.int .u8 0)]]
/-- One of Go's own tables, pinned by name: the form's constant. -/
def laid_unicode_utf8_first : DataW Unit := Go.Pinned.utf8First

/-- 'canticlelaw21.ConcordNear': WHATEVER THE INPUT: true; the input reads as it did. -/
def concordNearSpec : ChangeSpec := { name := "concordNear", fn := fun _ => fun
  | [d] => { results := [.lit (.bool true)], args := [d] }
  | _ => none }
def concordNearRow : OpenClaim := { program := "yteodfondjogmoaagreatdoor", sum := "364042a0266f34ac27abb7c3549cfbb70ec26dff08103c9d7c05b491cae36906", func := "canticle/canticlelaw21.ConcordNear", spec := "concordNear", inPlace := ["internal/bytealg.IndexByteString", "internal/bytealg.IndexString"], unfollowed := true, recurses := true, named := ["unicode/utf8.first", "unicode/utf8.acceptRanges", "internal/bytealg.MaxLen"], plainKeys := false, apart := false, laid := [("unicode/utf8.acceptRanges", laid_unicode_utf8_acceptRanges), ("unicode/utf8.first", laid_unicode_utf8_first)] }
def ConcordNearSaid : Prop := concordNearRow.holds Tryz.pinned (OpenSpec.ofChange concordNearSpec)

/-- ITS FALSE NEIGHBOUR: 'it returns false'. Refute it at one input. -/
def concordNearWrong : ChangeSpec := { name := "concordNear", fn := fun _ => fun
  | [d] => { results := [.lit (.bool false)], args := [d] }
  | _ => none }
def ConcordNearWrongFalsely : Prop := concordNearRow.holds Tryz.pinned (OpenSpec.ofChange concordNearWrong)

/-- 'canticlelaw21.ConcordLines': WHATEVER THE INPUT: true; the input reads as it did. -/
def concordLinesSpec : ChangeSpec := { name := "concordLines", fn := fun _ => fun
  | [d1, d2, d3] => { results := [.lit (.bool true)], args := [d1, d2, d3] }
  | _ => none }
def concordLinesRow : OpenClaim := { program := "yteodfondjogmoaagreatdoor", sum := "364042a0266f34ac27abb7c3549cfbb70ec26dff08103c9d7c05b491cae36906", func := "canticle/canticlelaw21.ConcordLines", spec := "concordLines", inPlace := ["internal/bytealg.IndexByteString", "internal/bytealg.IndexString"], unfollowed := true, recurses := true, named := ["unicode/utf8.first", "unicode/utf8.acceptRanges", "internal/bytealg.MaxLen"], plainKeys := false, apart := false, laid := [("unicode/utf8.acceptRanges", laid_unicode_utf8_acceptRanges), ("unicode/utf8.first", laid_unicode_utf8_first)] }
def ConcordLinesSaid : Prop := concordLinesRow.holds Tryz.pinned (OpenSpec.ofChange concordLinesSpec)

/-- ITS FALSE NEIGHBOUR: 'it returns false'. Refute it at one input. -/
def concordLinesWrong : ChangeSpec := { name := "concordLines", fn := fun _ => fun
  | [d1, d2, d3] => { results := [.lit (.bool false)], args := [d1, d2, d3] }
  | _ => none }
def ConcordLinesWrongFalsely : Prop := concordLinesRow.holds Tryz.pinned (OpenSpec.ofChange concordLinesWrong)

/-- 'canticlelaw21.ConcordWords': WHATEVER THE INPUT: true; the input reads as it did. -/
def concordWordsSpec : ChangeSpec := { name := "concordWords", fn := fun _ => fun
  | [d1, d2] => { results := [.lit (.bool true)], args := [d1, d2] }
  | _ => none }
def concordWordsRow : OpenClaim := { program := "yteodfondjogmoaagreatdoor", sum := "364042a0266f34ac27abb7c3549cfbb70ec26dff08103c9d7c05b491cae36906", func := "canticle/canticlelaw21.ConcordWords", spec := "concordWords", inPlace := ["internal/bytealg.IndexByteString", "internal/bytealg.IndexString"], unfollowed := true, recurses := true, named := ["unicode/utf8.first", "unicode/utf8.acceptRanges", "internal/bytealg.MaxLen"], plainKeys := false, apart := false, laid := [("unicode/utf8.acceptRanges", laid_unicode_utf8_acceptRanges), ("unicode/utf8.first", laid_unicode_utf8_first)] }
def ConcordWordsSaid : Prop := concordWordsRow.holds Tryz.pinned (OpenSpec.ofChange concordWordsSpec)

/-- ITS FALSE NEIGHBOUR: 'it returns false'. Refute it at one input. -/
def concordWordsWrong : ChangeSpec := { name := "concordWords", fn := fun _ => fun
  | [d1, d2] => { results := [.lit (.bool false)], args := [d1, d2] }
  | _ => none }
def ConcordWordsWrongFalsely : Prop := concordWordsRow.holds Tryz.pinned (OpenSpec.ofChange concordWordsWrong)

/-- 'canticlelaw21.ConcordSuch': WHATEVER THE INPUT: true; the input reads as it did. -/
def concordSuchSpec : ChangeSpec := { name := "concordSuch", fn := fun _ => fun
  | [d1, d2] => { results := [.lit (.bool true)], args := [d1, d2] }
  | _ => none }
def concordSuchRow : OpenClaim := { program := "yteodfondjogmoaagreatdoor", sum := "364042a0266f34ac27abb7c3549cfbb70ec26dff08103c9d7c05b491cae36906", func := "canticle/canticlelaw21.ConcordSuch", spec := "concordSuch", inPlace := ["internal/bytealg.IndexByteString", "internal/bytealg.IndexString"], unfollowed := true, recurses := true, named := ["unicode/utf8.first", "unicode/utf8.acceptRanges", "internal/bytealg.MaxLen"], plainKeys := false, apart := false, laid := [("unicode/utf8.acceptRanges", laid_unicode_utf8_acceptRanges), ("unicode/utf8.first", laid_unicode_utf8_first)] }
def ConcordSuchSaid : Prop := concordSuchRow.holds Tryz.pinned (OpenSpec.ofChange concordSuchSpec)

/-- ITS FALSE NEIGHBOUR: 'it returns false'. Refute it at one input. -/
def concordSuchWrong : ChangeSpec := { name := "concordSuch", fn := fun _ => fun
  | [d1, d2] => { results := [.lit (.bool false)], args := [d1, d2] }
  | _ => none }
def ConcordSuchWrongFalsely : Prop := concordSuchRow.holds Tryz.pinned (OpenSpec.ofChange concordSuchWrong)

/-- 'canticlelaw21.ConcordPhrases': WHATEVER THE INPUT: true; the input reads as it did. -/
def concordPhrasesSpec : ChangeSpec := { name := "concordPhrases", fn := fun _ => fun
  | [d1, d2, d3] => { results := [.lit (.bool true)], args := [d1, d2, d3] }
  | _ => none }
def concordPhrasesRow : OpenClaim := { program := "yteodfondjogmoaagreatdoor", sum := "364042a0266f34ac27abb7c3549cfbb70ec26dff08103c9d7c05b491cae36906", func := "canticle/canticlelaw21.ConcordPhrases", spec := "concordPhrases", inPlace := ["internal/bytealg.IndexByteString", "internal/bytealg.IndexString"], unfollowed := true, recurses := true, named := ["unicode/utf8.first", "unicode/utf8.acceptRanges", "internal/bytealg.MaxLen"], plainKeys := false, apart := false, laid := [("unicode/utf8.acceptRanges", laid_unicode_utf8_acceptRanges), ("unicode/utf8.first", laid_unicode_utf8_first)] }
def ConcordPhrasesSaid : Prop := concordPhrasesRow.holds Tryz.pinned (OpenSpec.ofChange concordPhrasesSpec)

/-- ITS FALSE NEIGHBOUR: 'it returns false'. Refute it at one input. -/
def concordPhrasesWrong : ChangeSpec := { name := "concordPhrases", fn := fun _ => fun
  | [d1, d2, d3] => { results := [.lit (.bool false)], args := [d1, d2, d3] }
  | _ => none }
def ConcordPhrasesWrongFalsely : Prop := concordPhrasesRow.holds Tryz.pinned (OpenSpec.ofChange concordPhrasesWrong)

/-- 'canticlelaw21.ConcordJoins': WHATEVER THE INPUT: true; the input reads as it did. -/
def concordJoinsSpec : ChangeSpec := { name := "concordJoins", fn := fun _ => fun
  | [d1, d2, d3] => { results := [.lit (.bool true)], args := [d1, d2, d3] }
  | _ => none }
def concordJoinsRow : OpenClaim := { program := "yteodfondjogmoaagreatdoor", sum := "364042a0266f34ac27abb7c3549cfbb70ec26dff08103c9d7c05b491cae36906", func := "canticle/canticlelaw21.ConcordJoins", spec := "concordJoins", inPlace := ["internal/bytealg.IndexByteString", "internal/bytealg.IndexString"], unfollowed := true, recurses := true, named := ["unicode/utf8.first", "unicode/utf8.acceptRanges", "internal/bytealg.MaxLen"], plainKeys := false, apart := false, laid := [("unicode/utf8.acceptRanges", laid_unicode_utf8_acceptRanges), ("unicode/utf8.first", laid_unicode_utf8_first)] }
def ConcordJoinsSaid : Prop := concordJoinsRow.holds Tryz.pinned (OpenSpec.ofChange concordJoinsSpec)

/-- ITS FALSE NEIGHBOUR: 'it returns false'. Refute it at one input. -/
def concordJoinsWrong : ChangeSpec := { name := "concordJoins", fn := fun _ => fun
  | [d1, d2, d3] => { results := [.lit (.bool false)], args := [d1, d2, d3] }
  | _ => none }
def ConcordJoinsWrongFalsely : Prop := concordJoinsRow.holds Tryz.pinned (OpenSpec.ofChange concordJoinsWrong)

/-- 'canticlelaw21.ConcordAt': WHATEVER THE INPUT: true; the input reads as it did. -/
def concordAtSpec : ChangeSpec := { name := "concordAt", fn := fun _ => fun
  | [d1, d2, d3] => { results := [.lit (.bool true)], args := [d1, d2, d3] }
  | _ => none }
def concordAtRow : OpenClaim := { program := "yteodfondjogmoaagreatdoor", sum := "364042a0266f34ac27abb7c3549cfbb70ec26dff08103c9d7c05b491cae36906", func := "canticle/canticlelaw21.ConcordAt", spec := "concordAt", inPlace := ["internal/bytealg.IndexByteString", "internal/bytealg.IndexString"], unfollowed := true, recurses := true, named := ["unicode/utf8.first", "unicode/utf8.acceptRanges", "internal/bytealg.MaxLen"], plainKeys := false, apart := false, laid := [("unicode/utf8.acceptRanges", laid_unicode_utf8_acceptRanges), ("unicode/utf8.first", laid_unicode_utf8_first)] }
def ConcordAtSaid : Prop := concordAtRow.holds Tryz.pinned (OpenSpec.ofChange concordAtSpec)

/-- ITS FALSE NEIGHBOUR: 'it returns false'. Refute it at one input. -/
def concordAtWrong : ChangeSpec := { name := "concordAt", fn := fun _ => fun
  | [d1, d2, d3] => { results := [.lit (.bool false)], args := [d1, d2, d3] }
  | _ => none }
def ConcordAtWrongFalsely : Prop := concordAtRow.holds Tryz.pinned (OpenSpec.ofChange concordAtWrong)

/-- 'canticlelaw21.ConcordAround': WHATEVER THE INPUT: true; the input reads as it did. -/
def concordAroundSpec : ChangeSpec := { name := "concordAround", fn := fun _ => fun
  | [d1, d2, d3] => { results := [.lit (.bool true)], args := [d1, d2, d3] }
  | _ => none }
def concordAroundRow : OpenClaim := { program := "yteodfondjogmoaagreatdoor", sum := "364042a0266f34ac27abb7c3549cfbb70ec26dff08103c9d7c05b491cae36906", func := "canticle/canticlelaw21.ConcordAround", spec := "concordAround", inPlace := ["internal/bytealg.IndexByteString", "internal/bytealg.IndexString"], unfollowed := true, recurses := true, named := ["unicode/utf8.first", "unicode/utf8.acceptRanges", "internal/bytealg.MaxLen"], plainKeys := false, apart := false, laid := [("unicode/utf8.acceptRanges", laid_unicode_utf8_acceptRanges), ("unicode/utf8.first", laid_unicode_utf8_first)] }
def ConcordAroundSaid : Prop := concordAroundRow.holds Tryz.pinned (OpenSpec.ofChange concordAroundSpec)

/-- ITS FALSE NEIGHBOUR: 'it returns false'. Refute it at one input. -/
def concordAroundWrong : ChangeSpec := { name := "concordAround", fn := fun _ => fun
  | [d1, d2, d3] => { results := [.lit (.bool false)], args := [d1, d2, d3] }
  | _ => none }
def ConcordAroundWrongFalsely : Prop := concordAroundRow.holds Tryz.pinned (OpenSpec.ofChange concordAroundWrong)

/-- 'canticlelaw21.ConcordAsked': WHATEVER THE INPUT: true; the input reads as it did. -/
def concordAskedSpec : ChangeSpec := { name := "concordAsked", fn := fun _ => fun
  | [d1, d2] => { results := [.lit (.bool true)], args := [d1, d2] }
  | _ => none }
def concordAskedRow : OpenClaim := { program := "yteodfondjogmoaagreatdoor", sum := "364042a0266f34ac27abb7c3549cfbb70ec26dff08103c9d7c05b491cae36906", func := "canticle/canticlelaw21.ConcordAsked", spec := "concordAsked", inPlace := ["internal/bytealg.IndexByteString", "internal/bytealg.IndexString", "internal/abi.NoEscape"], unfollowed := true, recurses := true, named := ["unicode/utf8.first", "unicode/utf8.acceptRanges", "internal/bytealg.MaxLen"], plainKeys := false, apart := false, laid := [("unicode/utf8.acceptRanges", laid_unicode_utf8_acceptRanges), ("unicode/utf8.first", laid_unicode_utf8_first)] }
def ConcordAskedSaid : Prop := concordAskedRow.holds Tryz.pinned (OpenSpec.ofChange concordAskedSpec)

/-- ITS FALSE NEIGHBOUR: 'it returns false'. Refute it at one input. -/
def concordAskedWrong : ChangeSpec := { name := "concordAsked", fn := fun _ => fun
  | [d1, d2] => { results := [.lit (.bool false)], args := [d1, d2] }
  | _ => none }
def ConcordAskedWrongFalsely : Prop := concordAskedRow.holds Tryz.pinned (OpenSpec.ofChange concordAskedWrong)

/-- 'canticletop.TopConcord': WHATEVER THE INPUT: true; the input reads as it did. -/
def topConcordSpec : ChangeSpec := { name := "topConcord", fn := fun _ => fun
  | [d1, d2] => { results := [.lit (.bool true)], args := [d1, d2] }
  | _ => none }
def topConcordRow : OpenClaim := { program := "yteodfondjogmoaagreatdoor", sum := "364042a0266f34ac27abb7c3549cfbb70ec26dff08103c9d7c05b491cae36906", func := "canticle/canticletop.TopConcord", spec := "topConcord", inPlace := ["internal/bytealg.IndexByteString", "internal/bytealg.IndexString"], unfollowed := true, recurses := true, named := ["unicode/utf8.first", "unicode/utf8.acceptRanges", "internal/bytealg.MaxLen"], plainKeys := false, apart := false, laid := [("unicode/utf8.acceptRanges", laid_unicode_utf8_acceptRanges), ("unicode/utf8.first", laid_unicode_utf8_first)] }
def TopConcordSaid : Prop := topConcordRow.holds Tryz.pinned (OpenSpec.ofChange topConcordSpec)

/-- ITS FALSE NEIGHBOUR: 'it returns false'. Refute it at one input. -/
def topConcordWrong : ChangeSpec := { name := "topConcord", fn := fun _ => fun
  | [d1, d2] => { results := [.lit (.bool false)], args := [d1, d2] }
  | _ => none }
def TopConcordWrongFalsely : Prop := topConcordRow.holds Tryz.pinned (OpenSpec.ofChange topConcordWrong)

/- THE SECOND FORM. 'bulk': how many values and letters a reading holds, each counted each time it is reached (what is shared counts as often as it is met; a slice's spare places count too). A statement '..UptoSaid' is the law's where the arguments, and the package variables that the reading takes, are together of bulk at most 1048576: NARROWER than '..Said'. Prove '..Said' where nothing that the law and all that it calls make is longer than what came in: it says more and counts as full. Else prove '..UptoSaid'. A law counts once. -/
mutual
def uptoBulk {H : Type} : DataW H → Nat
  | .lit (.string bytes) => bytes.length + 1
  | .lit _ => 1
  | .nil => 1
  | .ptr d => uptoBulk d + 1
  | .slice elems spare => uptoBulkAll elems + uptoBulkAll spare + 1
  | .agg parts => uptoBulkAll parts + 1
  | .iface _ d => uptoBulk d + 1
  | .map entries => uptoBulkEntries entries + 1
  | .held _ => 1
def uptoBulkAll {H : Type} : List (DataW H) → Nat
  | [] => 0
  | d :: r => uptoBulk d + uptoBulkAll r
def uptoBulkEntries {H : Type} : List (Lit × DataW H) → Nat
  | [] => 0
  | x :: r => uptoBulkEntry x + uptoBulkEntries r
def uptoBulkEntry {H : Type} : Lit × DataW H → Nat
  | (.string bytes, d) => bytes.length + uptoBulk d + 1
  | (_, d) => uptoBulk d + 1
 end
def uptoSmall : (H : Type) → List (DataW H) → Bool := fun _ ds => decide (uptoBulkAll ds ≤ 1048576)
def OpenSpec.upto (s : _root_.Go.ChangeSpec) : _root_.Go.OpenSpec := { _root_.Go.OpenSpec.ofChange s with cond := some uptoSmall }

/-- 'canticlelaw21.ConcordNear', WHERE WHAT IT READS IS OF BULK AT MOST 1048576: true; the input reads as it did. -/
def concordNearUptoRow : OpenClaim := { program := "yteodfondjogmoaagreatdoor", sum := "364042a0266f34ac27abb7c3549cfbb70ec26dff08103c9d7c05b491cae36906", func := "canticle/canticlelaw21.ConcordNear", spec := "concordNear", inPlace := ["internal/bytealg.IndexByteString", "internal/bytealg.IndexString"], unfollowed := true, recurses := true, named := ["unicode/utf8.first", "unicode/utf8.acceptRanges", "internal/bytealg.MaxLen"], plainKeys := false, apart := false, laid := [("unicode/utf8.acceptRanges", laid_unicode_utf8_acceptRanges), ("unicode/utf8.first", laid_unicode_utf8_first)], narrowed := true }
def ConcordNearUptoSaid : Prop := concordNearUptoRow.holds Tryz.pinned (OpenSpec.upto concordNearSpec)

/-- 'canticlelaw21.ConcordLines', WHERE WHAT IT READS IS OF BULK AT MOST 1048576: true; the input reads as it did. -/
def concordLinesUptoRow : OpenClaim := { program := "yteodfondjogmoaagreatdoor", sum := "364042a0266f34ac27abb7c3549cfbb70ec26dff08103c9d7c05b491cae36906", func := "canticle/canticlelaw21.ConcordLines", spec := "concordLines", inPlace := ["internal/bytealg.IndexByteString", "internal/bytealg.IndexString"], unfollowed := true, recurses := true, named := ["unicode/utf8.first", "unicode/utf8.acceptRanges", "internal/bytealg.MaxLen"], plainKeys := false, apart := false, laid := [("unicode/utf8.acceptRanges", laid_unicode_utf8_acceptRanges), ("unicode/utf8.first", laid_unicode_utf8_first)], narrowed := true }
def ConcordLinesUptoSaid : Prop := concordLinesUptoRow.holds Tryz.pinned (OpenSpec.upto concordLinesSpec)

/-- 'canticlelaw21.ConcordWords', WHERE WHAT IT READS IS OF BULK AT MOST 1048576: true; the input reads as it did. -/
def concordWordsUptoRow : OpenClaim := { program := "yteodfondjogmoaagreatdoor", sum := "364042a0266f34ac27abb7c3549cfbb70ec26dff08103c9d7c05b491cae36906", func := "canticle/canticlelaw21.ConcordWords", spec := "concordWords", inPlace := ["internal/bytealg.IndexByteString", "internal/bytealg.IndexString"], unfollowed := true, recurses := true, named := ["unicode/utf8.first", "unicode/utf8.acceptRanges", "internal/bytealg.MaxLen"], plainKeys := false, apart := false, laid := [("unicode/utf8.acceptRanges", laid_unicode_utf8_acceptRanges), ("unicode/utf8.first", laid_unicode_utf8_first)], narrowed := true }
def ConcordWordsUptoSaid : Prop := concordWordsUptoRow.holds Tryz.pinned (OpenSpec.upto concordWordsSpec)

/-- 'canticlelaw21.ConcordSuch', WHERE WHAT IT READS IS OF BULK AT MOST 1048576: true; the input reads as it did. -/
def concordSuchUptoRow : OpenClaim := { program := "yteodfondjogmoaagreatdoor", sum := "364042a0266f34ac27abb7c3549cfbb70ec26dff08103c9d7c05b491cae36906", func := "canticle/canticlelaw21.ConcordSuch", spec := "concordSuch", inPlace := ["internal/bytealg.IndexByteString", "internal/bytealg.IndexString"], unfollowed := true, recurses := true, named := ["unicode/utf8.first", "unicode/utf8.acceptRanges", "internal/bytealg.MaxLen"], plainKeys := false, apart := false, laid := [("unicode/utf8.acceptRanges", laid_unicode_utf8_acceptRanges), ("unicode/utf8.first", laid_unicode_utf8_first)], narrowed := true }
def ConcordSuchUptoSaid : Prop := concordSuchUptoRow.holds Tryz.pinned (OpenSpec.upto concordSuchSpec)

/-- 'canticlelaw21.ConcordPhrases', WHERE WHAT IT READS IS OF BULK AT MOST 1048576: true; the input reads as it did. -/
def concordPhrasesUptoRow : OpenClaim := { program := "yteodfondjogmoaagreatdoor", sum := "364042a0266f34ac27abb7c3549cfbb70ec26dff08103c9d7c05b491cae36906", func := "canticle/canticlelaw21.ConcordPhrases", spec := "concordPhrases", inPlace := ["internal/bytealg.IndexByteString", "internal/bytealg.IndexString"], unfollowed := true, recurses := true, named := ["unicode/utf8.first", "unicode/utf8.acceptRanges", "internal/bytealg.MaxLen"], plainKeys := false, apart := false, laid := [("unicode/utf8.acceptRanges", laid_unicode_utf8_acceptRanges), ("unicode/utf8.first", laid_unicode_utf8_first)], narrowed := true }
def ConcordPhrasesUptoSaid : Prop := concordPhrasesUptoRow.holds Tryz.pinned (OpenSpec.upto concordPhrasesSpec)

/-- 'canticlelaw21.ConcordJoins', WHERE WHAT IT READS IS OF BULK AT MOST 1048576: true; the input reads as it did. -/
def concordJoinsUptoRow : OpenClaim := { program := "yteodfondjogmoaagreatdoor", sum := "364042a0266f34ac27abb7c3549cfbb70ec26dff08103c9d7c05b491cae36906", func := "canticle/canticlelaw21.ConcordJoins", spec := "concordJoins", inPlace := ["internal/bytealg.IndexByteString", "internal/bytealg.IndexString"], unfollowed := true, recurses := true, named := ["unicode/utf8.first", "unicode/utf8.acceptRanges", "internal/bytealg.MaxLen"], plainKeys := false, apart := false, laid := [("unicode/utf8.acceptRanges", laid_unicode_utf8_acceptRanges), ("unicode/utf8.first", laid_unicode_utf8_first)], narrowed := true }
def ConcordJoinsUptoSaid : Prop := concordJoinsUptoRow.holds Tryz.pinned (OpenSpec.upto concordJoinsSpec)

/-- 'canticlelaw21.ConcordAt', WHERE WHAT IT READS IS OF BULK AT MOST 1048576: true; the input reads as it did. -/
def concordAtUptoRow : OpenClaim := { program := "yteodfondjogmoaagreatdoor", sum := "364042a0266f34ac27abb7c3549cfbb70ec26dff08103c9d7c05b491cae36906", func := "canticle/canticlelaw21.ConcordAt", spec := "concordAt", inPlace := ["internal/bytealg.IndexByteString", "internal/bytealg.IndexString"], unfollowed := true, recurses := true, named := ["unicode/utf8.first", "unicode/utf8.acceptRanges", "internal/bytealg.MaxLen"], plainKeys := false, apart := false, laid := [("unicode/utf8.acceptRanges", laid_unicode_utf8_acceptRanges), ("unicode/utf8.first", laid_unicode_utf8_first)], narrowed := true }
def ConcordAtUptoSaid : Prop := concordAtUptoRow.holds Tryz.pinned (OpenSpec.upto concordAtSpec)

/-- 'canticlelaw21.ConcordAround', WHERE WHAT IT READS IS OF BULK AT MOST 1048576: true; the input reads as it did. -/
def concordAroundUptoRow : OpenClaim := { program := "yteodfondjogmoaagreatdoor", sum := "364042a0266f34ac27abb7c3549cfbb70ec26dff08103c9d7c05b491cae36906", func := "canticle/canticlelaw21.ConcordAround", spec := "concordAround", inPlace := ["internal/bytealg.IndexByteString", "internal/bytealg.IndexString"], unfollowed := true, recurses := true, named := ["unicode/utf8.first", "unicode/utf8.acceptRanges", "internal/bytealg.MaxLen"], plainKeys := false, apart := false, laid := [("unicode/utf8.acceptRanges", laid_unicode_utf8_acceptRanges), ("unicode/utf8.first", laid_unicode_utf8_first)], narrowed := true }
def ConcordAroundUptoSaid : Prop := concordAroundUptoRow.holds Tryz.pinned (OpenSpec.upto concordAroundSpec)

/-- 'canticlelaw21.ConcordAsked', WHERE WHAT IT READS IS OF BULK AT MOST 1048576: true; the input reads as it did. -/
def concordAskedUptoRow : OpenClaim := { program := "yteodfondjogmoaagreatdoor", sum := "364042a0266f34ac27abb7c3549cfbb70ec26dff08103c9d7c05b491cae36906", func := "canticle/canticlelaw21.ConcordAsked", spec := "concordAsked", inPlace := ["internal/bytealg.IndexByteString", "internal/bytealg.IndexString", "internal/abi.NoEscape"], unfollowed := true, recurses := true, named := ["unicode/utf8.first", "unicode/utf8.acceptRanges", "internal/bytealg.MaxLen"], plainKeys := false, apart := false, laid := [("unicode/utf8.acceptRanges", laid_unicode_utf8_acceptRanges), ("unicode/utf8.first", laid_unicode_utf8_first)], narrowed := true }
def ConcordAskedUptoSaid : Prop := concordAskedUptoRow.holds Tryz.pinned (OpenSpec.upto concordAskedSpec)

/-- 'canticletop.TopConcord', WHERE WHAT IT READS IS OF BULK AT MOST 1048576: true; the input reads as it did. -/
def topConcordUptoRow : OpenClaim := { program := "yteodfondjogmoaagreatdoor", sum := "364042a0266f34ac27abb7c3549cfbb70ec26dff08103c9d7c05b491cae36906", func := "canticle/canticletop.TopConcord", spec := "topConcord", inPlace := ["internal/bytealg.IndexByteString", "internal/bytealg.IndexString"], unfollowed := true, recurses := true, named := ["unicode/utf8.first", "unicode/utf8.acceptRanges", "internal/bytealg.MaxLen"], plainKeys := false, apart := false, laid := [("unicode/utf8.acceptRanges", laid_unicode_utf8_acceptRanges), ("unicode/utf8.first", laid_unicode_utf8_first)], narrowed := true }
def TopConcordUptoSaid : Prop := topConcordUptoRow.holds Tryz.pinned (OpenSpec.upto topConcordSpec)

end Rows
end Go.Proofs.YteodfondjogmoaaGreatDoor
