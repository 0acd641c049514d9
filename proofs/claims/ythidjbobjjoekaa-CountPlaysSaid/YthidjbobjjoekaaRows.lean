/-
  No cell of these rows narrows 'for every input' (looked for: loops, veiled, ifaces, maps, wideKeys, modest, calm, conditions, laid).
  DERIVED. THE GIVEN ROWS OF THIS SEAT. 6 by the template 'for every input the law returns true; each argument reads behind the call as it read before'; 0 by the template 'total and deterministic' (their statements: YthidjbobjjoekaaTotals.lean).
  GIVEN WITH THE SEED: the statements are not yours to turn. If you find one false, say at which input.
  Laid BY PROGRAM, IN A SANDBOX (cutbox-rows.mjs): the forced cells as the released guide's own fill.sh prints them over the translation f9a95040760bcd11… (all of the seat's roots in one cut). By AI agents, Wed Nov 11 2026. No macro, syntax, notation, axiom, sorry.
-/
import Derived.Test.YthidjbobjjoekaaChecked
import GoSem.Claim
import GoSem.ClaimJoined
import GoSem.ClaimMapViews
import Derived.JoinedTies
import Derived.KernelRfl
namespace Go.Proofs.Ythidjbobjjoekaa
/- THE CELL 'sum', in the pinned program and in every row, IS THE sha256 OF THE DUMP (.gsa) THAT YthidjbobjjoekaaProg.lean LOADS. Nothing in Lean hashes anything: it is a label: what it is worth is what the hold of that sum in a sandbox is worth. -/
noncomputable def Try.pinned : Pinned := { name := "ythidjbobjjoekaa", sum := "f9a95040760bcd11bbaced7541d40f7bb3d9cc5e6c2930f852c8df58dd264e48", checked := Try.checked }
namespace Rows
def none {H : Type} : Left H := { results := [], args := [] }

/-- 'canticlelaw20.CountFloats': WHATEVER THE INPUT: true; the input reads as it did. -/
def countFloatsSpec : ChangeSpec := { name := "countFloats", fn := fun _ => fun
  | [d1, d2] => { results := [.lit (.bool true)], args := [d1, d2] }
  | _ => none }
def countFloatsRow : OpenClaim := { program := "ythidjbobjjoekaa", sum := "f9a95040760bcd11bbaced7541d40f7bb3d9cc5e6c2930f852c8df58dd264e48", func := "canticle/canticlelaw20.CountFloats", spec := "countFloats", inPlace := ["math.Float64frombits", "math.Float64bits"], unfollowed := true, recurses := true, apart := false }
def CountFloatsSaid : Prop := countFloatsRow.holds Try.pinned (OpenSpec.ofChange countFloatsSpec)

/-- ITS FALSE NEIGHBOUR: 'it returns false'. Refute it at one input. -/
def countFloatsWrong : ChangeSpec := { name := "countFloats", fn := fun _ => fun
  | [d1, d2] => { results := [.lit (.bool false)], args := [d1, d2] }
  | _ => none }
def CountFloatsWrongFalsely : Prop := countFloatsRow.holds Try.pinned (OpenSpec.ofChange countFloatsWrong)

/-- 'canticlelaw20.CountSums': WHATEVER THE INPUT: true; the input reads as it did. -/
def countSumsSpec : ChangeSpec := { name := "countSums", fn := fun _ => fun
  | [d1, d2] => { results := [.lit (.bool true)], args := [d1, d2] }
  | _ => none }
def countSumsRow : OpenClaim := { program := "ythidjbobjjoekaa", sum := "f9a95040760bcd11bbaced7541d40f7bb3d9cc5e6c2930f852c8df58dd264e48", func := "canticle/canticlelaw20.CountSums", spec := "countSums", inPlace := ["math.Float64frombits", "math.Float64bits", "maps.clone"], unfollowed := true, recurses := true, apart := false }
def CountSumsSaid : Prop := countSumsRow.holds Try.pinned (OpenSpec.ofChange countSumsSpec)

/-- ITS FALSE NEIGHBOUR: 'it returns false'. Refute it at one input. -/
def countSumsWrong : ChangeSpec := { name := "countSums", fn := fun _ => fun
  | [d1, d2] => { results := [.lit (.bool false)], args := [d1, d2] }
  | _ => none }
def CountSumsWrongFalsely : Prop := countSumsRow.holds Try.pinned (OpenSpec.ofChange countSumsWrong)

/-- 'canticlelaw20.CountLog': WHATEVER THE INPUT: true; the input reads as it did. -/
def countLogSpec : ChangeSpec := { name := "countLog", fn := fun _ => fun
  | [d1, d2] => { results := [.lit (.bool true)], args := [d1, d2] }
  | _ => none }
def countLogRow : OpenClaim := { program := "ythidjbobjjoekaa", sum := "f9a95040760bcd11bbaced7541d40f7bb3d9cc5e6c2930f852c8df58dd264e48", func := "canticle/canticlelaw20.CountLog", spec := "countLog", inPlace := ["math.Float64frombits", "math.Float64bits"], unfollowed := true, recurses := true, apart := false }
def CountLogSaid : Prop := countLogRow.holds Try.pinned (OpenSpec.ofChange countLogSpec)

/-- ITS FALSE NEIGHBOUR: 'it returns false'. Refute it at one input. -/
def countLogWrong : ChangeSpec := { name := "countLog", fn := fun _ => fun
  | [d1, d2] => { results := [.lit (.bool false)], args := [d1, d2] }
  | _ => none }
def CountLogWrongFalsely : Prop := countLogRow.holds Try.pinned (OpenSpec.ofChange countLogWrong)

/-- 'canticlelaw20.CountTame': WHATEVER THE INPUT: true; the input reads as it did. -/
def countTameSpec : ChangeSpec := { name := "countTame", fn := fun _ => fun
  | [d1, d2] => { results := [.lit (.bool true)], args := [d1, d2] }
  | _ => none }
def countTameRow : OpenClaim := { program := "ythidjbobjjoekaa", sum := "f9a95040760bcd11bbaced7541d40f7bb3d9cc5e6c2930f852c8df58dd264e48", func := "canticle/canticlelaw20.CountTame", spec := "countTame", inPlace := ["math.Float64frombits", "math.Float64bits", "math.sqrt", "math.archFloor", "math.archTrunc"], unfollowed := true, recurses := true, apart := false }
def CountTameSaid : Prop := countTameRow.holds Try.pinned (OpenSpec.ofChange countTameSpec)

/-- ITS FALSE NEIGHBOUR: 'it returns false'. Refute it at one input. -/
def countTameWrong : ChangeSpec := { name := "countTame", fn := fun _ => fun
  | [d1, d2] => { results := [.lit (.bool false)], args := [d1, d2] }
  | _ => none }
def CountTameWrongFalsely : Prop := countTameRow.holds Try.pinned (OpenSpec.ofChange countTameWrong)

/-- 'canticlelaw20.CountLists': WHATEVER THE INPUT: true; the input reads as it did. -/
def countListsSpec : ChangeSpec := { name := "countLists", fn := fun _ => fun
  | [d1, d2, d3] => { results := [.lit (.bool true)], args := [d1, d2, d3] }
  | _ => none }
def countListsRow : OpenClaim := { program := "ythidjbobjjoekaa", sum := "f9a95040760bcd11bbaced7541d40f7bb3d9cc5e6c2930f852c8df58dd264e48", func := "canticle/canticlelaw20.CountLists", spec := "countLists", inPlace := ["math.Float64frombits", "math.Float64bits", "math.archFloor", "math.archTrunc", "math.sqrt"], unfollowed := true, recurses := true, apart := false }
def CountListsSaid : Prop := countListsRow.holds Try.pinned (OpenSpec.ofChange countListsSpec)

/-- ITS FALSE NEIGHBOUR: 'it returns false'. Refute it at one input. -/
def countListsWrong : ChangeSpec := { name := "countLists", fn := fun _ => fun
  | [d1, d2, d3] => { results := [.lit (.bool false)], args := [d1, d2, d3] }
  | _ => none }
def CountListsWrongFalsely : Prop := countListsRow.holds Try.pinned (OpenSpec.ofChange countListsWrong)

/-- 'canticlelaw20.CountPlays': WHATEVER THE INPUT: true; the input reads as it did. -/
def countPlaysSpec : ChangeSpec := { name := "countPlays", fn := fun _ => fun
  | [d] => { results := [.lit (.bool true)], args := [d] }
  | _ => none }
def countPlaysRow : OpenClaim := { program := "ythidjbobjjoekaa", sum := "f9a95040760bcd11bbaced7541d40f7bb3d9cc5e6c2930f852c8df58dd264e48", func := "canticle/canticlelaw20.CountPlays", spec := "countPlays", inPlace := ["math.Float64frombits", "math.Float64bits", "maps.clone", "math.sqrt"], unfollowed := true, recurses := true, apart := false }
def CountPlaysSaid : Prop := countPlaysRow.holds Try.pinned (OpenSpec.ofChange countPlaysSpec)

/-- ITS FALSE NEIGHBOUR: 'it returns false'. Refute it at one input. -/
def countPlaysWrong : ChangeSpec := { name := "countPlays", fn := fun _ => fun
  | [d] => { results := [.lit (.bool false)], args := [d] }
  | _ => none }
def CountPlaysWrongFalsely : Prop := countPlaysRow.holds Try.pinned (OpenSpec.ofChange countPlaysWrong)

/- THE SECOND FORM. 'bulk': how many values and letters a reading holds, each counted each time it is reached (what is shared counts as often as it is met; a slice's spare places count too). A statement '..UptoSaid' is the law's where the arguments, and the package variables that the reading takes, are together of bulk at most 1048576: NARROWER than '..Said'. Prove '..Said' where nothing that the law and all that it calls make is longer than what came in: it says more and counts as full. Else prove '..UptoSaid'. A law counts once. -/
mutual
def uptoBulk {H : Type} : DataW H → Nat
  | .lit (.string bytes) => bytes.length + 1
  | .lit _ => 1
  | .nil => 1
  | .ptr d => uptoBulk d + 1
  | .slice elems spare => uptoBulkAll elems + uptoBulkAll spare + 1
  | .agg parts => uptoBulkAll parts + 1
  | .iface _ d => uptoBulk d + 1
  | .map entries => uptoBulkEntries entries + 1
  | .held _ => 1
def uptoBulkAll {H : Type} : List (DataW H) → Nat
  | [] => 0
  | d :: r => uptoBulk d + uptoBulkAll r
def uptoBulkEntries {H : Type} : List (Lit × DataW H) → Nat
  | [] => 0
  | x :: r => uptoBulkEntry x + uptoBulkEntries r
def uptoBulkEntry {H : Type} : Lit × DataW H → Nat
  | (.string bytes, d) => bytes.length + uptoBulk d + 1
  | (_, d) => uptoBulk d + 1
 end
def uptoSmall : (H : Type) → List (DataW H) → Bool := fun _ ds => decide (uptoBulkAll ds ≤ 1048576)
def OpenSpec.upto (s : _root_.Go.ChangeSpec) : _root_.Go.OpenSpec := { _root_.Go.OpenSpec.ofChange s with cond := some uptoSmall }

/-- 'canticlelaw20.CountFloats', WHERE WHAT IT READS IS OF BULK AT MOST 1048576: true; the input reads as it did. -/
def countFloatsUptoRow : OpenClaim := { program := "ythidjbobjjoekaa", sum := "f9a95040760bcd11bbaced7541d40f7bb3d9cc5e6c2930f852c8df58dd264e48", func := "canticle/canticlelaw20.CountFloats", spec := "countFloats", inPlace := ["math.Float64frombits", "math.Float64bits"], unfollowed := true, recurses := true, apart := false, narrowed := true }
def CountFloatsUptoSaid : Prop := countFloatsUptoRow.holds Try.pinned (OpenSpec.upto countFloatsSpec)

/-- 'canticlelaw20.CountSums', WHERE WHAT IT READS IS OF BULK AT MOST 1048576: true; the input reads as it did. -/
def countSumsUptoRow : OpenClaim := { program := "ythidjbobjjoekaa", sum := "f9a95040760bcd11bbaced7541d40f7bb3d9cc5e6c2930f852c8df58dd264e48", func := "canticle/canticlelaw20.CountSums", spec := "countSums", inPlace := ["math.Float64frombits", "math.Float64bits", "maps.clone"], unfollowed := true, recurses := true, apart := false, narrowed := true }
def CountSumsUptoSaid : Prop := countSumsUptoRow.holds Try.pinned (OpenSpec.upto countSumsSpec)

/-- 'canticlelaw20.CountLog', WHERE WHAT IT READS IS OF BULK AT MOST 1048576: true; the input reads as it did. -/
def countLogUptoRow : OpenClaim := { program := "ythidjbobjjoekaa", sum := "f9a95040760bcd11bbaced7541d40f7bb3d9cc5e6c2930f852c8df58dd264e48", func := "canticle/canticlelaw20.CountLog", spec := "countLog", inPlace := ["math.Float64frombits", "math.Float64bits"], unfollowed := true, recurses := true, apart := false, narrowed := true }
def CountLogUptoSaid : Prop := countLogUptoRow.holds Try.pinned (OpenSpec.upto countLogSpec)

/-- 'canticlelaw20.CountTame', WHERE WHAT IT READS IS OF BULK AT MOST 1048576: true; the input reads as it did. -/
def countTameUptoRow : OpenClaim := { program := "ythidjbobjjoekaa", sum := "f9a95040760bcd11bbaced7541d40f7bb3d9cc5e6c2930f852c8df58dd264e48", func := "canticle/canticlelaw20.CountTame", spec := "countTame", inPlace := ["math.Float64frombits", "math.Float64bits", "math.sqrt", "math.archFloor", "math.archTrunc"], unfollowed := true, recurses := true, apart := false, narrowed := true }
def CountTameUptoSaid : Prop := countTameUptoRow.holds Try.pinned (OpenSpec.upto countTameSpec)

/-- 'canticlelaw20.CountLists', WHERE WHAT IT READS IS OF BULK AT MOST 1048576: true; the input reads as it did. -/
def countListsUptoRow : OpenClaim := { program := "ythidjbobjjoekaa", sum := "f9a95040760bcd11bbaced7541d40f7bb3d9cc5e6c2930f852c8df58dd264e48", func := "canticle/canticlelaw20.CountLists", spec := "countLists", inPlace := ["math.Float64frombits", "math.Float64bits", "math.archFloor", "math.archTrunc", "math.sqrt"], unfollowed := true, recurses := true, apart := false, narrowed := true }
def CountListsUptoSaid : Prop := countListsUptoRow.holds Try.pinned (OpenSpec.upto countListsSpec)

/-- 'canticlelaw20.CountPlays', WHERE WHAT IT READS IS OF BULK AT MOST 1048576: true; the input reads as it did. -/
def countPlaysUptoRow : OpenClaim := { program := "ythidjbobjjoekaa", sum := "f9a95040760bcd11bbaced7541d40f7bb3d9cc5e6c2930f852c8df58dd264e48", func := "canticle/canticlelaw20.CountPlays", spec := "countPlays", inPlace := ["math.Float64frombits", "math.Float64bits", "maps.clone", "math.sqrt"], unfollowed := true, recurses := true, apart := false, narrowed := true }
def CountPlaysUptoSaid : Prop := countPlaysUptoRow.holds Try.pinned (OpenSpec.upto countPlaysSpec)

end Rows
end Go.Proofs.Ythidjbobjjoekaa
