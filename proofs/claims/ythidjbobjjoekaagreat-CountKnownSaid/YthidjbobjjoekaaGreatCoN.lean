/- The document's Bins. Conditions: none beyond each theorem's own. -/
import Derived.Test.YthidjbobjjoekaaGreatCoM
import Derived.Deep.QuietTactic
import Derived.BigQuiet
namespace Go.Proofs.YthidjbobjjoekaaGreat
open Go.RowKit Go.Lib
set_option linter.unusedVariables false
set_option linter.unusedSimpArgs false
set_option maxHeartbeats 600000
open Ieee (infR)
theorem nn_ne (o : Ordering) : ((none : Option Ordering) != some o) = true := by cases o <;> rfl
theorem nn_eq (o : Ordering) : ((none : Option Ordering) == some o) = false := by cases o <;> rfl
attribute [local go_sem] nn_ne nn_eq
theorem Cnt.drewN {w0 w : World} {g n k : Nat} {cs : List Int} (h : Cnt w0 w g n cs k) (q : Nat) : Cnt w0 (w.drewN q) g n cs k := ⟨h.own, h.len, h.bd, below_drewN h.low q⟩
end Go.Proofs.YthidjbobjjoekaaGreat
