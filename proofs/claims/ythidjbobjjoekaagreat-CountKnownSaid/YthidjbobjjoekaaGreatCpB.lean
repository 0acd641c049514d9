/- Entropy, the document's. Conditions: those of each theorem. -/
import Derived.Test.YthidjbobjjoekaaGreatCpA
import Derived.Test.YthidjbobjjoekaaGreatTaN
namespace Go.Proofs.YthidjbobjjoekaaGreat
open Go.RowKit Go.Lib Go.Sort Go.Shelf
set_option linter.unusedVariables false
set_option linter.unusedSimpArgs false
open Ieee (infR)
/-- a part of a whole number that is above nought is no NaN -/
theorem quo_whole (n T : Int) (h1 : 1 ≤ T) (h2 : T < 9007199254740992) : ∃ r, floatBits .quo .f64 (floatOfInt .f64 n) (floatOfInt .f64 T) = some r ∧ r < 18446744073709551616 := by
  have hn := Ieee.num_pos T.toNat (by omega) (by omega)
  have e : ((T.toNat : Nat) : Int) = T := by omega
  rw [e] at hn
  obtain ⟨r, hr, hR, _⟩ := Ieee.div_num (Ieee.intF n) (Ieee.intF T) (Ieee.intF_real n) hn.1 hn.2
  have h : floatBits .quo .f64 (floatOfInt .f64 n) (floatOfInt .f64 T) = some r := hr
  exact ⟨r, h, ar_lt Ar.quo h⟩
def quoF (T n : Int) : Option Nat := opF .quo (some (floatOfInt .f64 n)) (some (floatOfInt .f64 T))
def entT (q : Option Nat) : Option Nat := opF .mul q (opF .sub (some 0) (lgC q))
def entS (T : Int) (l : List Ent) : Option Nat := l.foldl (fun s x => opF .add s (entT (quoF T x.2))) (some 0)
theorem entS_snoc (T : Int) (l : List Ent) (x : Ent) : entS T (l ++ [x]) = opF .add (entS T l) (entT (quoF T x.2)) := by unfold entS; rw [List.foldl_append]; rfl
def entV (L : List Ent) : Option Nat := if L.length = 0 then none else (entS (sumL L) L).map zeroV
theorem quo_real {n T : Int} {r : Nat} (h : floatBits .quo .f64 (floatOfInt .f64 n) (floatOfInt .f64 T) = some r) : quoF T n = cl r := by
  rw [cl_real (ar_some Ar.quo h)]
  exact h
end Go.Proofs.YthidjbobjjoekaaGreat
