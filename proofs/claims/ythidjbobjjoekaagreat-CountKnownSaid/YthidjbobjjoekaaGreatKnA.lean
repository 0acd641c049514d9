/- What the document's examples come to, as numbers. No program walked. Conditions: none. -/
import Derived.Test.YthidjbobjjoekaaGreatCpH
import Derived.Test.YthidjbobjjoekaaGreatCoR
import Derived.Test.YthidjbobjjoekaaGreatCoO
import Derived.Test.YthidjbobjjoekaaGreatTaI
namespace Go.Proofs.YthidjbobjjoekaaGreat
open Go.RowKit Go.Lib Go.Sort Go.Shelf
set_option linter.unusedVariables false
set_option linter.unusedSimpArgs false
abbrev one : List Ent := [(kA, 1), (kB, 1)]
abbrev two : List Ent := [(kA, 4), (kB, 2)]
abbrev three : List Ent := [(kC, 3)]
theorem v_mean : meanV [9223372036854775808] = cl 0 := by decide +kernel
theorem v_spr2 : sprV [4607182418800017408, 4613937818241073152] = cl 4607182418800017408 := by decide +kernel
theorem v_spr1 : sprV [4617315517961601024] = cl 0 := by decide +kernel
theorem v_sl1 : (slV [0, 4607182418800017408, 4611686018427387904] [4607182418800017408, 4613937818241073152, 4617315517961601024]) = (cl 4611686018427387904, 0) := by decide +kernel
theorem v_sl2 : (slV [4607182418800017408, 4607182418800017408] [0, 4607182418800017408]) = (none, 0) := by decide +kernel
theorem v_sl3 : (slV [4607182418800017408] [4607182418800017408]) = (some 0, 4) := by decide +kernel
theorem v_sl4 : (slV [4607182418800017408] []) = (some 0, 2) := by decide +kernel
theorem v_ent : entV one = cl 4607182418800017408 := by decide +kernel
theorem v_zip1 : zipV one = (cl 0, 0) := by decide +kernel
theorem v_zip2 : zipV two = (cl 13830554455654793216, 0) := by decide +kernel
theorem v_zip3 : zipV three = (some 0, 4) := by decide +kernel
theorem v_cos1 : cosV one three [kA, kB, kC] = cl 0 := by decide +kernel
theorem v_cos2 : cosV three three [kC] = cl 4607182418800017408 := by decide +kernel
theorem v_bins1 : binsC [4611686018427387904, 4616189618054758400] [4607182418800017408, 4611686018427387904, 4611686018427387904, nanV, 4617315517961601024] = [1, 2, 1, 1] := by decide +kernel
theorem v_bins2 : binsC [] [4607182418800017408, 4611686018427387904, 4611686018427387904, nanV, 4617315517961601024] = [4, 1] := by decide +kernel
end Go.Proofs.YthidjbobjjoekaaGreat
