/- math.Ldexp of one. Conditions: none beyond each theorem's own. -/
import Derived.Test.YthidjbobjjoekaaGreatCoC
import Derived.Test.YthidjbobjjoekaaGreatFl
namespace Go.Proofs.YthidjbobjjoekaaGreat
open Go.RowKit Go.Lib
attribute [local go_sem] e49 e53
set_option linter.unusedVariables false
set_option linter.unusedSimpArgs false
set_option maxHeartbeats 2000000
theorem b1023 : bits .and .i64 1023 2047 = 1023 := rfl
theorem b0 : bits .andNot .u64 4607182418800017408 9218868437227405312 = 0 := rfl
attribute [local go_sem] b1023 b0
theorem abs_one (w : World) : Calls Tryz.prog 52 #[.float .f64 4607182418800017408] w fun e w' => e = .returned (.float .f64 4607182418800017408) ∧ w = w' := by
  go_enter Tryz.func52, Tryz.ntmps52
  go_wp2_with fail
  go_ret
  exact ⟨rfl, rfl⟩
theorem isinf_one (w : World) : Calls Tryz.prog 33 #[.float .f64 4607182418800017408, .int .i64 0] w fun e w' => e = .returned (.bool false) ∧ w = w' := by
  have h1 : FloatKind.f64.format.order 4607182418800017408 9218868437227405311 = some .lt := by decide +kernel
  go_enter Tryz.func33, Tryz.ntmps33
  go_wp2_with fail
  with_reducible refine Calls.mono (abs_one _) ?_
  rintro e w' ⟨rfl, rfl⟩
  go_wp2_with fail
  go_ret
  exact ⟨rfl, rfl⟩
theorem isNaN_one (w : World) : Calls Tryz.prog 83 #[.float .f64 4607182418800017408] w fun e w' => e = .returned (.bool false) ∧ w = w' := by
  have h1 : FloatKind.f64.format.order 4607182418800017408 4607182418800017408 = some .eq := by decide +kernel
  go_enter Tryz.func83, Tryz.ntmps83
  go_wp2_with fail
  go_ret
  exact ⟨rfl, rfl⟩
theorem pow_bits (e : Int) (h1 : 0 ≤ e) (h2 : e < 2048) : (bits .or .u64 0 (e * 4503599627370496)).toNat = e.toNat * 2 ^ 52 := by
  have := u64_or_nat 0 (e.toNat * 2 ^ 52) (by omega) (by omega)
  rw [Nat.zero_or] at this
  have h3 : bits .or .u64 0 (e * 4503599627370496) = ((e.toNat * 2 ^ 52 : Nat) : Int) := by
    rw [← this, show e * 4503599627370496 = ((e.toNat * 2 ^ 52 : Nat) : Int) by omega]
    rfl
  rw [h3, Int.toNat_natCast]
end Go.Proofs.YthidjbobjjoekaaGreat
