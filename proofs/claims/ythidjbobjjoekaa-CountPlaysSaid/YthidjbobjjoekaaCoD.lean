/- math.Ldexp of one. Conditions: none beyond each theorem's own. -/
import Derived.Test.YthidjbobjjoekaaCoC
import Derived.Test.YthidjbobjjoekaaFlE
namespace Go.Proofs.Ythidjbobjjoekaa
open Go.RowKit Go.Lib
attribute [local go_sem] e49 e53
set_option linter.unusedVariables false
set_option linter.unusedSimpArgs false
set_option maxHeartbeats 2000000
theorem b1023 : bits .and .i64 1023 2047 = 1023 := rfl
theorem b0 : bits .andNot .u64 4607182418800017408 9218868437227405312 = 0 := rfl
attribute [local go_sem] b1023 b0
theorem abs_one (w : World) : Calls Try.prog 63 #[.float .f64 4607182418800017408] w fun e w' => e = .returned (.float .f64 4607182418800017408) ∧ w = w' := by
  go_enter Try.func63, Try.ntmps63
  go_wp2_with fail
  go_ret
  exact ⟨rfl, rfl⟩
theorem isinf_one (w : World) : Calls Try.prog 52 #[.float .f64 4607182418800017408, .int .i64 0] w fun e w' => e = .returned (.bool false) ∧ w = w' := by
  have h1 : FloatKind.f64.format.order 4607182418800017408 9218868437227405311 = some .lt := by decide +kernel
  go_enter Try.func52, Try.ntmps52
  go_wp2_with fail
  with_reducible refine Calls.mono (abs_one _) ?_
  rintro e w' ⟨rfl, rfl⟩
  go_wp2_with fail
  go_ret
  exact ⟨rfl, rfl⟩
theorem isNaN_one (w : World) : Calls Try.prog 82 #[.float .f64 4607182418800017408] w fun e w' => e = .returned (.bool false) ∧ w = w' := by
  have h1 : FloatKind.f64.format.order 4607182418800017408 4607182418800017408 = some .eq := by decide +kernel
  go_enter Try.func82, Try.ntmps82
  go_wp2_with fail
  go_ret
  exact ⟨rfl, rfl⟩
theorem normalize_one (w : World) : Calls Try.prog 83 #[.float .f64 4607182418800017408] w fun e w' => e = .returned (.tuple #[.float .f64 4607182418800017408, .int .i64 0]) ∧ w = w' := by
  have h1 : FloatKind.f64.format.order 4607182418800017408 4503599627370496 = some .gt := by decide +kernel
  go_enter Try.func83, Try.ntmps83
  go_wp2_with fail
  with_reducible refine Calls.mono (abs_one _) ?_
  rintro e w' ⟨rfl, rfl⟩
  go_wp2_with fail
  go_ret2
  exact ⟨rfl, rfl⟩
theorem pow_bits (e : Int) (h1 : 0 ≤ e) (h2 : e < 2048) : (bits .or .u64 0 (e * 4503599627370496)).toNat = e.toNat * 2 ^ 52 := by
  have := u64_or_nat 0 (e.toNat * 2 ^ 52) (by omega) (by omega)
  rw [Nat.zero_or] at this
  have h3 : bits .or .u64 0 (e * 4503599627370496) = ((e.toNat * 2 ^ 52 : Nat) : Int) := by
    rw [← this, show e * 4503599627370496 = ((e.toNat * 2 ^ 52 : Nat) : Int) by omega]
    rfl
  rw [h3, Int.toNat_natCast]
theorem ldexp_one (k : Int) (h1 : -1074 ≤ k) (h2 : k ≤ 1023) (w : World) : Calls Try.prog 62 #[.float .f64 4607182418800017408, .int .i64 k] w fun e w' => e = .returned (.float .f64 (Ieee.powF k)) ∧ w = w' := by
  have a1 : FloatKind.f64.format.order 4607182418800017408 0 = some .gt := by decide +kernel
  go_enter Try.func62, Try.ntmps62
  go_wp2_with fail
  with_reducible refine Calls.mono (isinf_one _) ?_
  rintro e w' ⟨rfl, rfl⟩
  go_wp2_with fail
  with_reducible refine Calls.mono (isNaN_one _) ?_
  rintro e w' ⟨rfl, rfl⟩
  go_wp2_with fail
  with_reducible refine Calls.mono (normalize_one _) ?_
  rintro e w' ⟨rfl, rfl⟩
  by_cases h3 : k < -1022
  · have hm : ∀ t w, (binOp .mul t (.float .f64 4368491638549381120) (.float .f64 (bits .or .u64 0 ((k + 53 + 1023) * 4503599627370496)).toNat)).run Try.prog w = .ok (.float .f64 (Ieee.powF k)) w := fun t w => by
      rw [pow_bits _ (by omega) (by omega)]
      have e := Ieee.pow_mul2 k h1 h3
      rw [show 970 * 2 ^ 52 = 4368491638549381120 by omega, show k + 1076 = k + 53 + 1023 by omega] at e
      exact run_float_arith w .mul t .f64 _ _ _ e
    go_wp2_with fail
    go_ret
    exact ⟨rfl, rfl⟩
  · have hm : ∀ t w, (binOp .mul t (.float .f64 4607182418800017408) (.float .f64 (bits .or .u64 0 ((k + 1023) * 4503599627370496)).toNat)).run Try.prog w = .ok (.float .f64 (Ieee.powF k)) w := fun t w => by
      rw [pow_bits _ (by omega) (by omega)]
      exact run_float_arith w .mul t .f64 _ _ _ (Ieee.pow_mul1 k (by omega) h2)
    go_wp2_with fail
    go_ret
    exact ⟨rfl, rfl⟩
theorem ldexp1 (k : Int) (h1 : -1074 ≤ k) (h2 : k ≤ 1023) (w : World) : Calls Try.prog 22 #[.float .f64 4607182418800017408, .int .i64 k] w fun e w' => e = .returned (.float .f64 (Ieee.powF k)) ∧ w = w' := by
  go_enter Try.func22, Try.ntmps22
  go_wp2_with fail
  with_reducible refine Calls.mono (ldexp_one k h1 h2 _) ?_
  rintro e w' ⟨rfl, rfl⟩
  go_wp2_with fail
  go_ret
  exact ⟨rfl, rfl⟩
end Go.Proofs.Ythidjbobjjoekaa
