/- CountLog walked: it answers true of any float and power. Conditions: the bits are those of a float. -/
import Derived.Test.YthidjbobjjoekaaTaI
import Derived.Test.YthidjbobjjoekaaCoE
namespace Go.Proofs.Ythidjbobjjoekaa
open Go.RowKit Go.Lib Go.Sort Go.Shelf
set_option linter.unusedVariables false
set_option maxHeartbeats 2000000
theorem log_walk (x : Nat) (k : Int) (hx : x < 18446744073709551616) (w : World) : Calls Try.prog 5 #[.float .f64 x, .int .i64 k] w fun e w' => e = .returned (.bool true) ∧ Below w.heap.size w w' := by
  have hW := hid works_any
  have hL := hid (log2_any x hx)
  have hT := twice x hx
  have hkk : ∃ y, (-1074 ≤ k → k ≤ 1023 → (∀ w, Calls Try.prog 22 #[.float .f64 4607182418800017408, .int .i64 k] w fun e w' => e = .returned (.float .f64 y) ∧ w = w') ∧ y < 18446744073709551616 ∧ FloatKind.f64.format.order (log2V y) (floatOfInt .f64 k) = some .eq) := by
    refine ⟨Ieee.powF k, fun h1 h2 => ⟨ldexp1 k h1 h2, ?_, log2_pow k h1 h2⟩⟩
    have := (Ieee.pow_lg k h1 h2).2.1
    have hi := inf_lit
    omega
  obtain ⟨y, hy⟩ := hkk
  have hL2 := fun h => hid (log2_any y h)
  unfold ford at hT
  generalize log2V x = A at *
  generalize log2V y = Y at *
  clear hx
  go_enter Try.func5, Try.ntmps5
  go_wp2_with fail
  with_reducible refine Calls.mono (hW.out _) ?_
  rintro e w1 ⟨rfl, hb1⟩
  by_cases hk : -1074 ≤ k ∧ k ≤ 1023
  case' pos =>
    obtain ⟨y1, y2, y3⟩ := hy hk.1 hk.2
    have hD := hid y1
    have hL2 := hL2 y2
    obtain ⟨hk1, hk2⟩ := hk
    clear hy y1
    go_wp2_with fail
    with_reducible refine Calls.mono (hD.out _) ?_
    rintro e w' ⟨rfl, rfl⟩
    go_wp2_with fail
    with_reducible refine Calls.mono (hL2.out _) ?_
    rintro e w' ⟨rfl, rfl⟩
    go_wp2_with fail
  case' neg =>
    rcases (show (-1074 ≤ k ∧ 1023 < k) ∨ k < -1074 by omega) with ⟨hk1, hk2⟩ | hk1
    all_goals
      clear hy
      go_wp2_with fail
  all_goals
    with_reducible refine Calls.mono (hL.out _) ?_
    rintro e w' ⟨rfl, rfl⟩
    rcases hT with ⟨t0, t1, t2, t3⟩ | ⟨r, t1, t2, t3, ⟨t4, t5⟩ | ⟨t4, t5, t6⟩⟩
    case' inl =>
      have hm : ∀ t w, (binOp .mul t (.float .f64 x) (.float .f64 4611686018427387904)).run Try.prog w = .ok (.float .f64 (nanD w x 4611686018427387904)) w.drew := fun t w => run_float_nan .mul t _ _ t3 (.inl rfl) w
      go_wp2_with fail
      with_reducible refine Calls.mono (log2_any _ (nanD_ok _ _ _).1 _) ?_
      rintro e w' ⟨rfl, rfl⟩
      go_wp2_with fail
    case' inr.inl =>
      have hm : ∀ t w, (binOp .mul t (.float .f64 x) (.float .f64 4611686018427387904)).run Try.prog w = .ok (.float .f64 r) w := fun t w => run_float_arith w .mul t .f64 _ _ _ t1
      go_wp2_with fail
      with_reducible refine Calls.mono (log2_any _ t2 _) ?_
      rintro e w' ⟨rfl, rfl⟩
      go_wp2_with fail
    case' inr.inr =>
      have hm : ∀ t w, (binOp .mul t (.float .f64 x) (.float .f64 4611686018427387904)).run Try.prog w = .ok (.float .f64 r) w := fun t w => run_float_arith w .mul t .f64 _ _ _ t1
      have hR := hid (log2_any _ t2)
      generalize log2V r = B at *
      go_wp2_with fail
      with_reducible refine Calls.mono (hR.out _) ?_
      rintro e w' ⟨rfl, rfl⟩
      rcases t4 with t4 | t4
      all_goals
        rcases t6 with t6 | t6
        all_goals
          go_wp2_with fail
    all_goals
      with_reducible refine Calls.mono (hW.out _) ?_
      rintro e w2 ⟨rfl, hb2⟩
      go_wp2_with fail
      go_ret
      first
        | exact ⟨rfl, hb1.trans (hb2.mono hb1.size)⟩
        | exact ⟨rfl, (Below.drew hb1).trans (hb2.mono hb1.size)⟩
end Go.Proofs.Ythidjbobjjoekaa
