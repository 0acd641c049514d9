/- CountFloats walked: it answers true of any floats. Conditions: the bits are those of floats. -/
import Derived.Test.YthidjbobjjoekaaTaI
namespace Go.Proofs.Ythidjbobjjoekaa
open Go.RowKit Go.Lib Go.Sort Go.Shelf
set_option linter.unusedVariables false
theorem floats_walk (x y : Nat) (hx : x < 18446744073709551616) (w : World) : Calls Try.prog 3 #[.float .f64 x, .float .f64 y] w fun e w' => e = .returned (.bool true) ∧ Below w.heap.size w w' := by
  have hW := hid works_any
  have hL := hid (log2_any x hx)
  have hR := hid (rlog2_any x hx)
  have hS := hid (same_refl (log2V x))
  have hO := hid (order_any x y)
  have hP := hid (rorder_any x y)
  generalize log2V x = l at *
  generalize ordV x y = o at *
  clear hx
  go_enter Try.func3, Try.ntmps3
  go_wp2_with fail
  with_reducible refine Calls.mono (hW.out _) ?_
  rintro e w1 ⟨rfl, hb1⟩
  go_wp2_with fail
  with_reducible refine Calls.mono (hL.out _) ?_
  rintro e w' ⟨rfl, rfl⟩
  go_wp2_with fail
  with_reducible refine Calls.mono (hR.out _) ?_
  rintro e w' ⟨rfl, rfl⟩
  go_wp2_with fail
  with_reducible refine Calls.mono (hS.out _) ?_
  rintro e w' ⟨rfl, rfl⟩
  go_wp2_with fail
  with_reducible refine Calls.mono (hO.out _) ?_
  rintro e w' ⟨rfl, rfl⟩
  go_wp2_with fail
  with_reducible refine Calls.mono (hP.out _) ?_
  rintro e w' ⟨rfl, rfl⟩
  go_wp2_with fail
  with_reducible refine Calls.mono (hW.out _) ?_
  rintro e w2 ⟨rfl, hb2⟩
  go_wp2_with fail
  go_ret
  exact ⟨rfl, hb1.trans (hb2.mono hb1.size)⟩
end Go.Proofs.Ythidjbobjjoekaa
