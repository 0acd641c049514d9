/- The small functions of floats: math's words on bits, told, same, Order in both hands. Conditions: none. -/
import Derived.Test.YthidjbobjjoekaaGreatProg
import Derived.Test.YthidjbobjjoekaaGreatFl
import Derived.Laws.FloatArith
import Derived.Laws.Externs
import Derived.WalkKit
import Derived.WalkSpells
import Derived.WalkLawsBesides
import Derived.Outline
import Derived.Lib.Hide
namespace Go.Proofs.YthidjbobjjoekaaGreat
open Go.RowKit Go.Lib
set_option linter.unusedVariables false
set_option linter.unusedSimpArgs false
theorem e49 (x : Nat) (w : World) : (callFunc 32 #[.float .f64 x]).run Tryz.prog w = .ok (.value (.int .u64 x)) w := by
  rw [run_callFunc_extern Tryz.func32 (by kernel_rfl) (by kernel_rfl) (by kernel_rfl) (e := Extern.MathFloatBits.float64bits) (by kernel_rfl)]; rfl
theorem e53 (n : Int) (w : World) : (callFunc 8 #[.int .u64 n]).run Tryz.prog w = .ok (.value (.float .f64 n.toNat)) w := by
  rw [run_callFunc_extern Tryz.func8 (by kernel_rfl) (by kernel_rfl) (by kernel_rfl) (e := Extern.MathFloatBits.float64frombits) (by kernel_rfl)]; rfl
attribute [local go_sem] e49 e53
abbrev ford (x y : Nat) : Option Ordering := FloatKind.f64.format.order x y
theorem ord_self (x : Nat) : ford x x = some .eq ∨ ford x x = none := by
  by_cases h : Ieee.Real x
  · exact .inl (Ieee.order_self x h)
  · exact .inr (Ieee.order_nan_left x x h)
theorem same_refl (x : Nat) (w : World) : Calls Tryz.prog 9 #[.float .f64 x, .float .f64 x] w fun e w' => e = .returned (.bool true) ∧ w = w' := by
  rcases ord_self x with h | h
  all_goals
    unfold ford at h
    go_enter Tryz.func9, Tryz.ntmps9
    go_wp2
    go_ret
    exact ⟨rfl, rfl⟩
/-- a nought without a sign -/
def zeroV (x : Nat) : Nat := if ford x 0 == some .eq then 0 else x
theorem told_any (x : Nat) (w : World) : Calls Tryz.prog 34 #[.float .f64 x] w fun e w' => e = .returned (.float .f64 (zeroV x)) ∧ w = w' := by
  unfold zeroV
  cases h : (ford x 0 == some .eq)
  all_goals
    unfold ford at h
    go_enter Tryz.func34, Tryz.ntmps34
    go_wp2
    go_ret
    exact ⟨rfl, rfl⟩
def nanV : Nat := 9221120237041090561
def minfV : Nat := 18442240474082181120
theorem nan_any (w : World) : Calls Tryz.prog 7 #[] w fun e w' => e = .returned (.float .f64 nanV) ∧ w = w' := by
  go_enter Tryz.func7, Tryz.ntmps7
  go_wp2
  go_ret
  exact ⟨rfl, rfl⟩
theorem minf_any (w : World) : Calls Tryz.prog 5 #[.int .i64 (-1)] w fun e w' => e = .returned (.float .f64 minfV) ∧ w = w' := by
  go_enter Tryz.func5, Tryz.ntmps5
  go_wp2
  go_ret
  exact ⟨rfl, rfl⟩
theorem isinf_any (x : Nat) (w : World) : Calls Tryz.prog 33 #[.float .f64 x, .int .i64 1] w fun e w' => e = .returned (.bool (ford x 9218868437227405311 == some .gt)) ∧ w = w' := by
  go_enter Tryz.func33, Tryz.ntmps33
  go_wp2
  go_ret
  exact ⟨rfl, rfl⟩
theorem isnan_any (x : Nat) (w : World) : Calls Tryz.prog 53 #[.float .f64 x] w fun e w' => e = .returned (.bool (ford x x != some .eq)) ∧ w = w' := by
  go_enter Tryz.func53, Tryz.ntmps53
  go_wp2
  go_ret
  exact ⟨rfl, rfl⟩
/-- Order's number -/
def ordN : Option Ordering → Option Ordering → Option Ordering → Int
  | none, none, _ => 0
  | none, _, _ => -1
  | _, none, _ => 1
  | _, _, some .lt => -1
  | _, _, some .gt => 1
  | _, _, _ => 0
def ordV (x y : Nat) : Int := ordN (ford x x) (ford y y) (ford x y)
theorem ord_cases (x y : Nat) : (ford x x = none ∧ ford y y = none ∧ ford x y = none) ∨ (ford x x = none ∧ ford y y = some .eq ∧ ford x y = none) ∨ (ford x x = some .eq ∧ ford y y = none ∧ ford x y = none) ∨
    (ford x x = some .eq ∧ ford y y = some .eq ∧ (ford x y = some .lt ∨ ford x y = some .eq ∨ ford x y = some .gt)) := by
  by_cases hx : Ieee.Real x
  · by_cases hy : Ieee.Real y
    · refine .inr (.inr (.inr ⟨Ieee.order_self x hx, Ieee.order_self y hy, ?_⟩))
      have h : ford x y = some (compare (Ieee.key x) (Ieee.key y)) := Ieee.order_key x y hx hy
      rw [h]
      cases compare (Ieee.key x) (Ieee.key y)
      · exact .inl rfl
      · exact .inr (.inl rfl)
      · exact .inr (.inr rfl)
    · exact .inr (.inr (.inl ⟨Ieee.order_self x hx, Ieee.order_nan_left y y hy, Ieee.order_nan_right x y hy⟩))
  · by_cases hy : Ieee.Real y
    · exact .inr (.inl ⟨Ieee.order_nan_left x x hx, Ieee.order_self y hy, Ieee.order_nan_left x y hx⟩)
    · exact .inl ⟨Ieee.order_nan_left x x hx, Ieee.order_nan_left y y hy, Ieee.order_nan_left x y hx⟩
theorem fcmp_any (x y : Nat) (w : World) : Calls Tryz.prog 35 #[.float .f64 x, .float .f64 y] w fun e w' => e = .returned (.int .i64 (ordV x y)) ∧ w = w' := by
  have hX := hid (isnan_any x w)
  have hY := hid (isnan_any y w)
  unfold ordV
  rcases ord_cases x y with ⟨h1, h2, h3⟩ | ⟨h1, h2, h3⟩ | ⟨h1, h2, h3⟩ | ⟨h1, h2, h3 | h3 | h3⟩
  all_goals
    rw [h1, h2, h3]
    rw [h1] at hX
    rw [h2] at hY
    unfold ford at h1 h2 h3
    go_enter Tryz.func35, Tryz.ntmps35
    go_wp2_with fail
    with_reducible refine Calls.mono hX.out ?_
    rintro e w' ⟨rfl, rfl⟩
    clear hX
    go_wp2_with fail
    with_reducible refine Calls.mono hY.out ?_
    rintro e w' ⟨rfl, rfl⟩
    clear hY
    go_wp2
    go_ret
    exact ⟨rfl, rfl⟩
theorem order_any (x y : Nat) (w : World) : Calls Tryz.prog 11 #[.float .f64 x, .float .f64 y] w fun e w' => e = .returned (.int .i64 (ordV x y)) ∧ w = w' := by
  have hX := hid (fcmp_any x y w)
  go_enter Tryz.func11, Tryz.ntmps11
  go_wp2_with fail
  with_reducible refine Calls.mono hX.out ?_
  rintro e w' ⟨rfl, rfl⟩
  go_wp2
  go_ret
  exact ⟨rfl, rfl⟩
end Go.Proofs.YthidjbobjjoekaaGreat
