/- math.Abs, Sqrt and Floor. Conditions: none beyond each theorem's own. -/
import Derived.Test.YthidjbobjjoekaaGreatCoE
import Derived.Test.YthidjbobjjoekaaGreatFl
namespace Go.Proofs.YthidjbobjjoekaaGreat
open Go.RowKit Go.Lib
attribute [local go_sem] e49 e53
set_option linter.unusedVariables false
set_option linter.unusedSimpArgs false
open Ieee (infR)
theorem abs_bits (x : Nat) (hx : x < 18446744073709551616) : (bits .andNot .u64 (x : Int) 9223372036854775808).toNat = Ieee.rung x := by
  have h := u64_andNot_nat x 9223372036854775808 hx (by omega)
  have e : x &&& (18446744073709551615 - 9223372036854775808) = x % 2 ^ 63 := Nat.and_two_pow_sub_one_eq_mod x 63
  rw [e] at h
  have h' : bits .andNot .u64 (x : Int) 9223372036854775808 = ((x % 2 ^ 63 : Nat) : Int) := h
  rw [h', Int.toNat_natCast]
  rfl
theorem abs_any (x : Nat) (hx : x < 18446744073709551616) (w : World) : Calls Tryz.prog 52 #[.float .f64 x] w fun e w' => e = .returned (.float .f64 (Ieee.rung x)) ∧ w = w' := by
  have h := abs_bits x hx
  go_enter Tryz.func52, Tryz.ntmps52
  go_wp2_with fail
  go_ret
  exact ⟨rfl, rfl⟩
theorem e85 (x r : Nat) (h : Ieee.double.sqrt x = some r) (w : World) : (callFunc 54 #[.float .f64 x]).run Tryz.prog w = .ok (.value (.float .f64 r)) w := by
  rw [run_callFunc_extern Tryz.func54 (by kernel_rfl) (by kernel_rfl) (by kernel_rfl) (e := Extern.MathSqrt.sqrt) (by kernel_rfl)]
  have h' : FloatKind.f64.format.sqrt x = some r := h
  have e : Extern.MathSqrt.sqrt #[.float .f64 x] = (match FloatKind.f64.format.sqrt x with
    | some r => (pure (.float .f64 r) : Sem Value)
    | none => do pure (.float .f64 (← choose (.nanBits .f64 x x)))) := rfl
  rw [h'] at e
  rw [e]
  rfl
theorem sqrt_any (x : Nat) (hp : Ieee.Pos x) : ∃ r, Ieee.Pos r ∧ ∀ w, Calls Tryz.prog 37 #[.float .f64 x] w fun e w' => e = .returned (.float .f64 r) ∧ w = w' := by
  obtain ⟨r, e, h⟩ := Ieee.sqrt_pos x hp
  refine ⟨r, h, fun w => ?_⟩
  have E := e85 x r e
  go_enter Tryz.func37, Tryz.ntmps37
  go_wp2_with fail
  go_ret
  exact ⟨rfl, rfl⟩
theorem e88 (x : Nat) (hx : Ieee.rung x < infR) (hp : 0 ≤ Ieee.key x) (w : World) : (callFunc 57 #[.float .f64 x]).run Tryz.prog w = .ok (.value (.float .f64 (Ieee.flW x))) w := by
  rw [run_callFunc_extern Tryz.func57 (by kernel_rfl) (by kernel_rfl) (by kernel_rfl) (e := Extern.MathFloor.toIntegral "math.archFloor" .down) (by kernel_rfl)]
  have h := Ieee.flW_write x hx hp
  obtain ⟨m, k, e, _⟩ := Ieee.read_num x hx
  have e' : FloatKind.f64.decode x = .number (Ieee.sgn x) m (Ieee.double.leastPlace + (k : Nat)) := e
  rw [e] at h
  have h' : FloatKind.f64.encode (Ieee.Datum.integral .down (.number (Ieee.sgn x) m (Ieee.double.leastPlace + (k : Nat)))) = Ieee.flW x := h
  have E : ∀ D : Ieee.Datum, FloatKind.f64.decode x = D → (D matches .number ..) = true → Extern.MathFloor.toIntegral "math.archFloor" .down #[.float .f64 x] = (pure (.float .f64 (FloatKind.f64.encode (D.integral .down))) : Sem Value) := by
    intro D hD hn
    subst hD
    show (match FloatKind.f64.decode x with
      | .nan s t => _
      | d => (pure (.float .f64 (FloatKind.f64.encode (d.integral .down))) : Sem Value)) = _
    split
    · rename_i hh; rw [hh] at hn; cases hn
    · rfl
  rw [E _ e' rfl, h']
  rfl
theorem floor_any (x : Nat) (hx : Ieee.rung x < infR) (hp : 0 ≤ Ieee.key x) (w : World) : Calls Tryz.prog 40 #[.float .f64 x] w fun e w' => e = .returned (.float .f64 (Ieee.flW x)) ∧ w = w' := by
  have E := e88 x hx hp
  clear hx hp
  go_enter Tryz.func40, Tryz.ntmps40
  go_wp2_with fail
  go_ret
  exact ⟨rfl, rfl⟩
/-- a float that is not too great -/
def Tame (x : Nat) : Prop := Ieee.rung x ≤ 1123 * 2 ^ 52
theorem tame_lit : 1123 * 2 ^ 52 = 5057542381537067008 := by omega
theorem tame_ord (x : Nat) : (Tame x ∧ (FloatKind.f64.format.order (Ieee.rung x) 5057542381537067008 = some .lt ∨ FloatKind.f64.format.order (Ieee.rung x) 5057542381537067008 = some .eq)) ∨
    (¬ Tame x ∧ (FloatKind.f64.format.order (Ieee.rung x) 5057542381537067008 = some .gt ∨ FloatKind.f64.format.order (Ieee.rung x) 5057542381537067008 = none)) := by
  have hi : infR = 2047 * 2 ^ 52 := rfl
  have hl := tame_lit
  by_cases hr : Ieee.rung x ≤ infR
  · have ho : FloatKind.f64.format.order (Ieee.rung x) 5057542381537067008 = some (compare (Ieee.rung x : Int) (5057542381537067008 : Nat)) := Ieee.order_pos _ _ hr (by omega)
    rw [ho]
    unfold Tame
    rcases Int.lt_trichotomy (Ieee.rung x : Int) (5057542381537067008 : Nat) with h | h | h
    · exact .inl ⟨by omega, .inl (by rw [Ieee.cmp_lt h])⟩
    · exact .inl ⟨by omega, .inr (by rw [Ieee.cmp_eq h])⟩
    · exact .inr ⟨by omega, .inl (by rw [Ieee.cmp_gt h])⟩
  · refine .inr ⟨by unfold Tame; omega, .inr (Ieee.order_nan_left _ _ ?_)⟩
    unfold Ieee.Real
    have : Ieee.rung (Ieee.rung x) = Ieee.rung x := by unfold Ieee.rung; exact Nat.mod_mod _ _
    rw [this]
    exact hr
end Go.Proofs.YthidjbobjjoekaaGreat
