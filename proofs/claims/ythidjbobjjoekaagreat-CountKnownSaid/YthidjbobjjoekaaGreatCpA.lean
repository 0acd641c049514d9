/- Rate of a tally in both hands; the class of a logarithm; floats below 2^64. Conditions: those of each theorem. -/
import Derived.Test.YthidjbobjjoekaaGreatTaQ
import Derived.Test.YthidjbobjjoekaaGreatCoP
import Derived.Test.YthidjbobjjoekaaGreatCoL
namespace Go.Proofs.YthidjbobjjoekaaGreat
open Go.RowKit Go.Lib Go.Sort Go.Shelf
set_option linter.unusedVariables false
set_option linter.unusedSimpArgs false
open Ieee (infR)
theorem ar_lt {o : BinOp} (ho : Ar o) {x y r : Nat} (h : floatBits o .f64 x y = some r) : r < 18446744073709551616 := by
  have key : ∀ (d : Option Ieee.Datum), (∀ e, d = some e → e.isNaN = false) → d.map Ieee.double.write = some r → r < 18446744073709551616 := fun d hd hr => by
    cases d with
    | none => cases hr
    | some e => cases hr; exact write_lt e (hd e rfl)
  cases ho
  · refine key _ (fun e he => ?_) h
    revert he
    cases FloatKind.f64.format.read x <;> cases FloatKind.f64.format.read y <;> simp only [Ieee.Datum.sum] <;> intro he <;> first | (cases he; rfl) | (cases he; done) | (split at he <;> first | (cases he; rfl) | (cases he; done))
  · refine key _ (fun e he => ?_) h
    revert he
    cases FloatKind.f64.format.read x <;> cases FloatKind.f64.format.read y <;> simp only [Ieee.Datum.opposite, Ieee.Datum.sum] <;> intro he <;> first | (cases he; rfl) | (cases he; done) | (split at he <;> first | (cases he; rfl) | (cases he; done))
  · refine key _ (fun e he => ?_) h
    revert he
    cases FloatKind.f64.format.read x <;> cases FloatKind.f64.format.read y <;> simp only [Ieee.Datum.product] <;> intro he <;> first | (cases he; rfl) | (cases he; done) | (split at he <;> first | (cases he; rfl) | (cases he; done))
  · refine key _ (fun e he => ?_) h
    revert he
    cases FloatKind.f64.format.read x <;> cases FloatKind.f64.format.read y <;> simp only [Ieee.Datum.quotient] <;> intro he <;> first | (cases he; rfl) | (cases he; done) | (split at he <;> first | (cases he; rfl) | (cases he; done) | (split at he <;> first | (cases he; rfl) | (cases he; done)))
theorem fr_lt {o : BinOp} (ho : Ar o) (x y : Nat) (w : World) : fr o x y w < 18446744073709551616 := by
  unfold fr
  cases h : floatBits o .f64 x y with
  | none => exact (nanD_ok w x y).1
  | some r => exact ar_lt ho h
theorem int_lt (n : Int) : floatOfInt .f64 n < 18446744073709551616 := by
  have h : floatOfInt .f64 n = Ieee.double.write (.number (decide (n < 0)) n.natAbs 0) := rfl
  rw [h]
  exact write_lt _ rfl
theorem add_lt {x y r : Nat} (h : Ieee.double.add x y = some r) : r < 18446744073709551616 := ar_lt Ar.add (x := x) (y := y) h
theorem lsN_lt (t : Nat × Nat × Nat) (h : t.2.1 < 18446744073709551616) : ∀ k, (Ieee.lsN k t).2.1 < 18446744073709551616
  | 0 => h
  | k + 1 => by
    have ih := lsN_lt t h k
    show (Ieee.ls (Ieee.lsN k t)).2.1 < _
    generalize Ieee.lsN k t = u at *
    unfold Ieee.ls
    split
    · show (Option.getD _ 0) < _
      cases hh : Ieee.double.add u.2.1 ((Ieee.double.div u.2.2 Ieee.TWO).getD 0) with
      | none => show (0 : Nat) < _; omega
      | some r => exact add_lt hh
    · exact ih
theorem zeroV_lt {x : Nat} (h : x < 18446744073709551616) : zeroV x < 18446744073709551616 := by
  unfold zeroV
  split
  · omega
  · exact h
theorem log2V_lt (x : Nat) (hx : x < 18446744073709551616) : log2V x < 18446744073709551616 := by
  unfold log2V
  split
  · unfold nanV; omega
  split
  · unfold nanV; omega
  split
  · unfold minfV; omega
  split
  · exact hx
  · exact zeroV_lt (lsN_lt _ (int_lt _) _)
/-- the class of a logarithm -/
def lgC : Option Nat → Option Nat
  | some r => cl (log2V r)
  | none => none
theorem lg_cl (x : Nat) : cl (log2V x) = lgC (cl x) := by
  rcases cl_cases x with ⟨a, b⟩ | ⟨a, b⟩
  · rw [b]; rfl
  · rw [b]
    have h1 : ford x x = none := Ieee.order_nan_left x x a
    unfold log2V
    rw [if_pos h1]
    exact cl_nanV
def rateV (L : List Ent) : Option Nat := if L.length = 0 then none else opF .quo (some (floatOfInt .f64 (L.length : Int))) (some (floatOfInt .f64 (sumL L)))
theorem len_tests {n : Nat} : (n = 0 ∧ ((n : Int) == 0) = true ∧ (n == 0) = true) ∨ (n ≠ 0 ∧ ((n : Int) == 0) = false ∧ (n == 0) = false) := by
  rcases Nat.eq_zero_or_pos n with h | h
  · exact .inl ⟨h, by rw [beq_iff_eq]; omega, by rw [beq_iff_eq]; exact h⟩
  · exact .inr ⟨by omega, by rw [beq_eq_false_iff_ne]; omega, by rw [beq_eq_false_iff_ne]; omega⟩
theorem rate41 {w : World} {b m : Nat} {L : List Ent} (h : Tal w b m L) :
    Calls Tryz.prog 30 #[.pointer (some ⟨b, 0, none⟩)] w fun e w' => ∃ r q, e = .returned (.float .f64 r) ∧ cl r = rateV L ∧ w' = w.drewN q := by
  have hL := hid (len_any h)
  have hS := hid (total_any h)
  have hquo := hid (fun t w => run_fr Ar.quo (floatOfInt .f64 (L.length : Int)) (floatOfInt .f64 (sumL L)) t w)
  have hc := hid (fun w => fr_cl Ar.quo (floatOfInt .f64 (L.length : Int)) (floatOfInt .f64 (sumL L)) w)
  rw [cl_num, cl_num] at hc
  unfold rateV
  clear h
  generalize sumL L = S at *
  generalize L.length = n at *
  rcases len_tests (n := n) with ⟨h1, h2, h3⟩ | ⟨h1, h2, h3⟩
  · rw [if_pos h1]
    clear h1
    go_enter Tryz.func30, Tryz.ntmps30
    go_wp2_with fail
    with_reducible refine Calls.mono hL.out ?_
    rintro e w' ⟨rfl, rfl⟩
    go_wp2_with fail
    with_reducible refine Calls.mono (nan_any _) ?_
    rintro e w' ⟨rfl, rfl⟩
    go_wp2_with fail
    go_ret
    exact ⟨_, 0, rfl, cl_nanV, rfl⟩
  · rw [if_neg h1]
    clear h1
    have hq := hquo.out
    go_enter Tryz.func30, Tryz.ntmps30
    go_wp2_with fail
    with_reducible refine Calls.mono hL.out ?_
    rintro e w' ⟨rfl, rfl⟩
    go_wp2_with fail
    with_reducible refine Calls.mono hL.out ?_
    rintro e w' ⟨rfl, rfl⟩
    go_wp2_with fail
    with_reducible refine Calls.mono hS.out ?_
    rintro e w' ⟨rfl, rfl⟩
    go_wp2_with fail
    go_ret
    exact ⟨_, _, rfl, hc.out _, rfl⟩
end Go.Proofs.YthidjbobjjoekaaGreat
