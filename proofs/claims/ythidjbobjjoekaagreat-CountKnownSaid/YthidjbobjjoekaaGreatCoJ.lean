/- Floats up to which NaN it is: what an operation comes to. Conditions: none beyond each theorem's own. -/
import Derived.Test.YthidjbobjjoekaaGreatCoI
namespace Go.Proofs.YthidjbobjjoekaaGreat
open Go.RowKit Go.Lib
attribute [local go_sem] e49 e53
set_option linter.unusedVariables false
set_option linter.unusedSimpArgs false
open Ieee (infR)
/-- a float, or nothing of a NaN -/
def cl (x : Nat) : Option Nat := if Ieee.rung x ≤ infR then some x else none
theorem cl_real {x : Nat} (h : Ieee.Real x) : cl x = some x := if_pos h
theorem cl_nan {x : Nat} (h : ¬ Ieee.Real x) : cl x = none := if_neg h
theorem cl_cases (x : Nat) : (Ieee.Real x ∧ cl x = some x) ∨ (¬ Ieee.Real x ∧ cl x = none) := by
  by_cases h : Ieee.rung x ≤ infR
  · exact .inl ⟨h, if_pos h⟩
  · exact .inr ⟨h, if_neg h⟩
theorem cl_some {x y : Nat} (h : cl x = some y) : y = x ∧ Ieee.Real x := by
  rcases cl_cases x with ⟨a, b⟩ | ⟨a, b⟩
  · rw [b] at h; cases h; exact ⟨rfl, a⟩
  · rw [b] at h; cases h
theorem cl_none {x : Nat} (h : cl x = none) : ¬ Ieee.Real x := by
  rcases cl_cases x with ⟨a, b⟩ | ⟨a, b⟩
  · rw [b] at h; cases h
  · exact a
inductive Ar : BinOp → Prop where
  | add : Ar .add
  | sub : Ar .sub
  | mul : Ar .mul
  | quo : Ar .quo
theorem write_real (d : Ieee.Datum) (h : d.isNaN = false) : Ieee.Real (Ieee.double.write d) := by
  cases d with
  | number n m p => exact Ieee.real_nearest _ _ _
  | infinity n => exact Ieee.real_inf _
  | nan n f => cases h
theorem ar_some {o : BinOp} (ho : Ar o) {x y r : Nat} (h : floatBits o .f64 x y = some r) : Ieee.Real r := by
  have key : ∀ (d : Option Ieee.Datum), (∀ e, d = some e → e.isNaN = false) → d.map Ieee.double.write = some r → Ieee.Real r := fun d hd hr => by
    cases d with
    | none => cases hr
    | some e => cases hr; exact write_real e (hd e rfl)
  cases ho
  · refine key _ (fun e he => ?_) h
    revert he
    cases FloatKind.f64.format.read x <;> cases FloatKind.f64.format.read y <;> simp only [Ieee.Datum.sum] <;> intro he <;> first | (cases he; rfl) | (cases he; done) | (split at he <;> first | (cases he; rfl) | (cases he; done))
  · refine key _ (fun e he => ?_) h
    revert he
    cases FloatKind.f64.format.read x <;> cases FloatKind.f64.format.read y <;> simp only [Ieee.Datum.opposite, Ieee.Datum.sum] <;> intro he <;> first | (cases he; rfl) | (cases he; done) | (split at he <;> first | (cases he; rfl) | (cases he; done))
  · refine key _ (fun e he => ?_) h
    revert he
    cases FloatKind.f64.format.read x <;> cases FloatKind.f64.format.read y <;> simp only [Ieee.Datum.product] <;> intro he <;> first | (cases he; rfl) | (cases he; done) | (split at he <;> first | (cases he; rfl) | (cases he; done))
  · refine key _ (fun e he => ?_) h
    revert he
    cases FloatKind.f64.format.read x <;> cases FloatKind.f64.format.read y <;> simp only [Ieee.Datum.quotient] <;> intro he <;> first | (cases he; rfl) | (cases he; done) | (split at he <;> first | (cases he; rfl) | (cases he; done) | (split at he <;> first | (cases he; rfl) | (cases he; done)))
theorem ar_nan {o : BinOp} (ho : Ar o) {x y : Nat} (h : ¬ Ieee.Real x ∨ ¬ Ieee.Real y) : floatBits o .f64 x y = none := by
  have e : ∀ (D E : Ieee.Datum), (D.isNaN = true ∨ E.isNaN = true) → D.sum E = none ∧ D.product E = none ∧ D.sum E.opposite = none ∧ D.quotient 54 E = none := by
    intro D E hh
    rcases hh with hh | hh
    · cases D with
      | nan => cases E <;> exact ⟨rfl, rfl, rfl, rfl⟩
      | number => cases hh
      | infinity => cases hh
    · cases E with
      | nan => cases D <;> exact ⟨rfl, rfl, rfl, rfl⟩
      | number => cases hh
      | infinity => cases hh
  have n : (FloatKind.f64.format.read x).isNaN = true ∨ (FloatKind.f64.format.read y).isNaN = true := by
    rcases h with h | h
    · obtain ⟨s, f, e⟩ := Ieee.read_nan x h
      exact .inl (by rw [show FloatKind.f64.format.read x = _ from e]; rfl)
    · obtain ⟨s, f, e⟩ := Ieee.read_nan y h
      exact .inr (by rw [show FloatKind.f64.format.read y = _ from e]; rfl)
  obtain ⟨a, b, c, d⟩ := e _ _ n
  cases ho
  · exact congrArg (Option.map _) a
  · exact congrArg (Option.map _) c
  · exact congrArg (Option.map _) b
  · exact congrArg (Option.map _) d
/-- an operation on floats up to which NaN it is -/
def opF (o : BinOp) : Option Nat → Option Nat → Option Nat
  | some x, some y => floatBits o .f64 x y
  | _, _ => none
def fr (o : BinOp) (x y : Nat) (w : World) : Nat := (floatBits o .f64 x y).getD (nanD w x y)
def fq (o : BinOp) (x y : Nat) : Nat := if (floatBits o .f64 x y).isSome then 0 else 1
theorem fr_cl {o : BinOp} (ho : Ar o) (x y : Nat) (w : World) : cl (fr o x y w) = opF o (cl x) (cl y) := by
  unfold fr
  rcases cl_cases x with ⟨a, b⟩ | ⟨a, b⟩
  · rcases cl_cases y with ⟨c, d⟩ | ⟨c, d⟩
    · rw [b, d]
      show _ = floatBits o .f64 x y
      cases h : floatBits o .f64 x y with
      | none => exact cl_nan (nanD_ok w x y).2
      | some r => exact cl_real (ar_some ho h)
    · rw [b, d, ar_nan ho (.inr c)]
      exact cl_nan (nanD_ok w x y).2
  · rw [b, ar_nan ho (.inl a)]
    exact cl_nan (nanD_ok w x y).2
theorem run_fr {o : BinOp} (ho : Ar o) (x y : Nat) (t : TypeId) (w : World) : (binOp o t (.float .f64 x) (.float .f64 y)).run Tryz.prog w = .ok (.float .f64 (fr o x y w)) (w.drewN (fq o x y)) := by
  unfold fr fq
  cases h : floatBits o .f64 x y with
  | none =>
    have h2 : o = .mul ∨ o = .quo ∨ o = .add ∨ o = .sub := by cases ho <;> simp
    exact run_float_nan o t x y h h2 w
  | some r => exact run_float_arith w o t .f64 x y r h
theorem cl_zeroV (x : Nat) : cl (zeroV x) = (cl x).map zeroV := by
  rcases cl_cases x with ⟨a, b⟩ | ⟨a, b⟩
  · rw [b]; exact cl_real (key_zeroV x a).1
  · rw [b]
    have h : zeroV x = x := by
      unfold zeroV
      rw [show ford x 0 = none from Ieee.order_nan_left x 0 a]; rfl
    rw [h]; exact b
theorem same_cl (x y : Nat) (h : cl x = cl y) (w : World) : Calls Tryz.prog 9 #[.float .f64 x, .float .f64 y] w fun e w' => e = .returned (.bool true) ∧ w = w' := by
  rcases cl_cases x with ⟨a, b⟩ | ⟨a, b⟩
  · rw [b] at h
    obtain ⟨e, _⟩ := cl_some h.symm
    subst e
    exact same_refl x w
  · rw [b] at h
    have hy := cl_none h.symm
    have h1 : FloatKind.f64.format.order x x = none := Ieee.order_nan_left x x a
    have h2 : FloatKind.f64.format.order y y = none := Ieee.order_nan_left y y hy
    clear a b h hy
    go_enter Tryz.func9, Tryz.ntmps9
    go_wp2
    go_ret
    exact ⟨rfl, rfl⟩
end Go.Proofs.YthidjbobjjoekaaGreat
