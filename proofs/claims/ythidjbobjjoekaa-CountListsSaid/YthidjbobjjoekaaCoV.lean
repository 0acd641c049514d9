/- Both hands' Quantile as one statement. Conditions: none beyond each theorem's own. -/
import Derived.Test.YthidjbobjjoekaaCoT
import Derived.Test.YthidjbobjjoekaaCoU
import Derived.Test.YthidjbobjjoekaaCoR
namespace Go.Proofs.Ythidjbobjjoekaa
open Go.RowKit Go.Lib Go.Sort Go.Shelf
set_option linter.unusedVariables false
set_option linter.unusedSimpArgs false
open Ieee (infR ONE)
/-- .. at one place and part -/
def QrAt (xs : List Nat) (q i f v : Nat) : Prop := ((¬ InQ q ∨ xs.length = 0) ∧ v = 0) ∨ (InQ q ∧ 1 ≤ xs.length ∧ ∃ ys, SrtP xs ys ∧ cl v = quV ys i f)
theorem QrAt.same {xs : List Nat} {q i f v v' : Nat} (h : QrAt xs q i f v) (h' : QrAt xs q i f v') (hb : ∀ x ∈ xs, x < 18446744073709551616) (hf : Ieee.Pos f) (hff : Ieee.rung f < infR) : cl v = cl v' := by
  rcases h with ⟨a, rfl⟩ | ⟨a, b, ys, s, e⟩
  · rcases h' with ⟨_, rfl⟩ | ⟨a', b', _⟩
    · rfl
    · rcases a with a | a
      · exact absurd a' a
      · omega
  · rcases h' with ⟨a', _⟩ | ⟨_, _, zs, s', e'⟩
    · rcases a' with a' | a'
      · exact absurd a a'
      · omega
    · rw [e, e']
      exact quV_same s s' hb i f hf hff
/-- one place and part for both hands -/
theorem quant_both (xs : List Nat) (q : Nat) (hl : xs.length * 8 ≤ 140737488355328) : ∃ (QE : Int) (i f : Nat), Ieee.Pos f ∧ Ieee.rung f < infR ∧
    (∀ (w : World) (p : Option Addr) (c : Nat), FloatsIn w p xs → Calls Try.prog 26 #[.slice p xs.length c, .float .f64 q] w fun e w' => Below w.heap.size w w' ∧ ∃ v, e = .returned (.tuple #[.float .f64 v, .int .i64 QE]) ∧ QrAt xs q i f v) ∧
    (∀ (w : World) (p : Option Addr) (c : Nat), FloatsIn w p xs → Calls Try.prog 28 #[.slice p xs.length c, .float .f64 q] w fun e w' => Below w.heap.size w w' ∧ ∃ v, e = .returned (.tuple #[.float .f64 v, .int .i64 QE]) ∧ QrAt xs q i f v) := by
  have z := Ieee.real_pos 0 (Nat.zero_le _)
  have zp : Ieee.Pos 0 := ⟨z.1, by rw [z.2.2.2]; exact Int.le_refl _⟩
  by_cases hq : InQ q
  · by_cases h0 : xs.length = 0
    · refine ⟨4, 0, 0, zp, by rw [z.2.2.1]; decide, fun w p c h => ?_, fun w p c h => ?_⟩
      · rw [h0]
        exact (quant_none w p c q hq).mono fun _ _ ⟨a, b⟩ => ⟨by subst b; exact Below.refl _ _, 0, a, .inl ⟨.inr h0, rfl⟩⟩
      · rw [h0]
        exact (rquant_none w p c q hq).mono fun _ _ ⟨a, b⟩ => ⟨by subst b; exact Below.refl _ _, 0, a, .inl ⟨.inr h0, rfl⟩⟩
    · obtain ⟨WH⟩ := where_any q (xs.length - 1) hq (by omega)
      refine ⟨0, WH.i, WH.f, WH.fpos, WH.ffin, fun w p c h => ?_, fun w p c h => ?_⟩
      · exact (quant26 w p c xs q h (by omega) hl hq WH).mono fun _ _ ⟨a, ys, v, s, b, d⟩ => ⟨a, v, b, .inr ⟨hq, by omega, ys, s, d⟩⟩
      · exact (quant28 w p c xs q h (by omega) hl hq WH).mono fun _ _ ⟨a, ys, v, s, b, d⟩ => ⟨a, v, b, .inr ⟨hq, by omega, ys, s, d⟩⟩
  · refine ⟨2, 0, 0, zp, by rw [z.2.2.1]; decide, fun w p c h => ?_, fun w p c h => ?_⟩
    · exact (quant_out w _ q hq).mono fun _ _ ⟨a, b⟩ => ⟨by subst b; exact Below.refl _ _, 0, a, .inl ⟨.inl hq, rfl⟩⟩
    · exact (rquant_out w _ q hq).mono fun _ _ ⟨a, b⟩ => ⟨by subst b; exact Below.refl _ _, 0, a, .inl ⟨.inl hq, rfl⟩⟩
end Go.Proofs.Ythidjbobjjoekaa
