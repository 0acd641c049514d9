/- The document's Log2 of a positive number, and both hands' Log2 of any number. Conditions: none beyond each theorem's own. -/
import Derived.Test.YthidjbobjjoekaaGreatCoB
namespace Go.Proofs.YthidjbobjjoekaaGreat
open Go.RowKit Go.Lib
attribute [local go_sem] e49 e53
set_option linter.unusedVariables false
set_option linter.unusedSimpArgs false
open Ieee (lsN ls LsOk lgE lgF lgK ONE TWO infR)
/-- how the document brings a number between 1 and 2: by halves, then by doubles -/
structure Ways (x : Nat) where
  A : Nat
  H : Nat → Nat
  B : Nat
  D : Nat → Nat
  h0 : H 0 = x
  hh : ∀ n, n < A → Ieee.double.div (H n) TWO = some (H (n + 1)) ∧ TWO ≤ H n ∧ H n < infR
  hA : H A < TWO
  d0 : D 0 = H A
  dd : ∀ n, n < B → Ieee.double.mul (D n) TWO = some (D (n + 1)) ∧ D n < ONE
  dB : D B = ONE + lgF x
  he : (A : Int) - B = lgE x
  bA : A ≤ 5000
  bB : B ≤ 5000
theorem ways (x : Nat) (h0 : 0 < x) (hx : x < infR) : Nonempty (Ways x) := by
  have hi : infR = 2047 * 2 ^ 52 := rfl
  have hO : ONE = 1023 * 2 ^ 52 := rfl
  have hT : TWO = 1024 * 2 ^ 52 := rfl
  have hF := Ieee.lgF_lt x h0
  by_cases h1 : x < 2 ^ 52
  · refine ⟨⟨0, fun _ => x, lgK x + 1022, Ieee.up x, rfl, fun n hn => absurd hn (by omega), by show x < TWO; omega, by simp [Ieee.up], fun n hn => ⟨(Ieee.up_step x h0 h1 n hn).1, (Ieee.up_step x h0 h1 n hn).2.2⟩, Ieee.up_end x h0 h1, ?_, by omega, ?_⟩⟩
    · unfold lgE; rw [if_pos h1]; omega
    · have := (Ieee.lgK_pos x h0 h1).2; omega
  · have hE := Nat.div_add_mod x (2 ^ 52)
    have hf : lgF x = x % 2 ^ 52 := by unfold lgF; rw [if_neg h1]
    have he : lgE x = (x / 2 ^ 52 : Nat) - 1023 := by unfold lgE; rw [if_neg h1]
    have h2 : x / 2 ^ 52 < 2047 := by omega
    have h3 : 1 ≤ x / 2 ^ 52 := by omega
    rw [← hf] at hE
    generalize x / 2 ^ 52 = E at *
    have hx' : x = E * 2 ^ 52 + lgF x := by omega
    by_cases h4 : 1023 ≤ E
    · refine ⟨⟨E - 1023, fun n => (E - n) * 2 ^ 52 + lgF x, 0, fun _ => ONE + lgF x, ?_, fun n hn => ⟨?_, ?_, ?_⟩, ?_, ?_, fun n hn => absurd hn (by omega), rfl, by omega, by omega, by omega⟩⟩
      · show (E - 0) * 2 ^ 52 + lgF x = x; rw [Nat.sub_zero]; omega
      · have := Ieee.halve (E - n) (lgF x) (by omega) (by omega) hF
        show Ieee.double.div ((E - n) * 2 ^ 52 + lgF x) (1024 * 2 ^ 52) = some ((E - (n + 1)) * 2 ^ 52 + lgF x)
        rw [this, show E - n - 1 = E - (n + 1) by omega]
      · show TWO ≤ (E - n) * 2 ^ 52 + lgF x; omega
      · show (E - n) * 2 ^ 52 + lgF x < infR; omega
      · show (E - (E - 1023)) * 2 ^ 52 + lgF x < TWO; omega
      · show ONE + lgF x = (E - (E - 1023)) * 2 ^ 52 + lgF x; omega
    · refine ⟨⟨0, fun _ => x, 1023 - E, fun n => (E + n) * 2 ^ 52 + lgF x, rfl, fun n hn => absurd hn (by omega), by show x < TWO; omega, by show (E + 0) * 2 ^ 52 + lgF x = x; rw [Nat.add_zero]; omega, fun n hn => ⟨?_, ?_⟩, ?_, by omega, by omega, by omega⟩⟩
      · have := Ieee.dbl (E + n) (lgF x) (by omega) (by omega) hF
        show Ieee.double.mul ((E + n) * 2 ^ 52 + lgF x) (1024 * 2 ^ 52) = some ((E + (n + 1)) * 2 ^ 52 + lgF x)
        rw [this, show E + n + 1 = E + (n + 1) by omega]
      · show (E + n) * 2 ^ 52 + lgF x < ONE; omega
      · show (E + (1023 - E)) * 2 ^ 52 + lgF x = ONE + lgF x; omega
theorem ord_ge (x y : Nat) (hx : x < infR) (h : y ≤ x) : FloatKind.f64.format.order x y = some .gt ∨ FloatKind.f64.format.order x y = some .eq := by
  by_cases e : y = x
  · subst e; exact .inr (Ieee.order_self y (Ieee.real_pos y (by omega)).1)
  · exact .inl (Ieee.order_gt x y (by omega) (by omega))
theorem ord_lt (x y : Nat) (hy : y < infR) (h : x < y) : FloatKind.f64.format.order x y = some .lt := Ieee.order_lt x y (by omega) h
theorem fl_kinds (x : Nat) (hx : x < 18446744073709551616) : (ford x x = none ∨ ford x x = some .eq ∧ (ford x 0 = some .lt ∨ ford x 0 = some .eq ∨ ford x 0 = some .gt ∧ ford x 9218868437227405311 = some .gt)) ∨
    (ford x x = some .eq ∧ ford x 0 = some .gt ∧ (ford x 9218868437227405311 == some .gt) = false ∧ 0 < x ∧ x < infR) := by
  by_cases hr : Ieee.Real x
  · have h1 : ford x x = some .eq := Ieee.order_self x hr
    have h0 : Ieee.Real 0 := (Ieee.real_pos 0 (Nat.zero_le _)).1
    have k0 : Ieee.key 0 = 0 := (Ieee.real_pos 0 (Nat.zero_le _)).2.2.2
    have h2 : ford x 0 = some (compare (Ieee.key x) 0) := by rw [← k0]; exact Ieee.order_key x 0 hr h0
    rcases Int.lt_trichotomy (Ieee.key x) 0 with h | h | h
    · rw [Ieee.cmp_lt h] at h2
      exact .inl (.inr ⟨h1, .inl h2⟩)
    · rw [Ieee.cmp_eq h] at h2
      exact .inl (.inr ⟨h1, .inr (.inl h2)⟩)
    · rw [Ieee.cmp_gt h] at h2
      have hi : infR = 2047 * 2 ^ 52 := rfl
      have hs : Ieee.sgn x = false := by
        cases hs : Ieee.sgn x
        · rfl
        · unfold Ieee.key Ieee.sg at h
          rw [hs] at h
          simp at h
          omega
      have hx2 : x < 2 ^ 63 := by
        unfold Ieee.sgn at hs
        rw [beq_eq_false_iff_ne] at hs
        omega
      have hru : Ieee.rung x = x := by unfold Ieee.rung; omega
      have hle : x ≤ infR := by unfold Ieee.Real at hr; omega
      have hk := (Ieee.real_pos x hle).2.2.2
      have h3 : ford x 9218868437227405311 = some (compare (x : Int) (9218868437227405311 : Nat)) := Ieee.order_pos x 9218868437227405311 hle (by omega)
      by_cases h4 : 9218868437227405311 < x
      · rw [Ieee.cmp_gt (by omega)] at h3
        exact .inl (.inr ⟨h1, .inr (.inr ⟨h2, h3⟩)⟩)
      · refine .inr ⟨h1, h2, ?_, by omega, by omega⟩
        by_cases h5 : x = 9218868437227405311
        · rw [h3, Ieee.cmp_eq (by omega)]; rfl
        · rw [h3, Ieee.cmp_lt (by omega)]; rfl
  · exact .inl (.inl (Ieee.order_nan_left x x hr))
theorem log2V_pos (x : Nat) (h1 : ford x x = some .eq) (h2 : ford x 0 = some .gt) (h3 : (ford x 9218868437227405311 == some .gt) = false) : log2V x = lgR x := by
  unfold log2V
  rw [if_neg (by rw [h1]; simp), if_neg (by rw [h2]; simp), if_neg (by rw [h2]; simp), if_neg (by simpa using h3)]
/-- count.Log2 of any number -/
theorem log2_any (x : Nat) (hx : x < 18446744073709551616) (w : World) : Calls Tryz.prog 10 #[.float .f64 x] w fun e w' => e = .returned (.float .f64 (log2V x)) ∧ w = w' := by
  rcases fl_kinds x hx with h | ⟨h1, h2, h3, h4, h5⟩
  · exact log2_odd x h w
  · rw [log2V_pos x h1 h2 h3]
    rw [inf_lit] at h5
    by_cases h6 : x < 4503599627370496
    · exact log2_least x h4 h6 h1 h2 h3 w
    · exact log2_normal x h5 (by omega) h1 h2 h3 w
end Go.Proofs.YthidjbobjjoekaaGreat
