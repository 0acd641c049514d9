/- What a quantile reckons: which place, which part, and what lies between. No program in sight. -/
import Derived.Test.YthidjbobjjoekaaFlG
namespace Ieee
set_option linter.unusedVariables false
theorem val_le {r s : Nat} (h : r ≤ s) : val r ≤ val s := by
  rcases Nat.lt_or_ge r s with h1 | h1
  · exact Nat.le_of_lt (val_lt h1)
  · rw [Nat.le_antisymm h h1]; exact Nat.le_refl _
theorem word_false (r : Nat) : double.word false r = r := rfl
theorem units_pos : 0 < 2 ^ UU := Nat.two_pow_pos _
/-- a number of things as a float -/
theorem num_ok (n : Nat) (hn : n < 2 ^ 53) : ∃ r, intF (n : Int) = r ∧ r < 1100 * 2 ^ 52 ∧ val r = n * 2 ^ UU ∧ rung r = r ∧ key r = r ∧ Real r := by
  obtain ⟨r, e, h, v⟩ := near0 false n hn
  have hi : infR = 2047 * 2 ^ 52 := rfl
  have rp := real_pos r (by omega)
  refine ⟨r, ?_, h, v, rp.2.2.1, rp.2.2.2, rp.1⟩
  unfold intF
  rw [decide_eq_false (by omega), Int.natAbs_natCast, e, word_false]
theorem num_pos (n : Nat) (h1 : 1 ≤ n) (hn : n < 2 ^ 53) : rung (intF (n : Int)) < infR ∧ 0 < key (intF (n : Int)) := by
  obtain ⟨r, e, h, v, a, b, c⟩ := num_ok n hn
  have hi : infR = 2047 * 2 ^ 52 := rfl
  rw [e, a, b]
  refine ⟨by omega, ?_⟩
  rcases Nat.eq_zero_or_pos r with h0 | h0
  · subst h0
    have : n * 2 ^ UU = 0 := v.symm
    rcases Nat.mul_eq_zero.1 this with h | h
    · omega
    · have := units_pos; omega
  · omega
theorem div_units (n U : Nat) : n * 2 ^ U / 2 ^ U = n := Nat.mul_div_cancel _ (Nat.two_pow_pos _)
theorem fl_le (x n U r : Nat) (hv : val r = n * 2 ^ U) (h : rung x ≤ r) : val (rung x) / 2 ^ U ≤ n := by
  have := Nat.div_le_div_right (c := 2 ^ U) (val_le h)
  rw [hv, div_units] at this
  exact this
theorem fl_mul (v U : Nat) : v / 2 ^ U * 2 ^ U ≤ v := Nat.div_mul_le_self _ _
/-- the whole part as a float -/
theorem flW_ok (x : Nat) (hx : rung x < infR) (hp : 0 ≤ key x) (hf : fl x < 2 ^ 53) :
    Pos (flW x) ∧ rung (flW x) < infR ∧ val (rung (flW x)) = fl x * 2 ^ UU ∧ (sgn x = true → fl x = 0) := by
  obtain ⟨r, e, h, v⟩ := near0 (sgn x) (fl x) hf
  have hi : infR = 2047 * 2 ^ 52 := rfl
  have h0 : sgn x = true → fl x = 0 := fun hs => by
    rcases pos_sgn hp with h1 | h1
    · rw [h1] at hs; cases hs
    · unfold fl; rw [h1, val_zero, Nat.zero_div]
  have hr : rung (flW x) = r := by unfold flW; rw [e, rung_word _ _ (by omega)]
  refine ⟨?_, by omega, by rw [hr, v], h0⟩
  unfold flW
  rw [e]
  refine (pos_word _ _ (by omega) fun hs => ?_).1
  rw [h0 hs, Nat.zero_mul] at v
  exact val_inj (s := 0) v
/-- .. read back as an integer -/
theorem flW_int (x : Nat) (hx : rung x < infR) (hp : 0 ≤ key x) (hf : fl x < 2 ^ 53) : (double.read (flW x)).toInt .zero = some (fl x : Int) := by
  obtain ⟨a, b, c, d⟩ := flW_ok x hx hp hf
  unfold Datum.toInt
  rw [fl_read (flW x) b a.2 .zero (.inr rfl)]
  have e : fl (flW x) = fl x := by unfold fl at c ⊢; rw [c, div_units]
  rw [e]
  show some (signed (sgn (flW x)) (fl x) 0) = _
  unfold signed
  rw [Nat.shiftLeft_zero]
  rcases pos_sgn a.2 with h1 | h1
  · rw [h1]; rfl
  · rw [h1, val_zero] at c
    have : fl x = 0 := by
      rcases Nat.mul_eq_zero.1 c.symm with h | h
      · exact h
      · have := units_pos; omega
    rw [this]; split <;> rfl
theorem flW_write (x : Nat) (hx : rung x < infR) (hp : 0 ≤ key x) : double.write ((double.read x).integral .down) = flW x := by
  rw [fl_read x hx hp .down (.inl rfl)]; rfl
/-- what is left of the whole part -/
theorem part_ok (x : Nat) (hx : rung x < infR) (hp : 0 ≤ key x) (hf : fl x < 2 ^ 53) : ∃ f, double.sub x (flW x) = some f ∧ Pos f ∧ rung f < infR ∧ (rung x = 0 → key f = 0) := by
  obtain ⟨a, b, c, d⟩ := flW_ok x hx hp hf
  obtain ⟨f, e1, e2, e3⟩ := sub_key x (flW x) hx b
  rw [VV_pos hp, VV_pos a.2, c] at e3
  have hle : fl x * 2 ^ UU ≤ val (rung x) := fl_mul _ _
  have e4 : ((val (rung x) : Nat) : Int) - ((fl x * 2 ^ UU : Nat) : Int) = ((val (rung x) - fl x * 2 ^ UU : Nat) : Int) := (Int.ofNat_sub hle).symm
  rw [e4, sR_nonneg (Int.natCast_nonneg _), Int.toNat_natCast] at e3
  have hk : 0 ≤ key f := by rw [e3]; exact Int.natCast_nonneg _
  have hr : R (val (rung x) - fl x * 2 ^ UU) ≤ rung x := by
    have := R_mono (Nat.sub_le (val (rung x)) (fl x * 2 ^ UU))
    rw [R_val _ (Nat.le_of_lt hx)] at this
    exact this
  have h5 := pos_key hk
  rw [e3] at h5
  have h6 : R (val (rung x) - fl x * 2 ^ UU) = rung f := Int.ofNat_inj.1 h5
  refine ⟨f, e1, ⟨e2, hk⟩, by omega, fun h0 => ?_⟩
  rw [e3, h6]
  omega
theorem val_double (e : Nat) (h : 1 ≤ e) : 2 * val (e * 2 ^ 52) = val ((e + 1) * 2 ^ 52) := by
  unfold val
  rw [if_neg (by omega), if_neg (by omega), Nat.mul_mod_left, Nat.mul_mod_left, Nat.mul_div_cancel _ (by omega), Nat.mul_div_cancel _ (by omega)]
  rw [show e + 1 - 1 = e - 1 + 1 by omega, show 2 ^ (e - 1 + 1) = 2 ^ (e - 1) * 2 from rfl]
  rw [Nat.mul_comm (2 ^ (e - 1)) 2, Nat.mul_left_comm]
/-- between two numbers that are not too great -/
theorem between (a b f : Nat) (ha : rung a ≤ 1123 * 2 ^ 52) (hb : rung b ≤ 1123 * 2 ^ 52) (h : key a ≤ key b) (hf : Pos f) (hf2 : rung f < infR) :
    ∃ d p x, double.sub b a = some d ∧ double.mul f d = some p ∧ double.add a p = some x ∧ Real x ∧ key a ≤ key x := by
  have hi : infR = 2047 * 2 ^ 52 := rfl
  obtain ⟨d, e1, e2, e3⟩ := sub_key b a (by omega) (by omega)
  have hv := VV_mono h
  have ba : ∀ z, rung z ≤ 1123 * 2 ^ 52 → -(val (1123 * 2 ^ 52) : Int) ≤ VV z ∧ VV z ≤ (val (1123 * 2 ^ 52) : Int) := fun z hz => by
    have := val_le hz
    unfold VV sg
    split <;> omega
  have h1 := ba a ha
  have h2 := ba b hb
  have h3 := val_double 1123 (by omega)
  have h4 : (VV b - VV a).toNat ≤ val ((1123 + 1) * 2 ^ 52) := by omega
  rw [sR_nonneg (by omega)] at e3
  have h5 := R_mono h4
  rw [R_val _ (by omega)] at h5
  have hk : 0 ≤ key d := by rw [e3]; exact Int.natCast_nonneg _
  have h6 := pos_key hk
  rw [e3] at h6
  have h7 : R (VV b - VV a).toNat = rung d := Int.ofNat_inj.1 h6
  obtain ⟨p, p1, p2, _⟩ := mul_pos f d hf2 (by omega) hf.2 hk
  obtain ⟨x, x1, x2, x3⟩ := add_up a p (by omega) p2
  exact ⟨d, p, x, e1, p1, x1, x2, x3⟩
/-- which place, and which part -/
theorem where_ok (q : Nat) (n : Nat) (hn : n < 2 ^ 53) (hq : 0 ≤ key q) (hq2 : key q ≤ key ONE) :
    ∃ h, double.mul q (intF (n : Int)) = some h ∧ Pos h ∧ rung h < infR ∧ fl h ≤ n ∧ (key q = 0 → rung h = 0 ∧ fl h = 0) ∧ (key q = key ONE → fl h = n) := by
  obtain ⟨r, e, h, v, a, b, c⟩ := num_ok n hn
  have hi : infR = 2047 * 2 ^ 52 := rfl
  rw [e]
  obtain ⟨x, x1, x2, x3, x4, x5⟩ := mul_part q r hq hq2 (by omega) (by omega)
  have k := pos_key x2.2
  rw [b, k] at x3
  have hr : rung x ≤ r := Int.ofNat_le.1 x3
  have hz : rung x = 0 → fl x = 0 := fun h0 => by unfold fl; rw [h0, val_zero, Nat.zero_div]
  refine ⟨x, x1, x2, by omega, fl_le x n _ r v hr, fun h0 => ?_, fun h1 => ?_⟩
  · have := x4 h0
    rw [k] at this
    have h2 : rung x = 0 := Int.ofNat_inj.1 this
    exact ⟨h2, hz h2⟩
  · have := x5 h1
    rw [k, b] at this
    have h2 : rung x = r := Int.ofNat_inj.1 this
    unfold fl
    rw [h2, v, div_units]
end Ieee
