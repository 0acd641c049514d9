/- Rounding keeps the order: a sum of floats rises with its parts. No program in sight. -/
import Derived.Test.YthidjbobjjoekaaFlC
namespace Ieee
set_option linter.unusedVariables false
/-- a number cut to the nearest, between two to the even one -/
def cR (n d : Nat) : Nat := n / 2 ^ d + if 2 ^ d < 2 * (n % 2 ^ d) ∨ (2 ^ d = 2 * (n % 2 ^ d) ∧ n / 2 ^ d % 2 = 1) then 1 else 0
theorem cut_raw (neg : Bool) (n e : Nat) : (n / 2 ^ e + (decide (2 ^ e < 2 * (n % 2 ^ e)) || (2 ^ e == 2 * (n % 2 ^ e) && n / 2 ^ e % 2 == 1)).toNat) = cR n e := by
  unfold cR
  congr 1
  by_cases h1 : 2 ^ e < 2 * (n % 2 ^ e)
  · rw [if_pos (.inl h1)]; simp [h1]
  · by_cases h2 : 2 ^ e = 2 * (n % 2 ^ e) ∧ n / 2 ^ e % 2 = 1
    · rw [if_pos (.inr h2), decide_eq_false h1, beq_iff_eq.2 h2.1, beq_iff_eq.2 h2.2]; rfl
    · rw [if_neg (by rintro (h | h); exact h1 h; exact h2 h), decide_eq_false h1]
      by_cases h3 : 2 ^ e = 2 * (n % 2 ^ e)
      · have h4 : ¬ n / 2 ^ e % 2 = 1 := fun h => h2 ⟨h3, h⟩
        rw [beq_iff_eq.2 h3, beq_eq_false_iff_ne.2 h4]; rfl
      · rw [beq_eq_false_iff_ne.2 h3]; rfl
theorem cut_plain (neg : Bool) (n d : Nat) : Toward.even.cut neg n d = cR n d := by
  unfold Toward.cut
  simp only [Nat.shiftLeft_eq, Nat.one_mul]
  rw [cut_raw neg]
  by_cases h : d ≤ n.log2 + 2
  · rw [Nat.min_eq_left h]
  · rw [Nat.min_eq_right (by omega)]
    have h1 : n < 2 ^ (n.log2 + 1) := Nat.lt_log2_self
    have z : ∀ e, n.log2 + 2 ≤ e → cR n e = 0 := fun e he => by
      have h2 : 2 ^ (n.log2 + 1) * 2 ≤ 2 ^ e := by rw [← Nat.pow_succ]; exact Nat.pow_le_pow_right (by omega) he
      unfold cR
      rw [Nat.div_eq_of_lt (by omega), Nat.mod_eq_of_lt (by omega), if_neg (by rintro (h | ⟨h, h'⟩) <;> omega)]
    rw [z _ (Nat.le_refl _), z d (by omega)]
theorem cR_mono {n m : Nat} (d : Nat) (h : n ≤ m) : cR n d ≤ cR m d := by
  have hp := Nat.two_pow_pos d
  have h1 : n / 2 ^ d ≤ m / 2 ^ d := Nat.div_le_div_right h
  have e1 := Nat.div_add_mod n (2 ^ d)
  have e2 := Nat.div_add_mod m (2 ^ d)
  unfold cR
  by_cases hq : n / 2 ^ d = m / 2 ^ d
  · rw [hq] at e1 ⊢
    have hr : n % 2 ^ d ≤ m % 2 ^ d := by omega
    split
    · rename_i hc
      rw [if_pos]
      · exact Nat.le_refl _
      · rcases hc with hc | ⟨hc, hc'⟩
        · exact .inl (by omega)
        · by_cases hx : 2 ^ d = 2 * (m % 2 ^ d)
          · exact .inr ⟨hx, hc'⟩
          · exact .inl (by omega)
    · omega
  · split <;> split <;> omega
theorem cR_scale (n d e : Nat) : cR (n * 2 ^ e) (d + e) = cR n d := by
  have hp := Nat.two_pow_pos e
  unfold cR
  rw [Nat.pow_add, Nat.mul_div_mul_right _ _ hp, Nat.mul_mod_mul_right]
  have a1 : (2 ^ d * 2 ^ e < 2 * (n % 2 ^ d * 2 ^ e)) ↔ (2 ^ d < 2 * (n % 2 ^ d)) := by
    rw [← Nat.mul_assoc]; exact Nat.mul_lt_mul_right hp
  have a2 : (2 ^ d * 2 ^ e = 2 * (n % 2 ^ d * 2 ^ e)) ↔ (2 ^ d = 2 * (n % 2 ^ d)) := by
    rw [← Nat.mul_assoc]
    constructor
    · intro h; exact Nat.eq_of_mul_eq_mul_right hp h
    · exact fun h => congrArg (· * 2 ^ e) h
  simp only [a1, a2]
theorem cR_exact (n e d : Nat) (h : d ≤ e) : cR (n * 2 ^ e) d = n * 2 ^ (e - d) := by
  have e1 : n * 2 ^ e = (n * 2 ^ (e - d)) * 2 ^ d := by rw [Nat.mul_assoc, ← Nat.pow_add, Nat.sub_add_cancel h]
  have hp := Nat.two_pow_pos d
  unfold cR
  rw [e1, Nat.mul_div_cancel _ hp, Nat.mul_mod_left, if_neg (by rintro (h | ⟨h, _⟩) <;> omega)]
  rfl
/-- the rung nearest to n units of the least place -/
def R (n : Nat) : Nat := if n = 0 then 0 else min ((n.log2 - 52) * 2 ^ 52 + cR n (n.log2 - 52)) infR
theorem nearest_R (neg : Bool) (m k : Nat) : double.nearest neg m (double.leastPlace + (k : Nat)) = double.word neg (R (m * 2 ^ k)) := by
  have hp := Nat.two_pow_pos k
  unfold Format.nearest R
  by_cases hm : m = 0
  · subst hm; simp
  · rw [if_neg hm, if_neg (Nat.ne_of_gt (Nat.mul_pos (by omega) hp))]
    have hl : (m * 2 ^ k).log2 = m.log2 + k := by
      have h2 : m * 2 ^ k ≠ 0 := Nat.ne_of_gt (Nat.mul_pos (by omega) hp)
      have h3 : 2 ^ m.log2 ≤ m := Nat.log2_self_le hm
      have h4 : m < 2 ^ (m.log2 + 1) := Nat.lt_log2_self
      refine (Nat.log2_eq_iff h2).2 ⟨?_, ?_⟩
      · rw [Nat.pow_add]; exact Nat.mul_le_mul_right _ h3
      · rw [show m.log2 + k + 1 = m.log2 + 1 + k by omega, Nat.pow_add]; exact Nat.mul_lt_mul_of_pos_right h4 hp
    rw [hl]
    have hF : double.fractionBits = 52 := rfl
    have hb : double.binade = 2 ^ 52 := rfl
    have hi : double.infRung = infR := rfl
    dsimp only
    rw [hF, hb, hi]
    have e1 : max (double.leastPlace + (k : Nat) + ((m.log2 : Nat) : Int) - ((52 : Nat) : Int)) double.leastPlace = double.leastPlace + ((m.log2 + k - 52 : Nat) : Int) := by omega
    rw [e1]
    have e2 : (double.leastPlace + ((m.log2 + k - 52 : Nat) : Int) - double.leastPlace).toNat = m.log2 + k - 52 := by omega
    have e3 : (double.leastPlace + (k : Nat) - (double.leastPlace + ((m.log2 + k - 52 : Nat) : Int))).toNat = k - (m.log2 + k - 52) := by omega
    have e4 : (double.leastPlace + ((m.log2 + k - 52 : Nat) : Int) - (double.leastPlace + (k : Nat))).toNat = (m.log2 + k - 52) - k := by omega
    rw [e2, e3, e4, cut_plain, Nat.shiftLeft_eq]
    generalize m.log2 + k - 52 = D
    have key : cR (m * 2 ^ (k - D)) (D - k) = cR (m * 2 ^ k) D := by
      by_cases h : D ≤ k
      · rw [cR_exact m k D h, show D - k = 0 by omega]
        have := cR_exact (m * 2 ^ (k - D)) 0 0 (Nat.le_refl _)
        simpa using this
      · rw [show k - D = 0 by omega, Nat.pow_zero, Nat.mul_one]
        have := cR_scale m (D - k) k
        rw [show D - k + k = D by omega] at this
        exact this.symm
    rw [key]
theorem R_le (n : Nat) : R n ≤ infR := by
  unfold R
  split
  · exact Nat.zero_le _
  · exact Nat.min_le_right _ _
theorem R_mono {n m : Nat} (h : n ≤ m) : R n ≤ R m := by
  unfold R
  by_cases hn : n = 0
  · rw [if_pos hn]; exact Nat.zero_le _
  · rw [if_neg hn, if_neg (by omega)]
    have n1 : n < 2 ^ (n.log2 + 1) := Nat.lt_log2_self
    have m1 : 2 ^ m.log2 ≤ m := Nat.log2_self_le (by omega)
    have hll : n.log2 ≤ m.log2 := by
      rcases Nat.lt_or_ge m.log2 n.log2 with hc | hc
      · have n2 : 2 ^ n.log2 ≤ n := Nat.log2_self_le hn
        have m2 : m < 2 ^ (m.log2 + 1) := Nat.lt_log2_self
        have : 2 ^ (m.log2 + 1) ≤ 2 ^ n.log2 := Nat.pow_le_pow_right (by omega) (by omega)
        omega
      · exact hc
    have core : (n.log2 - 52) * 2 ^ 52 + cR n (n.log2 - 52) ≤ (m.log2 - 52) * 2 ^ 52 + cR m (m.log2 - 52) := by
      by_cases hD : n.log2 - 52 = m.log2 - 52
      · rw [hD]
        have := cR_mono (m.log2 - 52) h
        omega
      · have hlt : n.log2 - 52 < m.log2 - 52 := by omega
        have b1 : cR n (n.log2 - 52) ≤ 2 ^ 53 := by
          have hq : n / 2 ^ (n.log2 - 52) < 2 ^ 53 := by
            rw [Nat.div_lt_iff_lt_mul (Nat.two_pow_pos _), ← Nat.pow_add]
            exact Nat.lt_of_lt_of_le n1 (Nat.pow_le_pow_right (by omega) (by omega))
          have gen : ∀ q c : Nat, q < 2 ^ 53 → c ≤ 1 → q + c ≤ 2 ^ 53 := by intro q c h1 h2; omega
          unfold cR
          exact gen _ _ hq (by split <;> omega)
        have b2 : 2 ^ 52 ≤ cR m (m.log2 - 52) := by
          have hq : 2 ^ 52 ≤ m / 2 ^ (m.log2 - 52) := by
            rw [Nat.le_div_iff_mul_le (Nat.two_pow_pos _), ← Nat.pow_add, show 52 + (m.log2 - 52) = m.log2 by omega]
            exact m1
          unfold cR
          exact Nat.le_trans hq (Nat.le_add_right _ _)
        have gen : ∀ a b p q : Nat, a < b → p ≤ 2 ^ 53 → 2 ^ 52 ≤ q → a * 2 ^ 52 + p ≤ b * 2 ^ 52 + q := by intro a b p q h1 h2 h3; omega
        exact gen _ _ _ _ hlt b1 b2
    exact Nat.le_min.2 ⟨Nat.le_trans (Nat.min_le_left _ _) core, Nat.min_le_right _ _⟩
/-- a float's value, in units of the least place -/
def VV (x : Nat) : Int := sg (sgn x) (val (rung x))
/-- the key of the float nearest to t units -/
def sR (t : Int) : Int := sg (decide (t < 0)) (R t.natAbs)
theorem sR_mono {s t : Int} (h : s ≤ t) : sR s ≤ sR t := by
  unfold sR sg
  by_cases hs : s < 0 <;> by_cases ht : t < 0
  · have := R_mono (n := t.natAbs) (m := s.natAbs) (by omega)
    simp only [hs, ht, decide_true, if_true]; omega
  · simp only [hs, ht, decide_true, decide_false, if_true, Bool.false_eq_true, if_false]; omega
  · omega
  · have := R_mono (n := s.natAbs) (m := t.natAbs) (by omega)
    simp only [hs, ht, decide_false, Bool.false_eq_true, if_false]; omega
theorem key_word (neg : Bool) (r : Nat) (h : r ≤ infR) : key (double.word neg r) = sg neg r := by
  have h1 : double.signWeight = 2 ^ 63 := rfl
  have h2 : infR = 2047 * 2 ^ 52 := rfl
  unfold key
  rw [rung_word neg r h]
  have : sgn (double.word neg r) = neg := by
    unfold sgn Format.word
    rw [h1]
    cases neg
    · rw [if_neg (by decide), Nat.div_eq_of_lt (by omega)]; rfl
    · rw [if_pos rfl, show (2 ^ 63 + r) / 2 ^ 63 = 1 by omega]; rfl
  rw [this]
theorem add_key (x y : Nat) (hx : rung x < infR) (hy : rung y < infR) : ∃ r, double.add x y = some r ∧ Real r ∧ key r = sR (VV x + VV y) := by
  obtain ⟨m, a, e1, v1⟩ := read_num x hx
  obtain ⟨n, b, e2, v2⟩ := read_num y hy
  unfold Format.add
  rw [e1, e2]
  unfold Datum.sum
  dsimp only
  have q0 : min (double.leastPlace + (a : Nat)) (double.leastPlace + (b : Nat)) = double.leastPlace + ((min a b : Nat) : Int) := by omega
  rw [q0]
  have q1 : (double.leastPlace + (a : Nat) - (double.leastPlace + ((min a b : Nat) : Int))).toNat = a - min a b := by omega
  have q2 : (double.leastPlace + (b : Nat) - (double.leastPlace + ((min a b : Nat) : Int))).toNat = b - min a b := by omega
  rw [q1, q2]
  have s1 := signed_mul (sgn x) m a (min a b) (by omega)
  have s2 := signed_mul (sgn y) n b (min a b) (by omega)
  rw [v1] at s1
  rw [v2] at s2
  generalize hT : signed (sgn x) m (a - min a b) + signed (sgn y) n (b - min a b) = T
  have hV : T * ((2 ^ min a b : Nat) : Int) = VV x + VV y := by
    rw [← hT, Int.add_mul, s1, s2]; rfl
  refine ⟨_, rfl, real_nearest _ _ _, ?_⟩
  show key (double.nearest _ _ _) = _
  rw [nearest_R, key_word _ _ (R_le _)]
  have hp := Nat.two_pow_pos (min a b)
  have hN : T.natAbs * 2 ^ min a b = (VV x + VV y).natAbs := by
    rw [← hV, Int.natAbs_mul, Int.natAbs_natCast]
  rw [hN]
  unfold sR
  by_cases h0 : T = 0
  · have hz : VV x + VV y = 0 := by rw [← hV, h0]; simp
    rw [hz]
    have : R (0 : Int).natAbs = 0 := rfl
    rw [this]
    unfold sg
    split <;> simp
  · rw [if_neg h0]
    have hs : (T < 0) ↔ (VV x + VV y < 0) := by
      rw [← hV]
      have hp' : (0 : Int) < ((2 ^ min a b : Nat) : Int) := by omega
      constructor
      · intro h; exact Int.mul_neg_of_neg_of_pos h hp'
      · intro h
        rcases Int.lt_trichotomy T 0 with h1 | h1 | h1
        · exact h1
        · exact absurd h1 h0
        · have := Int.mul_pos h1 hp'; omega
    simp only [hs]
theorem VV_mono {x y : Nat} (h : key x ≤ key y) : VV x ≤ VV y := by
  unfold key at h
  unfold VV
  have := sg_lt (sgn y) (sgn x) (rung y) (rung x)
  omega
theorem key_bd (x : Nat) (h : Real x) : -(infR : Int) ≤ key x ∧ key x ≤ infR := by
  unfold Real at h
  unfold key sg
  split <;> omega
/-- a sum rises with its first part -/
theorem add_mono (x x' y : Nat) (hx : Real x) (hx' : Real x') (hy : rung y < infR) (h : key x ≤ key x') : ∃ r r', double.add x y = some r ∧ double.add x' y = some r' ∧ Real r ∧ Real r' ∧ key r ≤ key r' := by
  obtain ⟨n, b, e2, v2⟩ := read_num y hy
  have inf : ∀ z, Real z → rung z = infR → double.add z y = some (double.write (.infinity (sgn z))) ∧ key (double.write (.infinity (sgn z))) = key z := by
    intro z hz hr
    refine ⟨?_, ?_⟩
    · unfold Format.add
      rw [read_inf z hr, e2]; rfl
    · show key (double.word (sgn z) infR) = _
      rw [key_word _ _ (Nat.le_refl _)]
      unfold key
      rw [hr]
  have hi : 0 < infR := by decide
  by_cases h1 : rung x < infR
  · obtain ⟨r, a1, a2, a3⟩ := add_key x y h1 hy
    by_cases h2 : rung x' < infR
    · obtain ⟨r', b1, b2, b3⟩ := add_key x' y h2 hy
      refine ⟨r, r', a1, b1, a2, b2, ?_⟩
      rw [a3, b3]
      exact sR_mono (by have := VV_mono h; omega)
    · obtain ⟨b1, b3⟩ := inf x' hx' (by unfold Real at hx'; omega)
      refine ⟨r, _, a1, b1, a2, real_inf _, ?_⟩
      rw [b3]
      have := (key_bd r a2).2
      have hk : key x' = infR ∨ key x' = -(infR : Int) := by
        have hr : rung x' = infR := by unfold Real at hx'; omega
        unfold key sg
        rw [hr]
        split
        · exact .inr rfl
        · exact .inl rfl
      rcases hk with hk | hk
      · omega
      · rw [hk] at h
        exfalso
        unfold key sg at h
        split at h <;> omega
  · have hr : rung x = infR := by unfold Real at hx; omega
    obtain ⟨a1, a3⟩ := inf x hx hr
    by_cases h2 : rung x' < infR
    · obtain ⟨r', b1, b2, b3⟩ := add_key x' y h2 hy
      refine ⟨_, r', a1, b1, real_inf _, b2, ?_⟩
      rw [a3]
      have := (key_bd r' b2).1
      have hk : key x = infR ∨ key x = -(infR : Int) := by
        unfold key sg
        rw [hr]
        split
        · exact .inr rfl
        · exact .inl rfl
      rcases hk with hk | hk
      · rw [hk] at h
        exfalso
        unfold key sg at h
        split at h <;> omega
      · omega
    · obtain ⟨b1, b3⟩ := inf x' hx' (by unfold Real at hx'; omega)
      exact ⟨_, _, a1, b1, real_inf _, real_inf _, by rw [a3, b3]; exact h⟩
end Ieee
