/- Products, differences, quotients and roots of floats: which way they go. No program in sight. -/
import Derived.Test.YthidjbobjjoekaaFlE
namespace Ieee
set_option linter.unusedVariables false
theorem log2_shift (m k : Nat) (hm : m ≠ 0) : (m * 2 ^ k).log2 = m.log2 + k := by
  have hp := Nat.two_pow_pos k
  have h2 : m * 2 ^ k ≠ 0 := Nat.ne_of_gt (Nat.mul_pos (by omega) hp)
  have h3 : 2 ^ m.log2 ≤ m := Nat.log2_self_le hm
  have h4 : m < 2 ^ (m.log2 + 1) := Nat.lt_log2_self
  refine (Nat.log2_eq_iff h2).2 ⟨?_, ?_⟩
  · rw [Nat.pow_add]; exact Nat.mul_le_mul_right _ h3
  · rw [show m.log2 + k + 1 = m.log2 + 1 + k by omega, Nat.pow_add]; exact Nat.mul_lt_mul_of_pos_right h4 hp
/-- what a rung stands for is rounded to that rung -/
theorem R_val (r : Nat) (h : r ≤ infR) : R (val r) = r := by
  have hi : infR = 2047 * 2 ^ 52 := rfl
  by_cases h0 : r = 0
  · subst h0; rfl
  · unfold val
    by_cases h1 : r < 2 ^ 52
    · rw [if_pos h1]
      unfold R
      have : r.log2 < 52 := (Nat.log2_lt (by omega)).2 h1
      have c0 := cR_exact r 0 0 (Nat.le_refl _)
      rw [if_neg h0, show r.log2 - 52 = 0 by omega]
      simp at c0
      rw [c0]
      omega
    · rw [if_neg h1]
      have hm : r % 2 ^ 52 < 2 ^ 52 := Nat.mod_lt _ (by omega)
      have he := Nat.div_add_mod r (2 ^ 52)
      generalize r % 2 ^ 52 = f at *
      generalize r / 2 ^ 52 = e at *
      have hl : (2 ^ 52 + f).log2 = 52 := (Nat.log2_eq_iff (by omega)).2 ⟨by omega, by omega⟩
      have hne : (2 ^ 52 + f) * 2 ^ (e - 1) ≠ 0 := Nat.ne_of_gt (Nat.mul_pos (by omega) (Nat.two_pow_pos _))
      unfold R
      rw [if_neg hne, log2_shift _ _ (by omega), hl, show 52 + (e - 1) - 52 = e - 1 by omega, cR_exact _ _ _ (Nat.le_refl _), Nat.sub_self, Nat.pow_zero, Nat.mul_one]
      omega
/-- the rung nearest to n units of the D-th place below the least -/
def Rd (D n : Nat) : Nat := if n = 0 then 0 else min ((max (n.log2 - 52) D - D) * 2 ^ 52 + cR n (max (n.log2 - 52) D)) infR
theorem Rd_le (D n : Nat) : Rd D n ≤ infR := by
  unfold Rd
  split
  · exact Nat.zero_le _
  · exact Nat.min_le_right _ _
theorem nearest_Rd (neg : Bool) (m k D : Nat) : double.nearest neg m (double.leastPlace + (k : Nat) - (D : Nat)) = double.word neg (Rd D (m * 2 ^ k)) := by
  have hp := Nat.two_pow_pos k
  unfold Format.nearest Rd
  by_cases hm : m = 0
  · subst hm; simp
  · rw [if_neg hm, if_neg (Nat.ne_of_gt (Nat.mul_pos (by omega) hp)), log2_shift m k hm]
    have hF : double.fractionBits = 52 := rfl
    have hb : double.binade = 2 ^ 52 := rfl
    have hi : double.infRung = infR := rfl
    dsimp only
    rw [hF, hb, hi]
    obtain ⟨c, hc⟩ : ∃ c, max (m.log2 + k - 52) D = c := ⟨_, rfl⟩
    have hcD : D ≤ c := by omega
    have e1 : max (double.leastPlace + (k : Nat) - (D : Nat) + ((m.log2 : Nat) : Int) - ((52 : Nat) : Int)) double.leastPlace = double.leastPlace + ((c - D : Nat) : Int) := by omega
    rw [e1, hc]
    have e2 : (double.leastPlace + ((c - D : Nat) : Int) - double.leastPlace).toNat = c - D := by omega
    have e3 : (double.leastPlace + (k : Nat) - (D : Nat) - (double.leastPlace + ((c - D : Nat) : Int))).toNat = k - c := by omega
    have e4 : (double.leastPlace + ((c - D : Nat) : Int) - (double.leastPlace + (k : Nat) - (D : Nat))).toNat = c - k := by omega
    rw [e2, e3, e4, cut_plain, Nat.shiftLeft_eq]
    have key : cR (m * 2 ^ (k - c)) (c - k) = cR (m * 2 ^ k) c := by
      by_cases h : c ≤ k
      · rw [cR_exact m k c h, show c - k = 0 by omega]
        have := cR_exact (m * 2 ^ (k - c)) 0 0 (Nat.le_refl _)
        simpa using this
      · rw [show k - c = 0 by omega, Nat.pow_zero, Nat.mul_one]
        have := cR_scale m (c - k) k
        rw [show c - k + k = c by omega] at this
        exact this.symm
    rw [key]
theorem cR_hi (n c : Nat) (h : n.log2 ≤ c + 52) : cR n c ≤ 2 ^ 53 := by
  have n1 : n < 2 ^ (n.log2 + 1) := Nat.lt_log2_self
  have hq : n / 2 ^ c < 2 ^ 53 := by
    rw [Nat.div_lt_iff_lt_mul (Nat.two_pow_pos _), ← Nat.pow_add]
    exact Nat.lt_of_lt_of_le n1 (Nat.pow_le_pow_right (by omega) (by omega))
  have gen : ∀ q c : Nat, q < 2 ^ 53 → c ≤ 1 → q + c ≤ 2 ^ 53 := by intro q c h1 h2; omega
  unfold cR
  exact gen _ _ hq (by split <;> omega)
theorem cR_lo (m c : Nat) (hm : m ≠ 0) (h : c + 52 ≤ m.log2) : 2 ^ 52 ≤ cR m c := by
  have m1 : 2 ^ m.log2 ≤ m := Nat.log2_self_le hm
  have : 2 ^ 52 ≤ m / 2 ^ c := by
    rw [Nat.le_div_iff_mul_le (Nat.two_pow_pos _), ← Nat.pow_add]
    exact Nat.le_trans (Nat.pow_le_pow_right (by omega) (by omega)) m1
  unfold cR
  exact Nat.le_trans this (Nat.le_add_right _ _)
theorem Rd_mono {n m : Nat} (D : Nat) (h : n ≤ m) : Rd D n ≤ Rd D m := by
  unfold Rd
  by_cases hn : n = 0
  · rw [if_pos hn]; exact Nat.zero_le _
  · rw [if_neg hn, if_neg (by omega)]
    have hll : n.log2 ≤ m.log2 := by
      rcases Nat.lt_or_ge m.log2 n.log2 with hc | hc
      · have n2 : 2 ^ n.log2 ≤ n := Nat.log2_self_le hn
        have m2 : m < 2 ^ (m.log2 + 1) := Nat.lt_log2_self
        have : 2 ^ (m.log2 + 1) ≤ 2 ^ n.log2 := Nat.pow_le_pow_right (by omega) (by omega)
        omega
      · exact hc
    have core : (max (n.log2 - 52) D - D) * 2 ^ 52 + cR n (max (n.log2 - 52) D) ≤ (max (m.log2 - 52) D - D) * 2 ^ 52 + cR m (max (m.log2 - 52) D) := by
      by_cases hD : max (n.log2 - 52) D = max (m.log2 - 52) D
      · rw [hD]
        have := cR_mono (max (m.log2 - 52) D) h
        omega
      · have b1 := cR_hi n (max (n.log2 - 52) D) (by omega)
        have b2 := cR_lo m (max (m.log2 - 52) D) (by omega) (by omega)
        generalize cR n (max (n.log2 - 52) D) = A at *
        generalize cR m (max (m.log2 - 52) D) = B at *
        have hlt : max (n.log2 - 52) D + 1 ≤ max (m.log2 - 52) D := by omega
        have hDa : D ≤ max (n.log2 - 52) D := Nat.le_max_right _ _
        generalize max (n.log2 - 52) D = a at *
        generalize hb : max (m.log2 - 52) D = b at *
        have : a - D + 1 ≤ b - D := by omega
        have := Nat.mul_le_mul_right (2 ^ 52) this
        rw [Nat.add_mul] at this
        omega
    exact Nat.le_min.2 ⟨Nat.le_trans (Nat.min_le_left _ _) core, Nat.min_le_right _ _⟩
theorem Rd_scale (D n : Nat) : Rd D (n * 2 ^ D) = R n := by
  unfold Rd R
  by_cases hn : n = 0
  · subst hn; simp
  · rw [if_neg hn, if_neg (Nat.ne_of_gt (Nat.mul_pos (by omega) (Nat.two_pow_pos _))), log2_shift n D hn]
    have e : max (n.log2 + D - 52) D = n.log2 - 52 + D := by omega
    rw [e, cR_scale, Nat.add_sub_cancel]
/-- the product of two numbers -/
theorem mul_fin (x y : Nat) (hx : rung x < infR) (hy : rung y < infR) : double.mul x y = some (double.word (sgn x ^^ sgn y) (Rd 1074 (val (rung x) * val (rung y)))) := by
  obtain ⟨m, a, e1, v1⟩ := read_num x hx
  obtain ⟨n, b, e2, v2⟩ := read_num y hy
  unfold Format.mul
  rw [e1, e2]
  unfold Datum.product
  simp only [Option.map_some, Format.write]
  have h : double.leastPlace = -1074 := rfl
  have e4 : double.leastPlace + (a : Int) + (double.leastPlace + (b : Int)) = double.leastPlace + ((a + b : Nat) : Int) - ((1074 : Nat) : Int) := by rw [h]; omega
  rw [e4, nearest_Rd, ← v1, ← v2]
  have e5 : m * n * 2 ^ (a + b) = m * 2 ^ a * (n * 2 ^ b) := by
    rw [Nat.pow_add, Nat.mul_assoc, Nat.mul_assoc, Nat.mul_left_comm n]
  rw [e5]
/-- neither a NaN nor less than nothing -/
def Pos (x : Nat) : Prop := Real x ∧ 0 ≤ key x
theorem pos_word (neg : Bool) (r : Nat) (h : r ≤ infR) (hs : neg = true → r = 0) : Pos (double.word neg r) ∧ key (double.word neg r) = r := by
  have k := key_word neg r h
  have : sg neg r = r := by
    unfold sg
    cases neg
    · rfl
    · rw [hs rfl]; rfl
  rw [this] at k
  exact ⟨⟨real_word _ _ h, by rw [k]; omega⟩, k⟩
theorem pos_sgn {x : Nat} (h : 0 ≤ key x) : sgn x = false ∨ rung x = 0 := by
  unfold key sg at h
  cases hs : sgn x
  · exact .inl rfl
  · rw [hs] at h
    right
    simp only [if_true] at h
    omega
theorem pos_key {x : Nat} (h : 0 ≤ key x) : key x = rung x := by
  rcases pos_sgn h with h1 | h1
  · unfold key sg; rw [h1]; rfl
  · unfold key sg; rw [h1]; split <;> rfl
theorem mul_pos (x y : Nat) (hx : rung x < infR) (hy : rung y < infR) (px : 0 ≤ key x) (py : 0 ≤ key y) :
    ∃ r, double.mul x y = some r ∧ Pos r ∧ key r = Rd 1074 (val (rung x) * val (rung y)) := by
  refine ⟨_, mul_fin x y hx hy, ?_⟩
  refine pos_word _ _ (Rd_le _ _) fun h => ?_
  rcases pos_sgn px with h1 | h1 <;> rcases pos_sgn py with h2 | h2
  · rw [h1, h2] at h; cases h
  · rw [h2, val_zero, Nat.mul_zero]; rfl
  · rw [h1, val_zero, Nat.zero_mul]; rfl
  · rw [h1, val_zero, Nat.zero_mul]; rfl
theorem val_one : val ONE = 2 ^ 1074 := by decide +kernel
theorem top_any (D r : Nat) (h : val ONE = 2 ^ D) (hr : r ≤ infR) : Rd D (val ONE * val r) = r := by
  rw [h, Nat.mul_comm, Rd_scale]
  exact R_val r hr
/-- times a number between 0 and 1 -/
theorem mul_part (q y : Nat) (hq : 0 ≤ key q) (hq2 : key q ≤ key ONE) (hy : rung y < infR) (py : 0 ≤ key y) :
    ∃ r, double.mul q y = some r ∧ Pos r ∧ key r ≤ key y ∧ (key q = 0 → key r = 0) ∧ (key q = key ONE → key r = key y) := by
  have ho := real_pos ONE (by decide)
  rw [ho.2.2.2] at hq2
  rw [pos_key hq] at hq2
  have hq3 : rung q ≤ ONE := by omega
  have hi : ONE < infR := by decide
  obtain ⟨r, e1, e2, e3⟩ := mul_pos q y (by omega) hy hq py
  have hle : val (rung q) ≤ val ONE := by
    rcases Nat.lt_or_ge (rung q) ONE with h | h
    · exact Nat.le_of_lt (val_lt h)
    · rw [Nat.le_antisymm hq3 h]; exact Nat.le_refl _
  have top : Rd 1074 (val ONE * val (rung y)) = rung y := top_any 1074 _ val_one (Nat.le_of_lt hy)
  refine ⟨r, e1, e2, ?_, fun h => ?_, fun h => ?_⟩
  · rw [e3, pos_key py]
    have := Rd_mono 1074 (Nat.mul_le_mul_right (val (rung y)) hle)
    rw [top] at this
    exact Int.ofNat_le.2 this
  · rw [pos_key hq] at h
    have : rung q = 0 := by omega
    rw [e3, this, val_zero, Nat.zero_mul]; rfl
  · rw [ho.2.2.2, pos_key hq] at h
    have : rung q = ONE := by omega
    rw [e3, this, top, pos_key py]
/-- a number times itself -/
theorem sq_pos (x : Nat) (h : Real x) : ∃ r, double.mul x x = some r ∧ Pos r := by
  by_cases h1 : rung x < infR
  · refine ⟨_, mul_fin x x h1 h1, (pos_word _ _ (Rd_le _ _) fun h => ?_).1⟩
    cases hs : sgn x <;> rw [hs] at h <;> cases h
  · have e := read_inf x (by unfold Real at h; omega)
    unfold Format.mul
    rw [e]
    refine ⟨_, rfl, ?_⟩
    show Pos (double.word (sgn x ^^ sgn x) infR)
    refine (pos_word _ _ (Nat.le_refl _) fun h => ?_).1
    cases hs : sgn x <;> rw [hs] at h <;> cases h
end Ieee
