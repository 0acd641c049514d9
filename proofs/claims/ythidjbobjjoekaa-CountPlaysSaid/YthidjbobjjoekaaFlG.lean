/- Sums, differences, quotients, roots and floors of floats: which way they go. No program in sight. -/
import Derived.Test.YthidjbobjjoekaaFlF
namespace Ieee
set_option linter.unusedVariables false
theorem read_opp (x y : Nat) (h1 : sgn y = !sgn x) (h2 : rung y = rung x) : double.read y = (double.read x).opposite := by
  unfold Format.read
  have hs : double.signWeight = 2 ^ 63 := rfl
  have hb : double.binade = 2 ^ 52 := rfl
  have hi : double.infRung = infR := rfl
  simp only [hs, hb, hi]
  have e1 : (y / 2 ^ 63 % 2 == 1) = !(x / 2 ^ 63 % 2 == 1) := h1
  have e2 : y % 2 ^ 63 = x % 2 ^ 63 := h2
  rw [e1, e2]
  split
  · rfl
  · split
    · rfl
    · split <;> rfl
/-- the other sign's word -/
def opp (x : Nat) : Nat := double.word (!sgn x) (rung x)
theorem opp_ok (x : Nat) (h : Real x) : double.read (opp x) = (double.read x).opposite ∧ Real (opp x) ∧ rung (opp x) = rung x ∧ VV (opp x) = -VV x := by
  have hr : rung (opp x) = rung x := rung_word (!sgn x) (rung x) h
  have hs : sgn (opp x) = !sgn x := by
    have h1 : double.signWeight = 2 ^ 63 := rfl
    have h2 : infR = 2047 * 2 ^ 52 := rfl
    have h3 : rung x ≤ infR := h
    unfold opp
    generalize sgn x = b
    unfold sgn Format.word
    rw [h1]
    cases b
    · show ((if true = true then 2 ^ 63 + rung x else rung x) / 2 ^ 63 % 2 == 1) = true
      rw [if_pos rfl, show (2 ^ 63 + rung x) / 2 ^ 63 = 1 by omega]; rfl
    · show ((if false = true then 2 ^ 63 + rung x else rung x) / 2 ^ 63 % 2 == 1) = false
      rw [if_neg (by decide), Nat.div_eq_of_lt (by omega)]; rfl
  refine ⟨read_opp x _ hs hr, real_word _ _ h, hr, ?_⟩
  unfold VV
  rw [hs, hr]
  unfold sg
  cases sgn x <;> simp
theorem sub_opp (x y : Nat) (h : Real y) : double.sub x y = double.add x (opp y) := by
  unfold Format.sub Format.add
  rw [(opp_ok y h).1]
/-- a number less whatever is no NaN -/
theorem sub_real (x y : Nat) (hx : rung x < infR) (hy : Real y) : ∃ r, double.sub x y = some r ∧ Real r := by
  rw [sub_opp x y hy]
  obtain ⟨m, k, e, _⟩ := read_num x hx
  unfold Format.add
  rw [e]
  rcases real_cases _ (opp_ok y hy).2.1 with ⟨n, p, e2⟩ | e2
  · rw [e2]; exact ⟨_, rfl, real_nearest _ _ _⟩
  · rw [e2]; exact ⟨_, rfl, real_inf _⟩
theorem sub_key (x y : Nat) (hx : rung x < infR) (hy : rung y < infR) : ∃ r, double.sub x y = some r ∧ Real r ∧ key r = sR (VV x - VV y) := by
  have o := opp_ok y (Nat.le_of_lt hy)
  rw [sub_opp x y (Nat.le_of_lt hy)]
  obtain ⟨r, a, b, c⟩ := add_key x (opp y) hx (by rw [o.2.2.1]; exact hy)
  exact ⟨r, a, b, by rw [c, o.2.2.2]; rfl⟩
theorem sR_nonneg {t : Int} (h : 0 ≤ t) : sR t = (R t.toNat : Int) := by
  unfold sR sg
  have : decide (t < 0) = false := decide_eq_false (by omega)
  rw [this, show t.natAbs = t.toNat by omega]
  rfl
theorem VV_pos {x : Nat} (h : 0 ≤ key x) : VV x = val (rung x) := by
  unfold VV sg
  rcases pos_sgn h with h1 | h1
  · rw [h1]; rfl
  · rw [h1]; split <;> rfl
theorem sR_VV (x : Nat) (h : rung x ≤ infR) : sR (VV x) = key x := by
  have hv : ∀ n, val n = 0 → n = 0 := fun n hn => val_inj (s := 0) hn
  unfold VV key
  cases hs : sgn x
  · show sR (val (rung x) : Int) = (rung x : Int)
    rw [sR_nonneg (by omega), Int.toNat_natCast, R_val _ h]
  · show sR (-(val (rung x) : Int)) = -(rung x : Int)
    unfold sR
    rw [Int.natAbs_neg, Int.natAbs_natCast, R_val _ h]
    by_cases h0 : rung x = 0
    · rw [h0]; unfold sg; split <;> rfl
    · have : val (rung x) ≠ 0 := fun h => h0 (hv _ h)
      rw [decide_eq_true (by omega)]; rfl
theorem inf_word (x : Nat) (h : 0 ≤ key x) (hr : rung x = infR) : double.read x = .infinity false := by
  rcases pos_sgn h with h1 | h1
  · rw [read_inf x hr, h1]
  · rw [h1] at hr; exact absurd hr (by decide)
/-- a number and what is not less than nothing -/
theorem add_up (x y : Nat) (hx : rung x < infR) (hy : Pos y) : ∃ r, double.add x y = some r ∧ Real r ∧ key x ≤ key r := by
  by_cases h : rung y < infR
  · obtain ⟨r, a, b, c⟩ := add_key x y hx h
    refine ⟨r, a, b, ?_⟩
    rw [c, ← sR_VV x (Nat.le_of_lt hx)]
    exact sR_mono (by have := VV_pos hy.2; omega)
  · have h1 := hy.1
    unfold Real at h1
    obtain ⟨m, k, e, _⟩ := read_num x hx
    unfold Format.add
    rw [e, inf_word y hy.2 (by omega)]
    refine ⟨_, rfl, real_inf _, ?_⟩
    show key x ≤ key (double.word false infR)
    rw [key_word _ _ (Nat.le_refl _)]
    exact (key_bd x (Nat.le_of_lt hx)).2
theorem add_pos (x y : Nat) (hx : Pos x) (hy : Pos y) : ∃ r, double.add x y = some r ∧ Pos r := by
  by_cases h : rung x < infR
  · obtain ⟨r, a, b, c⟩ := add_up x y h hy
    exact ⟨r, a, b, Int.le_trans hx.2 c⟩
  · have h1 := hx.1
    unfold Real at h1
    unfold Format.add
    rw [inf_word x hx.2 (by omega)]
    have hp : Pos (double.word false infR) := (pos_word _ _ (Nat.le_refl _) fun h => by cases h).1
    by_cases h2 : rung y < infR
    · obtain ⟨m, k, e, _⟩ := read_num y h2
      rw [e]
      exact ⟨_, rfl, hp⟩
    · have h3 := hy.1
      unfold Real at h3
      rw [inf_word y hy.2 (by omega)]
      exact ⟨_, rfl, hp⟩
theorem pos_near (neg : Bool) (m : Nat) (p : Int) (h : neg = true → m = 0) : Pos (double.nearest neg m p) := by
  have e : double.nearest neg m p = double.word neg (rung (double.nearest neg m p)) ∧ rung (double.nearest neg m p) ≤ infR ∧ (m = 0 → rung (double.nearest neg m p) = 0) := by
    unfold Format.nearest
    by_cases hm : m = 0
    · rw [if_pos hm, rung_word _ _ (Nat.zero_le _)]
      exact ⟨rfl, Nat.zero_le _, fun _ => rfl⟩
    · rw [if_neg hm]
      have hi : double.infRung = infR := rfl
      dsimp only
      rw [hi, rung_word _ _ (Nat.min_le_right _ _)]
      exact ⟨rfl, Nat.min_le_right _ _, fun h => absurd h hm⟩
  rw [e.1]
  exact (pos_word _ _ e.2.1 fun hn => e.2.2 (h hn)).1
/-- divided by a number of things -/
theorem div_num (x y : Nat) (hx : Real x) (hy : rung y < infR) (py : 0 < key y) : ∃ r, double.div x y = some r ∧ Real r ∧ (0 ≤ key x → Pos r) := by
  obtain ⟨n, b, e2, v2⟩ := read_num y hy
  have hs : sgn y = false := by
    rcases pos_sgn (Int.le_of_lt py) with h | h
    · exact h
    · rw [pos_key (Int.le_of_lt py)] at py; omega
  have hn : n ≠ 0 := fun h => by
    rw [h, Nat.zero_mul] at v2
    have := val_inj (r := rung y) (s := 0) v2.symm
    rw [pos_key (Int.le_of_lt py)] at py; omega
  unfold Format.div
  rw [e2, hs]
  by_cases h : rung x < infR
  · obtain ⟨m, a, e1, v1⟩ := read_num x h
    rw [e1]
    unfold Datum.quotient
    dsimp only
    rw [if_neg hn]
    refine ⟨_, rfl, real_nearest _ _ _, fun hp => ?_⟩
    refine pos_near _ _ _ fun hneg => ?_
    rcases pos_sgn hp with h1 | h1
    · rw [h1] at hneg; cases hneg
    · rw [h1] at v1
      have hm : m = 0 := by
        rcases Nat.mul_eq_zero.1 v1 with h | h
        · exact h
        · have := Nat.two_pow_pos a; omega
      subst hm
      simp
  · have h1 := hx
    unfold Real at h1
    rw [read_inf x (by omega)]
    refine ⟨_, rfl, real_inf _, fun hp => ?_⟩
    show Pos (double.word (sgn x ^^ false) infR)
    refine (pos_word _ _ (Nat.le_refl _) fun hneg => ?_).1
    rcases pos_sgn hp with h2 | h2
    · rw [h2] at hneg; cases hneg
    · exact absurd h2 (by have : infR = 2047 * 2 ^ 52 := rfl; omega)
theorem sqrt_pos (x : Nat) (h : Pos x) : ∃ r, double.sqrt x = some r ∧ Pos r := by
  unfold Format.sqrt
  by_cases h1 : rung x < infR
  · obtain ⟨m, a, e1, v1⟩ := read_num x h1
    rw [e1]
    unfold Datum.root
    by_cases hm : m = 0
    · simp only [if_pos hm]
      exact ⟨_, rfl, pos_near _ _ _ fun _ => hm⟩
    · have hs : sgn x = false := by
        rcases pos_sgn h.2 with h | h
        · exact h
        · rw [h] at v1
          rcases Nat.mul_eq_zero.1 v1 with h | h
          · exact absurd h hm
          · have := Nat.two_pow_pos a; omega
      simp only [if_neg hm, hs, Bool.false_eq_true, if_false]
      exact ⟨_, rfl, pos_near _ _ _ fun h => by cases h⟩
  · have h2 := h.1
    unfold Real at h2
    rw [inf_word x h.2 (by omega)]
    exact ⟨_, rfl, (pos_word _ _ (Nat.le_refl _) fun h => by cases h).1⟩
/-- the whole part of a number of units -/
def UU : Nat := 1074
def fl (x : Nat) : Nat := val (rung x) / 2 ^ UU
def flW (x : Nat) : Nat := double.nearest (sgn x) (fl x) 0
theorem whole_any (s : Bool) (m k U : Nat) (p : Int) (hp : p = (k : Nat) - (U : Nat)) (way : Toward) (hw : way = .down ∨ way = .zero) (hs : s = true → m = 0) : way.cut s (m <<< p.toNat) (-p).toNat = m * 2 ^ k / 2 ^ U := by
  have hmore : ∀ rest : Nat, (s = true → rest = 0) → (match way with
      | .even => false
      | .down => s && rest != 0
      | .up => false
      | .zero => false) = false := by
    intro rest hr
    rcases hw with rfl | rfl
    · cases s
      · rfl
      · rw [hr rfl]; rfl
    · rfl
  have cut : ∀ n d, (s = true → n = 0) → way.cut s n d = n / 2 ^ d := by
    intro n d hn
    unfold Toward.cut
    simp only [Nat.shiftLeft_eq, Nat.one_mul]
    have hz : n / 2 ^ min d (n.log2 + 2) = n / 2 ^ d := by
      by_cases h : d ≤ n.log2 + 2
      · rw [Nat.min_eq_left h]
      · have h1 : n < 2 ^ (n.log2 + 1) := Nat.lt_log2_self
        rw [Nat.min_eq_right (by omega), Nat.div_eq_of_lt (Nat.lt_of_lt_of_le h1 (Nat.pow_le_pow_right (by omega) (by omega))), Nat.div_eq_of_lt (Nat.lt_of_lt_of_le h1 (Nat.pow_le_pow_right (by omega) (by omega)))]
    rcases hw with rfl | rfl
    · have : (s && n % 2 ^ min d (n.log2 + 2) != 0) = false := by
        cases s
        · rfl
        · rw [hn rfl, Nat.zero_mod]; rfl
      simp only [this]
      exact hz
    · exact hz
  rw [cut _ _ (fun h => by rw [hs h, Nat.shiftLeft_eq, Nat.zero_mul]), Nat.shiftLeft_eq]
  by_cases h : U ≤ k
  · rw [show p.toNat = k - U by omega, show (-p).toNat = 0 by omega, Nat.pow_zero, Nat.div_one]
    rw [show k = k - U + U by omega, Nat.pow_add, ← Nat.mul_assoc, Nat.mul_div_cancel _ (Nat.two_pow_pos _), Nat.add_sub_cancel]
  · rw [show p.toNat = 0 by omega, show (-p).toNat = U - k by omega, Nat.pow_zero, Nat.mul_one]
    rw [show U = U - k + k by omega, Nat.pow_add, Nat.mul_div_mul_right _ _ (Nat.two_pow_pos _), Nat.add_sub_cancel]
theorem fl_read (x : Nat) (h : rung x < infR) (hp : 0 ≤ key x) (way : Toward) (hw : way = .down ∨ way = .zero) : (double.read x).integral way = .number (sgn x) (fl x) 0 := by
  obtain ⟨m, k, e, v⟩ := read_num x h
  rw [e]
  unfold Datum.integral fl
  dsimp only
  rw [whole_any (sgn x) m k UU _ (by have h : double.leastPlace = -(UU : Nat) := rfl; rw [h]; omega) way hw, v]
  intro hs
  rcases pos_sgn hp with h1 | h1
  · rw [h1] at hs; cases hs
  · rw [h1] at v
    rcases Nat.mul_eq_zero.1 v with h | h
    · exact h
    · have := Nat.two_pow_pos k; omega
/-- a whole number below 2 to the 53rd is a float -/
theorem val_whole (U i : Nat) (hi : i < 2 ^ 53) (hU : 1 ≤ U) (hU2 : 52 ≤ U) : ∃ r, val r = i * 2 ^ U ∧ r < (U + 2) * 2 ^ 52 := by
  by_cases h0 : i = 0
  · exact ⟨0, by rw [h0, Nat.zero_mul]; rfl, by omega⟩
  · have l1 : 2 ^ i.log2 ≤ i := Nat.log2_self_le h0
    have l2 : i < 2 ^ (i.log2 + 1) := Nat.lt_log2_self
    have l3 : i.log2 ≤ 52 := by
      have := (Nat.log2_lt h0).2 hi
      omega
    generalize i.log2 = l at *
    have p1 : 2 ^ 52 ≤ i * 2 ^ (52 - l) := by
      have := Nat.mul_le_mul_right (2 ^ (52 - l)) l1
      rw [← Nat.pow_add, show l + (52 - l) = 52 by omega] at this
      exact this
    have p2 : i * 2 ^ (52 - l) < 2 ^ 53 := by
      have := Nat.mul_lt_mul_of_pos_right l2 (Nat.two_pow_pos (52 - l))
      rw [← Nat.pow_add, show l + 1 + (52 - l) = 53 by omega] at this
      exact this
    have key : i * 2 ^ (52 - l) * 2 ^ (U - (52 - l)) = i * 2 ^ U := by
      rw [Nat.mul_assoc, ← Nat.pow_add, show 52 - l + (U - (52 - l)) = U by omega]
    generalize i * 2 ^ (52 - l) = g at *
    refine ⟨(U - (52 - l) + 1) * 2 ^ 52 + (g - 2 ^ 52), ?_, by omega⟩
    unfold val
    rw [if_neg (by omega), show ((U - (52 - l) + 1) * 2 ^ 52 + (g - 2 ^ 52)) % 2 ^ 52 = g - 2 ^ 52 by omega, show ((U - (52 - l) + 1) * 2 ^ 52 + (g - 2 ^ 52)) / 2 ^ 52 = U - (52 - l) + 1 by omega, Nat.add_sub_cancel, show 2 ^ 52 + (g - 2 ^ 52) = g by omega, key]
theorem near0 (s : Bool) (i : Nat) (hi : i < 2 ^ 53) : ∃ r, double.nearest s i 0 = double.word s r ∧ r < 1100 * 2 ^ 52 ∧ val r = i * 2 ^ UU := by
  obtain ⟨r, e, h⟩ := val_whole UU i hi (by decide) (by decide)
  have hlt : r < 1100 * 2 ^ 52 := Nat.lt_of_lt_of_le h (by decide)
  have hinf : infR = 2047 * 2 ^ 52 := rfl
  have h0 : (0 : Int) = double.leastPlace + ((UU : Nat) : Int) := rfl
  refine ⟨r, ?_, hlt, e⟩
  rw [h0, nearest_R, ← e, R_val r (Nat.le_trans (Nat.le_of_lt hlt) (by decide))]
end Ieee
