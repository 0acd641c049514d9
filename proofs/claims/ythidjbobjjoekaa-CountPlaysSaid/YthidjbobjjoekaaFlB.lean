/- How two words of floats stand to each other, told by their keys: whole numbers that rise with them. No program in sight. -/
import Derived.Test.YthidjbobjjoekaaFlA
namespace Ieee
/-- the value of a rung, in units of the least place -/
def val (r : Nat) : Nat := if r < 2 ^ 52 then r else (2 ^ 52 + r % 2 ^ 52) * 2 ^ (r / 2 ^ 52 - 1)
theorem val_succ (r : Nat) : val r < val (r + 1) := by
  unfold val
  by_cases h : r + 1 < 2 ^ 52
  · rw [if_pos (by omega), if_pos h]; omega
  · by_cases h2 : r < 2 ^ 52
    · rw [if_pos h2, if_neg h]
      have : r + 1 = 2 ^ 52 := by omega
      rw [this]
      simp
      omega
    · rw [if_neg h2, if_neg h]
      have h3 := Nat.div_add_mod r (2 ^ 52)
      have h4 : r % 2 ^ 52 < 2 ^ 52 := Nat.mod_lt _ (by omega)
      obtain ⟨q, hq⟩ : ∃ q, r / 2 ^ 52 = q + 1 := ⟨r / 2 ^ 52 - 1, by omega⟩
      by_cases h5 : r % 2 ^ 52 + 1 < 2 ^ 52
      · have e1 : (r + 1) / 2 ^ 52 = r / 2 ^ 52 := by omega
        have e2 : (r + 1) % 2 ^ 52 = r % 2 ^ 52 + 1 := by omega
        rw [e1, e2]
        exact Nat.mul_lt_mul_of_pos_right (by omega) (Nat.two_pow_pos _)
      · have e1 : (r + 1) / 2 ^ 52 = q + 2 := by omega
        have e2 : (r + 1) % 2 ^ 52 = 0 := by omega
        rw [e1, e2, hq, show q + 2 - 1 = q + 1 from rfl, show q + 1 - 1 = q from rfl, Nat.pow_succ]
        have h6 := Nat.two_pow_pos q
        have h7 : (2 ^ 52 + r % 2 ^ 52) * 2 ^ q < (2 * 2 ^ 52) * 2 ^ q := Nat.mul_lt_mul_of_pos_right (by omega) h6
        have h8 : (2 ^ 52 + 0) * (2 ^ q * 2) = (2 * 2 ^ 52) * 2 ^ q := by rw [Nat.add_zero, Nat.mul_comm (2 ^ q) 2, ← Nat.mul_assoc, Nat.mul_comm (2 ^ 52) 2]
        exact Nat.lt_of_lt_of_eq h7 h8.symm
theorem val_add (r d : Nat) : val r < val (r + d + 1) := by
  induction d with
  | zero => exact val_succ r
  | succ d ih => exact Nat.lt_trans ih (val_succ _)
theorem val_lt {r s : Nat} (h : r < s) : val r < val s := by
  have := val_add r (s - r - 1)
  rwa [show r + (s - r - 1) + 1 = s by omega] at this
theorem val_lt_iff {r s : Nat} : val r < val s ↔ r < s := by
  constructor
  · intro h
    rcases Nat.lt_trichotomy r s with h1 | rfl | h1
    · exact h1
    · omega
    · have := val_lt h1; omega
  · exact val_lt
theorem val_inj {r s : Nat} (h : val r = val s) : r = s := by
  rcases Nat.lt_trichotomy r s with h1 | h1 | h1
  · have := val_lt h1; omega
  · exact h1
  · have := val_lt h1; omega
theorem val_zero : val 0 = 0 := rfl
def rung (x : Nat) : Nat := x % 2 ^ 63
def sgn (x : Nat) : Bool := x / 2 ^ 63 % 2 == 1
def infR : Nat := 2047 * 2 ^ 52
/-- a float that is no NaN -/
def Real (x : Nat) : Prop := rung x ≤ infR
def sg (s : Bool) (n : Nat) : Int := if s then -(n : Int) else n
/-- the key: it rises with the float; the two zeros have one key -/
def key (x : Nat) : Int := sg (sgn x) (rung x)
theorem read_num (x : Nat) (h : rung x < infR) : ∃ m k : Nat, double.read x = .number (sgn x) m (double.leastPlace + (k : Nat)) ∧ m * 2 ^ k = val (rung x) := by
  unfold Format.read
  have hs : double.signWeight = 2 ^ 63 := rfl
  have hb : double.binade = 2 ^ 52 := rfl
  have hi : double.infRung = infR := rfl
  simp only [hs, hb, hi]
  unfold rung at h
  by_cases h1 : x % 2 ^ 63 < 2 ^ 52
  · rw [if_pos h1]
    exact ⟨x % 2 ^ 63, 0, by simp [sgn], by rw [Nat.pow_zero, Nat.mul_one]; unfold val rung; rw [if_pos h1]⟩
  · rw [if_neg h1, if_pos h]
    exact ⟨_, _, rfl, by simp [val, rung, if_neg h1]⟩
theorem read_inf (x : Nat) (h : rung x = infR) : double.read x = .infinity (sgn x) := by
  unfold Format.read
  have hs : double.signWeight = 2 ^ 63 := rfl
  have hb : double.binade = 2 ^ 52 := rfl
  have hi : double.infRung = infR := rfl
  simp only [hs, hb, hi]
  unfold rung at h
  rw [h, if_neg (by decide), if_neg (by omega), if_pos rfl]
  rfl
theorem read_nan (x : Nat) (h : ¬ Real x) : ∃ s f, double.read x = .nan s f := by
  unfold Format.read
  have hs : double.signWeight = 2 ^ 63 := rfl
  have hb : double.binade = 2 ^ 52 := rfl
  have hi : double.infRung = infR := rfl
  simp only [hs, hb, hi]
  unfold Real rung at h
  have : infR = 2047 * 2 ^ 52 := rfl
  rw [if_neg (by omega), if_neg (by omega), if_neg (by omega)]
  exact ⟨_, _, rfl⟩
theorem signed_mul (s : Bool) (m a c : Nat) (h : c ≤ a) : signed s m (a - c) * ((2 ^ c : Nat) : Int) = sg s (m * 2 ^ a) := by
  have e : m <<< (a - c) * 2 ^ c = m * 2 ^ a := by
    rw [Nat.shiftLeft_eq, Nat.mul_assoc, ← Nat.pow_add, Nat.sub_add_cancel h]
  unfold signed sg
  cases s
  · simp only [Bool.false_eq_true, if_false]; rw [← Int.natCast_mul, e]
  · simp only [if_true]; rw [← e, Int.natCast_mul, Int.neg_mul]
theorem cmp_mul (a b : Int) (p : Nat) (h : 0 < p) : compare (a * (p : Int)) (b * (p : Int)) = compare a b := by
  have hp : (0 : Int) < p := by omega
  have h1 : a * (p : Int) < b * p ↔ a < b := Int.mul_lt_mul_right hp
  have h2 : a * (p : Int) = b * p ↔ a = b := Int.mul_eq_mul_right_iff (by omega)
  simp only [compare, compareOfLessAndEq, h1, h2]
theorem sg_lt (s t : Bool) (m n : Nat) : sg s (val m) < sg t (val n) ↔ sg s m < sg t n := by
  have h1 := @val_lt_iff m n
  have h2 := @val_lt_iff n m
  have h3 := @val_lt_iff 0 n
  have h4 := @val_lt_iff 0 m
  rw [val_zero] at h3 h4
  unfold sg
  cases s <;> cases t <;> simp only [Bool.false_eq_true, if_false, if_true] <;> omega
theorem sg_eq (s t : Bool) (m n : Nat) : sg s (val m) = sg t (val n) ↔ sg s m = sg t n := by
  have h1 := sg_lt s t m n
  have h2 := sg_lt t s n m
  omega
theorem order_nan_left (x y : Nat) (h : ¬ Real x) : double.order x y = none := by
  obtain ⟨s, f, e⟩ := read_nan x h
  unfold Format.order
  rw [e]; rfl
theorem order_nan_right (x y : Nat) (h : ¬ Real y) : double.order x y = none := by
  obtain ⟨s, f, e⟩ := read_nan y h
  unfold Format.order
  rw [e]; cases double.read x <;> rfl
theorem cmp_lt {a b : Int} (h : a < b) : compare a b = .lt := by simp only [compare, compareOfLessAndEq, if_pos h]
theorem cmp_gt {a b : Int} (h : b < a) : compare a b = .gt := by simp only [compare, compareOfLessAndEq]; rw [if_neg (by omega), if_neg (by omega)]
theorem cmp_eq {a b : Int} (h : a = b) : compare a b = .eq := by simp only [compare, compareOfLessAndEq]; rw [if_neg (by omega), if_pos h]
theorem order_key (x y : Nat) (hx : Real x) (hy : Real y) : double.order x y = some (compare (key x) (key y)) := by
  unfold Format.order
  unfold Real at hx hy
  have hpos : 0 < infR := by decide
  by_cases h1 : rung x < infR
  · obtain ⟨m, a, e1, v1⟩ := read_num x h1
    by_cases h2 : rung y < infR
    · obtain ⟨n, b, e2, v2⟩ := read_num y h2
      rw [e1, e2]
      unfold Datum.order
      dsimp only
      have q1 : ((double.leastPlace + (a : Nat)) - min (double.leastPlace + (a : Nat)) (double.leastPlace + (b : Nat))).toNat = a - min a b := by omega
      have q2 : ((double.leastPlace + (b : Nat)) - min (double.leastPlace + (a : Nat)) (double.leastPlace + (b : Nat))).toNat = b - min a b := by omega
      rw [q1, q2, ← cmp_mul _ _ (2 ^ min a b) (Nat.two_pow_pos _), signed_mul _ _ _ _ (by omega), signed_mul _ _ _ _ (by omega), v1, v2]
      unfold key
      simp only [compare, compareOfLessAndEq, sg_lt, sg_eq]
    · have h3 : rung y = infR := by omega
      rw [e1, read_inf y h3]
      unfold Datum.order
      dsimp only
      unfold key sg
      rw [h3]
      cases sgn y <;> cases sgn x <;> simp only [Bool.false_eq_true, if_false, if_true] <;> first | rw [cmp_lt (by omega)] | rw [cmp_gt (by omega)]
  · have h4 : rung x = infR := by omega
    rw [read_inf x h4]
    by_cases h2 : rung y < infR
    · obtain ⟨n, b, e2, v2⟩ := read_num y h2
      rw [e2]
      unfold Datum.order
      dsimp only
      unfold key sg
      rw [h4]
      cases sgn y <;> cases sgn x <;> simp only [Bool.false_eq_true, if_false, if_true] <;> first | rw [cmp_lt (by omega)] | rw [cmp_gt (by omega)]
    · have h3 : rung y = infR := by omega
      rw [read_inf y h3]
      unfold Datum.order
      dsimp only
      unfold key sg
      rw [h3, h4]
      cases sgn y <;> cases sgn x <;> simp only [Bool.false_eq_true, if_false, if_true] <;> first | rfl | rw [cmp_lt (by omega)] | rw [cmp_gt (by omega)] | rw [cmp_eq (by omega)]
  all_goals rfl
end Ieee
