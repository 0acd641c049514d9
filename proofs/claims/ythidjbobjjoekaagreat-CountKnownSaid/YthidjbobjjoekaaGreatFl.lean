/- A positive normal float halved, and doubled: its bits. No program in sight. -/
import Ieee.Arith
namespace Ieee
theorem cut_exact (neg : Bool) (n d : Nat) (hn : 0 < n) : Toward.even.cut neg (n * 2 ^ d) d = n := by
  have h1 : d ≤ (n * 2 ^ d).log2 := (Nat.le_log2 (by have := Nat.two_pow_pos d; exact Nat.ne_of_gt (Nat.mul_pos hn this))).2 (Nat.le_mul_of_pos_left _ hn)
  unfold Toward.cut
  have h2 : min d ((n * 2 ^ d).log2 + 2) = d := by omega
  have hp := Nat.two_pow_pos d
  simp only [h2, Nat.shiftLeft_eq, Nat.one_mul]
  rw [Nat.mul_div_cancel _ hp, Nat.mul_mod_left]
  have : (2 ^ d == 0) = false := by rw [beq_eq_false_iff_ne]; omega
  simp
/-- a normal number's word, written again with more digits behind it -/
theorem nearest_more (m : Nat) (h0 : 2 ^ 52 ≤ m) (h1 : m < 2 ^ 53) (e d : Nat) (he : e < 2046) :
    double.nearest false (m * 2 ^ d) (double.leastPlace + e - d) = e * 2 ^ 52 + m := by
  have hp := Nat.two_pow_pos d
  have hl : (m * 2 ^ d).log2 = 52 + d := by
    have h2 : m * 2 ^ d ≠ 0 := Nat.ne_of_gt (Nat.mul_pos (by omega) hp)
    refine (Nat.log2_eq_iff h2).2 ⟨?_, ?_⟩
    · rw [Nat.pow_add]; exact Nat.mul_le_mul_right _ h0
    · rw [show 52 + d + 1 = 53 + d by omega, Nat.pow_add]; exact Nat.mul_lt_mul_of_pos_right h1 hp
  unfold Format.nearest
  rw [if_neg (Nat.ne_of_gt (Nat.mul_pos (by omega) hp)), hl]
  have e1 : max (double.leastPlace + e - d + ((52 + d : Nat) : Int) - (double.fractionBits : Nat)) double.leastPlace = double.leastPlace + e := by
    have hF : double.fractionBits = 52 := rfl
    rw [hF]
    omega
  dsimp only
  rw [e1]
  have e2 : (double.leastPlace + e - d - (double.leastPlace + e)).toNat = 0 := by omega
  have e3 : (double.leastPlace + e - (double.leastPlace + e - d)).toNat = d := by omega
  have e4 : (double.leastPlace + e - double.leastPlace).toNat = e := by omega
  rw [e2, e3, e4, Nat.shiftLeft_zero, cut_exact false m d (by omega)]
  have hb : double.binade = 2 ^ 52 := rfl
  have hi : double.infRung = 2047 * 2 ^ 52 := rfl
  simp only [Format.word, hb, hi]
  rw [if_neg (by decide)]
  exact Nat.min_eq_left (by omega)
/-- a positive normal word, read -/
theorem read_normal (e f : Nat) (he : 1 ≤ e) (he2 : e < 2047) (hf : f < 2 ^ 52) : double.read (e * 2 ^ 52 + f) = .number false (2 ^ 52 + f) (double.leastPlace + (e - 1 : Nat)) := by
  unfold Format.read
  have hs : double.signWeight = 2 ^ 63 := rfl
  have hb : double.binade = 2 ^ 52 := rfl
  have hi : double.infRung = 2047 * 2 ^ 52 := rfl
  simp only [hs, hb, hi]
  have h1 : (e * 2 ^ 52 + f) % 2 ^ 63 = e * 2 ^ 52 + f := Nat.mod_eq_of_lt (by omega)
  have h2 : (e * 2 ^ 52 + f) / 2 ^ 63 = 0 := Nat.div_eq_of_lt (by omega)
  have h3 : (e * 2 ^ 52 + f) % 2 ^ 52 = f := by omega
  have h4 : (e * 2 ^ 52 + f) / 2 ^ 52 = e := by omega
  rw [h1, h2, h3, h4, if_neg (by omega), if_pos (by omega)]
  rfl
/-- LEMMA 1: halved -/
theorem halve (e f : Nat) (he : 2 ≤ e) (he2 : e < 2047) (hf : f < 2 ^ 52) : double.div (e * 2 ^ 52 + f) (1024 * 2 ^ 52) = some ((e - 1) * 2 ^ 52 + f) := by
  unfold Format.div
  have h2 := read_normal 1024 0 (by omega) (by omega) (by omega)
  rw [Nat.add_zero] at h2
  rw [read_normal e f (by omega) he2 hf, h2]
  have hl : (2 ^ 52 + f).log2 = 52 := (Nat.log2_eq_iff (by omega)).2 ⟨by omega, by omega⟩
  have hl2 : (2 ^ 52 + 0).log2 = 52 := (Nat.log2_eq_iff (by omega)).2 ⟨by omega, by omega⟩
  have hF : double.fractionBits + 2 = 54 := rfl
  unfold Datum.quotient
  dsimp only
  rw [if_neg (by omega), hl, hl2, hF]
  simp only [Option.map_some, Option.some.injEq, Format.write, Nat.shiftLeft_eq]
  have e1 : (2 ^ 52 + f) * 2 ^ (54 + 52 - 52) / (2 ^ 52 + 0) = (2 ^ 52 + f) * 4 := by
    rw [Nat.add_zero, show 54 + 52 - 52 = 2 + 52 by rfl, Nat.pow_add, ← Nat.mul_assoc, Nat.mul_div_cancel _ (by omega)]
  have e2 : (2 ^ 52 + f) * 2 ^ (54 + 52 - 52) % (2 ^ 52 + 0) = 0 := by
    rw [Nat.add_zero, show 54 + 52 - 52 = 2 + 52 by rfl, Nat.pow_add, ← Nat.mul_assoc, Nat.mul_mod_left]
  rw [e1, e2]
  have := nearest_more (2 ^ 52 + f) (by omega) (by omega) (e - 2) 3 (by omega)
  have e3 : 2 * ((2 ^ 52 + f) * 4) + ((0 : Nat) != 0).toNat = (2 ^ 52 + f) * 2 ^ 3 := by
    show 2 * ((2 ^ 52 + f) * 4) + 0 = _
    omega
  have e4 : double.leastPlace + ((e - 1 : Nat) : Int) - (double.leastPlace + ((1024 - 1 : Nat) : Int)) - ((54 + 52 - 52 : Nat) : Int) - 1 = double.leastPlace + ((e - 2 : Nat) : Int) - ((3 : Nat) : Int) := by
    show _ - ((-1074 : Int) + 1023) - 54 - 1 = _
    omega
  rw [e3, e4]
  rw [show (false ^^ false) = false from rfl, this]
  omega
/-- LEMMA 2: doubled -/
theorem dbl (e f : Nat) (he : 1 ≤ e) (he2 : e < 2046) (hf : f < 2 ^ 52) : double.mul (e * 2 ^ 52 + f) (1024 * 2 ^ 52) = some ((e + 1) * 2 ^ 52 + f) := by
  unfold Format.mul
  have h2 := read_normal 1024 0 (by omega) (by omega) (by omega)
  rw [Nat.add_zero] at h2
  rw [read_normal e f he (by omega) hf, h2]
  unfold Datum.product
  dsimp only
  simp only [Option.map_some, Option.some.injEq, Format.write]
  have := nearest_more (2 ^ 52 + f) (by omega) (by omega) e 52 he2
  have e4 : double.leastPlace + ((e - 1 : Nat) : Int) + (double.leastPlace + ((1024 - 1 : Nat) : Int)) = double.leastPlace + (e : Int) - ((52 : Nat) : Int) := by
    have h : double.leastPlace = -1074 := rfl
    rw [h]
    omega
  rw [e4, Nat.add_zero]
  rw [show (false ^^ false) = false from rfl, this]
  omega
/-- the least ones, doubled -/
theorem dbl_least (b : Nat) (h0 : 0 < b) (hb : b < 2 ^ 52) : double.mul b (1024 * 2 ^ 52) = some (2 * b) := by
  unfold Format.mul
  have h2 := read_normal 1024 0 (by omega) (by omega) (by omega)
  rw [Nat.add_zero] at h2
  have h3 : double.read b = .number false b double.leastPlace := by
    unfold Format.read
    have hs : double.signWeight = 2 ^ 63 := rfl
    have hbn : double.binade = 2 ^ 52 := rfl
    simp only [hs, hbn]
    have e1 : b % 2 ^ 63 = b := Nat.mod_eq_of_lt (by omega)
    have e2 : b / 2 ^ 63 = 0 := Nat.div_eq_of_lt (by omega)
    rw [e1, e2, if_pos hb]
    rfl
  rw [h3, h2]
  unfold Datum.product
  dsimp only
  simp only [Option.map_some, Option.some.injEq, Format.write]
  have e5 : b * (2 ^ 52 + 0) = 2 * b * 2 ^ 51 := by omega
  have hl : (2 * b * 2 ^ 51).log2 < 104 := (Nat.log2_lt (by omega)).2 (by omega)
  have h : double.leastPlace = -1074 := rfl
  have hF : double.fractionBits = 52 := rfl
  rw [e5, show (false ^^ false) = false from rfl]
  unfold Format.nearest
  rw [if_neg (by omega), h, hF]
  have e1 : max ((-1074 : Int) + (-1074 + ((1024 - 1 : Nat) : Int)) + ((2 * b * 2 ^ 51).log2 : Nat) - ((52 : Nat) : Int)) (-1074) = -1074 := by omega
  dsimp only
  rw [e1]
  have e2 : ((-1074 : Int) + (-1074 + ((1024 - 1 : Nat) : Int)) - -1074).toNat = 0 := by omega
  have e3 : ((-1074 : Int) - (-1074 + (-1074 + ((1024 - 1 : Nat) : Int)))).toNat = 51 := by omega
  have e4 : ((-1074 : Int) - -1074).toNat = 0 := by omega
  rw [e2, e3, e4, Nat.shiftLeft_zero, cut_exact false (2 * b) 51 (by omega)]
  have hi : double.infRung = 2047 * 2 ^ 52 := rfl
  simp only [Format.word, hi, Nat.zero_mul, Nat.zero_add]
  rw [if_neg (by decide)]
  exact Nat.min_eq_left (by omega)
end Ieee
/- How two words of floats stand to each other, told by their keys: whole numbers that rise with them. No program in sight. -/
namespace Ieee
/-- the value of a rung, in units of the least place -/
def val (r : Nat) : Nat := if r < 2 ^ 52 then r else (2 ^ 52 + r % 2 ^ 52) * 2 ^ (r / 2 ^ 52 - 1)
theorem val_succ (r : Nat) : val r < val (r + 1) := by
  unfold val
  by_cases h : r + 1 < 2 ^ 52
  · rw [if_pos (by omega), if_pos h]; omega
  · by_cases h2 : r < 2 ^ 52
    · rw [if_pos h2, if_neg h]
      have : r + 1 = 2 ^ 52 := by omega
      rw [this]
      simp
      omega
    · rw [if_neg h2, if_neg h]
      have h3 := Nat.div_add_mod r (2 ^ 52)
      have h4 : r % 2 ^ 52 < 2 ^ 52 := Nat.mod_lt _ (by omega)
      obtain ⟨q, hq⟩ : ∃ q, r / 2 ^ 52 = q + 1 := ⟨r / 2 ^ 52 - 1, by omega⟩
      by_cases h5 : r % 2 ^ 52 + 1 < 2 ^ 52
      · have e1 : (r + 1) / 2 ^ 52 = r / 2 ^ 52 := by omega
        have e2 : (r + 1) % 2 ^ 52 = r % 2 ^ 52 + 1 := by omega
        rw [e1, e2]
        exact Nat.mul_lt_mul_of_pos_right (by omega) (Nat.two_pow_pos _)
      · have e1 : (r + 1) / 2 ^ 52 = q + 2 := by omega
        have e2 : (r + 1) % 2 ^ 52 = 0 := by omega
        rw [e1, e2, hq, show q + 2 - 1 = q + 1 from rfl, show q + 1 - 1 = q from rfl, Nat.pow_succ]
        have h6 := Nat.two_pow_pos q
        have h7 : (2 ^ 52 + r % 2 ^ 52) * 2 ^ q < (2 * 2 ^ 52) * 2 ^ q := Nat.mul_lt_mul_of_pos_right (by omega) h6
        have h8 : (2 ^ 52 + 0) * (2 ^ q * 2) = (2 * 2 ^ 52) * 2 ^ q := by rw [Nat.add_zero, Nat.mul_comm (2 ^ q) 2, ← Nat.mul_assoc, Nat.mul_comm (2 ^ 52) 2]
        exact Nat.lt_of_lt_of_eq h7 h8.symm
theorem val_add (r d : Nat) : val r < val (r + d + 1) := by
  induction d with
  | zero => exact val_succ r
  | succ d ih => exact Nat.lt_trans ih (val_succ _)
theorem val_lt {r s : Nat} (h : r < s) : val r < val s := by
  have := val_add r (s - r - 1)
  rwa [show r + (s - r - 1) + 1 = s by omega] at this
theorem val_lt_iff {r s : Nat} : val r < val s ↔ r < s := by
  constructor
  · intro h
    rcases Nat.lt_trichotomy r s with h1 | rfl | h1
    · exact h1
    · omega
    · have := val_lt h1; omega
  · exact val_lt
theorem val_inj {r s : Nat} (h : val r = val s) : r = s := by
  rcases Nat.lt_trichotomy r s with h1 | h1 | h1
  · have := val_lt h1; omega
  · exact h1
  · have := val_lt h1; omega
theorem val_zero : val 0 = 0 := rfl
def rung (x : Nat) : Nat := x % 2 ^ 63
def sgn (x : Nat) : Bool := x / 2 ^ 63 % 2 == 1
def infR : Nat := 2047 * 2 ^ 52
/-- a float that is no NaN -/
def Real (x : Nat) : Prop := rung x ≤ infR
def sg (s : Bool) (n : Nat) : Int := if s then -(n : Int) else n
/-- the key: it rises with the float; the two zeros have one key -/
def key (x : Nat) : Int := sg (sgn x) (rung x)
theorem read_num (x : Nat) (h : rung x < infR) : ∃ m k : Nat, double.read x = .number (sgn x) m (double.leastPlace + (k : Nat)) ∧ m * 2 ^ k = val (rung x) := by
  unfold Format.read
  have hs : double.signWeight = 2 ^ 63 := rfl
  have hb : double.binade = 2 ^ 52 := rfl
  have hi : double.infRung = infR := rfl
  simp only [hs, hb, hi]
  unfold rung at h
  by_cases h1 : x % 2 ^ 63 < 2 ^ 52
  · rw [if_pos h1]
    exact ⟨x % 2 ^ 63, 0, by simp [sgn], by rw [Nat.pow_zero, Nat.mul_one]; unfold val rung; rw [if_pos h1]⟩
  · rw [if_neg h1, if_pos h]
    exact ⟨_, _, rfl, by simp [val, rung, if_neg h1]⟩
theorem read_inf (x : Nat) (h : rung x = infR) : double.read x = .infinity (sgn x) := by
  unfold Format.read
  have hs : double.signWeight = 2 ^ 63 := rfl
  have hb : double.binade = 2 ^ 52 := rfl
  have hi : double.infRung = infR := rfl
  simp only [hs, hb, hi]
  unfold rung at h
  rw [h, if_neg (by decide), if_neg (by omega), if_pos rfl]
  rfl
theorem read_nan (x : Nat) (h : ¬ Real x) : ∃ s f, double.read x = .nan s f := by
  unfold Format.read
  have hs : double.signWeight = 2 ^ 63 := rfl
  have hb : double.binade = 2 ^ 52 := rfl
  have hi : double.infRung = infR := rfl
  simp only [hs, hb, hi]
  unfold Real rung at h
  have : infR = 2047 * 2 ^ 52 := rfl
  rw [if_neg (by omega), if_neg (by omega), if_neg (by omega)]
  exact ⟨_, _, rfl⟩
theorem signed_mul (s : Bool) (m a c : Nat) (h : c ≤ a) : signed s m (a - c) * ((2 ^ c : Nat) : Int) = sg s (m * 2 ^ a) := by
  have e : m <<< (a - c) * 2 ^ c = m * 2 ^ a := by
    rw [Nat.shiftLeft_eq, Nat.mul_assoc, ← Nat.pow_add, Nat.sub_add_cancel h]
  unfold signed sg
  cases s
  · simp only [Bool.false_eq_true, if_false]; rw [← Int.natCast_mul, e]
  · simp only [if_true]; rw [← e, Int.natCast_mul, Int.neg_mul]
theorem cmp_mul (a b : Int) (p : Nat) (h : 0 < p) : compare (a * (p : Int)) (b * (p : Int)) = compare a b := by
  have hp : (0 : Int) < p := by omega
  have h1 : a * (p : Int) < b * p ↔ a < b := Int.mul_lt_mul_right hp
  have h2 : a * (p : Int) = b * p ↔ a = b := Int.mul_eq_mul_right_iff (by omega)
  simp only [compare, compareOfLessAndEq, h1, h2]
theorem sg_lt (s t : Bool) (m n : Nat) : sg s (val m) < sg t (val n) ↔ sg s m < sg t n := by
  have h1 := @val_lt_iff m n
  have h2 := @val_lt_iff n m
  have h3 := @val_lt_iff 0 n
  have h4 := @val_lt_iff 0 m
  rw [val_zero] at h3 h4
  unfold sg
  cases s <;> cases t <;> simp only [Bool.false_eq_true, if_false, if_true] <;> omega
theorem sg_eq (s t : Bool) (m n : Nat) : sg s (val m) = sg t (val n) ↔ sg s m = sg t n := by
  have h1 := sg_lt s t m n
  have h2 := sg_lt t s n m
  omega
theorem order_nan_left (x y : Nat) (h : ¬ Real x) : double.order x y = none := by
  obtain ⟨s, f, e⟩ := read_nan x h
  unfold Format.order
  rw [e]; rfl
theorem order_nan_right (x y : Nat) (h : ¬ Real y) : double.order x y = none := by
  obtain ⟨s, f, e⟩ := read_nan y h
  unfold Format.order
  rw [e]; cases double.read x <;> rfl
theorem cmp_lt {a b : Int} (h : a < b) : compare a b = .lt := by simp only [compare, compareOfLessAndEq, if_pos h]
theorem cmp_gt {a b : Int} (h : b < a) : compare a b = .gt := by simp only [compare, compareOfLessAndEq]; rw [if_neg (by omega), if_neg (by omega)]
theorem cmp_eq {a b : Int} (h : a = b) : compare a b = .eq := by simp only [compare, compareOfLessAndEq]; rw [if_neg (by omega), if_pos h]
theorem order_key (x y : Nat) (hx : Real x) (hy : Real y) : double.order x y = some (compare (key x) (key y)) := by
  unfold Format.order
  unfold Real at hx hy
  have hpos : 0 < infR := by decide
  by_cases h1 : rung x < infR
  · obtain ⟨m, a, e1, v1⟩ := read_num x h1
    by_cases h2 : rung y < infR
    · obtain ⟨n, b, e2, v2⟩ := read_num y h2
      rw [e1, e2]
      unfold Datum.order
      dsimp only
      have q1 : ((double.leastPlace + (a : Nat)) - min (double.leastPlace + (a : Nat)) (double.leastPlace + (b : Nat))).toNat = a - min a b := by omega
      have q2 : ((double.leastPlace + (b : Nat)) - min (double.leastPlace + (a : Nat)) (double.leastPlace + (b : Nat))).toNat = b - min a b := by omega
      rw [q1, q2, ← cmp_mul _ _ (2 ^ min a b) (Nat.two_pow_pos _), signed_mul _ _ _ _ (by omega), signed_mul _ _ _ _ (by omega), v1, v2]
      unfold key
      simp only [compare, compareOfLessAndEq, sg_lt, sg_eq]
    · have h3 : rung y = infR := by omega
      rw [e1, read_inf y h3]
      unfold Datum.order
      dsimp only
      unfold key sg
      rw [h3]
      cases sgn y <;> cases sgn x <;> simp only [Bool.false_eq_true, if_false, if_true] <;> first | rw [cmp_lt (by omega)] | rw [cmp_gt (by omega)]
  · have h4 : rung x = infR := by omega
    rw [read_inf x h4]
    by_cases h2 : rung y < infR
    · obtain ⟨n, b, e2, v2⟩ := read_num y h2
      rw [e2]
      unfold Datum.order
      dsimp only
      unfold key sg
      rw [h4]
      cases sgn y <;> cases sgn x <;> simp only [Bool.false_eq_true, if_false, if_true] <;> first | rw [cmp_lt (by omega)] | rw [cmp_gt (by omega)]
    · have h3 : rung y = infR := by omega
      rw [read_inf y h3]
      unfold Datum.order
      dsimp only
      unfold key sg
      rw [h3, h4]
      cases sgn y <;> cases sgn x <;> simp only [Bool.false_eq_true, if_false, if_true] <;> first | rfl | rw [cmp_lt (by omega)] | rw [cmp_gt (by omega)] | rw [cmp_eq (by omega)]
  all_goals rfl
end Ieee
/- What Log2 comes to: how the number is brought between 1 and 2, and the fifty-two squarings. No program in sight. -/
namespace Ieee
set_option linter.unusedVariables false
def ONE : Nat := 1023 * 2 ^ 52
def TWO : Nat := 1024 * 2 ^ 52
theorem rung_word (neg : Bool) (r : Nat) (h : r ≤ infR) : rung (double.word neg r) = r := by
  have h1 : double.signWeight = 2 ^ 63 := rfl
  have h2 : infR = 2047 * 2 ^ 52 := rfl
  unfold rung Format.word
  rw [h1]
  split <;> omega
theorem real_word (neg : Bool) (r : Nat) (h : r ≤ infR) : Real (double.word neg r) := by
  unfold Real; rw [rung_word _ _ h]; exact h
theorem real_nearest (neg : Bool) (m : Nat) (p : Int) : Real (double.nearest neg m p) := by
  unfold Format.nearest
  split
  · exact real_word _ _ (Nat.zero_le _)
  · exact real_word _ _ (Nat.min_le_right _ _)
theorem real_inf (neg : Bool) : Real (double.write (.infinity neg)) := real_word _ _ (Nat.le_refl _)
theorem real_cases (x : Nat) (h : Real x) : (∃ m p, double.read x = .number (sgn x) m p) ∨ double.read x = .infinity (sgn x) := by
  unfold Real at h
  by_cases h1 : rung x < infR
  · obtain ⟨m, k, e, _⟩ := read_num x h1
    exact .inl ⟨_, _, e⟩
  · exact .inr (read_inf x (by omega))
theorem mul_self (x : Nat) (h : Real x) : ∃ r, double.mul x x = some r ∧ Real r := by
  unfold Format.mul
  rcases real_cases x h with ⟨m, p, e⟩ | e
  · rw [e]; exact ⟨_, rfl, real_nearest _ _ _⟩
  · rw [e]; exact ⟨_, rfl, real_inf _⟩
theorem read_two : ∃ p, double.read TWO = .number false (2 ^ 52) p := by
  have := read_normal 1024 0 (by omega) (by omega) (by omega)
  exact ⟨_, this⟩
theorem div_two (x : Nat) (h : Real x) : ∃ r, double.div x TWO = some r ∧ Real r := by
  unfold Format.div
  obtain ⟨q, e2⟩ := read_two
  rw [e2]
  rcases real_cases x h with ⟨m, p, e⟩ | e
  · rw [e]
    unfold Datum.quotient
    dsimp only
    rw [if_neg (by decide)]
    exact ⟨_, rfl, real_nearest _ _ _⟩
  · rw [e]; exact ⟨_, rfl, real_inf _⟩
theorem add_fin (x y : Nat) (h : Real x) (hy : rung y < infR) : ∃ r, double.add x y = some r ∧ Real r := by
  unfold Format.add
  obtain ⟨n, k, e2, _⟩ := read_num y hy
  rw [e2]
  rcases real_cases x h with ⟨m, p, e⟩ | e
  · rw [e]; exact ⟨_, rfl, real_nearest _ _ _⟩
  · rw [e]; exact ⟨_, rfl, real_inf _⟩
/-- is a float 2 at least? -/
def ge2 (m : Nat) : Bool := double.order m TWO == some .gt || double.order m TWO == some .eq
/-- one round of Log2's: the number, the logarithm so far, the step -/
def ls (t : Nat × Nat × Nat) : Nat × Nat × Nat :=
  if ge2 ((double.mul t.1 t.1).getD 0) then ((double.div ((double.mul t.1 t.1).getD 0) TWO).getD 0, (double.add t.2.1 ((double.div t.2.2 TWO).getD 0)).getD 0, (double.div t.2.2 TWO).getD 0)
  else ((double.mul t.1 t.1).getD 0, t.2.1, (double.div t.2.2 TWO).getD 0)
def lsN : Nat → Nat × Nat × Nat → Nat × Nat × Nat
  | 0, t => t
  | n + 1, t => ls (lsN n t)
/-- what holds after k rounds -/
def LsOk (k : Nat) (t : Nat × Nat × Nat) : Prop := Real t.1 ∧ Real t.2.1 ∧ t.2.2 = (1023 - k) * 2 ^ 52
theorem ls_step (k : Nat) (hk : k < 52) (t : Nat × Nat × Nat) (h : LsOk k t) : ∃ m s, double.mul t.1 t.1 = some m ∧ double.div t.2.2 TWO = some s ∧
    ((ge2 m = true ∧ ∃ m2 y, double.div m TWO = some m2 ∧ double.add t.2.1 s = some y ∧ ls t = (m2, y, s)) ∨ (ge2 m = false ∧ ls t = (m, t.2.1, s))) ∧ LsOk (k + 1) (ls t) := by
  obtain ⟨h1, h2, h3⟩ := h
  obtain ⟨m, e1, r1⟩ := mul_self _ h1
  have e2 : double.div t.2.2 TWO = some ((1023 - (k + 1)) * 2 ^ 52) := by
    rw [h3]
    have := halve (1023 - k) 0 (by omega) (by omega) (by omega)
    rw [Nat.add_zero, Nat.add_zero] at this
    exact this.trans (by rw [show 1023 - k - 1 = 1023 - (k + 1) by omega])
  have hs : rung ((1023 - (k + 1)) * 2 ^ 52) < infR := by
    unfold rung infR
    omega
  obtain ⟨m2, e3, r3⟩ := div_two _ r1
  obtain ⟨y, e4, r4⟩ := add_fin _ _ h2 hs
  refine ⟨m, _, e1, e2, ?_⟩
  unfold ls
  rw [e1, e2]
  simp only [Option.getD_some]
  rw [e3, e4]
  cases hg : ge2 m
  · exact ⟨.inr ⟨rfl, rfl⟩, r1, h2, rfl⟩
  · exact ⟨.inl ⟨rfl, m2, y, rfl, rfl, rfl⟩, r3, r4, rfl⟩
theorem lsN_ok (t : Nat × Nat × Nat) (h : LsOk 0 t) : ∀ k, k ≤ 52 → LsOk k (lsN k t)
  | 0, _ => h
  | k + 1, hk => (ls_step k (by omega) _ (lsN_ok t h k (by omega))).elim fun _ h => h.elim fun _ h => h.2.2.2
/-- how often one of the least is doubled till it is a normal one -/
def lgK (b : Nat) : Nat := 52 - b.log2
theorem lgK_lo (b : Nat) (h0 : 0 < b) (hb : b < 2 ^ 52) (i : Nat) (hi : i < lgK b) : 2 ^ i * b < 2 ^ 52 := by
  unfold lgK at hi
  have h1 : b < 2 ^ (b.log2 + 1) := Nat.lt_log2_self
  have h2 : 2 ^ i * b < 2 ^ i * 2 ^ (b.log2 + 1) := Nat.mul_lt_mul_of_pos_left h1 (Nat.two_pow_pos _)
  rw [← Nat.pow_add] at h2
  exact Nat.lt_of_lt_of_le h2 (Nat.pow_le_pow_right (by omega) (by omega))
theorem lgK_hi (b : Nat) (h0 : 0 < b) (hb : b < 2 ^ 52) : 2 ^ 52 ≤ 2 ^ lgK b * b ∧ 2 ^ lgK b * b < 2 ^ 53 := by
  unfold lgK
  have h1 : b < 2 ^ (b.log2 + 1) := Nat.lt_log2_self
  have h3 : 2 ^ b.log2 ≤ b := Nat.log2_self_le (by omega)
  have h4 : b.log2 < 52 := (Nat.log2_lt (by omega)).2 hb
  have h2 : 2 ^ (52 - b.log2) * b < 2 ^ (52 - b.log2) * 2 ^ (b.log2 + 1) := Nat.mul_lt_mul_of_pos_left h1 (Nat.two_pow_pos _)
  have h5 : 2 ^ (52 - b.log2) * 2 ^ b.log2 ≤ 2 ^ (52 - b.log2) * b := Nat.mul_le_mul_left _ h3
  rw [← Nat.pow_add] at h2 h5
  rw [show 52 - b.log2 + (b.log2 + 1) = 53 by omega] at h2
  rw [show 52 - b.log2 + b.log2 = 52 by omega] at h5
  exact ⟨h5, h2⟩
theorem lgK_pos (b : Nat) (h0 : 0 < b) (hb : b < 2 ^ 52) : 0 < lgK b ∧ lgK b ≤ 52 := by
  unfold lgK
  have h4 : b.log2 < 52 := (Nat.log2_lt (by omega)).2 hb
  omega
/-- the power of two, and the fraction, of a positive number -/
def lgE (x : Nat) : Int := if x < 2 ^ 52 then -((lgK x : Int) + 1022) else (x / 2 ^ 52 : Nat) - 1023
def lgF (x : Nat) : Nat := if x < 2 ^ 52 then 2 ^ lgK x * x - 2 ^ 52 else x % 2 ^ 52
theorem lgF_lt (x : Nat) (h0 : 0 < x) : lgF x < 2 ^ 52 := by
  unfold lgF
  split
  · rename_i h
    have := lgK_hi x h0 h
    omega
  · omega
/-- the document's way up: doubled n times -/
def up (x n : Nat) : Nat := if n ≤ lgK x then 2 ^ n * x else (n - lgK x + 1) * 2 ^ 52 + lgF x
theorem up_step (x : Nat) (h0 : 0 < x) (hx : x < 2 ^ 52) (n : Nat) (hn : n < lgK x + 1022) : double.mul (up x n) TWO = some (up x (n + 1)) ∧ 0 < up x n ∧ up x n < ONE := by
  have hF := lgF_lt x h0
  have hH := lgK_hi x h0 hx
  have hE : lgF x = 2 ^ lgK x * x - 2 ^ 52 := by unfold lgF; rw [if_pos hx]
  unfold up ONE
  by_cases h1 : n < lgK x
  · have hl := lgK_lo x h0 hx n h1
    have hp : 0 < 2 ^ n * x := Nat.mul_pos (Nat.two_pow_pos _) h0
    rw [if_pos (by omega), if_pos (by omega)]
    refine ⟨?_, hp, by omega⟩
    rw [Nat.pow_succ, Nat.mul_comm (2 ^ n) 2, Nat.mul_assoc]
    exact dbl_least _ hp hl
  · rw [if_neg (show ¬ n + 1 ≤ lgK x by omega)]
    have e : (if n ≤ lgK x then 2 ^ n * x else (n - lgK x + 1) * 2 ^ 52 + lgF x) = (n - lgK x + 1) * 2 ^ 52 + lgF x := by
      split
      · have : n = lgK x := by omega
        subst this
        rw [hE]
        omega
      · rfl
    rw [e]
    have := dbl (n - lgK x + 1) (lgF x) (by omega) (by omega) hF
    refine ⟨this.trans (by rw [show n + 1 - lgK x + 1 = n - lgK x + 1 + 1 by omega]), by omega, by omega⟩
theorem up_end (x : Nat) (h0 : 0 < x) (hx : x < 2 ^ 52) : up x (lgK x + 1022) = ONE + lgF x := by
  unfold up ONE
  rw [if_neg (by omega)]
  omega
/-- a word with its sign off, below infinity, above nought -/
theorem real_pos (x : Nat) (h : x ≤ infR) : Real x ∧ sgn x = false ∧ rung x = x ∧ key x = x := by
  have h2 : infR = 2047 * 2 ^ 52 := rfl
  have e1 : rung x = x := by unfold rung; omega
  have e2 : sgn x = false := by
    unfold sgn
    rw [Nat.div_eq_of_lt (by omega)]
    rfl
  exact ⟨by unfold Real; omega, e2, e1, by unfold key sg; rw [e1, e2]; rfl⟩
theorem order_pos (x y : Nat) (hx : x ≤ infR) (hy : y ≤ infR) : double.order x y = some (compare (x : Int) (y : Int)) := by
  rw [order_key x y (real_pos x hx).1 (real_pos y hy).1, (real_pos x hx).2.2.2, (real_pos y hy).2.2.2]
theorem order_lt (x y : Nat) (hy : y ≤ infR) (h : x < y) : double.order x y = some .lt := by
  rw [order_pos x y (by omega) hy, cmp_lt (by omega)]
theorem order_gt (x y : Nat) (hx : x ≤ infR) (h : y < x) : double.order x y = some .gt := by
  rw [order_pos x y hx (by omega), cmp_gt (by omega)]
theorem order_self (x : Nat) (hx : Real x) : double.order x x = some .eq := by
  rw [order_key x x hx hx, cmp_eq rfl]
end Ieee
/- Rounding keeps the order: a sum of floats rises with its parts. No program in sight. -/
namespace Ieee
set_option linter.unusedVariables false
/-- a number cut to the nearest, between two to the even one -/
def cR (n d : Nat) : Nat := n / 2 ^ d + if 2 ^ d < 2 * (n % 2 ^ d) ∨ (2 ^ d = 2 * (n % 2 ^ d) ∧ n / 2 ^ d % 2 = 1) then 1 else 0
theorem cut_raw (neg : Bool) (n e : Nat) : (n / 2 ^ e + (decide (2 ^ e < 2 * (n % 2 ^ e)) || (2 ^ e == 2 * (n % 2 ^ e) && n / 2 ^ e % 2 == 1)).toNat) = cR n e := by
  unfold cR
  congr 1
  by_cases h1 : 2 ^ e < 2 * (n % 2 ^ e)
  · rw [if_pos (.inl h1)]; simp [h1]
  · by_cases h2 : 2 ^ e = 2 * (n % 2 ^ e) ∧ n / 2 ^ e % 2 = 1
    · rw [if_pos (.inr h2), decide_eq_false h1, beq_iff_eq.2 h2.1, beq_iff_eq.2 h2.2]; rfl
    · rw [if_neg (by rintro (h | h); exact h1 h; exact h2 h), decide_eq_false h1]
      by_cases h3 : 2 ^ e = 2 * (n % 2 ^ e)
      · have h4 : ¬ n / 2 ^ e % 2 = 1 := fun h => h2 ⟨h3, h⟩
        rw [beq_iff_eq.2 h3, beq_eq_false_iff_ne.2 h4]; rfl
      · rw [beq_eq_false_iff_ne.2 h3]; rfl
theorem cut_plain (neg : Bool) (n d : Nat) : Toward.even.cut neg n d = cR n d := by
  unfold Toward.cut
  simp only [Nat.shiftLeft_eq, Nat.one_mul]
  rw [cut_raw neg]
  by_cases h : d ≤ n.log2 + 2
  · rw [Nat.min_eq_left h]
  · rw [Nat.min_eq_right (by omega)]
    have h1 : n < 2 ^ (n.log2 + 1) := Nat.lt_log2_self
    have z : ∀ e, n.log2 + 2 ≤ e → cR n e = 0 := fun e he => by
      have h2 : 2 ^ (n.log2 + 1) * 2 ≤ 2 ^ e := by rw [← Nat.pow_succ]; exact Nat.pow_le_pow_right (by omega) he
      unfold cR
      rw [Nat.div_eq_of_lt (by omega), Nat.mod_eq_of_lt (by omega), if_neg (by rintro (h | ⟨h, h'⟩) <;> omega)]
    rw [z _ (Nat.le_refl _), z d (by omega)]
theorem cR_mono {n m : Nat} (d : Nat) (h : n ≤ m) : cR n d ≤ cR m d := by
  have hp := Nat.two_pow_pos d
  have h1 : n / 2 ^ d ≤ m / 2 ^ d := Nat.div_le_div_right h
  have e1 := Nat.div_add_mod n (2 ^ d)
  have e2 := Nat.div_add_mod m (2 ^ d)
  unfold cR
  by_cases hq : n / 2 ^ d = m / 2 ^ d
  · rw [hq] at e1 ⊢
    have hr : n % 2 ^ d ≤ m % 2 ^ d := by omega
    split
    · rename_i hc
      rw [if_pos]
      · exact Nat.le_refl _
      · rcases hc with hc | ⟨hc, hc'⟩
        · exact .inl (by omega)
        · by_cases hx : 2 ^ d = 2 * (m % 2 ^ d)
          · exact .inr ⟨hx, hc'⟩
          · exact .inl (by omega)
    · omega
  · split <;> split <;> omega
theorem cR_scale (n d e : Nat) : cR (n * 2 ^ e) (d + e) = cR n d := by
  have hp := Nat.two_pow_pos e
  unfold cR
  rw [Nat.pow_add, Nat.mul_div_mul_right _ _ hp, Nat.mul_mod_mul_right]
  have a1 : (2 ^ d * 2 ^ e < 2 * (n % 2 ^ d * 2 ^ e)) ↔ (2 ^ d < 2 * (n % 2 ^ d)) := by
    rw [← Nat.mul_assoc]; exact Nat.mul_lt_mul_right hp
  have a2 : (2 ^ d * 2 ^ e = 2 * (n % 2 ^ d * 2 ^ e)) ↔ (2 ^ d = 2 * (n % 2 ^ d)) := by
    rw [← Nat.mul_assoc]
    constructor
    · intro h; exact Nat.eq_of_mul_eq_mul_right hp h
    · exact fun h => congrArg (· * 2 ^ e) h
  simp only [a1, a2]
theorem cR_exact (n e d : Nat) (h : d ≤ e) : cR (n * 2 ^ e) d = n * 2 ^ (e - d) := by
  have e1 : n * 2 ^ e = (n * 2 ^ (e - d)) * 2 ^ d := by rw [Nat.mul_assoc, ← Nat.pow_add, Nat.sub_add_cancel h]
  have hp := Nat.two_pow_pos d
  unfold cR
  rw [e1, Nat.mul_div_cancel _ hp, Nat.mul_mod_left, if_neg (by rintro (h | ⟨h, _⟩) <;> omega)]
  rfl
/-- the rung nearest to n units of the least place -/
def R (n : Nat) : Nat := if n = 0 then 0 else min ((n.log2 - 52) * 2 ^ 52 + cR n (n.log2 - 52)) infR
theorem nearest_R (neg : Bool) (m k : Nat) : double.nearest neg m (double.leastPlace + (k : Nat)) = double.word neg (R (m * 2 ^ k)) := by
  have hp := Nat.two_pow_pos k
  unfold Format.nearest R
  by_cases hm : m = 0
  · subst hm; simp
  · rw [if_neg hm, if_neg (Nat.ne_of_gt (Nat.mul_pos (by omega) hp))]
    have hl : (m * 2 ^ k).log2 = m.log2 + k := by
      have h2 : m * 2 ^ k ≠ 0 := Nat.ne_of_gt (Nat.mul_pos (by omega) hp)
      have h3 : 2 ^ m.log2 ≤ m := Nat.log2_self_le hm
      have h4 : m < 2 ^ (m.log2 + 1) := Nat.lt_log2_self
      refine (Nat.log2_eq_iff h2).2 ⟨?_, ?_⟩
      · rw [Nat.pow_add]; exact Nat.mul_le_mul_right _ h3
      · rw [show m.log2 + k + 1 = m.log2 + 1 + k by omega, Nat.pow_add]; exact Nat.mul_lt_mul_of_pos_right h4 hp
    rw [hl]
    have hF : double.fractionBits = 52 := rfl
    have hb : double.binade = 2 ^ 52 := rfl
    have hi : double.infRung = infR := rfl
    dsimp only
    rw [hF, hb, hi]
    have e1 : max (double.leastPlace + (k : Nat) + ((m.log2 : Nat) : Int) - ((52 : Nat) : Int)) double.leastPlace = double.leastPlace + ((m.log2 + k - 52 : Nat) : Int) := by omega
    rw [e1]
    have e2 : (double.leastPlace + ((m.log2 + k - 52 : Nat) : Int) - double.leastPlace).toNat = m.log2 + k - 52 := by omega
    have e3 : (double.leastPlace + (k : Nat) - (double.leastPlace + ((m.log2 + k - 52 : Nat) : Int))).toNat = k - (m.log2 + k - 52) := by omega
    have e4 : (double.leastPlace + ((m.log2 + k - 52 : Nat) : Int) - (double.leastPlace + (k : Nat))).toNat = (m.log2 + k - 52) - k := by omega
    rw [e2, e3, e4, cut_plain, Nat.shiftLeft_eq]
    generalize m.log2 + k - 52 = D
    have key : cR (m * 2 ^ (k - D)) (D - k) = cR (m * 2 ^ k) D := by
      by_cases h : D ≤ k
      · rw [cR_exact m k D h, show D - k = 0 by omega]
        have := cR_exact (m * 2 ^ (k - D)) 0 0 (Nat.le_refl _)
        simpa using this
      · rw [show k - D = 0 by omega, Nat.pow_zero, Nat.mul_one]
        have := cR_scale m (D - k) k
        rw [show D - k + k = D by omega] at this
        exact this.symm
    rw [key]
theorem R_le (n : Nat) : R n ≤ infR := by
  unfold R
  split
  · exact Nat.zero_le _
  · exact Nat.min_le_right _ _
theorem R_mono {n m : Nat} (h : n ≤ m) : R n ≤ R m := by
  unfold R
  by_cases hn : n = 0
  · rw [if_pos hn]; exact Nat.zero_le _
  · rw [if_neg hn, if_neg (by omega)]
    have n1 : n < 2 ^ (n.log2 + 1) := Nat.lt_log2_self
    have m1 : 2 ^ m.log2 ≤ m := Nat.log2_self_le (by omega)
    have hll : n.log2 ≤ m.log2 := by
      rcases Nat.lt_or_ge m.log2 n.log2 with hc | hc
      · have n2 : 2 ^ n.log2 ≤ n := Nat.log2_self_le hn
        have m2 : m < 2 ^ (m.log2 + 1) := Nat.lt_log2_self
        have : 2 ^ (m.log2 + 1) ≤ 2 ^ n.log2 := Nat.pow_le_pow_right (by omega) (by omega)
        omega
      · exact hc
    have core : (n.log2 - 52) * 2 ^ 52 + cR n (n.log2 - 52) ≤ (m.log2 - 52) * 2 ^ 52 + cR m (m.log2 - 52) := by
      by_cases hD : n.log2 - 52 = m.log2 - 52
      · rw [hD]
        have := cR_mono (m.log2 - 52) h
        omega
      · have hlt : n.log2 - 52 < m.log2 - 52 := by omega
        have b1 : cR n (n.log2 - 52) ≤ 2 ^ 53 := by
          have hq : n / 2 ^ (n.log2 - 52) < 2 ^ 53 := by
            rw [Nat.div_lt_iff_lt_mul (Nat.two_pow_pos _), ← Nat.pow_add]
            exact Nat.lt_of_lt_of_le n1 (Nat.pow_le_pow_right (by omega) (by omega))
          have gen : ∀ q c : Nat, q < 2 ^ 53 → c ≤ 1 → q + c ≤ 2 ^ 53 := by intro q c h1 h2; omega
          unfold cR
          exact gen _ _ hq (by split <;> omega)
        have b2 : 2 ^ 52 ≤ cR m (m.log2 - 52) := by
          have hq : 2 ^ 52 ≤ m / 2 ^ (m.log2 - 52) := by
            rw [Nat.le_div_iff_mul_le (Nat.two_pow_pos _), ← Nat.pow_add, show 52 + (m.log2 - 52) = m.log2 by omega]
            exact m1
          unfold cR
          exact Nat.le_trans hq (Nat.le_add_right _ _)
        have gen : ∀ a b p q : Nat, a < b → p ≤ 2 ^ 53 → 2 ^ 52 ≤ q → a * 2 ^ 52 + p ≤ b * 2 ^ 52 + q := by intro a b p q h1 h2 h3; omega
        exact gen _ _ _ _ hlt b1 b2
    exact Nat.le_min.2 ⟨Nat.le_trans (Nat.min_le_left _ _) core, Nat.min_le_right _ _⟩
/-- a float's value, in units of the least place -/
def VV (x : Nat) : Int := sg (sgn x) (val (rung x))
/-- the key of the float nearest to t units -/
def sR (t : Int) : Int := sg (decide (t < 0)) (R t.natAbs)
theorem sR_mono {s t : Int} (h : s ≤ t) : sR s ≤ sR t := by
  unfold sR sg
  by_cases hs : s < 0 <;> by_cases ht : t < 0
  · have := R_mono (n := t.natAbs) (m := s.natAbs) (by omega)
    simp only [hs, ht, decide_true, if_true]; omega
  · simp only [hs, ht, decide_true, decide_false, if_true, Bool.false_eq_true, if_false]; omega
  · omega
  · have := R_mono (n := s.natAbs) (m := t.natAbs) (by omega)
    simp only [hs, ht, decide_false, Bool.false_eq_true, if_false]; omega
theorem key_word (neg : Bool) (r : Nat) (h : r ≤ infR) : key (double.word neg r) = sg neg r := by
  have h1 : double.signWeight = 2 ^ 63 := rfl
  have h2 : infR = 2047 * 2 ^ 52 := rfl
  unfold key
  rw [rung_word neg r h]
  have : sgn (double.word neg r) = neg := by
    unfold sgn Format.word
    rw [h1]
    cases neg
    · rw [if_neg (by decide), Nat.div_eq_of_lt (by omega)]; rfl
    · rw [if_pos rfl, show (2 ^ 63 + r) / 2 ^ 63 = 1 by omega]; rfl
  rw [this]
theorem add_key (x y : Nat) (hx : rung x < infR) (hy : rung y < infR) : ∃ r, double.add x y = some r ∧ Real r ∧ key r = sR (VV x + VV y) := by
  obtain ⟨m, a, e1, v1⟩ := read_num x hx
  obtain ⟨n, b, e2, v2⟩ := read_num y hy
  unfold Format.add
  rw [e1, e2]
  unfold Datum.sum
  dsimp only
  have q0 : min (double.leastPlace + (a : Nat)) (double.leastPlace + (b : Nat)) = double.leastPlace + ((min a b : Nat) : Int) := by omega
  rw [q0]
  have q1 : (double.leastPlace + (a : Nat) - (double.leastPlace + ((min a b : Nat) : Int))).toNat = a - min a b := by omega
  have q2 : (double.leastPlace + (b : Nat) - (double.leastPlace + ((min a b : Nat) : Int))).toNat = b - min a b := by omega
  rw [q1, q2]
  have s1 := signed_mul (sgn x) m a (min a b) (by omega)
  have s2 := signed_mul (sgn y) n b (min a b) (by omega)
  rw [v1] at s1
  rw [v2] at s2
  generalize hT : signed (sgn x) m (a - min a b) + signed (sgn y) n (b - min a b) = T
  have hV : T * ((2 ^ min a b : Nat) : Int) = VV x + VV y := by
    rw [← hT, Int.add_mul, s1, s2]; rfl
  refine ⟨_, rfl, real_nearest _ _ _, ?_⟩
  show key (double.nearest _ _ _) = _
  rw [nearest_R, key_word _ _ (R_le _)]
  have hp := Nat.two_pow_pos (min a b)
  have hN : T.natAbs * 2 ^ min a b = (VV x + VV y).natAbs := by
    rw [← hV, Int.natAbs_mul, Int.natAbs_natCast]
  rw [hN]
  unfold sR
  by_cases h0 : T = 0
  · have hz : VV x + VV y = 0 := by rw [← hV, h0]; simp
    rw [hz]
    have : R (0 : Int).natAbs = 0 := rfl
    rw [this]
    unfold sg
    split <;> simp
  · rw [if_neg h0]
    have hs : (T < 0) ↔ (VV x + VV y < 0) := by
      rw [← hV]
      have hp' : (0 : Int) < ((2 ^ min a b : Nat) : Int) := by omega
      constructor
      · intro h; exact Int.mul_neg_of_neg_of_pos h hp'
      · intro h
        rcases Int.lt_trichotomy T 0 with h1 | h1 | h1
        · exact h1
        · exact absurd h1 h0
        · have := Int.mul_pos h1 hp'; omega
    simp only [hs]
theorem VV_mono {x y : Nat} (h : key x ≤ key y) : VV x ≤ VV y := by
  unfold key at h
  unfold VV
  have := sg_lt (sgn y) (sgn x) (rung y) (rung x)
  omega
theorem key_bd (x : Nat) (h : Real x) : -(infR : Int) ≤ key x ∧ key x ≤ infR := by
  unfold Real at h
  unfold key sg
  split <;> omega
/-- a sum rises with its first part -/
theorem add_mono (x x' y : Nat) (hx : Real x) (hx' : Real x') (hy : rung y < infR) (h : key x ≤ key x') : ∃ r r', double.add x y = some r ∧ double.add x' y = some r' ∧ Real r ∧ Real r' ∧ key r ≤ key r' := by
  obtain ⟨n, b, e2, v2⟩ := read_num y hy
  have inf : ∀ z, Real z → rung z = infR → double.add z y = some (double.write (.infinity (sgn z))) ∧ key (double.write (.infinity (sgn z))) = key z := by
    intro z hz hr
    refine ⟨?_, ?_⟩
    · unfold Format.add
      rw [read_inf z hr, e2]; rfl
    · show key (double.word (sgn z) infR) = _
      rw [key_word _ _ (Nat.le_refl _)]
      unfold key
      rw [hr]
  have hi : 0 < infR := by decide
  by_cases h1 : rung x < infR
  · obtain ⟨r, a1, a2, a3⟩ := add_key x y h1 hy
    by_cases h2 : rung x' < infR
    · obtain ⟨r', b1, b2, b3⟩ := add_key x' y h2 hy
      refine ⟨r, r', a1, b1, a2, b2, ?_⟩
      rw [a3, b3]
      exact sR_mono (by have := VV_mono h; omega)
    · obtain ⟨b1, b3⟩ := inf x' hx' (by unfold Real at hx'; omega)
      refine ⟨r, _, a1, b1, a2, real_inf _, ?_⟩
      rw [b3]
      have := (key_bd r a2).2
      have hk : key x' = infR ∨ key x' = -(infR : Int) := by
        have hr : rung x' = infR := by unfold Real at hx'; omega
        unfold key sg
        rw [hr]
        split
        · exact .inr rfl
        · exact .inl rfl
      rcases hk with hk | hk
      · omega
      · rw [hk] at h
        exfalso
        unfold key sg at h
        split at h <;> omega
  · have hr : rung x = infR := by unfold Real at hx; omega
    obtain ⟨a1, a3⟩ := inf x hx hr
    by_cases h2 : rung x' < infR
    · obtain ⟨r', b1, b2, b3⟩ := add_key x' y h2 hy
      refine ⟨_, r', a1, b1, real_inf _, b2, ?_⟩
      rw [a3]
      have := (key_bd r' b2).1
      have hk : key x = infR ∨ key x = -(infR : Int) := by
        unfold key sg
        rw [hr]
        split
        · exact .inr rfl
        · exact .inl rfl
      rcases hk with hk | hk
      · rw [hk] at h
        exfalso
        unfold key sg at h
        split at h <;> omega
      · omega
    · obtain ⟨b1, b3⟩ := inf x' hx' (by unfold Real at hx'; omega)
      exact ⟨_, _, a1, b1, real_inf _, real_inf _, by rw [a3, b3]; exact h⟩
end Ieee
/- Log2 rises with doubling, and is the power at powers of two: the numbers alone. No program in sight. -/
namespace Ieee
set_option linter.unusedVariables false
def intF (n : Int) : Nat := double.nearest (decide (n < 0)) n.natAbs 0
theorem intF_key (n : Int) : key (intF n) = sR (n * ((2 ^ 1074 : Nat) : Int)) := by
  unfold intF
  have h : (0 : Int) = double.leastPlace + ((1074 : Nat) : Int) := rfl
  rw [h, nearest_R, key_word _ _ (R_le _)]
  have hp : (0 : Int) < ((2 ^ 1074 : Nat) : Int) := by have := Nat.two_pow_pos 1074; omega
  generalize ((2 ^ 1074 : Nat)) = P at *
  unfold sR
  rw [Int.natAbs_mul, Int.natAbs_natCast]
  have hs : (n < 0) ↔ (n * (P : Int) < 0) := by
    constructor
    · intro h; exact Int.mul_neg_of_neg_of_pos h hp
    · intro h
      rcases Int.lt_trichotomy n 0 with h1 | h1 | h1
      · exact h1
      · rw [h1] at h; simp at h
      · have := Int.mul_pos h1 hp; omega
  simp only [← hs]
  rfl
theorem intF_mono {m n : Int} (h : m ≤ n) : key (intF m) ≤ key (intF n) := by
  rw [intF_key, intF_key]
  exact sR_mono (Int.mul_le_mul_of_nonneg_right h (by omega))
theorem intF_real (n : Int) : Real (intF n) := real_nearest _ _ _
theorem lsN_mono (m y y' s : Nat) (h : LsOk 0 (m, y, s)) (h' : LsOk 0 (m, y', s)) (hk : key y ≤ key y') : ∀ k, k ≤ 52 →
    (lsN k (m, y, s)).1 = (lsN k (m, y', s)).1 ∧ (lsN k (m, y, s)).2.2 = (lsN k (m, y', s)).2.2 ∧ key (lsN k (m, y, s)).2.1 ≤ key (lsN k (m, y', s)).2.1
  | 0, _ => ⟨rfl, rfl, hk⟩
  | k + 1, hle => by
    obtain ⟨e1, e2, e3⟩ := lsN_mono m y y' s h h' hk k (by omega)
    have o1 := lsN_ok _ h k (by omega)
    have o2 := lsN_ok _ h' k (by omega)
    obtain ⟨p, q, a1, a2, a3, _⟩ := ls_step k (by omega) _ o1
    obtain ⟨p', q', b1, b2, b3, _⟩ := ls_step k (by omega) _ o2
    show (ls (lsN k (m, y, s))).1 = (ls (lsN k (m, y', s))).1 ∧ (ls (lsN k (m, y, s))).2.2 = (ls (lsN k (m, y', s))).2.2 ∧ key (ls (lsN k (m, y, s))).2.1 ≤ key (ls (lsN k (m, y', s))).2.1
    rw [e1, b1] at a1
    rw [e2, b2] at a2
    cases a1
    cases a2
    have hq : rung q < infR := by
      have h3 := o1.2.2
      rw [← e2] at b2
      rw [h3] at b2
      have := halve (1023 - k) 0 (by omega) (by omega) (by omega)
      rw [Nat.add_zero, Nat.add_zero] at this
      have e4 : double.div ((1023 - k) * 2 ^ 52) TWO = some ((1023 - k - 1) * 2 ^ 52) := this
      rw [e4] at b2
      cases b2
      unfold rung infR
      omega
    rcases a3 with ⟨g, m2, y1, c1, c2, c3⟩ | ⟨g, c3⟩
    · rcases b3 with ⟨g', m2', y1', d1, d2, d3⟩ | ⟨g', d3⟩
      · rw [c1] at d1
        cases d1
        rw [c3, d3]
        obtain ⟨r, r', f1, f2, _, _, f3⟩ := add_mono _ _ q o1.2.1 o2.2.1 hq e3
        rw [c2] at f1
        rw [d2] at f2
        cases f1
        cases f2
        exact ⟨rfl, rfl, f3⟩
      · rw [g] at g'; cases g'
    · rcases b3 with ⟨g', m2', y1', d1, d2, d3⟩ | ⟨g', d3⟩
      · rw [g] at g'; cases g'
      · rw [c3, d3]
        exact ⟨rfl, rfl, e3⟩
/-- of a number between 1 and 2 that is 1 nothing is added -/
theorem lsN_one (y s : Nat) : ∀ k, (lsN k (ONE, y, s)).1 = ONE ∧ (lsN k (ONE, y, s)).2.1 = y
  | 0 => ⟨rfl, rfl⟩
  | k + 1 => by
    obtain ⟨h1, h2⟩ := lsN_one y s k
    have hm : double.mul ONE ONE = some ONE := by decide +kernel
    have hg : ge2 ONE = false := by decide +kernel
    show (ls (lsN k (ONE, y, s))).1 = ONE ∧ (ls (lsN k (ONE, y, s))).2.1 = y
    unfold ls
    rw [h1, hm]
    simp only [Option.getD_some, hg, Bool.false_eq_true, if_false]
    exact ⟨trivial, h2⟩
/-- doubled, as the logarithm sees it -/
theorem lg_dbl (x : Nat) (h0 : 0 < x) (hx : x < 2046 * 2 ^ 52) : ∃ r, double.mul x TWO = some r ∧ 0 < r ∧ r < infR ∧ lgE r = lgE x + 1 ∧ lgF r = lgF x := by
  have hi : infR = 2047 * 2 ^ 52 := rfl
  by_cases h1 : x < 2 ^ 52
  · refine ⟨2 * x, dbl_least x h0 h1, by omega, by omega, ?_, ?_⟩
    · by_cases h2 : 2 * x < 2 ^ 52
      · unfold lgE
        rw [if_pos h1, if_pos h2]
        have hl : (2 * x).log2 = x.log2 + 1 := by
          have a := Nat.log2_self_le (n := x) (by omega)
          have b := Nat.lt_log2_self (n := x)
          refine (Nat.log2_eq_iff (by omega)).2 ⟨?_, ?_⟩
          · rw [Nat.pow_succ]; omega
          · rw [Nat.pow_succ]; omega
        have h4 : x.log2 + 1 < 52 := by rw [← hl]; exact (Nat.log2_lt (by omega)).2 h2
        unfold lgK
        rw [hl]
        omega
      · have hK : lgK x = 1 := by
          have a := lgK_pos x h0 h1
          rcases Nat.lt_or_ge 1 (lgK x) with h | h
          · have := lgK_lo x h0 h1 1 h; omega
          · omega
        unfold lgE
        rw [if_pos h1, if_neg h2, hK]
        omega
    · by_cases h2 : 2 * x < 2 ^ 52
      · unfold lgF
        rw [if_pos h1, if_pos h2]
        have hl : (2 * x).log2 = x.log2 + 1 := by
          have a := Nat.log2_self_le (n := x) (by omega)
          have b := Nat.lt_log2_self (n := x)
          refine (Nat.log2_eq_iff (by omega)).2 ⟨?_, ?_⟩
          · rw [Nat.pow_succ]; omega
          · rw [Nat.pow_succ]; omega
        have h4 : x.log2 + 1 < 52 := by rw [← hl]; exact (Nat.log2_lt (by omega)).2 h2
        unfold lgK
        have hm : 2 ^ (52 - (x.log2 + 1)) * (2 * x) = 2 ^ (52 - x.log2) * x := by
          rw [show 52 - x.log2 = (52 - (x.log2 + 1)) + 1 by omega, Nat.pow_succ, Nat.mul_assoc]
        rw [hl, hm]
      · have hK : lgK x = 1 := by
          have a := lgK_pos x h0 h1
          rcases Nat.lt_or_ge 1 (lgK x) with h | h
          · have := lgK_lo x h0 h1 1 h; omega
          · omega
        unfold lgF
        rw [if_pos h1, if_neg h2, hK]
        omega
  · have hd := dbl (x / 2 ^ 52) (x % 2 ^ 52) (by omega) (by omega) (Nat.mod_lt _ (by omega))
    have e : x / 2 ^ 52 * 2 ^ 52 + x % 2 ^ 52 = x := by omega
    rw [e] at hd
    refine ⟨_, hd, by omega, by omega, ?_, ?_⟩
    · unfold lgE
      rw [if_neg h1, if_neg (by omega)]
      omega
    · unfold lgF
      rw [if_neg h1, if_neg (by omega)]
      omega
theorem top_R : infR ≤ R ((2 ^ 52) * 2 ^ (52 + 1994)) := by decide +kernel
theorem dbl_top (x : Nat) (h : 2046 * 2 ^ 52 ≤ x) (hx : x < infR) : double.mul x TWO = some infR := by
  have hi : infR = 2047 * 2 ^ 52 := rfl
  have h2 := read_normal 1024 0 (by omega) (by omega) (by omega)
  rw [Nat.add_zero] at h2
  have h1 := read_normal 2046 (x - 2046 * 2 ^ 52) (by omega) (by omega) (by omega)
  rw [show 2046 * 2 ^ 52 + (x - 2046 * 2 ^ 52) = x by omega] at h1
  unfold Format.mul TWO
  rw [h1, h2]
  unfold Datum.product
  dsimp only
  simp only [Option.map_some, Option.some.injEq, Format.write]
  generalize hf : x - 2046 * 2 ^ 52 = f
  have hfl : f < 2 ^ 52 := by omega
  obtain ⟨N, hN⟩ : ∃ N : Nat, N = 1994 := ⟨_, rfl⟩
  have e4 : double.leastPlace + ((2046 - 1 : Nat) : Int) + (double.leastPlace + ((1024 - 1 : Nat) : Int)) = double.leastPlace + (N : Int) := by
    have h : double.leastPlace = -1074 := rfl
    rw [h]; omega
  have hle : infR ≤ R ((2 ^ 52) * 2 ^ (52 + N)) := by rw [hN]; exact top_R
  rw [e4, show (false ^^ false) = false from rfl, nearest_R]
  have w : ∀ r, double.word false r = r := fun _ => rfl
  rw [w]
  have e5 : (2 ^ 52 + f) * (2 ^ 52 + 0) * 2 ^ N = (2 ^ 52 + f) * 2 ^ (52 + N) := by
    rw [Nat.add_zero, Nat.mul_assoc, ← Nat.pow_add]
  rw [e5]
  clear hN e4 e5
  have h6 : 2 ^ 52 * 2 ^ (52 + N) ≤ (2 ^ 52 + f) * 2 ^ (52 + N) := Nat.mul_le_mul_right _ (Nat.le_add_right _ _)
  have := R_mono h6
  exact Nat.le_antisymm (R_le _) (Nat.le_trans hle this)
theorem mul_zero (x : Nat) (h : rung x = 0) : ∃ r, double.mul x TWO = some r ∧ rung r = 0 := by
  obtain ⟨m, k, e, v⟩ := read_num x (by rw [h]; decide)
  have hm : m = 0 := by
    rw [h] at v
    have v' : m * 2 ^ k = 0 := v
    rcases Nat.mul_eq_zero.1 v' with h | h
    · exact h
    · have := Nat.two_pow_pos k; omega
  obtain ⟨q, e2⟩ := read_two
  unfold Format.mul
  rw [e, e2, hm]
  refine ⟨_, rfl, ?_⟩
  show rung (double.nearest _ (0 * 2 ^ 52) _) = 0
  rw [Nat.zero_mul]
  unfold Format.nearest
  rw [if_pos rfl]
  exact rung_word _ _ (Nat.zero_le _)
theorem mul_inf : double.mul infR TWO = some infR := by decide +kernel
/-- the float of a power of two -/
def powF (k : Int) : Nat := if -1022 ≤ k then (k + 1023).toNat * 2 ^ 52 else 2 ^ (k + 1074).toNat
theorem pow_lg (k : Int) (h1 : -1074 ≤ k) (h2 : k ≤ 1023) : 0 < powF k ∧ powF k < infR ∧ lgE (powF k) = k ∧ lgF (powF k) = 0 := by
  have hi : infR = 2047 * 2 ^ 52 := rfl
  by_cases h : -1022 ≤ k
  · obtain ⟨e, he⟩ : ∃ e : Nat, (k + 1023).toNat = e := ⟨_, rfl⟩
    have hp : powF k = e * 2 ^ 52 := by unfold powF; rw [if_pos h, he]
    rw [hp]
    refine ⟨by omega, by omega, ?_, ?_⟩
    · unfold lgE; rw [if_neg (by omega)]; omega
    · unfold lgF; rw [if_neg (by omega)]; omega
  · obtain ⟨e, he⟩ : ∃ e : Nat, (k + 1074).toNat = e := ⟨_, rfl⟩
    have hp : powF k = 2 ^ e := by unfold powF; rw [if_neg h, he]
    rw [hp]
    have hlt : 2 ^ e < 2 ^ 52 := Nat.pow_lt_pow_right (by omega) (by omega)
    have h0 := Nat.two_pow_pos e
    have hl : (2 ^ e).log2 = e := Nat.log2_two_pow
    have hK : lgK (2 ^ e) = 52 - e := by unfold lgK; rw [hl]
    refine ⟨h0, by omega, ?_, ?_⟩
    · unfold lgE; rw [if_pos hlt, hK]; omega
    · unfold lgF; rw [if_pos hlt, hK, ← Nat.pow_add, show 52 - e + e = 52 by omega]
/-- how math.Ldexp puts it together -/
theorem pow_mul1 (k : Int) (h1 : -1022 ≤ k) (h2 : k ≤ 1023) : double.mul ONE ((k + 1023).toNat * 2 ^ 52) = some (powF k) := by
  obtain ⟨e, he⟩ : ∃ e : Nat, (k + 1023).toNat = e := ⟨_, rfl⟩
  have hp : powF k = e * 2 ^ 52 := by unfold powF; rw [if_pos h1, he]
  rw [he, hp]
  have a1 := read_normal 1023 0 (by omega) (by omega) (by omega)
  have a2 := read_normal e 0 (by omega) (by omega) (by omega)
  rw [Nat.add_zero] at a1 a2
  unfold Format.mul ONE
  rw [a1, a2]
  unfold Datum.product
  dsimp only
  simp only [Option.map_some, Option.some.injEq, Format.write]
  have := nearest_more (2 ^ 52) (by omega) (by omega) (e - 1) 52 (by omega)
  have e4 : double.leastPlace + ((1023 - 1 : Nat) : Int) + (double.leastPlace + ((e - 1 : Nat) : Int)) = double.leastPlace + ((e - 1 : Nat) : Int) - ((52 : Nat) : Int) := by
    have h : double.leastPlace = -1074 := rfl
    rw [h]; omega
  rw [e4, show (false ^^ false) = false from rfl, Nat.add_zero, this]
  omega
theorem pow_mul2 (k : Int) (h1 : -1074 ≤ k) (h2 : k < -1022) : double.mul (970 * 2 ^ 52) ((k + 1076).toNat * 2 ^ 52) = some (powF k) := by
  obtain ⟨e, he⟩ : ∃ e : Nat, (k + 1074).toNat = e := ⟨_, rfl⟩
  have hp : powF k = 2 ^ e := by unfold powF; rw [if_neg (by omega), he]
  rw [show (k + 1076).toNat = e + 2 by omega, hp]
  have a1 := read_normal 970 0 (by omega) (by omega) (by omega)
  have a2 := read_normal (e + 2) 0 (by omega) (by omega) (by omega)
  rw [Nat.add_zero] at a1 a2
  unfold Format.mul
  rw [a1, a2]
  unfold Datum.product
  dsimp only
  simp only [Option.map_some, Option.some.injEq, Format.write]
  have hee : e < 52 := by omega
  have e4 : double.leastPlace + ((970 - 1 : Nat) : Int) + (double.leastPlace + ((e + 2 - 1 : Nat) : Int)) = double.leastPlace - ((104 - e : Nat) : Int) := by
    have h : double.leastPlace = -1074 := rfl
    rw [h]; omega
  rw [e4, show (false ^^ false) = false from rfl, Nat.add_zero]
  have e5 : (2 ^ 52 : Nat) * 2 ^ 52 = 2 ^ e * 2 ^ (104 - e) := by
    rw [← Nat.pow_add, ← Nat.pow_add, show e + (104 - e) = 52 + 52 by omega]
  rw [e5]
  unfold Format.nearest
  have hpos : 0 < 2 ^ e * 2 ^ (104 - e) := Nat.mul_pos (Nat.two_pow_pos _) (Nat.two_pow_pos _)
  rw [if_neg (Nat.ne_of_gt hpos)]
  have hl : (2 ^ e * 2 ^ (104 - e)).log2 = 104 := by rw [← Nat.pow_add, show e + (104 - e) = 104 by omega]; exact Nat.log2_two_pow
  rw [hl]
  have hF : double.fractionBits = 52 := rfl
  dsimp only
  rw [hF]
  have e6 : max (double.leastPlace - ((104 - e : Nat) : Int) + ((104 : Nat) : Int) - ((52 : Nat) : Int)) double.leastPlace = double.leastPlace := by omega
  rw [e6]
  have e7 : (double.leastPlace - ((104 - e : Nat) : Int) - double.leastPlace).toNat = 0 := by omega
  have e8 : (double.leastPlace - (double.leastPlace - ((104 - e : Nat) : Int))).toNat = 104 - e := by omega
  have e9 : (double.leastPlace - double.leastPlace).toNat = 0 := by omega
  rw [e7, e8, e9, Nat.shiftLeft_zero, cut_exact false (2 ^ e) (104 - e) (Nat.two_pow_pos _), Nat.zero_mul, Nat.zero_add]
  have hlt : 2 ^ e < 2 ^ 52 := Nat.pow_lt_pow_right (by omega) hee
  have hi : double.infRung = 2047 * 2 ^ 52 := rfl
  show min (2 ^ e) double.infRung = 2 ^ e
  rw [hi]
  exact Nat.min_eq_left (by omega)
end Ieee
/- Products, differences, quotients and roots of floats: which way they go. No program in sight. -/
namespace Ieee
set_option linter.unusedVariables false
theorem log2_shift (m k : Nat) (hm : m ≠ 0) : (m * 2 ^ k).log2 = m.log2 + k := by
  have hp := Nat.two_pow_pos k
  have h2 : m * 2 ^ k ≠ 0 := Nat.ne_of_gt (Nat.mul_pos (by omega) hp)
  have h3 : 2 ^ m.log2 ≤ m := Nat.log2_self_le hm
  have h4 : m < 2 ^ (m.log2 + 1) := Nat.lt_log2_self
  refine (Nat.log2_eq_iff h2).2 ⟨?_, ?_⟩
  · rw [Nat.pow_add]; exact Nat.mul_le_mul_right _ h3
  · rw [show m.log2 + k + 1 = m.log2 + 1 + k by omega, Nat.pow_add]; exact Nat.mul_lt_mul_of_pos_right h4 hp
/-- what a rung stands for is rounded to that rung -/
theorem R_val (r : Nat) (h : r ≤ infR) : R (val r) = r := by
  have hi : infR = 2047 * 2 ^ 52 := rfl
  by_cases h0 : r = 0
  · subst h0; rfl
  · unfold val
    by_cases h1 : r < 2 ^ 52
    · rw [if_pos h1]
      unfold R
      have : r.log2 < 52 := (Nat.log2_lt (by omega)).2 h1
      have c0 := cR_exact r 0 0 (Nat.le_refl _)
      rw [if_neg h0, show r.log2 - 52 = 0 by omega]
      simp at c0
      rw [c0]
      omega
    · rw [if_neg h1]
      have hm : r % 2 ^ 52 < 2 ^ 52 := Nat.mod_lt _ (by omega)
      have he := Nat.div_add_mod r (2 ^ 52)
      generalize r % 2 ^ 52 = f at *
      generalize r / 2 ^ 52 = e at *
      have hl : (2 ^ 52 + f).log2 = 52 := (Nat.log2_eq_iff (by omega)).2 ⟨by omega, by omega⟩
      have hne : (2 ^ 52 + f) * 2 ^ (e - 1) ≠ 0 := Nat.ne_of_gt (Nat.mul_pos (by omega) (Nat.two_pow_pos _))
      unfold R
      rw [if_neg hne, log2_shift _ _ (by omega), hl, show 52 + (e - 1) - 52 = e - 1 by omega, cR_exact _ _ _ (Nat.le_refl _), Nat.sub_self, Nat.pow_zero, Nat.mul_one]
      omega
/-- the rung nearest to n units of the D-th place below the least -/
def Rd (D n : Nat) : Nat := if n = 0 then 0 else min ((max (n.log2 - 52) D - D) * 2 ^ 52 + cR n (max (n.log2 - 52) D)) infR
theorem Rd_le (D n : Nat) : Rd D n ≤ infR := by
  unfold Rd
  split
  · exact Nat.zero_le _
  · exact Nat.min_le_right _ _
theorem nearest_Rd (neg : Bool) (m k D : Nat) : double.nearest neg m (double.leastPlace + (k : Nat) - (D : Nat)) = double.word neg (Rd D (m * 2 ^ k)) := by
  have hp := Nat.two_pow_pos k
  unfold Format.nearest Rd
  by_cases hm : m = 0
  · subst hm; simp
  · rw [if_neg hm, if_neg (Nat.ne_of_gt (Nat.mul_pos (by omega) hp)), log2_shift m k hm]
    have hF : double.fractionBits = 52 := rfl
    have hb : double.binade = 2 ^ 52 := rfl
    have hi : double.infRung = infR := rfl
    dsimp only
    rw [hF, hb, hi]
    obtain ⟨c, hc⟩ : ∃ c, max (m.log2 + k - 52) D = c := ⟨_, rfl⟩
    have hcD : D ≤ c := by omega
    have e1 : max (double.leastPlace + (k : Nat) - (D : Nat) + ((m.log2 : Nat) : Int) - ((52 : Nat) : Int)) double.leastPlace = double.leastPlace + ((c - D : Nat) : Int) := by omega
    rw [e1, hc]
    have e2 : (double.leastPlace + ((c - D : Nat) : Int) - double.leastPlace).toNat = c - D := by omega
    have e3 : (double.leastPlace + (k : Nat) - (D : Nat) - (double.leastPlace + ((c - D : Nat) : Int))).toNat = k - c := by omega
    have e4 : (double.leastPlace + ((c - D : Nat) : Int) - (double.leastPlace + (k : Nat) - (D : Nat))).toNat = c - k := by omega
    rw [e2, e3, e4, cut_plain, Nat.shiftLeft_eq]
    have key : cR (m * 2 ^ (k - c)) (c - k) = cR (m * 2 ^ k) c := by
      by_cases h : c ≤ k
      · rw [cR_exact m k c h, show c - k = 0 by omega]
        have := cR_exact (m * 2 ^ (k - c)) 0 0 (Nat.le_refl _)
        simpa using this
      · rw [show k - c = 0 by omega, Nat.pow_zero, Nat.mul_one]
        have := cR_scale m (c - k) k
        rw [show c - k + k = c by omega] at this
        exact this.symm
    rw [key]
theorem cR_hi (n c : Nat) (h : n.log2 ≤ c + 52) : cR n c ≤ 2 ^ 53 := by
  have n1 : n < 2 ^ (n.log2 + 1) := Nat.lt_log2_self
  have hq : n / 2 ^ c < 2 ^ 53 := by
    rw [Nat.div_lt_iff_lt_mul (Nat.two_pow_pos _), ← Nat.pow_add]
    exact Nat.lt_of_lt_of_le n1 (Nat.pow_le_pow_right (by omega) (by omega))
  have gen : ∀ q c : Nat, q < 2 ^ 53 → c ≤ 1 → q + c ≤ 2 ^ 53 := by intro q c h1 h2; omega
  unfold cR
  exact gen _ _ hq (by split <;> omega)
theorem cR_lo (m c : Nat) (hm : m ≠ 0) (h : c + 52 ≤ m.log2) : 2 ^ 52 ≤ cR m c := by
  have m1 : 2 ^ m.log2 ≤ m := Nat.log2_self_le hm
  have : 2 ^ 52 ≤ m / 2 ^ c := by
    rw [Nat.le_div_iff_mul_le (Nat.two_pow_pos _), ← Nat.pow_add]
    exact Nat.le_trans (Nat.pow_le_pow_right (by omega) (by omega)) m1
  unfold cR
  exact Nat.le_trans this (Nat.le_add_right _ _)
theorem Rd_mono {n m : Nat} (D : Nat) (h : n ≤ m) : Rd D n ≤ Rd D m := by
  unfold Rd
  by_cases hn : n = 0
  · rw [if_pos hn]; exact Nat.zero_le _
  · rw [if_neg hn, if_neg (by omega)]
    have hll : n.log2 ≤ m.log2 := by
      rcases Nat.lt_or_ge m.log2 n.log2 with hc | hc
      · have n2 : 2 ^ n.log2 ≤ n := Nat.log2_self_le hn
        have m2 : m < 2 ^ (m.log2 + 1) := Nat.lt_log2_self
        have : 2 ^ (m.log2 + 1) ≤ 2 ^ n.log2 := Nat.pow_le_pow_right (by omega) (by omega)
        omega
      · exact hc
    have core : (max (n.log2 - 52) D - D) * 2 ^ 52 + cR n (max (n.log2 - 52) D) ≤ (max (m.log2 - 52) D - D) * 2 ^ 52 + cR m (max (m.log2 - 52) D) := by
      by_cases hD : max (n.log2 - 52) D = max (m.log2 - 52) D
      · rw [hD]
        have := cR_mono (max (m.log2 - 52) D) h
        omega
      · have b1 := cR_hi n (max (n.log2 - 52) D) (by omega)
        have b2 := cR_lo m (max (m.log2 - 52) D) (by omega) (by omega)
        generalize cR n (max (n.log2 - 52) D) = A at *
        generalize cR m (max (m.log2 - 52) D) = B at *
        have hlt : max (n.log2 - 52) D + 1 ≤ max (m.log2 - 52) D := by omega
        have hDa : D ≤ max (n.log2 - 52) D := Nat.le_max_right _ _
        generalize max (n.log2 - 52) D = a at *
        generalize hb : max (m.log2 - 52) D = b at *
        have : a - D + 1 ≤ b - D := by omega
        have := Nat.mul_le_mul_right (2 ^ 52) this
        rw [Nat.add_mul] at this
        omega
    exact Nat.le_min.2 ⟨Nat.le_trans (Nat.min_le_left _ _) core, Nat.min_le_right _ _⟩
theorem Rd_scale (D n : Nat) : Rd D (n * 2 ^ D) = R n := by
  unfold Rd R
  by_cases hn : n = 0
  · subst hn; simp
  · rw [if_neg hn, if_neg (Nat.ne_of_gt (Nat.mul_pos (by omega) (Nat.two_pow_pos _))), log2_shift n D hn]
    have e : max (n.log2 + D - 52) D = n.log2 - 52 + D := by omega
    rw [e, cR_scale, Nat.add_sub_cancel]
/-- the product of two numbers -/
theorem mul_fin (x y : Nat) (hx : rung x < infR) (hy : rung y < infR) : double.mul x y = some (double.word (sgn x ^^ sgn y) (Rd 1074 (val (rung x) * val (rung y)))) := by
  obtain ⟨m, a, e1, v1⟩ := read_num x hx
  obtain ⟨n, b, e2, v2⟩ := read_num y hy
  unfold Format.mul
  rw [e1, e2]
  unfold Datum.product
  simp only [Option.map_some, Format.write]
  have h : double.leastPlace = -1074 := rfl
  have e4 : double.leastPlace + (a : Int) + (double.leastPlace + (b : Int)) = double.leastPlace + ((a + b : Nat) : Int) - ((1074 : Nat) : Int) := by rw [h]; omega
  rw [e4, nearest_Rd, ← v1, ← v2]
  have e5 : m * n * 2 ^ (a + b) = m * 2 ^ a * (n * 2 ^ b) := by
    rw [Nat.pow_add, Nat.mul_assoc, Nat.mul_assoc, Nat.mul_left_comm n]
  rw [e5]
/-- neither a NaN nor less than nothing -/
def Pos (x : Nat) : Prop := Real x ∧ 0 ≤ key x
theorem pos_word (neg : Bool) (r : Nat) (h : r ≤ infR) (hs : neg = true → r = 0) : Pos (double.word neg r) ∧ key (double.word neg r) = r := by
  have k := key_word neg r h
  have : sg neg r = r := by
    unfold sg
    cases neg
    · rfl
    · rw [hs rfl]; rfl
  rw [this] at k
  exact ⟨⟨real_word _ _ h, by rw [k]; omega⟩, k⟩
theorem pos_sgn {x : Nat} (h : 0 ≤ key x) : sgn x = false ∨ rung x = 0 := by
  unfold key sg at h
  cases hs : sgn x
  · exact .inl rfl
  · rw [hs] at h
    right
    simp only [if_true] at h
    omega
theorem pos_key {x : Nat} (h : 0 ≤ key x) : key x = rung x := by
  rcases pos_sgn h with h1 | h1
  · unfold key sg; rw [h1]; rfl
  · unfold key sg; rw [h1]; split <;> rfl
theorem mul_pos (x y : Nat) (hx : rung x < infR) (hy : rung y < infR) (px : 0 ≤ key x) (py : 0 ≤ key y) :
    ∃ r, double.mul x y = some r ∧ Pos r ∧ key r = Rd 1074 (val (rung x) * val (rung y)) := by
  refine ⟨_, mul_fin x y hx hy, ?_⟩
  refine pos_word _ _ (Rd_le _ _) fun h => ?_
  rcases pos_sgn px with h1 | h1 <;> rcases pos_sgn py with h2 | h2
  · rw [h1, h2] at h; cases h
  · rw [h2, val_zero, Nat.mul_zero]; rfl
  · rw [h1, val_zero, Nat.zero_mul]; rfl
  · rw [h1, val_zero, Nat.zero_mul]; rfl
theorem val_one : val ONE = 2 ^ 1074 := by decide +kernel
theorem top_any (D r : Nat) (h : val ONE = 2 ^ D) (hr : r ≤ infR) : Rd D (val ONE * val r) = r := by
  rw [h, Nat.mul_comm, Rd_scale]
  exact R_val r hr
/-- times a number between 0 and 1 -/
theorem mul_part (q y : Nat) (hq : 0 ≤ key q) (hq2 : key q ≤ key ONE) (hy : rung y < infR) (py : 0 ≤ key y) :
    ∃ r, double.mul q y = some r ∧ Pos r ∧ key r ≤ key y ∧ (key q = 0 → key r = 0) ∧ (key q = key ONE → key r = key y) := by
  have ho := real_pos ONE (by decide)
  rw [ho.2.2.2] at hq2
  rw [pos_key hq] at hq2
  have hq3 : rung q ≤ ONE := by omega
  have hi : ONE < infR := by decide
  obtain ⟨r, e1, e2, e3⟩ := mul_pos q y (by omega) hy hq py
  have hle : val (rung q) ≤ val ONE := by
    rcases Nat.lt_or_ge (rung q) ONE with h | h
    · exact Nat.le_of_lt (val_lt h)
    · rw [Nat.le_antisymm hq3 h]; exact Nat.le_refl _
  have top : Rd 1074 (val ONE * val (rung y)) = rung y := top_any 1074 _ val_one (Nat.le_of_lt hy)
  refine ⟨r, e1, e2, ?_, fun h => ?_, fun h => ?_⟩
  · rw [e3, pos_key py]
    have := Rd_mono 1074 (Nat.mul_le_mul_right (val (rung y)) hle)
    rw [top] at this
    exact Int.ofNat_le.2 this
  · rw [pos_key hq] at h
    have : rung q = 0 := by omega
    rw [e3, this, val_zero, Nat.zero_mul]; rfl
  · rw [ho.2.2.2, pos_key hq] at h
    have : rung q = ONE := by omega
    rw [e3, this, top, pos_key py]
/-- a number times itself -/
theorem sq_pos (x : Nat) (h : Real x) : ∃ r, double.mul x x = some r ∧ Pos r := by
  by_cases h1 : rung x < infR
  · refine ⟨_, mul_fin x x h1 h1, (pos_word _ _ (Rd_le _ _) fun h => ?_).1⟩
    cases hs : sgn x <;> rw [hs] at h <;> cases h
  · have e := read_inf x (by unfold Real at h; omega)
    unfold Format.mul
    rw [e]
    refine ⟨_, rfl, ?_⟩
    show Pos (double.word (sgn x ^^ sgn x) infR)
    refine (pos_word _ _ (Nat.le_refl _) fun h => ?_).1
    cases hs : sgn x <;> rw [hs] at h <;> cases h
end Ieee
/- Sums, differences, quotients, roots and floors of floats: which way they go. No program in sight. -/
namespace Ieee
set_option linter.unusedVariables false
theorem read_opp (x y : Nat) (h1 : sgn y = !sgn x) (h2 : rung y = rung x) : double.read y = (double.read x).opposite := by
  unfold Format.read
  have hs : double.signWeight = 2 ^ 63 := rfl
  have hb : double.binade = 2 ^ 52 := rfl
  have hi : double.infRung = infR := rfl
  simp only [hs, hb, hi]
  have e1 : (y / 2 ^ 63 % 2 == 1) = !(x / 2 ^ 63 % 2 == 1) := h1
  have e2 : y % 2 ^ 63 = x % 2 ^ 63 := h2
  rw [e1, e2]
  split
  · rfl
  · split
    · rfl
    · split <;> rfl
/-- the other sign's word -/
def opp (x : Nat) : Nat := double.word (!sgn x) (rung x)
theorem opp_ok (x : Nat) (h : Real x) : double.read (opp x) = (double.read x).opposite ∧ Real (opp x) ∧ rung (opp x) = rung x ∧ VV (opp x) = -VV x := by
  have hr : rung (opp x) = rung x := rung_word (!sgn x) (rung x) h
  have hs : sgn (opp x) = !sgn x := by
    have h1 : double.signWeight = 2 ^ 63 := rfl
    have h2 : infR = 2047 * 2 ^ 52 := rfl
    have h3 : rung x ≤ infR := h
    unfold opp
    generalize sgn x = b
    unfold sgn Format.word
    rw [h1]
    cases b
    · show ((if true = true then 2 ^ 63 + rung x else rung x) / 2 ^ 63 % 2 == 1) = true
      rw [if_pos rfl, show (2 ^ 63 + rung x) / 2 ^ 63 = 1 by omega]; rfl
    · show ((if false = true then 2 ^ 63 + rung x else rung x) / 2 ^ 63 % 2 == 1) = false
      rw [if_neg (by decide), Nat.div_eq_of_lt (by omega)]; rfl
  refine ⟨read_opp x _ hs hr, real_word _ _ h, hr, ?_⟩
  unfold VV
  rw [hs, hr]
  unfold sg
  cases sgn x <;> simp
theorem sub_opp (x y : Nat) (h : Real y) : double.sub x y = double.add x (opp y) := by
  unfold Format.sub Format.add
  rw [(opp_ok y h).1]
/-- a number less whatever is no NaN -/
theorem sub_real (x y : Nat) (hx : rung x < infR) (hy : Real y) : ∃ r, double.sub x y = some r ∧ Real r := by
  rw [sub_opp x y hy]
  obtain ⟨m, k, e, _⟩ := read_num x hx
  unfold Format.add
  rw [e]
  rcases real_cases _ (opp_ok y hy).2.1 with ⟨n, p, e2⟩ | e2
  · rw [e2]; exact ⟨_, rfl, real_nearest _ _ _⟩
  · rw [e2]; exact ⟨_, rfl, real_inf _⟩
theorem sub_key (x y : Nat) (hx : rung x < infR) (hy : rung y < infR) : ∃ r, double.sub x y = some r ∧ Real r ∧ key r = sR (VV x - VV y) := by
  have o := opp_ok y (Nat.le_of_lt hy)
  rw [sub_opp x y (Nat.le_of_lt hy)]
  obtain ⟨r, a, b, c⟩ := add_key x (opp y) hx (by rw [o.2.2.1]; exact hy)
  exact ⟨r, a, b, by rw [c, o.2.2.2]; rfl⟩
theorem sR_nonneg {t : Int} (h : 0 ≤ t) : sR t = (R t.toNat : Int) := by
  unfold sR sg
  have : decide (t < 0) = false := decide_eq_false (by omega)
  rw [this, show t.natAbs = t.toNat by omega]
  rfl
theorem VV_pos {x : Nat} (h : 0 ≤ key x) : VV x = val (rung x) := by
  unfold VV sg
  rcases pos_sgn h with h1 | h1
  · rw [h1]; rfl
  · rw [h1]; split <;> rfl
theorem sR_VV (x : Nat) (h : rung x ≤ infR) : sR (VV x) = key x := by
  have hv : ∀ n, val n = 0 → n = 0 := fun n hn => val_inj (s := 0) hn
  unfold VV key
  cases hs : sgn x
  · show sR (val (rung x) : Int) = (rung x : Int)
    rw [sR_nonneg (by omega), Int.toNat_natCast, R_val _ h]
  · show sR (-(val (rung x) : Int)) = -(rung x : Int)
    unfold sR
    rw [Int.natAbs_neg, Int.natAbs_natCast, R_val _ h]
    by_cases h0 : rung x = 0
    · rw [h0]; unfold sg; split <;> rfl
    · have : val (rung x) ≠ 0 := fun h => h0 (hv _ h)
      rw [decide_eq_true (by omega)]; rfl
theorem inf_word (x : Nat) (h : 0 ≤ key x) (hr : rung x = infR) : double.read x = .infinity false := by
  rcases pos_sgn h with h1 | h1
  · rw [read_inf x hr, h1]
  · rw [h1] at hr; exact absurd hr (by decide)
/-- a number and what is not less than nothing -/
theorem add_up (x y : Nat) (hx : rung x < infR) (hy : Pos y) : ∃ r, double.add x y = some r ∧ Real r ∧ key x ≤ key r := by
  by_cases h : rung y < infR
  · obtain ⟨r, a, b, c⟩ := add_key x y hx h
    refine ⟨r, a, b, ?_⟩
    rw [c, ← sR_VV x (Nat.le_of_lt hx)]
    exact sR_mono (by have := VV_pos hy.2; omega)
  · have h1 := hy.1
    unfold Real at h1
    obtain ⟨m, k, e, _⟩ := read_num x hx
    unfold Format.add
    rw [e, inf_word y hy.2 (by omega)]
    refine ⟨_, rfl, real_inf _, ?_⟩
    show key x ≤ key (double.word false infR)
    rw [key_word _ _ (Nat.le_refl _)]
    exact (key_bd x (Nat.le_of_lt hx)).2
theorem add_pos (x y : Nat) (hx : Pos x) (hy : Pos y) : ∃ r, double.add x y = some r ∧ Pos r := by
  by_cases h : rung x < infR
  · obtain ⟨r, a, b, c⟩ := add_up x y h hy
    exact ⟨r, a, b, Int.le_trans hx.2 c⟩
  · have h1 := hx.1
    unfold Real at h1
    unfold Format.add
    rw [inf_word x hx.2 (by omega)]
    have hp : Pos (double.word false infR) := (pos_word _ _ (Nat.le_refl _) fun h => by cases h).1
    by_cases h2 : rung y < infR
    · obtain ⟨m, k, e, _⟩ := read_num y h2
      rw [e]
      exact ⟨_, rfl, hp⟩
    · have h3 := hy.1
      unfold Real at h3
      rw [inf_word y hy.2 (by omega)]
      exact ⟨_, rfl, hp⟩
theorem pos_near (neg : Bool) (m : Nat) (p : Int) (h : neg = true → m = 0) : Pos (double.nearest neg m p) := by
  have e : double.nearest neg m p = double.word neg (rung (double.nearest neg m p)) ∧ rung (double.nearest neg m p) ≤ infR ∧ (m = 0 → rung (double.nearest neg m p) = 0) := by
    unfold Format.nearest
    by_cases hm : m = 0
    · rw [if_pos hm, rung_word _ _ (Nat.zero_le _)]
      exact ⟨rfl, Nat.zero_le _, fun _ => rfl⟩
    · rw [if_neg hm]
      have hi : double.infRung = infR := rfl
      dsimp only
      rw [hi, rung_word _ _ (Nat.min_le_right _ _)]
      exact ⟨rfl, Nat.min_le_right _ _, fun h => absurd h hm⟩
  rw [e.1]
  exact (pos_word _ _ e.2.1 fun hn => e.2.2 (h hn)).1
/-- divided by a number of things -/
theorem div_num (x y : Nat) (hx : Real x) (hy : rung y < infR) (py : 0 < key y) : ∃ r, double.div x y = some r ∧ Real r ∧ (0 ≤ key x → Pos r) := by
  obtain ⟨n, b, e2, v2⟩ := read_num y hy
  have hs : sgn y = false := by
    rcases pos_sgn (Int.le_of_lt py) with h | h
    · exact h
    · rw [pos_key (Int.le_of_lt py)] at py; omega
  have hn : n ≠ 0 := fun h => by
    rw [h, Nat.zero_mul] at v2
    have := val_inj (r := rung y) (s := 0) v2.symm
    rw [pos_key (Int.le_of_lt py)] at py; omega
  unfold Format.div
  rw [e2, hs]
  by_cases h : rung x < infR
  · obtain ⟨m, a, e1, v1⟩ := read_num x h
    rw [e1]
    unfold Datum.quotient
    dsimp only
    rw [if_neg hn]
    refine ⟨_, rfl, real_nearest _ _ _, fun hp => ?_⟩
    refine pos_near _ _ _ fun hneg => ?_
    rcases pos_sgn hp with h1 | h1
    · rw [h1] at hneg; cases hneg
    · rw [h1] at v1
      have hm : m = 0 := by
        rcases Nat.mul_eq_zero.1 v1 with h | h
        · exact h
        · have := Nat.two_pow_pos a; omega
      subst hm
      simp
  · have h1 := hx
    unfold Real at h1
    rw [read_inf x (by omega)]
    refine ⟨_, rfl, real_inf _, fun hp => ?_⟩
    show Pos (double.word (sgn x ^^ false) infR)
    refine (pos_word _ _ (Nat.le_refl _) fun hneg => ?_).1
    rcases pos_sgn hp with h2 | h2
    · rw [h2] at hneg; cases hneg
    · exact absurd h2 (by have : infR = 2047 * 2 ^ 52 := rfl; omega)
theorem sqrt_pos (x : Nat) (h : Pos x) : ∃ r, double.sqrt x = some r ∧ Pos r := by
  unfold Format.sqrt
  by_cases h1 : rung x < infR
  · obtain ⟨m, a, e1, v1⟩ := read_num x h1
    rw [e1]
    unfold Datum.root
    by_cases hm : m = 0
    · simp only [if_pos hm]
      exact ⟨_, rfl, pos_near _ _ _ fun _ => hm⟩
    · have hs : sgn x = false := by
        rcases pos_sgn h.2 with h | h
        · exact h
        · rw [h] at v1
          rcases Nat.mul_eq_zero.1 v1 with h | h
          · exact absurd h hm
          · have := Nat.two_pow_pos a; omega
      simp only [if_neg hm, hs, Bool.false_eq_true, if_false]
      exact ⟨_, rfl, pos_near _ _ _ fun h => by cases h⟩
  · have h2 := h.1
    unfold Real at h2
    rw [inf_word x h.2 (by omega)]
    exact ⟨_, rfl, (pos_word _ _ (Nat.le_refl _) fun h => by cases h).1⟩
/-- the whole part of a number of units -/
def UU : Nat := 1074
def fl (x : Nat) : Nat := val (rung x) / 2 ^ UU
def flW (x : Nat) : Nat := double.nearest (sgn x) (fl x) 0
theorem whole_any (s : Bool) (m k U : Nat) (p : Int) (hp : p = (k : Nat) - (U : Nat)) (way : Toward) (hw : way = .down ∨ way = .zero) (hs : s = true → m = 0) : way.cut s (m <<< p.toNat) (-p).toNat = m * 2 ^ k / 2 ^ U := by
  have hmore : ∀ rest : Nat, (s = true → rest = 0) → (match way with
      | .even => false
      | .down => s && rest != 0
      | .up => false
      | .zero => false) = false := by
    intro rest hr
    rcases hw with rfl | rfl
    · cases s
      · rfl
      · rw [hr rfl]; rfl
    · rfl
  have cut : ∀ n d, (s = true → n = 0) → way.cut s n d = n / 2 ^ d := by
    intro n d hn
    unfold Toward.cut
    simp only [Nat.shiftLeft_eq, Nat.one_mul]
    have hz : n / 2 ^ min d (n.log2 + 2) = n / 2 ^ d := by
      by_cases h : d ≤ n.log2 + 2
      · rw [Nat.min_eq_left h]
      · have h1 : n < 2 ^ (n.log2 + 1) := Nat.lt_log2_self
        rw [Nat.min_eq_right (by omega), Nat.div_eq_of_lt (Nat.lt_of_lt_of_le h1 (Nat.pow_le_pow_right (by omega) (by omega))), Nat.div_eq_of_lt (Nat.lt_of_lt_of_le h1 (Nat.pow_le_pow_right (by omega) (by omega)))]
    rcases hw with rfl | rfl
    · have : (s && n % 2 ^ min d (n.log2 + 2) != 0) = false := by
        cases s
        · rfl
        · rw [hn rfl, Nat.zero_mod]; rfl
      simp only [this]
      exact hz
    · exact hz
  rw [cut _ _ (fun h => by rw [hs h, Nat.shiftLeft_eq, Nat.zero_mul]), Nat.shiftLeft_eq]
  by_cases h : U ≤ k
  · rw [show p.toNat = k - U by omega, show (-p).toNat = 0 by omega, Nat.pow_zero, Nat.div_one]
    rw [show k = k - U + U by omega, Nat.pow_add, ← Nat.mul_assoc, Nat.mul_div_cancel _ (Nat.two_pow_pos _), Nat.add_sub_cancel]
  · rw [show p.toNat = 0 by omega, show (-p).toNat = U - k by omega, Nat.pow_zero, Nat.mul_one]
    rw [show U = U - k + k by omega, Nat.pow_add, Nat.mul_div_mul_right _ _ (Nat.two_pow_pos _), Nat.add_sub_cancel]
theorem fl_read (x : Nat) (h : rung x < infR) (hp : 0 ≤ key x) (way : Toward) (hw : way = .down ∨ way = .zero) : (double.read x).integral way = .number (sgn x) (fl x) 0 := by
  obtain ⟨m, k, e, v⟩ := read_num x h
  rw [e]
  unfold Datum.integral fl
  dsimp only
  rw [whole_any (sgn x) m k UU _ (by have h : double.leastPlace = -(UU : Nat) := rfl; rw [h]; omega) way hw, v]
  intro hs
  rcases pos_sgn hp with h1 | h1
  · rw [h1] at hs; cases hs
  · rw [h1] at v
    rcases Nat.mul_eq_zero.1 v with h | h
    · exact h
    · have := Nat.two_pow_pos k; omega
/-- a whole number below 2 to the 53rd is a float -/
theorem val_whole (U i : Nat) (hi : i < 2 ^ 53) (hU : 1 ≤ U) (hU2 : 52 ≤ U) : ∃ r, val r = i * 2 ^ U ∧ r < (U + 2) * 2 ^ 52 := by
  by_cases h0 : i = 0
  · exact ⟨0, by rw [h0, Nat.zero_mul]; rfl, by omega⟩
  · have l1 : 2 ^ i.log2 ≤ i := Nat.log2_self_le h0
    have l2 : i < 2 ^ (i.log2 + 1) := Nat.lt_log2_self
    have l3 : i.log2 ≤ 52 := by
      have := (Nat.log2_lt h0).2 hi
      omega
    generalize i.log2 = l at *
    have p1 : 2 ^ 52 ≤ i * 2 ^ (52 - l) := by
      have := Nat.mul_le_mul_right (2 ^ (52 - l)) l1
      rw [← Nat.pow_add, show l + (52 - l) = 52 by omega] at this
      exact this
    have p2 : i * 2 ^ (52 - l) < 2 ^ 53 := by
      have := Nat.mul_lt_mul_of_pos_right l2 (Nat.two_pow_pos (52 - l))
      rw [← Nat.pow_add, show l + 1 + (52 - l) = 53 by omega] at this
      exact this
    have key : i * 2 ^ (52 - l) * 2 ^ (U - (52 - l)) = i * 2 ^ U := by
      rw [Nat.mul_assoc, ← Nat.pow_add, show 52 - l + (U - (52 - l)) = U by omega]
    generalize i * 2 ^ (52 - l) = g at *
    refine ⟨(U - (52 - l) + 1) * 2 ^ 52 + (g - 2 ^ 52), ?_, by omega⟩
    unfold val
    rw [if_neg (by omega), show ((U - (52 - l) + 1) * 2 ^ 52 + (g - 2 ^ 52)) % 2 ^ 52 = g - 2 ^ 52 by omega, show ((U - (52 - l) + 1) * 2 ^ 52 + (g - 2 ^ 52)) / 2 ^ 52 = U - (52 - l) + 1 by omega, Nat.add_sub_cancel, show 2 ^ 52 + (g - 2 ^ 52) = g by omega, key]
theorem near0 (s : Bool) (i : Nat) (hi : i < 2 ^ 53) : ∃ r, double.nearest s i 0 = double.word s r ∧ r < 1100 * 2 ^ 52 ∧ val r = i * 2 ^ UU := by
  obtain ⟨r, e, h⟩ := val_whole UU i hi (by decide) (by decide)
  have hlt : r < 1100 * 2 ^ 52 := Nat.lt_of_lt_of_le h (by decide)
  have hinf : infR = 2047 * 2 ^ 52 := rfl
  have h0 : (0 : Int) = double.leastPlace + ((UU : Nat) : Int) := rfl
  refine ⟨r, ?_, hlt, e⟩
  rw [h0, nearest_R, ← e, R_val r (Nat.le_trans (Nat.le_of_lt hlt) (by decide))]
end Ieee
/- What a quantile reckons: which place, which part, and what lies between. No program in sight. -/
namespace Ieee
set_option linter.unusedVariables false
theorem val_le {r s : Nat} (h : r ≤ s) : val r ≤ val s := by
  rcases Nat.lt_or_ge r s with h1 | h1
  · exact Nat.le_of_lt (val_lt h1)
  · rw [Nat.le_antisymm h h1]; exact Nat.le_refl _
theorem word_false (r : Nat) : double.word false r = r := rfl
theorem units_pos : 0 < 2 ^ UU := Nat.two_pow_pos _
/-- a number of things as a float -/
theorem num_ok (n : Nat) (hn : n < 2 ^ 53) : ∃ r, intF (n : Int) = r ∧ r < 1100 * 2 ^ 52 ∧ val r = n * 2 ^ UU ∧ rung r = r ∧ key r = r ∧ Real r := by
  obtain ⟨r, e, h, v⟩ := near0 false n hn
  have hi : infR = 2047 * 2 ^ 52 := rfl
  have rp := real_pos r (by omega)
  refine ⟨r, ?_, h, v, rp.2.2.1, rp.2.2.2, rp.1⟩
  unfold intF
  rw [decide_eq_false (by omega), Int.natAbs_natCast, e, word_false]
theorem num_pos (n : Nat) (h1 : 1 ≤ n) (hn : n < 2 ^ 53) : rung (intF (n : Int)) < infR ∧ 0 < key (intF (n : Int)) := by
  obtain ⟨r, e, h, v, a, b, c⟩ := num_ok n hn
  have hi : infR = 2047 * 2 ^ 52 := rfl
  rw [e, a, b]
  refine ⟨by omega, ?_⟩
  rcases Nat.eq_zero_or_pos r with h0 | h0
  · subst h0
    have : n * 2 ^ UU = 0 := v.symm
    rcases Nat.mul_eq_zero.1 this with h | h
    · omega
    · have := units_pos; omega
  · omega
theorem div_units (n U : Nat) : n * 2 ^ U / 2 ^ U = n := Nat.mul_div_cancel _ (Nat.two_pow_pos _)
theorem fl_le (x n U r : Nat) (hv : val r = n * 2 ^ U) (h : rung x ≤ r) : val (rung x) / 2 ^ U ≤ n := by
  have := Nat.div_le_div_right (c := 2 ^ U) (val_le h)
  rw [hv, div_units] at this
  exact this
theorem fl_mul (v U : Nat) : v / 2 ^ U * 2 ^ U ≤ v := Nat.div_mul_le_self _ _
/-- the whole part as a float -/
theorem flW_ok (x : Nat) (hx : rung x < infR) (hp : 0 ≤ key x) (hf : fl x < 2 ^ 53) :
    Pos (flW x) ∧ rung (flW x) < infR ∧ val (rung (flW x)) = fl x * 2 ^ UU ∧ (sgn x = true → fl x = 0) := by
  obtain ⟨r, e, h, v⟩ := near0 (sgn x) (fl x) hf
  have hi : infR = 2047 * 2 ^ 52 := rfl
  have h0 : sgn x = true → fl x = 0 := fun hs => by
    rcases pos_sgn hp with h1 | h1
    · rw [h1] at hs; cases hs
    · unfold fl; rw [h1, val_zero, Nat.zero_div]
  have hr : rung (flW x) = r := by unfold flW; rw [e, rung_word _ _ (by omega)]
  refine ⟨?_, by omega, by rw [hr, v], h0⟩
  unfold flW
  rw [e]
  refine (pos_word _ _ (by omega) fun hs => ?_).1
  rw [h0 hs, Nat.zero_mul] at v
  exact val_inj (s := 0) v
/-- .. read back as an integer -/
theorem flW_int (x : Nat) (hx : rung x < infR) (hp : 0 ≤ key x) (hf : fl x < 2 ^ 53) : (double.read (flW x)).toInt .zero = some (fl x : Int) := by
  obtain ⟨a, b, c, d⟩ := flW_ok x hx hp hf
  unfold Datum.toInt
  rw [fl_read (flW x) b a.2 .zero (.inr rfl)]
  have e : fl (flW x) = fl x := by unfold fl at c ⊢; rw [c, div_units]
  rw [e]
  show some (signed (sgn (flW x)) (fl x) 0) = _
  unfold signed
  rw [Nat.shiftLeft_zero]
  rcases pos_sgn a.2 with h1 | h1
  · rw [h1]; rfl
  · rw [h1, val_zero] at c
    have : fl x = 0 := by
      rcases Nat.mul_eq_zero.1 c.symm with h | h
      · exact h
      · have := units_pos; omega
    rw [this]; split <;> rfl
theorem flW_write (x : Nat) (hx : rung x < infR) (hp : 0 ≤ key x) : double.write ((double.read x).integral .down) = flW x := by
  rw [fl_read x hx hp .down (.inl rfl)]; rfl
/-- what is left of the whole part -/
theorem part_ok (x : Nat) (hx : rung x < infR) (hp : 0 ≤ key x) (hf : fl x < 2 ^ 53) : ∃ f, double.sub x (flW x) = some f ∧ Pos f ∧ rung f < infR ∧ (rung x = 0 → key f = 0) := by
  obtain ⟨a, b, c, d⟩ := flW_ok x hx hp hf
  obtain ⟨f, e1, e2, e3⟩ := sub_key x (flW x) hx b
  rw [VV_pos hp, VV_pos a.2, c] at e3
  have hle : fl x * 2 ^ UU ≤ val (rung x) := fl_mul _ _
  have e4 : ((val (rung x) : Nat) : Int) - ((fl x * 2 ^ UU : Nat) : Int) = ((val (rung x) - fl x * 2 ^ UU : Nat) : Int) := (Int.ofNat_sub hle).symm
  rw [e4, sR_nonneg (Int.natCast_nonneg _), Int.toNat_natCast] at e3
  have hk : 0 ≤ key f := by rw [e3]; exact Int.natCast_nonneg _
  have hr : R (val (rung x) - fl x * 2 ^ UU) ≤ rung x := by
    have := R_mono (Nat.sub_le (val (rung x)) (fl x * 2 ^ UU))
    rw [R_val _ (Nat.le_of_lt hx)] at this
    exact this
  have h5 := pos_key hk
  rw [e3] at h5
  have h6 : R (val (rung x) - fl x * 2 ^ UU) = rung f := Int.ofNat_inj.1 h5
  refine ⟨f, e1, ⟨e2, hk⟩, by omega, fun h0 => ?_⟩
  rw [e3, h6]
  omega
theorem val_double (e : Nat) (h : 1 ≤ e) : 2 * val (e * 2 ^ 52) = val ((e + 1) * 2 ^ 52) := by
  unfold val
  rw [if_neg (by omega), if_neg (by omega), Nat.mul_mod_left, Nat.mul_mod_left, Nat.mul_div_cancel _ (by omega), Nat.mul_div_cancel _ (by omega)]
  rw [show e + 1 - 1 = e - 1 + 1 by omega, show 2 ^ (e - 1 + 1) = 2 ^ (e - 1) * 2 from rfl]
  rw [Nat.mul_comm (2 ^ (e - 1)) 2, Nat.mul_left_comm]
/-- between two numbers that are not too great -/
theorem between (a b f : Nat) (ha : rung a ≤ 1123 * 2 ^ 52) (hb : rung b ≤ 1123 * 2 ^ 52) (h : key a ≤ key b) (hf : Pos f) (hf2 : rung f < infR) :
    ∃ d p x, double.sub b a = some d ∧ double.mul f d = some p ∧ double.add a p = some x ∧ Real x ∧ key a ≤ key x := by
  have hi : infR = 2047 * 2 ^ 52 := rfl
  obtain ⟨d, e1, e2, e3⟩ := sub_key b a (by omega) (by omega)
  have hv := VV_mono h
  have ba : ∀ z, rung z ≤ 1123 * 2 ^ 52 → -(val (1123 * 2 ^ 52) : Int) ≤ VV z ∧ VV z ≤ (val (1123 * 2 ^ 52) : Int) := fun z hz => by
    have := val_le hz
    unfold VV sg
    split <;> omega
  have h1 := ba a ha
  have h2 := ba b hb
  have h3 := val_double 1123 (by omega)
  have h4 : (VV b - VV a).toNat ≤ val ((1123 + 1) * 2 ^ 52) := by omega
  rw [sR_nonneg (by omega)] at e3
  have h5 := R_mono h4
  rw [R_val _ (by omega)] at h5
  have hk : 0 ≤ key d := by rw [e3]; exact Int.natCast_nonneg _
  have h6 := pos_key hk
  rw [e3] at h6
  have h7 : R (VV b - VV a).toNat = rung d := Int.ofNat_inj.1 h6
  obtain ⟨p, p1, p2, _⟩ := mul_pos f d hf2 (by omega) hf.2 hk
  obtain ⟨x, x1, x2, x3⟩ := add_up a p (by omega) p2
  exact ⟨d, p, x, e1, p1, x1, x2, x3⟩
/-- which place, and which part -/
theorem where_ok (q : Nat) (n : Nat) (hn : n < 2 ^ 53) (hq : 0 ≤ key q) (hq2 : key q ≤ key ONE) :
    ∃ h, double.mul q (intF (n : Int)) = some h ∧ Pos h ∧ rung h < infR ∧ fl h ≤ n ∧ (key q = 0 → rung h = 0 ∧ fl h = 0) ∧ (key q = key ONE → fl h = n) := by
  obtain ⟨r, e, h, v, a, b, c⟩ := num_ok n hn
  have hi : infR = 2047 * 2 ^ 52 := rfl
  rw [e]
  obtain ⟨x, x1, x2, x3, x4, x5⟩ := mul_part q r hq hq2 (by omega) (by omega)
  have k := pos_key x2.2
  rw [b, k] at x3
  have hr : rung x ≤ r := Int.ofNat_le.1 x3
  have hz : rung x = 0 → fl x = 0 := fun h0 => by unfold fl; rw [h0, val_zero, Nat.zero_div]
  refine ⟨x, x1, x2, by omega, fl_le x n _ r v hr, fun h0 => ?_, fun h1 => ?_⟩
  · have := x4 h0
    rw [k] at this
    have h2 : rung x = 0 := Int.ofNat_inj.1 this
    exact ⟨h2, hz h2⟩
  · have := x5 h1
    rw [k, b] at this
    have h2 : rung x = r := Int.ofNat_inj.1 this
    unfold fl
    rw [h2, v, div_units]
end Ieee
