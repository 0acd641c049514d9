/- A positive normal float halved, and doubled: its bits. No program in sight. -/
import Ieee.Arith
namespace Ieee
theorem cut_exact (neg : Bool) (n d : Nat) (hn : 0 < n) : Toward.even.cut neg (n * 2 ^ d) d = n := by
  have h1 : d ≤ (n * 2 ^ d).log2 := (Nat.le_log2 (by have := Nat.two_pow_pos d; exact Nat.ne_of_gt (Nat.mul_pos hn this))).2 (Nat.le_mul_of_pos_left _ hn)
  unfold Toward.cut
  have h2 : min d ((n * 2 ^ d).log2 + 2) = d := by omega
  have hp := Nat.two_pow_pos d
  simp only [h2, Nat.shiftLeft_eq, Nat.one_mul]
  rw [Nat.mul_div_cancel _ hp, Nat.mul_mod_left]
  have : (2 ^ d == 0) = false := by rw [beq_eq_false_iff_ne]; omega
  simp
/-- a normal number's word, written again with more digits behind it -/
theorem nearest_more (m : Nat) (h0 : 2 ^ 52 ≤ m) (h1 : m < 2 ^ 53) (e d : Nat) (he : e < 2046) :
    double.nearest false (m * 2 ^ d) (double.leastPlace + e - d) = e * 2 ^ 52 + m := by
  have hp := Nat.two_pow_pos d
  have hl : (m * 2 ^ d).log2 = 52 + d := by
    have h2 : m * 2 ^ d ≠ 0 := Nat.ne_of_gt (Nat.mul_pos (by omega) hp)
    refine (Nat.log2_eq_iff h2).2 ⟨?_, ?_⟩
    · rw [Nat.pow_add]; exact Nat.mul_le_mul_right _ h0
    · rw [show 52 + d + 1 = 53 + d by omega, Nat.pow_add]; exact Nat.mul_lt_mul_of_pos_right h1 hp
  unfold Format.nearest
  rw [if_neg (Nat.ne_of_gt (Nat.mul_pos (by omega) hp)), hl]
  have e1 : max (double.leastPlace + e - d + ((52 + d : Nat) : Int) - (double.fractionBits : Nat)) double.leastPlace = double.leastPlace + e := by
    have hF : double.fractionBits = 52 := rfl
    rw [hF]
    omega
  dsimp only
  rw [e1]
  have e2 : (double.leastPlace + e - d - (double.leastPlace + e)).toNat = 0 := by omega
  have e3 : (double.leastPlace + e - (double.leastPlace + e - d)).toNat = d := by omega
  have e4 : (double.leastPlace + e - double.leastPlace).toNat = e := by omega
  rw [e2, e3, e4, Nat.shiftLeft_zero, cut_exact false m d (by omega)]
  have hb : double.binade = 2 ^ 52 := rfl
  have hi : double.infRung = 2047 * 2 ^ 52 := rfl
  simp only [Format.word, hb, hi]
  rw [if_neg (by decide)]
  exact Nat.min_eq_left (by omega)
/-- a positive normal word, read -/
theorem read_normal (e f : Nat) (he : 1 ≤ e) (he2 : e < 2047) (hf : f < 2 ^ 52) : double.read (e * 2 ^ 52 + f) = .number false (2 ^ 52 + f) (double.leastPlace + (e - 1 : Nat)) := by
  unfold Format.read
  have hs : double.signWeight = 2 ^ 63 := rfl
  have hb : double.binade = 2 ^ 52 := rfl
  have hi : double.infRung = 2047 * 2 ^ 52 := rfl
  simp only [hs, hb, hi]
  have h1 : (e * 2 ^ 52 + f) % 2 ^ 63 = e * 2 ^ 52 + f := Nat.mod_eq_of_lt (by omega)
  have h2 : (e * 2 ^ 52 + f) / 2 ^ 63 = 0 := Nat.div_eq_of_lt (by omega)
  have h3 : (e * 2 ^ 52 + f) % 2 ^ 52 = f := by omega
  have h4 : (e * 2 ^ 52 + f) / 2 ^ 52 = e := by omega
  rw [h1, h2, h3, h4, if_neg (by omega), if_pos (by omega)]
  rfl
/-- LEMMA 1: halved -/
theorem halve (e f : Nat) (he : 2 ≤ e) (he2 : e < 2047) (hf : f < 2 ^ 52) : double.div (e * 2 ^ 52 + f) (1024 * 2 ^ 52) = some ((e - 1) * 2 ^ 52 + f) := by
  unfold Format.div
  have h2 := read_normal 1024 0 (by omega) (by omega) (by omega)
  rw [Nat.add_zero] at h2
  rw [read_normal e f (by omega) he2 hf, h2]
  have hl : (2 ^ 52 + f).log2 = 52 := (Nat.log2_eq_iff (by omega)).2 ⟨by omega, by omega⟩
  have hl2 : (2 ^ 52 + 0).log2 = 52 := (Nat.log2_eq_iff (by omega)).2 ⟨by omega, by omega⟩
  have hF : double.fractionBits + 2 = 54 := rfl
  unfold Datum.quotient
  dsimp only
  rw [if_neg (by omega), hl, hl2, hF]
  simp only [Option.map_some, Option.some.injEq, Format.write, Nat.shiftLeft_eq]
  have e1 : (2 ^ 52 + f) * 2 ^ (54 + 52 - 52) / (2 ^ 52 + 0) = (2 ^ 52 + f) * 4 := by
    rw [Nat.add_zero, show 54 + 52 - 52 = 2 + 52 by rfl, Nat.pow_add, ← Nat.mul_assoc, Nat.mul_div_cancel _ (by omega)]
  have e2 : (2 ^ 52 + f) * 2 ^ (54 + 52 - 52) % (2 ^ 52 + 0) = 0 := by
    rw [Nat.add_zero, show 54 + 52 - 52 = 2 + 52 by rfl, Nat.pow_add, ← Nat.mul_assoc, Nat.mul_mod_left]
  rw [e1, e2]
  have := nearest_more (2 ^ 52 + f) (by omega) (by omega) (e - 2) 3 (by omega)
  have e3 : 2 * ((2 ^ 52 + f) * 4) + ((0 : Nat) != 0).toNat = (2 ^ 52 + f) * 2 ^ 3 := by
    show 2 * ((2 ^ 52 + f) * 4) + 0 = _
    omega
  have e4 : double.leastPlace + ((e - 1 : Nat) : Int) - (double.leastPlace + ((1024 - 1 : Nat) : Int)) - ((54 + 52 - 52 : Nat) : Int) - 1 = double.leastPlace + ((e - 2 : Nat) : Int) - ((3 : Nat) : Int) := by
    show _ - ((-1074 : Int) + 1023) - 54 - 1 = _
    omega
  rw [e3, e4]
  rw [show (false ^^ false) = false from rfl, this]
  omega
/-- LEMMA 2: doubled -/
theorem dbl (e f : Nat) (he : 1 ≤ e) (he2 : e < 2046) (hf : f < 2 ^ 52) : double.mul (e * 2 ^ 52 + f) (1024 * 2 ^ 52) = some ((e + 1) * 2 ^ 52 + f) := by
  unfold Format.mul
  have h2 := read_normal 1024 0 (by omega) (by omega) (by omega)
  rw [Nat.add_zero] at h2
  rw [read_normal e f he (by omega) hf, h2]
  unfold Datum.product
  dsimp only
  simp only [Option.map_some, Option.some.injEq, Format.write]
  have := nearest_more (2 ^ 52 + f) (by omega) (by omega) e 52 he2
  have e4 : double.leastPlace + ((e - 1 : Nat) : Int) + (double.leastPlace + ((1024 - 1 : Nat) : Int)) = double.leastPlace + (e : Int) - ((52 : Nat) : Int) := by
    have h : double.leastPlace = -1074 := rfl
    rw [h]
    omega
  rw [e4, Nat.add_zero]
  rw [show (false ^^ false) = false from rfl, this]
  omega
/-- the least ones, doubled -/
theorem dbl_least (b : Nat) (h0 : 0 < b) (hb : b < 2 ^ 52) : double.mul b (1024 * 2 ^ 52) = some (2 * b) := by
  unfold Format.mul
  have h2 := read_normal 1024 0 (by omega) (by omega) (by omega)
  rw [Nat.add_zero] at h2
  have h3 : double.read b = .number false b double.leastPlace := by
    unfold Format.read
    have hs : double.signWeight = 2 ^ 63 := rfl
    have hbn : double.binade = 2 ^ 52 := rfl
    simp only [hs, hbn]
    have e1 : b % 2 ^ 63 = b := Nat.mod_eq_of_lt (by omega)
    have e2 : b / 2 ^ 63 = 0 := Nat.div_eq_of_lt (by omega)
    rw [e1, e2, if_pos hb]
    rfl
  rw [h3, h2]
  unfold Datum.product
  dsimp only
  simp only [Option.map_some, Option.some.injEq, Format.write]
  have e5 : b * (2 ^ 52 + 0) = 2 * b * 2 ^ 51 := by omega
  have hl : (2 * b * 2 ^ 51).log2 < 104 := (Nat.log2_lt (by omega)).2 (by omega)
  have h : double.leastPlace = -1074 := rfl
  have hF : double.fractionBits = 52 := rfl
  rw [e5, show (false ^^ false) = false from rfl]
  unfold Format.nearest
  rw [if_neg (by omega), h, hF]
  have e1 : max ((-1074 : Int) + (-1074 + ((1024 - 1 : Nat) : Int)) + ((2 * b * 2 ^ 51).log2 : Nat) - ((52 : Nat) : Int)) (-1074) = -1074 := by omega
  dsimp only
  rw [e1]
  have e2 : ((-1074 : Int) + (-1074 + ((1024 - 1 : Nat) : Int)) - -1074).toNat = 0 := by omega
  have e3 : ((-1074 : Int) - (-1074 + (-1074 + ((1024 - 1 : Nat) : Int)))).toNat = 51 := by omega
  have e4 : ((-1074 : Int) - -1074).toNat = 0 := by omega
  rw [e2, e3, e4, Nat.shiftLeft_zero, cut_exact false (2 * b) 51 (by omega)]
  have hi : double.infRung = 2047 * 2 ^ 52 := rfl
  simp only [Format.word, hi, Nat.zero_mul, Nat.zero_add]
  rw [if_neg (by decide)]
  exact Nat.min_eq_left (by omega)
end Ieee
/- How two words of floats stand to each other, told by their keys: whole numbers that rise with them. No program in sight. -/
namespace Ieee
/-- the value of a rung, in units of the least place -/
def val (r : Nat) : Nat := if r < 2 ^ 52 then r else (2 ^ 52 + r % 2 ^ 52) * 2 ^ (r / 2 ^ 52 - 1)
theorem val_succ (r : Nat) : val r < val (r + 1) := by
  unfold val
  by_cases h : r + 1 < 2 ^ 52
  · rw [if_pos (by omega), if_pos h]; omega
  · by_cases h2 : r < 2 ^ 52
    · rw [if_pos h2, if_neg h]
      have : r + 1 = 2 ^ 52 := by omega
      rw [this]
      simp
      omega
    · rw [if_neg h2, if_neg h]
      have h3 := Nat.div_add_mod r (2 ^ 52)
      have h4 : r % 2 ^ 52 < 2 ^ 52 := Nat.mod_lt _ (by omega)
      obtain ⟨q, hq⟩ : ∃ q, r / 2 ^ 52 = q + 1 := ⟨r / 2 ^ 52 - 1, by omega⟩
      by_cases h5 : r % 2 ^ 52 + 1 < 2 ^ 52
      · have e1 : (r + 1) / 2 ^ 52 = r / 2 ^ 52 := by omega
        have e2 : (r + 1) % 2 ^ 52 = r % 2 ^ 52 + 1 := by omega
        rw [e1, e2]
        exact Nat.mul_lt_mul_of_pos_right (by omega) (Nat.two_pow_pos _)
      · have e1 : (r + 1) / 2 ^ 52 = q + 2 := by omega
        have e2 : (r + 1) % 2 ^ 52 = 0 := by omega
        rw [e1, e2, hq, show q + 2 - 1 = q + 1 from rfl, show q + 1 - 1 = q from rfl, Nat.pow_succ]
        have h6 := Nat.two_pow_pos q
        have h7 : (2 ^ 52 + r % 2 ^ 52) * 2 ^ q < (2 * 2 ^ 52) * 2 ^ q := Nat.mul_lt_mul_of_pos_right (by omega) h6
        have h8 : (2 ^ 52 + 0) * (2 ^ q * 2) = (2 * 2 ^ 52) * 2 ^ q := by rw [Nat.add_zero, Nat.mul_comm (2 ^ q) 2, ← Nat.mul_assoc, Nat.mul_comm (2 ^ 52) 2]
        exact Nat.lt_of_lt_of_eq h7 h8.symm
theorem val_add (r d : Nat) : val r < val (r + d + 1) := by
  induction d with
  | zero => exact val_succ r
  | succ d ih => exact Nat.lt_trans ih (val_succ _)
theorem val_lt {r s : Nat} (h : r < s) : val r < val s := by
  have := val_add r (s - r - 1)
  rwa [show r + (s - r - 1) + 1 = s by omega] at this
theorem val_lt_iff {r s : Nat} : val r < val s ↔ r < s := by
  constructor
  · intro h
    rcases Nat.lt_trichotomy r s with h1 | rfl | h1
    · exact h1
    · omega
    · have := val_lt h1; omega
  · exact val_lt
theorem val_inj {r s : Nat} (h : val r = val s) : r = s := by
  rcases Nat.lt_trichotomy r s with h1 | h1 | h1
  · have := val_lt h1; omega
  · exact h1
  · have := val_lt h1; omega
theorem val_zero : val 0 = 0 := rfl
def rung (x : Nat) : Nat := x % 2 ^ 63
def sgn (x : Nat) : Bool := x / 2 ^ 63 % 2 == 1
def infR : Nat := 2047 * 2 ^ 52
/-- a float that is no NaN -/
def Real (x : Nat) : Prop := rung x ≤ infR
def sg (s : Bool) (n : Nat) : Int := if s then -(n : Int) else n
/-- the key: it rises with the float; the two zeros have one key -/
def key (x : Nat) : Int := sg (sgn x) (rung x)
theorem read_num (x : Nat) (h : rung x < infR) : ∃ m k : Nat, double.read x = .number (sgn x) m (double.leastPlace + (k : Nat)) ∧ m * 2 ^ k = val (rung x) := by
  unfold Format.read
  have hs : double.signWeight = 2 ^ 63 := rfl
  have hb : double.binade = 2 ^ 52 := rfl
  have hi : double.infRung = infR := rfl
  simp only [hs, hb, hi]
  unfold rung at h
  by_cases h1 : x % 2 ^ 63 < 2 ^ 52
  · rw [if_pos h1]
    exact ⟨x % 2 ^ 63, 0, by simp [sgn], by rw [Nat.pow_zero, Nat.mul_one]; unfold val rung; rw [if_pos h1]⟩
  · rw [if_neg h1, if_pos h]
    exact ⟨_, _, rfl, by simp [val, rung, if_neg h1]⟩
theorem read_inf (x : Nat) (h : rung x = infR) : double.read x = .infinity (sgn x) := by
  unfold Format.read
  have hs : double.signWeight = 2 ^ 63 := rfl
  have hb : double.binade = 2 ^ 52 := rfl
  have hi : double.infRung = infR := rfl
  simp only [hs, hb, hi]
  unfold rung at h
  rw [h, if_neg (by decide), if_neg (by omega), if_pos rfl]
  rfl
theorem read_nan (x : Nat) (h : ¬ Real x) : ∃ s f, double.read x = .nan s f := by
  unfold Format.read
  have hs : double.signWeight = 2 ^ 63 := rfl
  have hb : double.binade = 2 ^ 52 := rfl
  have hi : double.infRung = infR := rfl
  simp only [hs, hb, hi]
  unfold Real rung at h
  have : infR = 2047 * 2 ^ 52 := rfl
  rw [if_neg (by omega), if_neg (by omega), if_neg (by omega)]
  exact ⟨_, _, rfl⟩
theorem signed_mul (s : Bool) (m a c : Nat) (h : c ≤ a) : signed s m (a - c) * ((2 ^ c : Nat) : Int) = sg s (m * 2 ^ a) := by
  have e : m <<< (a - c) * 2 ^ c = m * 2 ^ a := by
    rw [Nat.shiftLeft_eq, Nat.mul_assoc, ← Nat.pow_add, Nat.sub_add_cancel h]
  unfold signed sg
  cases s
  · simp only [Bool.false_eq_true, if_false]; rw [← Int.natCast_mul, e]
  · simp only [if_true]; rw [← e, Int.natCast_mul, Int.neg_mul]
theorem cmp_mul (a b : Int) (p : Nat) (h : 0 < p) : compare (a * (p : Int)) (b * (p : Int)) = compare a b := by
  have hp : (0 : Int) < p := by omega
  have h1 : a * (p : Int) < b * p ↔ a < b := Int.mul_lt_mul_right hp
  have h2 : a * (p : Int) = b * p ↔ a = b := Int.mul_eq_mul_right_iff (by omega)
  simp only [compare, compareOfLessAndEq, h1, h2]
theorem sg_lt (s t : Bool) (m n : Nat) : sg s (val m) < sg t (val n) ↔ sg s m < sg t n := by
  have h1 := @val_lt_iff m n
  have h2 := @val_lt_iff n m
  have h3 := @val_lt_iff 0 n
  have h4 := @val_lt_iff 0 m
  rw [val_zero] at h3 h4
  unfold sg
  cases s <;> cases t <;> simp only [Bool.false_eq_true, if_false, if_true] <;> omega
theorem sg_eq (s t : Bool) (m n : Nat) : sg s (val m) = sg t (val n) ↔ sg s m = sg t n := by
  have h1 := sg_lt s t m n
  have h2 := sg_lt t s n m
  omega
theorem order_nan_left (x y : Nat) (h : ¬ Real x) : double.order x y = none := by
  obtain ⟨s, f, e⟩ := read_nan x h
  unfold Format.order
  rw [e]; rfl
theorem order_nan_right (x y : Nat) (h : ¬ Real y) : double.order x y = none := by
  obtain ⟨s, f, e⟩ := read_nan y h
  unfold Format.order
  rw [e]; cases double.read x <;> rfl
theorem cmp_lt {a b : Int} (h : a < b) : compare a b = .lt := by simp only [compare, compareOfLessAndEq, if_pos h]
theorem cmp_gt {a b : Int} (h : b < a) : compare a b = .gt := by simp only [compare, compareOfLessAndEq]; rw [if_neg (by omega), if_neg (by omega)]
theorem cmp_eq {a b : Int} (h : a = b) : compare a b = .eq := by simp only [compare, compareOfLessAndEq]; rw [if_neg (by omega), if_pos h]
theorem order_key (x y : Nat) (hx : Real x) (hy : Real y) : double.order x y = some (compare (key x) (key y)) := by
  unfold Format.order
  unfold Real at hx hy
  have hpos : 0 < infR := by decide
  by_cases h1 : rung x < infR
  · obtain ⟨m, a, e1, v1⟩ := read_num x h1
    by_cases h2 : rung y < infR
    · obtain ⟨n, b, e2, v2⟩ := read_num y h2
      rw [e1, e2]
      unfold Datum.order
      dsimp only
      have q1 : ((double.leastPlace + (a : Nat)) - min (double.leastPlace + (a : Nat)) (double.leastPlace + (b : Nat))).toNat = a - min a b := by omega
      have q2 : ((double.leastPlace + (b : Nat)) - min (double.leastPlace + (a : Nat)) (double.leastPlace + (b : Nat))).toNat = b - min a b := by omega
      rw [q1, q2, ← cmp_mul _ _ (2 ^ min a b) (Nat.two_pow_pos _), signed_mul _ _ _ _ (by omega), signed_mul _ _ _ _ (by omega), v1, v2]
      unfold key
      simp only [compare, compareOfLessAndEq, sg_lt, sg_eq]
    · have h3 : rung y = infR := by omega
      rw [e1, read_inf y h3]
      unfold Datum.order
      dsimp only
      unfold key sg
      rw [h3]
      cases sgn y <;> cases sgn x <;> simp only [Bool.false_eq_true, if_false, if_true] <;> first | rw [cmp_lt (by omega)] | rw [cmp_gt (by omega)]
  · have h4 : rung x = infR := by omega
    rw [read_inf x h4]
    by_cases h2 : rung y < infR
    · obtain ⟨n, b, e2, v2⟩ := read_num y h2
      rw [e2]
      unfold Datum.order
      dsimp only
      unfold key sg
      rw [h4]
      cases sgn y <;> cases sgn x <;> simp only [Bool.false_eq_true, if_false, if_true] <;> first | rw [cmp_lt (by omega)] | rw [cmp_gt (by omega)]
    · have h3 : rung y = infR := by omega
      rw [read_inf y h3]
      unfold Datum.order
      dsimp only
      unfold key sg
      rw [h3, h4]
      cases sgn y <;> cases sgn x <;> simp only [Bool.false_eq_true, if_false, if_true] <;> first | rfl | rw [cmp_lt (by omega)] | rw [cmp_gt (by omega)] | rw [cmp_eq (by omega)]
  all_goals rfl
end Ieee
/- What Log2 comes to: how the number is brought between 1 and 2, and the fifty-two squarings. No program in sight. -/
namespace Ieee
set_option linter.unusedVariables false
def ONE : Nat := 1023 * 2 ^ 52
def TWO : Nat := 1024 * 2 ^ 52
theorem rung_word (neg : Bool) (r : Nat) (h : r ≤ infR) : rung (double.word neg r) = r := by
  have h1 : double.signWeight = 2 ^ 63 := rfl
  have h2 : infR = 2047 * 2 ^ 52 := rfl
  unfold rung Format.word
  rw [h1]
  split <;> omega
theorem real_word (neg : Bool) (r : Nat) (h : r ≤ infR) : Real (double.word neg r) := by
  unfold Real; rw [rung_word _ _ h]; exact h
theorem real_nearest (neg : Bool) (m : Nat) (p : Int) : Real (double.nearest neg m p) := by
  unfold Format.nearest
  split
  · exact real_word _ _ (Nat.zero_le _)
  · exact real_word _ _ (Nat.min_le_right _ _)
theorem real_inf (neg : Bool) : Real (double.write (.infinity neg)) := real_word _ _ (Nat.le_refl _)
theorem real_cases (x : Nat) (h : Real x) : (∃ m p, double.read x = .number (sgn x) m p) ∨ double.read x = .infinity (sgn x) := by
  unfold Real at h
  by_cases h1 : rung x < infR
  · obtain ⟨m, k, e, _⟩ := read_num x h1
    exact .inl ⟨_, _, e⟩
  · exact .inr (read_inf x (by omega))
theorem mul_self (x : Nat) (h : Real x) : ∃ r, double.mul x x = some r ∧ Real r := by
  unfold Format.mul
  rcases real_cases x h with ⟨m, p, e⟩ | e
  · rw [e]; exact ⟨_, rfl, real_nearest _ _ _⟩
  · rw [e]; exact ⟨_, rfl, real_inf _⟩
theorem read_two : ∃ p, double.read TWO = .number false (2 ^ 52) p := by
  have := read_normal 1024 0 (by omega) (by omega) (by omega)
  exact ⟨_, this⟩
theorem div_two (x : Nat) (h : Real x) : ∃ r, double.div x TWO = some r ∧ Real r := by
  unfold Format.div
  obtain ⟨q, e2⟩ := read_two
  rw [e2]
  rcases real_cases x h with ⟨m, p, e⟩ | e
  · rw [e]
    unfold Datum.quotient
    dsimp only
    rw [if_neg (by decide)]
    exact ⟨_, rfl, real_nearest _ _ _⟩
  · rw [e]; exact ⟨_, rfl, real_inf _⟩
theorem add_fin (x y : Nat) (h : Real x) (hy : rung y < infR) : ∃ r, double.add x y = some r ∧ Real r := by
  unfold Format.add
  obtain ⟨n, k, e2, _⟩ := read_num y hy
  rw [e2]
  rcases real_cases x h with ⟨m, p, e⟩ | e
  · rw [e]; exact ⟨_, rfl, real_nearest _ _ _⟩
  · rw [e]; exact ⟨_, rfl, real_inf _⟩
/-- is a float 2 at least? -/
def ge2 (m : Nat) : Bool := double.order m TWO == some .gt || double.order m TWO == some .eq
/-- one round of Log2's: the number, the logarithm so far, the step -/
def ls (t : Nat × Nat × Nat) : Nat × Nat × Nat :=
  if ge2 ((double.mul t.1 t.1).getD 0) then ((double.div ((double.mul t.1 t.1).getD 0) TWO).getD 0, (double.add t.2.1 ((double.div t.2.2 TWO).getD 0)).getD 0, (double.div t.2.2 TWO).getD 0)
  else ((double.mul t.1 t.1).getD 0, t.2.1, (double.div t.2.2 TWO).getD 0)
def lsN : Nat → Nat × Nat × Nat → Nat × Nat × Nat
  | 0, t => t
  | n + 1, t => ls (lsN n t)
/-- what holds after k rounds -/
def LsOk (k : Nat) (t : Nat × Nat × Nat) : Prop := Real t.1 ∧ Real t.2.1 ∧ t.2.2 = (1023 - k) * 2 ^ 52
theorem ls_step (k : Nat) (hk : k < 52) (t : Nat × Nat × Nat) (h : LsOk k t) : ∃ m s, double.mul t.1 t.1 = some m ∧ double.div t.2.2 TWO = some s ∧
    ((ge2 m = true ∧ ∃ m2 y, double.div m TWO = some m2 ∧ double.add t.2.1 s = some y ∧ ls t = (m2, y, s)) ∨ (ge2 m = false ∧ ls t = (m, t.2.1, s))) ∧ LsOk (k + 1) (ls t) := by
  obtain ⟨h1, h2, h3⟩ := h
  obtain ⟨m, e1, r1⟩ := mul_self _ h1
  have e2 : double.div t.2.2 TWO = some ((1023 - (k + 1)) * 2 ^ 52) := by
    rw [h3]
    have := halve (1023 - k) 0 (by omega) (by omega) (by omega)
    rw [Nat.add_zero, Nat.add_zero] at this
    exact this.trans (by rw [show 1023 - k - 1 = 1023 - (k + 1) by omega])
  have hs : rung ((1023 - (k + 1)) * 2 ^ 52) < infR := by
    unfold rung infR
    omega
  obtain ⟨m2, e3, r3⟩ := div_two _ r1
  obtain ⟨y, e4, r4⟩ := add_fin _ _ h2 hs
  refine ⟨m, _, e1, e2, ?_⟩
  unfold ls
  rw [e1, e2]
  simp only [Option.getD_some]
  rw [e3, e4]
  cases hg : ge2 m
  · exact ⟨.inr ⟨rfl, rfl⟩, r1, h2, rfl⟩
  · exact ⟨.inl ⟨rfl, m2, y, rfl, rfl, rfl⟩, r3, r4, rfl⟩
theorem lsN_ok (t : Nat × Nat × Nat) (h : LsOk 0 t) : ∀ k, k ≤ 52 → LsOk k (lsN k t)
  | 0, _ => h
  | k + 1, hk => (ls_step k (by omega) _ (lsN_ok t h k (by omega))).elim fun _ h => h.elim fun _ h => h.2.2.2
/-- how often one of the least is doubled till it is a normal one -/
def lgK (b : Nat) : Nat := 52 - b.log2
theorem lgK_lo (b : Nat) (h0 : 0 < b) (hb : b < 2 ^ 52) (i : Nat) (hi : i < lgK b) : 2 ^ i * b < 2 ^ 52 := by
  unfold lgK at hi
  have h1 : b < 2 ^ (b.log2 + 1) := Nat.lt_log2_self
  have h2 : 2 ^ i * b < 2 ^ i * 2 ^ (b.log2 + 1) := Nat.mul_lt_mul_of_pos_left h1 (Nat.two_pow_pos _)
  rw [← Nat.pow_add] at h2
  exact Nat.lt_of_lt_of_le h2 (Nat.pow_le_pow_right (by omega) (by omega))
theorem lgK_hi (b : Nat) (h0 : 0 < b) (hb : b < 2 ^ 52) : 2 ^ 52 ≤ 2 ^ lgK b * b ∧ 2 ^ lgK b * b < 2 ^ 53 := by
  unfold lgK
  have h1 : b < 2 ^ (b.log2 + 1) := Nat.lt_log2_self
  have h3 : 2 ^ b.log2 ≤ b := Nat.log2_self_le (by omega)
  have h4 : b.log2 < 52 := (Nat.log2_lt (by omega)).2 hb
  have h2 : 2 ^ (52 - b.log2) * b < 2 ^ (52 - b.log2) * 2 ^ (b.log2 + 1) := Nat.mul_lt_mul_of_pos_left h1 (Nat.two_pow_pos _)
  have h5 : 2 ^ (52 - b.log2) * 2 ^ b.log2 ≤ 2 ^ (52 - b.log2) * b := Nat.mul_le_mul_left _ h3
  rw [← Nat.pow_add] at h2 h5
  rw [show 52 - b.log2 + (b.log2 + 1) = 53 by omega] at h2
  rw [show 52 - b.log2 + b.log2 = 52 by omega] at h5
  exact ⟨h5, h2⟩
theorem lgK_pos (b : Nat) (h0 : 0 < b) (hb : b < 2 ^ 52) : 0 < lgK b ∧ lgK b ≤ 52 := by
  unfold lgK
  have h4 : b.log2 < 52 := (Nat.log2_lt (by omega)).2 hb
  omega
/-- the power of two, and the fraction, of a positive number -/
def lgE (x : Nat) : Int := if x < 2 ^ 52 then -((lgK x : Int) + 1022) else (x / 2 ^ 52 : Nat) - 1023
def lgF (x : Nat) : Nat := if x < 2 ^ 52 then 2 ^ lgK x * x - 2 ^ 52 else x % 2 ^ 52
theorem lgF_lt (x : Nat) (h0 : 0 < x) : lgF x < 2 ^ 52 := by
  unfold lgF
  split
  · rename_i h
    have := lgK_hi x h0 h
    omega
  · omega
/-- the document's way up: doubled n times -/
def up (x n : Nat) : Nat := if n ≤ lgK x then 2 ^ n * x else (n - lgK x + 1) * 2 ^ 52 + lgF x
theorem up_step (x : Nat) (h0 : 0 < x) (hx : x < 2 ^ 52) (n : Nat) (hn : n < lgK x + 1022) : double.mul (up x n) TWO = some (up x (n + 1)) ∧ 0 < up x n ∧ up x n < ONE := by
  have hF := lgF_lt x h0
  have hH := lgK_hi x h0 hx
  have hE : lgF x = 2 ^ lgK x * x - 2 ^ 52 := by unfold lgF; rw [if_pos hx]
  unfold up ONE
  by_cases h1 : n < lgK x
  · have hl := lgK_lo x h0 hx n h1
    have hp : 0 < 2 ^ n * x := Nat.mul_pos (Nat.two_pow_pos _) h0
    rw [if_pos (by omega), if_pos (by omega)]
    refine ⟨?_, hp, by omega⟩
    rw [Nat.pow_succ, Nat.mul_comm (2 ^ n) 2, Nat.mul_assoc]
    exact dbl_least _ hp hl
  · rw [if_neg (show ¬ n + 1 ≤ lgK x by omega)]
    have e : (if n ≤ lgK x then 2 ^ n * x else (n - lgK x + 1) * 2 ^ 52 + lgF x) = (n - lgK x + 1) * 2 ^ 52 + lgF x := by
      split
      · have : n = lgK x := by omega
        subst this
        rw [hE]
        omega
      · rfl
    rw [e]
    have := dbl (n - lgK x + 1) (lgF x) (by omega) (by omega) hF
    refine ⟨this.trans (by rw [show n + 1 - lgK x + 1 = n - lgK x + 1 + 1 by omega]), by omega, by omega⟩
theorem up_end (x : Nat) (h0 : 0 < x) (hx : x < 2 ^ 52) : up x (lgK x + 1022) = ONE + lgF x := by
  unfold up ONE
  rw [if_neg (by omega)]
  omega
/-- a word with its sign off, below infinity, above nought -/
theorem real_pos (x : Nat) (h : x ≤ infR) : Real x ∧ sgn x = false ∧ rung x = x ∧ key x = x := by
  have h2 : infR = 2047 * 2 ^ 52 := rfl
  have e1 : rung x = x := by unfold rung; omega
  have e2 : sgn x = false := by
    unfold sgn
    rw [Nat.div_eq_of_lt (by omega)]
    rfl
  exact ⟨by unfold Real; omega, e2, e1, by unfold key sg; rw [e1, e2]; rfl⟩
theorem order_pos (x y : Nat) (hx : x ≤ infR) (hy : y ≤ infR) : double.order x y = some (compare (x : Int) (y : Int)) := by
  rw [order_key x y (real_pos x hx).1 (real_pos y hy).1, (real_pos x hx).2.2.2, (real_pos y hy).2.2.2]
theorem order_lt (x y : Nat) (hy : y ≤ infR) (h : x < y) : double.order x y = some .lt := by
  rw [order_pos x y (by omega) hy, cmp_lt (by omega)]
theorem order_gt (x y : Nat) (hx : x ≤ infR) (h : y < x) : double.order x y = some .gt := by
  rw [order_pos x y hx (by omega), cmp_gt (by omega)]
theorem order_self (x : Nat) (hx : Real x) : double.order x x = some .eq := by
  rw [order_key x x hx hx, cmp_eq rfl]
end Ieee
