/- A positive normal float halved, and doubled: its bits. No program in sight. -/
import Ieee.Arith
namespace Ieee
theorem cut_exact (neg : Bool) (n d : Nat) (hn : 0 < n) : Toward.even.cut neg (n * 2 ^ d) d = n := by
  have h1 : d ≤ (n * 2 ^ d).log2 := (Nat.le_log2 (by have := Nat.two_pow_pos d; exact Nat.ne_of_gt (Nat.mul_pos hn this))).2 (Nat.le_mul_of_pos_left _ hn)
  unfold Toward.cut
  have h2 : min d ((n * 2 ^ d).log2 + 2) = d := by omega
  have hp := Nat.two_pow_pos d
  simp only [h2, Nat.shiftLeft_eq, Nat.one_mul]
  rw [Nat.mul_div_cancel _ hp, Nat.mul_mod_left]
  have : (2 ^ d == 0) = false := by rw [beq_eq_false_iff_ne]; omega
  simp
/-- a normal number's word, written again with more digits behind it -/
theorem nearest_more (m : Nat) (h0 : 2 ^ 52 ≤ m) (h1 : m < 2 ^ 53) (e d : Nat) (he : e < 2046) :
    double.nearest false (m * 2 ^ d) (double.leastPlace + e - d) = e * 2 ^ 52 + m := by
  have hp := Nat.two_pow_pos d
  have hl : (m * 2 ^ d).log2 = 52 + d := by
    have h2 : m * 2 ^ d ≠ 0 := Nat.ne_of_gt (Nat.mul_pos (by omega) hp)
    refine (Nat.log2_eq_iff h2).2 ⟨?_, ?_⟩
    · rw [Nat.pow_add]; exact Nat.mul_le_mul_right _ h0
    · rw [show 52 + d + 1 = 53 + d by omega, Nat.pow_add]; exact Nat.mul_lt_mul_of_pos_right h1 hp
  unfold Format.nearest
  rw [if_neg (Nat.ne_of_gt (Nat.mul_pos (by omega) hp)), hl]
  have e1 : max (double.leastPlace + e - d + ((52 + d : Nat) : Int) - (double.fractionBits : Nat)) double.leastPlace = double.leastPlace + e := by
    have hF : double.fractionBits = 52 := rfl
    rw [hF]
    omega
  dsimp only
  rw [e1]
  have e2 : (double.leastPlace + e - d - (double.leastPlace + e)).toNat = 0 := by omega
  have e3 : (double.leastPlace + e - (double.leastPlace + e - d)).toNat = d := by omega
  have e4 : (double.leastPlace + e - double.leastPlace).toNat = e := by omega
  rw [e2, e3, e4, Nat.shiftLeft_zero, cut_exact false m d (by omega)]
  have hb : double.binade = 2 ^ 52 := rfl
  have hi : double.infRung = 2047 * 2 ^ 52 := rfl
  simp only [Format.word, hb, hi]
  rw [if_neg (by decide)]
  exact Nat.min_eq_left (by omega)
/-- a positive normal word, read -/
theorem read_normal (e f : Nat) (he : 1 ≤ e) (he2 : e < 2047) (hf : f < 2 ^ 52) : double.read (e * 2 ^ 52 + f) = .number false (2 ^ 52 + f) (double.leastPlace + (e - 1 : Nat)) := by
  unfold Format.read
  have hs : double.signWeight = 2 ^ 63 := rfl
  have hb : double.binade = 2 ^ 52 := rfl
  have hi : double.infRung = 2047 * 2 ^ 52 := rfl
  simp only [hs, hb, hi]
  have h1 : (e * 2 ^ 52 + f) % 2 ^ 63 = e * 2 ^ 52 + f := Nat.mod_eq_of_lt (by omega)
  have h2 : (e * 2 ^ 52 + f) / 2 ^ 63 = 0 := Nat.div_eq_of_lt (by omega)
  have h3 : (e * 2 ^ 52 + f) % 2 ^ 52 = f := by omega
  have h4 : (e * 2 ^ 52 + f) / 2 ^ 52 = e := by omega
  rw [h1, h2, h3, h4, if_neg (by omega), if_pos (by omega)]
  rfl
/-- LEMMA 1: halved -/
theorem halve (e f : Nat) (he : 2 ≤ e) (he2 : e < 2047) (hf : f < 2 ^ 52) : double.div (e * 2 ^ 52 + f) (1024 * 2 ^ 52) = some ((e - 1) * 2 ^ 52 + f) := by
  unfold Format.div
  have h2 := read_normal 1024 0 (by omega) (by omega) (by omega)
  rw [Nat.add_zero] at h2
  rw [read_normal e f (by omega) he2 hf, h2]
  have hl : (2 ^ 52 + f).log2 = 52 := (Nat.log2_eq_iff (by omega)).2 ⟨by omega, by omega⟩
  have hl2 : (2 ^ 52 + 0).log2 = 52 := (Nat.log2_eq_iff (by omega)).2 ⟨by omega, by omega⟩
  have hF : double.fractionBits + 2 = 54 := rfl
  unfold Datum.quotient
  dsimp only
  rw [if_neg (by omega), hl, hl2, hF]
  simp only [Option.map_some, Option.some.injEq, Format.write, Nat.shiftLeft_eq]
  have e1 : (2 ^ 52 + f) * 2 ^ (54 + 52 - 52) / (2 ^ 52 + 0) = (2 ^ 52 + f) * 4 := by
    rw [Nat.add_zero, show 54 + 52 - 52 = 2 + 52 by rfl, Nat.pow_add, ← Nat.mul_assoc, Nat.mul_div_cancel _ (by omega)]
  have e2 : (2 ^ 52 + f) * 2 ^ (54 + 52 - 52) % (2 ^ 52 + 0) = 0 := by
    rw [Nat.add_zero, show 54 + 52 - 52 = 2 + 52 by rfl, Nat.pow_add, ← Nat.mul_assoc, Nat.mul_mod_left]
  rw [e1, e2]
  have := nearest_more (2 ^ 52 + f) (by omega) (by omega) (e - 2) 3 (by omega)
  have e3 : 2 * ((2 ^ 52 + f) * 4) + ((0 : Nat) != 0).toNat = (2 ^ 52 + f) * 2 ^ 3 := by
    show 2 * ((2 ^ 52 + f) * 4) + 0 = _
    omega
  have e4 : double.leastPlace + ((e - 1 : Nat) : Int) - (double.leastPlace + ((1024 - 1 : Nat) : Int)) - ((54 + 52 - 52 : Nat) : Int) - 1 = double.leastPlace + ((e - 2 : Nat) : Int) - ((3 : Nat) : Int) := by
    show _ - ((-1074 : Int) + 1023) - 54 - 1 = _
    omega
  rw [e3, e4]
  rw [show (false ^^ false) = false from rfl, this]
  omega
/-- LEMMA 2: doubled -/
theorem dbl (e f : Nat) (he : 1 ≤ e) (he2 : e < 2046) (hf : f < 2 ^ 52) : double.mul (e * 2 ^ 52 + f) (1024 * 2 ^ 52) = some ((e + 1) * 2 ^ 52 + f) := by
  unfold Format.mul
  have h2 := read_normal 1024 0 (by omega) (by omega) (by omega)
  rw [Nat.add_zero] at h2
  rw [read_normal e f he (by omega) hf, h2]
  unfold Datum.product
  dsimp only
  simp only [Option.map_some, Option.some.injEq, Format.write]
  have := nearest_more (2 ^ 52 + f) (by omega) (by omega) e 52 he2
  have e4 : double.leastPlace + ((e - 1 : Nat) : Int) + (double.leastPlace + ((1024 - 1 : Nat) : Int)) = double.leastPlace + (e : Int) - ((52 : Nat) : Int) := by
    have h : double.leastPlace = -1074 := rfl
    rw [h]
    omega
  rw [e4, Nat.add_zero]
  rw [show (false ^^ false) = false from rfl, this]
  omega
/-- the least ones, doubled -/
theorem dbl_least (b : Nat) (h0 : 0 < b) (hb : b < 2 ^ 52) : double.mul b (1024 * 2 ^ 52) = some (2 * b) := by
  unfold Format.mul
  have h2 := read_normal 1024 0 (by omega) (by omega) (by omega)
  rw [Nat.add_zero] at h2
  have h3 : double.read b = .number false b double.leastPlace := by
    unfold Format.read
    have hs : double.signWeight = 2 ^ 63 := rfl
    have hbn : double.binade = 2 ^ 52 := rfl
    simp only [hs, hbn]
    have e1 : b % 2 ^ 63 = b := Nat.mod_eq_of_lt (by omega)
    have e2 : b / 2 ^ 63 = 0 := Nat.div_eq_of_lt (by omega)
    rw [e1, e2, if_pos hb]
    rfl
  rw [h3, h2]
  unfold Datum.product
  dsimp only
  simp only [Option.map_some, Option.some.injEq, Format.write]
  have e5 : b * (2 ^ 52 + 0) = 2 * b * 2 ^ 51 := by omega
  have hl : (2 * b * 2 ^ 51).log2 < 104 := (Nat.log2_lt (by omega)).2 (by omega)
  have h : double.leastPlace = -1074 := rfl
  have hF : double.fractionBits = 52 := rfl
  rw [e5, show (false ^^ false) = false from rfl]
  unfold Format.nearest
  rw [if_neg (by omega), h, hF]
  have e1 : max ((-1074 : Int) + (-1074 + ((1024 - 1 : Nat) : Int)) + ((2 * b * 2 ^ 51).log2 : Nat) - ((52 : Nat) : Int)) (-1074) = -1074 := by omega
  dsimp only
  rw [e1]
  have e2 : ((-1074 : Int) + (-1074 + ((1024 - 1 : Nat) : Int)) - -1074).toNat = 0 := by omega
  have e3 : ((-1074 : Int) - (-1074 + (-1074 + ((1024 - 1 : Nat) : Int)))).toNat = 51 := by omega
  have e4 : ((-1074 : Int) - -1074).toNat = 0 := by omega
  rw [e2, e3, e4, Nat.shiftLeft_zero, cut_exact false (2 * b) 51 (by omega)]
  have hi : double.infRung = 2047 * 2 ^ 52 := rfl
  simp only [Format.word, hi, Nat.zero_mul, Nat.zero_add]
  rw [if_neg (by decide)]
  exact Nat.min_eq_left (by omega)
end Ieee
