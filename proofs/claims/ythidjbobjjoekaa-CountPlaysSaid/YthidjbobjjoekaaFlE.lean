/- Log2 rises with doubling, and is the power at powers of two: the numbers alone. No program in sight. -/
import Derived.Test.YthidjbobjjoekaaFlD
namespace Ieee
set_option linter.unusedVariables false
def intF (n : Int) : Nat := double.nearest (decide (n < 0)) n.natAbs 0
theorem intF_key (n : Int) : key (intF n) = sR (n * ((2 ^ 1074 : Nat) : Int)) := by
  unfold intF
  have h : (0 : Int) = double.leastPlace + ((1074 : Nat) : Int) := rfl
  rw [h, nearest_R, key_word _ _ (R_le _)]
  have hp : (0 : Int) < ((2 ^ 1074 : Nat) : Int) := by have := Nat.two_pow_pos 1074; omega
  generalize ((2 ^ 1074 : Nat)) = P at *
  unfold sR
  rw [Int.natAbs_mul, Int.natAbs_natCast]
  have hs : (n < 0) ↔ (n * (P : Int) < 0) := by
    constructor
    · intro h; exact Int.mul_neg_of_neg_of_pos h hp
    · intro h
      rcases Int.lt_trichotomy n 0 with h1 | h1 | h1
      · exact h1
      · rw [h1] at h; simp at h
      · have := Int.mul_pos h1 hp; omega
  simp only [← hs]
  rfl
theorem intF_mono {m n : Int} (h : m ≤ n) : key (intF m) ≤ key (intF n) := by
  rw [intF_key, intF_key]
  exact sR_mono (Int.mul_le_mul_of_nonneg_right h (by omega))
theorem intF_real (n : Int) : Real (intF n) := real_nearest _ _ _
theorem lsN_mono (m y y' s : Nat) (h : LsOk 0 (m, y, s)) (h' : LsOk 0 (m, y', s)) (hk : key y ≤ key y') : ∀ k, k ≤ 52 →
    (lsN k (m, y, s)).1 = (lsN k (m, y', s)).1 ∧ (lsN k (m, y, s)).2.2 = (lsN k (m, y', s)).2.2 ∧ key (lsN k (m, y, s)).2.1 ≤ key (lsN k (m, y', s)).2.1
  | 0, _ => ⟨rfl, rfl, hk⟩
  | k + 1, hle => by
    obtain ⟨e1, e2, e3⟩ := lsN_mono m y y' s h h' hk k (by omega)
    have o1 := lsN_ok _ h k (by omega)
    have o2 := lsN_ok _ h' k (by omega)
    obtain ⟨p, q, a1, a2, a3, _⟩ := ls_step k (by omega) _ o1
    obtain ⟨p', q', b1, b2, b3, _⟩ := ls_step k (by omega) _ o2
    show (ls (lsN k (m, y, s))).1 = (ls (lsN k (m, y', s))).1 ∧ (ls (lsN k (m, y, s))).2.2 = (ls (lsN k (m, y', s))).2.2 ∧ key (ls (lsN k (m, y, s))).2.1 ≤ key (ls (lsN k (m, y', s))).2.1
    rw [e1, b1] at a1
    rw [e2, b2] at a2
    cases a1
    cases a2
    have hq : rung q < infR := by
      have h3 := o1.2.2
      rw [← e2] at b2
      rw [h3] at b2
      have := halve (1023 - k) 0 (by omega) (by omega) (by omega)
      rw [Nat.add_zero, Nat.add_zero] at this
      have e4 : double.div ((1023 - k) * 2 ^ 52) TWO = some ((1023 - k - 1) * 2 ^ 52) := this
      rw [e4] at b2
      cases b2
      unfold rung infR
      omega
    rcases a3 with ⟨g, m2, y1, c1, c2, c3⟩ | ⟨g, c3⟩
    · rcases b3 with ⟨g', m2', y1', d1, d2, d3⟩ | ⟨g', d3⟩
      · rw [c1] at d1
        cases d1
        rw [c3, d3]
        obtain ⟨r, r', f1, f2, _, _, f3⟩ := add_mono _ _ q o1.2.1 o2.2.1 hq e3
        rw [c2] at f1
        rw [d2] at f2
        cases f1
        cases f2
        exact ⟨rfl, rfl, f3⟩
      · rw [g] at g'; cases g'
    · rcases b3 with ⟨g', m2', y1', d1, d2, d3⟩ | ⟨g', d3⟩
      · rw [g] at g'; cases g'
      · rw [c3, d3]
        exact ⟨rfl, rfl, e3⟩
/-- of a number between 1 and 2 that is 1 nothing is added -/
theorem lsN_one (y s : Nat) : ∀ k, (lsN k (ONE, y, s)).1 = ONE ∧ (lsN k (ONE, y, s)).2.1 = y
  | 0 => ⟨rfl, rfl⟩
  | k + 1 => by
    obtain ⟨h1, h2⟩ := lsN_one y s k
    have hm : double.mul ONE ONE = some ONE := by decide +kernel
    have hg : ge2 ONE = false := by decide +kernel
    show (ls (lsN k (ONE, y, s))).1 = ONE ∧ (ls (lsN k (ONE, y, s))).2.1 = y
    unfold ls
    rw [h1, hm]
    simp only [Option.getD_some, hg, Bool.false_eq_true, if_false]
    exact ⟨trivial, h2⟩
/-- doubled, as the logarithm sees it -/
theorem lg_dbl (x : Nat) (h0 : 0 < x) (hx : x < 2046 * 2 ^ 52) : ∃ r, double.mul x TWO = some r ∧ 0 < r ∧ r < infR ∧ lgE r = lgE x + 1 ∧ lgF r = lgF x := by
  have hi : infR = 2047 * 2 ^ 52 := rfl
  by_cases h1 : x < 2 ^ 52
  · refine ⟨2 * x, dbl_least x h0 h1, by omega, by omega, ?_, ?_⟩
    · by_cases h2 : 2 * x < 2 ^ 52
      · unfold lgE
        rw [if_pos h1, if_pos h2]
        have hl : (2 * x).log2 = x.log2 + 1 := by
          have a := Nat.log2_self_le (n := x) (by omega)
          have b := Nat.lt_log2_self (n := x)
          refine (Nat.log2_eq_iff (by omega)).2 ⟨?_, ?_⟩
          · rw [Nat.pow_succ]; omega
          · rw [Nat.pow_succ]; omega
        have h4 : x.log2 + 1 < 52 := by rw [← hl]; exact (Nat.log2_lt (by omega)).2 h2
        unfold lgK
        rw [hl]
        omega
      · have hK : lgK x = 1 := by
          have a := lgK_pos x h0 h1
          rcases Nat.lt_or_ge 1 (lgK x) with h | h
          · have := lgK_lo x h0 h1 1 h; omega
          · omega
        unfold lgE
        rw [if_pos h1, if_neg h2, hK]
        omega
    · by_cases h2 : 2 * x < 2 ^ 52
      · unfold lgF
        rw [if_pos h1, if_pos h2]
        have hl : (2 * x).log2 = x.log2 + 1 := by
          have a := Nat.log2_self_le (n := x) (by omega)
          have b := Nat.lt_log2_self (n := x)
          refine (Nat.log2_eq_iff (by omega)).2 ⟨?_, ?_⟩
          · rw [Nat.pow_succ]; omega
          · rw [Nat.pow_succ]; omega
        have h4 : x.log2 + 1 < 52 := by rw [← hl]; exact (Nat.log2_lt (by omega)).2 h2
        unfold lgK
        have hm : 2 ^ (52 - (x.log2 + 1)) * (2 * x) = 2 ^ (52 - x.log2) * x := by
          rw [show 52 - x.log2 = (52 - (x.log2 + 1)) + 1 by omega, Nat.pow_succ, Nat.mul_assoc]
        rw [hl, hm]
      · have hK : lgK x = 1 := by
          have a := lgK_pos x h0 h1
          rcases Nat.lt_or_ge 1 (lgK x) with h | h
          · have := lgK_lo x h0 h1 1 h; omega
          · omega
        unfold lgF
        rw [if_pos h1, if_neg h2, hK]
        omega
  · have hd := dbl (x / 2 ^ 52) (x % 2 ^ 52) (by omega) (by omega) (Nat.mod_lt _ (by omega))
    have e : x / 2 ^ 52 * 2 ^ 52 + x % 2 ^ 52 = x := by omega
    rw [e] at hd
    refine ⟨_, hd, by omega, by omega, ?_, ?_⟩
    · unfold lgE
      rw [if_neg h1, if_neg (by omega)]
      omega
    · unfold lgF
      rw [if_neg h1, if_neg (by omega)]
      omega
theorem top_R : infR ≤ R ((2 ^ 52) * 2 ^ (52 + 1994)) := by decide +kernel
theorem dbl_top (x : Nat) (h : 2046 * 2 ^ 52 ≤ x) (hx : x < infR) : double.mul x TWO = some infR := by
  have hi : infR = 2047 * 2 ^ 52 := rfl
  have h2 := read_normal 1024 0 (by omega) (by omega) (by omega)
  rw [Nat.add_zero] at h2
  have h1 := read_normal 2046 (x - 2046 * 2 ^ 52) (by omega) (by omega) (by omega)
  rw [show 2046 * 2 ^ 52 + (x - 2046 * 2 ^ 52) = x by omega] at h1
  unfold Format.mul TWO
  rw [h1, h2]
  unfold Datum.product
  dsimp only
  simp only [Option.map_some, Option.some.injEq, Format.write]
  generalize hf : x - 2046 * 2 ^ 52 = f
  have hfl : f < 2 ^ 52 := by omega
  obtain ⟨N, hN⟩ : ∃ N : Nat, N = 1994 := ⟨_, rfl⟩
  have e4 : double.leastPlace + ((2046 - 1 : Nat) : Int) + (double.leastPlace + ((1024 - 1 : Nat) : Int)) = double.leastPlace + (N : Int) := by
    have h : double.leastPlace = -1074 := rfl
    rw [h]; omega
  have hle : infR ≤ R ((2 ^ 52) * 2 ^ (52 + N)) := by rw [hN]; exact top_R
  rw [e4, show (false ^^ false) = false from rfl, nearest_R]
  have w : ∀ r, double.word false r = r := fun _ => rfl
  rw [w]
  have e5 : (2 ^ 52 + f) * (2 ^ 52 + 0) * 2 ^ N = (2 ^ 52 + f) * 2 ^ (52 + N) := by
    rw [Nat.add_zero, Nat.mul_assoc, ← Nat.pow_add]
  rw [e5]
  clear hN e4 e5
  have h6 : 2 ^ 52 * 2 ^ (52 + N) ≤ (2 ^ 52 + f) * 2 ^ (52 + N) := Nat.mul_le_mul_right _ (Nat.le_add_right _ _)
  have := R_mono h6
  exact Nat.le_antisymm (R_le _) (Nat.le_trans hle this)
theorem mul_zero (x : Nat) (h : rung x = 0) : ∃ r, double.mul x TWO = some r ∧ rung r = 0 := by
  obtain ⟨m, k, e, v⟩ := read_num x (by rw [h]; decide)
  have hm : m = 0 := by
    rw [h] at v
    have v' : m * 2 ^ k = 0 := v
    rcases Nat.mul_eq_zero.1 v' with h | h
    · exact h
    · have := Nat.two_pow_pos k; omega
  obtain ⟨q, e2⟩ := read_two
  unfold Format.mul
  rw [e, e2, hm]
  refine ⟨_, rfl, ?_⟩
  show rung (double.nearest _ (0 * 2 ^ 52) _) = 0
  rw [Nat.zero_mul]
  unfold Format.nearest
  rw [if_pos rfl]
  exact rung_word _ _ (Nat.zero_le _)
theorem mul_inf : double.mul infR TWO = some infR := by decide +kernel
/-- the float of a power of two -/
def powF (k : Int) : Nat := if -1022 ≤ k then (k + 1023).toNat * 2 ^ 52 else 2 ^ (k + 1074).toNat
theorem pow_lg (k : Int) (h1 : -1074 ≤ k) (h2 : k ≤ 1023) : 0 < powF k ∧ powF k < infR ∧ lgE (powF k) = k ∧ lgF (powF k) = 0 := by
  have hi : infR = 2047 * 2 ^ 52 := rfl
  by_cases h : -1022 ≤ k
  · obtain ⟨e, he⟩ : ∃ e : Nat, (k + 1023).toNat = e := ⟨_, rfl⟩
    have hp : powF k = e * 2 ^ 52 := by unfold powF; rw [if_pos h, he]
    rw [hp]
    refine ⟨by omega, by omega, ?_, ?_⟩
    · unfold lgE; rw [if_neg (by omega)]; omega
    · unfold lgF; rw [if_neg (by omega)]; omega
  · obtain ⟨e, he⟩ : ∃ e : Nat, (k + 1074).toNat = e := ⟨_, rfl⟩
    have hp : powF k = 2 ^ e := by unfold powF; rw [if_neg h, he]
    rw [hp]
    have hlt : 2 ^ e < 2 ^ 52 := Nat.pow_lt_pow_right (by omega) (by omega)
    have h0 := Nat.two_pow_pos e
    have hl : (2 ^ e).log2 = e := Nat.log2_two_pow
    have hK : lgK (2 ^ e) = 52 - e := by unfold lgK; rw [hl]
    refine ⟨h0, by omega, ?_, ?_⟩
    · unfold lgE; rw [if_pos hlt, hK]; omega
    · unfold lgF; rw [if_pos hlt, hK, ← Nat.pow_add, show 52 - e + e = 52 by omega]
/-- how math.Ldexp puts it together -/
theorem pow_mul1 (k : Int) (h1 : -1022 ≤ k) (h2 : k ≤ 1023) : double.mul ONE ((k + 1023).toNat * 2 ^ 52) = some (powF k) := by
  obtain ⟨e, he⟩ : ∃ e : Nat, (k + 1023).toNat = e := ⟨_, rfl⟩
  have hp : powF k = e * 2 ^ 52 := by unfold powF; rw [if_pos h1, he]
  rw [he, hp]
  have a1 := read_normal 1023 0 (by omega) (by omega) (by omega)
  have a2 := read_normal e 0 (by omega) (by omega) (by omega)
  rw [Nat.add_zero] at a1 a2
  unfold Format.mul ONE
  rw [a1, a2]
  unfold Datum.product
  dsimp only
  simp only [Option.map_some, Option.some.injEq, Format.write]
  have := nearest_more (2 ^ 52) (by omega) (by omega) (e - 1) 52 (by omega)
  have e4 : double.leastPlace + ((1023 - 1 : Nat) : Int) + (double.leastPlace + ((e - 1 : Nat) : Int)) = double.leastPlace + ((e - 1 : Nat) : Int) - ((52 : Nat) : Int) := by
    have h : double.leastPlace = -1074 := rfl
    rw [h]; omega
  rw [e4, show (false ^^ false) = false from rfl, Nat.add_zero, this]
  omega
theorem pow_mul2 (k : Int) (h1 : -1074 ≤ k) (h2 : k < -1022) : double.mul (970 * 2 ^ 52) ((k + 1076).toNat * 2 ^ 52) = some (powF k) := by
  obtain ⟨e, he⟩ : ∃ e : Nat, (k + 1074).toNat = e := ⟨_, rfl⟩
  have hp : powF k = 2 ^ e := by unfold powF; rw [if_neg (by omega), he]
  rw [show (k + 1076).toNat = e + 2 by omega, hp]
  have a1 := read_normal 970 0 (by omega) (by omega) (by omega)
  have a2 := read_normal (e + 2) 0 (by omega) (by omega) (by omega)
  rw [Nat.add_zero] at a1 a2
  unfold Format.mul
  rw [a1, a2]
  unfold Datum.product
  dsimp only
  simp only [Option.map_some, Option.some.injEq, Format.write]
  have hee : e < 52 := by omega
  have e4 : double.leastPlace + ((970 - 1 : Nat) : Int) + (double.leastPlace + ((e + 2 - 1 : Nat) : Int)) = double.leastPlace - ((104 - e : Nat) : Int) := by
    have h : double.leastPlace = -1074 := rfl
    rw [h]; omega
  rw [e4, show (false ^^ false) = false from rfl, Nat.add_zero]
  have e5 : (2 ^ 52 : Nat) * 2 ^ 52 = 2 ^ e * 2 ^ (104 - e) := by
    rw [← Nat.pow_add, ← Nat.pow_add, show e + (104 - e) = 52 + 52 by omega]
  rw [e5]
  unfold Format.nearest
  have hpos : 0 < 2 ^ e * 2 ^ (104 - e) := Nat.mul_pos (Nat.two_pow_pos _) (Nat.two_pow_pos _)
  rw [if_neg (Nat.ne_of_gt hpos)]
  have hl : (2 ^ e * 2 ^ (104 - e)).log2 = 104 := by rw [← Nat.pow_add, show e + (104 - e) = 104 by omega]; exact Nat.log2_two_pow
  rw [hl]
  have hF : double.fractionBits = 52 := rfl
  dsimp only
  rw [hF]
  have e6 : max (double.leastPlace - ((104 - e : Nat) : Int) + ((104 : Nat) : Int) - ((52 : Nat) : Int)) double.leastPlace = double.leastPlace := by omega
  rw [e6]
  have e7 : (double.leastPlace - ((104 - e : Nat) : Int) - double.leastPlace).toNat = 0 := by omega
  have e8 : (double.leastPlace - (double.leastPlace - ((104 - e : Nat) : Int))).toNat = 104 - e := by omega
  have e9 : (double.leastPlace - double.leastPlace).toNat = 0 := by omega
  rw [e7, e8, e9, Nat.shiftLeft_zero, cut_exact false (2 ^ e) (104 - e) (Nat.two_pow_pos _), Nat.zero_mul, Nat.zero_add]
  have hlt : 2 ^ e < 2 ^ 52 := Nat.pow_lt_pow_right (by omega) hee
  have hi : double.infRung = 2047 * 2 ^ 52 := rfl
  show min (2 ^ e) double.infRung = 2 ^ e
  rw [hi]
  exact Nat.min_eq_left (by omega)
end Ieee
