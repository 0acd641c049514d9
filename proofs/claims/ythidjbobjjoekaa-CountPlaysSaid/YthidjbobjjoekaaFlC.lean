/- What Log2 comes to: how the number is brought between 1 and 2, and the fifty-two squarings. No program in sight. -/
import Derived.Test.YthidjbobjjoekaaFlB
namespace Ieee
set_option linter.unusedVariables false
def ONE : Nat := 1023 * 2 ^ 52
def TWO : Nat := 1024 * 2 ^ 52
theorem rung_word (neg : Bool) (r : Nat) (h : r ≤ infR) : rung (double.word neg r) = r := by
  have h1 : double.signWeight = 2 ^ 63 := rfl
  have h2 : infR = 2047 * 2 ^ 52 := rfl
  unfold rung Format.word
  rw [h1]
  split <;> omega
theorem real_word (neg : Bool) (r : Nat) (h : r ≤ infR) : Real (double.word neg r) := by
  unfold Real; rw [rung_word _ _ h]; exact h
theorem real_nearest (neg : Bool) (m : Nat) (p : Int) : Real (double.nearest neg m p) := by
  unfold Format.nearest
  split
  · exact real_word _ _ (Nat.zero_le _)
  · exact real_word _ _ (Nat.min_le_right _ _)
theorem real_inf (neg : Bool) : Real (double.write (.infinity neg)) := real_word _ _ (Nat.le_refl _)
theorem real_cases (x : Nat) (h : Real x) : (∃ m p, double.read x = .number (sgn x) m p) ∨ double.read x = .infinity (sgn x) := by
  unfold Real at h
  by_cases h1 : rung x < infR
  · obtain ⟨m, k, e, _⟩ := read_num x h1
    exact .inl ⟨_, _, e⟩
  · exact .inr (read_inf x (by omega))
theorem mul_self (x : Nat) (h : Real x) : ∃ r, double.mul x x = some r ∧ Real r := by
  unfold Format.mul
  rcases real_cases x h with ⟨m, p, e⟩ | e
  · rw [e]; exact ⟨_, rfl, real_nearest _ _ _⟩
  · rw [e]; exact ⟨_, rfl, real_inf _⟩
theorem read_two : ∃ p, double.read TWO = .number false (2 ^ 52) p := by
  have := read_normal 1024 0 (by omega) (by omega) (by omega)
  exact ⟨_, this⟩
theorem div_two (x : Nat) (h : Real x) : ∃ r, double.div x TWO = some r ∧ Real r := by
  unfold Format.div
  obtain ⟨q, e2⟩ := read_two
  rw [e2]
  rcases real_cases x h with ⟨m, p, e⟩ | e
  · rw [e]
    unfold Datum.quotient
    dsimp only
    rw [if_neg (by decide)]
    exact ⟨_, rfl, real_nearest _ _ _⟩
  · rw [e]; exact ⟨_, rfl, real_inf _⟩
theorem add_fin (x y : Nat) (h : Real x) (hy : rung y < infR) : ∃ r, double.add x y = some r ∧ Real r := by
  unfold Format.add
  obtain ⟨n, k, e2, _⟩ := read_num y hy
  rw [e2]
  rcases real_cases x h with ⟨m, p, e⟩ | e
  · rw [e]; exact ⟨_, rfl, real_nearest _ _ _⟩
  · rw [e]; exact ⟨_, rfl, real_inf _⟩
/-- is a float 2 at least? -/
def ge2 (m : Nat) : Bool := double.order m TWO == some .gt || double.order m TWO == some .eq
/-- one round of Log2's: the number, the logarithm so far, the step -/
def ls (t : Nat × Nat × Nat) : Nat × Nat × Nat :=
  if ge2 ((double.mul t.1 t.1).getD 0) then ((double.div ((double.mul t.1 t.1).getD 0) TWO).getD 0, (double.add t.2.1 ((double.div t.2.2 TWO).getD 0)).getD 0, (double.div t.2.2 TWO).getD 0)
  else ((double.mul t.1 t.1).getD 0, t.2.1, (double.div t.2.2 TWO).getD 0)
def lsN : Nat → Nat × Nat × Nat → Nat × Nat × Nat
  | 0, t => t
  | n + 1, t => ls (lsN n t)
/-- what holds after k rounds -/
def LsOk (k : Nat) (t : Nat × Nat × Nat) : Prop := Real t.1 ∧ Real t.2.1 ∧ t.2.2 = (1023 - k) * 2 ^ 52
theorem ls_step (k : Nat) (hk : k < 52) (t : Nat × Nat × Nat) (h : LsOk k t) : ∃ m s, double.mul t.1 t.1 = some m ∧ double.div t.2.2 TWO = some s ∧
    ((ge2 m = true ∧ ∃ m2 y, double.div m TWO = some m2 ∧ double.add t.2.1 s = some y ∧ ls t = (m2, y, s)) ∨ (ge2 m = false ∧ ls t = (m, t.2.1, s))) ∧ LsOk (k + 1) (ls t) := by
  obtain ⟨h1, h2, h3⟩ := h
  obtain ⟨m, e1, r1⟩ := mul_self _ h1
  have e2 : double.div t.2.2 TWO = some ((1023 - (k + 1)) * 2 ^ 52) := by
    rw [h3]
    have := halve (1023 - k) 0 (by omega) (by omega) (by omega)
    rw [Nat.add_zero, Nat.add_zero] at this
    exact this.trans (by rw [show 1023 - k - 1 = 1023 - (k + 1) by omega])
  have hs : rung ((1023 - (k + 1)) * 2 ^ 52) < infR := by
    unfold rung infR
    omega
  obtain ⟨m2, e3, r3⟩ := div_two _ r1
  obtain ⟨y, e4, r4⟩ := add_fin _ _ h2 hs
  refine ⟨m, _, e1, e2, ?_⟩
  unfold ls
  rw [e1, e2]
  simp only [Option.getD_some]
  rw [e3, e4]
  cases hg : ge2 m
  · exact ⟨.inr ⟨rfl, rfl⟩, r1, h2, rfl⟩
  · exact ⟨.inl ⟨rfl, m2, y, rfl, rfl, rfl⟩, r3, r4, rfl⟩
theorem lsN_ok (t : Nat × Nat × Nat) (h : LsOk 0 t) : ∀ k, k ≤ 52 → LsOk k (lsN k t)
  | 0, _ => h
  | k + 1, hk => (ls_step k (by omega) _ (lsN_ok t h k (by omega))).elim fun _ h => h.elim fun _ h => h.2.2.2
/-- how often one of the least is doubled till it is a normal one -/
def lgK (b : Nat) : Nat := 52 - b.log2
theorem lgK_lo (b : Nat) (h0 : 0 < b) (hb : b < 2 ^ 52) (i : Nat) (hi : i < lgK b) : 2 ^ i * b < 2 ^ 52 := by
  unfold lgK at hi
  have h1 : b < 2 ^ (b.log2 + 1) := Nat.lt_log2_self
  have h2 : 2 ^ i * b < 2 ^ i * 2 ^ (b.log2 + 1) := Nat.mul_lt_mul_of_pos_left h1 (Nat.two_pow_pos _)
  rw [← Nat.pow_add] at h2
  exact Nat.lt_of_lt_of_le h2 (Nat.pow_le_pow_right (by omega) (by omega))
theorem lgK_hi (b : Nat) (h0 : 0 < b) (hb : b < 2 ^ 52) : 2 ^ 52 ≤ 2 ^ lgK b * b ∧ 2 ^ lgK b * b < 2 ^ 53 := by
  unfold lgK
  have h1 : b < 2 ^ (b.log2 + 1) := Nat.lt_log2_self
  have h3 : 2 ^ b.log2 ≤ b := Nat.log2_self_le (by omega)
  have h4 : b.log2 < 52 := (Nat.log2_lt (by omega)).2 hb
  have h2 : 2 ^ (52 - b.log2) * b < 2 ^ (52 - b.log2) * 2 ^ (b.log2 + 1) := Nat.mul_lt_mul_of_pos_left h1 (Nat.two_pow_pos _)
  have h5 : 2 ^ (52 - b.log2) * 2 ^ b.log2 ≤ 2 ^ (52 - b.log2) * b := Nat.mul_le_mul_left _ h3
  rw [← Nat.pow_add] at h2 h5
  rw [show 52 - b.log2 + (b.log2 + 1) = 53 by omega] at h2
  rw [show 52 - b.log2 + b.log2 = 52 by omega] at h5
  exact ⟨h5, h2⟩
theorem lgK_pos (b : Nat) (h0 : 0 < b) (hb : b < 2 ^ 52) : 0 < lgK b ∧ lgK b ≤ 52 := by
  unfold lgK
  have h4 : b.log2 < 52 := (Nat.log2_lt (by omega)).2 hb
  omega
/-- the power of two, and the fraction, of a positive number -/
def lgE (x : Nat) : Int := if x < 2 ^ 52 then -((lgK x : Int) + 1022) else (x / 2 ^ 52 : Nat) - 1023
def lgF (x : Nat) : Nat := if x < 2 ^ 52 then 2 ^ lgK x * x - 2 ^ 52 else x % 2 ^ 52
theorem lgF_lt (x : Nat) (h0 : 0 < x) : lgF x < 2 ^ 52 := by
  unfold lgF
  split
  · rename_i h
    have := lgK_hi x h0 h
    omega
  · omega
/-- the document's way up: doubled n times -/
def up (x n : Nat) : Nat := if n ≤ lgK x then 2 ^ n * x else (n - lgK x + 1) * 2 ^ 52 + lgF x
theorem up_step (x : Nat) (h0 : 0 < x) (hx : x < 2 ^ 52) (n : Nat) (hn : n < lgK x + 1022) : double.mul (up x n) TWO = some (up x (n + 1)) ∧ 0 < up x n ∧ up x n < ONE := by
  have hF := lgF_lt x h0
  have hH := lgK_hi x h0 hx
  have hE : lgF x = 2 ^ lgK x * x - 2 ^ 52 := by unfold lgF; rw [if_pos hx]
  unfold up ONE
  by_cases h1 : n < lgK x
  · have hl := lgK_lo x h0 hx n h1
    have hp : 0 < 2 ^ n * x := Nat.mul_pos (Nat.two_pow_pos _) h0
    rw [if_pos (by omega), if_pos (by omega)]
    refine ⟨?_, hp, by omega⟩
    rw [Nat.pow_succ, Nat.mul_comm (2 ^ n) 2, Nat.mul_assoc]
    exact dbl_least _ hp hl
  · rw [if_neg (show ¬ n + 1 ≤ lgK x by omega)]
    have e : (if n ≤ lgK x then 2 ^ n * x else (n - lgK x + 1) * 2 ^ 52 + lgF x) = (n - lgK x + 1) * 2 ^ 52 + lgF x := by
      split
      · have : n = lgK x := by omega
        subst this
        rw [hE]
        omega
      · rfl
    rw [e]
    have := dbl (n - lgK x + 1) (lgF x) (by omega) (by omega) hF
    refine ⟨this.trans (by rw [show n + 1 - lgK x + 1 = n - lgK x + 1 + 1 by omega]), by omega, by omega⟩
theorem up_end (x : Nat) (h0 : 0 < x) (hx : x < 2 ^ 52) : up x (lgK x + 1022) = ONE + lgF x := by
  unfold up ONE
  rw [if_neg (by omega)]
  omega
/-- a word with its sign off, below infinity, above nought -/
theorem real_pos (x : Nat) (h : x ≤ infR) : Real x ∧ sgn x = false ∧ rung x = x ∧ key x = x := by
  have h2 : infR = 2047 * 2 ^ 52 := rfl
  have e1 : rung x = x := by unfold rung; omega
  have e2 : sgn x = false := by
    unfold sgn
    rw [Nat.div_eq_of_lt (by omega)]
    rfl
  exact ⟨by unfold Real; omega, e2, e1, by unfold key sg; rw [e1, e2]; rfl⟩
theorem order_pos (x y : Nat) (hx : x ≤ infR) (hy : y ≤ infR) : double.order x y = some (compare (x : Int) (y : Int)) := by
  rw [order_key x y (real_pos x hx).1 (real_pos y hy).1, (real_pos x hx).2.2.2, (real_pos y hy).2.2.2]
theorem order_lt (x y : Nat) (hy : y ≤ infR) (h : x < y) : double.order x y = some .lt := by
  rw [order_pos x y (by omega) hy, cmp_lt (by omega)]
theorem order_gt (x y : Nat) (hx : x ≤ infR) (h : y < x) : double.order x y = some .gt := by
  rw [order_pos x y hx (by omega), cmp_gt (by omega)]
theorem order_self (x : Nat) (hx : Real x) : double.order x x = some .eq := by
  rw [order_key x x hx hx, cmp_eq rfl]
end Ieee
