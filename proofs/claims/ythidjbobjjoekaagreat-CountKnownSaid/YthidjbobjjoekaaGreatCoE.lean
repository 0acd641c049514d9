/- What twice a number does to the number of bits, in the walk's own words. Conditions: none beyond each theorem's own. -/
import Derived.Test.YthidjbobjjoekaaGreatCoD
namespace Go.Proofs.YthidjbobjjoekaaGreat
open Go.RowKit Go.Lib
set_option linter.unusedVariables false
set_option linter.unusedSimpArgs false
open Ieee (lsN ls LsOk lgE lgF lgK ONE TWO infR)
/-- a NaN that the machine chose -/
def nanD (w : World) (x y : Nat) : Nat := Question.cut (.nanBits .f64 x y) (w.tape w.drawn (.nanBits .f64 x y))
theorem run_float_nan (op : BinOp) (t : TypeId) (x y : Nat) (h : floatBits op .f64 x y = none) (ho : op = .mul ∨ op = .quo ∨ op = .add ∨ op = .sub) (w : World) :
    (binOp op t (.float .f64 x) (.float .f64 y)).run Tryz.prog w = .ok (.float .f64 (nanD w x y)) w.drew := by
  unfold floatBits at h
  rcases ho with rfl | rfl | rfl | rfl <;> simp only at h <;> simp [binOp, Op.floatArith, h, nanD, Question.forced]
theorem nanD_ok (w : World) (x y : Nat) : nanD w x y < 18446744073709551616 ∧ ¬ Ieee.Real (nanD w x y) := by
  have hi : infR = 2047 * 2 ^ 52 := rfl
  unfold nanD Question.cut Ieee.Real Ieee.rung
  dsimp only
  generalize w.tape w.drawn (.nanBits .f64 x y) = t
  have h1 := Nat.mod_lt t (show 0 < 2 by omega)
  have h2 := Nat.mod_lt (t / 2) (show 0 < 2 ^ 52 - 1 by omega)
  generalize t % 2 = a at *
  generalize t / 2 % (2 ^ 52 - 1) = b at *
  omega
theorem ord0 (x : Nat) (h : Ieee.Real x) : ford x 0 = some (compare (Ieee.key x) 0) := Ieee.order_key x 0 h (Ieee.real_pos 0 (Nat.zero_le _)).1
theorem key_zeroV (y : Nat) (h : Ieee.Real y) : Ieee.Real (zeroV y) ∧ Ieee.key (zeroV y) = Ieee.key y := by
  have h0 := Ieee.real_pos 0 (Nat.zero_le _)
  unfold zeroV
  split
  · rename_i h1
    rw [ord0 y h] at h1
    refine ⟨h0.1, ?_⟩
    show (0 : Int) = _
    rcases Int.lt_trichotomy (Ieee.key y) 0 with h | h | h
    · rw [Ieee.cmp_lt h] at h1; simp at h1
    · exact h.symm
    · rw [Ieee.cmp_gt h] at h1; simp at h1
  · exact ⟨h, rfl⟩
theorem mul_real (x : Nat) (h : Ieee.Real x) : ∃ r, Ieee.double.mul x TWO = some r ∧ Ieee.Real r ∧ r < 18446744073709551616 := by
  have hw : ∀ n k, k ≤ infR → Ieee.double.word n k < 18446744073709551616 := fun n k hk => by
    have h1 : Ieee.double.signWeight = 2 ^ 63 := rfl
    have h2 : infR = 2047 * 2 ^ 52 := rfl
    unfold Ieee.Format.word
    rw [h1]
    split <;> omega
  have hn : ∀ n m p, Ieee.double.nearest n m p < 18446744073709551616 := fun n m p => by
    unfold Ieee.Format.nearest
    split
    · exact hw _ _ (Nat.zero_le _)
    · exact hw _ _ (Nat.min_le_right _ _)
  unfold Ieee.Format.mul
  obtain ⟨q, e2⟩ := Ieee.read_two
  rw [e2]
  rcases Ieee.real_cases x h with ⟨m, p, e⟩ | e
  · rw [e]; exact ⟨_, rfl, Ieee.real_nearest _ _ _, hn _ _ _⟩
  · rw [e]; exact ⟨_, rfl, Ieee.real_inf _, hw _ _ (Nat.le_refl _)⟩
theorem order_le (x y : Nat) (hx : Ieee.Real x) (hy : Ieee.Real y) (h : Ieee.key x ≤ Ieee.key y) : FloatKind.f64.format.order x y = some .lt ∨ FloatKind.f64.format.order x y = some .eq := by
  have e : FloatKind.f64.format.order x y = some (compare (Ieee.key x) (Ieee.key y)) := Ieee.order_key x y hx hy
  rw [e]
  rcases Int.lt_or_eq_of_le h with h | h
  · exact .inl (by rw [Ieee.cmp_lt h])
  · exact .inr (by rw [Ieee.cmp_eq h])
/-- log2 of a positive finite number -/
theorem log2V_pf (x : Nat) (h0 : 0 < x) (hx : x < infR) : log2V x = lgR x := by
  have h1 : ford x x = some .eq := Ieee.order_self x (Ieee.real_pos x (by omega)).1
  have h2 : ford x 0 = some .gt := Ieee.order_gt x 0 (by omega) h0
  have h3 : (ford x 9218868437227405311 == some .gt) = false := by
    have h4 : infR = 9218868437227405312 := inf_lit
    have h5 : ford x 9218868437227405311 = some (compare (x : Int) (9218868437227405311 : Nat)) := Ieee.order_pos x _ (by omega) (by omega)
    rw [h5]
    rcases Nat.lt_or_ge x 9218868437227405311 with h | h
    · rw [Ieee.cmp_lt (by omega)]; rfl
    · rw [Ieee.cmp_eq (by omega)]; rfl
  exact log2V_pos x h1 h2 h3
theorem lgR_key (x : Nat) (h0 : 0 < x) : Ieee.Real (lgR x) ∧ Ieee.key (lgR x) = Ieee.key (lsN 52 (lgT x)).2.1 :=
  key_zeroV _ (Ieee.lsN_ok _ (lgT_ok x h0) 52 (Nat.le_refl _)).2.1
theorem fI (n : Int) : floatOfInt .f64 n = Ieee.intF n := rfl
theorem lgR_mono (x y : Nat) (h0 : 0 < x) (h1 : 0 < y) (he : lgE x ≤ lgE y) (hf : lgF y = lgF x) : Ieee.key (lgR x) ≤ Ieee.key (lgR y) := by
  rw [(lgR_key x h0).2, (lgR_key y h1).2]
  have a := lgT_ok x h0
  have b := lgT_ok y h1
  unfold lgT at a b ⊢
  rw [hf] at b ⊢
  exact (Ieee.lsN_mono _ _ _ _ a b (Ieee.intF_mono he) 52 (Nat.le_refl _)).2.2
/-- Log2 of a power of two is the power -/
theorem log2_pow (k : Int) (h1 : -1074 ≤ k) (h2 : k ≤ 1023) : FloatKind.f64.format.order (log2V (Ieee.powF k)) (floatOfInt .f64 k) = some .eq := by
  obtain ⟨a, b, c, d⟩ := Ieee.pow_lg k h1 h2
  rw [log2V_pf _ a b]
  have e := lgR_key _ a
  have f : (lsN 52 (lgT (Ieee.powF k))).2.1 = Ieee.intF k := by
    unfold lgT
    rw [c, d, Nat.add_zero]
    exact (Ieee.lsN_one _ _ 52).2
  rw [f] at e
  have g : FloatKind.f64.format.order (lgR (Ieee.powF k)) (Ieee.intF k) = some (compare (Ieee.key (lgR (Ieee.powF k))) (Ieee.key (Ieee.intF k))) := Ieee.order_key _ _ e.1 (Ieee.intF_real _)
  rw [fI, g, e.2, Ieee.cmp_eq rfl]
/-- what the two logarithms of a number and its double are -/
theorem twice (x : Nat) (hx : x < 18446744073709551616) :
    (¬ Ieee.Real x ∧ ford x x = none ∧ ford (log2V x) (log2V x) = none ∧ floatBits .mul .f64 x 4611686018427387904 = none) ∨
    ∃ r, floatBits .mul .f64 x 4611686018427387904 = some r ∧ r < 18446744073709551616 ∧ ford x x = some .eq ∧
      ((ford x 0 = some .lt ∧ ford (log2V x) (log2V x) = none) ∨
       ((ford x 0 = some .eq ∨ ford x 0 = some .gt) ∧ ford (log2V x) (log2V x) = some .eq ∧ (ford (log2V x) (log2V r) = some .lt ∨ ford (log2V x) (log2V r) = some .eq))) := by
  have hnn : ford nanV nanV = none := by decide +kernel
  have hmm : ford minfV minfV = some .eq := by decide +kernel
  have hfb : floatBits .mul .f64 x 4611686018427387904 = Ieee.double.mul x TWO := by rw [two_lit]; rfl
  rw [hfb]
  by_cases hr : Ieee.Real x
  · right
    have s : ford x x = some .eq := Ieee.order_self x hr
    rcases fl_kinds x hx with (h | ⟨_, h | h | ⟨h, h'⟩⟩) | ⟨h1, h2, h3, h4, h5⟩
    · rw [s] at h; cases h
    · obtain ⟨r, e1, e2, e3⟩ := mul_real x hr
      refine ⟨r, e1, e3, s, .inl ⟨h, ?_⟩⟩
      unfold log2V
      rw [if_neg (by rw [s]; simp), if_pos h]
      exact hnn
    · have hz : Ieee.rung x = 0 := by
        rw [ord0 x hr] at h
        have : Ieee.key x = 0 := by
          rcases Int.lt_trichotomy (Ieee.key x) 0 with h' | h' | h'
          · rw [Ieee.cmp_lt h'] at h; simp at h
          · exact h'
          · rw [Ieee.cmp_gt h'] at h; simp at h
        unfold Ieee.key Ieee.sg at this
        split at this <;> omega
      obtain ⟨r0, d1, d2⟩ := Ieee.mul_zero x hz
      obtain ⟨r, e1, e2, e3⟩ := mul_real x hr
      rw [d1] at e1; cases e1
      have h6 : ford r0 r0 = some .eq := Ieee.order_self r0 e2
      have h7 : ford r0 0 = some .eq := by
        rw [ord0 r0 e2]
        rw [Ieee.cmp_eq (by unfold Ieee.key Ieee.sg; rw [d2]; split <;> rfl)]
      have l1 : log2V x = minfV := by unfold log2V; rw [if_neg (by rw [s]; simp), if_neg (by rw [h]; simp), if_pos h]
      have l2 : log2V r0 = minfV := by unfold log2V; rw [if_neg (by rw [h6]; simp), if_neg (by rw [h7]; simp), if_pos h7]
      exact ⟨r0, d1, e3, s, .inr ⟨.inl h, by rw [l1]; exact hmm, .inr (by rw [l1, l2]; exact hmm)⟩⟩
    · have hx3 : x = infR := by
        have hsg : Ieee.sgn x = false := by
          rw [ord0 x hr] at h
          cases hs : Ieee.sgn x
          · rfl
          · have : ¬ 0 < Ieee.key x := by unfold Ieee.key Ieee.sg; rw [hs]; simp
            rcases Int.lt_trichotomy (Ieee.key x) 0 with h'' | h'' | h''
            · rw [Ieee.cmp_lt h''] at h; simp at h
            · rw [Ieee.cmp_eq h''] at h; simp at h
            · exact absurd h'' this
        have hi : infR = 9218868437227405312 := inf_lit
        have hlt : x < 2 ^ 63 := by
          unfold Ieee.sgn at hsg
          rw [beq_eq_false_iff_ne] at hsg
          omega
        have hru : Ieee.rung x = x := by unfold Ieee.rung; omega
        have hle : x ≤ infR := by unfold Ieee.Real at hr; omega
        have h5 : ford x 9218868437227405311 = some (compare (x : Int) (9218868437227405311 : Nat)) := Ieee.order_pos x _ (by omega) (by omega)
        rw [h5] at h'
        rcases Int.lt_trichotomy (x : Int) (9218868437227405311 : Nat) with h'' | h'' | h''
        · rw [Ieee.cmp_lt h''] at h'; simp at h'
        · rw [Ieee.cmp_eq h''] at h'; simp at h'
        · omega
      subst hx3
      have l1 : log2V infR = infR := by decide +kernel
      exact ⟨infR, Ieee.mul_inf, by decide, s, .inr ⟨.inr h, by rw [l1]; exact s, .inr (by rw [l1]; exact s)⟩⟩
    · have hi : infR = 2047 * 2 ^ 52 := rfl
      have a := lgR_key x h4
      have l0 : ford (log2V x) (log2V x) = some .eq := by rw [log2V_pf x h4 h5]; exact Ieee.order_self _ a.1
      by_cases h6 : x < 2046 * 2 ^ 52
      · obtain ⟨r, e1, e2, e3, e4, e5⟩ := Ieee.lg_dbl x h4 h6
        refine ⟨r, e1, by omega, s, .inr ⟨.inr h2, l0, ?_⟩⟩
        rw [log2V_pf x h4 h5, log2V_pf r e2 e3]
        exact order_le _ _ a.1 (lgR_key r e2).1 (lgR_mono x r h4 e2 (by omega) e5)
      · have e1 := Ieee.dbl_top x (by omega) h5
        refine ⟨infR, e1, by decide, s, .inr ⟨.inr h2, l0, ?_⟩⟩
        have l1 : log2V infR = infR := by decide +kernel
        have l2 := Ieee.real_pos infR (Nat.le_refl _)
        rw [log2V_pf x h4 h5, l1]
        refine order_le _ _ a.1 l2.1 ?_
        rw [l2.2.2.2]
        exact (Ieee.key_bd _ a.1).2
  · left
    have s : ford x x = none := Ieee.order_nan_left x x hr
    refine ⟨hr, s, ?_, ?_⟩
    · unfold log2V
      rw [if_pos s]
      exact hnn
    · obtain ⟨b, f, e⟩ := Ieee.read_nan x hr
      obtain ⟨q, e2⟩ := Ieee.read_two
      unfold Ieee.Format.mul
      rw [e, e2]; rfl
end Go.Proofs.YthidjbobjjoekaaGreat
