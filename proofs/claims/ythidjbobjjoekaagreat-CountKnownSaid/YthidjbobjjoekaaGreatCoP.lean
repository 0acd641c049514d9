/- Quantiles of any numbers: noughts of either sign come to one answer. No walk here. Conditions: none beyond each theorem's own. -/
import Derived.Test.YthidjbobjjoekaaGreatCoJ
namespace Go.Proofs.YthidjbobjjoekaaGreat
open Go.RowKit Go.Lib
set_option linter.unusedVariables false
set_option linter.unusedSimpArgs false
open Ieee (infR)
/-- one float, or two noughts -/
def KE (x y : Nat) : Prop := x = y ∨ (Ieee.rung x = 0 ∧ Ieee.rung y = 0)
theorem KE.rung {x y : Nat} (h : KE x y) : Ieee.rung x = Ieee.rung y := by
  rcases h with rfl | ⟨a, b⟩
  · rfl
  · rw [a, b]
theorem key_nought {x : Nat} (h : Ieee.rung x = 0) : Ieee.key x = 0 ∧ Ieee.VV x = 0 ∧ Ieee.Real x := by
  refine ⟨?_, ?_, ?_⟩
  · unfold Ieee.key Ieee.sg; rw [h]; split <;> rfl
  · unfold Ieee.VV Ieee.sg; rw [h]; split <;> rfl
  · unfold Ieee.Real; rw [h]; exact Nat.zero_le _
theorem KE.key {x y : Nat} (h : KE x y) : Ieee.key x = Ieee.key y ∧ Ieee.VV x = Ieee.VV y := by
  rcases h with rfl | ⟨a, b⟩
  · exact ⟨rfl, rfl⟩
  · rw [(key_nought a).1, (key_nought b).1, (key_nought a).2.1, (key_nought b).2.1]; exact ⟨rfl, rfl⟩
theorem KE.cl {x y : Nat} (h : KE x y) : (cl x).map zeroV = (cl y).map zeroV := by
  rcases h with rfl | ⟨a, b⟩
  · rfl
  · have za : ∀ z, Ieee.rung z = 0 → (YthidjbobjjoekaaGreat.cl z).map zeroV = some 0 := fun z hz => by
      have k := key_nought hz
      rw [cl_real k.2.2]
      show some (zeroV z) = _
      unfold zeroV
      rw [ord0 z k.2.2, k.1]; rfl
    rw [za x a, za y b]
theorem key_KE {x y : Nat} (hx : x < 18446744073709551616) (hy : y < 18446744073709551616) (h : Ieee.key x = Ieee.key y) : KE x y := by
  by_cases h0 : Ieee.rung x = 0
  · right
    refine ⟨h0, ?_⟩
    rw [(key_nought h0).1] at h
    unfold Ieee.key Ieee.sg at h
    split at h <;> omega
  · left
    have hr : Ieee.rung x = Ieee.rung y ∧ Ieee.sgn x = Ieee.sgn y := by
      unfold Ieee.key Ieee.sg at h
      cases hs : Ieee.sgn x <;> cases ht : Ieee.sgn y <;> rw [hs, ht] at h <;> simp at h
      · exact ⟨by omega, rfl⟩
      · omega
      · omega
      · exact ⟨by omega, rfl⟩
    have e : ∀ z, z < 18446744073709551616 → z = (if Ieee.sgn z then 9223372036854775808 else 0) + Ieee.rung z := fun z hz => by
      unfold Ieee.sgn Ieee.rung
      by_cases hb : (z / 2 ^ 63 % 2 == 1) = true
      · rw [if_pos hb]; rw [beq_iff_eq] at hb; omega
      · rw [if_neg hb]; rw [beq_iff_eq] at hb; omega
    rw [e x hx, e y hy, hr.1, hr.2]
theorem write_lt (d : Ieee.Datum) (h : d.isNaN = false) : Ieee.double.write d < 18446744073709551616 := by
  have hw : ∀ n k, k ≤ infR → Ieee.double.word n k < 18446744073709551616 := fun n k hk => by
    have h1 : Ieee.double.signWeight = 2 ^ 63 := rfl
    have h2 : infR = 2047 * 2 ^ 52 := rfl
    unfold Ieee.Format.word
    rw [h1]
    split <;> omega
  cases d with
  | number n m p =>
    show Ieee.double.nearest n m p < _
    unfold Ieee.Format.nearest
    split
    · exact hw _ _ (Nat.zero_le _)
    · exact hw _ _ (Nat.min_le_right _ _)
  | infinity n => exact hw _ _ (Nat.le_refl _)
  | nan n f => cases h
/-- a difference of two numbers of which one is the greater -/
theorem sub_some (a b : Nat) (ha : Ieee.Real a) (hb : Ieee.Real b) (h : Ieee.key a < Ieee.key b) : ∃ d, Ieee.double.sub b a = some d ∧ Ieee.Real d ∧ d < 18446744073709551616 := by
  have key : ∃ e, (Ieee.double.read b).sum (Ieee.double.read a).opposite = some e ∧ e.isNaN = false := by
    rcases Ieee.real_cases b hb with ⟨m, p, e1⟩ | e1 <;> rcases Ieee.real_cases a ha with ⟨n, q, e2⟩ | e2 <;> rw [e1, e2]
    · exact ⟨_, rfl, rfl⟩
    · exact ⟨_, rfl, rfl⟩
    · exact ⟨_, rfl, rfl⟩
    · have inf : ∀ z, Ieee.Real z → Ieee.double.read z = .infinity (Ieee.sgn z) → Ieee.rung z = infR := fun z hz he => by
        unfold Ieee.Real at hz
        by_cases h1 : Ieee.rung z < infR
        · obtain ⟨m, k, e, _⟩ := Ieee.read_num z h1
          rw [e] at he; cases he
        · omega
      have r1 := inf b hb e1
      have r2 := inf a ha e2
      unfold Ieee.key Ieee.sg at h
      rw [r1, r2] at h
      cases hs : Ieee.sgn a <;> cases ht : Ieee.sgn b <;> rw [hs, ht] at h
      · simp at h
      · simp at h; omega
      · exact ⟨_, rfl, rfl⟩
      · simp at h
  obtain ⟨e, h1, h2⟩ := key
  refine ⟨Ieee.double.write e, ?_, write_real e h2, write_lt e h2⟩
  unfold Ieee.Format.sub
  rw [h1]; rfl
/-- a part of a number -/
theorem mul_some (f d : Nat) (hf : Ieee.rung f < infR) (hk : 0 < Ieee.key f) (hd : Ieee.Real d) : ∃ p, Ieee.double.mul f d = some p ∧ Ieee.Real p ∧ p < 18446744073709551616 := by
  have key : ∃ e, (Ieee.double.read f).product (Ieee.double.read d) = some e ∧ e.isNaN = false := by
    obtain ⟨m, k, e1, v⟩ := Ieee.read_num f hf
    have hm : m ≠ 0 := fun h => by
      rw [h, Nat.zero_mul] at v
      have := Ieee.val_inj (r := Ieee.rung f) (s := 0) v.symm
      rw [Ieee.pos_key (Int.le_of_lt hk)] at hk; omega
    rw [e1]
    rcases Ieee.real_cases d hd with ⟨n, q, e2⟩ | e2 <;> rw [e2]
    · exact ⟨_, rfl, rfl⟩
    · unfold Ieee.Datum.product
      simp only [if_neg hm]
      exact ⟨_, rfl, rfl⟩
  obtain ⟨e, h1, h2⟩ := key
  refine ⟨Ieee.double.write e, ?_, write_real e h2, write_lt e h2⟩
  unfold Ieee.Format.mul
  rw [h1]; rfl
theorem real_inf' {z : Nat} (hz : Ieee.Real z) (h : ¬ Ieee.rung z < infR) : Ieee.double.read z = .infinity (Ieee.sgn z) := Ieee.read_inf z (by unfold Ieee.Real at hz; omega)
theorem KE.big {x y : Nat} (h : KE x y) (hb : ¬ Ieee.rung x < infR) : x = y := by
  rcases h with h | ⟨a, b⟩
  · exact h
  · rw [a] at hb; exact absurd (by decide) hb
theorem real_lt {o : BinOp} (ho : o = .add ∨ o = .sub) {x y r : Nat} (h : floatBits o .f64 x y = some r) : r < 18446744073709551616 := by
  have key : ∀ (D E : Ieee.Datum), (D.sum E).map Ieee.double.write = some r → r < 18446744073709551616 := fun D E hr => by
    cases hd : D.sum E with
    | none => rw [hd] at hr; cases hr
    | some e =>
      rw [hd] at hr
      cases hr
      refine write_lt e ?_
      revert hd
      cases D <;> cases E <;> simp only [Ieee.Datum.sum] <;> intro he <;> first | (cases he; rfl) | (cases he; done) | (split at he <;> first | (cases he; rfl) | (cases he; done))
  rcases ho with rfl | rfl
  · exact key _ _ h
  · exact key _ _ h
theorem sub_KE {a a' b b' d d' : Nat} (ha : KE a a') (hb : KE b b') (ra : Ieee.Real a) (rb : Ieee.Real b) (ra' : Ieee.Real a') (rb' : Ieee.Real b') (h : Ieee.double.sub b a = some d) (h' : Ieee.double.sub b' a' = some d') : KE d d' := by
  have l := real_lt (o := .sub) (.inr rfl) h
  have l' := real_lt (o := .sub) (.inr rfl) h'
  by_cases fa : Ieee.rung a < infR
  · by_cases fb : Ieee.rung b < infR
    · obtain ⟨r, e1, _, e2⟩ := Ieee.sub_key b a fb fa
      obtain ⟨r', e1', _, e2'⟩ := Ieee.sub_key b' a' (by rw [← hb.rung]; exact fb) (by rw [← ha.rung]; exact fa)
      rw [h] at e1; cases e1
      rw [h'] at e1'; cases e1'
      exact key_KE l l' (by rw [e2, e2', ha.key.2, hb.key.2])
    · have eb := hb.big fb
      subst eb
      obtain ⟨m, p, e, _⟩ := Ieee.read_num a fa
      obtain ⟨m', p', e', _⟩ := Ieee.read_num a' (by rw [← ha.rung]; exact fa)
      unfold Ieee.Format.sub at h h'
      rw [real_inf' rb fb, e] at h
      rw [real_inf' rb fb, e'] at h'
      have hh : some d = some d' := h.symm.trans h'
      cases hh
      exact .inl rfl
  · have ea := ha.big fa
    subst ea
    by_cases fb : Ieee.rung b < infR
    · obtain ⟨m, p, e, _⟩ := Ieee.read_num b fb
      obtain ⟨m', p', e', _⟩ := Ieee.read_num b' (by rw [← hb.rung]; exact fb)
      unfold Ieee.Format.sub at h h'
      rw [real_inf' ra fa, e] at h
      rw [real_inf' ra fa, e'] at h'
      have hh : some d = some d' := h.symm.trans h'
      cases hh
      exact .inl rfl
    · have eb := hb.big fb
      subst eb
      rw [h] at h'
      cases h'
      exact .inl rfl
theorem mul_KE {f d d' p p' : Nat} (hd : KE d d') (hf : Ieee.rung f < infR) (h : Ieee.double.mul f d = some p) (h' : Ieee.double.mul f d' = some p') : KE p p' := by
  rcases hd with rfl | ⟨a, b⟩
  · rw [h] at h'
    cases h'
    exact .inl rfl
  · right
    have z : ∀ d p, Ieee.rung d = 0 → Ieee.double.mul f d = some p → Ieee.rung p = 0 := fun d p hd hp => by
      rw [Ieee.mul_fin f d hf (by rw [hd]; decide)] at hp
      cases hp
      rw [Ieee.rung_word _ _ (Ieee.Rd_le _ _), hd, Ieee.val_zero, Nat.mul_zero]
      rfl
    exact ⟨z d p a h, z d' p' b h'⟩
theorem add_KE {a a' p p' : Nat} (ha : KE a a') (hp : KE p p') (ra : Ieee.Real a) (rp : Ieee.Real p) :
    (Ieee.double.add a p = none ∧ Ieee.double.add a' p' = none) ∨ ∃ x x', Ieee.double.add a p = some x ∧ Ieee.double.add a' p' = some x' ∧ KE x x' ∧ Ieee.Real x ∧ Ieee.Real x' := by
  by_cases fa : Ieee.rung a < infR
  · by_cases fp : Ieee.rung p < infR
    · obtain ⟨r, e1, r1, e2⟩ := Ieee.add_key a p fa fp
      obtain ⟨r', e1', r1', e2'⟩ := Ieee.add_key a' p' (by rw [← ha.rung]; exact fa) (by rw [← hp.rung]; exact fp)
      exact .inr ⟨r, r', e1, e1', key_KE (real_lt (o := .add) (.inl rfl) e1) (real_lt (o := .add) (.inl rfl) e1') (by rw [e2, e2', ha.key.2, hp.key.2]), r1, r1'⟩
    · have ep := hp.big fp
      subst ep
      obtain ⟨m, q, e, _⟩ := Ieee.read_num a fa
      obtain ⟨m', q', e', _⟩ := Ieee.read_num a' (by rw [← ha.rung]; exact fa)
      unfold Ieee.Format.add
      rw [e, e', real_inf' rp fp]
      exact .inr ⟨_, _, rfl, rfl, .inl rfl, Ieee.real_inf _, Ieee.real_inf _⟩
  · have ea := ha.big fa
    subst ea
    by_cases fp : Ieee.rung p < infR
    · obtain ⟨m, q, e, _⟩ := Ieee.read_num p fp
      obtain ⟨m', q', e', _⟩ := Ieee.read_num p' (by rw [← hp.rung]; exact fp)
      unfold Ieee.Format.add
      rw [e, e', real_inf' ra fa]
      exact .inr ⟨_, _, rfl, rfl, .inl rfl, Ieee.real_inf _, Ieee.real_inf _⟩
    · have ep := hp.big fp
      subst ep
      cases h : Ieee.double.add a p with
      | none => exact .inl ⟨rfl, rfl⟩
      | some x => exact .inr ⟨x, x, rfl, rfl, .inl rfl, ar_some .add h, ar_some .add h⟩
/-- what lies between two numbers, a part of the way -/
def midC (b : Nat) : Option Nat → Option Nat
  | none => none
  | some x => if Ieee.key b < Ieee.key x then (cl b).map zeroV else (cl x).map zeroV
theorem mid_same {a a' b b' f d d' p p' : Nat} (ha : KE a a') (hb : KE b b') (ra : Ieee.Real a) (rb : Ieee.Real b) (ra' : Ieee.Real a') (rb' : Ieee.Real b') (hf : Ieee.rung f < infR)
    (h1 : Ieee.double.sub b a = some d) (h1' : Ieee.double.sub b' a' = some d') (h2 : Ieee.double.mul f d = some p) (h2' : Ieee.double.mul f d' = some p') (rp : Ieee.Real p) :
    midC b (Ieee.double.add a p) = midC b' (Ieee.double.add a' p') := by
  have hd := sub_KE ha hb ra rb ra' rb' h1 h1'
  have hp := mul_KE hd hf h2 h2'
  rcases add_KE ha hp ra rp with ⟨e1, e2⟩ | ⟨x, x', e1, e2, hx, _, _⟩
  · rw [e1, e2]; rfl
  · rw [e1, e2]
    unfold midC
    dsimp only
    rw [hb.key.1, hx.key.1, hb.cl, hx.cl]
end Go.Proofs.YthidjbobjjoekaaGreat
