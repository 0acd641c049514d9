/- The leaf functions on runes: their plain data. Conditions: those of each theorem. -/
import Derived.Test.YteodfondjogmoaaGreatDoorProg
import Derived.StillTail
import Derived.StillTailTactics
import Derived.WalkKit
import Derived.WalkSpells
import Derived.WalkLawsBesides
import Derived.Outline
import Derived.Lib.Hide
namespace Go.Proofs.YteodfondjogmoaaGreatDoor.R
open Go.RowKit Go.Lib
set_option linter.unusedVariables false
set_option linter.unusedSimpArgs false
theorem beq_true_of {r c : Int} (h : r = c) : (r == c) = true := beq_iff_eq.2 h
theorem beq_false_of {r c : Int} (h : ¬ r = c) : (r == c) = false := by rw [← Bool.not_eq_true, beq_iff_eq]; exact h
theorem bne_true_of {r c : Int} (h : ¬ r = c) : (r != c) = true := by show (!(r == c)) = true; rw [beq_false_of h]; rfl
theorem bne_false_of {r c : Int} (h : r = c) : (r != c) = false := by show (!(r == c)) = false; rw [beq_true_of h]; rfl
theorem rem_true_of {r c : Int} (h0 : 0 ≤ r) (h : r % 2 = c) : (r.tmod 2 == c) = true := by rw [Int.tmod_eq_emod_of_nonneg h0]; exact beq_true_of h
theorem rem_false_of {r c : Int} (h0 : 0 ≤ r) (h : ¬ r % 2 = c) : (r.tmod 2 == c) = false := by rw [Int.tmod_eq_emod_of_nonneg h0]; exact beq_false_of h
def inB (r a b : Int) : Bool := decide (a ≤ r ∧ r ≤ b)
def evenB (r : Int) : Bool := decide (r % 2 = 0)
def GreatP (r : Int) : Prop := (65 ≤ r ∧ r ≤ 90) ∨ (192 ≤ r ∧ r ≤ 222 ∧ r ≠ 215) ∨ ((256 ≤ r ∧ r ≤ 311 ∨ 330 ≤ r ∧ r ≤ 375) ∧ r % 2 = 0) ∨ (313 ≤ r ∧ r ≤ 328 ∧ r % 2 = 1) ∨ r = 376 ∨ r = 377 ∨ r = 379 ∨ r = 381 ∨ r = 902 ∨ (904 ≤ r ∧ r ≤ 906) ∨ r = 908 ∨ r = 910 ∨ r = 911 ∨ (913 ≤ r ∧ r ≤ 939 ∧ r ≠ 930) ∨ (1024 ≤ r ∧ r ≤ 1071)
instance (r : Int) : Decidable (GreatP r) := by unfold GreatP; infer_instance
def greatB (r : Int) : Bool := decide (GreatP r)
def SmallP (r : Int) : Prop := (97 ≤ r ∧ r ≤ 122) ∨ (223 ≤ r ∧ r ≤ 255 ∧ r ≠ 247) ∨ ((256 ≤ r ∧ r ≤ 311 ∨ 330 ≤ r ∧ r ≤ 375) ∧ r % 2 = 1) ∨ (313 ≤ r ∧ r ≤ 328 ∧ r % 2 = 0) ∨ r = 312 ∨ r = 329 ∨ r = 378 ∨ r = 380 ∨ r = 382 ∨ r = 383 ∨ r = 912 ∨ (940 ≤ r ∧ r ≤ 974) ∨ (1072 ≤ r ∧ r ≤ 1119)
instance (r : Int) : Decidable (SmallP r) := by unfold SmallP; infer_instance
def smallB (r : Int) : Bool := decide (SmallP r)
def lowI (r : Int) : Int := if ¬ GreatP r then r else if r = 304 then 105 else if r = 376 then 255 else if r = 902 then 940 else if r = 908 then 972 else if 904 ≤ r ∧ r ≤ 906 then r + 37 else if r = 910 ∨ r = 911 then r + 63 else if 1024 ≤ r ∧ r ≤ 1039 then r + 80 else if r < 256 ∨ r > 383 then r + 32 else r + 1
def kindI (r : Int) : Int := if r < 0 ∨ (55296 ≤ r ∧ r ≤ 57343) ∨ r > 1114111 then 0 else if GreatP r ∨ SmallP r then 1 else if 768 ≤ r ∧ r ≤ 879 then 2 else if 48 ≤ r ∧ r ≤ 57 then 3 else if r = 10 ∨ r = 13 then 4 else if r = 9 ∨ r = 32 ∨ r = 160 ∨ r = 8239 ∨ r = 8287 ∨ r = 12288 ∨ (8192 ≤ r ∧ r ≤ 8202) then 5 else if r = 45 ∨ (8208 ≤ r ∧ r ≤ 8213) then 6 else if r = 34 ∨ r = 39 ∨ r = 171 ∨ r = 187 ∨ r = 8249 ∨ r = 8250 ∨ (8216 ≤ r ∧ r ≤ 8223) then 7 else if r = 33 ∨ r = 44 ∨ r = 46 ∨ r = 58 ∨ r = 59 ∨ r = 63 ∨ r = 161 ∨ r = 183 ∨ r = 191 ∨ r = 8230 then 8 else if r < 32 ∨ (127 ≤ r ∧ r ≤ 159) ∨ (8203 ≤ r ∧ r ≤ 8207) ∨ r = 65279 then 9 else 10
theorem n1 (r a : Int) (h : ¬ r = a) : (r == a) = false := beq_false_of h
theorem n2 (r a b : Int) (h : ¬ (r = a ∨ r = b)) : (r == a) = false ∧ (r == b) = false := ⟨beq_false_of fun e => h (.inl e), n1 _ _ fun e => h (.inr e)⟩
theorem n3 (r a b c : Int) (h : ¬ (r = a ∨ r = b ∨ r = c)) : (r == a) = false ∧ (r == b) = false ∧ (r == c) = false := ⟨beq_false_of fun e => h (.inl e), n2 _ _ _ fun e => h (.inr e)⟩
theorem n4 (r a b c d : Int) (h : ¬ (r = a ∨ r = b ∨ r = c ∨ r = d)) : (r == a) = false ∧ (r == b) = false ∧ (r == c) = false ∧ (r == d) = false := ⟨beq_false_of fun e => h (.inl e), n3 _ _ _ _ fun e => h (.inr e)⟩
theorem n5 (r a b c d e : Int) (h : ¬ (r = a ∨ r = b ∨ r = c ∨ r = d ∨ r = e)) : (r == a) = false ∧ (r == b) = false ∧ (r == c) = false ∧ (r == d) = false ∧ (r == e) = false := ⟨beq_false_of fun e => h (.inl e), n4 _ _ _ _ _ fun e => h (.inr e)⟩
theorem n6 (r a b c d e f : Int) (h : ¬ (r = a ∨ r = b ∨ r = c ∨ r = d ∨ r = e ∨ r = f)) : (r == a) = false ∧ (r == b) = false ∧ (r == c) = false ∧ (r == d) = false ∧ (r == e) = false ∧ (r == f) = false := ⟨beq_false_of fun e => h (.inl e), n5 _ _ _ _ _ _ fun e => h (.inr e)⟩
theorem n7 (r a b c d e f g : Int) (h : ¬ (r = a ∨ r = b ∨ r = c ∨ r = d ∨ r = e ∨ r = f ∨ r = g)) : (r == a) = false ∧ (r == b) = false ∧ (r == c) = false ∧ (r == d) = false ∧ (r == e) = false ∧ (r == f) = false ∧ (r == g) = false := ⟨beq_false_of fun e => h (.inl e), n6 _ _ _ _ _ _ _ fun e => h (.inr e)⟩
theorem n8 (r a b c d e f g k : Int) (h : ¬ (r = a ∨ r = b ∨ r = c ∨ r = d ∨ r = e ∨ r = f ∨ r = g ∨ r = k)) : (r == a) = false ∧ (r == b) = false ∧ (r == c) = false ∧ (r == d) = false ∧ (r == e) = false ∧ (r == f) = false ∧ (r == g) = false ∧ (r == k) = false := ⟨beq_false_of fun e => h (.inl e), n7 _ _ _ _ _ _ _ _ fun e => h (.inr e)⟩
theorem dgt (r c : Int) (h : c ≤ r) : decide (c ≤ r) = true := decide_eq_true h
theorem dgf (r c : Int) (h : ¬ c ≤ r) : decide (c ≤ r) = false := decide_eq_false h
theorem dlt (r c : Int) (h : r ≤ c) : decide (r ≤ c) = true := decide_eq_true h
theorem dlf (r c : Int) (h : ¬ r ≤ c) : decide (r ≤ c) = false := decide_eq_false h
theorem dmt (r c : Int) (h : r < c) : decide (r < c) = true := decide_eq_true h
theorem dmf (r c : Int) (h : ¬ r < c) : decide (r < c) = false := decide_eq_false h
theorem dnt (r c : Int) (h : c < r) : decide (c < r) = true := decide_eq_true h
theorem dnf (r c : Int) (h : ¬ c < r) : decide (c < r) = false := decide_eq_false h
theorem it (r a b : Int) (h : a ≤ r ∧ r ≤ b) : inB r a b = true := decide_eq_true h
theorem inf (r a b : Int) (h : ¬ (a ≤ r ∧ r ≤ b)) : inB r a b = false := decide_eq_false h
theorem cr {f : Nat} {a : Array Value} {w : World} {v : Value} {Q : Ending → World → Prop} (h : Calls Tryz.prog f a w fun e w' => e = .returned v ∧ w = w') (k : Q (.returned v) w) : Calls Tryz.prog f a w Q := h.mono fun _ _ ⟨h1, h2⟩ => by rw [h1, ← h2]; exact k
theorem sp (r c : Int) {P : Prop} (h : r < c → P) (k : c ≤ r → P) : P := (Int.lt_or_le r c).elim h k
theorem pe (r : Int) {P : Prop} (h : r % 2 = 0 → P) (k : r % 2 = 1 → P) : P := (show r % 2 = 0 ∨ r % 2 = 1 by omega).elim h k
theorem e1 (r c : Int) (h : r = c) : (r == c) = true := beq_true_of h
theorem b1 (r c : Int) (h : ¬ r = c) : (r != c) = true := bne_true_of h
theorem b0 (r c : Int) (h : r = c) : (r != c) = false := bne_false_of h
theorem v1 (r : Int) (h : r % 2 = 0) : evenB r = true := decide_eq_true h
theorem v0 (r : Int) (h : ¬ r % 2 = 0) : evenB r = false := decide_eq_false h
theorem m1 (r c : Int) (h0 : 0 ≤ r) (h : r % 2 = c) : (r.tmod 2 == c) = true := rem_true_of h0 h
theorem m0 (r c : Int) (h0 : 0 ≤ r) (h : ¬ r % 2 = c) : (r.tmod 2 == c) = false := rem_false_of h0 h
theorem rk {k : IntKind} {a b : Int} (h : b = a) : Ending.returned (.int k a) = .returned (.int k b) := by rw [h]
theorem bits_even (r : Int) (h0 : 0 ≤ r) (h9 : r ≤ 1114111) : (bits .and .i32 r 1 == 0) = evenB r := by
 have h : bits .and .i32 r 1 = r % 2 := by
  obtain ⟨n, rfl⟩ := Int.eq_ofNat_of_zero_le h0
  have h1 : (BitVec.ofInt 32 (n : Int)).toNat = n := by
   rw [BitVec.ofInt_natCast, BitVec.toNat_ofNat]; exact Nat.mod_eq_of_lt (by omega)
  have h2 : (BitVec.ofInt 32 (1 : Int)).toNat = 1 := rfl
  show IntKind.i32.wrap ((BitVec.ofInt 32 (n : Int) &&& BitVec.ofInt 32 (1 : Int)).toNat : Int) = _
  rw [BitVec.toNat_and, h1, h2, Nat.and_one_is_mod]
  simp [IntKind.wrap, IntKind.bits, IntKind.signed]
  omega
 rw [h]
 unfold evenB
 by_cases h5 : r % 2 = 0
 ·rw [beq_true_of h5, decide_eq_true h5]
 ·rw [beq_false_of h5, decide_eq_false h5]
theorem even86_any (r : Int) (h0 : 0 ≤ r) (h9 : r ≤ 1114111) (w : World) : Calls Tryz.prog 188 #[.int .i32 r] w fun e w' => e = .returned (.bool (evenB r)) ∧ w = w' := by
 rw [← bits_even r h0 h9]
 go_enter Tryz.func188, Tryz.ntmps188
 go_wp2_with fail
 go_ret
 exact ⟨rfl, rfl⟩
theorem mark94_any (r : Int) (w : World) : Calls Tryz.prog 152 #[.int .i32 r] w fun e w' => e = .returned (.bool (inB r 768 879)) ∧ w = w' := by
 by_cases h1 : 768 ≤ r
 ·have h1' : decide (768 ≤ r) = true := decide_eq_true h1
  have hv : inB r 768 879 = decide (r ≤ 879) := by unfold inB; rw [Bool.decide_and, h1', Bool.true_and]
  rw [hv]
  go_enter Tryz.func152, Tryz.ntmps152
  go_wp2_with fail
  go_ret
  exact ⟨rfl, rfl⟩
 ·have h1' : decide (768 ≤ r) = false := decide_eq_false h1
  have hv : inB r 768 879 = false := by unfold inB; rw [Bool.decide_and, h1', Bool.false_and]
  rw [hv]
  go_enter Tryz.func152, Tryz.ntmps152
  go_wp2_with fail
  go_ret
  exact ⟨rfl, rfl⟩
end Go.Proofs.YteodfondjogmoaaGreatDoor.R
