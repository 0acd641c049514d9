/- Mean and Spread of numbers that are not too great. Conditions: none beyond each theorem's own. -/
import Derived.Test.YthidjbobjjoekaaGreatCoF
namespace Go.Proofs.YthidjbobjjoekaaGreat
open Go.RowKit Go.Lib
set_option linter.unusedVariables false
set_option linter.unusedSimpArgs false
set_option maxHeartbeats 1000000
open Ieee (infR)
/-- floats that lie in memory -/
structure FloatsIn (w : World) (p : Option Addr) (xs : List Nat) : Prop where
  at_ : ∀ k x, xs[k]? = some x → ∃ g off, p = some ⟨g, off, none⟩ ∧ g < w.heap.size ∧ w.cell? ⟨g, off + k, none⟩ = some (.float .f64 x)
  bits : ∀ x ∈ xs, x < 18446744073709551616
theorem FloatsIn.low {w w' : World} {p : Option Addr} {xs : List Nat} (h : FloatsIn w p xs) {n : Nat} (hn : w.heap.size ≤ n) (hb : Below n w w') : FloatsIn w' p xs :=
  ⟨fun k x hx => by
    obtain ⟨g, off, e, hg, hc⟩ := h.at_ k x hx
    refine ⟨g, off, e, Nat.lt_of_lt_of_le hg hb.size, ?_⟩
    have e1 := hb.block g (by omega)
    exact (World.cell?_of_block (a := ⟨g, off + k, none⟩) e1).trans hc, h.bits⟩
theorem tame_fin {x : Nat} (h : Tame x) : Ieee.rung x < infR := by
  have hi : infR = 2047 * 2 ^ 52 := rfl
  unfold Tame at h
  omega
theorem quo_num (s : Nat) (n : Nat) (h1 : 1 ≤ n) (hn : n < 9007199254740992) (hs : Ieee.Real s) :
    ∃ r, Ieee.Real r ∧ (0 ≤ Ieee.key s → Ieee.Pos r) ∧ ∀ t w, (binOp .quo t (.float .f64 s) (.float .f64 (floatOfInt .f64 (n : Int)))).run Tryz.prog w = .ok (.float .f64 r) w := by
  have h := Ieee.num_pos n h1 (by omega)
  obtain ⟨r, e, a, b⟩ := Ieee.div_num s (Ieee.intF (n : Int)) hs h.1 h.2
  exact ⟨r, a, b, fun t w => run_float_arith w .quo t .f64 _ _ _ e⟩
theorem mean_any (w : World) (p : Option Addr) (c : Nat) (xs : List Nat) (h : FloatsIn w p xs) (h1 : 1 ≤ xs.length) (hl : xs.length < 9007199254740992) (ht : ∀ x ∈ xs, Tame x) :
    Calls Tryz.prog 36 #[.slice p xs.length c] w fun e w' => ∃ m, e = .returned (.float .f64 m) ∧ Ieee.Real m ∧ w = w' := by
  have H := hid h
  have hT := hid ht
  clear h ht
  generalize hn : xs.length = n at *
  have hN := hid hn
  clear hn
  go_enter Tryz.func36, Tryz.ntmps36
  go_wp2_with fail
  go_loop [3, 8] (fun s i => ∃ (k t : Nat), k ≤ n ∧ i = .int .i64 k ∧ s = .float .f64 t ∧ Ieee.Real t) (fun _ i => n - (intOf i).toNat)
  case atStart => exact ⟨0, 0, by omega, rfl, rfl, (Ieee.real_pos 0 (Nat.zero_le _)).1⟩
  case round =>
    obtain ⟨k, t, hk, rfl, rfl, hr⟩ := hrel
    have hR := hid hr
    clear hr
    by_cases hlt : k < n
    · obtain ⟨x, hx⟩ : ∃ x, xs[k]? = some x := ⟨_, List.getElem?_eq_getElem (by rw [hN.out]; exact hlt)⟩
      obtain ⟨g, off, rfl, hg, hc⟩ := H.out.at_ k x hx
      obtain ⟨r, e1, e2⟩ := Ieee.add_fin t x hR.out (tame_fin (hT.out x (List.mem_of_getElem? hx)))
      have ha : ∀ T w, (binOp .add T (.float .f64 t) (.float .f64 x)).run Tryz.prog w = .ok (.float .f64 r) w := fun T w => run_float_arith w .add T .f64 _ _ _ e1
      have hX := hid hx
      have hR2 := hid e2
      clear hx e1 e2
      go_wp2_with fail
      go_round
      case rel => exact ⟨k + 1, r, by omega, by go_num, rfl, hR2.out⟩
      case measure => simp [intOf]; omega
    · obtain rfl : k = n := by omega
      obtain ⟨r, a, _, b⟩ := quo_num t k h1 hl hR.out
      go_wp2_with fail
      go_ret
      exact ⟨_, rfl, a, rfl⟩
theorem Mean_any (w : World) (p : Option Addr) (c : Nat) (xs : List Nat) (h : FloatsIn w p xs) (h1 : 1 ≤ xs.length) (hl : xs.length < 9007199254740992) (ht : ∀ x ∈ xs, Tame x) :
    Calls Tryz.prog 12 #[.slice p xs.length c] w fun e w' => ∃ m, e = .returned (.float .f64 m) ∧ Ieee.Real m ∧ w = w' := by
  have hM := hid (mean_any w p c xs h h1 hl ht)
  clear h ht
  go_enter Tryz.func12, Tryz.ntmps12
  go_wp2_with fail
  with_reducible refine Calls.mono hM.out ?_
  rintro e w' ⟨m, rfl, hm, rfl⟩
  go_wp2_with fail
  with_reducible refine Calls.mono (told_any _ _) ?_
  rintro e w' ⟨rfl, rfl⟩
  go_wp2_with fail
  go_ret
  exact ⟨_, rfl, (key_zeroV m hm).1, rfl⟩
theorem spread_any (w : World) (p : Option Addr) (c : Nat) (xs : List Nat) (h : FloatsIn w p xs) (h1 : 1 ≤ xs.length) (hl : xs.length < 9007199254740992) (ht : ∀ x ∈ xs, Tame x) :
    Calls Tryz.prog 13 #[.slice p xs.length c] w fun e w' => ∃ m, e = .returned (.float .f64 m) ∧ Ieee.Pos m ∧ w = w' := by
  have hM := hid (mean_any w p c xs h h1 hl ht)
  have H := hid h
  have hT := hid ht
  clear h ht
  generalize hn : xs.length = n at *
  have hN := hid hn
  clear hn
  go_enter Tryz.func13, Tryz.ntmps13
  go_wp2_with fail
  with_reducible refine Calls.mono hM.out ?_
  rintro e w' ⟨m, rfl, hm, rfl⟩
  have hMr := hid hm
  clear hm hM
  go_wp2_with fail
  go_loop [4, 16] (fun s i => ∃ (k t : Nat), k ≤ n ∧ i = .int .i64 k ∧ s = .float .f64 t ∧ Ieee.Pos t) (fun _ i => n - (intOf i).toNat)
  case atStart => exact ⟨0, 0, by omega, rfl, rfl, (Ieee.real_pos 0 (Nat.zero_le _)).1, by rw [(Ieee.real_pos 0 (Nat.zero_le _)).2.2.2]; exact Int.le_refl _⟩
  case round =>
    obtain ⟨k, t, hk, rfl, rfl, hr⟩ := hrel
    have hR := hid hr
    clear hr
    by_cases hlt : k < n
    · obtain ⟨x, hx⟩ : ∃ x, xs[k]? = some x := ⟨_, List.getElem?_eq_getElem (by rw [hN.out]; exact hlt)⟩
      obtain ⟨g, off, rfl, hg, hc⟩ := H.out.at_ k x hx
      obtain ⟨d, d1, d2⟩ := Ieee.sub_real x m (tame_fin (hT.out x (List.mem_of_getElem? hx))) hMr.out
      obtain ⟨q, q1, q2⟩ := Ieee.sq_pos d d2
      obtain ⟨r, e1, e2⟩ := Ieee.add_pos t q hR.out q2
      have ha : ∀ T w, (binOp .sub T (.float .f64 x) (.float .f64 m)).run Tryz.prog w = .ok (.float .f64 d) w := fun T w => run_float_arith w .sub T .f64 _ _ _ d1
      have hb : ∀ T w, (binOp .mul T (.float .f64 d) (.float .f64 d)).run Tryz.prog w = .ok (.float .f64 q) w := fun T w => run_float_arith w .mul T .f64 _ _ _ q1
      have hcc : ∀ T w, (binOp .add T (.float .f64 t) (.float .f64 q)).run Tryz.prog w = .ok (.float .f64 r) w := fun T w => run_float_arith w .add T .f64 _ _ _ e1
      have hX := hid hx
      have hR2 := hid e2
      clear hx e1 e2 d1 d2 q1 q2
      go_wp2_with fail
      go_round
      case rel => exact ⟨k + 1, r, by omega, by go_num, rfl, hR2.out⟩
      case measure => simp [intOf]; omega
    · obtain rfl : k = n := by omega
      obtain ⟨r, _, a, b⟩ := quo_num t k h1 hl hR.out.1
      obtain ⟨s, s1, s2⟩ := sqrt_any r (a hR.out.2)
      have hS := hid s2
      have hk := key_zeroV s s1.1
      clear s2
      go_wp2_with fail
      with_reducible refine Calls.mono (hS.out _) ?_
      rintro e w' ⟨rfl, rfl⟩
      go_wp2_with fail
      with_reducible refine Calls.mono (told_any _ _) ?_
      rintro e w' ⟨rfl, rfl⟩
      go_wp2_with fail
      go_ret
      exact ⟨_, rfl, ⟨hk.1, by rw [hk.2]; exact s1.2⟩, rfl⟩
end Go.Proofs.YthidjbobjjoekaaGreat
