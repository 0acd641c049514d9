/- The small functions of floats: math's words on bits, told, same, Order in both hands. Conditions: none. -/
import Derived.Test.YtmpkfpabejpbkaaGreatDoorProg
import Derived.Test.YtmpkfpabejpbkaaGreatDoorJCFlA
import Derived.Laws.FloatArith
import Derived.Laws.Externs
import Derived.WalkKit
import Derived.WalkSpells
import Derived.WalkLawsBesides
import Derived.Outline
import Derived.Lib.Hide
import Derived.LoopTactic
import Derived.Laws.BitsAllLaws
namespace Go.Proofs.YtmpkfpabejpbkaaGreatDoor.C
open Go.RowKit Go.Lib
set_option linter.unusedVariables false
set_option linter.unusedSimpArgs false
theorem e49 (x : Nat) (w : World) : (callFunc 38 #[.float .f64 x]).run Tryz.prog w = .ok (.value (.int .u64 x)) w := by
  rw [run_callFunc_extern Tryz.func38 (by kernel_rfl) (by kernel_rfl) (by kernel_rfl) (e := Extern.MathFloatBits.float64bits) (by kernel_rfl)]; rfl
theorem e53 (n : Int) (w : World) : (callFunc 44 #[.int .u64 n]).run Tryz.prog w = .ok (.value (.float .f64 n.toNat)) w := by
  rw [run_callFunc_extern Tryz.func44 (by kernel_rfl) (by kernel_rfl) (by kernel_rfl) (e := Extern.MathFloatBits.float64frombits) (by kernel_rfl)]; rfl
attribute [local go_sem] e49 e53
abbrev ford (x y : Nat) : Option Ordering := FloatKind.f64.format.order x y
theorem ord_self (x : Nat) : ford x x = some .eq ∨ ford x x = none := by
  by_cases h : Ieee.Real x
  · exact .inl (Ieee.order_self x h)
  · exact .inr (Ieee.order_nan_left x x h)
theorem same_refl (x : Nat) (w : World) : Calls Tryz.prog 13 #[.float .f64 x, .float .f64 x] w fun e w' => e = .returned (.bool true) ∧ w = w' := by
  rcases ord_self x with h | h
  all_goals
    unfold ford at h
    go_enter Tryz.func13, Tryz.ntmps13
    go_wp2
    go_ret
    exact ⟨rfl, rfl⟩
/-- a nought without a sign -/
def zeroV (x : Nat) : Nat := if ford x 0 == some .eq then 0 else x
theorem told_any (x : Nat) (w : World) : Calls Tryz.prog 40 #[.float .f64 x] w fun e w' => e = .returned (.float .f64 (zeroV x)) ∧ w = w' := by
  unfold zeroV
  cases h : (ford x 0 == some .eq)
  all_goals
    unfold ford at h
    go_enter Tryz.func40, Tryz.ntmps40
    go_wp2
    go_ret
    exact ⟨rfl, rfl⟩
def nanV : Nat := 9221120237041090561
def minfV : Nat := 18442240474082181120
theorem nan_any (w : World) : Calls Tryz.prog 39 #[] w fun e w' => e = .returned (.float .f64 nanV) ∧ w = w' := by
  go_enter Tryz.func39, Tryz.ntmps39
  go_wp2
  go_ret
  exact ⟨rfl, rfl⟩
theorem minf_any (w : World) : Calls Tryz.prog 42 #[.int .i64 (-1)] w fun e w' => e = .returned (.float .f64 minfV) ∧ w = w' := by
  go_enter Tryz.func42, Tryz.ntmps42
  go_wp2
  go_ret
  exact ⟨rfl, rfl⟩
theorem isinf_any (x : Nat) (w : World) : Calls Tryz.prog 43 #[.float .f64 x, .int .i64 1] w fun e w' => e = .returned (.bool (ford x 9218868437227405311 == some .gt)) ∧ w = w' := by
  go_enter Tryz.func43, Tryz.ntmps43
  go_wp2
  go_ret
  exact ⟨rfl, rfl⟩
/-- Order's number -/
def ordN : Option Ordering → Option Ordering → Option Ordering → Int
  | none, none, _ => 0
  | none, _, _ => -1
  | _, none, _ => 1
  | _, _, some .lt => -1
  | _, _, some .gt => 1
  | _, _, _ => 0
def ordV (x y : Nat) : Int := ordN (ford x x) (ford y y) (ford x y)
theorem ord_cases (x y : Nat) : (ford x x = none ∧ ford y y = none ∧ ford x y = none) ∨ (ford x x = none ∧ ford y y = some .eq ∧ ford x y = none) ∨ (ford x x = some .eq ∧ ford y y = none ∧ ford x y = none) ∨
    (ford x x = some .eq ∧ ford y y = some .eq ∧ (ford x y = some .lt ∨ ford x y = some .eq ∨ ford x y = some .gt)) := by
  by_cases hx : Ieee.Real x
  · by_cases hy : Ieee.Real y
    · refine .inr (.inr (.inr ⟨Ieee.order_self x hx, Ieee.order_self y hy, ?_⟩))
      have h : ford x y = some (compare (Ieee.key x) (Ieee.key y)) := Ieee.order_key x y hx hy
      rw [h]
      cases compare (Ieee.key x) (Ieee.key y)
      · exact .inl rfl
      · exact .inr (.inl rfl)
      · exact .inr (.inr rfl)
    · exact .inr (.inr (.inl ⟨Ieee.order_self x hx, Ieee.order_nan_left y y hy, Ieee.order_nan_right x y hy⟩))
  · by_cases hy : Ieee.Real y
    · exact .inr (.inl ⟨Ieee.order_nan_left x x hx, Ieee.order_self y hy, Ieee.order_nan_left x y hx⟩)
    · exact .inl ⟨Ieee.order_nan_left x x hx, Ieee.order_nan_left y y hy, Ieee.order_nan_left x y hx⟩
end Go.Proofs.YtmpkfpabejpbkaaGreatDoor.C
/- Log2 in both hands: count.Log2 and the document's come to one number of bits. Conditions: none beyond each theorem's own. -/
namespace Go.Proofs.YtmpkfpabejpbkaaGreatDoor.C
open Go.RowKit Go.Lib
attribute [local go_sem] e49 e53
set_option linter.unusedVariables false
set_option linter.unusedSimpArgs false
open Ieee (lsN ls LsOk lgE lgF lgK ONE TWO infR)
theorem two_lit : TWO = 4611686018427387904 := by unfold TWO; omega
theorem one_lit : ONE = 4607182418800017408 := by unfold ONE; omega
theorem inf_lit : infR = 9218868437227405312 := by unfold infR; omega
/-- what a round of the loop does, in the walk's own words -/
theorem ls_facts (k : Nat) (hk : k < 52) (m y s : Nat) (h : LsOk k (m, y, s)) : ∃ m1 s1,
    (∀ t w, (binOp .mul t (.float .f64 m) (.float .f64 m)).run Tryz.prog w = .ok (.float .f64 m1) w) ∧
    (∀ t w, (binOp .quo t (.float .f64 s) (.float .f64 4611686018427387904)).run Tryz.prog w = .ok (.float .f64 s1) w) ∧
    ((∃ m2 y1, (FloatKind.f64.format.order m1 4611686018427387904 = some .gt ∨ FloatKind.f64.format.order m1 4611686018427387904 = some .eq) ∧
      (∀ t w, (binOp .quo t (.float .f64 m1) (.float .f64 4611686018427387904)).run Tryz.prog w = .ok (.float .f64 m2) w) ∧
      (∀ t w, (binOp .add t (.float .f64 y) (.float .f64 s1)).run Tryz.prog w = .ok (.float .f64 y1) w) ∧ ls (m, y, s) = (m2, y1, s1)) ∨
     ((FloatKind.f64.format.order m1 4611686018427387904 = some .lt ∨ FloatKind.f64.format.order m1 4611686018427387904 = none) ∧ ls (m, y, s) = (m1, y, s1))) := by
  obtain ⟨m1, s1, e1, e2, e3, _⟩ := Ieee.ls_step k hk _ h
  rw [two_lit] at e2 e3
  refine ⟨m1, s1, fun t w => run_float_arith w .mul t .f64 m m m1 e1, fun t w => run_float_arith w .quo t .f64 s _ s1 e2, ?_⟩
  have hf : FloatKind.f64.format.order m1 4611686018427387904 = Ieee.double.order m1 4611686018427387904 := rfl
  rcases e3 with ⟨hg, m2, y1, e4, e5, e6⟩ | ⟨hg, e6⟩
  · refine .inl ⟨m2, y1, ?_, fun t w => run_float_arith w .quo t .f64 m1 _ m2 e4, fun t w => run_float_arith w .add t .f64 y s1 y1 e5, e6⟩
    unfold Ieee.ge2 at hg
    rw [two_lit] at hg
    rw [hf]
    simpa using hg
  · refine .inr ⟨?_, e6⟩
    unfold Ieee.ge2 at hg
    rw [two_lit] at hg
    rw [hf]
    revert hg
    cases Ieee.double.order m1 4611686018427387904 with
    | none => intro _; exact .inr rfl
    | some o => cases o <;> simp
/-- of a positive number: what the loops start with -/
def lgT (x : Nat) : Nat × Nat × Nat := (ONE + lgF x, floatOfInt .f64 (lgE x), ONE)
theorem lgT_ok (x : Nat) (h0 : 0 < x) : LsOk 0 (lgT x) := by
  have := Ieee.lgF_lt x h0
  have h1 : ONE + lgF x ≤ infR := by unfold ONE infR; omega
  exact ⟨(Ieee.real_pos _ h1).1, Ieee.real_nearest _ _ _, rfl⟩
def lgR (x : Nat) : Nat := zeroV (lsN 52 (lgT x)).2.1
theorem lg_bits (x : Nat) (h : x < 9223372036854775808) : (bits .or .u64 (bits .and .u64 (x : Int) 4503599627370495) 4607182418800017408).toNat = ONE + x % 2 ^ 52 := by
  have h1 := u64_and_nat x 4503599627370495 (by omega) (by omega)
  have e1 : x &&& 4503599627370495 = x % 2 ^ 52 := Nat.and_two_pow_sub_one_eq_mod x 52
  rw [e1] at h1
  have hm : x % 2 ^ 52 < 2 ^ 52 := Nat.mod_lt _ (by omega)
  have h2 := u64_or_nat (x % 2 ^ 52) 4607182418800017408 (by omega) (by omega)
  have e2 : x % 2 ^ 52 ||| 4607182418800017408 = ONE + x % 2 ^ 52 := by
    have := Nat.two_pow_add_eq_or_of_lt hm 1023
    rw [Nat.or_comm, ← show 2 ^ 52 * 1023 = 4607182418800017408 by omega, ← this, one_lit]
  rw [e2] at h2
  have h1' : bits .and .u64 (x : Int) 4503599627370495 = ((x % 2 ^ 52 : Nat) : Int) := h1
  have h2' : bits .or .u64 ((x % 2 ^ 52 : Nat) : Int) 4607182418800017408 = ((ONE + x % 2 ^ 52 : Nat) : Int) := h2
  rw [h1', h2', Int.toNat_natCast]
theorem fl_eq {a b : Nat} (h : a = b) : Value.float .f64 a = .float .f64 b := by rw [h]
set_option maxHeartbeats 1000000 in
theorem log2_normal (x : Nat) (hx : x < 9218868437227405312) (h0 : 4503599627370496 ≤ x) (h1 : ford x x = some .eq) (h2 : ford x 0 = some .gt) (h3 : (ford x 9218868437227405311 == some .gt) = false) (w : World) :
    Calls Tryz.prog 18 #[.float .f64 x] w fun e w' => e = .returned (.float .f64 (lgR x)) ∧ w = w' := by
  have hI := hid (isinf_any x w)
  have hT := hid (fun W => told_any (lsN 52 (lgT x)).2.1 W)
  have hok := hid (Ieee.lsN_ok _ (lgT_ok x (by omega)))
  have ht : ((x : Int) / 4503599627370496 == 0) = false := by rw [beq_eq_false_iff_ne]; omega
  have hM := hid (lg_bits x (by omega))
  have hlF : lgF x = x % 2 ^ 52 := by unfold lgF; rw [if_neg (by omega)]
  have hlE : lgE x = (x : Int) / 4503599627370496 - 1023 := by unfold lgE; rw [if_neg (by omega)]; omega
  have hE := hid (show lgT x = (ONE + x % 2 ^ 52, floatOfInt .f64 ((x : Int) / 4503599627370496 - 1023), ONE) by unfold lgT; rw [hlF, hlE])
  clear hlF hlE
  unfold lgR
  generalize lgT x = t0 at hT hok hE ⊢
  rw [h3] at hI
  unfold ford at h1 h2
  clear h3
  go_enter Tryz.func18, Tryz.ntmps18
  go_wp2_with fail
  with_reducible refine Calls.mono hI.out ?_
  rintro e w' ⟨rfl, rfl⟩
  clear hI
  go_wp2_with fail
  go_loop [5, 6, 7, 48] (fun m y s c => ∃ k : Nat, k ≤ 52 ∧ c = .int .i64 k ∧ m = .float .f64 (lsN k t0).1 ∧ y = .float .f64 (lsN k t0).2.1 ∧ s = .float .f64 (lsN k t0).2.2) (fun _ _ _ c => 52 - (intOf c).toNat)
  case atStart => exact ⟨0, by omega, rfl, fl_eq (by rw [hM.out, hE.out]; rfl), fl_eq (by rw [hE.out]; rfl), fl_eq (by rw [hE.out, ← one_lit]; rfl)⟩
  case round =>
    obtain ⟨k, hk, rfl, rfl, rfl, rfl⟩ := hrel
    by_cases hlt : k < 52
    · have hS := hok.out k (by omega)
      have hnx := hid (show lsN (k + 1) t0 = ls (lsN k t0) from rfl)
      generalize lsN k t0 = T at hS hnx ⊢
      obtain ⟨m, y, s⟩ := T
      dsimp only at hnx ⊢
      obtain ⟨m1, s1, a1, a2, ⟨m2, y1, h5, a3, a4, e6⟩ | ⟨h5, e6⟩⟩ := ls_facts k hlt m y s hS
      all_goals
        have hN := hid (hnx.out.trans e6)
        clear hnx e6 hS
        rcases h5 with h5 | h5
        all_goals
          go_wp2_with fail
          go_round
          case rel => exact ⟨k + 1, by omega, by go_num, fl_eq (by rw [hN.out]), fl_eq (by rw [hN.out]), fl_eq (by rw [hN.out])⟩
          case measure => simp [intOf]; omega
    · obtain rfl : k = 52 := by omega
      go_wp2_with fail
      with_reducible refine Calls.mono (hT.out _) ?_
      rintro e w' ⟨rfl, rfl⟩
      go_wp2_with fail
      go_ret
      exact ⟨rfl, rfl⟩
set_option maxHeartbeats 1000000 in
theorem log2_least (x : Nat) (h0 : 0 < x) (hx : x < 4503599627370496) (h1 : ford x x = some .eq) (h2 : ford x 0 = some .gt) (h3 : (ford x 9218868437227405311 == some .gt) = false) (w : World) :
    Calls Tryz.prog 18 #[.float .f64 x] w fun e w' => e = .returned (.float .f64 (lgR x)) ∧ w = w' := by
  have hI := hid (isinf_any x w)
  have hT := hid (fun W => told_any (lsN 52 (lgT x)).2.1 W)
  have hok := hid (Ieee.lsN_ok _ (lgT_ok x h0))
  have ht : ((x : Int) / 4503599627370496 == 0) = true := by rw [beq_iff_eq]; omega
  have hlo := hid (Ieee.lgK_lo x h0 hx)
  have hhi := Ieee.lgK_hi x h0 hx
  have hkp := Ieee.lgK_pos x h0 hx
  have hM := hid (lg_bits (2 ^ lgK x * x) (by omega))
  have hmod : 2 ^ lgK x * x % 2 ^ 52 = 2 ^ lgK x * x - 2 ^ 52 := by omega
  have hlF : lgF x = 2 ^ lgK x * x % 2 ^ 52 := by unfold lgF; rw [if_pos hx, hmod]
  have hlE : lgE x = -(lgK x : Int) + 1 - 1023 := by unfold lgE; rw [if_pos hx]; omega
  have hE := hid (show lgT x = (ONE + 2 ^ lgK x * x % 2 ^ 52, floatOfInt .f64 (-(lgK x : Int) + 1 - 1023), ONE) by unfold lgT; rw [hlF, hlE])
  clear hlF hlE hmod
  unfold lgR
  generalize lgT x = t0 at hT hok hE ⊢
  obtain ⟨hi1, hi2⟩ := hhi
  obtain ⟨hk1, hk2⟩ := hkp
  generalize lgK x = K at *
  rw [h3] at hI
  unfold ford at h1 h2
  clear h3
  have hHi1 := hid hi1
  have hHi2 := hid hi2
  clear hi1 hi2
  go_enter Tryz.func18, Tryz.ntmps18
  go_wp2_with fail
  with_reducible refine Calls.mono hI.out ?_
  rintro e w' ⟨rfl, rfl⟩
  clear hI
  go_wp2_with fail
  go_loop [3, 4] (fun b e => ∃ i : Nat, i ≤ K ∧ b = .int .u64 ((2 ^ i * x : Nat) : Int) ∧ e = .int .i64 (-(i : Int))) (fun _ e => (K + (intOf e)).toNat)
  case atStart => exact ⟨0, by omega, by simp, by go_num⟩
  case round =>
    obtain ⟨i, hi, rfl, rfl⟩ := hrel
    by_cases hlt : i < K
    · have hb := hlo.out i hlt
      have hb1 : 2 ^ i * x < 4503599627370496 := hb
      have hnx := hid (show 2 ^ (i + 1) * x = 2 ^ i * x * 2 by rw [Nat.pow_succ, Nat.mul_assoc, Nat.mul_comm 2 x, ← Nat.mul_assoc])
      generalize 2 ^ i * x = b at hb1 hnx ⊢
      clear hb
      have htt : ((b : Int) / 4503599627370496 == 0) = true := by rw [beq_iff_eq]; omega
      go_wp2_with fail
      go_round
      case rel => exact ⟨i + 1, by omega, by rw [hnx.out]; go_num, by go_num⟩
      case measure => simp [intOf]; omega
    · obtain rfl : i = K := by omega
      have hh1 := hHi1.out
      have hh2 := hHi2.out
      generalize 2 ^ i * x = b at hh1 hh2 hM hE ⊢
      have hb1 : b < 9007199254740992 := hh2
      have hb2 : 4503599627370496 ≤ b := hh1
      clear hh1 hh2
      have htt : ((b : Int) / 4503599627370496 == 0) = false := by rw [beq_eq_false_iff_ne]; omega
      go_wp2_with fail
      go_loop [5, 6, 7, 48] (fun m y s c => ∃ k : Nat, k ≤ 52 ∧ c = .int .i64 k ∧ m = .float .f64 (lsN k t0).1 ∧ y = .float .f64 (lsN k t0).2.1 ∧ s = .float .f64 (lsN k t0).2.2) (fun _ _ _ c => 52 - (intOf c).toNat)
      case atStart => exact ⟨0, by omega, rfl, fl_eq (by rw [hM.out, hE.out]; rfl), fl_eq (by rw [hE.out]; rfl), fl_eq (by rw [hE.out, ← one_lit]; rfl)⟩
      case round =>
        obtain ⟨k, hk, rfl, rfl, rfl, rfl⟩ := hrel
        by_cases hlt : k < 52
        · have hS := hok.out k (by omega)
          have hnx := hid (show lsN (k + 1) t0 = ls (lsN k t0) from rfl)
          generalize lsN k t0 = T at hS hnx ⊢
          obtain ⟨m, y, s⟩ := T
          dsimp only at hnx ⊢
          obtain ⟨m1, s1, a1, a2, ⟨m2, y1, h5, a3, a4, e6⟩ | ⟨h5, e6⟩⟩ := ls_facts k hlt m y s hS
          all_goals
            have hN := hid (hnx.out.trans e6)
            clear hnx e6 hS
            rcases h5 with h5 | h5
            all_goals
              go_wp2_with fail
              go_round
              case rel => exact ⟨k + 1, by omega, by go_num, fl_eq (by rw [hN.out]), fl_eq (by rw [hN.out]), fl_eq (by rw [hN.out])⟩
              case measure => simp [intOf]; omega
        · obtain rfl : k = 52 := by omega
          go_wp2_with fail
          with_reducible refine Calls.mono (hT.out _) ?_
          rintro e w' ⟨rfl, rfl⟩
          go_wp2_with fail
          go_ret
          exact ⟨rfl, rfl⟩
/-- the number of bits that Log2 tells -/
def log2V (x : Nat) : Nat :=
  if ford x x = none then nanV else if ford x 0 = some .lt then nanV else if ford x 0 = some .eq then minfV
  else if ford x 9218868437227405311 = some .gt then x else lgR x
set_option maxHeartbeats 1000000 in
theorem log2_odd (x : Nat) (hc : ford x x = none ∨ ford x x = some .eq ∧ (ford x 0 = some .lt ∨ ford x 0 = some .eq ∨ ford x 0 = some .gt ∧ ford x 9218868437227405311 = some .gt)) (w : World) :
    Calls Tryz.prog 18 #[.float .f64 x] w fun e w' => e = .returned (.float .f64 (log2V x)) ∧ w = w' := by
  have hI := hid (isinf_any x)
  have hN := hid nan_any
  have hF := hid minf_any
  rcases hc with h1 | ⟨h1, h2 | h2 | ⟨h2, h3⟩⟩
  · have e : log2V x = nanV := by unfold log2V; rw [if_pos h1]
    rw [e]
    unfold ford at h1
    go_enter Tryz.func18, Tryz.ntmps18
    go_wp2_with fail
    with_reducible refine Calls.mono (hN.out _) ?_
    rintro e w' ⟨rfl, rfl⟩
    go_wp2_with fail
    go_ret
    exact ⟨rfl, rfl⟩
  · have e : log2V x = nanV := by unfold log2V; rw [if_neg (by rw [h1]; simp), if_pos h2]
    rw [e]
    unfold ford at h1 h2
    go_enter Tryz.func18, Tryz.ntmps18
    go_wp2_with fail
    with_reducible refine Calls.mono (hN.out _) ?_
    rintro e w' ⟨rfl, rfl⟩
    go_wp2_with fail
    go_ret
    exact ⟨rfl, rfl⟩
  · have e : log2V x = minfV := by unfold log2V; rw [if_neg (by rw [h1]; simp), if_neg (by rw [h2]; simp), if_pos h2]
    rw [e]
    unfold ford at h1 h2
    go_enter Tryz.func18, Tryz.ntmps18
    go_wp2_with fail
    with_reducible refine Calls.mono (hF.out _) ?_
    rintro e w' ⟨rfl, rfl⟩
    go_wp2_with fail
    go_ret
    exact ⟨rfl, rfl⟩
  · have e : log2V x = x := by unfold log2V; rw [if_neg (by rw [h1]; simp), if_neg (by rw [h2]; simp), if_neg (by rw [h2]; simp), if_pos h3]
    rw [e]
    have hI2 := hid (hI.out w)
    rw [h3] at hI2
    unfold ford at h1 h2 h3
    go_enter Tryz.func18, Tryz.ntmps18
    go_wp2_with fail
    with_reducible refine Calls.mono hI2.out ?_
    rintro e w' ⟨rfl, rfl⟩
    go_wp2_with fail
    go_ret
    exact ⟨rfl, rfl⟩
end Go.Proofs.YtmpkfpabejpbkaaGreatDoor.C
/- The document's Log2 of a positive number, and both hands' Log2 of any number. Conditions: none beyond each theorem's own. -/
namespace Go.Proofs.YtmpkfpabejpbkaaGreatDoor.C
open Go.RowKit Go.Lib
attribute [local go_sem] e49 e53
set_option linter.unusedVariables false
set_option linter.unusedSimpArgs false
open Ieee (lsN ls LsOk lgE lgF lgK ONE TWO infR)
/-- how the document brings a number between 1 and 2: by halves, then by doubles -/
structure Ways (x : Nat) where
  A : Nat
  H : Nat → Nat
  B : Nat
  D : Nat → Nat
  h0 : H 0 = x
  hh : ∀ n, n < A → Ieee.double.div (H n) TWO = some (H (n + 1)) ∧ TWO ≤ H n ∧ H n < infR
  hA : H A < TWO
  d0 : D 0 = H A
  dd : ∀ n, n < B → Ieee.double.mul (D n) TWO = some (D (n + 1)) ∧ D n < ONE
  dB : D B = ONE + lgF x
  he : (A : Int) - B = lgE x
  bA : A ≤ 5000
  bB : B ≤ 5000
theorem ways (x : Nat) (h0 : 0 < x) (hx : x < infR) : Nonempty (Ways x) := by
  have hi : infR = 2047 * 2 ^ 52 := rfl
  have hO : ONE = 1023 * 2 ^ 52 := rfl
  have hT : TWO = 1024 * 2 ^ 52 := rfl
  have hF := Ieee.lgF_lt x h0
  by_cases h1 : x < 2 ^ 52
  · refine ⟨⟨0, fun _ => x, lgK x + 1022, Ieee.up x, rfl, fun n hn => absurd hn (by omega), by show x < TWO; omega, by simp [Ieee.up], fun n hn => ⟨(Ieee.up_step x h0 h1 n hn).1, (Ieee.up_step x h0 h1 n hn).2.2⟩, Ieee.up_end x h0 h1, ?_, by omega, ?_⟩⟩
    · unfold lgE; rw [if_pos h1]; omega
    · have := (Ieee.lgK_pos x h0 h1).2; omega
  · have hE := Nat.div_add_mod x (2 ^ 52)
    have hf : lgF x = x % 2 ^ 52 := by unfold lgF; rw [if_neg h1]
    have he : lgE x = (x / 2 ^ 52 : Nat) - 1023 := by unfold lgE; rw [if_neg h1]
    have h2 : x / 2 ^ 52 < 2047 := by omega
    have h3 : 1 ≤ x / 2 ^ 52 := by omega
    rw [← hf] at hE
    generalize x / 2 ^ 52 = E at *
    have hx' : x = E * 2 ^ 52 + lgF x := by omega
    by_cases h4 : 1023 ≤ E
    · refine ⟨⟨E - 1023, fun n => (E - n) * 2 ^ 52 + lgF x, 0, fun _ => ONE + lgF x, ?_, fun n hn => ⟨?_, ?_, ?_⟩, ?_, ?_, fun n hn => absurd hn (by omega), rfl, by omega, by omega, by omega⟩⟩
      · show (E - 0) * 2 ^ 52 + lgF x = x; rw [Nat.sub_zero]; omega
      · have := Ieee.halve (E - n) (lgF x) (by omega) (by omega) hF
        show Ieee.double.div ((E - n) * 2 ^ 52 + lgF x) (1024 * 2 ^ 52) = some ((E - (n + 1)) * 2 ^ 52 + lgF x)
        rw [this, show E - n - 1 = E - (n + 1) by omega]
      · show TWO ≤ (E - n) * 2 ^ 52 + lgF x; omega
      · show (E - n) * 2 ^ 52 + lgF x < infR; omega
      · show (E - (E - 1023)) * 2 ^ 52 + lgF x < TWO; omega
      · show ONE + lgF x = (E - (E - 1023)) * 2 ^ 52 + lgF x; omega
    · refine ⟨⟨0, fun _ => x, 1023 - E, fun n => (E + n) * 2 ^ 52 + lgF x, rfl, fun n hn => absurd hn (by omega), by show x < TWO; omega, by show (E + 0) * 2 ^ 52 + lgF x = x; rw [Nat.add_zero]; omega, fun n hn => ⟨?_, ?_⟩, ?_, by omega, by omega, by omega⟩⟩
      · have := Ieee.dbl (E + n) (lgF x) (by omega) (by omega) hF
        show Ieee.double.mul ((E + n) * 2 ^ 52 + lgF x) (1024 * 2 ^ 52) = some ((E + (n + 1)) * 2 ^ 52 + lgF x)
        rw [this, show E + n + 1 = E + (n + 1) by omega]
      · show (E + n) * 2 ^ 52 + lgF x < ONE; omega
      · show (E + (1023 - E)) * 2 ^ 52 + lgF x = ONE + lgF x; omega
theorem ord_ge (x y : Nat) (hx : x < infR) (h : y ≤ x) : FloatKind.f64.format.order x y = some .gt ∨ FloatKind.f64.format.order x y = some .eq := by
  by_cases e : y = x
  · subst e; exact .inr (Ieee.order_self y (Ieee.real_pos y (by omega)).1)
  · exact .inl (Ieee.order_gt x y (by omega) (by omega))
theorem ord_lt (x y : Nat) (hy : y < infR) (h : x < y) : FloatKind.f64.format.order x y = some .lt := Ieee.order_lt x y (by omega) h
theorem fl_kinds (x : Nat) (hx : x < 18446744073709551616) : (ford x x = none ∨ ford x x = some .eq ∧ (ford x 0 = some .lt ∨ ford x 0 = some .eq ∨ ford x 0 = some .gt ∧ ford x 9218868437227405311 = some .gt)) ∨
    (ford x x = some .eq ∧ ford x 0 = some .gt ∧ (ford x 9218868437227405311 == some .gt) = false ∧ 0 < x ∧ x < infR) := by
  by_cases hr : Ieee.Real x
  · have h1 : ford x x = some .eq := Ieee.order_self x hr
    have h0 : Ieee.Real 0 := (Ieee.real_pos 0 (Nat.zero_le _)).1
    have k0 : Ieee.key 0 = 0 := (Ieee.real_pos 0 (Nat.zero_le _)).2.2.2
    have h2 : ford x 0 = some (compare (Ieee.key x) 0) := by rw [← k0]; exact Ieee.order_key x 0 hr h0
    rcases Int.lt_trichotomy (Ieee.key x) 0 with h | h | h
    · rw [Ieee.cmp_lt h] at h2
      exact .inl (.inr ⟨h1, .inl h2⟩)
    · rw [Ieee.cmp_eq h] at h2
      exact .inl (.inr ⟨h1, .inr (.inl h2)⟩)
    · rw [Ieee.cmp_gt h] at h2
      have hi : infR = 2047 * 2 ^ 52 := rfl
      have hs : Ieee.sgn x = false := by
        cases hs : Ieee.sgn x
        · rfl
        · unfold Ieee.key Ieee.sg at h
          rw [hs] at h
          simp at h
          omega
      have hx2 : x < 2 ^ 63 := by
        unfold Ieee.sgn at hs
        rw [beq_eq_false_iff_ne] at hs
        omega
      have hru : Ieee.rung x = x := by unfold Ieee.rung; omega
      have hle : x ≤ infR := by unfold Ieee.Real at hr; omega
      have hk := (Ieee.real_pos x hle).2.2.2
      have h3 : ford x 9218868437227405311 = some (compare (x : Int) (9218868437227405311 : Nat)) := Ieee.order_pos x 9218868437227405311 hle (by omega)
      by_cases h4 : 9218868437227405311 < x
      · rw [Ieee.cmp_gt (by omega)] at h3
        exact .inl (.inr ⟨h1, .inr (.inr ⟨h2, h3⟩)⟩)
      · refine .inr ⟨h1, h2, ?_, by omega, by omega⟩
        by_cases h5 : x = 9218868437227405311
        · rw [h3, Ieee.cmp_eq (by omega)]; rfl
        · rw [h3, Ieee.cmp_lt (by omega)]; rfl
  · exact .inl (.inl (Ieee.order_nan_left x x hr))
theorem log2V_pos (x : Nat) (h1 : ford x x = some .eq) (h2 : ford x 0 = some .gt) (h3 : (ford x 9218868437227405311 == some .gt) = false) : log2V x = lgR x := by
  unfold log2V
  rw [if_neg (by rw [h1]; simp), if_neg (by rw [h2]; simp), if_neg (by rw [h2]; simp), if_neg (by simpa using h3)]
/-- count.Log2 of any number -/
theorem log2_any (x : Nat) (hx : x < 18446744073709551616) (w : World) : Calls Tryz.prog 18 #[.float .f64 x] w fun e w' => e = .returned (.float .f64 (log2V x)) ∧ w = w' := by
  rcases fl_kinds x hx with h | ⟨h1, h2, h3, h4, h5⟩
  · exact log2_odd x h w
  · rw [log2V_pos x h1 h2 h3]
    rw [inf_lit] at h5
    by_cases h6 : x < 4503599627370496
    · exact log2_least x h4 h6 h1 h2 h3 w
    · exact log2_normal x h5 (by omega) h1 h2 h3 w
end Go.Proofs.YtmpkfpabejpbkaaGreatDoor.C
