/- Quantile of numbers that are not too great. Conditions: none beyond each theorem's own. -/
import Derived.Test.YthidjbobjjoekaaGreatCoH
import Derived.Deep.QuietTactic
import Derived.BigQuiet
namespace Go.Proofs.YthidjbobjjoekaaGreat
open Go.RowKit Go.Lib Go.Sort Go.Shelf
set_option linter.unusedVariables false
set_option linter.unusedSimpArgs false
set_option maxHeartbeats 2000000
open Ieee (infR ONE)
/-- between 0 and 1 -/
def InQ (q : Nat) : Prop := (ford q 0 = some .gt ∨ ford q 0 = some .eq) ∧ (ford q 4607182418800017408 = some .lt ∨ ford q 4607182418800017408 = some .eq)
structure Low (xs : List Nat) (v : Nat) : Prop where
  real : Ieee.Real v
  le : ∀ x ∈ xs, Ieee.key v ≤ Ieee.key x
  is : ∃ x ∈ xs, Ieee.key x = Ieee.key v
structure High (xs : List Nat) (v : Nat) : Prop where
  real : Ieee.Real v
  le : ∀ x ∈ xs, Ieee.key x ≤ Ieee.key v
  is : ∃ x ∈ xs, Ieee.key x = Ieee.key v
structure Mid (xs : List Nat) (v : Nat) : Prop where
  real : Ieee.Real v
  lo : ∃ x ∈ xs, Ieee.key x ≤ Ieee.key v
  hi : ∃ x ∈ xs, Ieee.key v ≤ Ieee.key x
theorem inq_key {q : Nat} (h : InQ q) : 0 ≤ Ieee.key q ∧ Ieee.key q ≤ Ieee.key ONE := by
  obtain ⟨h1, h2⟩ := h
  have hr : Ieee.Real q := by
    refine Decidable.byContradiction (p := Ieee.rung q ≤ infR) fun hn => ?_
    have := Ieee.order_nan_left q 0 hn
    have e : ford q 0 = none := this
    rw [e] at h1
    rcases h1 with h1 | h1 <;> cases h1
  have ho : Ieee.Real ONE := (Ieee.real_pos ONE (by decide)).1
  rw [← one_lit, show ford q ONE = some (compare (Ieee.key q) (Ieee.key ONE)) from Ieee.order_key q ONE hr ho] at h2
  rw [ord0 q hr] at h1
  constructor
  · rcases Int.lt_trichotomy (Ieee.key q) 0 with h | h | h
    · rw [Ieee.cmp_lt h] at h1; rcases h1 with h1 | h1 <;> cases h1
    · omega
    · omega
  · rcases Int.lt_trichotomy (Ieee.key q) (Ieee.key ONE) with h | h | h
    · omega
    · omega
    · rw [Ieee.cmp_gt h] at h2; rcases h2 with h2 | h2 <;> cases h2
theorem quant_out (w : World) (s : Value) (q : Nat) (h : ¬ InQ q) : Calls Tryz.prog 14 #[s, .float .f64 q] w fun e w' => e = .returned (.tuple #[.float .f64 0, .int .i64 2]) ∧ w = w' := by
  have hc : (ford q 0 = none ∨ ford q 0 = some .lt) ∨ ((ford q 0 = some .gt ∨ ford q 0 = some .eq) ∧ (ford q 4607182418800017408 = none ∨ ford q 4607182418800017408 = some .gt)) := by
    unfold InQ at h
    cases h1 : ford q 0 with
    | none => exact .inl (.inl rfl)
    | some o => cases o with
      | lt => exact .inl (.inr rfl)
      | eq => cases h2 : ford q 4607182418800017408 with
        | none => exact .inr ⟨.inr rfl, .inl rfl⟩
        | some o => cases o with
          | lt => exact absurd ⟨.inr h1, .inl h2⟩ h
          | eq => exact absurd ⟨.inr h1, .inr h2⟩ h
          | gt => exact .inr ⟨.inr rfl, .inr rfl⟩
      | gt => cases h2 : ford q 4607182418800017408 with
        | none => exact .inr ⟨.inl rfl, .inl rfl⟩
        | some o => cases o with
          | lt => exact absurd ⟨.inl h1, .inl h2⟩ h
          | eq => exact absurd ⟨.inl h1, .inr h2⟩ h
          | gt => exact .inr ⟨.inl rfl, .inr rfl⟩
  clear h
  unfold ford at hc
  rcases hc with (h | h) | ⟨h | h, h' | h'⟩
  all_goals
    go_enter Tryz.func14, Tryz.ntmps14
    go_wp2_with fail
    go_ret2
    exact ⟨rfl, rfl⟩
theorem fl_int (h : Nat) (hx : Ieee.rung h < infR) (hp : 0 ≤ Ieee.key h) (hf : Ieee.fl h < 9007199254740992) (w : World) : (convert 23 3 (.float .f64 (Ieee.flW h))).run Tryz.prog w = .ok (.int .i64 (Ieee.fl h : Nat)) w := by
  refine run_convert_float_int w 23 3 .f64 .i64 _ _ (by rw [Tryz.underlying23]; rfl) Tryz.underlying3 ?_
  have e : (FloatKind.f64.decode (Ieee.flW h)).toInt .zero = some ((Ieee.fl h : Nat) : Int) := Ieee.flW_int h hx hp (by omega)
  unfold floatToIntVal
  rw [e]
  have h1 : IntKind.i64.min = -9223372036854775808 := rfl
  have h2 : IntKind.i64.max = 9223372036854775807 := rfl
  show (if _ then _ else _) = _
  rw [if_pos ⟨by rw [h1]; omega, by rw [h2]; omega⟩]
/-- what the reckoning of a place comes to -/
structure Where (q n : Nat) where
  h : Nat
  i : Nat
  f : Nat
  mul : ∀ t w, (binOp .mul t (.float .f64 q) (.float .f64 (floatOfInt .f64 (n : Int)))).run Tryz.prog w = .ok (.float .f64 h) w
  floor : ∀ w, Calls Tryz.prog 40 #[.float .f64 h] w fun e w' => e = .returned (.float .f64 (Ieee.flW h)) ∧ w = w'
  conv : ∀ w, (convert 23 3 (.float .f64 (Ieee.flW h))).run Tryz.prog w = .ok (.int .i64 (i : Nat)) w
  sub : ∀ t w, (binOp .sub t (.float .f64 h) (.float .f64 (Ieee.flW h))).run Tryz.prog w = .ok (.float .f64 f) w
  le : i ≤ n
  fpos : Ieee.Pos f
  ffin : Ieee.rung f < infR
  zero : Ieee.key q = 0 → i = 0 ∧ ford f 0 = some .eq
  one : Ieee.key q = Ieee.key ONE → i = n
theorem where_any (q n : Nat) (hq : InQ q) (hn : n < 9007199254740992) : Nonempty (Where q n) := by
  have hk := inq_key hq
  obtain ⟨h, h1, h2, h3, h4, h5, h6⟩ := Ieee.where_ok q n (by omega) hk.1 hk.2
  obtain ⟨f, f1, f2, f3, f4⟩ := Ieee.part_ok h h3 h2.2 (by omega)
  exact ⟨⟨h, Ieee.fl h, f, fun t w => run_float_arith w .mul t .f64 _ _ _ h1, floor_any h h3 h2.2, fl_int h h3 h2.2 (by omega), fun t w => run_float_arith w .sub t .f64 _ _ _ f1, h4, f2, f3,
    fun z => ⟨(h5 z).2, by rw [ord0 f f2.1, f4 (h5 z).1]; rfl⟩, h6⟩⟩
theorem tame_rank {x : Nat} (h : Tame x) : rank x = Ieee.key x := by
  unfold rank
  rw [if_pos (Nat.le_of_lt (tame_fin h))]
theorem pick_ok {xs ys : List Nat} (S : Srt xs ys) (T : ∀ x ∈ xs, Tame x) {i x : Nat} (hx : ys[i]? = some x) (v : Nat) (hv : Ieee.Real v) (hk : Ieee.key v = Ieee.key x) :
    Mid xs v ∧ (i = 0 → Low xs v) ∧ (i + 1 = xs.length → High xs v) := by
  have mx : x ∈ xs := (S.mem x).1 (List.mem_of_getElem? hx)
  have place : ∀ y ∈ xs, ∃ j, ys[j]? = some y := fun y hy => List.getElem?_of_mem ((S.mem y).2 hy)
  refine ⟨⟨hv, ⟨x, mx, by rw [hk]; exact Int.le_refl _⟩, ⟨x, mx, by rw [hk]; exact Int.le_refl _⟩⟩, fun h => ⟨hv, fun y hy => ?_, ⟨x, mx, hk.symm⟩⟩, fun h => ⟨hv, fun y hy => ?_, ⟨x, mx, hk.symm⟩⟩⟩
  · obtain ⟨j, hj⟩ := place y hy
    have := S.up i j x y (by omega) hx hj
    rw [tame_rank (T x mx), tame_rank (T y hy)] at this
    rw [hk]; exact this
  · obtain ⟨j, hj⟩ := place y hy
    have hjl : j < xs.length := by rw [← S.len]; exact (List.getElem?_eq_some_iff.1 hj).1
    have := S.up j i y x (by omega) hj hx
    rw [tame_rank (T x mx), tame_rank (T y hy)] at this
    rw [hk]; exact this
theorem below_drewN {n : Nat} {a w : World} (h : Below n a w) (k : Nat) : Below n a (w.drewN k) := ⟨h.os, h.tape, h.output, h.size, h.block⟩
theorem order_ge (x y : Nat) (hx : Ieee.Real x) (hy : Ieee.Real y) (h : Ieee.key y ≤ Ieee.key x) : FloatKind.f64.format.order x y = some .gt ∨ FloatKind.f64.format.order x y = some .eq := by
  have e : FloatKind.f64.format.order x y = some (compare (Ieee.key x) (Ieee.key y)) := Ieee.order_key x y hx hy
  rw [e]
  rcases Int.lt_or_eq_of_le h with h | h
  · exact .inl (by rw [Ieee.cmp_gt h])
  · exact .inr (by rw [Ieee.cmp_eq h.symm])
theorem order_three (x y : Nat) (hx : Ieee.Real x) (hy : Ieee.Real y) : (FloatKind.f64.format.order x y = some .gt ∧ Ieee.key y < Ieee.key x) ∨ ((FloatKind.f64.format.order x y = some .lt ∨ FloatKind.f64.format.order x y = some .eq) ∧ Ieee.key x ≤ Ieee.key y) := by
  have e : FloatKind.f64.format.order x y = some (compare (Ieee.key x) (Ieee.key y)) := Ieee.order_key x y hx hy
  rcases Int.lt_or_le (Ieee.key y) (Ieee.key x) with h | h
  · exact .inl ⟨by rw [e, Ieee.cmp_gt h], h⟩
  · exact .inr ⟨order_le x y hx hy h, h⟩
set_option maxRecDepth 100000 in
theorem quant_any (w : World) (p : Option Addr) (c : Nat) (xs : List Nat) (q : Nat) (h : FloatsIn w p xs) (h1 : 1 ≤ xs.length) (hl : xs.length * 8 ≤ 140737488355328) (ht : ∀ x ∈ xs, Tame x) (hq : InQ q) :
    Calls Tryz.prog 14 #[.slice p xs.length c, .float .f64 q] w fun e w' => Below w.heap.size w w' ∧ ∃ v, e = .returned (.tuple #[.float .f64 v, .int .i64 0]) ∧ Mid xs v ∧ (Ieee.key q = 0 → Low xs v) ∧ (Ieee.key q = Ieee.key ONE → High xs v) := by
  have hC := hid (clone_any w p c xs h h1 hl)
  have hT := hid ht
  obtain ⟨WH⟩ := where_any q (xs.length - 1) hq (by omega)
  obtain ⟨hh, i, f, wm, wf, wc, ws, wle, wfp, wff, wz, wo⟩ := WH
  rw [show ((xs.length - 1 : Nat) : Int) = (xs.length : Int) - 1 by omega] at wm
  have hQ := hq
  unfold InQ ford at hQ
  obtain ⟨q1, q2⟩ := hQ
  have hne : ((xs.length : Int) == 0) = false := by rw [beq_eq_false_iff_ne]; omega
  clear h ht hq
  generalize hn : xs.length = n at *
  have hN := hid hn
  have hS := hid (fun w2 g cap => sort_floats w2 g cap xs)
  rw [hn] at hS
  clear hn
  have hFP := hid wfp
  have hFF := hid wff
  have hZ := hid wz
  have hO := hid wo
  clear wfp wff wz wo
  go_enter Tryz.func14, Tryz.ntmps14
  rcases q1 with q1 | q1 <;> rcases q2 with q2 | q2
  all_goals
    go_wp2_with fail
    with_reducible refine Calls.mono hC.out ?_
    rintro e w2 ⟨g, cap, rfl, hg1, hg2, hb, hcell, hfr⟩
    have hB := hid hb
    have hcon := hid (hS.out w2 g cap hcell hfr hg2 (by omega))
    clear hb hcell hfr
    go_wp2_with fail
    with_reducible refine Calls.mono hcon.out ?_
    rintro e w3 ⟨rfl, hlow, hg3, ys, hsrt, hys⟩
    obtain ⟨a0, ha0⟩ : ∃ x, ys[0]? = some x := ⟨_, List.getElem?_eq_getElem (by rw [hsrt.len, hN.out]; omega)⟩
    obtain ⟨x, hx⟩ : ∃ x, ys[i]? = some x := ⟨_, List.getElem?_eq_getElem (by rw [hsrt.len, hN.out]; omega)⟩
    have tx : Tame x := hT.out x ((hsrt.mem x).1 (List.mem_of_getElem? hx))
    have t0 : Tame a0 := hT.out a0 ((hsrt.mem a0).1 (List.mem_of_getElem? ha0))
    have o0 : FloatKind.f64.format.order a0 a0 = some .eq := Ieee.order_self a0 (Nat.le_of_lt (tame_fin t0))
    have c0 := hys 0 a0 ha0
    have cx := hys i x hx
    have hpos : (0 : Int) < (n : Int) := by omega
    have hBB := hid ((hB.out.trans (hlow _ hg1)))
    have hpk := hid (pick_ok hsrt hT.out hx)
    have hS2 := hid hsrt
    have hX := hid hx
    have hY := hid hys
    clear hlow hsrt ha0 hx hys t0
    go_wp2_with fail
    go_quiet (fail)
    go_wp2_with fail
    with_reducible refine Calls.mono (wf _) ?_
    rintro e w4 ⟨rfl, rfl⟩
    have end1 : ∀ v, Ieee.Real v → Ieee.key v = Ieee.key x → Mid xs v ∧ (Ieee.key q = 0 → Low xs v) ∧ (Ieee.key q = Ieee.key ONE → High xs v) := fun v hv hk => by
      obtain ⟨m1, m2, m3⟩ := hpk.out v hv hk
      exact ⟨m1, fun z => m2 (hZ.out z).1, fun z => m3 (by rw [hN.out, hO.out z]; omega)⟩
    have E1 := hid (end1 _ (key_zeroV x (Nat.le_of_lt (tame_fin tx))).1 (key_zeroV x (Nat.le_of_lt (tame_fin tx))).2)
    clear end1
    by_cases hA : (i : Int) + 1 = (n : Int)
    · go_wp2_with fail
      go_quiet (fail)
      go_wp2_with fail
      with_reducible refine Calls.mono (told_any _ _) ?_
      rintro e w5 ⟨rfl, rfl⟩
      go_wp2_with fail
      go_ret2
      exact ⟨below_drewN hBB.out _, _, rfl, E1.out⟩
    · have hAf : ((i : Int) + 1 == (n : Int)) = false := by rw [beq_eq_false_iff_ne]; exact hA
      have hAd : decide ((i : Int) + 1 = (n : Int)) = false := decide_eq_false hA
      obtain ⟨y, hy⟩ : ∃ y, ys[i + 1]? = some y := ⟨_, List.getElem?_eq_getElem (by rw [hS2.out.len, hN.out]; omega)⟩
      have my : y ∈ xs := (hS2.out.mem y).1 (List.mem_of_getElem? hy)
      have ty : Tame y := hT.out y my
      have mx : x ∈ xs := (hS2.out.mem x).1 (List.mem_of_getElem? hX.out)
      have cy := hY.out (i + 1) y hy
      have hxy : Ieee.key x ≤ Ieee.key y := by
        have := hS2.out.up i (i + 1) x y (by omega) hX.out hy
        rw [tame_rank tx, tame_rank ty] at this
        exact this
      have hXY := hid hxy
      have hMx := hid mx
      have hMy := hid my
      clear hy my mx hxy
      have hi1 : (i : Int) + 1 < (n : Int) := by omega
      have of := order_ge f 0 hFP.out.1 (Ieee.real_pos 0 (Nat.zero_le _)).1 (by rw [(Ieee.real_pos 0 (Nat.zero_le _)).2.2.2]; exact hFP.out.2)
      rcases of with of | of
      case' inr =>
        go_wp2_with fail
        go_quiet (fail)
        go_wp2_with fail
        with_reducible refine Calls.mono (told_any _ _) ?_
        rintro e w5 ⟨rfl, rfl⟩
        go_wp2_with fail
        go_ret2
        exact ⟨below_drewN hBB.out _, _, rfl, E1.out⟩
      have oyx := order_ge y x (Nat.le_of_lt (tame_fin ty)) (Nat.le_of_lt (tame_fin tx)) hXY.out
      rcases oyx with oyx | oyx
      case' inr =>
        go_wp2_with fail
        go_quiet (fail)
        go_wp2_with fail
        with_reducible refine Calls.mono (told_any _ _) ?_
        rintro e w5 ⟨rfl, rfl⟩
        go_wp2_with fail
        go_ret2
        exact ⟨below_drewN hBB.out _, _, rfl, E1.out⟩
      obtain ⟨d, pp, v, b1, b2, b3, b4, b5⟩ := Ieee.between x y f tx ty hXY.out hFP.out hFF.out
      have ha : ∀ T w, (binOp .sub T (.float .f64 y) (.float .f64 x)).run Tryz.prog w = .ok (.float .f64 d) w := fun T w => run_float_arith w .sub T .f64 _ _ _ b1
      have hb' : ∀ T w, (binOp .mul T (.float .f64 f) (.float .f64 d)).run Tryz.prog w = .ok (.float .f64 pp) w := fun T w => run_float_arith w .mul T .f64 _ _ _ b2
      have hc' : ∀ T w, (binOp .add T (.float .f64 x) (.float .f64 pp)).run Tryz.prog w = .ok (.float .f64 v) w := fun T w => run_float_arith w .add T .f64 _ _ _ b3
      have hb4 := hid b4
      have hb5 := hid b5
      have nz : Hid (Ieee.key q ≠ 0) := hid fun z => by have := (hZ.out z).2; unfold ford at this; rw [of] at this; cases this
      have no : Hid (Ieee.key q ≠ Ieee.key ONE) := hid fun z => by have := hO.out z; omega
      have o3 := order_three v y b4 (Nat.le_of_lt (tame_fin ty))
      clear b1 b2 b3 b4 b5
      rcases o3 with ⟨o3, o4⟩ | ⟨o3 | o3, o4⟩
      all_goals
        have hO4 := hid o4
        clear o4
        go_wp2_with fail
        go_quiet (fail)
        go_wp2_with fail
        go_quiet (fail)
        go_wp2_with fail
        with_reducible refine Calls.mono (told_any _ _) ?_
        rintro e w5 ⟨rfl, rfl⟩
        go_wp2_with fail
        go_ret2
        first
          | exact ⟨below_drewN hBB.out _, _, rfl, ⟨(key_zeroV y (Nat.le_of_lt (tame_fin ty))).1, ⟨x, hMx.out, by rw [(key_zeroV y (Nat.le_of_lt (tame_fin ty))).2]; exact hXY.out⟩, ⟨y, hMy.out, by rw [(key_zeroV y (Nat.le_of_lt (tame_fin ty))).2]; exact Int.le_refl _⟩⟩, fun z => absurd z nz.out, fun z => absurd z no.out⟩
          | exact ⟨below_drewN hBB.out _, _, rfl, ⟨(key_zeroV v hb4.out).1, ⟨x, hMx.out, by rw [(key_zeroV v hb4.out).2]; exact hb5.out⟩, ⟨y, hMy.out, by rw [(key_zeroV v hb4.out).2]; exact hO4.out⟩⟩, fun z => absurd z nz.out, fun z => absurd z no.out⟩
end Go.Proofs.YthidjbobjjoekaaGreat
