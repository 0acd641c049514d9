/- count.Quantile of any numbers. Conditions: none beyond each theorem's own. -/
import Derived.Test.YthidjbobjjoekaaGreatCoQ
namespace Go.Proofs.YthidjbobjjoekaaGreat
open Go.RowKit Go.Lib Go.Sort Go.Shelf
set_option linter.unusedVariables false
set_option linter.unusedSimpArgs false
set_option maxHeartbeats 2000000
open Ieee (infR ONE)
theorem nq_ne (o : Ordering) : ((none : Option Ordering) != some o) = true := by cases o <;> rfl
theorem nq_eq (o : Ordering) : ((none : Option Ordering) == some o) = false := by cases o <;> rfl
attribute [local go_sem] nq_ne nq_eq
theorem quant_none (w : World) (p : Option Addr) (c q : Nat) (hq : InQ q) : Calls Tryz.prog 14 #[.slice p 0 c, .float .f64 q] w fun e w' => e = .returned (.tuple #[.float .f64 0, .int .i64 4]) ∧ w = w' := by
  unfold InQ ford at hq
  obtain ⟨q1, q2⟩ := hq
  go_enter Tryz.func14, Tryz.ntmps14
  rcases q1 with q1 | q1 <;> rcases q2 with q2 | q2
  all_goals
    go_wp2_with fail
    go_ret2
    exact ⟨rfl, rfl⟩
set_option maxRecDepth 100000 in
theorem quant26 (w : World) (p : Option Addr) (c : Nat) (xs : List Nat) (q : Nat) (h : FloatsIn w p xs) (h1 : 1 ≤ xs.length) (hl : xs.length * 8 ≤ 140737488355328) (hq : InQ q) (WH : Where q (xs.length - 1)) :
    Calls Tryz.prog 14 #[.slice p xs.length c, .float .f64 q] w fun e w' => Below w.heap.size w w' ∧ ∃ ys v, SrtP xs ys ∧ e = .returned (.tuple #[.float .f64 v, .int .i64 0]) ∧ cl v = quV ys WH.i WH.f := by
  have hC := hid (clone_any w p c xs h h1 hl)
  obtain ⟨hh, i, f, wm, wf, wc, ws, wle, wfp, wff, wz, wo⟩ := WH
  dsimp only
  rw [show ((xs.length - 1 : Nat) : Int) = (xs.length : Int) - 1 by omega] at wm
  have hQ := hq
  unfold InQ ford at hQ
  obtain ⟨q1, q2⟩ := hQ
  have hne : ((xs.length : Int) == 0) = false := by rw [beq_eq_false_iff_ne]; omega
  clear h hq
  generalize hn : xs.length = n at *
  have hN := hid hn
  have hS := hid (fun w2 g cap => sort_floatsP w2 g cap xs)
  rw [hn] at hS
  clear hn
  have hFP := hid wfp
  have hFF := hid wff
  clear wfp wff wz wo
  go_enter Tryz.func14, Tryz.ntmps14
  rcases q1 with q1 | q1 <;> rcases q2 with q2 | q2
  all_goals
    go_wp2_with fail
    with_reducible refine Calls.mono hC.out ?_
    rintro e w2 ⟨g, cap, rfl, hg1, hg2, hb, hcell, hfr⟩
    have hB := hid hb
    have hcon := hid (hS.out w2 g cap hcell hfr hg2 (by omega))
    clear hb hcell hfr
    go_wp2_with fail
    with_reducible refine Calls.mono hcon.out ?_
    rintro e w3 ⟨rfl, hlow, hg3, ys, hsrt, hys⟩
    have hlen : ys.length = n := by rw [hsrt.perm.length_eq, hN.out]
    obtain ⟨a0, ha0⟩ : ∃ x, ys[0]? = some x := ⟨_, List.getElem?_eq_getElem (by omega)⟩
    obtain ⟨x, hx⟩ : ∃ x, ys[i]? = some x := ⟨_, List.getElem?_eq_getElem (by omega)⟩
    have c0 := hys 0 a0 ha0
    have cx := hys i x hx
    have hpos : (0 : Int) < (n : Int) := by omega
    have hBB := hid ((hB.out.trans (hlow _ hg1)))
    have hS2 := hid hsrt
    have hX := hid hx
    have hA0 := hid ha0
    have hY := hid hys
    have hLen := hid hlen
    clear hlow hsrt ha0 hx hys hlen
    rcases cl_cases a0 with ⟨r0, _⟩ | ⟨r0, _⟩
    case' inr =>
      have o0 : FloatKind.f64.format.order a0 a0 = none := Ieee.order_nan_left a0 a0 r0
      clear r0
      go_wp2_with fail
      go_quiet (fail)
      go_wp2_with fail
      with_reducible refine Calls.mono (nan_any _) ?_
      rintro e w4 ⟨rfl, rfl⟩
      go_wp2_with fail
      go_ret2
      exact ⟨below_drewN hBB.out _, ys, _, hS2.out, rfl, by rw [cl_nanV]; unfold quV; rw [hA0.out]; dsimp only; rw [if_pos (show ford a0 a0 = none from o0)]⟩
    have o0 : FloatKind.f64.format.order a0 a0 = some .eq := Ieee.order_self a0 r0
    have rl : ∀ (j y : Nat), ys[j]? = some y → Ieee.Real y := fun j y hy => by
      rcases Nat.eq_zero_or_pos j with h0 | h0
      · subst h0; rw [hA0.out] at hy; cases hy; exact r0
      · exact (rank_real r0 (up_get hS2.out.up h0 hA0.out hy)).1
    have rx := hid (rl i x hX.out)
    have RL := hid rl
    have E0 : Hid (quV ys i f = match ys[i + 1]? with
        | some b => if ford f 0 = some .eq ∨ ford b x = some .eq then (cl x).map zeroV else midC b (opF .add (cl x) (opF .mul (cl f) (opF .sub (cl b) (cl x))))
        | none => (cl x).map zeroV) := hid (by
      unfold quV
      rw [hA0.out, hX.out]
      dsimp only
      rw [if_neg (by rw [show ford a0 a0 = some .eq from o0]; simp)]
      cases ys[i + 1]? <;> rfl)
    clear rl r0
    go_wp2_with fail
    go_quiet (fail)
    go_wp2_with fail
    with_reducible refine Calls.mono (wf _) ?_
    rintro e w4 ⟨rfl, rfl⟩
    by_cases hA : (i : Int) + 1 = (n : Int)
    · have hnx : ys[i + 1]? = none := List.getElem?_eq_none (by rw [hLen.out]; omega)
      have E1 : Hid (quV ys i f = (cl x).map zeroV) := hid (by rw [E0.out, hnx])
      go_wp2_with fail
      go_quiet (fail)
      go_wp2_with fail
      with_reducible refine Calls.mono (told_any _ _) ?_
      rintro e w5 ⟨rfl, rfl⟩
      go_wp2_with fail
      go_ret2
      exact ⟨below_drewN hBB.out _, ys, _, hS2.out, rfl, by rw [cl_zeroV, E1.out]⟩
    · have hAf : ((i : Int) + 1 == (n : Int)) = false := by rw [beq_eq_false_iff_ne]; exact hA
      have hAd : decide ((i : Int) + 1 = (n : Int)) = false := decide_eq_false hA
      obtain ⟨y, hy⟩ : ∃ y, ys[i + 1]? = some y := ⟨_, List.getElem?_eq_getElem (by rw [hLen.out]; omega)⟩
      have cy := hY.out (i + 1) y hy
      have ry := hid (RL.out _ y hy)
      have hxy := hid (rank_real rx.out (up_get hS2.out.up (Nat.lt_succ_self i) hX.out hy)).2
      have E1 : Hid (quV ys i f = if ford f 0 = some .eq ∨ ford y x = some .eq then (cl x).map zeroV else midC y (opF .add (cl x) (opF .mul (cl f) (opF .sub (cl y) (cl x))))) := hid (by rw [E0.out, hy])
      clear hy E0
      have hi1 : (i : Int) + 1 < (n : Int) := by omega
      have of := order_ge f 0 hFP.out.1 (Ieee.real_pos 0 (Nat.zero_le _)).1 (by rw [(Ieee.real_pos 0 (Nat.zero_le _)).2.2.2]; exact hFP.out.2)
      rcases of with of | of
      case' inr =>
        go_wp2_with fail
        go_quiet (fail)
        go_wp2_with fail
        with_reducible refine Calls.mono (told_any _ _) ?_
        rintro e w5 ⟨rfl, rfl⟩
        go_wp2_with fail
        go_ret2
        exact ⟨below_drewN hBB.out _, ys, _, hS2.out, rfl, by rw [cl_zeroV, E1.out, if_pos (.inl of)]⟩
      have oyx := order_ge y x ry.out rx.out hxy.out
      rcases oyx with oyx | oyx
      case' inr =>
        go_wp2_with fail
        go_quiet (fail)
        go_wp2_with fail
        with_reducible refine Calls.mono (told_any _ _) ?_
        rintro e w5 ⟨rfl, rfl⟩
        go_wp2_with fail
        go_ret2
        exact ⟨below_drewN hBB.out _, ys, _, hS2.out, rfl, by rw [cl_zeroV, E1.out, if_pos (.inr oyx)]⟩
      have hnn : ¬ (ford f 0 = some .eq ∨ ford y x = some .eq) := by unfold ford; rw [of, oyx]; simp
      have hlt : Ieee.key x < Ieee.key y := by
        have h2 : Ieee.key y ≠ Ieee.key x := fun h => hnn (.inr ((ord_eq_key ry.out rx.out).2 h))
        have := hxy.out
        omega
      have hfk : 0 < Ieee.key f := by
        have h2 : Ieee.key f ≠ Ieee.key 0 := fun h => hnn (.inl ((ord_eq_key hFP.out.1 (Ieee.real_pos 0 (Nat.zero_le _)).1).2 h))
        have h3 : Ieee.key 0 = 0 := (Ieee.real_pos 0 (Nat.zero_le _)).2.2.2
        have := hFP.out.2
        omega
      obtain ⟨d, pp, b1, b2, rp, e3⟩ := mid_val rx.out ry.out hlt hFF.out hfk
      have E2 : Hid (quV ys i f = midC y (Ieee.double.add x pp)) := hid (by rw [E1.out, if_neg hnn, e3])
      have ha : ∀ T w, (binOp .sub T (.float .f64 y) (.float .f64 x)).run Tryz.prog w = .ok (.float .f64 d) w := fun T w => run_float_arith w .sub T .f64 _ _ _ b1
      have hb' : ∀ T w, (binOp .mul T (.float .f64 f) (.float .f64 d)).run Tryz.prog w = .ok (.float .f64 pp) w := fun T w => run_float_arith w .mul T .f64 _ _ _ b2
      clear b1 b2 rp e3 hlt hfk hnn E1
      cases ea : Ieee.double.add x pp with
      | none =>
        rw [ea] at E2
        have hc' : ∀ T w, (binOp .add T (.float .f64 x) (.float .f64 pp)).run Tryz.prog w = .ok (.float .f64 (nanD w x pp)) w.drew := fun T w => run_float_nan .add T x pp ea (.inr (.inr (.inl rfl))) w
        have ho : ∀ w, FloatKind.f64.format.order (nanD w x pp) y = none := fun w => Ieee.order_nan_left _ _ (nanD_ok w x pp).2
        clear ea
        go_wp2_with fail
        go_quiet (fail)
        go_wp2_with fail
        go_quiet (fail)
        go_wp2_with fail
        with_reducible refine Calls.mono (told_any _ _) ?_
        rintro e w5 ⟨rfl, rfl⟩
        go_wp2_with fail
        go_ret2
        refine ⟨?_, ys, _, hS2.out, rfl, by rw [cl_zeroV, cl_nan (nanD_ok _ x pp).2, E2.out]; rfl⟩
        first | exact below_drewN hBB.out _ | exact Below.drew (below_drewN hBB.out _) | exact below_drewN (Below.drew (below_drewN hBB.out _)) _
      | some v =>
        rw [ea] at E2
        have rv : Ieee.Real v := ar_some .add ea
        have hc' : ∀ T w, (binOp .add T (.float .f64 x) (.float .f64 pp)).run Tryz.prog w = .ok (.float .f64 v) w := fun T w => run_float_arith w .add T .f64 _ _ _ ea
        have o3 := order_three v y rv ry.out
        clear ea
        rcases o3 with ⟨o3, o4⟩ | ⟨o3 | o3, o4⟩
        all_goals
          have hO4 := hid o4
          clear o4
          go_wp2_with fail
          go_quiet (fail)
          go_wp2_with fail
          go_quiet (fail)
          go_wp2_with fail
          with_reducible refine Calls.mono (told_any _ _) ?_
          rintro e w5 ⟨rfl, rfl⟩
          go_wp2_with fail
          go_ret2
          first
            | exact ⟨below_drewN hBB.out _, ys, _, hS2.out, rfl, by rw [cl_zeroV, E2.out]; exact (if_pos hO4.out).symm⟩
            | exact ⟨below_drewN hBB.out _, ys, _, hS2.out, rfl, by rw [cl_zeroV, E2.out]; exact (if_neg (by have := hO4.out; omega)).symm⟩
end Go.Proofs.YthidjbobjjoekaaGreat
