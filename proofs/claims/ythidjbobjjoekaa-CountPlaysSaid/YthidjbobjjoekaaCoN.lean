/- The document's Bins. Conditions: none beyond each theorem's own. -/
import Derived.Test.YthidjbobjjoekaaCoM
import Derived.Deep.QuietTactic
import Derived.BigQuiet
namespace Go.Proofs.Ythidjbobjjoekaa
open Go.RowKit Go.Lib
set_option linter.unusedVariables false
set_option linter.unusedSimpArgs false
set_option maxHeartbeats 600000
open Ieee (infR)
theorem nn_ne (o : Ordering) : ((none : Option Ordering) != some o) = true := by cases o <;> rfl
theorem nn_eq (o : Ordering) : ((none : Option Ordering) == some o) = false := by cases o <;> rfl
attribute [local go_sem] nn_ne nn_eq
theorem Cnt.drewN {w0 w : World} {g n k : Nat} {cs : List Int} (h : Cnt w0 w g n cs k) (q : Nat) : Cnt w0 (w.drewN q) g n cs k := ⟨h.own, h.len, h.bd, below_drewN h.low q⟩
set_option maxRecDepth 100000 in
theorem bins30 : BinsOk 30 := by
  intro w p p' c c' xs es hx he hl hl'
  obtain ⟨i0, hi, hz0, hz1, hz2⟩ := info_parts infoI
  have X := hid hx
  have E := hid he
  clear hx he
  generalize hm : xs.length = m at *
  have hM := hid hm
  clear hm
  generalize hn : es.length = n at *
  have hN := hid hn
  clear hn
  go_enter Try.func30, Try.ntmps30
  go_wp2_with fail
  go_loopw [6] (fun i wr => ∃ (k q : Nat), k ≤ n ∧ i = .int .i64 k ∧ wr = w.drewN q ∧ ∀ j, j < k → okAt es j) (fun i _ => n - (intOf i).toNat)
  case atStart => exact ⟨0, 0, by omega, rfl, rfl, fun j hj => absurd hj (Nat.not_lt_zero _)⟩
  case round =>
    obtain ⟨k, q, hk, rfl, rfl, hok⟩ := hrel
    have hOK := hid hok
    clear hok
    by_cases hlt : k < n
    · obtain ⟨x, hx⟩ : ∃ x, es[k]? = some x := ⟨_, List.getElem?_eq_getElem (by rw [hN.out]; exact hlt)⟩
      obtain ⟨g, off, rfl, hg, hc⟩ := E.out.at_ k x hx
      have hX := hid hx
      clear hx
      rcases ord_self x with o1 | o1
      case' inr =>
        have hbad : ¬ okE es := fun h => by have := (h k x hX.out).1; rw [o1] at this; cases this
        have hB := hid hbad
        clear hbad
        unfold ford at o1
        go_wp2_with fail
        go_quiet (fail)
        go_wp2_with fail
        go_ret2
        first | exact ⟨below_drewN (Below.refl _ _) _, .inl ⟨hB.out, rfl⟩⟩ | exact ⟨below_drewN (below_drewN (Below.refl _ _) _) _, .inl ⟨hB.out, rfl⟩⟩
      rcases Nat.eq_zero_or_pos k with h0 | h0
      case' inl =>
        subst h0
        rw [Nat.add_zero] at hc
        have hok0 : Hid (okAt es 0) := hid fun y hy => by
          rw [hX.out] at hy
          cases hy
          exact ⟨o1, fun i z h => absurd h (Nat.succ_ne_zero i).symm⟩
        unfold ford at o1
        go_wp2_with fail
        go_quiet (fail)
        go_wp2_with fail
        go_roundw
        case rel => exact ⟨1, _, by omega, by go_num, rfl, fun j hj => (show j = 0 by omega) ▸ hok0.out⟩
        case measure => simp [intOf]; omega
      obtain ⟨y, hy⟩ : ∃ y, es[k - 1]? = some y := ⟨_, List.getElem?_eq_getElem (by rw [hN.out]; omega)⟩
      obtain ⟨g', off', e', hg', hc'⟩ := E.out.at_ (k - 1) y hy
      cases e'
      have hY := hid hy
      clear hy
      have hk0 : (0 : Int) < (k : Int) := by omega
      have hk1 : 1 ≤ k := h0
      have next : ford x y = some .gt → Hid (∀ j, j < k + 1 → okAt es j) := fun o2 => hid fun j hj => by
        rcases Nat.lt_or_eq_of_le (Nat.lt_succ_iff.1 hj) with h | h
        · exact hOK.out j h
        · subst h
          intro z hz
          rw [hX.out] at hz
          cases hz
          refine ⟨o1, fun i y' hi' hy' => ?_⟩
          obtain rfl : i = j - 1 := by omega
          rw [hY.out] at hy'
          cases hy'
          exact o2
      have bad : ford x y ≠ some .gt → Hid (¬ okE es) := fun o2 => hid fun h => o2 ((h k x hX.out).2 (k - 1) y (by omega) hY.out)
      cases o2 : ford x y with
      | none =>
        have hB := bad (by rw [o2]; decide)
        unfold ford at o1 o2
        clear next bad
        go_wp2_with fail
        go_quiet (fail)
        go_wp2_with fail
        go_ret2
        first | exact ⟨below_drewN (Below.refl _ _) _, .inl ⟨hB.out, rfl⟩⟩ | exact ⟨below_drewN (below_drewN (Below.refl _ _) _) _, .inl ⟨hB.out, rfl⟩⟩
      | some o =>
        cases o
        case' gt =>
          have hNx := next o2
          unfold ford at o1 o2
          clear next bad
          go_wp2_with fail
          go_quiet (fail)
          go_wp2_with fail
          go_roundw
          case rel => exact ⟨k + 1, _, by omega, by go_num, rfl, hNx.out⟩
          case measure => simp [intOf]; omega
        all_goals
          have hB := bad (by rw [o2]; decide)
          unfold ford at o1 o2
          clear next bad
          go_wp2_with fail
          go_quiet (fail)
          go_wp2_with fail
          go_ret2
          first | exact ⟨below_drewN (Below.refl _ _) _, .inl ⟨hB.out, rfl⟩⟩ | exact ⟨below_drewN (below_drewN (Below.refl _ _) _) _, .inl ⟨hB.out, rfl⟩⟩
    · obtain rfl : k = n := by omega
      have hE : Hid (okE es) := hid fun j => by
        by_cases h : j < k
        · exact hOK.out j h
        · intro x hx
          have := (List.getElem?_eq_some_iff.1 hx).1
          rw [hN.out] at this
          exact absurd this h
      clear hOK
      go_wp2_with (first | (at_make; refine wpList_make_full _ rfl (.tmp 44) (.tmp 44) 50 rfl w.heap.size 3 i0 _ 1 Try.underlying50 hi hz0 hz1 .i64 .i64 _ _ (k + 2) rfl rfl (by omega) (by omega) (by rw [hz2]; omega) (by unfold maxLen; omega) (Nat.le_refl _) ?_; refine stop_here ?_) | fail)
      refine hid ?_
      intro w1 hown hgr
      have hC0 : Hid (Cnt w w1 w.heap.size (k + 2) (List.replicate (k + 2) 0) 0) := hid
        ⟨by rw [show (List.replicate (k + 2) (0 : Int)).map (Value.int .i64) = (madeCells #[Value.int .i64 0] (k + 2)).toList by rw [List.map_replicate]; exact (toList_madeCells_one _ _).symm]; exact hown, List.length_replicate, fun c hc => by rw [List.eq_of_mem_replicate hc]; exact ⟨Int.le_refl _, Int.le_refl _⟩, (below_drewN (Below.refl w.heap.size w) q).grown hgr (Nat.le_refl _) (fun k e => by cases e)⟩
      clear hown hgr
      go_wp2_with fail
      go_loopw [8] (fun i wr => ∃ (a : Nat), a ≤ m ∧ i = .int .i64 a ∧ Cnt w wr w.heap.size (k + 2) ((xs.take a).foldl (fun cs x => bump cs (binI es x)) (List.replicate (k + 2) 0)) a) (fun i _ => m - (intOf i).toNat)
      case atStart => exact ⟨0, by omega, rfl, hC0.out⟩
      case round =>
        obtain ⟨a, ha, rfl, hC⟩ := hrel
        have C := hid hC
        clear hC hC0
        by_cases hlt : a < m
        · obtain ⟨x, hx⟩ : ∃ x, xs[a]? = some x := ⟨_, List.getElem?_eq_getElem (by rw [hM.out]; exact hlt)⟩
          obtain ⟨g, off, rfl, hg, hc⟩ := (X.out.low (Nat.le_refl _) C.out.low).at_ a x hx
          have hf := hid (fold_more (fun cs x => bump cs (binI es x)) (List.replicate (k + 2) (0 : Int)) xs a x hx)
          have hX := hid hx
          clear hx
          generalize (xs.take a).foldl (fun cs x => bump cs (binI es x)) (List.replicate (k + 2) 0) = cs at C hf
          rcases ord_self x with o1 | o1
          case' inr =>
            have hbin : binI es x = k + 1 := by unfold binI; rw [if_neg (by rw [o1]; decide), hN.out]
            rw [hbin] at hf
            have hb := hid (fun q => (C.out.drewN q).bump (k + 1) (by omega))
            obtain ⟨c1, c2, c3, c4⟩ := C.out.at_ (k + 1) (by omega)
            unfold ford at o1
            generalize cs.getD (k + 1) 0 = v at *
            go_wp2_with fail
            go_quiet (fail)
            go_wp2_with fail
            go_roundw
            case rel => exact ⟨a + 1, by omega, by go_num, by rw [hf.out]; exact hb.out _⟩
            case measure => simp [intOf]; omega
          have O1 := hid o1
          have hxr : Ieee.Real x := by
            refine Decidable.byContradiction (p := Ieee.rung x ≤ infR) fun hn => ?_
            rw [show ford x x = none from Ieee.order_nan_left x x hn] at o1
            cases o1
          have XR := hid hxr
          clear hxr
          unfold ford at o1
          go_wp2_with fail
          go_quiet (fail)
          go_wp2_with fail
          go_loopw [9] (fun i wr2 => ∃ (j q : Nat), j ≤ k ∧ i = .int .i64 j ∧ wr2 = wr.drewN q ∧ ∀ i, i < j → ∀ e, es[i]? = some e → ford x e ≠ some .lt) (fun i _ => k - (intOf i).toNat)
          case atStart => exact ⟨0, _, by omega, rfl, rfl, fun i hi => absurd hi (Nat.not_lt_zero _)⟩
          case round =>
            obtain ⟨j, q2, hj, rfl, rfl, hno⟩ := hrel
            have NO := hid hno
            clear hno
            by_cases hjl : j < k
            · obtain ⟨e, he⟩ : ∃ e, es[j]? = some e := ⟨_, List.getElem?_eq_getElem (by rw [hN.out]; exact hjl)⟩
              obtain ⟨ge, offe, rfl, hge, hce⟩ := (E.out.low (Nat.le_refl _) C.out.low).at_ j e he
              have HE := hid he
              have her : ford e e = some .eq := (hE.out j e he).1
              have hRe : Ieee.Real e := by
                refine Decidable.byContradiction (p := Ieee.rung e ≤ infR) fun hn => ?_
                rw [show ford e e = none from Ieee.order_nan_left e e hn] at her
                cases her
              clear he her
              have hjk : (j : Int) < (k : Int) := by omega
              rcases order_three e x hRe XR.out with ⟨o2, o3⟩ | ⟨o2, o3⟩
              · have o4 : FloatKind.f64.format.order x e = some .lt := by
                  rw [show FloatKind.f64.format.order x e = some (compare (Ieee.key x) (Ieee.key e)) from Ieee.order_key x e XR.out hRe, Ieee.cmp_lt o3]
                have HB : Hid (binI es x = j) := hid (binI_at O1.out NO.out HE.out o4)
                have hb := hid (fun q => (C.out.drewN q).bump j (by omega))
                obtain ⟨c1, c2, c3, c4⟩ := C.out.at_ j (by omega)
                generalize cs.getD j 0 = v at *
                clear o2 o3 hRe
                go_wp2_with fail
                go_quiet (fail)
                go_wp2_with fail
                go_roundw
                case rel => exact ⟨a + 1, by omega, by go_num, by rw [hf.out, HB.out]; exact hb.out _⟩
                case measure => simp [intOf]; omega
              · have o4 := order_ge x e XR.out hRe o3
                have NX : Hid (∀ i, i < j + 1 → ∀ e, es[i]? = some e → ford x e ≠ some .lt) := hid fun i hi e' he' => by
                  rcases Nat.lt_or_eq_of_le (Nat.lt_succ_iff.1 hi) with h | h
                  · exact NO.out i h e' he'
                  · subst h
                    rw [HE.out] at he'
                    cases he'
                    unfold ford
                    rcases o4 with o4 | o4 <;> rw [o4] <;> decide
                clear o2 o3 hRe
                rcases o4 with o4 | o4
                all_goals
                  go_wp2_with fail
                  go_quiet (fail)
                  go_wp2_with fail
                  go_roundw
                  case rel => exact ⟨j + 1, _, by omega, by go_num, rfl, NX.out⟩
                  case measure => simp [intOf]; omega
            · obtain rfl : j = k := by omega
              have HB : Hid (binI es x = j) := hid (by rw [binI_end O1.out (fun i hi => NO.out i (by rw [← hN.out]; exact hi)), hN.out])
              have hb := hid (fun q => (C.out.drewN q).bump j (by omega))
              obtain ⟨c1, c2, c3, c4⟩ := C.out.at_ j (by omega)
              generalize cs.getD j 0 = v at *
              go_wp2_with fail
              go_quiet (fail)
              go_wp2_with fail
              go_roundw
              case rel => exact ⟨a + 1, by omega, by go_num, by rw [hf.out, HB.out]; exact hb.out _⟩
              case measure => simp [intOf]; omega
        · obtain rfl : a = m := by omega
          go_wp2_with fail
          go_ret2
          exact ⟨C.out.low, .inr ⟨hE.out, _, rfl, by have := C.out.own; rw [← hM.out, List.take_length] at this; unfold binsC; rw [hN.out]; exact this⟩⟩
end Go.Proofs.Ythidjbobjjoekaa
