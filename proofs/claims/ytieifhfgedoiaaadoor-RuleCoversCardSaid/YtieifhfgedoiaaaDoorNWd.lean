/- RuleCovers: which rules cover which, which are dead; dead ones are never taken. Conditions: those of each theorem. -/
import Derived.Test.YtieifhfgedoiaaaDoorNVw
namespace Go.Proofs.YtieifhfgedoiaaaDoor
open Go.RowKit Go.Lib
open Go.ChangeMaps
set_option linter.unusedVariables false
set_option linter.unusedSimpArgs false
attribute [local go_sem] ExtS.cell ExtS.froz upE_value upE_skip upE_enter Ext.cell Ext.froz
theorem snds_nilR (w : World) (b : Nat) : SndsR w b (.slice none 0 0) [] := SndsAt.reads ⟨[], rfl, World.ownsRow_nil _ _ _ _, fun y hy => (by cases hy)⟩
/-- what Sounds leaves, in one form -/
theorem snd_either {w w' : World} {x : Rs} {s : ByteArray} {e : Ending} (h : SndPost w w' (soundsR x s) e) (g : RsG x) : ∃ (l : List Snd) (pl : Option Addr) (cl : Nat) (e2 : Int), e = .returned (.tuple #[.slice pl l.length cl, .int .i64 e2]) ∧ SndsR w' w.heap.size (.slice pl l.length cl) l ∧ l.length ≤ 64 ∧ ∀ y ∈ l, ∀ j ∈ deadL x, y.r ≠ j := by
 cases ho : soundsR x s with
 | none =>
  rw [ho] at h
  exact ⟨[], none, 0, 3, h, snds_nilR _ _, by simp, fun y hy => by cases hy⟩
 | some l =>
  rw [ho] at h
  obtain ⟨v, he, hS⟩ := (show ∃ v, e = .returned (.tuple #[v, .int .i64 0]) ∧ SndsAt w' w.heap.size v l from h)
  obtain ⟨pl, cl, rfl⟩ : ∃ pv cv, v = .slice pv l.length cv := by obtain ⟨Vs, _, g2, _⟩ := hS; exact own_shape g2
  exact ⟨l, pl, cl, 0, he, hS.reads, sounds_len g ho, fun y hy j hj => sounds_dead ho hy hj⟩
set_option maxRecDepth 100000 in
set_option maxHeartbeats 8000000 in
theorem covers8 (s t : ByteArray) (w : World) (m : Int) (hm : w.cell? ⟨0, 0, none⟩ = some (.int .i64 m)) :
  Calls Tryd.prog 8 #[.string s, .string t] w fun e w' => e = .returned (.bool true) ∧ Below w.heap.size w w' := by
 have h0 : 0 < w.heap.size := World.block_lt_of_cell? w _ hm
 have hW := hid (wakes11 w m hm)
 have hL := hid (fun W => long12 s W)
 have hR := hid (fun W (hb : Below w.heap.size w W) (hs : s.size ≤ 8000) => read13 s (by omega) W m (by rw [hb.cell (p := ⟨0, 0, none⟩) h0]; exact hm))
 clear hm
 go_enter Tryd.func8, Tryd.ntmps8
 go_wp2_with fail
 go_at_call 11
 with_reducible refine Calls.mono (hW.out) ?_
 rintro e w1 ⟨rfl, hb1⟩
 skip
 have hb1H := hid hb1
 clear hb1 hW
 by_cases hlong : 8000 < s.size
 ·have q1 : decide ((8000 : Int) < s.size) = true := decide_eq_true (by omega)
  have q2 : decide (8000 < s.size) = true := decide_eq_true hlong
  clear hR
  go_wp2_with (go_at_call 12; (with_reducible refine Calls.mono (hL.out _) ?_); rintro e w2 ⟨rfl, rfl⟩)
  go_ret
  exact ⟨rfl, hb1H.out⟩
 have q1 : decide ((8000 : Int) < s.size) = false := decide_eq_false (by omega)
 have q2 : decide (8000 < s.size) = false := decide_eq_false hlong
 have hR2 := hid (hR.out _ hb1H.out (by omega))
 clear hR
 by_cases hlt : 300 < t.size
 ·have q3 : decide ((300 : Int) < t.size) = true := decide_eq_true (by omega)
  have q4 : decide (300 < t.size) = true := decide_eq_true hlt
  clear hR2
  go_wp2_with (go_at_call 12; (with_reducible refine Calls.mono (hL.out _) ?_); rintro e w2 ⟨rfl, rfl⟩)
  go_ret
  exact ⟨rfl, hb1H.out⟩
 have q3 : decide ((300 : Int) < t.size) = false := decide_eq_false (by omega)
 have q4 : decide (300 < t.size) = false := decide_eq_false hlt
 obtain ⟨o, ho⟩ : ∃ o, linesR Rs.empty 0 (linesB s) = o := ⟨_, rfl⟩
 rw [ho] at hR2
 have HO := hid ho
 clear ho
 go_wp2_with (go_at_call 12; (with_reducible refine Calls.mono (hL.out _) ?_); rintro e w2 ⟨rfl, rfl⟩)
 cases o with
 | bad er q =>
  go_at_call 13
  with_reducible refine Calls.mono (hR2.out) ?_
  rintro e w3 ⟨⟨c, rfl, hV1⟩, hb3⟩
  skip
  have hi31 : (Tryd.prog.info? 31).map (·.size) = some c.size := by rw [hV1.1]; kernel_rfl
  have hb3H := hid hb3
  clear hb3 hR2
  go_wp2_with (refine wpList_store_row rfl 31 _ _ rfl w3.heap.size c rfl rfl 31 Tryd.zeroCells31 (heap_alloc_new _ _) hi31 (by rw [hV1.1]; kernel_rfl) hV1.2 ?_)
  have hBR := hid (setRow_but (w3.alloc (.cells Tryd.zeroCells31 31)) w3.heap.size c)
  have hbA : Below w3.heap.size w3 (w3.alloc (.cells Tryd.zeroCells31 31)) := (Below.refl _ _).alloc (Nat.le_refl _) _
  have hB3 := hid (hbA.trans (hBR.out.below (fun k hk => by rw [List.mem_singleton] at hk; omega) hbA.size))
  go_ret
  exact ⟨rfl, bnext (bnext hb1H.out hb3H.out) hB3.out⟩
 | ok y =>
  have gy := hid (linesR_good HO.out empty_good)
  go_at_call 13
  with_reducible refine Calls.mono (hR2.out) ?_
  rintro e w3 ⟨⟨X, c, rfl, hP, hV, hn⟩, hb3⟩
  skip
  have hV1 := hV.one
  have hi31 : (Tryd.prog.info? 31).map (·.size) = some c.size := by rw [hV1.1]; kernel_rfl
  have hb3H := hid hb3
  have hPH := hid hP
  have hVH := hid hV
  clear hb3 hR2 hP hV
  go_upto_region 8 with (first | refine wpList_store_row rfl 31 _ _ rfl w3.heap.size c rfl rfl 31 Tryd.zeroCells31 (heap_alloc_new _ _) hi31 (by rw [hV1.1]; kernel_rfl) hV1.2 ?_)
  have hBR := hid (setRow_but (w3.alloc (.cells Tryd.zeroCells31 31)) w3.heap.size c)
  have hk4 := hid (setRow_heap _ w3.heap.size Tryd.zeroCells31 c 31 _ (heap_alloc_new w3 (.cells Tryd.zeroCells31 31)))
  have hbA : Below w3.heap.size w3 (w3.alloc (.cells Tryd.zeroCells31 31)) := (Below.refl _ _).alloc (Nat.le_refl _) _
  have hB3 := hid (hbA.trans (hBR.out.below (fun k hk => by rw [List.mem_singleton] at hk; omega) hbA.size))
  have hb4 := hid (bnext (bnext hb1H.out hb3H.out) hB3.out)
  have hP4 := hid (hPH.out.low hB3.out)
  have hV4 := hid (hVH.out.low hB3.out)
  clear hbA hBR hB3 hb3H hPH hVH hb1H
  generalize (w3.alloc (.cells Tryd.zeroCells31 31)).setRow w3.heap.size c = W4 at *
  generalize w3.heap.size = T at *
  have hts : t.size ≤ 300 := by omega
  obtain ⟨Vc, v, x2, x3, x4, x5⟩ := hV4.out.ex
  obtain ⟨pv, cv, rfl⟩ : ∃ pv cv, v = .slice pv y.rules.length cv := by obtain ⟨Vs, g1, g2, g3⟩ := x5; exact own_shape g2
  obtain ⟨n, hnn⟩ : ∃ n, y.rules.length = n := ⟨_, rfl⟩
  have HNN := hid hnn
  have HR := hid x5
  rw [hnn] at x4 hn HR
  have HX4 := hid x4
  have b78 := (show Blk W4 T 31 c from hk4.out).cell x4
  have bf := (show Blk W4 T 31 c from hk4.out).froz
  clear x2 x3 x5 hnn
  by_cases h40 : 40 < n
  ·have z1 := dT (show (40 : Int) < n by omega)
   go_wp2_with fail
   go_ret
   exact ⟨rfl, hb4.out⟩
  have z1 := dF (show ¬ (40 : Int) < n by omega)
  have hO := hid (of19 t W4 (by omega))
  go_wp2_with fail
  go_at_call 19
  with_reducible refine Calls.mono (hO.out) ?_
  rintro e w5 ⟨⟨vw, rfl, hw5⟩, hbw5⟩
  skip
  obtain ⟨pw, cw, rfl⟩ := own_shape hw5
  have HW := hid (own_oneR hw5)
  obtain ⟨WL, hWL⟩ : ∃ WL, wordL t = WL := ⟨_, rfl⟩
  have hLl : WL.length ≤ 300 := by rw [← hWL]; have := wordL_le t; omega
  rw [hWL] at HW ⊢
  obtain ⟨L, hL⟩ : ∃ L, WL.length = L := ⟨_, rfl⟩
  rw [hL] at hLl ⊢
  have HL := hid hL
  have hP5 := hid (hP4.out.low hbw5)
  have hV5 := hid (hV4.out.low hbw5)
  have hk5 := hid ((show Blk W4 T 31 c from hk4.out).low hbw5)
  have HR5 := hid (HR.out.low hbw5)
  have hB5 := hid (bnext hb4.out hbw5)
  have hnY : Hid (y.rules.length ≤ 256) := hid (by rw [HNN.out]; exact hn)
  have hwn : IntKind.i64.wrap ((n : Int) + 1) = (n : Int) + 1 := Wi64 (by omega)
  clear hO hk4 hP4 hV4 hb4 hbw5 hw5 HR b78 bf hWL hL x4
  go_wp2_with fail
  go_loopw [11] (fun v11 wr => ∃ i : Nat, i ≤ n + 2 ∧ v11 = .int .i64 i ∧ Hid (Below w5.heap.size w5 wr)) (fun v _ => n + 2 - (RowKit.intOf v).toNat)
  case atStart => exact ⟨0, Nat.zero_le _, rfl, hid (Below.refl _ _)⟩
  case round =>
   obtain ⟨i, hi, rfl, hB⟩ := hrel
   have hw1 : IntKind.i64.wrap ((i : Int) + 1) = (i : Int) + 1 := Wi64 (by omega)
   by_cases hlt3 : i ≤ n + 1
   ·--<A
    have u1 := dT (show (i : Int) ≤ (n : Int) + 1 by omega)
    go_wp2_with fail
    go_loopw [12] (fun v12 wr => ∃ j : Nat, j ≤ n + 2 ∧ v12 = .int .i64 j ∧ Hid (Below w5.heap.size w5 wr)) (fun v _ => n + 2 - (RowKit.intOf v).toNat)
    case atStart => exact ⟨0, Nat.zero_le _, rfl, hB⟩
    case round =>
     clear hB
     obtain ⟨j, hj, rfl, hB⟩ := hrel
     have hw2 : IntKind.i64.wrap ((j : Int) + 1) = (j : Int) + 1 := Wi64 (by omega)
     by_cases hlt4 : j ≤ n + 1
     ·have u2 := dT (show (j : Int) ≤ (n : Int) + 1 by omega)
      obtain ⟨cc, hcc⟩ : ∃ cc, coverN y i j = cc := ⟨_, rfl⟩
      have hC := hid (covers28 (hP5.out.low hB.out) gy.out hnY.out i j)
      have hD := hid (fun W (hb : Below w5.heap.size w5 W) => covers29 (hV5.out.low hb) gy.out hnY.out i j)
      rw [hcc] at hC hD
      have HCC := hid hcc
      clear hcc
      go_wp2_with fail
      go_at_call 28
      with_reducible refine Calls.mono (hC.out) ?_
      rintro e w6 ⟨rfl, hb6⟩
      skip
      have hB6 := hid (bnext hB.out hb6)
      have hk6 := hid (hk5.out.low hB6.out)
      clear hB hb6 hC
      have hself : i = j → cc = decide (1 ≤ i ∧ i ≤ n) := fun he => by
       have h1 := cover_self gy.out i
       rw [HNN.out] at h1
       rw [← HCC.out, ← he]
       exact h1
      have HSF := hid hself
      clear hself
      go_upto_region 19 with fail
      go_cut [88] from 67 to 87 (fun v wd => v = .bool false ∧ Hid (Below w5.heap.size w5 wd))
      case first =>
       go_wp2_with fail
       refine wp_load_row 31 _ rfl T rfl 31 c (0, 0) _ hk6.out Tryd.underlying31 rfl hi31 ?_
       go_wp2_with fail
       go_at_call 29
       with_reducible refine Calls.mono ((hD.out _ hB6.out)) ?_
       rintro e w7 ⟨rfl, hb7⟩
       skip
       have hB7 := hid (bnext hB6.out hb7)
       by_cases hij : i = j
       ·have h1 := HSF.out hij
        have e1 : ((i : Int) == j) = true := by rw [beq_iff_eq]; omega
        by_cases h2 : 1 ≤ i
        ·have e2 := dT (show (1 : Int) ≤ i by omega)
         by_cases h3 : i ≤ n
         ·have e3 := dT (show (i : Int) ≤ n by omega)
          obtain rfl : cc = true := by rw [h1]; exact decide_eq_true ⟨h2, h3⟩
          clear h1 hij
          go_wp2_with fail
          go_meet
          exact ⟨rfl, hB7⟩
         ·have e3 := dF (show ¬ (i : Int) ≤ n by omega)
          obtain rfl : cc = false := by rw [h1]; exact decide_eq_false (fun h => h3 h.2)
          clear h1 hij
          go_wp2_with fail
          go_meet
          exact ⟨rfl, hB7⟩
        ·have e2 := dF (show ¬ (1 : Int) ≤ i by omega)
         obtain rfl : cc = false := by rw [h1]; exact decide_eq_false (fun h => h2 h.1)
         clear h1 hij
         go_wp2_with fail
         go_meet
         exact ⟨rfl, hB7⟩
       ·have e1 : ((i : Int) == j) = false := by rw [beq_eq_false_iff_ne]; omega
        clear hij
        cases cc
        all_goals
         go_wp2_with fail
         go_meet
         exact ⟨rfl, hB7⟩
      case rest =>
       obtain ⟨rfl, hB7⟩ := hcut
       clear hB6 hk6 hD
       generalize wc = W7 at *
       cases cc with
       | false =>
        go_wp2_with fail
        go_roundw
        case rel => exact ⟨j + 1, by omega, by go_num, hB7⟩
        case measure => simp [RowKit.intOf] <;> omega
       | true =>
        obtain ⟨a, b, hra, hrb, hab⟩ := cover_some HCC.out
        obtain ⟨a1, a2, a3⟩ := ruleAt_some hra
        obtain ⟨b1, b2, b3⟩ := ruleAt_some hrb
        rw [HNN.out] at a2 b2
        obtain ⟨i', hi'⟩ : ∃ i', i - 1 = i' := ⟨_, rfl⟩
        obtain ⟨j', hj'⟩ : ∃ j', j - 1 = j' := ⟨_, rfl⟩
        rw [hi'] at a3
        rw [hj'] at b3
        have e2 := dT (show (1 : Int) ≤ i by omega)
        have e3 := dT (show (i : Int) ≤ n by omega)
        have wi : IntKind.i64.wrap ((i : Int) - 1) = i' := (Wi64 (by omega)).trans (by omega)
        have wj : IntKind.i64.wrap ((j : Int) - 1) = j' := (Wi64 (by omega)).trans (by omega)
        have l1 : (i' : Int) < n := by omega
        have l2 : (j' : Int) < n := by omega
        have l3 : (0 : Int) ≤ i' := by omega
        have l4 : (0 : Int) ≤ j' := by omega
        have HAB := hid hab
        have HRA := hid a3
        have HRB := hid b3
        clear hra hrb hab a1 a2 a3 b1 b2 b3 hi' hj'
        go_wp2_with fail
        go_loopw [14] (fun v14 wr => ∃ k : Nat, k ≤ L ∧ v14 = .int .i64 k ∧ Hid (Below w5.heap.size w5 wr)) (fun v _ => L - (RowKit.intOf v).toNat)
        case atStart => exact ⟨0, Nat.zero_le _, rfl, hB7⟩
        case round =>
         obtain ⟨k, hk, rfl, hB⟩ := hrel
         clear hB7
         have hw3 : IntKind.i64.wrap ((k : Int) + 1) = (k : Int) + 1 := Wi64 (by omega)
         by_cases hlt5 : k < L
         ·--<B
          have u3 := dT (show (k : Int) < L by omega)
          have hV8 := hid (hV5.out.low hB.out)
          have hk8 := hid (hk5.out.low hB.out)
          have HR8 := hid (HR5.out.low hB.out)
          have HW8 := hid (HW.out.low hB.out)
          have b78 := hk8.out.cell HX4.out
          have bf := hk8.out.froz
          obtain ⟨G, p1, p2, p3, p4, c1, c2, c3, c4, hpv, hRa⟩ := drows_ruD HR8.out HRA.out
          subst hpv
          obtain ⟨G', q1, q2, q3, q4, d1, d2, d3, d4, hpv, hRb⟩ := drows_ruD HR8.out HRB.out
          injection hpv with hpv
          injection hpv with hpv
          subst hpv
          have ya0 := hRa.y0
          have ya1 := hRa.y1
          have ya2 := hRa.y2
          have ya3 := hRa.y3
          have ya4 := hRa.y4
          have ya5 := hRa.y5
          have ya6 := hRa.y6
          have yb0 := hRb.y0
          have yb1 := hRb.y1
          have yb2 := hRb.y2
          have yb3 := hRb.y3
          have yb4 := hRb.y4
          have yb5 := hRb.y5
          have yb6 := hRb.y6
          have HRa := hid hRa
          have HRb := hid hRb
          have hC1 := hid (fun xx : Ext wr => fit30 (hV8.out.low xx.h) gy.out (gy.out.r b (List.mem_of_getElem? HRB.out)) (c1 := d1) (c2 := d2) (c3 := d3) (c4 := d4) (p4 := q4) (HRb.out.l.low xx.h) (HRb.out.r.low xx.h) (HRb.out.b.low xx.h) WL (pu := pw) (cu := cw) (HW8.out.low xx.h) (by rw [HL.out]; omega) k (by rw [HL.out]; omega))
          have hC2 := hid (fun xx : Ext wr => fit30 (hV8.out.low xx.h) gy.out (gy.out.r a (List.mem_of_getElem? HRA.out)) (c1 := c1) (c2 := c2) (c3 := c3) (c4 := c4) (p4 := p4) (HRa.out.l.low xx.h) (HRa.out.r.low xx.h) (HRa.out.b.low xx.h) WL (pu := pw) (cu := cw) (HW8.out.low xx.h) (by rw [HL.out]; omega) k (by rw [HL.out]; omega))
          have hfit := hid (fun h => covers_fit (w := WL) (k := k) HAB.out h)
          rw [HL.out] at hC1 hC2
          obtain ⟨f1, hf1⟩ : ∃ f1, fitB y b WL k = f1 := ⟨_, rfl⟩
          rw [hf1] at hC1 hfit
          clear hRa hRb hf1
          cases f1 with
          | false =>
           clear hfit hC2
           go_wp2_with fail
           refine ext_all (by kernel_rfl) (by kernel_rfl) ?_
           refine wpQuiet_load_row rfl 31 _ rfl T rfl 31 c (0, 0) _ (fun w hw => by obtain ⟨xx, rfl⟩ := hw; exact hk8.out.low xx.h) Tryd.underlying31 rfl hi31 ?_
           go_simp
           repeat (go_big_quiet_step (with_reducible exact Ext.call (hC1.out _)))
           refine wpQuiet_nil ?_
           first | rintro _ ⟨xx, rfl⟩ | intro xx
           have hB9 := hid (bnext hB.out xx.h)
           generalize xx.w = W9 at *
           clear hC1 hB hV8 hk8 HR8 HW8 HRa HRb ya0 ya1 ya2 ya3 ya4 ya5 ya6 yb0 yb1 yb2 yb3 yb4 yb5 yb6 b78 bf
           go_wp2_with fail
           go_roundw
           case rel => exact ⟨k + 1, by omega, by go_num, hB9⟩
           case measure => simp [RowKit.intOf] <;> omega
          | true =>
           have h2 : fitB y a WL k = true := hfit.out (by first | rfl | trivial)
           rw [h2] at hC2
           clear hfit h2
           go_wp2_with fail
           refine ext_all (by kernel_rfl) (by kernel_rfl) ?_
           refine wpQuiet_load_row rfl 31 _ rfl T rfl 31 c (0, 0) _ (fun w hw => by obtain ⟨xx, rfl⟩ := hw; exact hk8.out.low xx.h) Tryd.underlying31 rfl hi31 ?_
           go_simp
           repeat (go_big_quiet_step (with_reducible exact Ext.call (hC1.out _)))
           refine wpQuiet_load_row rfl 31 _ rfl T rfl 31 c (0, 0) _ (fun w hw => by obtain ⟨xx, rfl⟩ := hw; exact hk8.out.low xx.h) Tryd.underlying31 rfl hi31 ?_
           go_simp
           repeat (go_big_quiet_step (with_reducible exact Ext.call (hC2.out _)))
           refine wpQuiet_nil ?_
           first | rintro _ ⟨xx, rfl⟩ | intro xx
           have hB9 := hid (bnext hB.out xx.h)
           generalize xx.w = W9 at *
           clear hC1 hC2 hB hV8 hk8 HR8 HW8 HRa HRb ya0 ya1 ya2 ya3 ya4 ya5 ya6 yb0 yb1 yb2 yb3 yb4 yb5 yb6 b78 bf
           go_wp2_with fail
           go_roundw
           case rel => exact ⟨k + 1, by omega, by go_num, hB9⟩
           case measure => simp [RowKit.intOf] <;> omega
         ·obtain rfl : k = L := by omega
          have u3 : decide ((k : Int) < k) = false := by simp
          go_wp2_with fail
          go_roundw
          case rel => exact ⟨j + 1, by omega, by go_num, hB⟩
          case measure => simp [RowKit.intOf] <;> omega
     ·have u2 := dF (show ¬ (j : Int) ≤ (n : Int) + 1 by omega)
      go_wp2_with fail
      go_roundw
      case rel => exact ⟨i + 1, by omega, by go_num, hB⟩
      case measure => simp [RowKit.intOf] <;> omega
   ·have u1 := dF (show ¬ (i : Int) ≤ (n : Int) + 1 by omega)
    have hk6 := hid (hk5.out.low hB.out)
    have hD31 := hid (dead31 (hV5.out.low hB.out) gy.out hnY.out)
    go_wp2_with fail
    refine wp_load_row 31 _ rfl T rfl 31 c (0, 0) _ hk6.out Tryd.underlying31 rfl hi31 ?_
    go_wp2_with fail
    go_at_call 31
    with_reducible refine Calls.mono (hD31.out) ?_
    rintro e w6 ⟨⟨vd, rfl, hd6⟩, hb6⟩
    skip
    obtain ⟨pd, cd, rfl⟩ := own_shape hd6
    have HN1 := hid (own_numR hd6)
    have hB6 := hid (bnext hB.out hb6)
    have hD32 := hid (dead32 (hP5.out.low hB6.out) gy.out hnY.out)
    obtain ⟨D, hDD⟩ : ∃ D, (deadL y).length = D := ⟨_, rfl⟩
    have hDl : D ≤ 300 := by have := deadT_len y y.rules.length; unfold deadL at hDD; have := hnY.out; omega
    rw [hDD] at hD32 ⊢
    have HDD := hid hDD
    clear hB hk6 hD31 hd6 hb6 hDD
    go_wp2_with fail
    go_at_call 32
    with_reducible refine Calls.mono (hD32.out) ?_
    rintro e w7 ⟨⟨ve, rfl, hd7⟩, hb7⟩
    skip
    obtain ⟨pe, ce, rfl⟩ := own_shape hd7
    have HN2 := hid (own_numR (by rw [HDD.out]; exact hd7))
    have HN3 := hid ((show NumR w6 pd (deadL y) from HN1.out))
    have hB7 := hid (bnext hB6.out hb7)
    have HNa : Hid (∀ (i z : Nat), (deadL y)[i]? = some z → ∃ g, pd = some ⟨g, 0, none⟩ ∧ w7.cell? ⟨g, i, none⟩ = some (.int .i64 z)) := hid (fun i z hz => by
     obtain ⟨g, h1, h2⟩ := HN3.out (fun e => by rw [e] at hz; cases hz)
     exact ⟨g, h1, cell_low hb7 (h2 i z hz)⟩)
    have hS := hid (sounds23 (hP5.out.low hB7.out) gy.out hnY.out t (by omega))
    clear hB6 hD32 hd7 hb7 HN1 HN3
    go_wp2_with fail
    go_at_call 23
    with_reducible refine Calls.mono (hS.out) ?_
    rintro e w8 ⟨hp8, hb8⟩
    skip
    obtain ⟨l, pl, cl, e2, he, hSn, hll, hnd⟩ := snd_either hp8 gy.out
    subst he
    obtain ⟨LL, hLL⟩ : ∃ LL, l.length = LL := ⟨_, rfl⟩
    rw [hLL] at hSn hll ⊢
    have HLL := hid hLL
    have HSN := hid hSn
    have HND := hid hnd
    have HNb : Hid (∀ (i z : Nat), (deadL y)[i]? = some z → ∃ g, pe = some ⟨g, 0, none⟩ ∧ w8.cell? ⟨g, i, none⟩ = some (.int .i64 z)) := hid (fun i z hz => by
     obtain ⟨g, h1, h2⟩ := HN2.out (fun e => by rw [e] at hz; cases hz)
     exact ⟨g, h1, cell_low hb8 (h2 i z hz)⟩)
    have HNc : Hid (∀ (i z : Nat), (deadL y)[i]? = some z → ∃ g, pd = some ⟨g, 0, none⟩ ∧ w8.cell? ⟨g, i, none⟩ = some (.int .i64 z)) := hid (fun i z hz => by
     obtain ⟨g, h1, h2⟩ := HNa.out i z hz
     exact ⟨g, h1, cell_low hb8 h2⟩)
    have hB8 := hid (bnext hB5.out (bnext hB7.out hb8))
    clear hp8 hb8 hS hSn hnd hLL HNa HN2 hB7
    go_wp2_with fail
    go_loopw [19] (fun v19 wr => ∃ q : Nat, q ≤ D ∧ v19 = .int .i64 q ∧ ∃ d, wr = w8.drewN d) (fun v _ => D - (RowKit.intOf v).toNat)
    case atStart => exact ⟨0, Nat.zero_le _, rfl, 0, rfl⟩
    case round =>
     obtain ⟨q, hq, rfl, d, rfl⟩ := hrel
     have hw4 : IntKind.i64.wrap ((q : Int) + 1) = (q : Int) + 1 := Wi64 (by omega)
     by_cases hlt6 : q < D
     ·have u4 := dT (show (q : Int) < D by omega)
      have u5 : (q : Int) < D := by omega
      have u6 : (0 : Int) ≤ q := by omega
      obtain ⟨z, hz⟩ : ∃ z, (deadL y)[q]? = some z := ⟨_, List.getElem?_eq_getElem (by rw [HDD.out]; exact hlt6)⟩
      obtain ⟨g1, rfl, c1⟩ := HNb.out q z hz
      obtain ⟨g2, rfl, c2⟩ := HNc.out q z hz
      have HZ := hid hz
      clear hz
      go_wp2_with fail
      go_quiet (fail)
      go_wp2_with fail
      go_loopw [20] (fun v20 wr => ∃ k : Nat, k ≤ LL ∧ v20 = .int .i64 k ∧ ∃ d, wr = w8.drewN d) (fun v _ => LL - (RowKit.intOf v).toNat)
      case atStart => first | exact ⟨0, Nat.zero_le _, rfl, _, World.drewN_drewN _ _ _⟩ | exact ⟨0, Nat.zero_le _, rfl, _, rfl⟩
      case round =>
       obtain ⟨k, hk, rfl, d, rfl⟩ := hrel
       have hw5 : IntKind.i64.wrap ((k : Int) + 1) = (k : Int) + 1 := Wi64 (by omega)
       by_cases hlt7 : k < LL
       ·have u7 := dT (show (k : Int) < LL by omega)
        have u8 : (k : Int) < LL := by omega
        have u9 : (0 : Int) ≤ k := by omega
        obtain ⟨sy, hsy⟩ : ∃ sy, l[k]? = some sy := ⟨_, List.getElem?_eq_getElem (by rw [HLL.out]; exact hlt7)⟩
        have hne := HND.out sy (List.mem_of_getElem? hsy) z (List.mem_of_getElem? HZ.out)
        obtain ⟨gs, sp, sc, rfl, _, _, s2, _, _, _⟩ := sndr_cells HSN.out hsy
        have t1 : ((sy.r : Int) == z) = false := by rw [beq_eq_false_iff_ne]; omega
        clear hsy
        go_wp2_with fail
        go_quiet (fail)
        go_wp2_with fail
        go_roundw
        case rel => first | exact ⟨k + 1, by omega, by go_num, _, World.drewN_drewN _ _ _⟩ | exact ⟨k + 1, by omega, by go_num, _, rfl⟩
        case measure => simp [RowKit.intOf] <;> omega
       ·obtain rfl : k = LL := by omega
        have u7 : decide ((k : Int) < k) = false := by simp
        go_wp2_with fail
        go_roundw
        case rel => exact ⟨q + 1, by omega, by go_num, _, rfl⟩
        case measure => simp [RowKit.intOf] <;> omega
     ·obtain rfl : q = D := by omega
      have u4 : decide ((q : Int) < q) = false := by simp
      go_wp2_with fail
      go_ret
      exact ⟨rfl, bel_dr hB8.out _⟩
end Go.Proofs.YtieifhfgedoiaaaDoor
