/- CountKnown walked: true in any world. Conditions: none. -/
import Derived.Test.YthidjbobjjoekaaGreatKnD
import Derived.Test.YthidjbobjjoekaaGreatTaO
import Derived.Deep.QuietTactic
import Derived.BigQuiet
namespace Go.Proofs.YthidjbobjjoekaaGreat
open Go.RowKit Go.Lib Go.Sort Go.Shelf
set_option linter.unusedVariables false
set_option linter.unusedSimpArgs false
attribute [local go_sem] e49 e53 run_store_flt
/-- only memory above the result's cell has turned -/
structure Up (w0 w : World) : Prop where
  low : Below w0.heap.size w0 w
theorem Up.refl (w : World) : Up w w := ⟨Below.refl _ _⟩
theorem Up.go {w0 w w' : World} (h : Up w0 w) (hb : Below w.heap.size w w') : Up w0 w' := ⟨h.low.trans (hb.mono h.low.size)⟩
theorem Up.alloc {w0 w : World} (h : Up w0 w) (o : Obj) : Up w0 (w.alloc o) := h.go ((Below.refl _ _).alloc (Nat.le_refl _) o)
theorem neg_inf (w : World) : (Op.unary UnOp.neg (.float .f64 9218868437227405312)).run Tryz.prog w = .ok (.float .f64 18442240474082181120) w := by
  have h : (Op.unary UnOp.neg (.float .f64 9218868437227405312)).run Tryz.prog = fun w => .ok (.float .f64 18442240474082181120) w := by kernel_rfl
  rw [h]
attribute [local go_sem] neg_inf
set_option maxRecDepth 100000 in
set_option maxHeartbeats 20000000 in
theorem known_walk (w : World) : Calls Tryz.prog 3 #[] w fun e w' => e = .returned (.bool true) ∧ Below w.heap.size w w' := by
  refine (callsIn_wide (n := 9)).1 ?_
  refine callsIn_of_wp_marks Tryz.func3 rfl trivial ?_ rfl
  simp only [Tryz.ntmps3, List.size_toArray, List.length_cons, List.length_nil, Nat.reduceAdd, Nat.reduceSub, Array.replicate_succ, Array.replicate_zero, List.push_toArray, List.append_toArray, List.nil_append, List.cons_append]
  refine wpIn_wide.2 ?_
  go_wp2_with fail
  obtain ⟨w0, hw0⟩ : ∃ w0, w.alloc (.cells #[.bool false] 4) = w0 := ⟨_, rfl⟩
  have KR : Hid (Blk w0 w.heap.size 4 #[.bool false]) := hid (hw0 ▸ Blk.new w _ _)
  have BR : Hid (Below w.heap.size w w0) := hid (hw0 ▸ (Below.refl _ _).alloc (Nat.le_refl _) _)
  rw [hw0]
  clear hw0
  have U0 := hid (Up.refl w0)
  with_reducible refine Calls.mono (works_any w0) ?_
  rintro e w1 ⟨rfl, hb⟩
  have U1 := hid (U0.out.go hb)
  clear hb U0
  go_wp2_with fail
  with_reducible refine Calls.mono (pinf_any _) ?_
  rintro e w' ⟨rfl, rfl⟩
  go_wp2_with fail
  with_reducible refine Calls.mono (neg0_any _) ?_
  rintro e w' ⟨rfl, rfl⟩
  go_wp2_with fail
  with_reducible refine Calls.mono (nan_any _) ?_
  rintro e w' ⟨rfl, rfl⟩
  go_wp2_with fail
  with_reducible refine Calls.mono (nan_any _) ?_
  rintro e w' ⟨rfl, rfl⟩
  go_wp2_with fail
  with_reducible refine Calls.mono (nan_any _) ?_
  rintro e w' ⟨rfl, rfl⟩
  go_wp2_with fail
  with_reducible refine Calls.mono (nan_any _) ?_
  rintro e w' ⟨rfl, rfl⟩
  go_wp2_with fail
  have UL := hid (U1.out.alloc (.cells A11 25))
  have GL := hid (Blk.new w1 25 A11)
  obtain ⟨G, hG⟩ : ∃ G, w1.heap.size = G := ⟨_, rfl⟩
  rw [hG] at GL
  obtain ⟨wl, hwl⟩ : ∃ wl, w1.alloc (.cells A11 25) = wl := ⟨_, rfl⟩
  rw [hwl] at UL GL
  have hwl2 := hwl
  unfold A11 at hwl2
  rw [hwl2, hG]
  clear hwl hwl2 hG U1
  go_loopw [66] (fun i wr => ∃ k : Nat, k ≤ 11 ∧ i = .int .i64 k ∧ Hid (Up w0 wr) ∧ Hid (Blk wr G 25 A11)) (fun i _ => 11 - (intOf i).toNat)
  case atStart => exact ⟨0, by omega, rfl, UL, GL⟩
  case round =>
    obtain ⟨k, hk, rfl, hU, hG⟩ := hrel
    by_cases hlt : k < 11
    · obtain ⟨⟨x, y⟩, hx, a0, a1⟩ := pair11 hlt
      obtain ⟨b1, b2⟩ := logs11 _ (List.mem_of_getElem? hx)
      dsimp only at a0 a1 b1 b2
      have q0 := hG.out.cell (k := k * 2) a0
      have q1 := hG.out.cell (k := k * 2 + 1) a1
      have hL := hid (fun W => log2_any x b1 W)
      have hS := hid (fun W => same_cl _ _ b2 W)
      have hki : (k : Int) < 11 := by omega
      have UA := hid (hU.out.alloc (.cells #[.float .f64 x, .float .f64 y] 25))
      have GA := hid (hG.out.alloc (.cells #[.float .f64 x, .float .f64 y] 25))
      have KA := hid (Blk.new wr 25 #[.float .f64 x, .float .f64 y])
      clear hx a0 a1 b1 b2 hU hG
      go_wp2_with fail
      generalize wr.alloc (.cells #[.float .f64 x, .float .f64 y] 25) = wa at *
      generalize wr.heap.size = X at *
      clear q0 q1
      have q0 := KA.out.cell (k := 0) (v := .float .f64 x) rfl
      have q1 := KA.out.cell (k := 1) (v := .float .f64 y) rfl
      refine draw_allB (by kernel_rfl) (by kernel_rfl) ?_
      repeat (refine bq_step (fun K hK => ?_); go_simp; first | (refine ⟨hK _ ?_⟩; clear hK K) | (refine ⟨?_⟩; apply Exists.intro; refine ⟨fun x => ?_, hK _ ?_⟩; (first | (with_reducible exact quiet_flip (hL.out _)) | (with_reducible exact quiet_flip (hS.out _))); clear hK K))
      refine bq_nil ?_
      rintro _ ⟨q, rfl⟩
      have dB : Below wa.heap.size wa (wa.drewN q) := ⟨rfl, rfl, rfl, Nat.le_refl _, fun _ _ => rfl⟩
      have UB := hid (UA.out.go dB)
      have GB := hid (GA.out.low dB)
      clear q0 q1 dB UA GA KA
      go_wp2_with fail
      go_roundw
      case rel => exact ⟨k + 1, by omega, by go_num, UB, GB⟩
      case measure => simp [intOf]; omega
    obtain rfl : k = 11 := by omega
    have U1 := hU
    clear hU hG hlt
    go_wp2_with fail
    with_reducible refine Calls.mono (nan_any _) ?_
    rintro e w' ⟨rfl, rfl⟩
    go_wp2_with fail
    with_reducible refine Calls.mono (order_at o_1 _) ?_
    rintro e w' ⟨rfl, rfl⟩
    go_wp2_with fail
    with_reducible refine Calls.mono (neg0_any _) ?_
    rintro e w' ⟨rfl, rfl⟩
    go_wp2_with fail
    with_reducible refine Calls.mono (order_at o_2 _) ?_
    rintro e w' ⟨rfl, rfl⟩
    go_wp2_with fail
    with_reducible refine Calls.mono (nan_any _) ?_
    rintro e w' ⟨rfl, rfl⟩
    go_wp2_with fail
    with_reducible refine Calls.mono (nan_any _) ?_
    rintro e w' ⟨rfl, rfl⟩
    go_wp2_with fail
    with_reducible refine Calls.mono (order_at o_3 _) ?_
    rintro e w' ⟨rfl, rfl⟩
    go_wp2_with fail
    with_reducible refine Calls.mono (order_at o_4 _) ?_
    rintro e w' ⟨rfl, rfl⟩
    go_wp2_with fail
    with_reducible refine Calls.mono (nan_any _) ?_
    rintro e w' ⟨rfl, rfl⟩
    go_wp2_with fail
    with_reducible refine Calls.mono (order_at o_5 _) ?_
    rintro e w' ⟨rfl, rfl⟩
    go_wp2_with fail
    have hX := hid (mean_nil wr)
    with_reducible refine Calls.mono hX.out ?_
    rintro e w2 ⟨r, rfl, hr, hb⟩
    have U2 := hid (U1.out.go hb)
    clear hX hb U1
    have hS := hid (fun W => same_cl r nanV hr W)
    clear hr
    go_wp2_with fail
    with_reducible refine Calls.mono (nan_any _) ?_
    rintro e w' ⟨rfl, rfl⟩
    go_wp2_with fail
    with_reducible refine Calls.mono (hS.out _) ?_
    rintro e w' ⟨rfl, rfl⟩
    go_wp2_with fail
    clear hS
    with_reducible refine Calls.mono (neg0_any _) ?_
    rintro e w' ⟨rfl, rfl⟩
    go_wp2_with fail
    have hX := hid (mean_neg w2)
    with_reducible refine Calls.mono hX.out ?_
    rintro e w3 ⟨r2, rfl, hr, hb⟩
    have U3 := hid (U2.out.go hb)
    clear hX hb U2
    have hS := hid (fun W => same_cl r2 0 hr W)
    clear hr
    go_wp2_with fail
    with_reducible refine Calls.mono (hS.out _) ?_
    rintro e w' ⟨rfl, rfl⟩
    go_wp2_with fail
    clear hS
    have hX := hid (spr_two w3)
    with_reducible refine Calls.mono hX.out ?_
    rintro e w4 ⟨r3, rfl, hr, hb⟩
    have U4 := hid (U3.out.go hb)
    clear hX hb U3
    have hS := hid (fun W => same_cl r3 4607182418800017408 hr W)
    clear hr
    go_wp2_with fail
    with_reducible refine Calls.mono (hS.out _) ?_
    rintro e w' ⟨rfl, rfl⟩
    go_wp2_with fail
    clear hS
    have hX := hid (spr_one w4)
    with_reducible refine Calls.mono hX.out ?_
    rintro e w5 ⟨r4, rfl, hr, hb⟩
    have U5 := hid (U4.out.go hb)
    clear hX hb U4
    have hS := hid (fun W => same_cl r4 0 hr W)
    clear hr
    go_wp2_with fail
    with_reducible refine Calls.mono (hS.out _) ?_
    rintro e w' ⟨rfl, rfl⟩
    go_wp2_with fail
    clear hS
    have hX := hid (spr_nil w5)
    with_reducible refine Calls.mono hX.out ?_
    rintro e w6 ⟨r5, rfl, hr, hb⟩
    have U6 := hid (U5.out.go hb)
    clear hX hb U5
    have hS := hid (fun W => same_cl r5 nanV hr W)
    clear hr
    go_wp2_with fail
    with_reducible refine Calls.mono (nan_any _) ?_
    rintro e w' ⟨rfl, rfl⟩
    go_wp2_with fail
    with_reducible refine Calls.mono (hS.out _) ?_
    rintro e w' ⟨rfl, rfl⟩
    go_wp2_with fail
    clear hS
    have KQ := hid (Blk.new w6 23 #[.float .f64 0, .float .f64 4598175219545276416, .float .f64 4602678819172646912, .float .f64 4607182418800017408])
    obtain ⟨GQ, hGQ⟩ : ∃ G, w6.heap.size = G := ⟨_, rfl⟩
    rw [hGQ] at KQ
    rw [hGQ]
    clear hGQ
    have U7 := hid (U6.out.alloc (.cells #[.float .f64 0, .float .f64 4598175219545276416, .float .f64 4602678819172646912, .float .f64 4607182418800017408] 23))
    clear U6
    generalize hg : w6.alloc (.cells #[.float .f64 0, .float .f64 4598175219545276416, .float .f64 4602678819172646912, .float .f64 4607182418800017408] 23) = w7 at *
    clear hg
    refine wp_loop_rounds 5 ?_
    rw [rounds_succ]
    have c0 := KQ.out.cell (k := 0) (v := .float .f64 0) rfl
    go_wp2_with fail
    have hX := hid (q_0 w7)
    with_reducible refine Calls.mono hX.out ?_
    rintro e w8 ⟨hb, v, rfl, hv⟩
    have U8 := hid (U7.out.go hb)
    replace KQ := hid (KQ.out.low hb)
    clear hX hb U7
    clear c0
    have hS := hid (fun W => same_cl v (floatOfInt .f64 1) (hv.trans (by rw [show floatOfInt .f64 1 = 4607182418800017408 by decide +kernel])) W)
    clear hv
    go_wp2_with fail
    with_reducible refine Calls.mono (hS.out _) ?_
    rintro e w' ⟨rfl, rfl⟩
    go_wp2_with fail
    clear hS
    rw [rounds_succ]
    have c0 := KQ.out.cell (k := 1) (v := .float .f64 4598175219545276416) rfl
    go_wp2_with fail
    have hX := hid (q_1 w8)
    with_reducible refine Calls.mono hX.out ?_
    rintro e w9 ⟨hb, v, rfl, hv⟩
    have U9 := hid (U8.out.go hb)
    replace KQ := hid (KQ.out.low hb)
    clear hX hb U8
    clear c0
    have hS := hid (fun W => same_cl v (floatOfInt .f64 2) (hv.trans (by rw [show floatOfInt .f64 2 = 4611686018427387904 by decide +kernel])) W)
    clear hv
    go_wp2_with fail
    with_reducible refine Calls.mono (hS.out _) ?_
    rintro e w' ⟨rfl, rfl⟩
    go_wp2_with fail
    clear hS
    rw [rounds_succ]
    have c0 := KQ.out.cell (k := 2) (v := .float .f64 4602678819172646912) rfl
    go_wp2_with fail
    have hX := hid (q_2 w9)
    with_reducible refine Calls.mono hX.out ?_
    rintro e w10 ⟨hb, v, rfl, hv⟩
    have U10 := hid (U9.out.go hb)
    replace KQ := hid (KQ.out.low hb)
    clear hX hb U9
    clear c0
    have hS := hid (fun W => same_cl v (floatOfInt .f64 3) (hv.trans (by rw [show floatOfInt .f64 3 = 4613937818241073152 by decide +kernel])) W)
    clear hv
    go_wp2_with fail
    with_reducible refine Calls.mono (hS.out _) ?_
    rintro e w' ⟨rfl, rfl⟩
    go_wp2_with fail
    clear hS
    rw [rounds_succ]
    have c0 := KQ.out.cell (k := 3) (v := .float .f64 4607182418800017408) rfl
    go_wp2_with fail
    have hX := hid (q_3 w10)
    with_reducible refine Calls.mono hX.out ?_
    rintro e w11 ⟨hb, v, rfl, hv⟩
    have U11 := hid (U10.out.go hb)
    replace KQ := hid (KQ.out.low hb)
    clear hX hb U10
    clear c0
    have hS := hid (fun W => same_cl v (floatOfInt .f64 4) (hv.trans (by rw [show floatOfInt .f64 4 = 4616189618054758400 by decide +kernel])) W)
    clear hv
    go_wp2_with fail
    with_reducible refine Calls.mono (hS.out _) ?_
    rintro e w' ⟨rfl, rfl⟩
    go_wp2_with fail
    clear hS
    rw [rounds_succ]
    clear KQ
    go_wp2_with fail
    with_reducible refine Calls.mono (q_out _ _) ?_
    rintro e w' ⟨rfl, rfl⟩
    go_wp2_with fail
    have U12 := hid (U11.out.alloc (.cells #[.float .f64 4607182418800017408] 23))
    clear U11
    generalize hg : w11.alloc (.cells #[.float .f64 4607182418800017408] 23) = w12 at *
    clear hg
    with_reducible refine Calls.mono (q_none _) ?_
    rintro e w' ⟨rfl, rfl⟩
    go_wp2_with fail
    with_reducible refine Calls.mono (nan_any _) ?_
    rintro e w' ⟨rfl, rfl⟩
    go_wp2_with fail
    with_reducible refine Calls.mono (q_nan _ _) ?_
    rintro e w' ⟨rfl, rfl⟩
    go_wp2_with fail
    with_reducible refine Calls.mono (nan_any _) ?_
    rintro e w' ⟨rfl, rfl⟩
    go_wp2_with fail
    have hX := hid (bins_1 w12)
    with_reducible refine Calls.mono hX.out ?_
    rintro e w13 ⟨g1, rfl, hI, hb⟩
    have U13 := hid (U12.out.go hb)
    have I1 := hid hI
    clear hI
    clear hX hb U12
    go_wp2_with fail
    with_reducible refine Calls.mono (nan_any _) ?_
    rintro e w' ⟨rfl, rfl⟩
    go_wp2_with fail
    have hX := hid (bins_2 w13)
    with_reducible refine Calls.mono hX.out ?_
    rintro e w14 ⟨g2, rfl, hI, hb⟩
    have U14 := hid (U13.out.go hb)
    replace I1 := hid (I1.out.low hb)
    have I2 := hid hI
    clear hI
    clear hX hb U13
    go_wp2_with fail
    have hX := hid (bins_3 w14)
    with_reducible refine Calls.mono hX.out ?_
    rintro e w15 ⟨rfl, hb⟩
    have U15 := hid (U14.out.go hb)
    replace I1 := hid (I1.out.low hb)
    replace I2 := hid (I2.out.low hb)
    clear hX hb U14
    go_wp2_with fail
    have hX := hid (slope_1 w15)
    with_reducible refine Calls.mono hX.out ?_
    rintro e w16 ⟨m1, rfl, hm, hb⟩
    have U16 := hid (U15.out.go hb)
    replace I1 := hid (I1.out.low hb)
    replace I2 := hid (I2.out.low hb)
    have M1 := hid hm
    clear hm
    clear hX hb U15
    go_wp2_with fail
    have hX := hid (slope_2 w16)
    with_reducible refine Calls.mono hX.out ?_
    rintro e w17 ⟨m2, rfl, hm, hb⟩
    have U17 := hid (U16.out.go hb)
    replace I1 := hid (I1.out.low hb)
    replace I2 := hid (I2.out.low hb)
    have M2 := hid hm
    clear hm
    clear hX hb U16
    go_wp2_with fail
    have hX := hid (slope_3 w17)
    with_reducible refine Calls.mono hX.out ?_
    rintro e w18 ⟨m3, rfl, hm, hb⟩
    have U18 := hid (U17.out.go hb)
    replace I1 := hid (I1.out.low hb)
    replace I2 := hid (I2.out.low hb)
    clear hm
    clear hX hb U17
    go_wp2_with fail
    have hX := hid (slope_4 w18)
    with_reducible refine Calls.mono hX.out ?_
    rintro e w19 ⟨m4, rfl, hm, hb⟩
    have U19 := hid (U18.out.go hb)
    replace I1 := hid (I1.out.low hb)
    replace I2 := hid (I2.out.low hb)
    clear hm
    clear hX hb U18
    go_wp2_with fail
    have hX := hid (eq_4 I1.out)
    with_reducible refine Calls.mono hX.out ?_
    rintro e w20 ⟨rfl, hb⟩
    have U20 := hid (U19.out.go hb)
    replace I2 := hid (I2.out.low hb)
    clear I1
    clear hX hb U19
    go_wp2_with fail
    have hX := hid (eq_2 I2.out)
    with_reducible refine Calls.mono hX.out ?_
    rintro e w21 ⟨rfl, hb⟩
    have U21 := hid (U20.out.go hb)
    clear I2
    clear hX hb U20
    go_wp2_with fail
    have hS := hid (fun W => same_cl m1 4611686018427387904 M1.out W)
    with_reducible refine Calls.mono (hS.out _) ?_
    rintro e w' ⟨rfl, rfl⟩
    go_wp2_with fail
    clear hS
    with_reducible refine Calls.mono (nan_any _) ?_
    rintro e w' ⟨rfl, rfl⟩
    go_wp2_with fail
    have hS := hid (fun W => same_cl m2 nanV (M2.out.trans cl_nanV.symm) W)
    with_reducible refine Calls.mono (hS.out _) ?_
    rintro e w' ⟨rfl, rfl⟩
    go_wp2_with fail
    clear hS
    clear M1 M2
    obtain ⟨N, hNs⟩ : ∃ N, w21.heap.size = N := ⟨_, rfl⟩
    have hN0 : w0.heap.size ≤ N := by rw [← hNs]; exact U21.out.low.size
    with_reducible refine Calls.mono (new_any w21) ?_
    rintro e w22 ⟨rfl, hT, hb, hs⟩
    have U22 := hid (U21.out.go hb)
    rw [hNs] at hT hb hs
    rw [hNs]
    have T1 := hid hT
    have S1 := hid hs
    clear hT hb hs U21
    clear hNs
    go_wp2_with fail
    with_reducible refine Calls.mono (new_any w22) ?_
    rintro e w23 ⟨rfl, hT, hb, hs⟩
    have U23 := hid (U22.out.go hb)
    rw [S1.out] at hT hb hs
    rw [S1.out]
    have T2 := hid hT
    have S2 := hid hs
    replace T1 := hid (T1.out.lowN hb (by omega) (by omega))
    clear hT hb hs U22
    go_wp2_with fail
    with_reducible refine Calls.mono (new_any w23) ?_
    rintro e w24 ⟨rfl, hT, hb, hs⟩
    have U24 := hid (U23.out.go hb)
    rw [S2.out] at hT hb hs
    rw [S2.out]
    have T3 := hid hT
    have S3 := hid hs
    replace T1 := hid (T1.out.lowN hb (by omega) (by omega))
    replace T2 := hid (T2.out.lowN hb (by omega) (by omega))
    clear hT hb hs U23
    go_wp2_with fail
    clear S1 S2 S3
    have hX := hid (add_any T1.out kA 1 (by decide))
    rw [show addE [] kA 1 = 0 by decide +kernel, show addR [] kA 1 = [(kA, 1)] by decide +kernel] at hX
    with_reducible refine Calls.mono hX.out ?_
    rintro e w25 ⟨rfl, hT, hc, -⟩
    have U25 : Hid (Up w0 w25) := hid ⟨U24.out.low.trans (hc.below (by omega) (by omega) U24.out.low.size)⟩
    replace T1 := hid hT
    replace T2 := hid (T2.out.other hc (by omega) (by omega) (by omega) (by omega))
    replace T3 := hid (T3.out.other hc (by omega) (by omega) (by omega) (by omega))
    clear hX hT hc U24
    go_wp2_with fail
    have hX := hid (add_any T1.out kB 1 (by decide))
    rw [show addE [(kA, 1)] kB 1 = 0 by decide +kernel, show addR [(kA, 1)] kB 1 = [(kA, 1), (kB, 1)] by decide +kernel] at hX
    with_reducible refine Calls.mono hX.out ?_
    rintro e w26 ⟨rfl, hT, hc, -⟩
    have U26 : Hid (Up w0 w26) := hid ⟨U25.out.low.trans (hc.below (by omega) (by omega) U25.out.low.size)⟩
    replace T1 := hid hT
    replace T2 := hid (T2.out.other hc (by omega) (by omega) (by omega) (by omega))
    replace T3 := hid (T3.out.other hc (by omega) (by omega) (by omega) (by omega))
    clear hX hT hc U25
    go_wp2_with fail
    have hX := hid (add_any T2.out kA 4 (by decide))
    rw [show addE [] kA 4 = 0 by decide +kernel, show addR [] kA 4 = [(kA, 4)] by decide +kernel] at hX
    with_reducible refine Calls.mono hX.out ?_
    rintro e w27 ⟨rfl, hT, hc, -⟩
    have U27 : Hid (Up w0 w27) := hid ⟨U26.out.low.trans (hc.below (by omega) (by omega) U26.out.low.size)⟩
    replace T1 := hid (T1.out.other hc (by omega) (by omega) (by omega) (by omega))
    replace T2 := hid hT
    replace T3 := hid (T3.out.other hc (by omega) (by omega) (by omega) (by omega))
    clear hX hT hc U26
    go_wp2_with fail
    have hX := hid (add_any T2.out kB 2 (by decide))
    rw [show addE [(kA, 4)] kB 2 = 0 by decide +kernel, show addR [(kA, 4)] kB 2 = [(kA, 4), (kB, 2)] by decide +kernel] at hX
    with_reducible refine Calls.mono hX.out ?_
    rintro e w28 ⟨rfl, hT, hc, -⟩
    have U28 : Hid (Up w0 w28) := hid ⟨U27.out.low.trans (hc.below (by omega) (by omega) U27.out.low.size)⟩
    replace T1 := hid (T1.out.other hc (by omega) (by omega) (by omega) (by omega))
    replace T2 := hid hT
    replace T3 := hid (T3.out.other hc (by omega) (by omega) (by omega) (by omega))
    clear hX hT hc U27
    go_wp2_with fail
    have hX := hid (add_any T3.out kC 3 (by decide))
    rw [show addE [] kC 3 = 0 by decide +kernel, show addR [] kC 3 = [(kC, 3)] by decide +kernel] at hX
    with_reducible refine Calls.mono hX.out ?_
    rintro e w29 ⟨rfl, hT, hc, -⟩
    have U29 : Hid (Up w0 w29) := hid ⟨U28.out.low.trans (hc.below (by omega) (by omega) U28.out.low.size)⟩
    replace T1 := hid (T1.out.other hc (by omega) (by omega) (by omega) (by omega))
    replace T2 := hid (T2.out.other hc (by omega) (by omega) (by omega) (by omega))
    replace T3 := hid hT
    clear hX hT hc U28
    go_wp2_with fail
    have hX := hid (add_any T1.out kA 0 (by decide))
    rw [show addE [(kA, 1), (kB, 1)] kA 0 = 2 by decide +kernel, show addR [(kA, 1), (kB, 1)] kA 0 = [(kA, 1), (kB, 1)] by decide +kernel] at hX
    with_reducible refine Calls.mono hX.out ?_
    rintro e w30 ⟨rfl, hT, hc, -⟩
    have U30 : Hid (Up w0 w30) := hid ⟨U29.out.low.trans (hc.below (by omega) (by omega) U29.out.low.size)⟩
    replace T1 := hid hT
    replace T2 := hid (T2.out.other hc (by omega) (by omega) (by omega) (by omega))
    replace T3 := hid (T3.out.other hc (by omega) (by omega) (by omega) (by omega))
    clear hX hT hc U29
    go_wp2_with fail
    have hX := hid (add_any T1.out kA (-1) (by decide))
    rw [show addE [(kA, 1), (kB, 1)] kA (-1) = 2 by decide +kernel, show addR [(kA, 1), (kB, 1)] kA (-1) = [(kA, 1), (kB, 1)] by decide +kernel] at hX
    with_reducible refine Calls.mono hX.out ?_
    rintro e w31 ⟨rfl, hT, hc, -⟩
    have U31 : Hid (Up w0 w31) := hid ⟨U30.out.low.trans (hc.below (by omega) (by omega) U30.out.low.size)⟩
    replace T1 := hid hT
    replace T2 := hid (T2.out.other hc (by omega) (by omega) (by omega) (by omega))
    replace T3 := hid (T3.out.other hc (by omega) (by omega) (by omega) (by omega))
    clear hX hT hc U30
    go_wp2_with fail
    have hX := hid (zipf39 T1.out)
    rw [v_zip1] at hX
    try dsimp only at hX
    with_reducible refine Calls.mono hX.out ?_
    rintro e w32 ⟨z1, rfl, hz, hb⟩
    have U32 := hid (U31.out.go hb)
    replace T1 := hid (T1.out.low hb)
    replace T2 := hid (T2.out.low hb)
    replace T3 := hid (T3.out.low hb)
    have Z1 := hid hz
    clear hz
    clear hX hb U31
    go_wp2_with fail
    have hX := hid (zipf39 T2.out)
    rw [v_zip2] at hX
    try dsimp only at hX
    with_reducible refine Calls.mono hX.out ?_
    rintro e w33 ⟨z2, rfl, hz, hb⟩
    have U33 := hid (U32.out.go hb)
    replace T1 := hid (T1.out.low hb)
    replace T2 := hid (T2.out.low hb)
    replace T3 := hid (T3.out.low hb)
    have Z2 := hid hz
    clear hz
    clear hX hb U32
    go_wp2_with fail
    have hX := hid (zipf39 T3.out)
    rw [v_zip3] at hX
    try dsimp only at hX
    with_reducible refine Calls.mono hX.out ?_
    rintro e w34 ⟨z3, rfl, hz, hb⟩
    have U34 := hid (U33.out.go hb)
    replace T1 := hid (T1.out.low hb)
    replace T2 := hid (T2.out.low hb)
    replace T3 := hid (T3.out.low hb)
    clear hz
    clear hX hb U33
    go_wp2_with fail
    have hX := hid (ent43 T1.out)
    rw [v_ent] at hX
    try dsimp only at hX
    with_reducible refine Calls.mono hX.out ?_
    rintro e w35 ⟨r, rfl, hr, hb⟩
    have U35 := hid (U34.out.go hb)
    replace T1 := hid (T1.out.low hb)
    replace T2 := hid (T2.out.low hb)
    replace T3 := hid (T3.out.low hb)
    have hS := hid (fun W => same_cl r _ hr W)
    clear hr
    clear hX hb U34
    go_wp2_with fail
    with_reducible refine Calls.mono (hS.out _) ?_
    rintro e w' ⟨rfl, rfl⟩
    go_wp2_with fail
    clear hS
    have hS := hid (fun W => same_cl z1 0 Z1.out W)
    with_reducible refine Calls.mono (hS.out _) ?_
    rintro e w' ⟨rfl, rfl⟩
    go_wp2_with fail
    clear hS
    have hS := hid (fun W => same_cl z2 13830554455654793216 Z2.out W)
    with_reducible refine Calls.mono (hS.out _) ?_
    rintro e w' ⟨rfl, rfl⟩
    go_wp2_with fail
    clear hS
    clear Z1 Z2
    have hX := hid (cos45 T1.out T3.out w_13)
    rw [v_cos1] at hX
    try dsimp only at hX
    with_reducible refine Calls.mono hX.out ?_
    rintro e w36 ⟨r6, rfl, hr, hb⟩
    have U36 := hid (U35.out.go hb)
    replace T1 := hid (T1.out.low hb)
    replace T2 := hid (T2.out.low hb)
    replace T3 := hid (T3.out.low hb)
    have hS := hid (fun W => same_cl r6 _ hr W)
    clear hr
    clear hX hb U35
    go_wp2_with fail
    with_reducible refine Calls.mono (hS.out _) ?_
    rintro e w' ⟨rfl, rfl⟩
    go_wp2_with fail
    clear hS
    have hX := hid (cos45 T3.out T3.out w_33)
    rw [v_cos2] at hX
    try dsimp only at hX
    with_reducible refine Calls.mono hX.out ?_
    rintro e w37 ⟨r7, rfl, hr, hb⟩
    have U37 := hid (U36.out.go hb)
    replace T1 := hid (T1.out.low hb)
    replace T2 := hid (T2.out.low hb)
    replace T3 := hid (T3.out.low hb)
    have hS := hid (fun W => same_cl r7 _ hr W)
    clear hr
    clear hX hb U36
    go_wp2_with fail
    with_reducible refine Calls.mono (hS.out _) ?_
    rintro e w' ⟨rfl, rfl⟩
    go_wp2_with fail
    clear hS
    have hX := hid (new_any w37)
    with_reducible refine Calls.mono hX.out ?_
    rintro e w38 ⟨rfl, hT, hb, -⟩
    have U38 := hid (U37.out.go hb)
    replace T1 := hid (T1.out.low hb)
    replace T2 := hid (T2.out.low hb)
    replace T3 := hid (T3.out.low hb)
    have T4 := hid hT
    clear hT
    clear hX hb U37
    go_wp2_with fail
    have hX := hid (cos45 T1.out T4.out w_10)
    rw [v_cos3] at hX
    try dsimp only at hX
    with_reducible refine Calls.mono hX.out ?_
    rintro e w39 ⟨r8, rfl, hr, hb⟩
    have U39 := hid (U38.out.go hb)
    replace T1 := hid (T1.out.low hb)
    replace T2 := hid (T2.out.low hb)
    replace T3 := hid (T3.out.low hb)
    have hS := hid (fun W => same_cl r8 nanV (hr.trans cl_nanV.symm) W)
    clear hr T4
    clear hX hb U38
    go_wp2_with fail
    with_reducible refine Calls.mono (nan_any _) ?_
    rintro e w' ⟨rfl, rfl⟩
    go_wp2_with fail
    with_reducible refine Calls.mono (hS.out _) ?_
    rintro e w' ⟨rfl, rfl⟩
    go_wp2_with fail
    clear hS
    clear T2 T3
    with_reducible refine Calls.mono (zipf_nil _) ?_
    rintro e w' ⟨rfl, rfl⟩
    go_wp2_with fail
    have hX := hid (of_nil w39)
    with_reducible refine Calls.mono hX.out ?_
    rintro e w40 ⟨rfl, hb⟩
    have U40 := hid (U39.out.go hb)
    replace T1 := hid (T1.out.low hb)
    clear hX hb U39
    go_wp2_with fail
    have hX := hid (lengths_nil w40)
    with_reducible refine Calls.mono hX.out ?_
    rintro e w41 ⟨rfl, hb⟩
    have U41 := hid (U40.out.go hb)
    replace T1 := hid (T1.out.low hb)
    clear hX hb U40
    go_wp2_with fail
    have hX := hid (nil_each w41)
    with_reducible refine Calls.mono hX.out ?_
    rintro e w42 ⟨rfl, hw42⟩
    clear hX
    obtain ⟨Bs, hBs⟩ : ∃ B, w41.heap.size = B := ⟨_, rfl⟩
    have k7 : Blk w42 Bs 44 #[.pointer none] := by rw [hw42, ← hBs]; exact Blk.new w41 _ _
    have hb : Below w41.heap.size w41 w42 := by rw [hw42]; exact (Below.refl _ _).alloc (Nat.le_refl _) _
    have U42 := hid (U41.out.go hb)
    have hlt : Bs < w42.heap.size := k7.lt
    rw [hBs]
    clear hw42 hb hBs U41 T1
    go_wp2_with fail
    refine (wpIn_wide (n := 9)).1 ?_
    refine name_act ?_
    intro Tm D hTm hD
    refine rangeFunc_own (F := Fence.wide) (α := Ent) rfl (by omega) (gf := 50) (lb := #[.pointer (some ⟨Bs, 0, none⟩)]) (by subst hTm; rfl) trivial (enters_of Tryz.func50 (by kernel_rfl) rfl)
      (nil_next 8 (by omega) Bs w42.heap.size w42 hlt (k7.cell rfl)) (Nat.le_refl _) (Below.refl _ _) (fun _ => rfl)
      (fun _ W => Below w42.heap.size w42 W) (fun _ _ _ => False) (ownFrom_below (Nat.le_refl _) (Nat.le_refl _)) (fun _ => ownFrom_pure _ _) (Below.refl _ _)
      (fun x a' W => True) (fun x a' _ X Y row hs hg hr => trivial) ?assign ?body ?done ?stop
    case assign =>
      rintro l pre x W K hB hpre hK
      exact absurd hpre.length_le (by simp)
    case body =>
      rintro l pre x a' W hl hr hnext hB -
      exact absurd hnext.length_le (by simp)
    case stop =>
      rintro Dk c pre W hDk hpre h _
      exact h.elim
    case done =>
      rintro Dk W hDk hB hK
      subst hTm hD
      have UA := hid (U42.out.go hB)
      have HK := hid hK
      have hw42 : w.heap.size ≤ w42.heap.size := Nat.le_trans BR.out.size U42.out.low.size
      have HR := hid same_refl
      clear hB hK U42 k7
      go_wp2_with fail
      with_reducible refine Calls.mono (add_nil _ _ _) ?_
      rintro e w' ⟨rfl, rfl⟩
      go_wp2_with fail
      with_reducible refine Calls.mono (merge_nil1 _ _) ?_
      rintro e w' ⟨rfl, rfl⟩
      go_wp2_with fail
      with_reducible refine Calls.mono (merge_nil2 _ _) ?_
      rintro e w' ⟨rfl, rfl⟩
      go_wp2_with fail
      with_reducible refine Calls.mono (len_nil _) ?_
      rintro e w' ⟨rfl, rfl⟩
      go_wp2_with fail
      with_reducible refine Calls.mono (total_nil _) ?_
      rintro e w' ⟨rfl, rfl⟩
      go_wp2_with fail
      with_reducible refine Calls.mono (count_nil _ _) ?_
      rintro e w' ⟨rfl, rfl⟩
      go_wp2_with fail
      with_reducible refine Calls.mono (rate_nil _) ?_
      rintro e w' ⟨rfl, rfl⟩
      go_wp2_with fail
      with_reducible refine Calls.mono (nan_any _) ?_
      rintro e w' ⟨rfl, rfl⟩
      go_wp2_with fail
      with_reducible refine Calls.mono (HR.out _ _) ?_
      rintro e w' ⟨rfl, rfl⟩
      go_wp2_with fail
      with_reducible refine Calls.mono (ent_nil _) ?_
      rintro e W2 ⟨rfl, hb⟩
      have U2 := hid (UA.out.go hb)
      have HK2 := hid ((hb.block Dk (Array.getElem?_eq_some_iff.1 HK.out).1).trans HK.out)
      have K2 := hid (KR.out.low U2.out.low)
      have c3 := K2.out.cell (k := 0) (v := .bool false) rfl
      have f3 := K2.out.froz 0
      have n3 := K2.out.lt
      have C3 := hid c3
      clear hb UA HK
      go_wp2_with fail
      with_reducible refine Calls.mono (nan_any _) ?_
      rintro e w' ⟨rfl, rfl⟩
      go_wp2_with fail
      with_reducible refine Calls.mono (HR.out _ _) ?_
      rintro e w' ⟨rfl, rfl⟩
      go_wp2_with fail
      with_reducible refine Calls.mono (cos_nil _ _) ?_
      rintro e w' ⟨rfl, rfl⟩
      go_wp2_with fail
      with_reducible refine Calls.mono (nan_any _) ?_
      rintro e w' ⟨rfl, rfl⟩
      go_wp2_with fail
      with_reducible refine Calls.mono (HR.out _ _) ?_
      rintro e w' ⟨rfl, rfl⟩
      go_wp2_with fail
      have hK2 : (W2.setCell ⟨w.heap.size, 0, none⟩ (.bool true)).heap[Dk]? = some (.deferred (some [])) := (KeepsOthers.setCell _ _ _).same Dk _ HK2.out rfl
      refine ⟨by simp, .inl ⟨_, _, rfl, run_takeDeferred hK2, ?_⟩⟩
      have hcc : ((W2.setCell ⟨w.heap.size, 0, none⟩ (.bool true)).putObj Dk (.deferred none)).cell? ⟨w.heap.size, 0, none⟩ = some (.bool true) :=
        cell_kept (World.cell?_setCell_same' _ _ _ (by rw [C3.out]; rfl)) (grownBy_putObj' _ Dk (.deferred none)) (fun r e => by cases e; exact ⟨_, hK2, rfl⟩)
      have q0 : Below w.heap.size w W2 := BR.out.trans (U2.out.low.mono BR.out.size)
      have q1 : Below w.heap.size w (W2.setCell ⟨w.heap.size, 0, none⟩ (.bool true)) := q0.setCell (p := ⟨w.heap.size, 0, none⟩) (Nat.le_refl _) _
      have hFin : Below w.heap.size w ((W2.setCell ⟨w.heap.size, 0, none⟩ (.bool true)).putObj Dk (.deferred none)) :=
        q1.trans (belowK_b (w := w42) (by omega) _ _ _ _ hDk hK2 rfl rfl)
      exact ⟨_, by simp [results, Tryz.results3, go_sem, hcc], rfl, hFin⟩
end Go.Proofs.YthidjbobjjoekaaGreat
