/- works() of the Count statements: true in any world. Conditions: none. -/
import Derived.Test.YthidjbobjjoekaaGreatTaH
import Derived.Test.YthidjbobjjoekaaGreatCoC
namespace Go.Proofs.YthidjbobjjoekaaGreat
open Go.RowKit Go.Lib Go.Sort Go.Shelf
set_option linter.unusedVariables false
set_option linter.unusedSimpArgs false
theorem rate_any {w : World} {b m : Nat} {L : List Ent} (h : Tal w b m L) (h0 : L ≠ []) (r : Nat) (hr : Ieee.double.div (floatOfInt .f64 L.length) (floatOfInt .f64 (sumL L)) = some r) :
    Calls Tryz.prog 30 #[.pointer (some ⟨b, 0, none⟩)] w fun e w' => e = .returned (.float .f64 r) ∧ w = w' := by
  have hL := hid (len_any h)
  have hS := hid (total_any h)
  have hq : ∀ t w, (binOp .quo t (.float .f64 (floatOfInt .f64 L.length)) (.float .f64 (floatOfInt .f64 (sumL L)))).run Tryz.prog w = .ok (.float .f64 r) w := fun t w => run_float_arith w .quo t .f64 _ _ r hr
  have hz : ((L.length : Int) == 0) = false := by
    rw [beq_eq_false_iff_ne]; intro e; apply h0; apply List.eq_nil_of_length_eq_zero; omega
  have hz' : (L.length == 0) = false := by
    rw [beq_eq_false_iff_ne]; intro e; apply h0; apply List.eq_nil_of_length_eq_zero; omega
  clear h h0 hr
  generalize sumL L = S at *
  generalize L.length = n at *
  go_enter Tryz.func30, Tryz.ntmps30
  go_wp2_with fail
  with_reducible refine Calls.mono hL.out ?_
  rintro e w' ⟨rfl, rfl⟩
  go_wp2_with fail
  with_reducible refine Calls.mono hL.out ?_
  rintro e w' ⟨rfl, rfl⟩
  go_wp2_with fail
  with_reducible refine Calls.mono hS.out ?_
  rintro e w' ⟨rfl, rfl⟩
  go_wp2_with fail
  go_ret
  exact ⟨rfl, rfl⟩
theorem mean_124 {w : World} {g : Nat} (h : Blk w g 23 #[.float .f64 4607182418800017408, .float .f64 4611686018427387904, .float .f64 4616189618054758400]) :
    Calls Tryz.prog 12 #[.slice (some ⟨g, 0, none⟩) 3 3] w fun e w' => e = .returned (.float .f64 4612436618365282987) ∧ w = w' := by
  have c0 := h.cell (k := 0) (v := .float .f64 4607182418800017408) rfl
  have c1 := h.cell (k := 1) (v := .float .f64 4611686018427387904) rfl
  have c2 := h.cell (k := 2) (v := .float .f64 4616189618054758400) rfl
  have a1 : ∀ t w, (binOp .add t (.float .f64 0) (.float .f64 4607182418800017408)).run Tryz.prog w = .ok (.float .f64 4607182418800017408) w := fun t w => run_float_arith w .add t .f64 _ _ _ (by decide +kernel)
  have a2 : ∀ t w, (binOp .add t (.float .f64 4607182418800017408) (.float .f64 4611686018427387904)).run Tryz.prog w = .ok (.float .f64 4613937818241073152) w := fun t w => run_float_arith w .add t .f64 _ _ _ (by decide +kernel)
  have a3 : ∀ t w, (binOp .add t (.float .f64 4613937818241073152) (.float .f64 4616189618054758400)).run Tryz.prog w = .ok (.float .f64 4619567317775286272) w := fun t w => run_float_arith w .add t .f64 _ _ _ (by decide +kernel)
  have a4 : ∀ t w, (binOp .quo t (.float .f64 4619567317775286272) (.float .f64 4613937818241073152)).run Tryz.prog w = .ok (.float .f64 4612436618365282987) w := fun t w => run_float_arith w .quo t .f64 _ _ _ (by decide +kernel)
  have f3 : floatOfInt .f64 3 = 4613937818241073152 := by decide +kernel
  have hm : Hid (Calls Tryz.prog 36 #[.slice (some ⟨g, 0, none⟩) 3 3] w fun e w' => e = .returned (.float .f64 4612436618365282987) ∧ w = w') := by
    clear h
    go_enter Tryz.func36, Tryz.ntmps36
    go_wp2_with fail
    refine wp_loop_rounds 4 ?_
    rw [rounds_succ]
    go_wp2_with fail
    rw [rounds_succ]
    go_wp2_with fail
    rw [rounds_succ]
    go_wp2_with fail
    rw [rounds_succ]
    go_wp2_with fail
    go_ret
    exact ⟨rfl, rfl⟩
  have hT := hid (told_any 4612436618365282987)
  have hz : zeroV 4612436618365282987 = 4612436618365282987 := by decide +kernel
  rw [hz] at hT
  clear a1 a2 a3 a4 f3 c0 c1 c2 h hz
  go_enter Tryz.func12, Tryz.ntmps12
  go_wp2_with fail
  with_reducible refine Calls.mono hm.out ?_
  rintro e w' ⟨rfl, rfl⟩
  go_wp2_with fail
  with_reducible refine Calls.mono (hT.out _) ?_
  rintro e w' ⟨rfl, rfl⟩
  go_wp2_with fail
  go_ret
  exact ⟨rfl, rfl⟩
abbrev kA : ByteArray := ⟨#[97]⟩
abbrev kB : ByteArray := ⟨#[98]⟩
abbrev kC : ByteArray := ⟨#[99]⟩
theorem put3 : putL (putL (putL [] kA 2) kB 1) kC 2 = [(kA, 2), (kC, 2), (kB, 1)] := by decide +kernel
theorem put2 : putL (putL [] kA 2) kB 1 = [(kA, 2), (kB, 1)] := by decide +kernel
theorem put1 : putL [] kA 2 = [(kA, 2)] := by decide +kernel
theorem log8 : log2V 4620693217682128896 = 4613937818241073152 := by decide +kernel
theorem rate35 : Ieee.double.div (floatOfInt .f64 3) (floatOfInt .f64 5) = some 4603579539098121011 := by decide +kernel
set_option maxRecDepth 100000 in
set_option maxHeartbeats 2000000 in
theorem works_any (w : World) : Calls Tryz.prog 4 #[] w fun e w' => e = .returned (.bool true) ∧ Below w.heap.size w w' := by
  have hN := hid (new_any w)
  go_enter Tryz.func4, Tryz.ntmps4
  go_wp2_with fail
  with_reducible refine Calls.mono hN.out ?_
  rintro e w1 ⟨rfl, hT1, hb1, -⟩
  have HT := hid hT1
  have HB := hid hb1
  clear hN hT1 hb1
  go_wp2_with fail
  have hA := hid (add_ok HT.out kA 2 (by decide) (by decide) (by decide) (.inr (by decide)))
  rw [put1] at hA
  with_reducible refine Calls.mono hA.out ?_
  rintro e w2 ⟨rfl, hT2, hc2, -⟩
  have hs1 := HT.out.blt
  replace HB := hid (HB.out.trans (hc2.below (by omega) (by omega) (by omega)))
  replace HT := hid hT2
  clear hA hT2 hc2
  go_wp2_with fail
  have hA := hid (add_ok HT.out kB 1 (by decide) (by decide) (by decide +kernel) (.inr (by decide)))
  rw [show putL [(kA, 2)] kB 1 = [(kA, 2), (kB, 1)] by decide +kernel] at hA
  with_reducible refine Calls.mono hA.out ?_
  rintro e w3 ⟨rfl, hT2, hc2, -⟩
  have hs2 := HT.out.blt
  replace HB := hid (HB.out.trans (hc2.below (by omega) (by omega) (by omega)))
  replace HT := hid hT2
  clear hA hT2 hc2
  go_wp2_with fail
  have hA := hid (add_ok HT.out kC 2 (by decide) (by decide) (by decide +kernel) (.inr (by decide)))
  rw [show putL [(kA, 2), (kB, 1)] kC 2 = [(kA, 2), (kC, 2), (kB, 1)] by decide +kernel] at hA
  with_reducible refine Calls.mono hA.out ?_
  rintro e w4 ⟨rfl, hT2, hc2, -⟩
  have hs3 := HT.out.blt
  replace HB := hid (HB.out.trans (hc2.below (by omega) (by omega) (by omega)))
  replace HT := hid hT2
  clear hA hT2 hc2
  go_wp2_with fail
  have hs4 := HT.out.blt
  have hT5 := hid (HT.out.low (((Below.refl w4.heap.size w4)).alloc (Nat.le_refl _) (.cells #[.string kA, .int .i64 2, .string kC, .int .i64 2, .string kB, .int .i64 1] 61)))
  have hV5 : Hid (EntsIn (w4.alloc (.cells #[.string kA, .int .i64 2, .string kC, .int .i64 2, .string kB, .int .i64 1] 61)) (.slice (some ⟨w4.heap.size, 0, none⟩) ([(kA, 2), (kC, 2), (kB, 1)] : List Ent).length 3) [(kA, 2), (kC, 2), (kB, 1)]) := by
    refine .inr ⟨_, _, rfl, by simp, fun k x hx => ?_⟩
    have hk := Blk.new w4 61 #[.string kA, .int .i64 2, .string kC, .int .i64 2, .string kB, .int .i64 1]
    match k, hx with
    | 0, hx => simp at hx; subst hx; exact ⟨hk.cell rfl, hk.cell rfl⟩
    | 1, hx => simp at hx; subst hx; exact ⟨hk.cell rfl, hk.cell rfl⟩
    | 2, hx => simp at hx; subst hx; exact ⟨hk.cell rfl, hk.cell rfl⟩
  have hI := hid (is_any hT5.out hV5.out)
  with_reducible refine Calls.mono hI.out ?_
  rintro e w5 ⟨rfl, hb5⟩
  replace HB := hid (HB.out.trans ((((Below.refl w4.heap.size w4)).alloc (Nat.le_refl _) (.cells #[.string kA, .int .i64 2, .string kC, .int .i64 2, .string kB, .int .i64 1] 61)).mono (by omega)))
  replace HT := hid (hT5.out.low hb5)
  replace HB := hid (HB.out.trans (hb5.mono (by simp; omega)))
  clear hI hT5 hV5 hb5
  go_wp2_with fail
  have hR := hid (rate_any HT.out (by simp) 4603579539098121011 rate35)
  with_reducible refine Calls.mono hR.out ?_
  rintro e w6 ⟨rfl, rfl⟩
  clear hR
  go_wp2_with fail
  have hS := hid same_refl
  with_reducible refine Calls.mono (hS.out _ _) ?_
  rintro e w6 ⟨rfl, rfl⟩
  go_wp2_with fail
  have hM := hid (mean_124 (Blk.new w5 23 #[.float .f64 4607182418800017408, .float .f64 4611686018427387904, .float .f64 4616189618054758400]))
  with_reducible refine Calls.mono hM.out ?_
  rintro e w6 ⟨rfl, rfl⟩
  clear hM
  go_wp2_with fail
  with_reducible refine Calls.mono (hS.out _ _) ?_
  rintro e w6 ⟨rfl, rfl⟩
  go_wp2_with fail
  have hG := hid (log2_any 4620693217682128896 (by decide))
  rw [log8] at hG
  with_reducible refine Calls.mono (hG.out _) ?_
  rintro e w6 ⟨rfl, rfl⟩
  clear hG
  go_wp2_with fail
  with_reducible refine Calls.mono (hS.out _ _) ?_
  rintro e w6 ⟨rfl, rfl⟩
  go_wp2_with fail
  go_ret
  exact ⟨rfl, HB.out.alloc HB.out.size _⟩
end Go.Proofs.YthidjbobjjoekaaGreat
