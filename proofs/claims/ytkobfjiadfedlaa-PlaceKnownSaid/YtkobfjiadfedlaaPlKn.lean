/- PlaceKnown, walked. Conditions: none. -/
import Derived.Test.YtkobfjiadfedlaaPlKa
import Derived.Test.YtkobfjiadfedlaaPlG
import Derived.WalkSpells
import Derived.WalkLawsBesides
import Derived.Deep.DeepCutAuto
namespace Go.Proofs.Ytkobfjiadfedlaa
open Go.RowKit Go.Shelf
set_option linter.unusedVariables false
set_option linter.unusedSimpArgs false
attribute [local go_sem] Oper.semAt_some
attribute [local go_sem] Ext.cell Ext.froz
set_option maxRecDepth 100000 in
set_option maxHeartbeats 8000000 in
theorem kn_walk (w : World) : Calls Try.prog 11 #[] w fun e w' => e = .returned (.bool true) ∧ Below w.heap.size w w' := by
  refine (callsIn_wide (n := 9)).1 ?_
  refine callsIn_of_wp_marks Try.func11 rfl trivial ?_ rfl
  simp only [Try.ntmps11, List.size_toArray, List.length_cons, List.length_nil, Nat.reduceAdd, Nat.reduceSub, Array.replicate_succ, Array.replicate_zero, List.push_toArray, List.append_toArray, List.nil_append, List.cons_append]
  refine wpIn_wide.2 ?_
  go_wp2_with fail
  obtain ⟨wa, hA⟩ : ∃ wa, w.alloc (.cells #[.bool false] 4) = wa := ⟨_, rfl⟩
  have k4 : Blk wa w.heap.size 4 #[.bool false] := hA ▸ Blk.new w _ _
  have ba : Below w.heap.size w wa := hA ▸ (Below.refl _ _).alloc (Nat.le_refl _) _
  rw [hA]
  clear hA
  have hW := hid (works_any wa)
  with_reducible refine Calls.mono hW.out ?_
  rintro e w1 ⟨rfl, hb1⟩
  replace k4 := k4.low hb1
  replace ba := ba.trans (hb1.mono ba.size)
  clear hb1 hW
  go_wp2_with fail
  have hN := hid (tee_new w1)
  with_reducible refine Calls.mono hN.out ?_
  rintro e w2 ⟨b, rfl, hm, hb⟩
  replace k4 := k4.low hb
  replace ba := ba.trans (hb.mono ba.size)
  clear hb hN
  go_wp2_with fail
  have hE := hid (tee_end hm)
  with_reducible refine Calls.mono hE.out ?_
  rintro e w3 ⟨rfl, hb⟩
  replace k4 := k4.low hb
  replace ba := ba.trans (hb.mono ba.size)
  replace hm := hm.below hb
  clear hb hE
  go_upto_region 7 with fail
  obtain ⟨N51, hN51⟩ : ∃ N, w3.heap.size = N := ⟨_, rfl⟩
  obtain ⟨w4, hA⟩ : ∃ W, w3.alloc (.cells #[.int .i64 1, .int .i64 3, .int .i64 1, .int .i64 6, .int .i64 5, .int .i64 5, .int .i64 1, .int .i64 1, .int .i64 0, .int .i64 0, .int .i64 1, .int .i64 3, .int .i64 4, .int .i64 3, .int .i64 3, .int .i64 0, .int .i64 3, .int .i64 0, .int .i64 8, .int .i64 1, .int .i64 (-1), .int .i64 5, .int .i64 4, .int .i64 4, .int .i64 1, .int .i64 0, .int .i64 0, .int .i64 0, .int .i64 3, .int .i64 9, .int .i64 11, .int .i64 7, .int .i64 8, .int .i64 2, .int .i64 0, .int .i64 0, .int .i64 4, .int .i64 3, .int .i64 1, .int .i64 10, .int .i64 6, .int .i64 7, .int .i64 1, .int .i64 2, .int .i64 0, .int .i64 0, .int .i64 4, .int .i64 1, .int .i64 0, .int .i64 0, .int .i64 0, .int .i64 0, .int .i64 0, .int .i64 2, .int .i64 12, .int .i64 1, .int .i64 0, .int .i64 0, .int .i64 0, .int .i64 0, .int .i64 0, .int .i64 0, .int .i64 5] 70) = W := ⟨_, rfl⟩
  have k51 : Blk w4 N51 70 #[.int .i64 1, .int .i64 3, .int .i64 1, .int .i64 6, .int .i64 5, .int .i64 5, .int .i64 1, .int .i64 1, .int .i64 0, .int .i64 0, .int .i64 1, .int .i64 3, .int .i64 4, .int .i64 3, .int .i64 3, .int .i64 0, .int .i64 3, .int .i64 0, .int .i64 8, .int .i64 1, .int .i64 (-1), .int .i64 5, .int .i64 4, .int .i64 4, .int .i64 1, .int .i64 0, .int .i64 0, .int .i64 0, .int .i64 3, .int .i64 9, .int .i64 11, .int .i64 7, .int .i64 8, .int .i64 2, .int .i64 0, .int .i64 0, .int .i64 4, .int .i64 3, .int .i64 1, .int .i64 10, .int .i64 6, .int .i64 7, .int .i64 1, .int .i64 2, .int .i64 0, .int .i64 0, .int .i64 4, .int .i64 1, .int .i64 0, .int .i64 0, .int .i64 0, .int .i64 0, .int .i64 0, .int .i64 2, .int .i64 12, .int .i64 1, .int .i64 0, .int .i64 0, .int .i64 0, .int .i64 0, .int .i64 0, .int .i64 0, .int .i64 5] := by rw [← hA, ← hN51]; exact Blk.new w3 _ _
  have hb : Below w3.heap.size w3 w4 := hA ▸ (Below.refl _ _).alloc (Nat.le_refl _) _
  have nN51 : w.heap.size < N51 := hN51 ▸ k4.lt
  replace k4 := k4.low hb
  replace ba := ba.trans (hb.mono ba.size)
  replace hm := hm.below hb
  clear hb
  have hA1 := hid hA
  clear hA
  try simp only [hN51]
  rw [hA1.out]
  clear hA1 hN51
  refine wp_loop_rounds 8 ?_
  rw [rounds_succ]
  have cr0 := k51.cell (k := 0) rfl
  have cr1 := k51.cell (k := 1) rfl
  have cr2 := k51.cell (k := 2) rfl
  have cr3 := k51.cell (k := 3) rfl
  have cr4 := k51.cell (k := 4) rfl
  have cr5 := k51.cell (k := 5) rfl
  have cr6 := k51.cell (k := 6) rfl
  have cr7 := k51.cell (k := 7) rfl
  have cr8 := k51.cell (k := 8) rfl
  go_upto_region 9 with fail
  clear cr0 cr1 cr2 cr3 cr4 cr5 cr6 cr7 cr8
  obtain ⟨Nr0, hNr0⟩ : ∃ N, w4.heap.size = N := ⟨_, rfl⟩
  obtain ⟨w5, hA⟩ : ∃ W, w4.alloc (.cells #[.int .i64 1, .int .i64 3, .int .i64 1, .int .i64 6, .int .i64 5, .int .i64 5, .int .i64 1, .int .i64 1, .int .i64 0] 70) = W := ⟨_, rfl⟩
  have kr : Blk w5 Nr0 70 #[.int .i64 1, .int .i64 3, .int .i64 1, .int .i64 6, .int .i64 5, .int .i64 5, .int .i64 1, .int .i64 1, .int .i64 0] := by rw [← hA, ← hNr0]; exact Blk.new w4 _ _
  have hb : Below w4.heap.size w4 w5 := hA ▸ (Below.refl _ _).alloc (Nat.le_refl _) _
  have nNr0 : w.heap.size < Nr0 := hNr0 ▸ k4.lt
  replace k4 := k4.low hb
  replace k51 := k51.low hb
  replace ba := ba.trans (hb.mono ba.size)
  replace hm := hm.below hb
  clear hb
  have hA1 := hid hA
  clear hA
  try simp only [hNr0]
  rw [hA1.out]
  clear hA1 hNr0
  have cr0 := kr.cell (k := 0) rfl
  have cr1 := kr.cell (k := 1) rfl
  have cr2 := kr.cell (k := 2) rfl
  go_wp2_with fail
  clear cr0 cr1 cr2
  have hX := hid (show Calls Try.prog 32 #[.pointer (some ⟨b, 0, none⟩), .int .i64 1, .int .i64 3, .int .i64 1] w5 (fun e w' => e = .returned (.tuple #[.agg #[.int .i64 6, .int .i64 5, .int .i64 5, .int .i64 1, .int .i64 1], .int .i64 0]) ∧ Below w5.heap.size w5 w') from tee_m0 hm)
  with_reducible refine Calls.mono hX.out ?_
  rintro e w6 ⟨rfl, hb⟩
  replace k4 := k4.low hb
  replace k51 := k51.low hb
  replace kr := kr.low hb
  replace ba := ba.trans (hb.mono ba.size)
  replace hm := hm.below hb
  clear hb
  clear hX
  go_upto_region 10 with fail
  obtain ⟨Nq0, hNq0⟩ : ∃ N, w6.heap.size = N := ⟨_, rfl⟩
  obtain ⟨w7, hA⟩ : ∃ W, w6.alloc (.cells #[.int .i64 6, .int .i64 5, .int .i64 5, .int .i64 1, .int .i64 1] 33) = W := ⟨_, rfl⟩
  have kq : Blk w7 Nq0 33 #[.int .i64 6, .int .i64 5, .int .i64 5, .int .i64 1, .int .i64 1] := by rw [← hA, ← hNq0]; exact Blk.new w6 _ _
  have hb : Below w6.heap.size w6 w7 := hA ▸ (Below.refl _ _).alloc (Nat.le_refl _) _
  have nNq0 : w.heap.size < Nq0 := hNq0 ▸ k4.lt
  replace k4 := k4.low hb
  replace k51 := k51.low hb
  replace kr := kr.low hb
  replace ba := ba.trans (hb.mono ba.size)
  replace hm := hm.below hb
  clear hb
  have hA1 := hid hA
  clear hA
  try simp only [hNq0]
  rw [hA1.out]
  clear hA1 hNq0
  have cr0 := kr.cell (k := 0) rfl
  have cr1 := kr.cell (k := 1) rfl
  have cr2 := kr.cell (k := 2) rfl
  have cr3 := kr.cell (k := 3) rfl
  have cr4 := kr.cell (k := 4) rfl
  have cr5 := kr.cell (k := 5) rfl
  have cr6 := kr.cell (k := 6) rfl
  have cr7 := kr.cell (k := 7) rfl
  have cr8 := kr.cell (k := 8) rfl
  have cq0 := kq.cell (k := 0) rfl
  have cq1 := kq.cell (k := 1) rfl
  have cq2 := kq.cell (k := 2) rfl
  have cq3 := kq.cell (k := 3) rfl
  have cq4 := kq.cell (k := 4) rfl
  go_wp2_with fail
  clear cr0 cr1 cr2 cr3 cr4 cr5 cr6 cr7 cr8
  clear cq0 cq1 cq2 cq3 cq4
  clear kr kq
  rw [rounds_succ]
  have cr9 := k51.cell (k := 9) rfl
  have cr10 := k51.cell (k := 10) rfl
  have cr11 := k51.cell (k := 11) rfl
  have cr12 := k51.cell (k := 12) rfl
  have cr13 := k51.cell (k := 13) rfl
  have cr14 := k51.cell (k := 14) rfl
  have cr15 := k51.cell (k := 15) rfl
  have cr16 := k51.cell (k := 16) rfl
  have cr17 := k51.cell (k := 17) rfl
  go_upto_region 9 with fail
  clear cr9 cr10 cr11 cr12 cr13 cr14 cr15 cr16 cr17
  obtain ⟨Nr1, hNr1⟩ : ∃ N, w7.heap.size = N := ⟨_, rfl⟩
  obtain ⟨w8, hA⟩ : ∃ W, w7.alloc (.cells #[.int .i64 0, .int .i64 1, .int .i64 3, .int .i64 4, .int .i64 3, .int .i64 3, .int .i64 0, .int .i64 3, .int .i64 0] 70) = W := ⟨_, rfl⟩
  have kr : Blk w8 Nr1 70 #[.int .i64 0, .int .i64 1, .int .i64 3, .int .i64 4, .int .i64 3, .int .i64 3, .int .i64 0, .int .i64 3, .int .i64 0] := by rw [← hA, ← hNr1]; exact Blk.new w7 _ _
  have hb : Below w7.heap.size w7 w8 := hA ▸ (Below.refl _ _).alloc (Nat.le_refl _) _
  have nNr1 : w.heap.size < Nr1 := hNr1 ▸ k4.lt
  replace k4 := k4.low hb
  replace k51 := k51.low hb
  replace ba := ba.trans (hb.mono ba.size)
  replace hm := hm.below hb
  clear hb
  have hA1 := hid hA
  clear hA
  try simp only [hNr1]
  rw [hA1.out]
  clear hA1 hNr1
  have cr0 := kr.cell (k := 0) rfl
  have cr1 := kr.cell (k := 1) rfl
  have cr2 := kr.cell (k := 2) rfl
  go_wp2_with fail
  clear cr0 cr1 cr2
  have hX := hid (show Calls Try.prog 32 #[.pointer (some ⟨b, 0, none⟩), .int .i64 0, .int .i64 1, .int .i64 3] w8 (fun e w' => e = .returned (.tuple #[.agg #[.int .i64 4, .int .i64 3, .int .i64 3, .int .i64 0, .int .i64 3], .int .i64 0]) ∧ Below w8.heap.size w8 w') from tee_m1 hm)
  with_reducible refine Calls.mono hX.out ?_
  rintro e w9 ⟨rfl, hb⟩
  replace k4 := k4.low hb
  replace k51 := k51.low hb
  replace kr := kr.low hb
  replace ba := ba.trans (hb.mono ba.size)
  replace hm := hm.below hb
  clear hb
  clear hX
  go_upto_region 10 with fail
  obtain ⟨Nq1, hNq1⟩ : ∃ N, w9.heap.size = N := ⟨_, rfl⟩
  obtain ⟨w10, hA⟩ : ∃ W, w9.alloc (.cells #[.int .i64 4, .int .i64 3, .int .i64 3, .int .i64 0, .int .i64 3] 33) = W := ⟨_, rfl⟩
  have kq : Blk w10 Nq1 33 #[.int .i64 4, .int .i64 3, .int .i64 3, .int .i64 0, .int .i64 3] := by rw [← hA, ← hNq1]; exact Blk.new w9 _ _
  have hb : Below w9.heap.size w9 w10 := hA ▸ (Below.refl _ _).alloc (Nat.le_refl _) _
  have nNq1 : w.heap.size < Nq1 := hNq1 ▸ k4.lt
  replace k4 := k4.low hb
  replace k51 := k51.low hb
  replace kr := kr.low hb
  replace ba := ba.trans (hb.mono ba.size)
  replace hm := hm.below hb
  clear hb
  have hA1 := hid hA
  clear hA
  try simp only [hNq1]
  rw [hA1.out]
  clear hA1 hNq1
  have cr0 := kr.cell (k := 0) rfl
  have cr1 := kr.cell (k := 1) rfl
  have cr2 := kr.cell (k := 2) rfl
  have cr3 := kr.cell (k := 3) rfl
  have cr4 := kr.cell (k := 4) rfl
  have cr5 := kr.cell (k := 5) rfl
  have cr6 := kr.cell (k := 6) rfl
  have cr7 := kr.cell (k := 7) rfl
  have cr8 := kr.cell (k := 8) rfl
  have cq0 := kq.cell (k := 0) rfl
  have cq1 := kq.cell (k := 1) rfl
  have cq2 := kq.cell (k := 2) rfl
  have cq3 := kq.cell (k := 3) rfl
  have cq4 := kq.cell (k := 4) rfl
  go_wp2_with fail
  clear cr0 cr1 cr2 cr3 cr4 cr5 cr6 cr7 cr8
  clear cq0 cq1 cq2 cq3 cq4
  clear kr kq
  rw [rounds_succ]
  have cr18 := k51.cell (k := 18) rfl
  have cr19 := k51.cell (k := 19) rfl
  have cr20 := k51.cell (k := 20) rfl
  have cr21 := k51.cell (k := 21) rfl
  have cr22 := k51.cell (k := 22) rfl
  have cr23 := k51.cell (k := 23) rfl
  have cr24 := k51.cell (k := 24) rfl
  have cr25 := k51.cell (k := 25) rfl
  have cr26 := k51.cell (k := 26) rfl
  go_upto_region 9 with fail
  clear cr18 cr19 cr20 cr21 cr22 cr23 cr24 cr25 cr26
  obtain ⟨Nr2, hNr2⟩ : ∃ N, w10.heap.size = N := ⟨_, rfl⟩
  obtain ⟨w11, hA⟩ : ∃ W, w10.alloc (.cells #[.int .i64 8, .int .i64 1, .int .i64 (-1), .int .i64 5, .int .i64 4, .int .i64 4, .int .i64 1, .int .i64 0, .int .i64 0] 70) = W := ⟨_, rfl⟩
  have kr : Blk w11 Nr2 70 #[.int .i64 8, .int .i64 1, .int .i64 (-1), .int .i64 5, .int .i64 4, .int .i64 4, .int .i64 1, .int .i64 0, .int .i64 0] := by rw [← hA, ← hNr2]; exact Blk.new w10 _ _
  have hb : Below w10.heap.size w10 w11 := hA ▸ (Below.refl _ _).alloc (Nat.le_refl _) _
  have nNr2 : w.heap.size < Nr2 := hNr2 ▸ k4.lt
  replace k4 := k4.low hb
  replace k51 := k51.low hb
  replace ba := ba.trans (hb.mono ba.size)
  replace hm := hm.below hb
  clear hb
  have hA1 := hid hA
  clear hA
  try simp only [hNr2]
  rw [hA1.out]
  clear hA1 hNr2
  have cr0 := kr.cell (k := 0) rfl
  have cr1 := kr.cell (k := 1) rfl
  have cr2 := kr.cell (k := 2) rfl
  go_wp2_with fail
  clear cr0 cr1 cr2
  have hX := hid (show Calls Try.prog 32 #[.pointer (some ⟨b, 0, none⟩), .int .i64 8, .int .i64 1, .int .i64 (-1)] w11 (fun e w' => e = .returned (.tuple #[.agg #[.int .i64 5, .int .i64 4, .int .i64 4, .int .i64 1, .int .i64 0], .int .i64 0]) ∧ Below w11.heap.size w11 w') from tee_m2 hm)
  with_reducible refine Calls.mono hX.out ?_
  rintro e w12 ⟨rfl, hb⟩
  replace k4 := k4.low hb
  replace k51 := k51.low hb
  replace kr := kr.low hb
  replace ba := ba.trans (hb.mono ba.size)
  replace hm := hm.below hb
  clear hb
  clear hX
  go_upto_region 10 with fail
  obtain ⟨Nq2, hNq2⟩ : ∃ N, w12.heap.size = N := ⟨_, rfl⟩
  obtain ⟨w13, hA⟩ : ∃ W, w12.alloc (.cells #[.int .i64 5, .int .i64 4, .int .i64 4, .int .i64 1, .int .i64 0] 33) = W := ⟨_, rfl⟩
  have kq : Blk w13 Nq2 33 #[.int .i64 5, .int .i64 4, .int .i64 4, .int .i64 1, .int .i64 0] := by rw [← hA, ← hNq2]; exact Blk.new w12 _ _
  have hb : Below w12.heap.size w12 w13 := hA ▸ (Below.refl _ _).alloc (Nat.le_refl _) _
  have nNq2 : w.heap.size < Nq2 := hNq2 ▸ k4.lt
  replace k4 := k4.low hb
  replace k51 := k51.low hb
  replace kr := kr.low hb
  replace ba := ba.trans (hb.mono ba.size)
  replace hm := hm.below hb
  clear hb
  have hA1 := hid hA
  clear hA
  try simp only [hNq2]
  rw [hA1.out]
  clear hA1 hNq2
  have cr0 := kr.cell (k := 0) rfl
  have cr1 := kr.cell (k := 1) rfl
  have cr2 := kr.cell (k := 2) rfl
  have cr3 := kr.cell (k := 3) rfl
  have cr4 := kr.cell (k := 4) rfl
  have cr5 := kr.cell (k := 5) rfl
  have cr6 := kr.cell (k := 6) rfl
  have cr7 := kr.cell (k := 7) rfl
  have cr8 := kr.cell (k := 8) rfl
  have cq0 := kq.cell (k := 0) rfl
  have cq1 := kq.cell (k := 1) rfl
  have cq2 := kq.cell (k := 2) rfl
  have cq3 := kq.cell (k := 3) rfl
  have cq4 := kq.cell (k := 4) rfl
  go_wp2_with fail
  clear cr0 cr1 cr2 cr3 cr4 cr5 cr6 cr7 cr8
  clear cq0 cq1 cq2 cq3 cq4
  clear kr kq
  rw [rounds_succ]
  have cr27 := k51.cell (k := 27) rfl
  have cr28 := k51.cell (k := 28) rfl
  have cr29 := k51.cell (k := 29) rfl
  have cr30 := k51.cell (k := 30) rfl
  have cr31 := k51.cell (k := 31) rfl
  have cr32 := k51.cell (k := 32) rfl
  have cr33 := k51.cell (k := 33) rfl
  have cr34 := k51.cell (k := 34) rfl
  have cr35 := k51.cell (k := 35) rfl
  go_upto_region 9 with fail
  clear cr27 cr28 cr29 cr30 cr31 cr32 cr33 cr34 cr35
  obtain ⟨Nr3, hNr3⟩ : ∃ N, w13.heap.size = N := ⟨_, rfl⟩
  obtain ⟨w14, hA⟩ : ∃ W, w13.alloc (.cells #[.int .i64 0, .int .i64 3, .int .i64 9, .int .i64 11, .int .i64 7, .int .i64 8, .int .i64 2, .int .i64 0, .int .i64 0] 70) = W := ⟨_, rfl⟩
  have kr : Blk w14 Nr3 70 #[.int .i64 0, .int .i64 3, .int .i64 9, .int .i64 11, .int .i64 7, .int .i64 8, .int .i64 2, .int .i64 0, .int .i64 0] := by rw [← hA, ← hNr3]; exact Blk.new w13 _ _
  have hb : Below w13.heap.size w13 w14 := hA ▸ (Below.refl _ _).alloc (Nat.le_refl _) _
  have nNr3 : w.heap.size < Nr3 := hNr3 ▸ k4.lt
  replace k4 := k4.low hb
  replace k51 := k51.low hb
  replace ba := ba.trans (hb.mono ba.size)
  replace hm := hm.below hb
  clear hb
  have hA1 := hid hA
  clear hA
  try simp only [hNr3]
  rw [hA1.out]
  clear hA1 hNr3
  have cr0 := kr.cell (k := 0) rfl
  have cr1 := kr.cell (k := 1) rfl
  have cr2 := kr.cell (k := 2) rfl
  go_wp2_with fail
  clear cr0 cr1 cr2
  have hX := hid (show Calls Try.prog 32 #[.pointer (some ⟨b, 0, none⟩), .int .i64 0, .int .i64 3, .int .i64 9] w14 (fun e w' => e = .returned (.tuple #[.agg #[.int .i64 11, .int .i64 7, .int .i64 8, .int .i64 2, .int .i64 0], .int .i64 0]) ∧ Below w14.heap.size w14 w') from tee_hi3 hm)
  with_reducible refine Calls.mono hX.out ?_
  rintro e w15 ⟨rfl, hb⟩
  replace k4 := k4.low hb
  replace k51 := k51.low hb
  replace kr := kr.low hb
  replace ba := ba.trans (hb.mono ba.size)
  replace hm := hm.below hb
  clear hb
  clear hX
  go_upto_region 10 with fail
  obtain ⟨Nq3, hNq3⟩ : ∃ N, w15.heap.size = N := ⟨_, rfl⟩
  obtain ⟨w16, hA⟩ : ∃ W, w15.alloc (.cells #[.int .i64 11, .int .i64 7, .int .i64 8, .int .i64 2, .int .i64 0] 33) = W := ⟨_, rfl⟩
  have kq : Blk w16 Nq3 33 #[.int .i64 11, .int .i64 7, .int .i64 8, .int .i64 2, .int .i64 0] := by rw [← hA, ← hNq3]; exact Blk.new w15 _ _
  have hb : Below w15.heap.size w15 w16 := hA ▸ (Below.refl _ _).alloc (Nat.le_refl _) _
  have nNq3 : w.heap.size < Nq3 := hNq3 ▸ k4.lt
  replace k4 := k4.low hb
  replace k51 := k51.low hb
  replace kr := kr.low hb
  replace ba := ba.trans (hb.mono ba.size)
  replace hm := hm.below hb
  clear hb
  have hA1 := hid hA
  clear hA
  try simp only [hNq3]
  rw [hA1.out]
  clear hA1 hNq3
  have cr0 := kr.cell (k := 0) rfl
  have cr1 := kr.cell (k := 1) rfl
  have cr2 := kr.cell (k := 2) rfl
  have cr3 := kr.cell (k := 3) rfl
  have cr4 := kr.cell (k := 4) rfl
  have cr5 := kr.cell (k := 5) rfl
  have cr6 := kr.cell (k := 6) rfl
  have cr7 := kr.cell (k := 7) rfl
  have cr8 := kr.cell (k := 8) rfl
  have cq0 := kq.cell (k := 0) rfl
  have cq1 := kq.cell (k := 1) rfl
  have cq2 := kq.cell (k := 2) rfl
  have cq3 := kq.cell (k := 3) rfl
  have cq4 := kq.cell (k := 4) rfl
  go_wp2_with fail
  clear cr0 cr1 cr2 cr3 cr4 cr5 cr6 cr7 cr8
  clear cq0 cq1 cq2 cq3 cq4
  clear kr kq
  rw [rounds_succ]
  have cr36 := k51.cell (k := 36) rfl
  have cr37 := k51.cell (k := 37) rfl
  have cr38 := k51.cell (k := 38) rfl
  have cr39 := k51.cell (k := 39) rfl
  have cr40 := k51.cell (k := 40) rfl
  have cr41 := k51.cell (k := 41) rfl
  have cr42 := k51.cell (k := 42) rfl
  have cr43 := k51.cell (k := 43) rfl
  have cr44 := k51.cell (k := 44) rfl
  go_upto_region 9 with fail
  clear cr36 cr37 cr38 cr39 cr40 cr41 cr42 cr43 cr44
  obtain ⟨Nr4, hNr4⟩ : ∃ N, w16.heap.size = N := ⟨_, rfl⟩
  obtain ⟨w17, hA⟩ : ∃ W, w16.alloc (.cells #[.int .i64 4, .int .i64 3, .int .i64 1, .int .i64 10, .int .i64 6, .int .i64 7, .int .i64 1, .int .i64 2, .int .i64 0] 70) = W := ⟨_, rfl⟩
  have kr : Blk w17 Nr4 70 #[.int .i64 4, .int .i64 3, .int .i64 1, .int .i64 10, .int .i64 6, .int .i64 7, .int .i64 1, .int .i64 2, .int .i64 0] := by rw [← hA, ← hNr4]; exact Blk.new w16 _ _
  have hb : Below w16.heap.size w16 w17 := hA ▸ (Below.refl _ _).alloc (Nat.le_refl _) _
  have nNr4 : w.heap.size < Nr4 := hNr4 ▸ k4.lt
  replace k4 := k4.low hb
  replace k51 := k51.low hb
  replace ba := ba.trans (hb.mono ba.size)
  replace hm := hm.below hb
  clear hb
  have hA1 := hid hA
  clear hA
  try simp only [hNr4]
  rw [hA1.out]
  clear hA1 hNr4
  have cr0 := kr.cell (k := 0) rfl
  have cr1 := kr.cell (k := 1) rfl
  have cr2 := kr.cell (k := 2) rfl
  go_wp2_with fail
  clear cr0 cr1 cr2
  have hX := hid (show Calls Try.prog 32 #[.pointer (some ⟨b, 0, none⟩), .int .i64 4, .int .i64 3, .int .i64 1] w17 (fun e w' => e = .returned (.tuple #[.agg #[.int .i64 10, .int .i64 6, .int .i64 7, .int .i64 1, .int .i64 2], .int .i64 0]) ∧ Below w17.heap.size w17 w') from tee_m4 hm)
  with_reducible refine Calls.mono hX.out ?_
  rintro e w18 ⟨rfl, hb⟩
  replace k4 := k4.low hb
  replace k51 := k51.low hb
  replace kr := kr.low hb
  replace ba := ba.trans (hb.mono ba.size)
  replace hm := hm.below hb
  clear hb
  clear hX
  go_upto_region 10 with fail
  obtain ⟨Nq4, hNq4⟩ : ∃ N, w18.heap.size = N := ⟨_, rfl⟩
  obtain ⟨w19, hA⟩ : ∃ W, w18.alloc (.cells #[.int .i64 10, .int .i64 6, .int .i64 7, .int .i64 1, .int .i64 2] 33) = W := ⟨_, rfl⟩
  have kq : Blk w19 Nq4 33 #[.int .i64 10, .int .i64 6, .int .i64 7, .int .i64 1, .int .i64 2] := by rw [← hA, ← hNq4]; exact Blk.new w18 _ _
  have hb : Below w18.heap.size w18 w19 := hA ▸ (Below.refl _ _).alloc (Nat.le_refl _) _
  have nNq4 : w.heap.size < Nq4 := hNq4 ▸ k4.lt
  replace k4 := k4.low hb
  replace k51 := k51.low hb
  replace kr := kr.low hb
  replace ba := ba.trans (hb.mono ba.size)
  replace hm := hm.below hb
  clear hb
  have hA1 := hid hA
  clear hA
  try simp only [hNq4]
  rw [hA1.out]
  clear hA1 hNq4
  have cr0 := kr.cell (k := 0) rfl
  have cr1 := kr.cell (k := 1) rfl
  have cr2 := kr.cell (k := 2) rfl
  have cr3 := kr.cell (k := 3) rfl
  have cr4 := kr.cell (k := 4) rfl
  have cr5 := kr.cell (k := 5) rfl
  have cr6 := kr.cell (k := 6) rfl
  have cr7 := kr.cell (k := 7) rfl
  have cr8 := kr.cell (k := 8) rfl
  have cq0 := kq.cell (k := 0) rfl
  have cq1 := kq.cell (k := 1) rfl
  have cq2 := kq.cell (k := 2) rfl
  have cq3 := kq.cell (k := 3) rfl
  have cq4 := kq.cell (k := 4) rfl
  go_wp2_with fail
  clear cr0 cr1 cr2 cr3 cr4 cr5 cr6 cr7 cr8
  clear cq0 cq1 cq2 cq3 cq4
  clear kr kq
  rw [rounds_succ]
  have cr45 := k51.cell (k := 45) rfl
  have cr46 := k51.cell (k := 46) rfl
  have cr47 := k51.cell (k := 47) rfl
  have cr48 := k51.cell (k := 48) rfl
  have cr49 := k51.cell (k := 49) rfl
  have cr50 := k51.cell (k := 50) rfl
  have cr51 := k51.cell (k := 51) rfl
  have cr52 := k51.cell (k := 52) rfl
  have cr53 := k51.cell (k := 53) rfl
  go_upto_region 9 with fail
  clear cr45 cr46 cr47 cr48 cr49 cr50 cr51 cr52 cr53
  obtain ⟨Nr5, hNr5⟩ : ∃ N, w19.heap.size = N := ⟨_, rfl⟩
  obtain ⟨w20, hA⟩ : ∃ W, w19.alloc (.cells #[.int .i64 0, .int .i64 4, .int .i64 1, .int .i64 0, .int .i64 0, .int .i64 0, .int .i64 0, .int .i64 0, .int .i64 2] 70) = W := ⟨_, rfl⟩
  have kr : Blk w20 Nr5 70 #[.int .i64 0, .int .i64 4, .int .i64 1, .int .i64 0, .int .i64 0, .int .i64 0, .int .i64 0, .int .i64 0, .int .i64 2] := by rw [← hA, ← hNr5]; exact Blk.new w19 _ _
  have hb : Below w19.heap.size w19 w20 := hA ▸ (Below.refl _ _).alloc (Nat.le_refl _) _
  have nNr5 : w.heap.size < Nr5 := hNr5 ▸ k4.lt
  replace k4 := k4.low hb
  replace k51 := k51.low hb
  replace ba := ba.trans (hb.mono ba.size)
  replace hm := hm.below hb
  clear hb
  have hA1 := hid hA
  clear hA
  try simp only [hNr5]
  rw [hA1.out]
  clear hA1 hNr5
  have cr0 := kr.cell (k := 0) rfl
  have cr1 := kr.cell (k := 1) rfl
  have cr2 := kr.cell (k := 2) rfl
  go_wp2_with fail
  clear cr0 cr1 cr2
  have hX := hid (show Calls Try.prog 32 #[.pointer (some ⟨b, 0, none⟩), .int .i64 0, .int .i64 4, .int .i64 1] w20 (fun e w' => e = .returned (.tuple #[.agg #[.int .i64 0, .int .i64 0, .int .i64 0, .int .i64 0, .int .i64 0], .int .i64 2]) ∧ Below w20.heap.size w20 w') from tee_m5)
  with_reducible refine Calls.mono hX.out ?_
  rintro e w21 ⟨rfl, hb⟩
  replace k4 := k4.low hb
  replace k51 := k51.low hb
  replace kr := kr.low hb
  replace ba := ba.trans (hb.mono ba.size)
  replace hm := hm.below hb
  clear hb
  clear hX
  go_upto_region 10 with fail
  obtain ⟨Nq5, hNq5⟩ : ∃ N, w21.heap.size = N := ⟨_, rfl⟩
  obtain ⟨w22, hA⟩ : ∃ W, w21.alloc (.cells #[.int .i64 0, .int .i64 0, .int .i64 0, .int .i64 0, .int .i64 0] 33) = W := ⟨_, rfl⟩
  have kq : Blk w22 Nq5 33 #[.int .i64 0, .int .i64 0, .int .i64 0, .int .i64 0, .int .i64 0] := by rw [← hA, ← hNq5]; exact Blk.new w21 _ _
  have hb : Below w21.heap.size w21 w22 := hA ▸ (Below.refl _ _).alloc (Nat.le_refl _) _
  have nNq5 : w.heap.size < Nq5 := hNq5 ▸ k4.lt
  replace k4 := k4.low hb
  replace k51 := k51.low hb
  replace kr := kr.low hb
  replace ba := ba.trans (hb.mono ba.size)
  replace hm := hm.below hb
  clear hb
  have hA1 := hid hA
  clear hA
  try simp only [hNq5]
  rw [hA1.out]
  clear hA1 hNq5
  have cr0 := kr.cell (k := 0) rfl
  have cr1 := kr.cell (k := 1) rfl
  have cr2 := kr.cell (k := 2) rfl
  have cr3 := kr.cell (k := 3) rfl
  have cr4 := kr.cell (k := 4) rfl
  have cr5 := kr.cell (k := 5) rfl
  have cr6 := kr.cell (k := 6) rfl
  have cr7 := kr.cell (k := 7) rfl
  have cr8 := kr.cell (k := 8) rfl
  have cq0 := kq.cell (k := 0) rfl
  have cq1 := kq.cell (k := 1) rfl
  have cq2 := kq.cell (k := 2) rfl
  have cq3 := kq.cell (k := 3) rfl
  have cq4 := kq.cell (k := 4) rfl
  go_wp2_with fail
  clear cr0 cr1 cr2 cr3 cr4 cr5 cr6 cr7 cr8
  clear cq0 cq1 cq2 cq3 cq4
  clear kr kq
  rw [rounds_succ]
  have cr54 := k51.cell (k := 54) rfl
  have cr55 := k51.cell (k := 55) rfl
  have cr56 := k51.cell (k := 56) rfl
  have cr57 := k51.cell (k := 57) rfl
  have cr58 := k51.cell (k := 58) rfl
  have cr59 := k51.cell (k := 59) rfl
  have cr60 := k51.cell (k := 60) rfl
  have cr61 := k51.cell (k := 61) rfl
  have cr62 := k51.cell (k := 62) rfl
  go_upto_region 9 with fail
  clear cr54 cr55 cr56 cr57 cr58 cr59 cr60 cr61 cr62
  obtain ⟨Nr6, hNr6⟩ : ∃ N, w22.heap.size = N := ⟨_, rfl⟩
  obtain ⟨w23, hA⟩ : ∃ W, w22.alloc (.cells #[.int .i64 12, .int .i64 1, .int .i64 0, .int .i64 0, .int .i64 0, .int .i64 0, .int .i64 0, .int .i64 0, .int .i64 5] 70) = W := ⟨_, rfl⟩
  have kr : Blk w23 Nr6 70 #[.int .i64 12, .int .i64 1, .int .i64 0, .int .i64 0, .int .i64 0, .int .i64 0, .int .i64 0, .int .i64 0, .int .i64 5] := by rw [← hA, ← hNr6]; exact Blk.new w22 _ _
  have hb : Below w22.heap.size w22 w23 := hA ▸ (Below.refl _ _).alloc (Nat.le_refl _) _
  have nNr6 : w.heap.size < Nr6 := hNr6 ▸ k4.lt
  replace k4 := k4.low hb
  replace k51 := k51.low hb
  replace ba := ba.trans (hb.mono ba.size)
  replace hm := hm.below hb
  clear hb
  have hA1 := hid hA
  clear hA
  try simp only [hNr6]
  rw [hA1.out]
  clear hA1 hNr6
  have cr0 := kr.cell (k := 0) rfl
  have cr1 := kr.cell (k := 1) rfl
  have cr2 := kr.cell (k := 2) rfl
  go_wp2_with fail
  clear cr0 cr1 cr2
  have hX := hid (show Calls Try.prog 32 #[.pointer (some ⟨b, 0, none⟩), .int .i64 12, .int .i64 1, .int .i64 0] w23 (fun e w' => e = .returned (.tuple #[.agg #[.int .i64 0, .int .i64 0, .int .i64 0, .int .i64 0, .int .i64 0], .int .i64 5]) ∧ Below w23.heap.size w23 w') from tee_m6 hm)
  with_reducible refine Calls.mono hX.out ?_
  rintro e w24 ⟨rfl, hb⟩
  replace k4 := k4.low hb
  replace k51 := k51.low hb
  replace kr := kr.low hb
  replace ba := ba.trans (hb.mono ba.size)
  replace hm := hm.below hb
  clear hb
  clear hX
  go_upto_region 10 with fail
  obtain ⟨Nq6, hNq6⟩ : ∃ N, w24.heap.size = N := ⟨_, rfl⟩
  obtain ⟨w25, hA⟩ : ∃ W, w24.alloc (.cells #[.int .i64 0, .int .i64 0, .int .i64 0, .int .i64 0, .int .i64 0] 33) = W := ⟨_, rfl⟩
  have kq : Blk w25 Nq6 33 #[.int .i64 0, .int .i64 0, .int .i64 0, .int .i64 0, .int .i64 0] := by rw [← hA, ← hNq6]; exact Blk.new w24 _ _
  have hb : Below w24.heap.size w24 w25 := hA ▸ (Below.refl _ _).alloc (Nat.le_refl _) _
  have nNq6 : w.heap.size < Nq6 := hNq6 ▸ k4.lt
  replace k4 := k4.low hb
  replace k51 := k51.low hb
  replace kr := kr.low hb
  replace ba := ba.trans (hb.mono ba.size)
  replace hm := hm.below hb
  clear hb
  have hA1 := hid hA
  clear hA
  try simp only [hNq6]
  rw [hA1.out]
  clear hA1 hNq6
  have cr0 := kr.cell (k := 0) rfl
  have cr1 := kr.cell (k := 1) rfl
  have cr2 := kr.cell (k := 2) rfl
  have cr3 := kr.cell (k := 3) rfl
  have cr4 := kr.cell (k := 4) rfl
  have cr5 := kr.cell (k := 5) rfl
  have cr6 := kr.cell (k := 6) rfl
  have cr7 := kr.cell (k := 7) rfl
  have cr8 := kr.cell (k := 8) rfl
  have cq0 := kq.cell (k := 0) rfl
  have cq1 := kq.cell (k := 1) rfl
  have cq2 := kq.cell (k := 2) rfl
  have cq3 := kq.cell (k := 3) rfl
  have cq4 := kq.cell (k := 4) rfl
  go_wp2_with fail
  clear cr0 cr1 cr2 cr3 cr4 cr5 cr6 cr7 cr8
  clear cq0 cq1 cq2 cq3 cq4
  clear kr kq
  rw [rounds_succ]
  go_wp2_with fail
  clear k51
  have hX := hid (show Calls Try.prog 22 #[.int .i64 9, .agg #[.int .i64 3, .int .i64 5], .int .i64 4] w25 (fun e w' => e = .returned (.tuple #[.int .i64 11, .int .i64 0]) ∧ Below w25.heap.size w25 w') from by have h := shift_any 9 3 5 4 w25; rw [show shiftV 9 3 5 4 = (11, 0) from by decide] at h; exact h)
  with_reducible refine Calls.mono hX.out ?_
  rintro e w26 ⟨rfl, hb⟩
  replace k4 := k4.low hb
  replace ba := ba.trans (hb.mono ba.size)
  replace hm := hm.below hb
  clear hb
  clear hX
  go_wp2_with fail
  have hX := hid (show Calls Try.prog 22 #[.int .i64 4, .agg #[.int .i64 3, .int .i64 5], .int .i64 4] w26 (fun e w' => e = .returned (.tuple #[.int .i64 7, .int .i64 0]) ∧ Below w26.heap.size w26 w') from by have h := shift_any 4 3 5 4 w26; rw [show shiftV 4 3 5 4 = (7, 0) from by decide] at h; exact h)
  with_reducible refine Calls.mono hX.out ?_
  rintro e w27 ⟨rfl, hb⟩
  replace k4 := k4.low hb
  replace ba := ba.trans (hb.mono ba.size)
  replace hm := hm.below hb
  clear hb
  clear hX
  go_wp2_with fail
  have hX := hid (show Calls Try.prog 22 #[.int .i64 3, .agg #[.int .i64 3, .int .i64 3], .int .i64 4] w27 (fun e w' => e = .returned (.tuple #[.int .i64 3, .int .i64 0]) ∧ Below w27.heap.size w27 w') from by have h := shift_any 3 3 3 4 w27; rw [show shiftV 3 3 3 4 = (3, 0) from by decide] at h; exact h)
  with_reducible refine Calls.mono hX.out ?_
  rintro e w28 ⟨rfl, hb⟩
  replace k4 := k4.low hb
  replace ba := ba.trans (hb.mono ba.size)
  replace hm := hm.below hb
  clear hb
  clear hX
  go_wp2_with fail
  have hX := hid (show Calls Try.prog 22 #[.int .i64 3, .agg #[.int .i64 4, .int .i64 3], .int .i64 4] w28 (fun e w' => e = .returned (.tuple #[.int .i64 0, .int .i64 2]) ∧ Below w28.heap.size w28 w') from by have h := shift_any 3 4 3 4 w28; rw [show shiftV 3 4 3 4 = (0, 2) from by decide] at h; exact h)
  with_reducible refine Calls.mono hX.out ?_
  rintro e w29 ⟨rfl, hb⟩
  replace k4 := k4.low hb
  replace ba := ba.trans (hb.mono ba.size)
  replace hm := hm.below hb
  clear hb
  clear hX
  go_wp2_with fail
  have hX := hid (byte_nil 0 w29)
  with_reducible refine Calls.mono hX.out ?_
  rintro e w30 ⟨rfl, hb⟩
  replace k4 := k4.low hb
  replace ba := ba.trans (hb.mono ba.size)
  replace hm := hm.below hb
  clear hb
  clear hX
  go_wp2_with fail
  have hX := hid (rune_nil 0 w30)
  with_reducible refine Calls.mono hX.out ?_
  rintro e w31 ⟨rfl, hb⟩
  replace k4 := k4.low hb
  replace ba := ba.trans (hb.mono ba.size)
  replace hm := hm.below hb
  clear hb
  clear hX
  go_wp2_with fail
  have hX := hid (unit_nil 0 w31)
  with_reducible refine Calls.mono hX.out ?_
  rintro e w32 ⟨rfl, hb⟩
  replace k4 := k4.low hb
  replace ba := ba.trans (hb.mono ba.size)
  replace hm := hm.below hb
  clear hb
  clear hX
  go_wp2_with fail
  have hX := hid (line_nil 0 0 w32)
  with_reducible refine Calls.mono hX.out ?_
  rintro e w33 ⟨rfl, hb⟩
  replace k4 := k4.low hb
  replace ba := ba.trans (hb.mono ba.size)
  replace hm := hm.below hb
  clear hb
  clear hX
  go_wp2_with fail
  have hX := hid (move_nil 0 0 0 w33)
  with_reducible refine Calls.mono hX.out ?_
  rintro e w34 ⟨rfl, hb⟩
  replace k4 := k4.low hb
  replace ba := ba.trans (hb.mono ba.size)
  replace hm := hm.below hb
  clear hb
  clear hX
  go_upto_region 25 with fail
  generalize hA : World.alloc w34 _ = w35
  have hb : Below w34.heap.size w34 w35 := hA ▸ (Below.refl _ _).alloc (Nat.le_refl _) _
  clear hA
  replace k4 := k4.low hb
  replace ba := ba.trans (hb.mono ba.size)
  replace hm := hm.below hb
  clear hb
  go_wp2_with fail
  have hX := hid (span_nil 0 w35)
  with_reducible refine Calls.mono hX.out ?_
  rintro e w36 ⟨rfl, hb⟩
  replace k4 := k4.low hb
  replace ba := ba.trans (hb.mono ba.size)
  replace hm := hm.below hb
  clear hb
  clear hX
  go_upto_region 26 with fail
  generalize hA : World.alloc w36 _ = w37
  have hb : Below w36.heap.size w36 w37 := hA ▸ (Below.refl _ _).alloc (Nat.le_refl _) _
  clear hA
  replace k4 := k4.low hb
  replace ba := ba.trans (hb.mono ba.size)
  replace hm := hm.below hb
  clear hb
  go_wp2_with fail
  have hE := hid ((callsIn_wide (n := 8)).1 (each_nil Fence.wide 8 trivial rfl w37))
  with_reducible refine Calls.mono hE.out ?_
  rintro e w7z ⟨rfl, hw7⟩
  clear hE
  have hb : Below w37.heap.size w37 w7z := hw7 ▸ (Below.refl _ _).alloc (Nat.le_refl _) _
  have k30 : Blk w7z w37.heap.size 23 #[.pointer none] := by rw [hw7]; exact Blk.new w37 _ _
  clear hw7
  replace k4 := k4.low hb
  replace ba := ba.trans (hb.mono ba.size)
  replace hm := hm.below hb
  clear hb
  obtain ⟨N30, hN30⟩ : ∃ N, w37.heap.size = N := ⟨_, rfl⟩
  rw [hN30] at k30
  simp only [hN30]
  clear hN30
  clear hm
  go_wp2_with fail
  refine (wpIn_wide (n := 9)).1 ?_
  refine name_act ?_
  intro T D hT hD
  refine rangeFunc_next (F := Fence.wide) (α := Pl) rfl (by omega) (gf := 36) (lb := #[.pointer (some ⟨N30, 0, none⟩)]) (by subst hT; rfl) trivial (enters_of Try.func36 (by kernel_rfl) rfl)
    (next_nil Fence.wide 8 trivial rfl N30 w7z.heap.size w7z k30.lt (k30.cell rfl)) (Nat.le_refl _) (Below.refl _ _) (fun _ => rfl)
    (fun pre W => Below w7z.heap.size w7z W)
    (fun _ _ _ => False)
    (ownFrom_below (Nat.le_refl _) (Nat.le_refl _))
    (fun _ => ownFrom_pure _ _)
    (Below.refl _ _)
    (fun x a' W => True)
    (fun x a' => ownFrom_pure _ _)
    ?assign ?body ?done ?stop
  case assign =>
    rintro l pre x W K hB hpre hK
    simp at hpre
  case body =>
    rintro l pre x a' W hl hr hpre hB hA
    simp at hpre
  case done =>
    rintro Dk W hDk hBW hK
    have hs5 := ba.size
    have k4b := k4.low hBW
    have baW := ba.trans (hBW.mono hs5)
    have hT1 : Hid (∀ w : World, Calls Try.prog 25 #[.pointer none] w fun e w' => e = .returned (.string { data := #[] }) ∧ w = w') := hid fun w => text_nil w
    have hL1 := hid (lines_nil W)
    have hE1 := hid (end_nil W)
    subst hT hD
    go_wp2_with fail
    with_reducible refine Calls.mono hL1.out ?_
    rintro e _ ⟨rfl, rfl⟩
    go_wp2_with fail
    with_reducible refine Calls.mono hE1.out ?_
    rintro e w8 ⟨rfl, hb8⟩
    have k4x := k4b.low hb8
    have hKx := (hb8.block Dk (Array.getElem?_eq_some_iff.1 hK).1).trans hK
    have q0 := baW.trans (hb8.mono baW.size)
    clear hb8 hL1 hE1
    go_wp2_with fail
    with_reducible refine Calls.mono (hT1.out _) ?_
    rintro e _ ⟨rfl, rfl⟩
    clear hT1
    have c4x := k4x.cell (k := 0) rfl
    have n4x := k4x.lt
    have f4x := k4x.froz 0
    go_wp2_with fail
    have hK2 : (w8.setCell ⟨w.heap.size, 0, none⟩ (.bool true)).heap[Dk]? = some (.deferred (some [])) := (KeepsOthers.setCell _ _ _).same Dk _ hKx rfl
    refine ⟨by simp, .inl ⟨_, _, rfl, run_takeDeferred hK2, ?_⟩⟩
    have hcc : ((w8.setCell ⟨w.heap.size, 0, none⟩ (.bool true)).putObj Dk (.deferred none)).cell? ⟨w.heap.size, 0, none⟩ = some (.bool true) :=
      cell_kept (World.cell?_setCell_same' _ _ _ (by rw [c4x]; rfl)) (grownBy_putObj' _ Dk (.deferred none)) (fun r e => by cases e; exact ⟨_, hK2, rfl⟩)
    have q1 : Below w.heap.size w (w8.setCell ⟨w.heap.size, 0, none⟩ (.bool true)) := q0.setCell (p := ⟨w.heap.size, 0, none⟩) (Nat.le_refl _) _
    have hFin : Below w.heap.size w ((w8.setCell ⟨w.heap.size, 0, none⟩ (.bool true)).putObj Dk (.deferred none)) :=
      q1.trans (belowK_b (w := w7z) hs5 _ _ _ _ hDk hK2 rfl rfl)
    exact ⟨_, by simp [results, Try.results11, go_sem, hcc], rfl, hFin⟩
  case stop =>
    rintro Dk c pre W hDk hpre h _
    exact h.elim
end Go.Proofs.Ytkobfjiadfedlaa
