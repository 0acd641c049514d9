/- The document's answer Move, walked: each way, below, beyond and within. Conditions: the text has at most 65536 bytes, the place is one of it. -/
import Derived.Test.YtkobfjiadfedlaaPlRg
import Derived.WalkSpells
import Derived.WalkLawsBesides
import Derived.Deep.DeepCutAuto
namespace Go.Proofs.Ytkobfjiadfedlaa
open Go.RowKit
set_option linter.unusedVariables false
set_option linter.unusedSimpArgs false
attribute [local go_sem] Ext.cell Ext.froz
set_option maxRecDepth 100000 in
set_option maxHeartbeats 4000000 in
theorem rmv1_lo (s : ByteArray) (at' n : Int) (w : World) (hs : s.size ≤ 65536) (h0 : 0 ≤ at') (h1 : at' ≤ s.size) {j : Nat} {p : Pl} (hat : At s Pl.b at' j p) (n0 : -9223372036854775808 ≤ n) (n1 : n ≤ 9223372036854775807) (hc : (p.r : Int) + n < 0) {q : Pl} (hq : (plOf s)[0]? = some q) :
    Calls Try.prog 33 #[.string s, .int .i64 at', .int .i64 1, .int .i64 n] w fun e w' => e = .returned (plV (q)) ∧ Below w.heap.size w w' := by
  have hbd := pl_bd s hs hat.get
  have hlast := last_get s
  have hz := plOf_small s hs
  have hnn := hid (And.intro n0 n1)
  have hR := fun W => hid (ref_byte s at' W hs h0 h1 hat)
  have hS := fun W => hid (ref_sum (p.r : Nat) n ((lastP s).r : Nat) W (by omega) (by omega) (by omega) n0 n1)
  have hif : (if ((lastP s).r : Int) < (p.r : Int) + n then ((lastP s).r : Int) + 1 else if (p.r : Int) + n < 0 then -1 else (p.r : Int) + n) = -1 := by rw [if_neg (by omega), if_pos hc]
  rw [hif] at hS
  clear hif n0 n1
  go_enter Try.func33, Try.ntmps33
  go_wp2_with fail
  obtain ⟨wa, hA0⟩ : ∃ wa, w.alloc (.cells #[.int .i64 0, .int .i64 0, .int .i64 0, .int .i64 0, .int .i64 0] 33) = wa := ⟨_, rfl⟩
  have k8 : Blk wa w.heap.size 33 #[.int .i64 0, .int .i64 0, .int .i64 0, .int .i64 0, .int .i64 0] := hA0 ▸ Blk.new w _ _
  have ba : Below w.heap.size w wa := hA0 ▸ (Below.refl _ _).alloc (Nat.le_refl _) _
  rw [hA0]
  clear hA0
  have hP := hid (places_at s wa hs)
  with_reducible refine Calls.mono hP.out ?_
  rintro e w1 ⟨g, cap, rfl, hg, hpl, hb1⟩
  have nwa := k8.lt
  replace k8 := k8.low hb1
  replace ba := ba.trans (hb1.mono ba.size)
  clear hb1 hP
  obtain ⟨m, hm⟩ : ∃ m, (fin s).ps.length = m := ⟨_, rfl⟩
  have hn : (plOf s).length = m + 1 := by rw [plOf_len, hm]
  rw [hm] at hlast
  simp only [hn]
  have hgl : g < w1.heap.size := World.block_lt_of_cell? w1 _ (hpl _ _ hlast).1
  obtain ⟨y0, y1, y2, y3, y4⟩ := hpl _ _ hlast
  obtain ⟨pe, hpe⟩ : ∃ pe, lastP s = pe := ⟨_, rfl⟩
  have hHA := hid hpl
  clear hpl
  have hm6 : m ≤ 65536 := by omega
  have t1 : IntKind.i64.wrap (m : Int) = m := IntWalk.i64_in _ (by omega)
  have t2 : (0 : Int) ≤ m := by omega
  have t3 : ((m : Nat) : Int) < (m : Int) + 1 := by omega
  have t4 : ((m : Nat) : Int).toNat = m := by omega
  simp only [hpe] at hbd hS y0 y1 y2 y3 y4
  have hB : Below w1.heap.size w1 w1 := Below.refl _ _
  obtain ⟨N10, hN10⟩ : ∃ N, w1.heap.size = N := ⟨_, rfl⟩
  obtain ⟨v2, hA⟩ : ∃ W, w1.alloc (.cells #[.int .i64 pe.b, .int .i64 pe.r, .int .i64 pe.u, .int .i64 pe.l, .int .i64 pe.c] 33) = W := ⟨_, rfl⟩
  have k10 : Blk v2 N10 33 #[.int .i64 pe.b, .int .i64 pe.r, .int .i64 pe.u, .int .i64 pe.l, .int .i64 pe.c] := by rw [← hA, ← hN10]; exact Blk.new w1 _ _
  have hb : Below w1.heap.size w1 v2 := hA ▸ (Below.refl _ _).alloc (Nat.le_refl _) _
  have nN10 : w.heap.size < N10 := hN10 ▸ k8.lt
  replace k8 := k8.low hb
  replace hB := hB.trans (hb.mono hB.size)
  replace ba := ba.trans (hb.mono ba.size)
  clear hb
  have hA1 := hid hA
  clear hA
  go_upto_region 3 with fail
  try simp only [hN10]
  rw [hA1.out]
  clear hA1 hN10
  clear y0 y1 y2 y3 y4 t1
  go_wp2_with fail
  with_reducible refine Calls.mono (hR v2).out ?_
  rintro e v3 ⟨rfl, hb⟩
  replace k8 := k8.low hb
  replace k10 := k10.low hb
  replace hB := hB.trans (hb.mono hB.size)
  replace ba := ba.trans (hb.mono ba.size)
  clear hb
  clear hR
  obtain ⟨N11, hN11⟩ : ∃ N, v3.heap.size = N := ⟨_, rfl⟩
  obtain ⟨v4, hA⟩ : ∃ W, v3.alloc (.cells #[.int .i64 p.b, .int .i64 p.r, .int .i64 p.u, .int .i64 p.l, .int .i64 p.c] 33) = W := ⟨_, rfl⟩
  have k11 : Blk v4 N11 33 #[.int .i64 p.b, .int .i64 p.r, .int .i64 p.u, .int .i64 p.l, .int .i64 p.c] := by rw [← hA, ← hN11]; exact Blk.new v3 _ _
  have hb : Below v3.heap.size v3 v4 := hA ▸ (Below.refl _ _).alloc (Nat.le_refl _) _
  have nN11 : w.heap.size < N11 := hN11 ▸ k8.lt
  replace k8 := k8.low hb
  replace k10 := k10.low hb
  replace hB := hB.trans (hb.mono hB.size)
  replace ba := ba.trans (hb.mono ba.size)
  clear hb
  have hA1 := hid hA
  clear hA
  go_upto_region 4 with fail
  try simp only [hN11]
  rw [hA1.out]
  clear hA1 hN11
  have ca0 := k10.cell (k := 0) rfl
  have ca1 := k10.cell (k := 1) rfl
  have ca2 := k10.cell (k := 2) rfl
  have ca3 := k10.cell (k := 3) rfl
  have ca4 := k10.cell (k := 4) rfl
  have cb0 := k11.cell (k := 0) rfl
  have cb1 := k11.cell (k := 1) rfl
  have cb2 := k11.cell (k := 2) rfl
  have cb3 := k11.cell (k := 3) rfl
  have cb4 := k11.cell (k := 4) rfl
  refine ext_allB (by kernel_rfl) (by kernel_rfl) ?_
  repeat (refine bq_step (fun K hK => ?_); go_simp; refine ⟨hK _ ?_⟩; clear hK K)
  refine bq_nil ?_
  rintro _ ⟨x, rfl⟩
  obtain ⟨v5, hb⟩ := x
  dsimp only
  replace k8 := k8.low hb
  replace k10 := k10.low hb
  replace k11 := k11.low hb
  replace hB := hB.trans (hb.mono hB.size)
  replace ba := ba.trans (hb.mono ba.size)
  clear hb
  clear ca0 ca1 ca2 ca3 ca4
  clear cb0 cb1 cb2 cb3 cb4
  go_wp2_with fail
  with_reducible refine Calls.mono (hS v5).out ?_
  rintro e _ ⟨rfl, rfl⟩
  clear hS
  obtain ⟨z0, z1, z2, z3, z4⟩ := (hHA.out _ _ hq).low hB hgl
  simp only [Nat.zero_mul, Nat.zero_add] at z0 z1 z2 z3 z4
  clear hbd hlast hz hm6
  have cb0 := k8.cell (k := 0) rfl
  have cb1 := k8.cell (k := 1) rfl
  have cb2 := k8.cell (k := 2) rfl
  have cb3 := k8.cell (k := 3) rfl
  have cb4 := k8.cell (k := 4) rfl
  have nb := k8.lt
  have fb := k8.froz
  have hF := set5r k8 (.int .i64 q.b) (.int .i64 q.r) (.int .i64 q.u) (.int .i64 q.l) (.int .i64 q.c)
  have d0 := hid (hF.cell (k := 0) rfl)
  have d1 := hid (hF.cell (k := 1) rfl)
  have d2 := hid (hF.cell (k := 2) rfl)
  have d3 := hid (hF.cell (k := 3) rfl)
  have d4 := hid (hF.cell (k := 4) rfl)
  clear hF
  go_wp2_with fail
  all_goals try rw [Exit.noGoto_ret]
  all_goals exact bodyPost_ret (v := plV q) (by simp [results, Try.results33, go_sem, d0.out, d1.out, d2.out, d3.out, d4.out]) rfl ⟨rfl, low5r ba (Nat.le_refl _) _ _ _ _ _⟩
set_option maxRecDepth 100000 in
set_option maxHeartbeats 4000000 in
theorem rmv1_hi (s : ByteArray) (at' n : Int) (w : World) (hs : s.size ≤ 65536) (h0 : 0 ≤ at') (h1 : at' ≤ s.size) {j : Nat} {p : Pl} (hat : At s Pl.b at' j p) (n0 : -9223372036854775808 ≤ n) (n1 : n ≤ 9223372036854775807) (hc : ((lastP s).r : Int) < (p.r : Int) + n) :
    Calls Try.prog 33 #[.string s, .int .i64 at', .int .i64 1, .int .i64 n] w fun e w' => e = .returned (plV (lastP s)) ∧ Below w.heap.size w w' := by
  have hbd := pl_bd s hs hat.get
  have hlast := last_get s
  have hz := plOf_small s hs
  have hnn := hid (And.intro n0 n1)
  have hR := fun W => hid (ref_byte s at' W hs h0 h1 hat)
  have hS := fun W => hid (ref_sum (p.r : Nat) n ((lastP s).r : Nat) W (by omega) (by omega) (by omega) n0 n1)
  have hif : (if ((lastP s).r : Int) < (p.r : Int) + n then ((lastP s).r : Int) + 1 else if (p.r : Int) + n < 0 then -1 else (p.r : Int) + n) = ((lastP s).r : Int) + 1 := by rw [if_pos hc]
  rw [hif] at hS
  clear hif n0 n1
  go_enter Try.func33, Try.ntmps33
  go_wp2_with fail
  obtain ⟨wa, hA0⟩ : ∃ wa, w.alloc (.cells #[.int .i64 0, .int .i64 0, .int .i64 0, .int .i64 0, .int .i64 0] 33) = wa := ⟨_, rfl⟩
  have k8 : Blk wa w.heap.size 33 #[.int .i64 0, .int .i64 0, .int .i64 0, .int .i64 0, .int .i64 0] := hA0 ▸ Blk.new w _ _
  have ba : Below w.heap.size w wa := hA0 ▸ (Below.refl _ _).alloc (Nat.le_refl _) _
  rw [hA0]
  clear hA0
  have hP := hid (places_at s wa hs)
  with_reducible refine Calls.mono hP.out ?_
  rintro e w1 ⟨g, cap, rfl, hg, hpl, hb1⟩
  have nwa := k8.lt
  replace k8 := k8.low hb1
  replace ba := ba.trans (hb1.mono ba.size)
  clear hb1 hP
  obtain ⟨m, hm⟩ : ∃ m, (fin s).ps.length = m := ⟨_, rfl⟩
  have hn : (plOf s).length = m + 1 := by rw [plOf_len, hm]
  rw [hm] at hlast
  simp only [hn]
  have hgl : g < w1.heap.size := World.block_lt_of_cell? w1 _ (hpl _ _ hlast).1
  obtain ⟨y0, y1, y2, y3, y4⟩ := hpl _ _ hlast
  obtain ⟨pe, hpe⟩ : ∃ pe, lastP s = pe := ⟨_, rfl⟩
  have hHA := hid hpl
  clear hpl
  have hm6 : m ≤ 65536 := by omega
  have t1 : IntKind.i64.wrap (m : Int) = m := IntWalk.i64_in _ (by omega)
  have t2 : (0 : Int) ≤ m := by omega
  have t3 : ((m : Nat) : Int) < (m : Int) + 1 := by omega
  have t4 : ((m : Nat) : Int).toNat = m := by omega
  simp only [hpe] at hbd hS y0 y1 y2 y3 y4
  have hB : Below w1.heap.size w1 w1 := Below.refl _ _
  simp only [hpe] at hc
  obtain ⟨N10, hN10⟩ : ∃ N, w1.heap.size = N := ⟨_, rfl⟩
  obtain ⟨v2, hA⟩ : ∃ W, w1.alloc (.cells #[.int .i64 pe.b, .int .i64 pe.r, .int .i64 pe.u, .int .i64 pe.l, .int .i64 pe.c] 33) = W := ⟨_, rfl⟩
  have k10 : Blk v2 N10 33 #[.int .i64 pe.b, .int .i64 pe.r, .int .i64 pe.u, .int .i64 pe.l, .int .i64 pe.c] := by rw [← hA, ← hN10]; exact Blk.new w1 _ _
  have hb : Below w1.heap.size w1 v2 := hA ▸ (Below.refl _ _).alloc (Nat.le_refl _) _
  have nN10 : w.heap.size < N10 := hN10 ▸ k8.lt
  replace k8 := k8.low hb
  replace hB := hB.trans (hb.mono hB.size)
  replace ba := ba.trans (hb.mono ba.size)
  clear hb
  have hA1 := hid hA
  clear hA
  go_upto_region 3 with fail
  try simp only [hN10]
  rw [hA1.out]
  clear hA1 hN10
  clear y0 y1 y2 y3 y4 t1
  go_wp2_with fail
  with_reducible refine Calls.mono (hR v2).out ?_
  rintro e v3 ⟨rfl, hb⟩
  replace k8 := k8.low hb
  replace k10 := k10.low hb
  replace hB := hB.trans (hb.mono hB.size)
  replace ba := ba.trans (hb.mono ba.size)
  clear hb
  clear hR
  obtain ⟨N11, hN11⟩ : ∃ N, v3.heap.size = N := ⟨_, rfl⟩
  obtain ⟨v4, hA⟩ : ∃ W, v3.alloc (.cells #[.int .i64 p.b, .int .i64 p.r, .int .i64 p.u, .int .i64 p.l, .int .i64 p.c] 33) = W := ⟨_, rfl⟩
  have k11 : Blk v4 N11 33 #[.int .i64 p.b, .int .i64 p.r, .int .i64 p.u, .int .i64 p.l, .int .i64 p.c] := by rw [← hA, ← hN11]; exact Blk.new v3 _ _
  have hb : Below v3.heap.size v3 v4 := hA ▸ (Below.refl _ _).alloc (Nat.le_refl _) _
  have nN11 : w.heap.size < N11 := hN11 ▸ k8.lt
  replace k8 := k8.low hb
  replace k10 := k10.low hb
  replace hB := hB.trans (hb.mono hB.size)
  replace ba := ba.trans (hb.mono ba.size)
  clear hb
  have hA1 := hid hA
  clear hA
  go_upto_region 4 with fail
  try simp only [hN11]
  rw [hA1.out]
  clear hA1 hN11
  have ca0 := k10.cell (k := 0) rfl
  have ca1 := k10.cell (k := 1) rfl
  have ca2 := k10.cell (k := 2) rfl
  have ca3 := k10.cell (k := 3) rfl
  have ca4 := k10.cell (k := 4) rfl
  have cb0 := k11.cell (k := 0) rfl
  have cb1 := k11.cell (k := 1) rfl
  have cb2 := k11.cell (k := 2) rfl
  have cb3 := k11.cell (k := 3) rfl
  have cb4 := k11.cell (k := 4) rfl
  refine ext_allB (by kernel_rfl) (by kernel_rfl) ?_
  repeat (refine bq_step (fun K hK => ?_); go_simp; refine ⟨hK _ ?_⟩; clear hK K)
  refine bq_nil ?_
  rintro _ ⟨x, rfl⟩
  obtain ⟨v5, hb⟩ := x
  dsimp only
  replace k8 := k8.low hb
  replace k10 := k10.low hb
  replace k11 := k11.low hb
  replace hB := hB.trans (hb.mono hB.size)
  replace ba := ba.trans (hb.mono ba.size)
  clear hb
  clear ca0 ca1 ca2 ca3 ca4
  clear cb0 cb1 cb2 cb3 cb4
  go_wp2_with fail
  with_reducible refine Calls.mono (hS v5).out ?_
  rintro e _ ⟨rfl, rfl⟩
  clear hS
  have ca0 := k10.cell (k := 0) rfl
  have ca1 := k10.cell (k := 1) rfl
  have ca2 := k10.cell (k := 2) rfl
  have ca3 := k10.cell (k := 3) rfl
  have ca4 := k10.cell (k := 4) rfl
  have e1 : ¬ (pe.r : Int) + 1 < 0 := by omega
  have e2 : decide ((pe.r : Int) + 1 < 0) = false := decide_eq_false e1
  have e3 : (pe.r : Int) < (pe.r : Int) + 1 := by omega
  clear hbd hlast hz hm6
  have cb0 := k8.cell (k := 0) rfl
  have cb1 := k8.cell (k := 1) rfl
  have cb2 := k8.cell (k := 2) rfl
  have cb3 := k8.cell (k := 3) rfl
  have cb4 := k8.cell (k := 4) rfl
  have nb := k8.lt
  have fb := k8.froz
  have hF := set5r k8 (.int .i64 pe.b) (.int .i64 pe.r) (.int .i64 pe.u) (.int .i64 pe.l) (.int .i64 pe.c)
  have d0 := hid (hF.cell (k := 0) rfl)
  have d1 := hid (hF.cell (k := 1) rfl)
  have d2 := hid (hF.cell (k := 2) rfl)
  have d3 := hid (hF.cell (k := 3) rfl)
  have d4 := hid (hF.cell (k := 4) rfl)
  clear hF
  go_wp2_with fail
  all_goals try rw [Exit.noGoto_ret]
  all_goals exact bodyPost_ret (v := plV pe) (by simp [results, Try.results33, go_sem, d0.out, d1.out, d2.out, d3.out, d4.out]) rfl ⟨by rw [hpe], low5r ba (Nat.le_refl _) _ _ _ _ _⟩
set_option maxRecDepth 100000 in
set_option maxHeartbeats 4000000 in
theorem rmv1_in (s : ByteArray) (at' n : Int) (w : World) (hs : s.size ≤ 65536) (h0 : 0 ≤ at') (h1 : at' ≤ s.size) {j : Nat} {p : Pl} (hat : At s Pl.b at' j p) (n0 : -9223372036854775808 ≤ n) (n1 : n ≤ 9223372036854775807) (hc0 : 0 ≤ (p.r : Int) + n) (hc1 : (p.r : Int) + n ≤ (lastP s).r) {q : Pl} (hq : (plOf s)[((p.r : Int) + n).toNat]? = some q) :
    Calls Try.prog 33 #[.string s, .int .i64 at', .int .i64 1, .int .i64 n] w fun e w' => e = .returned (plV (q)) ∧ Below w.heap.size w w' := by
  have hbd := pl_bd s hs hat.get
  have hlast := last_get s
  have hz := plOf_small s hs
  have hnn := hid (And.intro n0 n1)
  have hR := fun W => hid (ref_byte s at' W hs h0 h1 hat)
  have hS := fun W => hid (ref_sum (p.r : Nat) n ((lastP s).r : Nat) W (by omega) (by omega) (by omega) n0 n1)
  have hif : (if ((lastP s).r : Int) < (p.r : Int) + n then ((lastP s).r : Int) + 1 else if (p.r : Int) + n < 0 then -1 else (p.r : Int) + n) = (p.r : Int) + n := by rw [if_neg (by omega), if_neg (by omega)]
  rw [hif] at hS
  clear hif n0 n1
  go_enter Try.func33, Try.ntmps33
  go_wp2_with fail
  obtain ⟨wa, hA0⟩ : ∃ wa, w.alloc (.cells #[.int .i64 0, .int .i64 0, .int .i64 0, .int .i64 0, .int .i64 0] 33) = wa := ⟨_, rfl⟩
  have k8 : Blk wa w.heap.size 33 #[.int .i64 0, .int .i64 0, .int .i64 0, .int .i64 0, .int .i64 0] := hA0 ▸ Blk.new w _ _
  have ba : Below w.heap.size w wa := hA0 ▸ (Below.refl _ _).alloc (Nat.le_refl _) _
  rw [hA0]
  clear hA0
  have hP := hid (places_at s wa hs)
  with_reducible refine Calls.mono hP.out ?_
  rintro e w1 ⟨g, cap, rfl, hg, hpl, hb1⟩
  have nwa := k8.lt
  replace k8 := k8.low hb1
  replace ba := ba.trans (hb1.mono ba.size)
  clear hb1 hP
  obtain ⟨m, hm⟩ : ∃ m, (fin s).ps.length = m := ⟨_, rfl⟩
  have hn : (plOf s).length = m + 1 := by rw [plOf_len, hm]
  rw [hm] at hlast
  simp only [hn]
  have hgl : g < w1.heap.size := World.block_lt_of_cell? w1 _ (hpl _ _ hlast).1
  obtain ⟨y0, y1, y2, y3, y4⟩ := hpl _ _ hlast
  obtain ⟨pe, hpe⟩ : ∃ pe, lastP s = pe := ⟨_, rfl⟩
  have hHA := hid hpl
  clear hpl
  have hm6 : m ≤ 65536 := by omega
  have t1 : IntKind.i64.wrap (m : Int) = m := IntWalk.i64_in _ (by omega)
  have t2 : (0 : Int) ≤ m := by omega
  have t3 : ((m : Nat) : Int) < (m : Int) + 1 := by omega
  have t4 : ((m : Nat) : Int).toNat = m := by omega
  simp only [hpe] at hbd hS y0 y1 y2 y3 y4
  have hB : Below w1.heap.size w1 w1 := Below.refl _ _
  simp only [hpe] at hc1
  obtain ⟨N10, hN10⟩ : ∃ N, w1.heap.size = N := ⟨_, rfl⟩
  obtain ⟨v2, hA⟩ : ∃ W, w1.alloc (.cells #[.int .i64 pe.b, .int .i64 pe.r, .int .i64 pe.u, .int .i64 pe.l, .int .i64 pe.c] 33) = W := ⟨_, rfl⟩
  have k10 : Blk v2 N10 33 #[.int .i64 pe.b, .int .i64 pe.r, .int .i64 pe.u, .int .i64 pe.l, .int .i64 pe.c] := by rw [← hA, ← hN10]; exact Blk.new w1 _ _
  have hb : Below w1.heap.size w1 v2 := hA ▸ (Below.refl _ _).alloc (Nat.le_refl _) _
  have nN10 : w.heap.size < N10 := hN10 ▸ k8.lt
  replace k8 := k8.low hb
  replace hB := hB.trans (hb.mono hB.size)
  replace ba := ba.trans (hb.mono ba.size)
  clear hb
  have hA1 := hid hA
  clear hA
  go_upto_region 3 with fail
  try simp only [hN10]
  rw [hA1.out]
  clear hA1 hN10
  clear y0 y1 y2 y3 y4 t1
  go_wp2_with fail
  with_reducible refine Calls.mono (hR v2).out ?_
  rintro e v3 ⟨rfl, hb⟩
  replace k8 := k8.low hb
  replace k10 := k10.low hb
  replace hB := hB.trans (hb.mono hB.size)
  replace ba := ba.trans (hb.mono ba.size)
  clear hb
  clear hR
  obtain ⟨N11, hN11⟩ : ∃ N, v3.heap.size = N := ⟨_, rfl⟩
  obtain ⟨v4, hA⟩ : ∃ W, v3.alloc (.cells #[.int .i64 p.b, .int .i64 p.r, .int .i64 p.u, .int .i64 p.l, .int .i64 p.c] 33) = W := ⟨_, rfl⟩
  have k11 : Blk v4 N11 33 #[.int .i64 p.b, .int .i64 p.r, .int .i64 p.u, .int .i64 p.l, .int .i64 p.c] := by rw [← hA, ← hN11]; exact Blk.new v3 _ _
  have hb : Below v3.heap.size v3 v4 := hA ▸ (Below.refl _ _).alloc (Nat.le_refl _) _
  have nN11 : w.heap.size < N11 := hN11 ▸ k8.lt
  replace k8 := k8.low hb
  replace k10 := k10.low hb
  replace hB := hB.trans (hb.mono hB.size)
  replace ba := ba.trans (hb.mono ba.size)
  clear hb
  have hA1 := hid hA
  clear hA
  go_upto_region 4 with fail
  try simp only [hN11]
  rw [hA1.out]
  clear hA1 hN11
  have ca0 := k10.cell (k := 0) rfl
  have ca1 := k10.cell (k := 1) rfl
  have ca2 := k10.cell (k := 2) rfl
  have ca3 := k10.cell (k := 3) rfl
  have ca4 := k10.cell (k := 4) rfl
  have cb0 := k11.cell (k := 0) rfl
  have cb1 := k11.cell (k := 1) rfl
  have cb2 := k11.cell (k := 2) rfl
  have cb3 := k11.cell (k := 3) rfl
  have cb4 := k11.cell (k := 4) rfl
  refine ext_allB (by kernel_rfl) (by kernel_rfl) ?_
  repeat (refine bq_step (fun K hK => ?_); go_simp; refine ⟨hK _ ?_⟩; clear hK K)
  refine bq_nil ?_
  rintro _ ⟨x, rfl⟩
  obtain ⟨v5, hb⟩ := x
  dsimp only
  replace k8 := k8.low hb
  replace k10 := k10.low hb
  replace k11 := k11.low hb
  replace hB := hB.trans (hb.mono hB.size)
  replace ba := ba.trans (hb.mono ba.size)
  clear hb
  clear ca0 ca1 ca2 ca3 ca4
  clear cb0 cb1 cb2 cb3 cb4
  go_wp2_with fail
  with_reducible refine Calls.mono (hS v5).out ?_
  rintro e _ ⟨rfl, rfl⟩
  clear hS
  have e2 : decide ((p.r : Int) + n < 0) = false := decide_eq_false (by omega)
  have e3 : decide ((pe.r : Int) < (p.r : Int) + n) = false := decide_eq_false (by omega)
  obtain ⟨d', hd⟩ := Int.eq_ofNat_of_zero_le hc0
  rw [hd, Int.toNat_natCast] at hq
  obtain ⟨z0, z1, z2, z3, z4⟩ := (hHA.out _ _ hq).low hB hgl
  have hql := (List.getElem?_eq_some_iff.1 hq).1
  rw [hn] at hql
  simp only [hd] at e2 e3 hc1 ⊢
  have e3n : decide (pe.r < d') = false := decide_eq_false (by omega)
  have e4 : (d' : Int) < (m : Int) + 1 := by omega
  have e5 : ((d' : Nat) : Int).toNat = d' := Int.toNat_natCast d'
  clear hd hq hql hbd hlast hz hm6 hc1 hnn hc0
  have cb0 := k8.cell (k := 0) rfl
  have cb1 := k8.cell (k := 1) rfl
  have cb2 := k8.cell (k := 2) rfl
  have cb3 := k8.cell (k := 3) rfl
  have cb4 := k8.cell (k := 4) rfl
  have nb := k8.lt
  have fb := k8.froz
  have hF := set5r k8 (.int .i64 q.b) (.int .i64 q.r) (.int .i64 q.u) (.int .i64 q.l) (.int .i64 q.c)
  have d0 := hid (hF.cell (k := 0) rfl)
  have d1 := hid (hF.cell (k := 1) rfl)
  have d2 := hid (hF.cell (k := 2) rfl)
  have d3 := hid (hF.cell (k := 3) rfl)
  have d4 := hid (hF.cell (k := 4) rfl)
  clear hF
  go_wp2_with fail
  all_goals try rw [Exit.noGoto_ret]
  all_goals exact bodyPost_ret (v := plV q) (by simp [results, Try.results33, go_sem, d0.out, d1.out, d2.out, d3.out, d4.out]) rfl ⟨rfl, low5r ba (Nat.le_refl _) _ _ _ _ _⟩
set_option maxRecDepth 100000 in
set_option maxHeartbeats 4000000 in
theorem rmv2_lo (s : ByteArray) (at' n : Int) (w : World) (hs : s.size ≤ 65536) (h0 : 0 ≤ at') (h1 : at' ≤ s.size) {j : Nat} {p : Pl} (hat : At s Pl.b at' j p) (n0 : -9223372036854775808 ≤ n) (n1 : n ≤ 9223372036854775807) (hc : (p.u : Int) + n < 0) {q : Pl} (hq : (plOf s)[0]? = some q) :
    Calls Try.prog 33 #[.string s, .int .i64 at', .int .i64 2, .int .i64 n] w fun e w' => e = .returned (plV (q)) ∧ Below w.heap.size w w' := by
  have hbd := pl_bd s hs hat.get
  have hlast := last_get s
  have hz := plOf_small s hs
  have hnn := hid (And.intro n0 n1)
  have hR := fun W => hid (ref_byte s at' W hs h0 h1 hat)
  have hS := fun W => hid (ref_sum (p.u : Nat) n ((lastP s).u : Nat) W (by omega) (by omega) (by omega) n0 n1)
  have hif : (if ((lastP s).u : Int) < (p.u : Int) + n then ((lastP s).u : Int) + 1 else if (p.u : Int) + n < 0 then -1 else (p.u : Int) + n) = -1 := by rw [if_neg (by omega), if_pos hc]
  rw [hif] at hS
  clear hif n0 n1
  go_enter Try.func33, Try.ntmps33
  go_wp2_with fail
  obtain ⟨wa, hA0⟩ : ∃ wa, w.alloc (.cells #[.int .i64 0, .int .i64 0, .int .i64 0, .int .i64 0, .int .i64 0] 33) = wa := ⟨_, rfl⟩
  have k8 : Blk wa w.heap.size 33 #[.int .i64 0, .int .i64 0, .int .i64 0, .int .i64 0, .int .i64 0] := hA0 ▸ Blk.new w _ _
  have ba : Below w.heap.size w wa := hA0 ▸ (Below.refl _ _).alloc (Nat.le_refl _) _
  rw [hA0]
  clear hA0
  have hP := hid (places_at s wa hs)
  with_reducible refine Calls.mono hP.out ?_
  rintro e w1 ⟨g, cap, rfl, hg, hpl, hb1⟩
  have nwa := k8.lt
  replace k8 := k8.low hb1
  replace ba := ba.trans (hb1.mono ba.size)
  clear hb1 hP
  obtain ⟨m, hm⟩ : ∃ m, (fin s).ps.length = m := ⟨_, rfl⟩
  have hn : (plOf s).length = m + 1 := by rw [plOf_len, hm]
  rw [hm] at hlast
  simp only [hn]
  have hgl : g < w1.heap.size := World.block_lt_of_cell? w1 _ (hpl _ _ hlast).1
  obtain ⟨y0, y1, y2, y3, y4⟩ := hpl _ _ hlast
  obtain ⟨pe, hpe⟩ : ∃ pe, lastP s = pe := ⟨_, rfl⟩
  have hHA := hid hpl
  clear hpl
  have hm6 : m ≤ 65536 := by omega
  have t1 : IntKind.i64.wrap (m : Int) = m := IntWalk.i64_in _ (by omega)
  have t2 : (0 : Int) ≤ m := by omega
  have t3 : ((m : Nat) : Int) < (m : Int) + 1 := by omega
  have t4 : ((m : Nat) : Int).toNat = m := by omega
  simp only [hpe] at hbd hS y0 y1 y2 y3 y4
  have hB : Below w1.heap.size w1 w1 := Below.refl _ _
  obtain ⟨N10, hN10⟩ : ∃ N, w1.heap.size = N := ⟨_, rfl⟩
  obtain ⟨v2, hA⟩ : ∃ W, w1.alloc (.cells #[.int .i64 pe.b, .int .i64 pe.r, .int .i64 pe.u, .int .i64 pe.l, .int .i64 pe.c] 33) = W := ⟨_, rfl⟩
  have k10 : Blk v2 N10 33 #[.int .i64 pe.b, .int .i64 pe.r, .int .i64 pe.u, .int .i64 pe.l, .int .i64 pe.c] := by rw [← hA, ← hN10]; exact Blk.new w1 _ _
  have hb : Below w1.heap.size w1 v2 := hA ▸ (Below.refl _ _).alloc (Nat.le_refl _) _
  have nN10 : w.heap.size < N10 := hN10 ▸ k8.lt
  replace k8 := k8.low hb
  replace hB := hB.trans (hb.mono hB.size)
  replace ba := ba.trans (hb.mono ba.size)
  clear hb
  have hA1 := hid hA
  clear hA
  go_upto_region 3 with fail
  try simp only [hN10]
  rw [hA1.out]
  clear hA1 hN10
  clear y0 y1 y2 y3 y4 t1
  go_wp2_with fail
  with_reducible refine Calls.mono (hR v2).out ?_
  rintro e v3 ⟨rfl, hb⟩
  replace k8 := k8.low hb
  replace k10 := k10.low hb
  replace hB := hB.trans (hb.mono hB.size)
  replace ba := ba.trans (hb.mono ba.size)
  clear hb
  clear hR
  obtain ⟨N11, hN11⟩ : ∃ N, v3.heap.size = N := ⟨_, rfl⟩
  obtain ⟨v4, hA⟩ : ∃ W, v3.alloc (.cells #[.int .i64 p.b, .int .i64 p.r, .int .i64 p.u, .int .i64 p.l, .int .i64 p.c] 33) = W := ⟨_, rfl⟩
  have k11 : Blk v4 N11 33 #[.int .i64 p.b, .int .i64 p.r, .int .i64 p.u, .int .i64 p.l, .int .i64 p.c] := by rw [← hA, ← hN11]; exact Blk.new v3 _ _
  have hb : Below v3.heap.size v3 v4 := hA ▸ (Below.refl _ _).alloc (Nat.le_refl _) _
  have nN11 : w.heap.size < N11 := hN11 ▸ k8.lt
  replace k8 := k8.low hb
  replace k10 := k10.low hb
  replace hB := hB.trans (hb.mono hB.size)
  replace ba := ba.trans (hb.mono ba.size)
  clear hb
  have hA1 := hid hA
  clear hA
  go_upto_region 4 with fail
  try simp only [hN11]
  rw [hA1.out]
  clear hA1 hN11
  have ca0 := k10.cell (k := 0) rfl
  have ca1 := k10.cell (k := 1) rfl
  have ca2 := k10.cell (k := 2) rfl
  have ca3 := k10.cell (k := 3) rfl
  have ca4 := k10.cell (k := 4) rfl
  have cb0 := k11.cell (k := 0) rfl
  have cb1 := k11.cell (k := 1) rfl
  have cb2 := k11.cell (k := 2) rfl
  have cb3 := k11.cell (k := 3) rfl
  have cb4 := k11.cell (k := 4) rfl
  refine ext_allB (by kernel_rfl) (by kernel_rfl) ?_
  repeat (refine bq_step (fun K hK => ?_); go_simp; refine ⟨hK _ ?_⟩; clear hK K)
  refine bq_nil ?_
  rintro _ ⟨x, rfl⟩
  obtain ⟨v5, hb⟩ := x
  dsimp only
  replace k8 := k8.low hb
  replace k10 := k10.low hb
  replace k11 := k11.low hb
  replace hB := hB.trans (hb.mono hB.size)
  replace ba := ba.trans (hb.mono ba.size)
  clear hb
  clear ca0 ca1 ca2 ca3 ca4
  clear cb0 cb1 cb2 cb3 cb4
  go_wp2_with fail
  have ca0 := k10.cell (k := 0) rfl
  have ca1 := k10.cell (k := 1) rfl
  have ca2 := k10.cell (k := 2) rfl
  have ca3 := k10.cell (k := 3) rfl
  have ca4 := k10.cell (k := 4) rfl
  have cb0 := k11.cell (k := 0) rfl
  have cb1 := k11.cell (k := 1) rfl
  have cb2 := k11.cell (k := 2) rfl
  have cb3 := k11.cell (k := 3) rfl
  have cb4 := k11.cell (k := 4) rfl
  refine ext_allB (by kernel_rfl) (by kernel_rfl) ?_
  repeat (refine bq_step (fun K hK => ?_); go_simp; refine ⟨hK _ ?_⟩; clear hK K)
  refine bq_nil ?_
  rintro _ ⟨x, rfl⟩
  obtain ⟨v6, hb⟩ := x
  dsimp only
  replace k8 := k8.low hb
  replace k10 := k10.low hb
  replace k11 := k11.low hb
  replace hB := hB.trans (hb.mono hB.size)
  replace ba := ba.trans (hb.mono ba.size)
  clear hb
  clear ca0 ca1 ca2 ca3 ca4
  clear cb0 cb1 cb2 cb3 cb4
  go_wp2_with fail
  with_reducible refine Calls.mono (hS v6).out ?_
  rintro e _ ⟨rfl, rfl⟩
  clear hS
  obtain ⟨z0, z1, z2, z3, z4⟩ := (hHA.out _ _ hq).low hB hgl
  simp only [Nat.zero_mul, Nat.zero_add] at z0 z1 z2 z3 z4
  clear hbd hlast hz hm6
  have cb0 := k8.cell (k := 0) rfl
  have cb1 := k8.cell (k := 1) rfl
  have cb2 := k8.cell (k := 2) rfl
  have cb3 := k8.cell (k := 3) rfl
  have cb4 := k8.cell (k := 4) rfl
  have nb := k8.lt
  have fb := k8.froz
  have hF := set5r k8 (.int .i64 q.b) (.int .i64 q.r) (.int .i64 q.u) (.int .i64 q.l) (.int .i64 q.c)
  have d0 := hid (hF.cell (k := 0) rfl)
  have d1 := hid (hF.cell (k := 1) rfl)
  have d2 := hid (hF.cell (k := 2) rfl)
  have d3 := hid (hF.cell (k := 3) rfl)
  have d4 := hid (hF.cell (k := 4) rfl)
  clear hF
  go_wp2_with fail
  all_goals try rw [Exit.noGoto_ret]
  all_goals exact bodyPost_ret (v := plV q) (by simp [results, Try.results33, go_sem, d0.out, d1.out, d2.out, d3.out, d4.out]) rfl ⟨rfl, low5r ba (Nat.le_refl _) _ _ _ _ _⟩
set_option maxRecDepth 100000 in
set_option maxHeartbeats 4000000 in
theorem rmv2_hi (s : ByteArray) (at' n : Int) (w : World) (hs : s.size ≤ 65536) (h0 : 0 ≤ at') (h1 : at' ≤ s.size) {j : Nat} {p : Pl} (hat : At s Pl.b at' j p) (n0 : -9223372036854775808 ≤ n) (n1 : n ≤ 9223372036854775807) (hc : ((lastP s).u : Int) < (p.u : Int) + n) :
    Calls Try.prog 33 #[.string s, .int .i64 at', .int .i64 2, .int .i64 n] w fun e w' => e = .returned (plV (lastP s)) ∧ Below w.heap.size w w' := by
  have hbd := pl_bd s hs hat.get
  have hlast := last_get s
  have hz := plOf_small s hs
  have hnn := hid (And.intro n0 n1)
  have hR := fun W => hid (ref_byte s at' W hs h0 h1 hat)
  have hS := fun W => hid (ref_sum (p.u : Nat) n ((lastP s).u : Nat) W (by omega) (by omega) (by omega) n0 n1)
  have hif : (if ((lastP s).u : Int) < (p.u : Int) + n then ((lastP s).u : Int) + 1 else if (p.u : Int) + n < 0 then -1 else (p.u : Int) + n) = ((lastP s).u : Int) + 1 := by rw [if_pos hc]
  rw [hif] at hS
  clear hif n0 n1
  go_enter Try.func33, Try.ntmps33
  go_wp2_with fail
  obtain ⟨wa, hA0⟩ : ∃ wa, w.alloc (.cells #[.int .i64 0, .int .i64 0, .int .i64 0, .int .i64 0, .int .i64 0] 33) = wa := ⟨_, rfl⟩
  have k8 : Blk wa w.heap.size 33 #[.int .i64 0, .int .i64 0, .int .i64 0, .int .i64 0, .int .i64 0] := hA0 ▸ Blk.new w _ _
  have ba : Below w.heap.size w wa := hA0 ▸ (Below.refl _ _).alloc (Nat.le_refl _) _
  rw [hA0]
  clear hA0
  have hP := hid (places_at s wa hs)
  with_reducible refine Calls.mono hP.out ?_
  rintro e w1 ⟨g, cap, rfl, hg, hpl, hb1⟩
  have nwa := k8.lt
  replace k8 := k8.low hb1
  replace ba := ba.trans (hb1.mono ba.size)
  clear hb1 hP
  obtain ⟨m, hm⟩ : ∃ m, (fin s).ps.length = m := ⟨_, rfl⟩
  have hn : (plOf s).length = m + 1 := by rw [plOf_len, hm]
  rw [hm] at hlast
  simp only [hn]
  have hgl : g < w1.heap.size := World.block_lt_of_cell? w1 _ (hpl _ _ hlast).1
  obtain ⟨y0, y1, y2, y3, y4⟩ := hpl _ _ hlast
  obtain ⟨pe, hpe⟩ : ∃ pe, lastP s = pe := ⟨_, rfl⟩
  have hHA := hid hpl
  clear hpl
  have hm6 : m ≤ 65536 := by omega
  have t1 : IntKind.i64.wrap (m : Int) = m := IntWalk.i64_in _ (by omega)
  have t2 : (0 : Int) ≤ m := by omega
  have t3 : ((m : Nat) : Int) < (m : Int) + 1 := by omega
  have t4 : ((m : Nat) : Int).toNat = m := by omega
  simp only [hpe] at hbd hS y0 y1 y2 y3 y4
  have hB : Below w1.heap.size w1 w1 := Below.refl _ _
  simp only [hpe] at hc
  obtain ⟨N10, hN10⟩ : ∃ N, w1.heap.size = N := ⟨_, rfl⟩
  obtain ⟨v2, hA⟩ : ∃ W, w1.alloc (.cells #[.int .i64 pe.b, .int .i64 pe.r, .int .i64 pe.u, .int .i64 pe.l, .int .i64 pe.c] 33) = W := ⟨_, rfl⟩
  have k10 : Blk v2 N10 33 #[.int .i64 pe.b, .int .i64 pe.r, .int .i64 pe.u, .int .i64 pe.l, .int .i64 pe.c] := by rw [← hA, ← hN10]; exact Blk.new w1 _ _
  have hb : Below w1.heap.size w1 v2 := hA ▸ (Below.refl _ _).alloc (Nat.le_refl _) _
  have nN10 : w.heap.size < N10 := hN10 ▸ k8.lt
  replace k8 := k8.low hb
  replace hB := hB.trans (hb.mono hB.size)
  replace ba := ba.trans (hb.mono ba.size)
  clear hb
  have hA1 := hid hA
  clear hA
  go_upto_region 3 with fail
  try simp only [hN10]
  rw [hA1.out]
  clear hA1 hN10
  clear y0 y1 y2 y3 y4 t1
  go_wp2_with fail
  with_reducible refine Calls.mono (hR v2).out ?_
  rintro e v3 ⟨rfl, hb⟩
  replace k8 := k8.low hb
  replace k10 := k10.low hb
  replace hB := hB.trans (hb.mono hB.size)
  replace ba := ba.trans (hb.mono ba.size)
  clear hb
  clear hR
  obtain ⟨N11, hN11⟩ : ∃ N, v3.heap.size = N := ⟨_, rfl⟩
  obtain ⟨v4, hA⟩ : ∃ W, v3.alloc (.cells #[.int .i64 p.b, .int .i64 p.r, .int .i64 p.u, .int .i64 p.l, .int .i64 p.c] 33) = W := ⟨_, rfl⟩
  have k11 : Blk v4 N11 33 #[.int .i64 p.b, .int .i64 p.r, .int .i64 p.u, .int .i64 p.l, .int .i64 p.c] := by rw [← hA, ← hN11]; exact Blk.new v3 _ _
  have hb : Below v3.heap.size v3 v4 := hA ▸ (Below.refl _ _).alloc (Nat.le_refl _) _
  have nN11 : w.heap.size < N11 := hN11 ▸ k8.lt
  replace k8 := k8.low hb
  replace k10 := k10.low hb
  replace hB := hB.trans (hb.mono hB.size)
  replace ba := ba.trans (hb.mono ba.size)
  clear hb
  have hA1 := hid hA
  clear hA
  go_upto_region 4 with fail
  try simp only [hN11]
  rw [hA1.out]
  clear hA1 hN11
  have ca0 := k10.cell (k := 0) rfl
  have ca1 := k10.cell (k := 1) rfl
  have ca2 := k10.cell (k := 2) rfl
  have ca3 := k10.cell (k := 3) rfl
  have ca4 := k10.cell (k := 4) rfl
  have cb0 := k11.cell (k := 0) rfl
  have cb1 := k11.cell (k := 1) rfl
  have cb2 := k11.cell (k := 2) rfl
  have cb3 := k11.cell (k := 3) rfl
  have cb4 := k11.cell (k := 4) rfl
  refine ext_allB (by kernel_rfl) (by kernel_rfl) ?_
  repeat (refine bq_step (fun K hK => ?_); go_simp; refine ⟨hK _ ?_⟩; clear hK K)
  refine bq_nil ?_
  rintro _ ⟨x, rfl⟩
  obtain ⟨v5, hb⟩ := x
  dsimp only
  replace k8 := k8.low hb
  replace k10 := k10.low hb
  replace k11 := k11.low hb
  replace hB := hB.trans (hb.mono hB.size)
  replace ba := ba.trans (hb.mono ba.size)
  clear hb
  clear ca0 ca1 ca2 ca3 ca4
  clear cb0 cb1 cb2 cb3 cb4
  go_wp2_with fail
  have ca0 := k10.cell (k := 0) rfl
  have ca1 := k10.cell (k := 1) rfl
  have ca2 := k10.cell (k := 2) rfl
  have ca3 := k10.cell (k := 3) rfl
  have ca4 := k10.cell (k := 4) rfl
  have cb0 := k11.cell (k := 0) rfl
  have cb1 := k11.cell (k := 1) rfl
  have cb2 := k11.cell (k := 2) rfl
  have cb3 := k11.cell (k := 3) rfl
  have cb4 := k11.cell (k := 4) rfl
  refine ext_allB (by kernel_rfl) (by kernel_rfl) ?_
  repeat (refine bq_step (fun K hK => ?_); go_simp; refine ⟨hK _ ?_⟩; clear hK K)
  refine bq_nil ?_
  rintro _ ⟨x, rfl⟩
  obtain ⟨v6, hb⟩ := x
  dsimp only
  replace k8 := k8.low hb
  replace k10 := k10.low hb
  replace k11 := k11.low hb
  replace hB := hB.trans (hb.mono hB.size)
  replace ba := ba.trans (hb.mono ba.size)
  clear hb
  clear ca0 ca1 ca2 ca3 ca4
  clear cb0 cb1 cb2 cb3 cb4
  go_wp2_with fail
  with_reducible refine Calls.mono (hS v6).out ?_
  rintro e _ ⟨rfl, rfl⟩
  clear hS
  have ca0 := k10.cell (k := 0) rfl
  have ca1 := k10.cell (k := 1) rfl
  have ca2 := k10.cell (k := 2) rfl
  have ca3 := k10.cell (k := 3) rfl
  have ca4 := k10.cell (k := 4) rfl
  have e1 : ¬ (pe.u : Int) + 1 < 0 := by omega
  have e2 : decide ((pe.u : Int) + 1 < 0) = false := decide_eq_false e1
  have e3 : (pe.u : Int) < (pe.u : Int) + 1 := by omega
  clear hbd hlast hz hm6
  have cb0 := k8.cell (k := 0) rfl
  have cb1 := k8.cell (k := 1) rfl
  have cb2 := k8.cell (k := 2) rfl
  have cb3 := k8.cell (k := 3) rfl
  have cb4 := k8.cell (k := 4) rfl
  have nb := k8.lt
  have fb := k8.froz
  have hF := set5r k8 (.int .i64 pe.b) (.int .i64 pe.r) (.int .i64 pe.u) (.int .i64 pe.l) (.int .i64 pe.c)
  have d0 := hid (hF.cell (k := 0) rfl)
  have d1 := hid (hF.cell (k := 1) rfl)
  have d2 := hid (hF.cell (k := 2) rfl)
  have d3 := hid (hF.cell (k := 3) rfl)
  have d4 := hid (hF.cell (k := 4) rfl)
  clear hF
  go_wp2_with fail
  all_goals try rw [Exit.noGoto_ret]
  all_goals exact bodyPost_ret (v := plV pe) (by simp [results, Try.results33, go_sem, d0.out, d1.out, d2.out, d3.out, d4.out]) rfl ⟨by rw [hpe], low5r ba (Nat.le_refl _) _ _ _ _ _⟩
set_option maxRecDepth 100000 in
set_option maxHeartbeats 4000000 in
theorem rmv2_in (s : ByteArray) (at' n : Int) (w : World) (hs : s.size ≤ 65536) (h0 : 0 ≤ at') (h1 : at' ≤ s.size) {j : Nat} {p : Pl} (hat : At s Pl.b at' j p) (n0 : -9223372036854775808 ≤ n) (n1 : n ≤ 9223372036854775807) (hc0 : 0 ≤ (p.u : Int) + n) (hc1 : (p.u : Int) + n ≤ (lastP s).u) {j2 : Nat} {q : Pl} (hq : At s Pl.u ((p.u : Int) + n) j2 q) :
    Calls Try.prog 33 #[.string s, .int .i64 at', .int .i64 2, .int .i64 n] w fun e w' => e = .returned (plV (q)) ∧ Below w.heap.size w w' := by
  have hbd := pl_bd s hs hat.get
  have hlast := last_get s
  have hz := plOf_small s hs
  have hnn := hid (And.intro n0 n1)
  have hR := fun W => hid (ref_byte s at' W hs h0 h1 hat)
  have hS := fun W => hid (ref_sum (p.u : Nat) n ((lastP s).u : Nat) W (by omega) (by omega) (by omega) n0 n1)
  have hif : (if ((lastP s).u : Int) < (p.u : Int) + n then ((lastP s).u : Int) + 1 else if (p.u : Int) + n < 0 then -1 else (p.u : Int) + n) = (p.u : Int) + n := by rw [if_neg (by omega), if_neg (by omega)]
  rw [hif] at hS
  clear hif n0 n1
  go_enter Try.func33, Try.ntmps33
  go_wp2_with fail
  obtain ⟨wa, hA0⟩ : ∃ wa, w.alloc (.cells #[.int .i64 0, .int .i64 0, .int .i64 0, .int .i64 0, .int .i64 0] 33) = wa := ⟨_, rfl⟩
  have k8 : Blk wa w.heap.size 33 #[.int .i64 0, .int .i64 0, .int .i64 0, .int .i64 0, .int .i64 0] := hA0 ▸ Blk.new w _ _
  have ba : Below w.heap.size w wa := hA0 ▸ (Below.refl _ _).alloc (Nat.le_refl _) _
  rw [hA0]
  clear hA0
  have hP := hid (places_at s wa hs)
  with_reducible refine Calls.mono hP.out ?_
  rintro e w1 ⟨g, cap, rfl, hg, hpl, hb1⟩
  have nwa := k8.lt
  replace k8 := k8.low hb1
  replace ba := ba.trans (hb1.mono ba.size)
  clear hb1 hP
  obtain ⟨m, hm⟩ : ∃ m, (fin s).ps.length = m := ⟨_, rfl⟩
  have hn : (plOf s).length = m + 1 := by rw [plOf_len, hm]
  rw [hm] at hlast
  simp only [hn]
  have hgl : g < w1.heap.size := World.block_lt_of_cell? w1 _ (hpl _ _ hlast).1
  obtain ⟨y0, y1, y2, y3, y4⟩ := hpl _ _ hlast
  obtain ⟨pe, hpe⟩ : ∃ pe, lastP s = pe := ⟨_, rfl⟩
  have hHA := hid hpl
  clear hpl
  have hm6 : m ≤ 65536 := by omega
  have t1 : IntKind.i64.wrap (m : Int) = m := IntWalk.i64_in _ (by omega)
  have t2 : (0 : Int) ≤ m := by omega
  have t3 : ((m : Nat) : Int) < (m : Int) + 1 := by omega
  have t4 : ((m : Nat) : Int).toNat = m := by omega
  simp only [hpe] at hbd hS y0 y1 y2 y3 y4
  have hB : Below w1.heap.size w1 w1 := Below.refl _ _
  simp only [hpe] at hc1
  obtain ⟨N10, hN10⟩ : ∃ N, w1.heap.size = N := ⟨_, rfl⟩
  obtain ⟨v2, hA⟩ : ∃ W, w1.alloc (.cells #[.int .i64 pe.b, .int .i64 pe.r, .int .i64 pe.u, .int .i64 pe.l, .int .i64 pe.c] 33) = W := ⟨_, rfl⟩
  have k10 : Blk v2 N10 33 #[.int .i64 pe.b, .int .i64 pe.r, .int .i64 pe.u, .int .i64 pe.l, .int .i64 pe.c] := by rw [← hA, ← hN10]; exact Blk.new w1 _ _
  have hb : Below w1.heap.size w1 v2 := hA ▸ (Below.refl _ _).alloc (Nat.le_refl _) _
  have nN10 : w.heap.size < N10 := hN10 ▸ k8.lt
  replace k8 := k8.low hb
  replace hB := hB.trans (hb.mono hB.size)
  replace ba := ba.trans (hb.mono ba.size)
  clear hb
  have hA1 := hid hA
  clear hA
  go_upto_region 3 with fail
  try simp only [hN10]
  rw [hA1.out]
  clear hA1 hN10
  clear y0 y1 y2 y3 y4 t1
  go_wp2_with fail
  with_reducible refine Calls.mono (hR v2).out ?_
  rintro e v3 ⟨rfl, hb⟩
  replace k8 := k8.low hb
  replace k10 := k10.low hb
  replace hB := hB.trans (hb.mono hB.size)
  replace ba := ba.trans (hb.mono ba.size)
  clear hb
  clear hR
  obtain ⟨N11, hN11⟩ : ∃ N, v3.heap.size = N := ⟨_, rfl⟩
  obtain ⟨v4, hA⟩ : ∃ W, v3.alloc (.cells #[.int .i64 p.b, .int .i64 p.r, .int .i64 p.u, .int .i64 p.l, .int .i64 p.c] 33) = W := ⟨_, rfl⟩
  have k11 : Blk v4 N11 33 #[.int .i64 p.b, .int .i64 p.r, .int .i64 p.u, .int .i64 p.l, .int .i64 p.c] := by rw [← hA, ← hN11]; exact Blk.new v3 _ _
  have hb : Below v3.heap.size v3 v4 := hA ▸ (Below.refl _ _).alloc (Nat.le_refl _) _
  have nN11 : w.heap.size < N11 := hN11 ▸ k8.lt
  replace k8 := k8.low hb
  replace k10 := k10.low hb
  replace hB := hB.trans (hb.mono hB.size)
  replace ba := ba.trans (hb.mono ba.size)
  clear hb
  have hA1 := hid hA
  clear hA
  go_upto_region 4 with fail
  try simp only [hN11]
  rw [hA1.out]
  clear hA1 hN11
  have ca0 := k10.cell (k := 0) rfl
  have ca1 := k10.cell (k := 1) rfl
  have ca2 := k10.cell (k := 2) rfl
  have ca3 := k10.cell (k := 3) rfl
  have ca4 := k10.cell (k := 4) rfl
  have cb0 := k11.cell (k := 0) rfl
  have cb1 := k11.cell (k := 1) rfl
  have cb2 := k11.cell (k := 2) rfl
  have cb3 := k11.cell (k := 3) rfl
  have cb4 := k11.cell (k := 4) rfl
  refine ext_allB (by kernel_rfl) (by kernel_rfl) ?_
  repeat (refine bq_step (fun K hK => ?_); go_simp; refine ⟨hK _ ?_⟩; clear hK K)
  refine bq_nil ?_
  rintro _ ⟨x, rfl⟩
  obtain ⟨v5, hb⟩ := x
  dsimp only
  replace k8 := k8.low hb
  replace k10 := k10.low hb
  replace k11 := k11.low hb
  replace hB := hB.trans (hb.mono hB.size)
  replace ba := ba.trans (hb.mono ba.size)
  clear hb
  clear ca0 ca1 ca2 ca3 ca4
  clear cb0 cb1 cb2 cb3 cb4
  go_wp2_with fail
  have ca0 := k10.cell (k := 0) rfl
  have ca1 := k10.cell (k := 1) rfl
  have ca2 := k10.cell (k := 2) rfl
  have ca3 := k10.cell (k := 3) rfl
  have ca4 := k10.cell (k := 4) rfl
  have cb0 := k11.cell (k := 0) rfl
  have cb1 := k11.cell (k := 1) rfl
  have cb2 := k11.cell (k := 2) rfl
  have cb3 := k11.cell (k := 3) rfl
  have cb4 := k11.cell (k := 4) rfl
  refine ext_allB (by kernel_rfl) (by kernel_rfl) ?_
  repeat (refine bq_step (fun K hK => ?_); go_simp; refine ⟨hK _ ?_⟩; clear hK K)
  refine bq_nil ?_
  rintro _ ⟨x, rfl⟩
  obtain ⟨v6, hb⟩ := x
  dsimp only
  replace k8 := k8.low hb
  replace k10 := k10.low hb
  replace k11 := k11.low hb
  replace hB := hB.trans (hb.mono hB.size)
  replace ba := ba.trans (hb.mono ba.size)
  clear hb
  clear ca0 ca1 ca2 ca3 ca4
  clear cb0 cb1 cb2 cb3 cb4
  go_wp2_with fail
  with_reducible refine Calls.mono (hS v6).out ?_
  rintro e _ ⟨rfl, rfl⟩
  clear hS
  have e2 : decide ((p.u : Int) + n < 0) = false := decide_eq_false (by omega)
  have e3 : decide ((pe.u : Int) < (p.u : Int) + n) = false := decide_eq_false (by omega)
  have hU := fun W => hid (ref_unit s ((p.u : Int) + n) W hs hc0 (by rw [hpe]; exact hc1) hq)
  clear hc0 hc1 hbd hlast hz hm6 hq
  go_wp2_with fail
  with_reducible refine Calls.mono (hU v6).out ?_
  rintro e v7 ⟨rfl, hb⟩
  replace k8 := k8.low hb
  replace k10 := k10.low hb
  replace k11 := k11.low hb
  replace hB := hB.trans (hb.mono hB.size)
  replace ba := ba.trans (hb.mono ba.size)
  clear hb
  clear hU
  obtain ⟨N17, hN17⟩ : ∃ N, v7.heap.size = N := ⟨_, rfl⟩
  obtain ⟨v8, hA⟩ : ∃ W, v7.alloc (.cells #[.int .i64 q.b, .int .i64 q.r, .int .i64 q.u, .int .i64 q.l, .int .i64 q.c] 33) = W := ⟨_, rfl⟩
  have k17 : Blk v8 N17 33 #[.int .i64 q.b, .int .i64 q.r, .int .i64 q.u, .int .i64 q.l, .int .i64 q.c] := by rw [← hA, ← hN17]; exact Blk.new v7 _ _
  have hb : Below v7.heap.size v7 v8 := hA ▸ (Below.refl _ _).alloc (Nat.le_refl _) _
  have nN17 : w.heap.size < N17 := hN17 ▸ k8.lt
  replace k8 := k8.low hb
  replace k10 := k10.low hb
  replace k11 := k11.low hb
  replace hB := hB.trans (hb.mono hB.size)
  replace ba := ba.trans (hb.mono ba.size)
  clear hb
  have hA1 := hid hA
  clear hA
  go_upto_region 20 with fail
  try simp only [hN17]
  rw [hA1.out]
  clear hA1 hN17
  have cq0 := k17.cell (k := 0) rfl
  have cq1 := k17.cell (k := 1) rfl
  have cq2 := k17.cell (k := 2) rfl
  have cq3 := k17.cell (k := 3) rfl
  have cq4 := k17.cell (k := 4) rfl
  have cb0 := k8.cell (k := 0) rfl
  have cb1 := k8.cell (k := 1) rfl
  have cb2 := k8.cell (k := 2) rfl
  have cb3 := k8.cell (k := 3) rfl
  have cb4 := k8.cell (k := 4) rfl
  have nb := k8.lt
  have fb := k8.froz
  have hF := set5r k8 (.int .i64 q.b) (.int .i64 q.r) (.int .i64 q.u) (.int .i64 q.l) (.int .i64 q.c)
  have d0 := hid (hF.cell (k := 0) rfl)
  have d1 := hid (hF.cell (k := 1) rfl)
  have d2 := hid (hF.cell (k := 2) rfl)
  have d3 := hid (hF.cell (k := 3) rfl)
  have d4 := hid (hF.cell (k := 4) rfl)
  clear hF
  go_wp2_with fail
  all_goals try rw [Exit.noGoto_ret]
  all_goals exact bodyPost_ret (v := plV q) (by simp [results, Try.results33, go_sem, d0.out, d1.out, d2.out, d3.out, d4.out]) rfl ⟨rfl, low5r ba (Nat.le_refl _) _ _ _ _ _⟩
set_option maxRecDepth 100000 in
set_option maxHeartbeats 4000000 in
theorem rmv3_lo (s : ByteArray) (at' n : Int) (w : World) (hs : s.size ≤ 65536) (h0 : 0 ≤ at') (h1 : at' ≤ s.size) {j : Nat} {p : Pl} (hat : At s Pl.b at' j p) (n0 : -9223372036854775808 ≤ n) (n1 : n ≤ 9223372036854775807) (hc : (p.l : Int) + n < 0) {q : Pl} (hq : (plOf s)[0]? = some q) :
    Calls Try.prog 33 #[.string s, .int .i64 at', .int .i64 3, .int .i64 n] w fun e w' => e = .returned (plV (q)) ∧ Below w.heap.size w w' := by
  have hbd := pl_bd s hs hat.get
  have hlast := last_get s
  have hz := plOf_small s hs
  have hnn := hid (And.intro n0 n1)
  have hR := fun W => hid (ref_byte s at' W hs h0 h1 hat)
  have hS := fun W => hid (ref_sum (p.l : Nat) n ((lastP s).l : Nat) W (by omega) (by omega) (by omega) n0 n1)
  have hif : (if ((lastP s).l : Int) < (p.l : Int) + n then ((lastP s).l : Int) + 1 else if (p.l : Int) + n < 0 then -1 else (p.l : Int) + n) = -1 := by rw [if_neg (by omega), if_pos hc]
  rw [hif] at hS
  clear hif n0 n1
  go_enter Try.func33, Try.ntmps33
  go_wp2_with fail
  obtain ⟨wa, hA0⟩ : ∃ wa, w.alloc (.cells #[.int .i64 0, .int .i64 0, .int .i64 0, .int .i64 0, .int .i64 0] 33) = wa := ⟨_, rfl⟩
  have k8 : Blk wa w.heap.size 33 #[.int .i64 0, .int .i64 0, .int .i64 0, .int .i64 0, .int .i64 0] := hA0 ▸ Blk.new w _ _
  have ba : Below w.heap.size w wa := hA0 ▸ (Below.refl _ _).alloc (Nat.le_refl _) _
  rw [hA0]
  clear hA0
  have hP := hid (places_at s wa hs)
  with_reducible refine Calls.mono hP.out ?_
  rintro e w1 ⟨g, cap, rfl, hg, hpl, hb1⟩
  have nwa := k8.lt
  replace k8 := k8.low hb1
  replace ba := ba.trans (hb1.mono ba.size)
  clear hb1 hP
  obtain ⟨m, hm⟩ : ∃ m, (fin s).ps.length = m := ⟨_, rfl⟩
  have hn : (plOf s).length = m + 1 := by rw [plOf_len, hm]
  rw [hm] at hlast
  simp only [hn]
  have hgl : g < w1.heap.size := World.block_lt_of_cell? w1 _ (hpl _ _ hlast).1
  obtain ⟨y0, y1, y2, y3, y4⟩ := hpl _ _ hlast
  obtain ⟨pe, hpe⟩ : ∃ pe, lastP s = pe := ⟨_, rfl⟩
  have hHA := hid hpl
  clear hpl
  have hm6 : m ≤ 65536 := by omega
  have t1 : IntKind.i64.wrap (m : Int) = m := IntWalk.i64_in _ (by omega)
  have t2 : (0 : Int) ≤ m := by omega
  have t3 : ((m : Nat) : Int) < (m : Int) + 1 := by omega
  have t4 : ((m : Nat) : Int).toNat = m := by omega
  simp only [hpe] at hbd hS y0 y1 y2 y3 y4
  have hB : Below w1.heap.size w1 w1 := Below.refl _ _
  obtain ⟨N10, hN10⟩ : ∃ N, w1.heap.size = N := ⟨_, rfl⟩
  obtain ⟨v2, hA⟩ : ∃ W, w1.alloc (.cells #[.int .i64 pe.b, .int .i64 pe.r, .int .i64 pe.u, .int .i64 pe.l, .int .i64 pe.c] 33) = W := ⟨_, rfl⟩
  have k10 : Blk v2 N10 33 #[.int .i64 pe.b, .int .i64 pe.r, .int .i64 pe.u, .int .i64 pe.l, .int .i64 pe.c] := by rw [← hA, ← hN10]; exact Blk.new w1 _ _
  have hb : Below w1.heap.size w1 v2 := hA ▸ (Below.refl _ _).alloc (Nat.le_refl _) _
  have nN10 : w.heap.size < N10 := hN10 ▸ k8.lt
  replace k8 := k8.low hb
  replace hB := hB.trans (hb.mono hB.size)
  replace ba := ba.trans (hb.mono ba.size)
  clear hb
  have hA1 := hid hA
  clear hA
  go_upto_region 3 with fail
  try simp only [hN10]
  rw [hA1.out]
  clear hA1 hN10
  clear y0 y1 y2 y3 y4 t1
  go_wp2_with fail
  with_reducible refine Calls.mono (hR v2).out ?_
  rintro e v3 ⟨rfl, hb⟩
  replace k8 := k8.low hb
  replace k10 := k10.low hb
  replace hB := hB.trans (hb.mono hB.size)
  replace ba := ba.trans (hb.mono ba.size)
  clear hb
  clear hR
  obtain ⟨N11, hN11⟩ : ∃ N, v3.heap.size = N := ⟨_, rfl⟩
  obtain ⟨v4, hA⟩ : ∃ W, v3.alloc (.cells #[.int .i64 p.b, .int .i64 p.r, .int .i64 p.u, .int .i64 p.l, .int .i64 p.c] 33) = W := ⟨_, rfl⟩
  have k11 : Blk v4 N11 33 #[.int .i64 p.b, .int .i64 p.r, .int .i64 p.u, .int .i64 p.l, .int .i64 p.c] := by rw [← hA, ← hN11]; exact Blk.new v3 _ _
  have hb : Below v3.heap.size v3 v4 := hA ▸ (Below.refl _ _).alloc (Nat.le_refl _) _
  have nN11 : w.heap.size < N11 := hN11 ▸ k8.lt
  replace k8 := k8.low hb
  replace k10 := k10.low hb
  replace hB := hB.trans (hb.mono hB.size)
  replace ba := ba.trans (hb.mono ba.size)
  clear hb
  have hA1 := hid hA
  clear hA
  go_upto_region 4 with fail
  try simp only [hN11]
  rw [hA1.out]
  clear hA1 hN11
  have ca0 := k10.cell (k := 0) rfl
  have ca1 := k10.cell (k := 1) rfl
  have ca2 := k10.cell (k := 2) rfl
  have ca3 := k10.cell (k := 3) rfl
  have ca4 := k10.cell (k := 4) rfl
  have cb0 := k11.cell (k := 0) rfl
  have cb1 := k11.cell (k := 1) rfl
  have cb2 := k11.cell (k := 2) rfl
  have cb3 := k11.cell (k := 3) rfl
  have cb4 := k11.cell (k := 4) rfl
  refine ext_allB (by kernel_rfl) (by kernel_rfl) ?_
  repeat (refine bq_step (fun K hK => ?_); go_simp; refine ⟨hK _ ?_⟩; clear hK K)
  refine bq_nil ?_
  rintro _ ⟨x, rfl⟩
  obtain ⟨v5, hb⟩ := x
  dsimp only
  replace k8 := k8.low hb
  replace k10 := k10.low hb
  replace k11 := k11.low hb
  replace hB := hB.trans (hb.mono hB.size)
  replace ba := ba.trans (hb.mono ba.size)
  clear hb
  clear ca0 ca1 ca2 ca3 ca4
  clear cb0 cb1 cb2 cb3 cb4
  go_wp2_with fail
  have ca0 := k10.cell (k := 0) rfl
  have ca1 := k10.cell (k := 1) rfl
  have ca2 := k10.cell (k := 2) rfl
  have ca3 := k10.cell (k := 3) rfl
  have ca4 := k10.cell (k := 4) rfl
  have cb0 := k11.cell (k := 0) rfl
  have cb1 := k11.cell (k := 1) rfl
  have cb2 := k11.cell (k := 2) rfl
  have cb3 := k11.cell (k := 3) rfl
  have cb4 := k11.cell (k := 4) rfl
  refine ext_allB (by kernel_rfl) (by kernel_rfl) ?_
  repeat (refine bq_step (fun K hK => ?_); go_simp; refine ⟨hK _ ?_⟩; clear hK K)
  refine bq_nil ?_
  rintro _ ⟨x, rfl⟩
  obtain ⟨v6, hb⟩ := x
  dsimp only
  replace k8 := k8.low hb
  replace k10 := k10.low hb
  replace k11 := k11.low hb
  replace hB := hB.trans (hb.mono hB.size)
  replace ba := ba.trans (hb.mono ba.size)
  clear hb
  clear ca0 ca1 ca2 ca3 ca4
  clear cb0 cb1 cb2 cb3 cb4
  go_wp2_with fail
  with_reducible refine Calls.mono (hS v6).out ?_
  rintro e _ ⟨rfl, rfl⟩
  clear hS
  obtain ⟨z0, z1, z2, z3, z4⟩ := (hHA.out _ _ hq).low hB hgl
  simp only [Nat.zero_mul, Nat.zero_add] at z0 z1 z2 z3 z4
  clear hbd hlast hz hm6
  have cb0 := k8.cell (k := 0) rfl
  have cb1 := k8.cell (k := 1) rfl
  have cb2 := k8.cell (k := 2) rfl
  have cb3 := k8.cell (k := 3) rfl
  have cb4 := k8.cell (k := 4) rfl
  have nb := k8.lt
  have fb := k8.froz
  have hF := set5r k8 (.int .i64 q.b) (.int .i64 q.r) (.int .i64 q.u) (.int .i64 q.l) (.int .i64 q.c)
  have d0 := hid (hF.cell (k := 0) rfl)
  have d1 := hid (hF.cell (k := 1) rfl)
  have d2 := hid (hF.cell (k := 2) rfl)
  have d3 := hid (hF.cell (k := 3) rfl)
  have d4 := hid (hF.cell (k := 4) rfl)
  clear hF
  go_wp2_with fail
  all_goals try rw [Exit.noGoto_ret]
  all_goals exact bodyPost_ret (v := plV q) (by simp [results, Try.results33, go_sem, d0.out, d1.out, d2.out, d3.out, d4.out]) rfl ⟨rfl, low5r ba (Nat.le_refl _) _ _ _ _ _⟩
set_option maxRecDepth 100000 in
set_option maxHeartbeats 4000000 in
theorem rmv3_hi (s : ByteArray) (at' n : Int) (w : World) (hs : s.size ≤ 65536) (h0 : 0 ≤ at') (h1 : at' ≤ s.size) {j : Nat} {p : Pl} (hat : At s Pl.b at' j p) (n0 : -9223372036854775808 ≤ n) (n1 : n ≤ 9223372036854775807) (hc : ((lastP s).l : Int) < (p.l : Int) + n) :
    Calls Try.prog 33 #[.string s, .int .i64 at', .int .i64 3, .int .i64 n] w fun e w' => e = .returned (plV (lastP s)) ∧ Below w.heap.size w w' := by
  have hbd := pl_bd s hs hat.get
  have hlast := last_get s
  have hz := plOf_small s hs
  have hnn := hid (And.intro n0 n1)
  have hR := fun W => hid (ref_byte s at' W hs h0 h1 hat)
  have hS := fun W => hid (ref_sum (p.l : Nat) n ((lastP s).l : Nat) W (by omega) (by omega) (by omega) n0 n1)
  have hif : (if ((lastP s).l : Int) < (p.l : Int) + n then ((lastP s).l : Int) + 1 else if (p.l : Int) + n < 0 then -1 else (p.l : Int) + n) = ((lastP s).l : Int) + 1 := by rw [if_pos hc]
  rw [hif] at hS
  clear hif n0 n1
  go_enter Try.func33, Try.ntmps33
  go_wp2_with fail
  obtain ⟨wa, hA0⟩ : ∃ wa, w.alloc (.cells #[.int .i64 0, .int .i64 0, .int .i64 0, .int .i64 0, .int .i64 0] 33) = wa := ⟨_, rfl⟩
  have k8 : Blk wa w.heap.size 33 #[.int .i64 0, .int .i64 0, .int .i64 0, .int .i64 0, .int .i64 0] := hA0 ▸ Blk.new w _ _
  have ba : Below w.heap.size w wa := hA0 ▸ (Below.refl _ _).alloc (Nat.le_refl _) _
  rw [hA0]
  clear hA0
  have hP := hid (places_at s wa hs)
  with_reducible refine Calls.mono hP.out ?_
  rintro e w1 ⟨g, cap, rfl, hg, hpl, hb1⟩
  have nwa := k8.lt
  replace k8 := k8.low hb1
  replace ba := ba.trans (hb1.mono ba.size)
  clear hb1 hP
  obtain ⟨m, hm⟩ : ∃ m, (fin s).ps.length = m := ⟨_, rfl⟩
  have hn : (plOf s).length = m + 1 := by rw [plOf_len, hm]
  rw [hm] at hlast
  simp only [hn]
  have hgl : g < w1.heap.size := World.block_lt_of_cell? w1 _ (hpl _ _ hlast).1
  obtain ⟨y0, y1, y2, y3, y4⟩ := hpl _ _ hlast
  obtain ⟨pe, hpe⟩ : ∃ pe, lastP s = pe := ⟨_, rfl⟩
  have hHA := hid hpl
  clear hpl
  have hm6 : m ≤ 65536 := by omega
  have t1 : IntKind.i64.wrap (m : Int) = m := IntWalk.i64_in _ (by omega)
  have t2 : (0 : Int) ≤ m := by omega
  have t3 : ((m : Nat) : Int) < (m : Int) + 1 := by omega
  have t4 : ((m : Nat) : Int).toNat = m := by omega
  simp only [hpe] at hbd hS y0 y1 y2 y3 y4
  have hB : Below w1.heap.size w1 w1 := Below.refl _ _
  simp only [hpe] at hc
  obtain ⟨N10, hN10⟩ : ∃ N, w1.heap.size = N := ⟨_, rfl⟩
  obtain ⟨v2, hA⟩ : ∃ W, w1.alloc (.cells #[.int .i64 pe.b, .int .i64 pe.r, .int .i64 pe.u, .int .i64 pe.l, .int .i64 pe.c] 33) = W := ⟨_, rfl⟩
  have k10 : Blk v2 N10 33 #[.int .i64 pe.b, .int .i64 pe.r, .int .i64 pe.u, .int .i64 pe.l, .int .i64 pe.c] := by rw [← hA, ← hN10]; exact Blk.new w1 _ _
  have hb : Below w1.heap.size w1 v2 := hA ▸ (Below.refl _ _).alloc (Nat.le_refl _) _
  have nN10 : w.heap.size < N10 := hN10 ▸ k8.lt
  replace k8 := k8.low hb
  replace hB := hB.trans (hb.mono hB.size)
  replace ba := ba.trans (hb.mono ba.size)
  clear hb
  have hA1 := hid hA
  clear hA
  go_upto_region 3 with fail
  try simp only [hN10]
  rw [hA1.out]
  clear hA1 hN10
  clear y0 y1 y2 y3 y4 t1
  go_wp2_with fail
  with_reducible refine Calls.mono (hR v2).out ?_
  rintro e v3 ⟨rfl, hb⟩
  replace k8 := k8.low hb
  replace k10 := k10.low hb
  replace hB := hB.trans (hb.mono hB.size)
  replace ba := ba.trans (hb.mono ba.size)
  clear hb
  clear hR
  obtain ⟨N11, hN11⟩ : ∃ N, v3.heap.size = N := ⟨_, rfl⟩
  obtain ⟨v4, hA⟩ : ∃ W, v3.alloc (.cells #[.int .i64 p.b, .int .i64 p.r, .int .i64 p.u, .int .i64 p.l, .int .i64 p.c] 33) = W := ⟨_, rfl⟩
  have k11 : Blk v4 N11 33 #[.int .i64 p.b, .int .i64 p.r, .int .i64 p.u, .int .i64 p.l, .int .i64 p.c] := by rw [← hA, ← hN11]; exact Blk.new v3 _ _
  have hb : Below v3.heap.size v3 v4 := hA ▸ (Below.refl _ _).alloc (Nat.le_refl _) _
  have nN11 : w.heap.size < N11 := hN11 ▸ k8.lt
  replace k8 := k8.low hb
  replace k10 := k10.low hb
  replace hB := hB.trans (hb.mono hB.size)
  replace ba := ba.trans (hb.mono ba.size)
  clear hb
  have hA1 := hid hA
  clear hA
  go_upto_region 4 with fail
  try simp only [hN11]
  rw [hA1.out]
  clear hA1 hN11
  have ca0 := k10.cell (k := 0) rfl
  have ca1 := k10.cell (k := 1) rfl
  have ca2 := k10.cell (k := 2) rfl
  have ca3 := k10.cell (k := 3) rfl
  have ca4 := k10.cell (k := 4) rfl
  have cb0 := k11.cell (k := 0) rfl
  have cb1 := k11.cell (k := 1) rfl
  have cb2 := k11.cell (k := 2) rfl
  have cb3 := k11.cell (k := 3) rfl
  have cb4 := k11.cell (k := 4) rfl
  refine ext_allB (by kernel_rfl) (by kernel_rfl) ?_
  repeat (refine bq_step (fun K hK => ?_); go_simp; refine ⟨hK _ ?_⟩; clear hK K)
  refine bq_nil ?_
  rintro _ ⟨x, rfl⟩
  obtain ⟨v5, hb⟩ := x
  dsimp only
  replace k8 := k8.low hb
  replace k10 := k10.low hb
  replace k11 := k11.low hb
  replace hB := hB.trans (hb.mono hB.size)
  replace ba := ba.trans (hb.mono ba.size)
  clear hb
  clear ca0 ca1 ca2 ca3 ca4
  clear cb0 cb1 cb2 cb3 cb4
  go_wp2_with fail
  have ca0 := k10.cell (k := 0) rfl
  have ca1 := k10.cell (k := 1) rfl
  have ca2 := k10.cell (k := 2) rfl
  have ca3 := k10.cell (k := 3) rfl
  have ca4 := k10.cell (k := 4) rfl
  have cb0 := k11.cell (k := 0) rfl
  have cb1 := k11.cell (k := 1) rfl
  have cb2 := k11.cell (k := 2) rfl
  have cb3 := k11.cell (k := 3) rfl
  have cb4 := k11.cell (k := 4) rfl
  refine ext_allB (by kernel_rfl) (by kernel_rfl) ?_
  repeat (refine bq_step (fun K hK => ?_); go_simp; refine ⟨hK _ ?_⟩; clear hK K)
  refine bq_nil ?_
  rintro _ ⟨x, rfl⟩
  obtain ⟨v6, hb⟩ := x
  dsimp only
  replace k8 := k8.low hb
  replace k10 := k10.low hb
  replace k11 := k11.low hb
  replace hB := hB.trans (hb.mono hB.size)
  replace ba := ba.trans (hb.mono ba.size)
  clear hb
  clear ca0 ca1 ca2 ca3 ca4
  clear cb0 cb1 cb2 cb3 cb4
  go_wp2_with fail
  with_reducible refine Calls.mono (hS v6).out ?_
  rintro e _ ⟨rfl, rfl⟩
  clear hS
  have ca0 := k10.cell (k := 0) rfl
  have ca1 := k10.cell (k := 1) rfl
  have ca2 := k10.cell (k := 2) rfl
  have ca3 := k10.cell (k := 3) rfl
  have ca4 := k10.cell (k := 4) rfl
  have e1 : ¬ (pe.l : Int) + 1 < 0 := by omega
  have e2 : decide ((pe.l : Int) + 1 < 0) = false := decide_eq_false e1
  have e3 : (pe.l : Int) < (pe.l : Int) + 1 := by omega
  clear hbd hlast hz hm6
  have cb0 := k8.cell (k := 0) rfl
  have cb1 := k8.cell (k := 1) rfl
  have cb2 := k8.cell (k := 2) rfl
  have cb3 := k8.cell (k := 3) rfl
  have cb4 := k8.cell (k := 4) rfl
  have nb := k8.lt
  have fb := k8.froz
  have hF := set5r k8 (.int .i64 pe.b) (.int .i64 pe.r) (.int .i64 pe.u) (.int .i64 pe.l) (.int .i64 pe.c)
  have d0 := hid (hF.cell (k := 0) rfl)
  have d1 := hid (hF.cell (k := 1) rfl)
  have d2 := hid (hF.cell (k := 2) rfl)
  have d3 := hid (hF.cell (k := 3) rfl)
  have d4 := hid (hF.cell (k := 4) rfl)
  clear hF
  go_wp2_with fail
  all_goals try rw [Exit.noGoto_ret]
  all_goals exact bodyPost_ret (v := plV pe) (by simp [results, Try.results33, go_sem, d0.out, d1.out, d2.out, d3.out, d4.out]) rfl ⟨by rw [hpe], low5r ba (Nat.le_refl _) _ _ _ _ _⟩
set_option maxRecDepth 100000 in
set_option maxHeartbeats 4000000 in
theorem rmv3_in (s : ByteArray) (at' n : Int) (w : World) (hs : s.size ≤ 65536) (h0 : 0 ≤ at') (h1 : at' ≤ s.size) {j : Nat} {p : Pl} (hat : At s Pl.b at' j p) (n0 : -9223372036854775808 ≤ n) (n1 : n ≤ 9223372036854775807) (hc0 : 0 ≤ (p.l : Int) + n) (hc1 : (p.l : Int) + n ≤ (lastP s).l) {ln : Ln} {k : Nat} (hk : (p.l : Int) + n = k) (hln : (lnOf s)[k]? = some ln) {j1 : Nat} {p0 : Pl} (hp0 : At s Pl.b ln.f j1 p0) {j2 : Nat} {bh : Pl} (hbh : At s Pl.b ln.t j2 bh) (hle : p0.r ≤ bh.r) {q : Pl} (hq : (plOf s)[min (p0.r + p.c) bh.r]? = some q) (hlt : ln.f ≤ ln.t ∧ ln.t ≤ s.size) :
    Calls Try.prog 33 #[.string s, .int .i64 at', .int .i64 3, .int .i64 n] w fun e w' => e = .returned (plV (q)) ∧ Below w.heap.size w w' := by
  have hbd := pl_bd s hs hat.get
  have hlast := last_get s
  have hz := plOf_small s hs
  have hnn := hid (And.intro n0 n1)
  have hR := fun W => hid (ref_byte s at' W hs h0 h1 hat)
  have hS := fun W => hid (ref_sum (p.l : Nat) n ((lastP s).l : Nat) W (by omega) (by omega) (by omega) n0 n1)
  have hif : (if ((lastP s).l : Int) < (p.l : Int) + n then ((lastP s).l : Int) + 1 else if (p.l : Int) + n < 0 then -1 else (p.l : Int) + n) = (p.l : Int) + n := by rw [if_neg (by omega), if_neg (by omega)]
  rw [hif] at hS
  clear hif n0 n1
  go_enter Try.func33, Try.ntmps33
  go_wp2_with fail
  obtain ⟨wa, hA0⟩ : ∃ wa, w.alloc (.cells #[.int .i64 0, .int .i64 0, .int .i64 0, .int .i64 0, .int .i64 0] 33) = wa := ⟨_, rfl⟩
  have k8 : Blk wa w.heap.size 33 #[.int .i64 0, .int .i64 0, .int .i64 0, .int .i64 0, .int .i64 0] := hA0 ▸ Blk.new w _ _
  have ba : Below w.heap.size w wa := hA0 ▸ (Below.refl _ _).alloc (Nat.le_refl _) _
  rw [hA0]
  clear hA0
  have hP := hid (places_at s wa hs)
  with_reducible refine Calls.mono hP.out ?_
  rintro e w1 ⟨g, cap, rfl, hg, hpl, hb1⟩
  have nwa := k8.lt
  replace k8 := k8.low hb1
  replace ba := ba.trans (hb1.mono ba.size)
  clear hb1 hP
  obtain ⟨m, hm⟩ : ∃ m, (fin s).ps.length = m := ⟨_, rfl⟩
  have hn : (plOf s).length = m + 1 := by rw [plOf_len, hm]
  rw [hm] at hlast
  simp only [hn]
  have hgl : g < w1.heap.size := World.block_lt_of_cell? w1 _ (hpl _ _ hlast).1
  obtain ⟨y0, y1, y2, y3, y4⟩ := hpl _ _ hlast
  obtain ⟨pe, hpe⟩ : ∃ pe, lastP s = pe := ⟨_, rfl⟩
  have hHA := hid hpl
  clear hpl
  have hm6 : m ≤ 65536 := by omega
  have t1 : IntKind.i64.wrap (m : Int) = m := IntWalk.i64_in _ (by omega)
  have t2 : (0 : Int) ≤ m := by omega
  have t3 : ((m : Nat) : Int) < (m : Int) + 1 := by omega
  have t4 : ((m : Nat) : Int).toNat = m := by omega
  simp only [hpe] at hbd hS y0 y1 y2 y3 y4
  have hB : Below w1.heap.size w1 w1 := Below.refl _ _
  simp only [hpe] at hc1
  obtain ⟨N10, hN10⟩ : ∃ N, w1.heap.size = N := ⟨_, rfl⟩
  obtain ⟨v2, hA⟩ : ∃ W, w1.alloc (.cells #[.int .i64 pe.b, .int .i64 pe.r, .int .i64 pe.u, .int .i64 pe.l, .int .i64 pe.c] 33) = W := ⟨_, rfl⟩
  have k10 : Blk v2 N10 33 #[.int .i64 pe.b, .int .i64 pe.r, .int .i64 pe.u, .int .i64 pe.l, .int .i64 pe.c] := by rw [← hA, ← hN10]; exact Blk.new w1 _ _
  have hb : Below w1.heap.size w1 v2 := hA ▸ (Below.refl _ _).alloc (Nat.le_refl _) _
  have nN10 : w.heap.size < N10 := hN10 ▸ k8.lt
  replace k8 := k8.low hb
  replace hB := hB.trans (hb.mono hB.size)
  replace ba := ba.trans (hb.mono ba.size)
  clear hb
  have hA1 := hid hA
  clear hA
  go_upto_region 3 with fail
  try simp only [hN10]
  rw [hA1.out]
  clear hA1 hN10
  clear y0 y1 y2 y3 y4 t1
  go_wp2_with fail
  with_reducible refine Calls.mono (hR v2).out ?_
  rintro e v3 ⟨rfl, hb⟩
  replace k8 := k8.low hb
  replace k10 := k10.low hb
  replace hB := hB.trans (hb.mono hB.size)
  replace ba := ba.trans (hb.mono ba.size)
  clear hb
  clear hR
  obtain ⟨N11, hN11⟩ : ∃ N, v3.heap.size = N := ⟨_, rfl⟩
  obtain ⟨v4, hA⟩ : ∃ W, v3.alloc (.cells #[.int .i64 p.b, .int .i64 p.r, .int .i64 p.u, .int .i64 p.l, .int .i64 p.c] 33) = W := ⟨_, rfl⟩
  have k11 : Blk v4 N11 33 #[.int .i64 p.b, .int .i64 p.r, .int .i64 p.u, .int .i64 p.l, .int .i64 p.c] := by rw [← hA, ← hN11]; exact Blk.new v3 _ _
  have hb : Below v3.heap.size v3 v4 := hA ▸ (Below.refl _ _).alloc (Nat.le_refl _) _
  have nN11 : w.heap.size < N11 := hN11 ▸ k8.lt
  replace k8 := k8.low hb
  replace k10 := k10.low hb
  replace hB := hB.trans (hb.mono hB.size)
  replace ba := ba.trans (hb.mono ba.size)
  clear hb
  have hA1 := hid hA
  clear hA
  go_upto_region 4 with fail
  try simp only [hN11]
  rw [hA1.out]
  clear hA1 hN11
  have ca0 := k10.cell (k := 0) rfl
  have ca1 := k10.cell (k := 1) rfl
  have ca2 := k10.cell (k := 2) rfl
  have ca3 := k10.cell (k := 3) rfl
  have ca4 := k10.cell (k := 4) rfl
  have cb0 := k11.cell (k := 0) rfl
  have cb1 := k11.cell (k := 1) rfl
  have cb2 := k11.cell (k := 2) rfl
  have cb3 := k11.cell (k := 3) rfl
  have cb4 := k11.cell (k := 4) rfl
  refine ext_allB (by kernel_rfl) (by kernel_rfl) ?_
  repeat (refine bq_step (fun K hK => ?_); go_simp; refine ⟨hK _ ?_⟩; clear hK K)
  refine bq_nil ?_
  rintro _ ⟨x, rfl⟩
  obtain ⟨v5, hb⟩ := x
  dsimp only
  replace k8 := k8.low hb
  replace k10 := k10.low hb
  replace k11 := k11.low hb
  replace hB := hB.trans (hb.mono hB.size)
  replace ba := ba.trans (hb.mono ba.size)
  clear hb
  clear ca0 ca1 ca2 ca3 ca4
  clear cb0 cb1 cb2 cb3 cb4
  go_wp2_with fail
  have ca0 := k10.cell (k := 0) rfl
  have ca1 := k10.cell (k := 1) rfl
  have ca2 := k10.cell (k := 2) rfl
  have ca3 := k10.cell (k := 3) rfl
  have ca4 := k10.cell (k := 4) rfl
  have cb0 := k11.cell (k := 0) rfl
  have cb1 := k11.cell (k := 1) rfl
  have cb2 := k11.cell (k := 2) rfl
  have cb3 := k11.cell (k := 3) rfl
  have cb4 := k11.cell (k := 4) rfl
  refine ext_allB (by kernel_rfl) (by kernel_rfl) ?_
  repeat (refine bq_step (fun K hK => ?_); go_simp; refine ⟨hK _ ?_⟩; clear hK K)
  refine bq_nil ?_
  rintro _ ⟨x, rfl⟩
  obtain ⟨v6, hb⟩ := x
  dsimp only
  replace k8 := k8.low hb
  replace k10 := k10.low hb
  replace k11 := k11.low hb
  replace hB := hB.trans (hb.mono hB.size)
  replace ba := ba.trans (hb.mono ba.size)
  clear hb
  clear ca0 ca1 ca2 ca3 ca4
  clear cb0 cb1 cb2 cb3 cb4
  go_wp2_with fail
  with_reducible refine Calls.mono (hS v6).out ?_
  rintro e _ ⟨rfl, rfl⟩
  clear hS
  have e2 : decide ((p.l : Int) + n < 0) = false := decide_eq_false (by omega)
  have e3 : decide ((pe.l : Int) < (p.l : Int) + n) = false := decide_eq_false (by omega)
  simp only [hk] at e2 e3 hc1 ⊢
  have e3n : decide (pe.l < k) = false := decide_eq_false (by omega)
  have hSp := fun W => hid (ref_span s W hs hln)
  have hF0 := fun W => hid (ref_byte s ln.f W hs (by omega) (by omega) hp0)
  have hF1 := fun W => hid (ref_byte s ln.t W hs (by omega) (by omega) hbh)
  have hb1 := pl_bd s hs hp0.get
  have hb2 := pl_bd s hs hbh.get
  have hql := (List.getElem?_eq_some_iff.1 hq).1
  rw [hn] at hql
  obtain ⟨z0, z1, z2, z3, z4⟩ := (hHA.out _ _ hq)
  have e6 : IntKind.i64.wrap ((bh.r : Int) - p0.r) = (bh.r : Int) - p0.r := IntWalk.i64_in _ (by omega)
  clear hc0 hc1 hlast hq
  go_wp2_with fail
  with_reducible refine Calls.mono (hSp v6).out ?_
  rintro e v7 ⟨rfl, hb⟩
  replace k8 := k8.low hb
  replace k10 := k10.low hb
  replace k11 := k11.low hb
  replace hB := hB.trans (hb.mono hB.size)
  replace ba := ba.trans (hb.mono ba.size)
  clear hb
  clear hSp
  obtain ⟨N20, hN20⟩ : ∃ N, v7.heap.size = N := ⟨_, rfl⟩
  obtain ⟨v8, hA⟩ : ∃ W, v7.alloc (.cells #[.int .i64 ln.f, .int .i64 ln.t] 29) = W := ⟨_, rfl⟩
  have k20 : Blk v8 N20 29 #[.int .i64 ln.f, .int .i64 ln.t] := by rw [← hA, ← hN20]; exact Blk.new v7 _ _
  have hb : Below v7.heap.size v7 v8 := hA ▸ (Below.refl _ _).alloc (Nat.le_refl _) _
  have nN20 : w.heap.size < N20 := hN20 ▸ k8.lt
  replace k8 := k8.low hb
  replace k10 := k10.low hb
  replace k11 := k11.low hb
  replace hB := hB.trans (hb.mono hB.size)
  replace ba := ba.trans (hb.mono ba.size)
  clear hb
  have hA1 := hid hA
  clear hA
  go_upto_region 22 with fail
  try simp only [hN20]
  rw [hA1.out]
  clear hA1 hN20
  have cs0 := k20.cell (k := 0) rfl
  have cs1 := k20.cell (k := 1) rfl
  go_wp2_with fail
  with_reducible refine Calls.mono (hF0 v8).out ?_
  rintro e v9 ⟨rfl, hb⟩
  replace k8 := k8.low hb
  replace k10 := k10.low hb
  replace k11 := k11.low hb
  replace k20 := k20.low hb
  replace hB := hB.trans (hb.mono hB.size)
  replace ba := ba.trans (hb.mono ba.size)
  clear hb
  clear hF0
  clear cs0 cs1
  obtain ⟨N23, hN23⟩ : ∃ N, v9.heap.size = N := ⟨_, rfl⟩
  obtain ⟨v10, hA⟩ : ∃ W, v9.alloc (.cells #[.int .i64 p0.b, .int .i64 p0.r, .int .i64 p0.u, .int .i64 p0.l, .int .i64 p0.c] 33) = W := ⟨_, rfl⟩
  have k23 : Blk v10 N23 33 #[.int .i64 p0.b, .int .i64 p0.r, .int .i64 p0.u, .int .i64 p0.l, .int .i64 p0.c] := by rw [← hA, ← hN23]; exact Blk.new v9 _ _
  have hb : Below v9.heap.size v9 v10 := hA ▸ (Below.refl _ _).alloc (Nat.le_refl _) _
  have nN23 : w.heap.size < N23 := hN23 ▸ k8.lt
  replace k8 := k8.low hb
  replace k10 := k10.low hb
  replace k11 := k11.low hb
  replace k20 := k20.low hb
  replace hB := hB.trans (hb.mono hB.size)
  replace ba := ba.trans (hb.mono ba.size)
  clear hb
  have hA1 := hid hA
  clear hA
  go_upto_region 23 with fail
  try simp only [hN23]
  rw [hA1.out]
  clear hA1 hN23
  have cs0 := k20.cell (k := 0) rfl
  have cs1 := k20.cell (k := 1) rfl
  go_wp2_with fail
  with_reducible refine Calls.mono (hF1 v10).out ?_
  rintro e v11 ⟨rfl, hb⟩
  replace k8 := k8.low hb
  replace k10 := k10.low hb
  replace k11 := k11.low hb
  replace k20 := k20.low hb
  replace k23 := k23.low hb
  replace hB := hB.trans (hb.mono hB.size)
  replace ba := ba.trans (hb.mono ba.size)
  clear hb
  clear hF1
  clear cs0 cs1
  obtain ⟨N26, hN26⟩ : ∃ N, v11.heap.size = N := ⟨_, rfl⟩
  obtain ⟨v12, hA⟩ : ∃ W, v11.alloc (.cells #[.int .i64 bh.b, .int .i64 bh.r, .int .i64 bh.u, .int .i64 bh.l, .int .i64 bh.c] 33) = W := ⟨_, rfl⟩
  have k26 : Blk v12 N26 33 #[.int .i64 bh.b, .int .i64 bh.r, .int .i64 bh.u, .int .i64 bh.l, .int .i64 bh.c] := by rw [← hA, ← hN26]; exact Blk.new v11 _ _
  have hb : Below v11.heap.size v11 v12 := hA ▸ (Below.refl _ _).alloc (Nat.le_refl _) _
  have nN26 : w.heap.size < N26 := hN26 ▸ k8.lt
  replace k8 := k8.low hb
  replace k10 := k10.low hb
  replace k11 := k11.low hb
  replace k20 := k20.low hb
  replace k23 := k23.low hb
  replace hB := hB.trans (hb.mono hB.size)
  replace ba := ba.trans (hb.mono ba.size)
  clear hb
  have hA1 := hid hA
  clear hA
  go_upto_region 24 with fail
  try simp only [hN26]
  rw [hA1.out]
  clear hA1 hN26
  have hPA : PlAt w1 g (min (p0.r + p.c) bh.r) q := ⟨z0, z1, z2, z3, z4⟩
  clear z0 z1 z2 z3 z4
  obtain ⟨z0, z1, z2, z3, z4⟩ := hPA.low hB hgl
  have gP := hid hPA
  clear hPA gP
  have ca0 := k23.cell (k := 0) rfl
  have ca1 := k23.cell (k := 1) rfl
  have ca2 := k23.cell (k := 2) rfl
  have ca3 := k23.cell (k := 3) rfl
  have ca4 := k23.cell (k := 4) rfl
  have cc0 := k26.cell (k := 0) rfl
  have cc1 := k26.cell (k := 1) rfl
  have cc2 := k26.cell (k := 2) rfl
  have cc3 := k26.cell (k := 3) rfl
  have cc4 := k26.cell (k := 4) rfl
  have cp4 := k11.cell (k := 4) rfl
  rcases Nat.lt_or_ge (bh.r - p0.r) p.c with hx | hx
  · have e7 : decide ((bh.r : Int) - p0.r < (p.c : Int)) = true := decide_eq_true (by omega)
    have e8 : (bh.r : Int) - p0.r < (p.c : Int) := by omega
    have e9 : IntKind.i64.wrap ((p0.r : Int) + ((bh.r : Int) - p0.r)) = (bh.r : Nat) := by rw [IntWalk.i64_in _ (by omega)]; omega
    have e10 : min (p0.r + p.c) bh.r = bh.r := by omega
    rw [e10] at z0 z1 z2 z3 z4 hql
    have e11 : (bh.r : Int) < (m : Int) + 1 := by omega
    have e12 : ((bh.r : Nat) : Int).toNat = bh.r := Int.toNat_natCast _
    have e13 : (0 : Int) ≤ bh.r := by omega
    clear hbd hb1 hb2 hz hm6 hx hql hlt hle hk hp0 hbh hln e10
    have cb0 := k8.cell (k := 0) rfl
    have cb1 := k8.cell (k := 1) rfl
    have cb2 := k8.cell (k := 2) rfl
    have cb3 := k8.cell (k := 3) rfl
    have cb4 := k8.cell (k := 4) rfl
    have nb := k8.lt
    have fb := k8.froz
    have hF := set5r k8 (.int .i64 q.b) (.int .i64 q.r) (.int .i64 q.u) (.int .i64 q.l) (.int .i64 q.c)
    have d0 := hid (hF.cell (k := 0) rfl)
    have d1 := hid (hF.cell (k := 1) rfl)
    have d2 := hid (hF.cell (k := 2) rfl)
    have d3 := hid (hF.cell (k := 3) rfl)
    have d4 := hid (hF.cell (k := 4) rfl)
    clear hF
    go_wp2_with fail
    all_goals try rw [Exit.noGoto_ret]
    all_goals exact bodyPost_ret (v := plV q) (by simp [results, Try.results33, go_sem, d0.out, d1.out, d2.out, d3.out, d4.out]) rfl ⟨rfl, low5r ba (Nat.le_refl _) _ _ _ _ _⟩
  · have e7 : decide ((bh.r : Int) - p0.r < (p.c : Int)) = false := decide_eq_false (by omega)
    have e8 : ¬ (bh.r : Int) - p0.r < (p.c : Int) := by omega
    have e9 : IntKind.i64.wrap ((p0.r : Int) + (p.c : Int)) = ((p0.r + p.c : Nat) : Int) := by rw [IntWalk.i64_in _ (by omega)]; omega
    have e10 : min (p0.r + p.c) bh.r = p0.r + p.c := by omega
    rw [e10] at z0 z1 z2 z3 z4 hql
    have e11 : (((p0.r + p.c : Nat) : Int)) < (m : Int) + 1 := by omega
    have e12 : (((p0.r + p.c : Nat)) : Int).toNat = p0.r + p.c := Int.toNat_natCast _
    have e13 : (0 : Int) ≤ ((p0.r + p.c : Nat) : Int) := by omega
    obtain ⟨rc, hrc⟩ : ∃ rc, p0.r + p.c = rc := ⟨_, rfl⟩
    rw [hrc] at e9 e11 e12 e13 z0 z1 z2 z3 z4
    clear hbd hb1 hb2 hz hm6 hx hql hlt hle hk hp0 hbh hln e10 hrc
    have cb0 := k8.cell (k := 0) rfl
    have cb1 := k8.cell (k := 1) rfl
    have cb2 := k8.cell (k := 2) rfl
    have cb3 := k8.cell (k := 3) rfl
    have cb4 := k8.cell (k := 4) rfl
    have nb := k8.lt
    have fb := k8.froz
    have hF := set5r k8 (.int .i64 q.b) (.int .i64 q.r) (.int .i64 q.u) (.int .i64 q.l) (.int .i64 q.c)
    have d0 := hid (hF.cell (k := 0) rfl)
    have d1 := hid (hF.cell (k := 1) rfl)
    have d2 := hid (hF.cell (k := 2) rfl)
    have d3 := hid (hF.cell (k := 3) rfl)
    have d4 := hid (hF.cell (k := 4) rfl)
    clear hF
    go_wp2_with fail
    all_goals try rw [Exit.noGoto_ret]
    all_goals exact bodyPost_ret (v := plV q) (by simp [results, Try.results33, go_sem, d0.out, d1.out, d2.out, d3.out, d4.out]) rfl ⟨rfl, low5r ba (Nat.le_refl _) _ _ _ _ _⟩
end Go.Proofs.Ytkobfjiadfedlaa
