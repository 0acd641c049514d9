/- PlaceTells, walked: what a map answers at any five numbers, and what the document answers. Conditions: none but the length that a string may have. -/
import Derived.Test.YtkobfjiadfedlaaPlRh
import Derived.Test.YtkobfjiadfedlaaQv
import Derived.WalkSpells
import Derived.WalkLawsBesides
import Derived.Deep.QuietTactic
import Derived.BigQuiet
import Derived.Deep.DeepCutAuto
namespace Go.Proofs.Ytkobfjiadfedlaa
open Go.RowKit Go.Shelf
set_option linter.unusedVariables false
set_option linter.unusedSimpArgs false
attribute [local go_sem] Oper.semAt_some
attribute [local go_sem] Ext.cell Ext.froz
theorem set5o {W : World} {B B' : Nat} {t : TypeId} {c : Array Value} (h : Blk W B' t c) (hne : B' ≠ B) (b0 b1 b2 b3 b4 : Value) :
    Blk (((((W.setCell ⟨B, 0, none⟩ b0).setCell ⟨B, 1, none⟩ b1).setCell ⟨B, 2, none⟩ b2).setCell ⟨B, 3, none⟩ b3).setCell ⟨B, 4, none⟩ b4) B' t c := ((((h.other hne b0).other hne b1).other hne b2).other hne b3).other hne b4
set_option maxRecDepth 100000 in
set_option maxHeartbeats 4000000 in
theorem tells_long (s : ByteArray) (x0 x1 x2 x3 x4 : Int) (w : World) (hs : 65536 < s.size) (hm : s.size ≤ maxLen) :
    Calls Try.prog 8 #[.string s, agg5 x0 x1 x2 x3 x4] w fun e w' => e = .returned (.bool true) ∧ Below w.heap.size w w' := by
  have d0 : decide ((65536:Int) < s.size) = true := decide_eq_true (by omega)
  go_enter Try.func8, Try.ntmps8
  go_wp2_with fail
  obtain ⟨wz, hZ⟩ : ∃ wz, w.alloc (.cells #[.int .i64 x0, .int .i64 x1, .int .i64 x2, .int .i64 x3, .int .i64 x4] 53) = wz := ⟨_, rfl⟩
  have bz : Below w.heap.size w wz := hZ ▸ (Below.refl _ _).alloc (Nat.le_refl _) _
  have sz : wz.heap.size = w.heap.size + 1 := by rw [← hZ]; simp
  rw [hZ]
  clear hZ
  obtain ⟨wa, hA⟩ : ∃ wa, wz.alloc (.cells #[.bool false] 4) = wa := ⟨_, rfl⟩
  have k2 : Blk wa (w.heap.size + 1) 4 #[.bool false] := by rw [← sz]; exact hA ▸ Blk.new wz _ _
  have ba : Below w.heap.size w wa := hA ▸ bz.alloc bz.size _
  rw [hA]
  clear hA bz sz
  have hW := hid (works_any wa)
  with_reducible refine Calls.mono hW.out ?_
  rintro e w1 ⟨rfl, hb1⟩
  replace k2 := k2.low hb1
  replace ba := ba.trans (hb1.mono ba.size)
  clear hb1 hW
  go_wp2_with fail
  have hN := hid (new_long s w1 hs hm)
  with_reducible refine Calls.mono hN.out ?_
  rintro e w2 ⟨rfl, hb2⟩
  replace k2 := k2.low hb2
  replace ba := ba.trans (hb2.mono ba.size)
  clear hb2 hN
  go_wp2_with fail
  have hW := hid (works_any w2)
  with_reducible refine Calls.mono hW.out ?_
  rintro e w4 ⟨rfl, hb4⟩
  replace k2 := k2.low hb4
  replace ba := ba.trans (hb4.mono ba.size)
  clear hb4 hW
  have c2 := k2.cell (k := 0) rfl
  have n2 := k2.lt
  have f2 := k2.froz 0
  go_wp2_with fail
  try rw [Exit.noGoto_ret]
  have hcc : (w4.setCell ⟨w.heap.size + 1, 0, none⟩ (.bool true)).cell? ⟨w.heap.size + 1, 0, none⟩ = some (.bool true) := World.cell?_setCell_same' _ _ _ (by rw [c2]; rfl)
  exact bodyPost_ret (v := .bool true) (by simp [results, Try.results8, go_sem, hcc]) rfl ⟨rfl, ba.setCell (p := ⟨w.heap.size + 1, 0, none⟩) (Nat.le_succ _) _⟩
set_option maxRecDepth 100000 in
set_option maxHeartbeats 8000000 in
theorem tells_main (s : ByteArray) (x0 x1 x2 x3 x4 : Int) (w : World) (hs : s.size ≤ 65536) :
    Calls Try.prog 8 #[.string s, agg5 x0 x1 x2 x3 x4] w fun e w' => e = .returned (.bool true) ∧ Below w.heap.size w w' := by
  obtain ⟨pa0, pa1, pa2, pa3, pa4, pad, pae, pak, hpa, hpa1, hpa2⟩ := pair_byte s hs x0
  obtain ⟨pb0, pb1, pb2, pb3, pb4, pbe, pbk, hpb, hpb1, hpb2⟩ := pair_rune s hs x1
  obtain ⟨pc0, pc1, pc2, pc3, pc4, pcd, pce, pck, hpc, hpc1, hpc2⟩ := pair_unit s hs x2
  obtain ⟨pd0, pd1, pd2, pd3, pd4, pde, pdk, hpd, hpd1, hpd2⟩ := pair_line s hs x3 x4
  obtain ⟨pe0, pe1, ped, pee, pek, hpe, hpe1, hpe2⟩ := pair_span s hs x3
  replace hpa := hid hpa
  replace hpb := hid hpb
  replace hpc := hid hpc
  replace hpd := hid hpd
  replace hpe := hid hpe
  replace hpa1 := hid hpa1
  replace hpb1 := hid hpb1
  replace hpc1 := hid hpc1
  replace hpd1 := hid hpd1
  replace hpe1 := hid hpe1
  replace hpa2 := hid hpa2
  replace hpb2 := hid hpb2
  replace hpc2 := hid hpc2
  replace hpd2 := hid hpd2
  replace hpe2 := hid hpe2
  refine (callsIn_wide (n := 9)).1 ?_
  refine callsIn_of_wp_marks Try.func8 rfl trivial ?_ rfl
  simp only [Try.ntmps8, List.size_toArray, List.length_cons, List.length_nil, Nat.reduceAdd, Nat.reduceSub, Array.replicate_succ, Array.replicate_zero, List.push_toArray, List.append_toArray, List.nil_append, List.cons_append]
  refine wpIn_wide.2 ?_
  go_wp2_with fail
  obtain ⟨wz, hZ⟩ : ∃ wz, w.alloc (.cells #[.int .i64 x0, .int .i64 x1, .int .i64 x2, .int .i64 x3, .int .i64 x4] 53) = wz := ⟨_, rfl⟩
  have bz : Below w.heap.size w wz := hZ ▸ (Below.refl _ _).alloc (Nat.le_refl _) _
  have k3 : Blk wz w.heap.size 53 #[.int .i64 x0, .int .i64 x1, .int .i64 x2, .int .i64 x3, .int .i64 x4] := hZ ▸ Blk.new w _ _
  have sz : wz.heap.size = w.heap.size + 1 := by rw [← hZ]; simp
  rw [hZ]
  clear hZ
  obtain ⟨wa, hA⟩ : ∃ wa, wz.alloc (.cells #[.bool false] 4) = wa := ⟨_, rfl⟩
  have k4 : Blk wa (w.heap.size + 1) 4 #[.bool false] := by rw [← sz]; exact hA ▸ Blk.new wz _ _
  have ba : Below w.heap.size w wa := hA ▸ bz.alloc bz.size _
  replace k3 := k3.low (W' := wa) (hA ▸ (Below.refl _ _).alloc (Nat.le_refl _) _)
  rw [hA]
  clear hA bz sz
  have hW := hid (works_any wa)
  with_reducible refine Calls.mono hW.out ?_
  rintro e w1 ⟨rfl, hb1⟩
  replace k3 := k3.low hb1
  replace k4 := k4.low hb1
  replace ba := ba.trans (hb1.mono ba.size)
  clear hb1 hW
  go_wp2_with fail
  have hN := hid (new_map s w1 hs)
  with_reducible refine Calls.mono hN.out ?_
  rintro e w2 ⟨b, rfl, hm, hb2⟩
  replace k3 := k3.low hb2
  replace k4 := k4.low hb2
  replace ba := ba.trans (hb2.mono ba.size)
  have nw := k4.lt
  clear hb2 hN
  have dl : decide ((65536:Int) < s.size) = false := decide_eq_false (by omega)
  go_wp2_with fail
  have hP := hid (places_at s w2 hs)
  with_reducible refine Calls.mono hP.out ?_
  rintro e w3 ⟨g, cap, rfl, hg, hpl, hb3⟩
  replace k3 := k3.low hb3
  replace k4 := k4.low hb3
  replace hm := hm.below hb3
  replace ba := ba.trans (hb3.mono ba.size)
  clear hb3 hP
  obtain ⟨m, hmm⟩ : ∃ m, (fin s).ps.length = m := ⟨_, rfl⟩
  have hn : (plOf s).length = m + 1 := by rw [plOf_len, hmm]
  have hlast : (plOf s)[m]? = some (lastP s) := by rw [← hmm]; exact last_get s
  have hm6 : m ≤ 65536 := by have := plOf_small s hs; omega
  simp only [hn]
  have hgl : g < w3.heap.size := World.block_lt_of_cell? w3 _ (hpl _ _ hlast).1
  go_upto_region 7 with fail
  obtain ⟨N7, hN7⟩ : ∃ N7, w3.heap.size = N7 := ⟨_, rfl⟩
  obtain ⟨w4, hA⟩ : ∃ w4, w3.alloc (.cells #[.slice (some ⟨g, 0, none⟩) (m + 1) cap] 54) = w4 := ⟨_, rfl⟩
  have k7 : Blk w4 N7 54 #[.slice (some ⟨g, 0, none⟩) (m + 1) cap] := by rw [← hA, ← hN7]; exact Blk.new w3 _ _
  have hb4 : Below w3.heap.size w3 w4 := hA ▸ (Below.refl _ _).alloc (Nat.le_refl _) _
  replace k3 := k3.low hb4
  replace k4 := k4.low hb4
  replace hm := hm.below hb4
  replace ba := ba.trans (hb4.mono ba.size)
  have hpl4 : Hid (∀ k p, (plOf s)[k]? = some p → PlAt w4 g k p) := hid fun k p h => (hpl k p h).low hb4 hgl
  have hg7 : g < N7 := hN7 ▸ hgl
  have h37 : w.heap.size + 1 < N7 := by have := hb4.size; have := hg; omega
  simp only [hN7]
  rw [hA]
  clear hA hb4 hpl hgl hN7
  have hx0 := hid (hpl4.out _ _ hlast)
  have hl2 := hid (lnOf_len s)
  have hT : Hid (∀ x : Ext w4, Calls Try.prog 25 #[.pointer (some ⟨b, 0, none⟩)] x.w fun e w' => e = .returned (.string s) ∧ Below x.w.heap.size x.w w') := fun x => by
    obtain ⟨pb, pc, lb, lc, h⟩ := hm.below x.h
    exact (text_any h).mono fun e w' hh => ⟨hh.1, hh.2 ▸ Below.refl _ _⟩
  have hE : Hid (∀ x : Ext w4, Calls Try.prog 21 #[.pointer (some ⟨b, 0, none⟩)] x.w fun e w' => e = .returned (plV (lastP s)) ∧ Below x.w.heap.size x.w w') := fun x => own_end (hm.below x.h) hs
  have hL : Hid (∀ x : Ext w4, Calls Try.prog 14 #[.pointer (some ⟨b, 0, none⟩)] x.w fun e w' => e = .returned (.int .i64 (((fin s).ls.length + 1 : Nat) : Int)) ∧ Below x.w.heap.size x.w w') := fun x => by
    obtain ⟨pb, pc, lb, lc, h⟩ := hm.below x.h
    exact (lines_any h).mono fun e w' hh => ⟨by rw [hh.1, hl2.out], hh.2 ▸ Below.refl _ _⟩
  have hD : Hid (∀ x : Ext w4, Calls Try.prog 26 #[.string s] x.w fun e w' => ∃ gE cap, e = .returned (.slice gE (fin s).ls.length cap) ∧ Below x.w.heap.size x.w w') := fun x => (ends_at s x.w hs).mono fun e w' ⟨gE, cap, h1, _, h2⟩ => ⟨gE, cap, h1, h2⟩
  have hml : (fin s).ls.length ≤ 65537 := by have := (fin_ok s).ll; omega
  obtain ⟨p, hp⟩ : ∃ p, lastP s = p := ⟨_, rfl⟩
  obtain ⟨nl, hnl⟩ : ∃ nl, (fin s).ls.length = nl := ⟨_, rfl⟩
  rw [hnl] at hL hD hml
  rw [hp] at hE hx0 hlast
  clear hp hnl hl2
  obtain ⟨c60, c61, c62, c63, c64⟩ := hx0.out
  have t1 : IntKind.i64.wrap (m : Int) = m := IntWalk.i64_in _ (by omega)
  have t2 : (0 : Int) ≤ m := by omega
  have t3 : ((m : Nat) : Int) < (m : Int) + 1 := by omega
  have t4 : ((m : Nat) : Int).toNat = m := by omega
  have t5 : IntKind.i64.wrap ((nl : Int) + 1) = (nl : Int) + 1 := IntWalk.i64_in _ (by omega)
  have c7 := k7.cell (k := 0) rfl
  refine ext_someV (fun f => f == 26) (fun _ v => ∃ gE c, v = .slice gE nl c) (fun f _ => if f = 21 then plV p else if f = 25 then .string s else .int .i64 ((nl + 1 : Nat) : Int)) 31 (by kernel_rfl) (by kernel_rfl) ?_
  simp only [List.take_succ_cons, List.take_zero, List.drop_succ_cons, List.drop_zero]
  iterate 8 (refine bs_stepV (fun K hK => ?_); go_simp; refine ⟨hK _ ?_⟩; clear hK K)
  refine bs_stepV (fun K hK => ?_)
  go_simp
  refine ⟨⟨_, fun x => ⟨rfl, ?_⟩, hK _ ?_⟩⟩
  · with_reducible exact Ext.call (hT.out _)
  clear hK K
  iterate 5 (refine bs_stepV (fun K hK => ?_); go_simp; refine ⟨hK _ ?_⟩; clear hK K)
  refine bs_stepV (fun K hK => ?_)
  go_simp
  refine ⟨⟨_, fun x => ⟨rfl, ?_⟩, hK _ ?_⟩⟩
  · with_reducible exact Ext.call (hE.out _)
  clear hK K
  iterate 10 (refine bs_stepV (fun K hK => ?_); go_simp; refine ⟨hK _ ?_⟩; clear hK K)
  refine bs_stepV (fun K hK => ?_)
  go_simp
  refine ⟨⟨_, fun x => ⟨rfl, ?_⟩, hK _ ?_⟩⟩
  · with_reducible exact Ext.call (hL.out _)
  clear hK K
  iterate 1 (refine bs_stepV (fun K hK => ?_); go_simp; refine ⟨hK _ ?_⟩; clear hK K)
  refine bs_someV (fun v => ∃ gE c, v = .slice gE nl c) ⟨.slice none nl 0, _, _, rfl⟩ rfl ?_ ?_
  · rintro w' ⟨x, rfl⟩
    go_simp
    refine ⟨⟨x, rfl⟩, rfl, ⟨.slice none nl 0, _, _, rfl⟩, ?_⟩
    refine Calls.mono (hD.out x) ?_
    rintro e w' ⟨gE, c, rfl, hbx⟩
    exact ⟨_, rfl, ⟨_, _, rfl⟩, ⟨⟨_, x.h.trans (hbx.mono x.h.size)⟩, rfl⟩⟩
  rintro v ⟨gE, c, rfl⟩
  dsimp only [Act.put, List.setIfInBounds_toArray, List.set_cons_succ, List.set_cons_zero]
  iterate 3 (refine bs_stepV (fun K hK => ?_); go_simp; refine ⟨hK _ ?_⟩; clear hK K)
  refine bs_nilV ?_
  rintro _ ⟨x, rfl⟩
  replace k3 := k3.low x.h
  replace k4 := k4.low x.h
  replace k7 := k7.low x.h
  replace hm := hm.below x.h
  replace ba := ba.trans (x.h.mono ba.size)
  have hpl5 : Hid (∀ k p, (plOf s)[k]? = some p → PlAt x.w g k p) := hid fun k p h => (hpl4.out k p h).low x.h (by have := k7.lt; exact World.block_lt_of_cell? w4 _ c60)
  have hN7 := k7.lt
  have hst := hid (hpa1.out x.w b hm)
  generalize x.w = w5 at *
  clear x
  have hB : Below w5.heap.size w5 w5 := Below.refl _ _
  clear hst hT hE hL hD hx0 c7 c60 c61 c62 c63 c64 hlast hpl4 t5 hml
  have hX := hid (hpa1.out w5 b (hm.below hB))
  have k3w := k3.low hB
  have c30 := k3w.cell (k := 0) rfl
  have c31 := k3w.cell (k := 1) rfl
  have c32 := k3w.cell (k := 2) rfl
  have c33 := k3w.cell (k := 3) rfl
  have c34 := k3w.cell (k := 4) rfl
  clear k3w
  go_wp2_with fail
  clear c30 c31 c32 c33 c34
  with_reducible refine Calls.mono hX.out ?_
  rintro e hpaw1 ⟨rfl, hb⟩
  replace hB := hB.trans (hb.mono hB.size)
  clear hb hX hpa1
  obtain ⟨N8, hN8⟩ : ∃ N, hpaw1.heap.size = N := ⟨_, rfl⟩
  obtain ⟨hpaw2, hA⟩ : ∃ W, hpaw1.alloc (.cells #[.int .i64 pa0, .int .i64 pa1, .int .i64 pa2, .int .i64 pa3, .int .i64 pa4] 33) = W := ⟨_, rfl⟩
  have k8 : Blk hpaw2 N8 33 #[.int .i64 pa0, .int .i64 pa1, .int .i64 pa2, .int .i64 pa3, .int .i64 pa4] := by rw [← hA, ← hN8]; exact Blk.new hpaw1 _ _
  have hb : Below hpaw1.heap.size hpaw1 hpaw2 := hA ▸ (Below.refl _ _).alloc (Nat.le_refl _) _
  have nN8 : w5.heap.size ≤ N8 := hN8 ▸ hB.size
  replace hB := hB.trans (hb.mono hB.size)
  clear hb
  have hX := hid (hpa2.out hpaw2)
  have hA1 := hid hA
  clear hA
  go_upto_region 10 with fail
  try simp only [hN8]
  rw [hA1.out]
  clear hA1 hN8
  have k3w := k3.low hB
  have c30 := k3w.cell (k := 0) rfl
  have c31 := k3w.cell (k := 1) rfl
  have c32 := k3w.cell (k := 2) rfl
  have c33 := k3w.cell (k := 3) rfl
  have c34 := k3w.cell (k := 4) rfl
  clear k3w
  go_wp2_with fail
  clear c30 c31 c32 c33 c34
  with_reducible refine Calls.mono hX.out ?_
  rintro e hpaw3 ⟨rfl, hb⟩
  replace k8 := k8.low hb
  replace hB := hB.trans (hb.mono hB.size)
  clear hb hX hpa2
  obtain ⟨N10, hN10⟩ : ∃ N, hpaw3.heap.size = N := ⟨_, rfl⟩
  obtain ⟨hpaw4, hA⟩ : ∃ W, hpaw3.alloc (.cells #[.int .i64 pa0, .int .i64 pa1, .int .i64 pa2, .int .i64 pa3, .int .i64 pa4] 33) = W := ⟨_, rfl⟩
  have k10 : Blk hpaw4 N10 33 #[.int .i64 pa0, .int .i64 pa1, .int .i64 pa2, .int .i64 pa3, .int .i64 pa4] := by rw [← hA, ← hN10]; exact Blk.new hpaw3 _ _
  have hb : Below hpaw3.heap.size hpaw3 hpaw4 := hA ▸ (Below.refl _ _).alloc (Nat.le_refl _) _
  have nN10 : w5.heap.size ≤ N10 := hN10 ▸ hB.size
  have neN10 : N8 < N10 := hN10 ▸ k8.lt
  replace k8 := k8.low hb
  replace hB := hB.trans (hb.mono hB.size)
  have hA1 := hid hA
  clear hb hA
  go_upto_region 11 with fail
  try simp only [hN10]
  rw [hA1.out]
  clear hA1 hN10
  go_cut [109] from 88 to 109 (fun v wc => v = .bool false ∧ wc = hpaw4)
  case first =>
    have ca0 := k8.cell (k := 0) rfl
    have ca1 := k8.cell (k := 1) rfl
    have ca2 := k8.cell (k := 2) rfl
    have ca3 := k8.cell (k := 3) rfl
    have ca4 := k8.cell (k := 4) rfl
    have cb0 := k10.cell (k := 0) rfl
    have cb1 := k10.cell (k := 1) rfl
    have cb2 := k10.cell (k := 2) rfl
    have cb3 := k10.cell (k := 3) rfl
    have cb4 := k10.cell (k := 4) rfl
    rcases hpa.out.h with ⟨h1, h2⟩ | ⟨h1, h2⟩
    · subst h1 h2
      go_wp2_with fail
      go_meet
      exact ⟨rfl, rfl⟩
    · subst h1 h2
      go_wp2_with fail
      go_meet
      exact ⟨rfl, rfl⟩
  case rest =>
  obtain ⟨rfl, hwc⟩ := hcut
  replace hwc := hwc.symm
  subst hwc
  clear hpa
  have hX := hid (hpb1.out hpaw4 b (hm.below hB))
  have k3w := k3.low hB
  have c30 := k3w.cell (k := 0) rfl
  have c31 := k3w.cell (k := 1) rfl
  have c32 := k3w.cell (k := 2) rfl
  have c33 := k3w.cell (k := 3) rfl
  have c34 := k3w.cell (k := 4) rfl
  clear k3w
  go_wp2_with fail
  clear c30 c31 c32 c33 c34
  with_reducible refine Calls.mono hX.out ?_
  rintro e hpbw1 ⟨rfl, hb⟩
  replace k8 := k8.low hb
  replace k10 := k10.low hb
  replace hB := hB.trans (hb.mono hB.size)
  clear hb hX hpb1
  obtain ⟨hpbw2, hS⟩ : ∃ W, (((((hpbw1.setCell ⟨N8, 0, none⟩ (.int .i64 pb0)).setCell ⟨N8, 1, none⟩ (.int .i64 pb1)).setCell ⟨N8, 2, none⟩ (.int .i64 pb2)).setCell ⟨N8, 3, none⟩ (.int .i64 pb3)).setCell ⟨N8, 4, none⟩ (.int .i64 pb4)) = W := ⟨_, rfl⟩
  have cs0 := k8.cell (k := 0) rfl
  have cs1 := k8.cell (k := 1) rfl
  have cs2 := k8.cell (k := 2) rfl
  have cs3 := k8.cell (k := 3) rfl
  have cs4 := k8.cell (k := 4) rfl
  have ns := k8.lt
  have fs := k8.froz
  replace k8 : Blk hpbw2 N8 33 #[.int .i64 pb0, .int .i64 pb1, .int .i64 pb2, .int .i64 pb3, .int .i64 pb4] := hS ▸ set5r k8 _ _ _ _ _
  replace k10 : Blk hpbw2 N10 33 _ := hS ▸ set5o k10 (by omega) _ _ _ _ _
  replace hB : Below w5.heap.size w5 hpbw2 := hS ▸ low5r hB nN8 _ _ _ _ _
  have hS1 := hid hS
  clear hS
  go_upto_region 14 with fail
  rw [hS1.out]
  clear hS1 cs0 cs1 cs2 cs3 cs4 ns fs
  have hX := hid (hpb2.out hpbw2)
  have k3w := k3.low hB
  have c30 := k3w.cell (k := 0) rfl
  have c31 := k3w.cell (k := 1) rfl
  have c32 := k3w.cell (k := 2) rfl
  have c33 := k3w.cell (k := 3) rfl
  have c34 := k3w.cell (k := 4) rfl
  clear k3w
  go_wp2_with fail
  clear c30 c31 c32 c33 c34
  with_reducible refine Calls.mono hX.out ?_
  rintro e hpbw3 ⟨rfl, hb⟩
  replace k8 := k8.low hb
  replace k10 := k10.low hb
  replace hB := hB.trans (hb.mono hB.size)
  clear hb hX hpb2
  obtain ⟨hpbw4, hS⟩ : ∃ W, (((((hpbw3.setCell ⟨N10, 0, none⟩ (.int .i64 pb0)).setCell ⟨N10, 1, none⟩ (.int .i64 pb1)).setCell ⟨N10, 2, none⟩ (.int .i64 pb2)).setCell ⟨N10, 3, none⟩ (.int .i64 pb3)).setCell ⟨N10, 4, none⟩ (.int .i64 pb4)) = W := ⟨_, rfl⟩
  have cs0 := k10.cell (k := 0) rfl
  have cs1 := k10.cell (k := 1) rfl
  have cs2 := k10.cell (k := 2) rfl
  have cs3 := k10.cell (k := 3) rfl
  have cs4 := k10.cell (k := 4) rfl
  have ns := k10.lt
  have fs := k10.froz
  replace k10 : Blk hpbw4 N10 33 #[.int .i64 pb0, .int .i64 pb1, .int .i64 pb2, .int .i64 pb3, .int .i64 pb4] := hS ▸ set5r k10 _ _ _ _ _
  replace k8 : Blk hpbw4 N8 33 _ := hS ▸ set5o k8 (by omega) _ _ _ _ _
  replace hB : Below w5.heap.size w5 hpbw4 := hS ▸ low5r hB nN10 _ _ _ _ _
  have hS1 := hid hS
  clear hS
  go_upto_region 15 with fail
  rw [hS1.out]
  clear hS1 cs0 cs1 cs2 cs3 cs4 ns fs
  go_cut [140] from 124 to 140 (fun v wc => v = .bool false ∧ wc = hpbw4)
  case first =>
    have ca0 := k8.cell (k := 0) rfl
    have ca1 := k8.cell (k := 1) rfl
    have ca2 := k8.cell (k := 2) rfl
    have ca3 := k8.cell (k := 3) rfl
    have ca4 := k8.cell (k := 4) rfl
    have cb0 := k10.cell (k := 0) rfl
    have cb1 := k10.cell (k := 1) rfl
    have cb2 := k10.cell (k := 2) rfl
    have cb3 := k10.cell (k := 3) rfl
    have cb4 := k10.cell (k := 4) rfl
    rcases hpb.out.h with ⟨h1, h2⟩ | ⟨h1, h2⟩
    · subst h1 h2
      go_wp2_with fail
      go_meet
      exact ⟨rfl, rfl⟩
    · subst h1 h2
      go_wp2_with fail
      go_meet
      exact ⟨rfl, rfl⟩
  case rest =>
  obtain ⟨rfl, hwc⟩ := hcut
  replace hwc := hwc.symm
  subst hwc
  clear hpb
  have hX := hid (hpc1.out hpbw4 b (hm.below hB))
  have k3w := k3.low hB
  have c30 := k3w.cell (k := 0) rfl
  have c31 := k3w.cell (k := 1) rfl
  have c32 := k3w.cell (k := 2) rfl
  have c33 := k3w.cell (k := 3) rfl
  have c34 := k3w.cell (k := 4) rfl
  clear k3w
  go_wp2_with fail
  clear c30 c31 c32 c33 c34
  with_reducible refine Calls.mono hX.out ?_
  rintro e hpcw1 ⟨rfl, hb⟩
  replace k8 := k8.low hb
  replace k10 := k10.low hb
  replace hB := hB.trans (hb.mono hB.size)
  clear hb hX hpc1
  obtain ⟨hpcw2, hS⟩ : ∃ W, (((((hpcw1.setCell ⟨N8, 0, none⟩ (.int .i64 pc0)).setCell ⟨N8, 1, none⟩ (.int .i64 pc1)).setCell ⟨N8, 2, none⟩ (.int .i64 pc2)).setCell ⟨N8, 3, none⟩ (.int .i64 pc3)).setCell ⟨N8, 4, none⟩ (.int .i64 pc4)) = W := ⟨_, rfl⟩
  have cs0 := k8.cell (k := 0) rfl
  have cs1 := k8.cell (k := 1) rfl
  have cs2 := k8.cell (k := 2) rfl
  have cs3 := k8.cell (k := 3) rfl
  have cs4 := k8.cell (k := 4) rfl
  have ns := k8.lt
  have fs := k8.froz
  replace k8 : Blk hpcw2 N8 33 #[.int .i64 pc0, .int .i64 pc1, .int .i64 pc2, .int .i64 pc3, .int .i64 pc4] := hS ▸ set5r k8 _ _ _ _ _
  replace k10 : Blk hpcw2 N10 33 _ := hS ▸ set5o k10 (by omega) _ _ _ _ _
  replace hB : Below w5.heap.size w5 hpcw2 := hS ▸ low5r hB nN8 _ _ _ _ _
  have hS1 := hid hS
  clear hS
  go_upto_region 18 with fail
  rw [hS1.out]
  clear hS1 cs0 cs1 cs2 cs3 cs4 ns fs
  have hX := hid (hpc2.out hpcw2)
  have k3w := k3.low hB
  have c30 := k3w.cell (k := 0) rfl
  have c31 := k3w.cell (k := 1) rfl
  have c32 := k3w.cell (k := 2) rfl
  have c33 := k3w.cell (k := 3) rfl
  have c34 := k3w.cell (k := 4) rfl
  clear k3w
  go_wp2_with fail
  clear c30 c31 c32 c33 c34
  with_reducible refine Calls.mono hX.out ?_
  rintro e hpcw3 ⟨rfl, hb⟩
  replace k8 := k8.low hb
  replace k10 := k10.low hb
  replace hB := hB.trans (hb.mono hB.size)
  clear hb hX hpc2
  obtain ⟨hpcw4, hS⟩ : ∃ W, (((((hpcw3.setCell ⟨N10, 0, none⟩ (.int .i64 pc0)).setCell ⟨N10, 1, none⟩ (.int .i64 pc1)).setCell ⟨N10, 2, none⟩ (.int .i64 pc2)).setCell ⟨N10, 3, none⟩ (.int .i64 pc3)).setCell ⟨N10, 4, none⟩ (.int .i64 pc4)) = W := ⟨_, rfl⟩
  have cs0 := k10.cell (k := 0) rfl
  have cs1 := k10.cell (k := 1) rfl
  have cs2 := k10.cell (k := 2) rfl
  have cs3 := k10.cell (k := 3) rfl
  have cs4 := k10.cell (k := 4) rfl
  have ns := k10.lt
  have fs := k10.froz
  replace k10 : Blk hpcw4 N10 33 #[.int .i64 pc0, .int .i64 pc1, .int .i64 pc2, .int .i64 pc3, .int .i64 pc4] := hS ▸ set5r k10 _ _ _ _ _
  replace k8 : Blk hpcw4 N8 33 _ := hS ▸ set5o k8 (by omega) _ _ _ _ _
  replace hB : Below w5.heap.size w5 hpcw4 := hS ▸ low5r hB nN10 _ _ _ _ _
  have hS1 := hid hS
  clear hS
  go_upto_region 19 with fail
  rw [hS1.out]
  clear hS1 cs0 cs1 cs2 cs3 cs4 ns fs
  go_cut [178] from 157 to 178 (fun v wc => v = .bool false ∧ wc = hpcw4)
  case first =>
    have ca0 := k8.cell (k := 0) rfl
    have ca1 := k8.cell (k := 1) rfl
    have ca2 := k8.cell (k := 2) rfl
    have ca3 := k8.cell (k := 3) rfl
    have ca4 := k8.cell (k := 4) rfl
    have cb0 := k10.cell (k := 0) rfl
    have cb1 := k10.cell (k := 1) rfl
    have cb2 := k10.cell (k := 2) rfl
    have cb3 := k10.cell (k := 3) rfl
    have cb4 := k10.cell (k := 4) rfl
    rcases hpc.out.h with ⟨h1, h2⟩ | ⟨h1, h2⟩
    · subst h1 h2
      go_wp2_with fail
      go_meet
      exact ⟨rfl, rfl⟩
    · subst h1 h2
      go_wp2_with fail
      go_meet
      exact ⟨rfl, rfl⟩
  case rest =>
  obtain ⟨rfl, hwc⟩ := hcut
  replace hwc := hwc.symm
  subst hwc
  clear hpc
  have hX := hid (hpd1.out hpcw4 b (hm.below hB))
  have k3w := k3.low hB
  have c30 := k3w.cell (k := 0) rfl
  have c31 := k3w.cell (k := 1) rfl
  have c32 := k3w.cell (k := 2) rfl
  have c33 := k3w.cell (k := 3) rfl
  have c34 := k3w.cell (k := 4) rfl
  clear k3w
  go_wp2_with fail
  clear c30 c31 c32 c33 c34
  with_reducible refine Calls.mono hX.out ?_
  rintro e hpdw1 ⟨rfl, hb⟩
  replace k8 := k8.low hb
  replace k10 := k10.low hb
  replace hB := hB.trans (hb.mono hB.size)
  clear hb hX hpd1
  obtain ⟨hpdw2, hS⟩ : ∃ W, (((((hpdw1.setCell ⟨N8, 0, none⟩ (.int .i64 pd0)).setCell ⟨N8, 1, none⟩ (.int .i64 pd1)).setCell ⟨N8, 2, none⟩ (.int .i64 pd2)).setCell ⟨N8, 3, none⟩ (.int .i64 pd3)).setCell ⟨N8, 4, none⟩ (.int .i64 pd4)) = W := ⟨_, rfl⟩
  have cs0 := k8.cell (k := 0) rfl
  have cs1 := k8.cell (k := 1) rfl
  have cs2 := k8.cell (k := 2) rfl
  have cs3 := k8.cell (k := 3) rfl
  have cs4 := k8.cell (k := 4) rfl
  have ns := k8.lt
  have fs := k8.froz
  replace k8 : Blk hpdw2 N8 33 #[.int .i64 pd0, .int .i64 pd1, .int .i64 pd2, .int .i64 pd3, .int .i64 pd4] := hS ▸ set5r k8 _ _ _ _ _
  replace k10 : Blk hpdw2 N10 33 _ := hS ▸ set5o k10 (by omega) _ _ _ _ _
  replace hB : Below w5.heap.size w5 hpdw2 := hS ▸ low5r hB nN8 _ _ _ _ _
  have hS1 := hid hS
  clear hS
  go_upto_region 22 with fail
  rw [hS1.out]
  clear hS1 cs0 cs1 cs2 cs3 cs4 ns fs
  have hX := hid (hpd2.out hpdw2)
  have k3w := k3.low hB
  have c30 := k3w.cell (k := 0) rfl
  have c31 := k3w.cell (k := 1) rfl
  have c32 := k3w.cell (k := 2) rfl
  have c33 := k3w.cell (k := 3) rfl
  have c34 := k3w.cell (k := 4) rfl
  clear k3w
  go_wp2_with fail
  clear c30 c31 c32 c33 c34
  with_reducible refine Calls.mono hX.out ?_
  rintro e hpdw3 ⟨rfl, hb⟩
  replace k8 := k8.low hb
  replace k10 := k10.low hb
  replace hB := hB.trans (hb.mono hB.size)
  clear hb hX hpd2
  obtain ⟨hpdw4, hS⟩ : ∃ W, (((((hpdw3.setCell ⟨N10, 0, none⟩ (.int .i64 pd0)).setCell ⟨N10, 1, none⟩ (.int .i64 pd1)).setCell ⟨N10, 2, none⟩ (.int .i64 pd2)).setCell ⟨N10, 3, none⟩ (.int .i64 pd3)).setCell ⟨N10, 4, none⟩ (.int .i64 pd4)) = W := ⟨_, rfl⟩
  have cs0 := k10.cell (k := 0) rfl
  have cs1 := k10.cell (k := 1) rfl
  have cs2 := k10.cell (k := 2) rfl
  have cs3 := k10.cell (k := 3) rfl
  have cs4 := k10.cell (k := 4) rfl
  have ns := k10.lt
  have fs := k10.froz
  replace k10 : Blk hpdw4 N10 33 #[.int .i64 pd0, .int .i64 pd1, .int .i64 pd2, .int .i64 pd3, .int .i64 pd4] := hS ▸ set5r k10 _ _ _ _ _
  replace k8 : Blk hpdw4 N8 33 _ := hS ▸ set5o k8 (by omega) _ _ _ _ _
  replace hB : Below w5.heap.size w5 hpdw4 := hS ▸ low5r hB nN10 _ _ _ _ _
  have hS1 := hid hS
  clear hS
  go_upto_region 23 with fail
  rw [hS1.out]
  clear hS1 cs0 cs1 cs2 cs3 cs4 ns fs
  go_cut [213] from 197 to 213 (fun v wc => v = .bool false ∧ wc = hpdw4)
  case first =>
    have ca0 := k8.cell (k := 0) rfl
    have ca1 := k8.cell (k := 1) rfl
    have ca2 := k8.cell (k := 2) rfl
    have ca3 := k8.cell (k := 3) rfl
    have ca4 := k8.cell (k := 4) rfl
    have cb0 := k10.cell (k := 0) rfl
    have cb1 := k10.cell (k := 1) rfl
    have cb2 := k10.cell (k := 2) rfl
    have cb3 := k10.cell (k := 3) rfl
    have cb4 := k10.cell (k := 4) rfl
    rcases hpd.out.h with ⟨h1, h2⟩ | ⟨h1, h2⟩
    · subst h1 h2
      go_wp2_with fail
      go_meet
      exact ⟨rfl, rfl⟩
    · subst h1 h2
      go_wp2_with fail
      go_meet
      exact ⟨rfl, rfl⟩
  case rest =>
  obtain ⟨rfl, hwc⟩ := hcut
  replace hwc := hwc.symm
  subst hwc
  clear hpd
  clear k8 k10
  have hX := hid (hpe1.out hpdw4 b (hm.below hB))
  have k3w := k3.low hB
  have c30 := k3w.cell (k := 0) rfl
  have c31 := k3w.cell (k := 1) rfl
  have c32 := k3w.cell (k := 2) rfl
  have c33 := k3w.cell (k := 3) rfl
  have c34 := k3w.cell (k := 4) rfl
  clear k3w
  go_wp2_with fail
  clear c30 c31 c32 c33 c34
  with_reducible refine Calls.mono hX.out ?_
  rintro e hpew1 ⟨rfl, hb⟩
  replace hB := hB.trans (hb.mono hB.size)
  clear hb hX hpe1
  obtain ⟨N13, hN13⟩ : ∃ N, hpew1.heap.size = N := ⟨_, rfl⟩
  obtain ⟨hpew2, hA⟩ : ∃ W, hpew1.alloc (.cells #[.int .i64 pe0, .int .i64 pe1] 29) = W := ⟨_, rfl⟩
  have k13 : Blk hpew2 N13 29 #[.int .i64 pe0, .int .i64 pe1] := by rw [← hA, ← hN13]; exact Blk.new hpew1 _ _
  have hb : Below hpew1.heap.size hpew1 hpew2 := hA ▸ (Below.refl _ _).alloc (Nat.le_refl _) _
  have nN13 : w5.heap.size ≤ N13 := hN13 ▸ hB.size
  replace hB := hB.trans (hb.mono hB.size)
  clear hb
  have hX := hid (hpe2.out hpew2)
  have hA1 := hid hA
  clear hA
  go_upto_region 26 with fail
  try simp only [hN13]
  rw [hA1.out]
  clear hA1 hN13
  have k3w := k3.low hB
  have c30 := k3w.cell (k := 0) rfl
  have c31 := k3w.cell (k := 1) rfl
  have c32 := k3w.cell (k := 2) rfl
  have c33 := k3w.cell (k := 3) rfl
  have c34 := k3w.cell (k := 4) rfl
  clear k3w
  go_wp2_with fail
  clear c30 c31 c32 c33 c34
  with_reducible refine Calls.mono hX.out ?_
  rintro e hpew3 ⟨rfl, hb⟩
  replace k13 := k13.low hb
  replace hB := hB.trans (hb.mono hB.size)
  clear hb hX hpe2
  obtain ⟨N15, hN15⟩ : ∃ N, hpew3.heap.size = N := ⟨_, rfl⟩
  obtain ⟨hpew4, hA⟩ : ∃ W, hpew3.alloc (.cells #[.int .i64 pe0, .int .i64 pe1] 29) = W := ⟨_, rfl⟩
  have k15 : Blk hpew4 N15 29 #[.int .i64 pe0, .int .i64 pe1] := by rw [← hA, ← hN15]; exact Blk.new hpew3 _ _
  have hb : Below hpew3.heap.size hpew3 hpew4 := hA ▸ (Below.refl _ _).alloc (Nat.le_refl _) _
  have nN15 : w5.heap.size ≤ N15 := hN15 ▸ hB.size
  have neN15 : N13 < N15 := hN15 ▸ k13.lt
  replace k13 := k13.low hb
  replace hB := hB.trans (hb.mono hB.size)
  have hA1 := hid hA
  clear hb hA
  go_upto_region 27 with fail
  try simp only [hN15]
  rw [hA1.out]
  clear hA1 hN15
  go_cut [251] from 230 to 251 (fun v wc => v = .bool false ∧ wc = hpew4)
  case first =>
    have ca0 := k13.cell (k := 0) rfl
    have ca1 := k13.cell (k := 1) rfl
    have cb0 := k15.cell (k := 0) rfl
    have cb1 := k15.cell (k := 1) rfl
    rcases hpe.out.h with ⟨h1, h2⟩ | ⟨h1, h2⟩
    · subst h1 h2
      go_wp2_with fail
      go_meet
      exact ⟨rfl, rfl⟩
    · subst h1 h2
      go_wp2_with fail
      go_meet
      exact ⟨rfl, rfl⟩
  case rest =>
  obtain ⟨rfl, hwc⟩ := hcut
  replace hwc := hwc.symm
  subst hwc
  clear hpe
  obtain ⟨N17, hN17⟩ : ∃ N, hpew4.heap.size = N := ⟨_, rfl⟩
  obtain ⟨w6, hA⟩ : ∃ W, hpew4.alloc (.cells #[.int .i64 0] 3) = W := ⟨_, rfl⟩
  have kn : Blk w6 N17 3 #[.int .i64 0] := by rw [← hA, ← hN17]; exact Blk.new hpew4 _ _
  have hb : Below hpew4.heap.size hpew4 w6 := hA ▸ (Below.refl _ _).alloc (Nat.le_refl _) _
  have n17 : w5.heap.size ≤ N17 := hN17 ▸ hB.size
  replace hB := hB.trans (hb.mono hB.size)
  have hA1 := hid hA
  clear hb hA k13 k15
  go_upto_region 30 with fail
  try simp only [hN17]
  rw [hA1.out]
  clear hA1 hN17
  go_wp2_with fail
  have hE := hid ((callsIn_wide (n := 8)).1 (each_in Fence.wide 8 trivial rfl b w6))
  with_reducible refine Calls.mono hE.out ?_
  rintro e w7 ⟨rfl, hw7⟩
  clear hE
  have hb7 : Below w6.heap.size w6 w7 := hw7 ▸ (Below.refl _ _).alloc (Nat.le_refl _) _
  have k30 : Blk w7 w6.heap.size 23 #[.pointer (some ⟨b, 0, none⟩)] := by rw [hw7]; exact Blk.new w6 _ _
  have n30 := kn.lt
  replace kn := kn.low hb7
  replace hB := hB.trans (hb7.mono hB.size)
  clear hb7 hw7
  obtain ⟨N30, hN30⟩ : ∃ N, w6.heap.size = N := ⟨_, rfl⟩
  rw [hN30] at k30 n30
  simp only [hN30]
  clear hN30
  have hMA := hid ((hm.at.below hB).up n17)
  have l30 := k30.lt
  have hcell : Hid (∀ (k : Nat) (q : Pl), (plOf s)[k]? = some q → g < w5.heap.size) := hid fun k q h => World.block_lt_of_cell? w5 _ (hpl5.out k q h).1
  go_wp2_with fail
  refine (wpIn_wide (n := 9)).1 ?_
  refine name_act ?_
  intro T D hT hD
  refine rangeFunc_next (F := Fence.wide) (α := Pl) rfl (by omega) (gf := 36) (lb := #[.pointer (some ⟨N30, 0, none⟩)]) (by subst hT; rfl) trivial (enters_of Try.func36 (by kernel_rfl) rfl)
    (each_next Fence.wide 8 trivial rfl (by omega) N30 b N17 s hs w7 (by omega) (by omega) (k30.cell rfl) hMA.out) (by omega) (Below.refl _ _) (fun _ => rfl)
    (fun pre W => Blk W N17 3 #[.int .i64 pre.length] ∧ Below N17 w7 W)
    (fun _ _ _ => False)
    (OwnFrom.and (Own.from (blk_own _ _ (fun pre : List Pl => #[.int .i64 pre.length])) _) (ownFrom_below (by omega) (by omega)))
    (fun _ => ownFrom_pure _ _)
    ⟨kn, Below.refl _ _⟩
    (fun x a' W => ∃ Bx, N17 + 1 < Bx ∧ Blk W Bx 33 (plC x) ∧ a' = { tmps := (T.setIfInBounds 254 (plV x)).setIfInBounds 18 (.pointer (some ⟨Bx, 0, none⟩)), defers := [] })
    (fun x a' _ X Y row hs hg hr => by obtain ⟨Bx, h1, h2, h3⟩ := hs; exact ⟨Bx, h1, blk_own Bx 33 (fun (_ : Unit) => plC x) () X Y row h2 hg (fun r e => (hr r e).2), h3⟩)
    ?assign ?body ?done ?stop
  case assign =>
    rintro l pre x W K ⟨kn, hBW⟩ hpre hK
    subst hT hD
    gi_wp2
    have hsW := hBW.size
    refine hK _ _ ((KeepsOthers.alloc _ _).from _) ((Below.refl _ W).alloc (by omega) _) ⟨kn.alloc _, hBW.alloc (by omega) _⟩ ⟨W.heap.size, by omega, Blk.new W 33 _, ?_⟩
    rfl
  case body =>
    rintro l pre p a' W hl hr hnext ⟨kn, hBW⟩ ⟨Bx, hBx, kx, rfl⟩
    have hsW := hBW.size
    have e1 := prefix_get hnext
    have hlen := (List.getElem?_eq_some_iff.1 e1).1
    have hB5 : Below w5.heap.size w5 W := hB.trans (hBW.mono n17)
    have k7b := k7.low hB5
    have c7 := k7b.cell (k := 0) rfl
    have cn := kn.cell (k := 0) rfl
    have cx0 := kx.cell (k := 0) rfl
    have cx1 := kx.cell (k := 1) rfl
    have cx2 := kx.cell (k := 2) rfl
    have cx3 := kx.cell (k := 3) rfl
    have cx4 := kx.cell (k := 4) rfl
    have fn0 := kn.froz 0
    have nn := kn.lt
    have nx := kx.lt
    obtain ⟨c60, c61, c62, c63, c64⟩ := (hpl5.out _ _ e1).low hB5 (hcell.out _ _ e1)
    subst hT hD
    dsimp only
    simp only [List.setIfInBounds_toArray, List.set_cons_succ, List.set_cons_zero]
    obtain ⟨k, hk⟩ : ∃ k, pre.length = k := ⟨_, rfl⟩
    have hk' := hid hk
    rw [hk] at cn c60 c61 c62 c63 c64
    rw [hn, hk] at hlen
    have hki : IntKind.i64.wrap ((k : Int) + 1) = (k : Int) + 1 := IntWalk.i64_in _ (by omega)
    have hend : Hid (∀ x : Ext W, KeepsFrom w7.heap.size W (x.w.setCell ⟨N17, 0, none⟩ (.int .i64 ((k : Int) + 1))) ∧ Below N17 W (x.w.setCell ⟨N17, 0, none⟩ (.int .i64 ((k : Int) + 1))) ∧ (Blk (x.w.setCell ⟨N17, 0, none⟩ (.int .i64 ((k : Int) + 1))) N17 3 #[.int .i64 (pre ++ [p]).length] ∧ Below N17 w7 (x.w.setCell ⟨N17, 0, none⟩ (.int .i64 ((k : Int) + 1))))) := by
      refine hid fun x => ?_
      have q0 : Below N17 W x.w := x.h.mono (by omega)
      have q : Below N17 W (x.w.setCell ⟨N17, 0, none⟩ (.int .i64 ((k : Int) + 1))) := q0.setCell (p := ⟨N17, 0, none⟩) (Nat.le_refl _) _
      refine ⟨(kf_of x.h).trans ((KeepsOthers.setCell _ _ _).from _), q, ?_, hBW.trans q⟩
      have e : ((pre ++ [p]).length : Nat) = k + 1 := by simp [hk]
      rw [e]
      exact (kn.low x.h).set 0 _
    have z1 : (k : Int) < (m : Int) + 1 := by omega
    have z2 : ((k : Nat) : Int).toNat = k := Int.toNat_natCast k
    have z3 : decide ((m : Int) + 1 ≤ (k : Int)) = false := decide_eq_false (by omega)
    have z4 : (0 : Int) ≤ k := by omega
    clear hnext e1 hlen hl hr hk hsW hBx hm6 hB5
    gi_wp2_with fail
    refine ext_allInB (by kernel_rfl) (WideF.round _ _ _) (by kernel_rfl) (by kernel_rfl) ?_
    repeat (refine bq_step (fun K hK => ?_); go_simp; refine ⟨hK _ ?_⟩; clear hK K)
    refine bq_nil ?_
    rintro _ ⟨x, rfl⟩
    have hx := hid (hend.out x)
    have knx := kn.low x.h
    have cnx := knx.cell (k := 0) rfl
    have fnx := knx.froz 0
    have nnx := knx.lt
    rw [hk'.out] at cnx
    gi_wp2_with fail
    exact hx.out
  case done =>
    rintro Dk W hDk ⟨kn, hBW⟩ hK
    have hsW := hBW.size
    have hB5 : Below w5.heap.size w5 W := hB.trans (hBW.mono n17)
    have k7b := k7.low hB5
    have k4b := k4.low hB5
    have c7 := k7b.cell (k := 0) rfl
    have cn := kn.cell (k := 0) rfl
    rw [hn] at cn
    have hs5 := ba.size
    have baW := ba.trans (hB5.mono hs5)
    subst hT hD
    have hWk := hid (works_any W)
    clear hB5
    go_wp2_with fail
    with_reducible refine Calls.mono hWk.out ?_
    rintro e w8 ⟨rfl, hb8⟩
    have k4x := k4b.low hb8
    have hKx := (hb8.block Dk (Array.getElem?_eq_some_iff.1 hK).1).trans hK
    have q0 := baW.trans (hb8.mono baW.size)
    have c4x := k4x.cell (k := 0) rfl
    have n4x := k4x.lt
    have f4x := k4x.froz 0
    clear hb8 hWk
    go_wp2_with fail
    have hK2 : (w8.setCell ⟨w.heap.size + 1, 0, none⟩ (.bool true)).heap[Dk]? = some (.deferred (some [])) := (KeepsOthers.setCell _ _ _).same Dk _ hKx rfl
    refine ⟨by simp, .inl ⟨_, _, rfl, run_takeDeferred hK2, ?_⟩⟩
    have hcc : ((w8.setCell ⟨w.heap.size + 1, 0, none⟩ (.bool true)).putObj Dk (.deferred none)).cell? ⟨w.heap.size + 1, 0, none⟩ = some (.bool true) :=
      cell_kept (World.cell?_setCell_same' _ _ _ (by rw [c4x]; rfl)) (grownBy_putObj' _ Dk (.deferred none)) (fun r e => by cases e; exact ⟨_, hK2, rfl⟩)
    have q1 : Below w.heap.size w (w8.setCell ⟨w.heap.size + 1, 0, none⟩ (.bool true)) := q0.setCell (p := ⟨w.heap.size + 1, 0, none⟩) (Nat.le_succ _) _
    have hw7 : w.heap.size ≤ w7.heap.size := Nat.le_trans hs5 hB.size
    have hFin : Below w.heap.size w ((w8.setCell ⟨w.heap.size + 1, 0, none⟩ (.bool true)).putObj Dk (.deferred none)) :=
      q1.trans (belowK_b (w := w7) hw7 _ _ _ _ hDk hK2 rfl rfl)
    exact ⟨_, by simp [results, Try.results8, go_sem, hcc], rfl, hFin⟩
  case stop =>
    rintro Dk c pre W hDk hpre h _
    exact h.elim
theorem tells_walk (s : ByteArray) (x0 x1 x2 x3 x4 : Int) (w : World) (hm : s.size ≤ maxLen) :
    Calls Try.prog 8 #[.string s, agg5 x0 x1 x2 x3 x4] w fun e w' => e = .returned (.bool true) ∧ Below w.heap.size w w' := by
  by_cases hs : s.size ≤ 65536
  · exact tells_main s x0 x1 x2 x3 x4 w hs
  · exact tells_long s x0 x1 x2 x3 x4 w (by omega) hm
end Go.Proofs.Ytkobfjiadfedlaa
