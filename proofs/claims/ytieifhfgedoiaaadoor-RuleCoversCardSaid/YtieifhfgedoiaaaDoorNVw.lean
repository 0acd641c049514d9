/- Which rules cover which, and which are dead: the document's hand. Conditions: those of each theorem. -/
import Derived.Test.YtieifhfgedoiaaaDoorNVv
namespace Go.Proofs.YtieifhfgedoiaaaDoor
open Go.RowKit Go.Lib
open Go.ChangeMaps
set_option linter.unusedVariables false
set_option linter.unusedSimpArgs false
attribute [local go_sem] ExtS.cell ExtS.froz upE_value upE_skip upE_enter Ext.cell Ext.froz one_neq
theorem within_pcs {x : Rs} {a b : Item} {k : Nat} (h : a.name = k + 65) : withinB x a b = (x.pcs k).all (hasB x b) := by
 unfold withinB Rs.pcs
 rw [if_neg (by omega), show a.name - 65 = k by omega]
 cases x.cls k <;> rfl
theorem all_snoc {L : List One} {i : Nat} {u : One} {p : One → Bool} (h : L[i]? = some u) : (L.take (i + 1)).all p = ((L.take i).all p && p u) := by
 rw [List.take_add_one, h, List.all_append]
 simp
theorem all_bad {L : List One} {i : Nat} {u : One} {p : One → Bool} (h : L[i]? = some u) (hp : p u = false) : L.all p = false := List.all_eq_false.2 ⟨u, List.mem_of_getElem? h, by rw [hp]; simp⟩
set_option maxRecDepth 100000 in
set_option maxHeartbeats 4000000 in
theorem within47 {w : World} {base : Nat} {c : Array Value} {x : Rs} (h : DVal w base c x) (g : RsG x) (a b : Item) (ha : ItemG x.said a) (hb : ItemG x.said b) :
  Calls Tryd.prog 47 #[.agg c, a.val, b.val] w fun e w' => e = .returned (.bool (withinB x a b)) ∧ Below w.heap.size w w' := by
 have hb1 : Below w.heap.size w (w.alloc (.cells c 31)) := (Below.refl _ _).alloc (Nat.le_refl _) _
 have hb2 : Below w.heap.size w ((w.alloc (.cells c 31)).alloc (.cells a.cells.toArray 120)) := hb1.alloc hb1.size _
 have hb3 := hid (hb2.alloc hb2.size (.cells b.cells.toArray 120))
 have KV := hid ((((Blk.new w 31 c).alloc (.cells a.cells.toArray 120)).alloc (.cells b.cells.toArray 120)))
 have KA := hid ((Blk.new (w.alloc (.cells c 31)) 120 a.cells.toArray).alloc (.cells b.cells.toArray 120))
 have KB := hid (Blk.new ((w.alloc (.cells c 31)).alloc (.cells a.cells.toArray 120)) 120 b.cells.toArray)
 have hs1 : (w.alloc (.cells c 31)).heap.size = w.heap.size + 1 := by simp
 have hs2 : ((w.alloc (.cells c 31)).alloc (.cells a.cells.toArray 120)).heap.size = w.heap.size + 1 + 1 := by simp
 rw [hs1] at KA
 rw [hs2] at KB
 have H := hid (h.low hb3.out)
 have hV1 := h.one
 have hi31 : (Tryd.prog.info? 31).map (·.size) = some c.size := by rw [hV1.1]; kernel_rfl
 clear h hb1 hb2 hs1 hs2
 rcases ha.2 with h0 | ⟨h1, h2, h3⟩
 ·have hE : withinB x a b = hasB x b a.u := by unfold withinB; rw [if_pos h0]
  rw [hE]
  have hI := hid (has48 H.out g b a.u hb)
  obtain ⟨nm, o⟩ := a
  dsimp only at h0
  subst h0
  unfold Item.val One.val Item.cells at *
  dsimp only at *
  go_enter Tryd.func47, Tryd.ntmps47
  go_wp2_with fail
  refine wp_load_row 31 _ rfl w.heap.size rfl 31 c (0, 0) _ KV.out Tryd.underlying31 rfl hi31 ?_
  go_wp2_with fail
  go_at_call 48
  with_reducible refine Calls.mono (hI.out) ?_
  rintro e w3 ⟨rfl, hb4⟩
  skip
  go_wp2_with fail
  go_ret
  exact ⟨rfl, bnext hb3.out hb4⟩
 ·obtain ⟨nm, o⟩ := a
  dsimp only at h1 h2 h3
  obtain ⟨bq, rfl⟩ : ∃ bq, nm = bq + 65 := ⟨nm - 65, by omega⟩
  have hb26 : bq < 26 := by omega
  rw [within_pcs (a := ⟨bq + 65, o⟩) rfl]
  have hcast : (((bq + 65 : Nat)) : Int) = (bq : Int) + 65 := by omega
  unfold Item.val Item.cells at *
  dsimp only at *
  rw [hcast] at KA KB KV hb3 H ⊢
  obtain ⟨Vc, v, e2, e3, e4, e5⟩ := H.out.ex
  obtain ⟨f1, f2, f3, f4⟩ := e3 bq hb26
  obtain ⟨L, hL⟩ : ∃ L, x.pcs bq = L := ⟨_, rfl⟩
  rw [hL] at f4 ⊢
  obtain ⟨n, hnn⟩ : ∃ n, L.length = n := ⟨_, rfl⟩
  rw [hnn] at f4
  obtain ⟨pv, cv, hv⟩ := own_shape f4
  rw [hv] at f3 f4
  have k1 := KV.out.cell f3
  have kf := KV.out.froz
  have HNN := hid hnn
  have HN9 : Hid (n ≤ 64) := by
   rw [← hnn, ← hL]
   unfold Rs.pcs
   cases hc : x.cls bq with
   | none => exact hid (Nat.zero_le _)
   | some y => exact hid (g.c bq y hc).1
  have HO := hid (own_oneR (by rw [hnn]; exact f4))
  have qn2 : (((bq : Int) + 65) == 0) = false := beq_false_of (by omega)
  have qw : IntKind.u8.wrap ((bq : Int) + 65 - 65) = bq := by rw [Int.add_sub_cancel]; exact IntWalk.u8_in _ (by omega)
  have qw2 : IntKind.u8.wrap (bq : Int) = bq := Wu8 (by omega)
  have qb : (bq : Int) < 26 := by omega
  clear e2 e3 e4 e5 f1 f2 f3 f4 hL hv hnn h1 h2 h3
  go_enter Tryd.func47, Tryd.ntmps47
  go_wp2_with fail
  clear k1 kf
  generalize ((w.alloc (.cells c 31)).alloc (.cells #[.int .u8 ((bq : Int) + 65), .int .i32 o.r, .bool o.br, .int .u8 o.b] 120)).alloc (.cells #[.int .u8 b.name, .int .i32 b.u.r, .bool b.u.br, .int .u8 b.u.b] 120) = W0 at *
  go_loopw [8] (fun v wr => ∃ i : Nat, i ≤ n ∧ v = .int .i64 i ∧ Hid ((L.take i).all (hasB x b) = true) ∧ Hid (Below W0.heap.size W0 wr)) (fun v _ => n - (RowKit.intOf v).toNat)
  case atStart => exact ⟨0, Nat.zero_le _, rfl, hid (by simp), hid (Below.refl _ _)⟩
  case round =>
   obtain ⟨i, hi2, rfl, hT, hB⟩ := hrel
   have hw1 : IntKind.i64.wrap ((i : Int) + 1) = (i : Int) + 1 := IntWalk.i64_in _ (by have := HN9.out; omega)
   by_cases hlt : i < n
   ·have q1 := dT (show (i : Int) < n by omega)
    have q2 : (i : Int) < n := by omega
    obtain ⟨u, hu⟩ : ∃ u, L[i]? = some u := ⟨_, List.getElem?_eq_getElem (by rw [HNN.out]; exact hlt)⟩
    obtain ⟨g1, o1, rfl, a0, a1, a2⟩ := (HO.out.low hB.out).at hu
    have KB2 := hid (KB.out.low hB.out)
    have KV2 := hid (KV.out.low hB.out)
    have H2 := hid (H.out.low hB.out)
    have z0 := KB2.out.cell (k := 0) rfl
    have z1 := KB2.out.cell (k := 1) rfl
    have z2 := KB2.out.cell (k := 2) rfl
    have z3 := KB2.out.cell (k := 3) rfl
    have zf := KB2.out.froz
    have hC := hid (fun xx : Ext wr => has48 (H2.out.low xx.h) g b u hb)
    obtain ⟨hs, hhs⟩ : ∃ hs, hasB x b u = hs := ⟨_, rfl⟩
    rw [hhs] at hC
    have hst := hid (all_snoc (p := hasB x b) hu)
    rw [hT.out, Bool.true_and, hhs] at hst
    have hbad := hid (all_bad (p := hasB x b) hu)
    rw [hhs] at hbad
    unfold Item.val One.val at *
    clear KB2 H2 hu hhs hT
    go_wp2_with fail
    refine ext_all (by kernel_rfl) (by kernel_rfl) ?_
    refine wpQuiet_load_row rfl 31 _ rfl w.heap.size rfl 31 c (0, 0) _ (fun w hw => by obtain ⟨xx, rfl⟩ := hw; exact KV2.out.low xx.h) Tryd.underlying31 rfl hi31 ?_
    go_simp
    repeat (go_big_quiet_step (with_reducible exact Ext.call (hC.out _)))
    refine wpQuiet_nil ?_
    first | rintro _ ⟨xx, rfl⟩ | intro xx
    have hB5 := hid (bnext hB.out xx.h)
    generalize xx.w = W5 at *
    clear hC hB a0 a1 a2 z0 z1 z2 z3 zf KV2
    cases hs with
    | false =>
     go_wp2_with fail
     go_ret
     exact ⟨by rw [hbad.out (by first | rfl | trivial)]; rfl, bnext hb3.out hB5.out⟩
    | true =>
     go_wp2_with fail
     go_roundw
     case rel => exact ⟨i + 1, by omega, by go_num, hst, hB5⟩
     case measure => simp [RowKit.intOf] <;> omega
   ·obtain rfl : i = n := by omega
    have q1 : decide ((i : Int) < i) = false := by simp
    have hE : Hid (L.all (hasB x b) = true) := hid (by have := hT.out; rw [List.take_of_length_le (by rw [HNN.out]; exact Nat.le_refl _)] at this; exact this)
    go_wp2_with fail
    go_ret
    exact ⟨by rw [hE.out]; rfl, bnext hb3.out hB.out⟩
end Go.Proofs.YtieifhfgedoiaaaDoor

namespace Go.Proofs.YtieifhfgedoiaaaDoor
open Go.RowKit Go.Lib
open Go.ChangeMaps
set_option linter.unusedVariables false
set_option linter.unusedSimpArgs false
attribute [local go_sem] ExtS.cell ExtS.froz upE_value upE_skip upE_enter Ext.cell Ext.froz one_neq
theorem drows_capr {w : World} {base n cv G : Nat} {L : List Rl} (h : DRows w base (.slice (some ⟨G, 0, none⟩) n cv) L) {j : Nat} {u : Rl} (hj : L[j]? = some u) {p2 : Option Addr} {c2 : Nat} (hy : w.cell? ⟨G, j * 7 + 4, none⟩ = some (.slice p2 u.right.length c2)) : p2 = none → c2 = 0 := by
 intro h0
 subst h0
 obtain ⟨Vs, g1, g2, g3⟩ := h
 have hl : L.length ≠ 0 := by have := (List.getElem?_eq_some_iff.1 hj).1; omega
 obtain ⟨m, hm⟩ : ∃ m, L.length = m + 1 := ⟨L.length - 1, by omega⟩
 rw [hm] at g2
 have hV : ∃ y, Vs[j]? = some y ∧ y.1 = u := by
  rw [← g1, List.getElem?_map] at hj
  cases hv : Vs[j]? with
  | none => rw [hv] at hj; cases hj
  | some y => rw [hv] at hj; exact ⟨y, rfl, by simpa using hj⟩
 obtain ⟨⟨u', V⟩, hz, rfl⟩ := hV
 have hok := g3 _ (List.mem_of_getElem? hz)
 obtain ⟨g, cap, hg⟩ := own_block g2
 cases hg
 have hc := own_cell (j := j * 7 + 4) g2 (flatE_get (fun y : Rl × RlV => Rl.dcells y.1 y.2) 7 (fun _ => rfl) Vs j _ hz 4 _ rfl)
 rw [hy] at hc
 injection hc with hc
 have k4 := hok.r
 rw [← hc] at k4
 exact own_capz k4
set_option maxRecDepth 100000 in
set_option maxHeartbeats 8000000 in
theorem covers29_in {w : World} {base : Nat} {c : Array Value} {x : Rs} (h : DVal w base c x) (gx : RsG x) (hl : x.rules.length ≤ 256) {i j : Nat} {a b : Rl} (hi : x.rules[i]? = some a) (hj : x.rules[j]? = some b) :
  Calls Tryd.prog 29 #[.agg c, .int .i64 ((i : Int) + 1), .int .i64 ((j : Int) + 1)] w fun e w' => e = .returned (.bool (coversB x a b)) ∧ Below w.heap.size w w' := by
 obtain ⟨i0, hin, hz0, hz1, hz2⟩ := info_parts info120
 have hV1 := h.one
 have hi31 : (Tryd.prog.info? 31).map (·.size) = some c.size := by rw [hV1.1]; kernel_rfl
 have hbT : Below w.heap.size w (w.alloc (.cells c 31)) := (Below.refl _ _).alloc (Nat.le_refl _) _
 have KT := hid (Blk.new w 31 c)
 have HV := hid (h.low hbT)
 have HB0 := hid hbT
 obtain ⟨Vc, v, h2, h3, h4, h5⟩ := (h.low hbT).ex
 obtain ⟨pv, cv, rfl⟩ : ∃ pv cv, v = .slice pv x.rules.length cv := by obtain ⟨Vs, g1, g2, g3⟩ := h5; exact own_shape g2
 obtain ⟨G, p1, p2, p3, p4, c1, c2, c3, c4, rfl, HA0⟩ := drows_ruD h5 hi
 obtain ⟨G', q1, q2, q3, q4, d1, d2, d3, d4, hG, HB1⟩ := drows_ruD h5 hj
 injection hG with hG
 injection hG with hG
 subst hG
 have hcap := drows_capr h5 hj HB1.y4
 have ga := gx.r a (List.mem_of_getElem? hi)
 have gb := gx.r b (List.mem_of_getElem? hj)
 have hin1 := (List.getElem?_eq_some_iff.1 hi).1
 have hjn1 := (List.getElem?_eq_some_iff.1 hj).1
 obtain ⟨n, hnn⟩ : ∃ n, x.rules.length = n := ⟨_, rfl⟩
 rw [hnn] at h4 hl hin1 hjn1
 have b78 := KT.out.cell (k := 78) h4
 have bf := KT.out.froz
 obtain ⟨an, han⟩ : ∃ an, a.body.length = an := ⟨_, rfl⟩
 obtain ⟨al, hal⟩ : ∃ al, a.left.length = al := ⟨_, rfl⟩
 obtain ⟨ar, har⟩ : ∃ ar, a.right.length = ar := ⟨_, rfl⟩
 obtain ⟨ap, hap⟩ : ∃ ap, a.phones.length = ap := ⟨_, rfl⟩
 obtain ⟨bn, hbn⟩ : ∃ bn, b.body.length = bn := ⟨_, rfl⟩
 obtain ⟨bl, hbl⟩ : ∃ bl, b.left.length = bl := ⟨_, rfl⟩
 obtain ⟨br, hbr⟩ : ∃ br, b.right.length = br := ⟨_, rfl⟩
 obtain ⟨bp, hbp⟩ : ∃ bp, b.phones.length = bp := ⟨_, rfl⟩
 have ga1 := ga.ln
 have ga2 := ga.rn
 have ga3 := ga.b1
 have ga4 := ga.bn
 have gb1 := gb.ln
 have gb2 := gb.rn
 have gb3 := gb.b1
 have gb4 := gb.bn
 have ya0 := HA0.y0
 have ya1 := HA0.y1
 have ya2 := HA0.y2
 have ya3 := HA0.y3
 have ya4 := HA0.y4
 have ya5 := HA0.y5
 have ya6 := HA0.y6
 have yb0 := HB1.y0
 have yb1 := HB1.y1
 have yb2 := HB1.y2
 have yb3 := HB1.y3
 have yb4 := HB1.y4
 have yb5 := HB1.y5
 have yb6 := HB1.y6
 rw [han] at ga3 ga4 ya3
 rw [hal] at ga1 ya2
 rw [har] at ga2 ya4
 rw [hap] at ya6
 rw [hbn] at gb3 gb4 yb3
 rw [hbl] at gb1 yb2
 rw [hbr] at gb2 yb4
 rw [hbp] at yb6
 have HAL := hid HA0.l
 have HAR := hid HA0.r
 have HAB := hid HA0.b
 have HBL := hid HB1.l
 have HBR := hid HB1.r
 have HBB := hid HB1.b
 have HGA := hid ga
 have HGB := hid gb
 have LAN := hid han
 have LAL := hid hal
 have LAR := hid har
 have LBN := hid hbn
 have LBL := hid hbl
 have LBR := hid hbr
 have HC2 := hid hcap
 have r1 : decide ((i : Int) + 1 < 1) = false := decide_eq_false (by omega)
 have r2 : decide ((j : Int) + 1 < 1) = false := decide_eq_false (by omega)
 have r3 : decide ((n : Int) < (i : Int) + 1) = false := decide_eq_false (by omega)
 have r4 : decide ((n : Int) < (j : Int) + 1) = false := decide_eq_false (by omega)
 have s1 : IntKind.i64.wrap ((i : Int) + 1 - 1) = i := by rw [Int.add_sub_cancel]; exact Wi64 (by omega)
 have s2 : IntKind.i64.wrap ((j : Int) + 1 - 1) = j := by rw [Int.add_sub_cancel]; exact Wi64 (by omega)
 have s7 : IntKind.i64.wrap (i : Int) = i := Wi64 (by omega)
 have s8 : IntKind.i64.wrap (j : Int) = j := Wi64 (by omega)
 have s3 : (i : Int) < n := by omega
 have s4 : (j : Int) < n := by omega
 have s5 : (0 : Int) ≤ i := by omega
 have s6 : (0 : Int) ≤ j := by omega
 have hcov := hid (coversB_pre x a b)
 rw [han, hal, har, hbn, hbl] at hcov
 obtain ⟨ABg, hab⟩ : ∃ z, a.begins = z := ⟨_, rfl⟩
 obtain ⟨AEn, hae⟩ : ∃ z, a.ends = z := ⟨_, rfl⟩
 obtain ⟨BBg, hbb⟩ : ∃ z, b.begins = z := ⟨_, rfl⟩
 obtain ⟨BEn, hbe⟩ : ∃ z, b.ends = z := ⟨_, rfl⟩
 rw [hab, hae, hbb, hbe] at hcov
 rw [hab] at ya1
 rw [hae] at ya5
 rw [hbb] at yb1
 rw [hbe] at yb5
 generalize a.line = aline at *
 generalize b.line = bline at *
 clear h h2 h3 h4 h5 HA0 HB1 ga gb hi hj hnn han hal har hap hbn hbl hbr hbp hcap hab hae hbb hbe
 go_enter Tryd.func29, Tryd.ntmps29
 go_wp2_with fail
 obtain ⟨T, hT⟩ : ∃ T, w.heap.size = T := ⟨_, rfl⟩
 rw [hT] at KT b78
 simp only [hT] at bf ⊢
 have hTw := hid hT
 clear hT hbT
 generalize w.alloc (.cells c 31) = W0 at *
 go_cut [7, 8] from 34 to 45 (fun v7 v8 wd => ∃ A B : Nat, v7 = .pointer (some ⟨A, 0, none⟩) ∧ v8 = .pointer (some ⟨B, 0, none⟩) ∧ Hid (Blk wd A 43 #[.string aline, .bool ABg, .slice p1 al c1, .slice p3 an c3, .slice p2 ar c2, .bool AEn, .slice p4 ap c4]) ∧
  Hid (Blk wd B 43 #[.string bline, .bool BBg, .slice q1 bl d1, .slice q3 bn d3, .slice q2 br d2, .bool BEn, .slice q4 bp d4]) ∧ Hid (Below W0.heap.size W0 wd))
 case first => as_aux_lemma =>
  refine region_plan [] (.quiet 0 (.quiet 1 (.quiet 2 (.quiet 3 (.quiet 4 (.quiet 5 (.quiet 6 (.quiet 7 (.quiet 8 (.quiet 9 (.quiet 10 (.quiet 11 (.two 12 (.one 13 (.one 14 (.one 15 .done))) 13 (.one 12 (.one 14 (.one 15 .done)))))))))))))))) (by kernel_rfl) (by kernel_rfl) ?_
  repeat (apply p_quiet; (case hi => rfl); intro K hK; go_simp; (refine ⟨hK _ ?_⟩; clear hK K))
  refine p_two ?_ ?_
  ·apply p_one
   case hi => rfl
   intro Wa hba K hK
   go_wp2_with fail
   have hb1 : Below Wa.heap.size Wa (Wa.alloc (.cells #[.string ⟨#[]⟩, .bool false, .slice none 0 0, .slice none 0 0, .slice none 0 0, .bool false, .slice none 0 0] 43)) := (Below.refl _ _).alloc (Nat.le_refl _) _
   refine hK _ _ (ButS.of (bnext hba hb1)) ?_
   have kA := hid (Blk.new Wa 43 #[.string ⟨#[]⟩, .bool false, .slice none 0 0, .slice none 0 0, .slice none 0 0, .bool false, .slice none 0 0])
   have hB1 := hid (bnext hba hb1)
   have hge1 : W0.heap.size ≤ Wa.heap.size := hba.size
   clear hK K hb1 hba
   generalize Wa.alloc (.cells #[.string ⟨#[]⟩, .bool false, .slice none 0 0, .slice none 0 0, .slice none 0 0, .bool false, .slice none 0 0] 43) = W1 at *
   generalize Wa.heap.size = A at *
   have hlt1 : A < W1.heap.size := kA.out.lt
   apply p_one
   case hi => rfl
   intro Wb hbb K hK
   go_wp2_with fail
   have hb2 : Below Wb.heap.size Wb (Wb.alloc (.cells #[.string ⟨#[]⟩, .bool false, .slice none 0 0, .slice none 0 0, .slice none 0 0, .bool false, .slice none 0 0] 43)) := (Below.refl _ _).alloc (Nat.le_refl _) _
   refine hK _ _ ((ButS.of hB1.out).trans (ButS.of (bnext hbb hb2))) ?_
   replace kA := hid ((kA.out.low hbb).low hb2)
   have kB := hid (Blk.new Wb 43 #[.string ⟨#[]⟩, .bool false, .slice none 0 0, .slice none 0 0, .slice none 0 0, .bool false, .slice none 0 0])
   have hB2 := hid (bnext (bnext hB1.out hbb) hb2)
   have hlt2 : A < Wb.heap.size := Nat.lt_of_lt_of_le hlt1 hbb.size
   clear hK K hb2 hbb hB1
   generalize Wb.alloc (.cells #[.string ⟨#[]⟩, .bool false, .slice none 0 0, .slice none 0 0, .slice none 0 0, .bool false, .slice none 0 0] 43) = W2 at *
   generalize Wb.heap.size = B at *
   apply p_one
   case hi => rfl
   intro Wc hbc K hK
   replace kA := hid (kA.out.low hbc)
   replace kB := hid (kB.out.low hbc)
   have hA3 := hid (setRow_heap Wc A #[.string ⟨#[]⟩, .bool false, .slice none 0 0, .slice none 0 0, .slice none 0 0, .bool false, .slice none 0 0] #[.string aline, .bool ABg, .slice p1 al c1, .slice p3 an c3, .slice p2 ar c2, .bool AEn, .slice p4 ap c4] 43 _ kA.out)
   have hR3 := hid (setRow_but Wc A #[.string aline, .bool ABg, .slice p1 al c1, .slice p3 an c3, .slice p2 ar c2, .bool AEn, .slice p4 ap c4])
   have hB3 := hid (hR3.out.below (n := W0.heap.size) (fun k hk => by rw [List.mem_singleton] at hk; omega) (bnext hB2.out hbc).size)
   refine wpList_store_row rfl 43 _ _ rfl A #[.string aline, .bool ABg, .slice p1 al c1, .slice p3 an c3, .slice p2 ar c2, .bool AEn, .slice p4 ap c4] rfl rfl 43 #[.string ⟨#[]⟩, .bool false, .slice none 0 0, .slice none 0 0, .slice none 0 0, .bool false, .slice none 0 0] kA.out (by kernel_rfl) rfl (by simp [Value.oneCell']) ?_
   have hB4 := hid ((bnext hB2.out hbc).trans hB3.out)
   refine ⟨rfl, hK _ _ (ButS.of hB4.out) ?_⟩
   replace kA := hid (show Blk (Wc.setRow A #[.string aline, .bool ABg, .slice p1 al c1, .slice p3 an c3, .slice p2 ar c2, .bool AEn, .slice p4 ap c4]) A 43 #[.string aline, .bool ABg, .slice p1 al c1, .slice p3 an c3, .slice p2 ar c2, .bool AEn, .slice p4 ap c4] from hA3.out)
   replace kB := hid (show Blk (Wc.setRow A #[.string aline, .bool ABg, .slice p1 al c1, .slice p3 an c3, .slice p2 ar c2, .bool AEn, .slice p4 ap c4]) B 43 #[.string ⟨#[]⟩, .bool false, .slice none 0 0, .slice none 0 0, .slice none 0 0, .bool false, .slice none 0 0] from (hR3.out.block B kB.out.lt (by simp; omega)).trans kB.out)
   clear hK K hB2 hB3 hR3 hA3 hbc
   generalize Wc.setRow A #[.string aline, .bool ABg, .slice p1 al c1, .slice p3 an c3, .slice p2 ar c2, .bool AEn, .slice p4 ap c4] = W3 at *
   apply p_one
   case hi => rfl
   intro Wd hbd K hK
   replace kA := hid (kA.out.low hbd)
   replace kB := hid (kB.out.low hbd)
   have hA3 := hid (setRow_heap Wd B #[.string ⟨#[]⟩, .bool false, .slice none 0 0, .slice none 0 0, .slice none 0 0, .bool false, .slice none 0 0] #[.string bline, .bool BBg, .slice q1 bl d1, .slice q3 bn d3, .slice q2 br d2, .bool BEn, .slice q4 bp d4] 43 _ kB.out)
   have hR3 := hid (setRow_but Wd B #[.string bline, .bool BBg, .slice q1 bl d1, .slice q3 bn d3, .slice q2 br d2, .bool BEn, .slice q4 bp d4])
   have hB3 := hid (hR3.out.below (n := W0.heap.size) (fun k hk => by rw [List.mem_singleton] at hk; omega) (bnext hB4.out hbd).size)
   refine wpList_store_row rfl 43 _ _ rfl B #[.string bline, .bool BBg, .slice q1 bl d1, .slice q3 bn d3, .slice q2 br d2, .bool BEn, .slice q4 bp d4] rfl rfl 43 #[.string ⟨#[]⟩, .bool false, .slice none 0 0, .slice none 0 0, .slice none 0 0, .bool false, .slice none 0 0] kB.out (by kernel_rfl) rfl (by simp [Value.oneCell']) ?_
   have hB5 := hid ((bnext hB4.out hbd).trans hB3.out)
   refine ⟨rfl, hK _ _ (ButS.of hB5.out) ?_⟩
   replace kB := hid (show Blk (Wd.setRow B #[.string bline, .bool BBg, .slice q1 bl d1, .slice q3 bn d3, .slice q2 br d2, .bool BEn, .slice q4 bp d4]) B 43 #[.string bline, .bool BBg, .slice q1 bl d1, .slice q3 bn d3, .slice q2 br d2, .bool BEn, .slice q4 bp d4] from hA3.out)
   replace kA := hid (show Blk (Wd.setRow B #[.string bline, .bool BBg, .slice q1 bl d1, .slice q3 bn d3, .slice q2 br d2, .bool BEn, .slice q4 bp d4]) A 43 #[.string aline, .bool ABg, .slice p1 al c1, .slice p3 an c3, .slice p2 ar c2, .bool AEn, .slice p4 ap c4] from (hR3.out.block A kA.out.lt (by simp; omega)).trans kA.out)
   clear hK K hB4 hB3 hR3 hA3 hbd
   generalize Wd.setRow B #[.string bline, .bool BBg, .slice q1 bl d1, .slice q3 bn d3, .slice q2 br d2, .bool BEn, .slice q4 bp d4] = W4 at *
   apply p_done
   intro We hbe
   replace kA := hid (kA.out.low hbe)
   replace kB := hid (kB.out.low hbe)
   have hB6 := hid (bnext hB5.out hbe)
   go_wp2_with fail
   go_meet
   exact ⟨A, B, rfl, rfl, kA, kB, hB6⟩
  ·apply p_one
   case hi => rfl
   intro Wa hba K hK
   go_wp2_with fail
   have hb1 : Below Wa.heap.size Wa (Wa.alloc (.cells #[.string ⟨#[]⟩, .bool false, .slice none 0 0, .slice none 0 0, .slice none 0 0, .bool false, .slice none 0 0] 43)) := (Below.refl _ _).alloc (Nat.le_refl _) _
   refine hK _ _ (ButS.of (bnext hba hb1)) ?_
   have kB := hid (Blk.new Wa 43 #[.string ⟨#[]⟩, .bool false, .slice none 0 0, .slice none 0 0, .slice none 0 0, .bool false, .slice none 0 0])
   have hB1 := hid (bnext hba hb1)
   have hge1 : W0.heap.size ≤ Wa.heap.size := hba.size
   clear hK K hb1 hba
   generalize Wa.alloc (.cells #[.string ⟨#[]⟩, .bool false, .slice none 0 0, .slice none 0 0, .slice none 0 0, .bool false, .slice none 0 0] 43) = W1 at *
   generalize Wa.heap.size = B at *
   have hlt1 : B < W1.heap.size := kB.out.lt
   apply p_one
   case hi => rfl
   intro Wb hbb K hK
   go_wp2_with fail
   have hb2 : Below Wb.heap.size Wb (Wb.alloc (.cells #[.string ⟨#[]⟩, .bool false, .slice none 0 0, .slice none 0 0, .slice none 0 0, .bool false, .slice none 0 0] 43)) := (Below.refl _ _).alloc (Nat.le_refl _) _
   refine hK _ _ ((ButS.of hB1.out).trans (ButS.of (bnext hbb hb2))) ?_
   replace kB := hid ((kB.out.low hbb).low hb2)
   have kA := hid (Blk.new Wb 43 #[.string ⟨#[]⟩, .bool false, .slice none 0 0, .slice none 0 0, .slice none 0 0, .bool false, .slice none 0 0])
   have hB2 := hid (bnext (bnext hB1.out hbb) hb2)
   have hlt2 : B < Wb.heap.size := Nat.lt_of_lt_of_le hlt1 hbb.size
   clear hK K hb2 hbb hB1
   generalize Wb.alloc (.cells #[.string ⟨#[]⟩, .bool false, .slice none 0 0, .slice none 0 0, .slice none 0 0, .bool false, .slice none 0 0] 43) = W2 at *
   generalize Wb.heap.size = A at *
   apply p_one
   case hi => rfl
   intro Wc hbc K hK
   replace kA := hid (kA.out.low hbc)
   replace kB := hid (kB.out.low hbc)
   have hA3 := hid (setRow_heap Wc A #[.string ⟨#[]⟩, .bool false, .slice none 0 0, .slice none 0 0, .slice none 0 0, .bool false, .slice none 0 0] #[.string aline, .bool ABg, .slice p1 al c1, .slice p3 an c3, .slice p2 ar c2, .bool AEn, .slice p4 ap c4] 43 _ kA.out)
   have hR3 := hid (setRow_but Wc A #[.string aline, .bool ABg, .slice p1 al c1, .slice p3 an c3, .slice p2 ar c2, .bool AEn, .slice p4 ap c4])
   have hB3 := hid (hR3.out.below (n := W0.heap.size) (fun k hk => by rw [List.mem_singleton] at hk; omega) (bnext hB2.out hbc).size)
   refine wpList_store_row rfl 43 _ _ rfl A #[.string aline, .bool ABg, .slice p1 al c1, .slice p3 an c3, .slice p2 ar c2, .bool AEn, .slice p4 ap c4] rfl rfl 43 #[.string ⟨#[]⟩, .bool false, .slice none 0 0, .slice none 0 0, .slice none 0 0, .bool false, .slice none 0 0] kA.out (by kernel_rfl) rfl (by simp [Value.oneCell']) ?_
   have hB4 := hid ((bnext hB2.out hbc).trans hB3.out)
   refine ⟨rfl, hK _ _ (ButS.of hB4.out) ?_⟩
   replace kA := hid (show Blk (Wc.setRow A #[.string aline, .bool ABg, .slice p1 al c1, .slice p3 an c3, .slice p2 ar c2, .bool AEn, .slice p4 ap c4]) A 43 #[.string aline, .bool ABg, .slice p1 al c1, .slice p3 an c3, .slice p2 ar c2, .bool AEn, .slice p4 ap c4] from hA3.out)
   replace kB := hid (show Blk (Wc.setRow A #[.string aline, .bool ABg, .slice p1 al c1, .slice p3 an c3, .slice p2 ar c2, .bool AEn, .slice p4 ap c4]) B 43 #[.string ⟨#[]⟩, .bool false, .slice none 0 0, .slice none 0 0, .slice none 0 0, .bool false, .slice none 0 0] from (hR3.out.block B kB.out.lt (by simp; omega)).trans kB.out)
   clear hK K hB2 hB3 hR3 hA3 hbc
   generalize Wc.setRow A #[.string aline, .bool ABg, .slice p1 al c1, .slice p3 an c3, .slice p2 ar c2, .bool AEn, .slice p4 ap c4] = W3 at *
   apply p_one
   case hi => rfl
   intro Wd hbd K hK
   replace kA := hid (kA.out.low hbd)
   replace kB := hid (kB.out.low hbd)
   have hA3 := hid (setRow_heap Wd B #[.string ⟨#[]⟩, .bool false, .slice none 0 0, .slice none 0 0, .slice none 0 0, .bool false, .slice none 0 0] #[.string bline, .bool BBg, .slice q1 bl d1, .slice q3 bn d3, .slice q2 br d2, .bool BEn, .slice q4 bp d4] 43 _ kB.out)
   have hR3 := hid (setRow_but Wd B #[.string bline, .bool BBg, .slice q1 bl d1, .slice q3 bn d3, .slice q2 br d2, .bool BEn, .slice q4 bp d4])
   have hB3 := hid (hR3.out.below (n := W0.heap.size) (fun k hk => by rw [List.mem_singleton] at hk; omega) (bnext hB4.out hbd).size)
   refine wpList_store_row rfl 43 _ _ rfl B #[.string bline, .bool BBg, .slice q1 bl d1, .slice q3 bn d3, .slice q2 br d2, .bool BEn, .slice q4 bp d4] rfl rfl 43 #[.string ⟨#[]⟩, .bool false, .slice none 0 0, .slice none 0 0, .slice none 0 0, .bool false, .slice none 0 0] kB.out (by kernel_rfl) rfl (by simp [Value.oneCell']) ?_
   have hB5 := hid ((bnext hB4.out hbd).trans hB3.out)
   refine ⟨rfl, hK _ _ (ButS.of hB5.out) ?_⟩
   replace kB := hid (show Blk (Wd.setRow B #[.string bline, .bool BBg, .slice q1 bl d1, .slice q3 bn d3, .slice q2 br d2, .bool BEn, .slice q4 bp d4]) B 43 #[.string bline, .bool BBg, .slice q1 bl d1, .slice q3 bn d3, .slice q2 br d2, .bool BEn, .slice q4 bp d4] from hA3.out)
   replace kA := hid (show Blk (Wd.setRow B #[.string bline, .bool BBg, .slice q1 bl d1, .slice q3 bn d3, .slice q2 br d2, .bool BEn, .slice q4 bp d4]) A 43 #[.string aline, .bool ABg, .slice p1 al c1, .slice p3 an c3, .slice p2 ar c2, .bool AEn, .slice p4 ap c4] from (hR3.out.block A kA.out.lt (by simp; omega)).trans kA.out)
   clear hK K hB4 hB3 hR3 hA3 hbd
   generalize Wd.setRow B #[.string bline, .bool BBg, .slice q1 bl d1, .slice q3 bn d3, .slice q2 br d2, .bool BEn, .slice q4 bp d4] = W4 at *
   apply p_done
   intro We hbe
   replace kA := hid (kA.out.low hbe)
   replace kB := hid (kB.out.low hbe)
   have hB6 := hid (bnext hB5.out hbe)
   go_wp2_with fail
   go_meet
   exact ⟨A, B, rfl, rfl, kA, kB, hB6⟩
 case rest =>
  obtain ⟨A, B, rfl, rfl, kA, kB, hB6⟩ := hcut
  have HAL1 := hid (HAL.out.low hB6.out)
  have HAR1 := hid (HAR.out.low hB6.out)
  have HAB1 := hid (HAB.out.low hB6.out)
  have HBL1 := hid (HBL.out.low hB6.out)
  have HBR1 := hid (HBR.out.low hB6.out)
  have HBB1 := hid (HBB.out.low hB6.out)
  have KT1 := hid (KT.out.low hB6.out)
  have HV1 := hid (HV.out.low hB6.out)
  have HW1 := hid (bnext HB0.out hB6.out)
  clear HAL HAR HAB HBL HBR HBB KT HV HB0 hB6 ya0 ya1 ya2 ya3 ya4 ya5 ya6 yb0 yb1 yb2 yb3 yb4 yb5 yb6 b78 bf s1 s2 s3 s4 s5 s6 s7 s8 r1 r2 r3 r4
  generalize wc = W1 at *
  have zaf := kA.out.froz
  have zbf := kB.out.froz
  have za3 : W1.cell? ⟨A, 3, none⟩ = some (.slice p3 an c3) := kA.out.cell (k := 3) rfl
  have zb3 : W1.cell? ⟨B, 3, none⟩ = some (.slice q3 bn d3) := kB.out.cell (k := 3) rfl
  by_cases hgt : bn < an
  ·have t1 := dT (show (bn : Int) < an by omega)
   go_wp2_with fail
   go_ret
   exact ⟨by rw [hcov.out, decide_eq_false (show ¬ an ≤ bn by omega)]; rfl, HW1.out⟩
  have t1 := dF (show ¬ (bn : Int) < an by omega)
  rw [decide_eq_true (show an ≤ bn by omega), Bool.true_and] at hcov
  go_wp2_with fail
  clear za3 zb3 zaf zbf
  go_loopw [9] (fun v9 wr => ∃ k : Nat, k ≤ an ∧ v9 = .int .i64 k ∧ Hid (a.body.take k = b.body.take k) ∧ Hid (Below W1.heap.size W1 wr)) (fun v _ => an - (RowKit.intOf v).toNat)
  case atStart => exact ⟨0, Nat.zero_le _, rfl, hid (by simp), hid (Below.refl _ _)⟩
  case round =>
   obtain ⟨k, hk, rfl, hS, hB⟩ := hrel
   have hw1 : IntKind.i64.wrap ((k : Int) + 1) = (k : Int) + 1 := Wi64 (by omega)
   have kA2 := hid (kA.out.low hB.out)
   have kB2 := hid (kB.out.low hB.out)
   have zaf := kA2.out.froz
   have zbf := kB2.out.froz
   have za3 : wr.cell? ⟨A, 3, none⟩ = some (.slice p3 an c3) := kA2.out.cell (k := 3) rfl
   have zb3 : wr.cell? ⟨B, 3, none⟩ = some (.slice q3 bn d3) := kB2.out.cell (k := 3) rfl
   by_cases hlt : k < an
   ·--<F
    have u1 := dT (show (k : Int) < an by omega)
    have u2 : (k : Int) < an := by omega
    have u3 : (k : Int) < bn := by omega
    have u4 : (0 : Int) ≤ k := by omega
    obtain ⟨ua, hua⟩ : ∃ o, a.body[k]? = some o := ⟨_, List.getElem?_eq_getElem (by rw [LAN.out]; exact hlt)⟩
    obtain ⟨ub, hub⟩ : ∃ o, b.body[k]? = some o := ⟨_, List.getElem?_eq_getElem (by rw [LBN.out]; omega)⟩
    obtain ⟨g2, o2, rfl, a0, a1, a2⟩ := (HAB1.out.low hB.out).at hua
    obtain ⟨g3, o3, rfl, b0, b1, b2⟩ := (HBB1.out.low hB.out).at hub
    by_cases hab : ua = ub
    ·have hS5 := hid (take_snoc hS.out hua (by rw [hub, hab]))
     subst hab
     clear hua hub
     go_wp2_with fail
     go_quiet (fail)
     have hB5 := hid (bel_dr hB.out nq)
     go_wp2_with fail
     go_roundw
     case rel => exact ⟨k + 1, by omega, by go_num, hS5, hB5⟩
     case measure => simp [RowKit.intOf] <;> omega
    ·have u7 : decide (ua = ub) = false := decide_eq_false hab
     have hE2 := hid (eq_take (L1 := a.body) (L2 := b.body.take an) (by rw [List.length_take, LAN.out, LBN.out]; omega) hua (by rw [List.getElem?_take, if_pos hlt]; exact hub) hab)
     clear hua hub hab
     go_wp2_with fail
     go_quiet (fail)
     go_wp2_with fail
     go_ret
     exact ⟨by rw [hcov.out, hE2.out]; rfl, bel_dr (bnext HW1.out hB.out) _⟩
   ·obtain rfl : k = an := by omega
    have u1 : decide ((k : Int) < k) = false := by simp
    have hE2 : (a.body == b.body.take k) = true := by
     have h1 := hS.out
     rw [List.take_of_length_le (by rw [LAN.out]; exact Nat.le_refl _)] at h1
     rw [← h1]; simp
    rw [hE2, Bool.true_and] at hcov
    obtain ⟨K, hK⟩ : ∃ K, bn = k + K := ⟨bn - k, by omega⟩
    obtain ⟨UL, hUL⟩ : ∃ UL, b.body.drop k = UL := ⟨_, rfl⟩
    have hULn : UL.length = K := by rw [← hUL, List.length_drop, LBN.out, hK]; omega
    have hBh : Hid (behindL k b = UL.map (fun u => (⟨0, u⟩ : Item)) ++ b.right) := hid (by unfold behindL; rw [hUL])
    have hKb : K ≤ 64 := by omega
    obtain ⟨IL, hIL⟩ : ∃ IL, UL.map (fun u => (⟨0, u⟩ : Item)) = IL := ⟨_, rfl⟩
    rw [hIL] at hBh
    have HUN := hid hULn
    have HIL := hid hIL
    have HUL := hid hUL
    have HK := hid hK
    clear hULn hIL hUL hE2 hS hK
    generalize wr = W2 at *
    go_wp2_with fail
    clear zaf zbf za3 zb3
    go_loopw [10, 11] (fun v10 v11 wr => ∃ r q : Nat, r = k + q ∧ r ≤ bn ∧ v11 = .int .i64 r ∧ Hid (wr.ownsRow W2.heap.size 120 4 v10 q (flatE Item.cells (IL.take q))) ∧ Hid (Below W2.heap.size W2 wr)) (fun _ v _ => bn - (RowKit.intOf v).toNat)
    case atStart => exact ⟨k, 0, rfl, by omega, rfl, hid (World.ownsRow_nil _ _ _ _), hid (Below.refl _ _)⟩
    case round =>
     obtain ⟨r, q, hr, hrb, rfl, hO, hB5⟩ := hrel
     have hB7 := hid (bnext hB.out hB5.out)
     have kB3 := hid (kB2.out.low hB5.out)
     have zbf := kB3.out.froz
     have zb3 : wr.cell? ⟨B, 3, none⟩ = some (.slice q3 bn d3) := kB3.out.cell (k := 3) rfl
     have hw1 : IntKind.i64.wrap ((r : Int) + 1) = (r : Int) + 1 := Wi64 (by omega)
     obtain ⟨pv, cv2, rfl⟩ := own_shape hO.out
     by_cases hlt2 : r < bn
     ·--<G
      have u1 := dT (show (r : Int) < bn by omega)
      have u2 : (r : Int) < bn := by omega
      have u3 : (0 : Int) ≤ r := by omega
      obtain ⟨u, hu⟩ : ∃ u, b.body[r]? = some u := ⟨_, List.getElem?_eq_getElem (by rw [LBN.out]; omega)⟩
      have htk : Hid (IL.take (q + 1) = IL.take q ++ [⟨0, u⟩]) := hid (by rw [List.take_add_one, ← HIL.out, List.getElem?_map, ← HUL.out, List.getElem?_drop, ← hr, hu]; rfl)
      obtain ⟨g1, o1, rfl, a0, a1, a2⟩ := (HBB1.out.low hB7.out).at hu
      have hsz := hid hB5.out.size
      have hqb : q ≤ 64 := by omega
      have HRr := hid hr
      clear hu hr hB7
      go_wp2_with (at_builtin; refine wpList_append_own _ rfl (.tmp 81) (.tmp 88) 40 rfl W2.heap.size 120 i0 _ 4 12 Tryd.underlying40 hin hz0 hz1 hz2 rfl (by decide) _ _ _ rfl (hO.out.alloc _) ⟨wr.heap.size, 0, none⟩ 1 1 [.int .u8 0, .int .i32 u.r, .bool u.br, .int .u8 u.b] rfl rfl (cells_new4 _ _ _ _ _ _) (by simp [Value.oneCell']) (by unfold maxLen; omega) (by omega) (by have := hsz.out; simp <;> omega) ?_; refine stop_here ?_)
      refine hid ?_
      intro v' w5 hown hgrow hnil
      have hO5 : Hid (w5.ownsRow W2.heap.size 120 4 v' (q + 1) (flatE Item.cells (IL.take (q + 1)))) := hid (by rw [htk.out, flatE_snoc]; exact hown)
      have hB8 := hid ((hB5.out.alloc hsz.out (.cells #[.int .u8 0, .int .i32 u.r, .bool u.br, .int .u8 u.b] 120)).grown hgrow (by have := hsz.out; simp <;> omega) (fun k hk => (own_ge hO.out hk).1))
      clear hown hgrow hnil hO hB5 htk zb3 zbf kB3 a0 a1 a2
      go_wp2_with fail
      go_roundw
      case rel => exact ⟨r + 1, q + 1, by have := HRr.out; omega, by omega, by go_num, hO5, hB8⟩
      case measure => simp [RowKit.intOf] <;> omega
     ·obtain rfl : r = bn := by omega
      have u1 : decide ((r : Int) < r) = false := by simp
      obtain rfl : q = K := by have := HK.out; omega
      have HRr := hid hr
      clear hr
      have hIn : IL.length = q := by rw [← HIL.out, List.length_map]; exact HUN.out
      have hO2 : Hid (wr.ownsRow W2.heap.size 120 4 (.slice pv q cv2) q (flatE Item.cells IL)) := hid (by have := hO.out; rw [List.take_of_length_le (by omega)] at this; exact this)
      have HIN := hid hIn
      have hHl : Hid ((behindL k b).length = q + br) := hid (by rw [hBh.out, List.length_append, HIN.out, LBR.out])
      clear hO hIn
      have kB4 := hid kB3.out
      have HRw := hid (HBR1.out.low hB7.out)
      have hsz := hid hB5.out.size
      go_upto_region 16 with fail
      clear zb3 zbf kB3
      go_cut [10] from 90 to 93 (fun v wd => ∃ pv2 cv3, v = .slice pv2 (q + br) cv3 ∧ Hid (wd.ownsRow W2.heap.size 120 4 (.slice pv2 (q + br) cv3) (q + br) (flatE Item.cells (behindL k b))) ∧ Hid (Below W2.heap.size W2 wd))
      case first => as_aux_lemma =>
       have zbf := kB4.out.froz
       have zb4 : wr.cell? ⟨B, 4, none⟩ = some (.slice q2 br d2) := kB4.out.cell (k := 4) rfl
       cases q2 with
       | none =>
        have hd0 := HC2.out rfl
        subst hd0
        have hx : b.right = [] := Classical.byContradiction fun hL => by obtain ⟨g, e, _⟩ := HRw.out hL; cases e
        have hb0 : br = 0 := by rw [← LBR.out, hx]; rfl
        subst hb0
        go_wp2_with (at_builtin; refine wpList_append_own_none rfl (.tmp 90) (.tmp 92) 40 rfl W2.heap.size 120 i0 4 Tryd.underlying40 hin _ _ _ rfl hO2.out rfl ?_; refine stop_here ?_)
        refine hid ?_
        go_wp2_with fail
        go_meet
        exact ⟨pv, cv2, rfl, by rw [hBh.out, hx, List.append_nil]; exact hO2, hB5⟩
       | some ad =>
        have hlenF : (flatE Item.cells b.right).length = br * 4 := by rw [← LBR.out]; exact flatE_len Item.cells 4 (fun _ => rfl) b.right
        have hNw := hid (item_all HRw.out)
        go_wp2_with (at_builtin; refine wpList_append_own _ rfl (.tmp 90) (.tmp 92) 40 rfl W2.heap.size 120 i0 _ 4 12 Tryd.underlying40 hin hz0 hz1 hz2 rfl (by decide) _ q _ rfl hO2.out ad br d2 (flatE Item.cells b.right) rfl hlenF hNw.out (item_one b.right) (by unfold maxLen; omega) (by omega) hsz.out ?_; refine stop_here ?_)
        refine hid ?_
        intro v' w5 hown hgrow hnil
        obtain ⟨pv2, cv3, rfl⟩ := own_shape hown
        have hO5 : Hid (w5.ownsRow W2.heap.size 120 4 (.slice pv2 (q + br) cv3) (q + br) (flatE Item.cells (behindL k b))) := hid (by
         have hfl : flatE Item.cells (behindL k b) = flatE Item.cells IL ++ flatE Item.cells b.right := by rw [hBh.out]; unfold flatE; rw [List.flatMap_append]
         rw [hfl]
         exact hown)
        have hB8 := hid (hB5.out.grown hgrow hsz.out (fun k hk => (own_ge hO2.out hk).1))
        clear hown hgrow hnil hO2 hNw
        go_wp2_with fail
        go_meet
        exact ⟨pv2, cv3, rfl, hO5, hB8⟩
      case rest =>
       obtain ⟨pv2, cv3, rfl, hBe, hBW⟩ := hcut
       have hB8 := hid (bnext hB.out hBW.out)
       have kA5 := hid (kA.out.low hB8.out)
       have kB5 := hid (kB.out.low hB8.out)
       have HAL5 := hid (HAL1.out.low hB8.out)
       have HAR5 := hid (HAR1.out.low hB8.out)
       have HBL5 := hid (HBL1.out.low hB8.out)
       have KT5 := hid (KT1.out.low hB8.out)
       have HV5 := hid (HV1.out.low hB8.out)
       have HW5 := hid (bnext HW1.out hB8.out)
       obtain ⟨H, hH⟩ : ∃ H, q + br = H := ⟨_, rfl⟩
       rw [hH] at hHl hBe ⊢
       have hHb : H ≤ 128 := by omega
       have HBE := hid (own_itemR (by rw [hHl.out]; exact hBe.out) : ItemR wc pv2 (behindL k b))
       rw [hHl.out] at hcov
       clear hO2 hsz hB7 hB5 hB kA2 kB2 kA kB HAL1 HAR1 HAB1 HBL1 HBR1 HBB1 KT1 HV1 HW1 hBW hB8 hH hBe kB4 HRw
       generalize wc = W3 at *
       go_wp2_with fail
       go_loopw [12] (fun v12 wr => ∃ d : Nat, d ≤ al ∧ d ≤ bl ∧ v12 = .int .i64 ((d : Int) + 1) ∧ Hid (pairsB x b.left.reverse a.left.reverse d = true) ∧ Hid (Below W3.heap.size W3 wr)) (fun v _ => al + 1 - (RowKit.intOf v).toNat)
       case atStart => exact ⟨0, Nat.zero_le _, Nat.zero_le _, by go_num, hid rfl, hid (Below.refl _ _)⟩
       case round =>
        obtain ⟨d, hd, hdb, rfl, hT, hB⟩ := hrel
        have kA6 := hid (kA5.out.low hB.out)
        have kB6 := hid (kB5.out.low hB.out)
        have KT6 := hid (KT5.out.low hB.out)
        have HV6 := hid (HV5.out.low hB.out)
        have HW6 := hid (bnext HW5.out hB.out)
        have zaf := kA6.out.froz
        have zbf := kB6.out.froz
        have za2 : wr.cell? ⟨A, 2, none⟩ = some (.slice p1 al c1) := kA6.out.cell (k := 2) rfl
        have zb2 : wr.cell? ⟨B, 2, none⟩ = some (.slice q1 bl d1) := kB6.out.cell (k := 2) rfl
        have hw1 : IntKind.i64.wrap ((d : Int) + 1 + 1) = (d : Int) + 1 + 1 := Wi64 (by omega)
        by_cases hlt3 : d < al
        ·--<D
         have u1 := dT (show (d : Int) + 1 ≤ al by omega)
         by_cases hbl9 : bl < d + 1
         ·have u2 := dT (show (bl : Int) < (d : Int) + 1 by omega)
          go_wp2_with fail
          go_quiet (fail)
          go_wp2_with fail
          go_ret
          exact ⟨by rw [hcov.out]; unfold preC; rw [decide_eq_false (show ¬ al ≤ bl by omega)]; rfl, bel_dr HW6.out _⟩
         have u2 := dF (show ¬ (bl : Int) < (d : Int) + 1 by omega)
         obtain ⟨k', hk'⟩ : ∃ k', al = k' + d + 1 := ⟨al - 1 - d, by omega⟩
         obtain ⟨m', hm'⟩ : ∃ m', bl = m' + d + 1 := ⟨bl - 1 - d, by omega⟩
         have u3 : IntKind.i64.wrap ((al : Int) - ((d : Int) + 1)) = k' := (Wi64 (by omega)).trans (by omega)
         have u4 : IntKind.i64.wrap ((bl : Int) - ((d : Int) + 1)) = m' := (Wi64 (by omega)).trans (by omega)
         have u5 : (k' : Int) < al := by omega
         have u6 : (m' : Int) < bl := by omega
         have u7 : (0 : Int) ≤ k' := by omega
         have u8 : (0 : Int) ≤ m' := by omega
         obtain ⟨ia, hia⟩ : ∃ it, a.left[k']? = some it := ⟨_, List.getElem?_eq_getElem (by rw [LAL.out]; omega)⟩
         obtain ⟨ib, hib⟩ : ∃ it, b.left[m']? = some it := ⟨_, List.getElem?_eq_getElem (by rw [LBL.out]; omega)⟩
         have hst := hid (pairsB_step (x := x) ((rev_at LBL.out hm').trans hib) ((rev_at LAL.out hk').trans hia))
         rw [hT.out, Bool.true_and] at hst
         have hIa : Hid (ItemG x.said ia) := hid (HGA.out.l ia (List.mem_of_getElem? hia))
         have hIb : Hid (ItemG x.said ib) := hid (HGB.out.l ib (List.mem_of_getElem? hib))
         obtain ⟨ga1', rfl, hca⟩ := HAL5.out.low hB.out (fun e => by rw [e] at hia; cases hia)
         obtain ⟨gb1', rfl, hcb⟩ := HBL5.out.low hB.out (fun e => by rw [e] at hib; cases hib)
         obtain ⟨a0, a1, a2, a3⟩ := hca k' ia hia
         obtain ⟨b0, b1, b2, b3⟩ := hcb m' ib hib
         have hC := hid (fun xx : Ext wr => within47 (HV6.out.low xx.h) gx ib ia hIb.out hIa.out)
         obtain ⟨hs, hhs⟩ : ∃ hs, withinB x ib ia = hs := ⟨_, rfl⟩
         rw [hhs] at hC hst
         unfold Item.val at *
         clear hca hcb hia hib hIa hIb hhs hT hk' hm'
         go_wp2_with fail
         refine ext_all (by kernel_rfl) (by kernel_rfl) ?_
         repeat (go_big_quiet_step (with_reducible exact Ext.call (hC.out _)))
         refine wpQuiet_load_row rfl 31 _ rfl T rfl 31 c (0, 0) _ (fun w hw => by obtain ⟨xx, rfl⟩ := hw; exact KT6.out.low xx.h) Tryd.underlying31 rfl hi31 ?_
         go_simp
         repeat (go_big_quiet_step (with_reducible exact Ext.call (hC.out _)))
         refine wpQuiet_nil ?_
         first | rintro _ ⟨xx, rfl⟩ | intro xx
         have hB7 := hid (bnext hB.out xx.h)
         have hW7 := hid (bnext HW6.out xx.h)
         generalize xx.w = W6 at *
         clear hC a0 a1 a2 a3 b0 b1 b2 b3 za2 zb2 zaf zbf kA6 kB6 KT6 HV6 HW6 hB
         cases hs with
         | false =>
          have hpn := hid (pairsB_no hst.out (Nat.succ_le_of_lt hlt3))
          go_wp2_with fail
          go_ret
          exact ⟨by rw [hcov.out, hpn.out, Bool.and_false, Bool.false_and]; rfl, hW7.out⟩
         | true =>
          go_wp2_with fail
          go_roundw
          case rel => exact ⟨d + 1, by omega, by omega, by go_num, hst, hB7⟩
          case measure => simp [RowKit.intOf] <;> omega
        ·obtain rfl : d = al := by omega
         have u1 := dF (show ¬ (d : Int) + 1 ≤ d by omega)
         rw [hT.out, Bool.and_true] at hcov
         have HBE6 := hid (HBE.out.low hB.out)
         have HAR6 := hid (HAR5.out.low hB.out)
         clear hT hB HBE HAR5 kA5 kB5 KT5 HV5 HW5 HAL5 HBL5
         generalize wr = W4 at *
         go_wp2_with fail
         clear za2 zb2 zaf zbf u1
         go_loopw [13] (fun v13 wr => ∃ e : Nat, e ≤ ar ∧ e ≤ H ∧ v13 = .int .i64 e ∧ Hid (pairsB x (behindL k b) a.right e = true) ∧ Hid (Below W4.heap.size W4 wr)) (fun v _ => ar - (RowKit.intOf v).toNat)
         case atStart => exact ⟨0, Nat.zero_le _, Nat.zero_le _, rfl, hid rfl, hid (Below.refl _ _)⟩
         case round =>
          obtain ⟨e, he, heH, rfl, hT, hB⟩ := hrel
          have kA7 := hid (kA6.out.low hB.out)
          have kB7 := hid (kB6.out.low hB.out)
          have HW7 := hid (bnext HW6.out hB.out)
          have zaf := kA7.out.froz
          have za4 : wr.cell? ⟨A, 4, none⟩ = some (.slice p2 ar c2) := kA7.out.cell (k := 4) rfl
          have hw1 : IntKind.i64.wrap ((e : Int) + 1) = (e : Int) + 1 := Wi64 (by omega)
          by_cases hlt4 : e < ar
          ·--<J
           have u1 := dT (show (e : Int) < ar by omega)
           have u2 : (e : Int) < ar := by omega
           have u3 : (0 : Int) ≤ e := by omega
           by_cases hH9 : H ≤ e
           ·have u4 := dT (show (H : Int) ≤ e by omega)
            go_wp2_with fail
            go_quiet (fail)
            go_wp2_with fail
            go_ret
            exact ⟨by rw [hcov.out]; unfold preC; rw [decide_eq_false (show ¬ ar ≤ H by omega), Bool.and_false]; rfl, bel_dr HW7.out _⟩
           have u4 := dF (show ¬ (H : Int) ≤ e by omega)
           have u5 : (e : Int) < H := by omega
           have KT7 := hid (KT6.out.low hB.out)
           have HV7 := hid (HV6.out.low hB.out)
           obtain ⟨it, hit⟩ : ∃ it, a.right[e]? = some it := ⟨_, List.getElem?_eq_getElem (by rw [LAR.out]; exact hlt4)⟩
           obtain ⟨ib, hib⟩ : ∃ it, (behindL k b)[e]? = some it := ⟨_, List.getElem?_eq_getElem (by rw [hHl.out]; omega)⟩
           have hst := hid (pairsB_step (x := x) hib hit)
           rw [hT.out, Bool.true_and] at hst
           have hIa : Hid (ItemG x.said it) := hid (HGA.out.r it (List.mem_of_getElem? hit))
           have hIb : Hid (ItemG x.said ib) := hid (behindL_good HGB.out k ib (List.mem_of_getElem? hib))
           obtain ⟨ga1', rfl, hca⟩ := HAR6.out.low hB.out (fun e => by rw [e] at hit; cases hit)
           obtain ⟨gb1', rfl, hcb⟩ := HBE6.out.low hB.out (fun e => by rw [e] at hib; cases hib)
           obtain ⟨a0, a1, a2, a3⟩ := hca e it hit
           obtain ⟨b0, b1, b2, b3⟩ := hcb e ib hib
           have hC := hid (fun xx : Ext wr => within47 (HV7.out.low xx.h) gx ib it hIb.out hIa.out)
           obtain ⟨hs, hhs⟩ : ∃ hs, withinB x ib it = hs := ⟨_, rfl⟩
           rw [hhs] at hC hst
           unfold Item.val at *
           clear hca hcb hit hib hIa hIb hhs hT
           go_wp2_with fail
           refine ext_all (by kernel_rfl) (by kernel_rfl) ?_
           repeat (go_big_quiet_step (with_reducible exact Ext.call (hC.out _)))
           refine wpQuiet_load_row rfl 31 _ rfl T rfl 31 c (0, 0) _ (fun w hw => by obtain ⟨xx, rfl⟩ := hw; exact KT7.out.low xx.h) Tryd.underlying31 rfl hi31 ?_
           go_simp
           repeat (go_big_quiet_step (with_reducible exact Ext.call (hC.out _)))
           refine wpQuiet_nil ?_
           first | rintro _ ⟨xx, rfl⟩ | intro xx
           have hB8 := hid (bnext hB.out xx.h)
           have hW8 := hid (bnext HW7.out xx.h)
           generalize xx.w = W6 at *
           clear hC a0 a1 a2 a3 b0 b1 b2 b3 za4 zaf kA7 kB7 KT7 HV7 HW7 hB
           cases hs with
           | false =>
            have hpn := hid (pairsB_no hst.out (Nat.succ_le_of_lt hlt4))
            go_wp2_with fail
            go_ret
            exact ⟨by rw [hcov.out, hpn.out, Bool.and_false]; rfl, hW8.out⟩
           | true =>
            go_wp2_with fail
            go_roundw
            case rel => exact ⟨e + 1, by omega, by omega, by go_num, hst, hB8⟩
            case measure => simp [RowKit.intOf] <;> omega
          ·obtain rfl : e = ar := by omega
           have u1 : decide ((e : Int) < e) = false := by simp
           rw [hT.out, Bool.and_true] at hcov
           unfold preC at hcov
           rw [decide_eq_true (show d ≤ bl by omega), decide_eq_true (show e ≤ H by omega), Bool.true_and, Bool.true_and, dec_beq d bl, dec_beq e H] at hcov
           have zbf := kB7.out.froz
           have za1 : wr.cell? ⟨A, 1, none⟩ = some (.bool ABg) := kA7.out.cell (k := 1) rfl
           have za2 : wr.cell? ⟨A, 2, none⟩ = some (.slice p1 d c1) := kA7.out.cell (k := 2) rfl
           have za5 : wr.cell? ⟨A, 5, none⟩ = some (.bool AEn) := kA7.out.cell (k := 5) rfl
           have zb1 : wr.cell? ⟨B, 1, none⟩ = some (.bool BBg) := kB7.out.cell (k := 1) rfl
           have zb2 : wr.cell? ⟨B, 2, none⟩ = some (.slice q1 bl d1) := kB7.out.cell (k := 2) rfl
           have zb5 : wr.cell? ⟨B, 5, none⟩ = some (.bool BEn) := kB7.out.cell (k := 5) rfl
           obtain ⟨e1, he1⟩ : ∃ e1, ((d : Int) == bl) = e1 := ⟨_, rfl⟩
           obtain ⟨e2, he2⟩ : ∃ e2, ((e : Int) == H) = e2 := ⟨_, rfl⟩
           have hn1 : ((d : Int) != bl) = !e1 := by rw [← he1]; rfl
           rw [he1, he2] at hcov
           clear kA6 kB6 KT6 HV6 HW6 kA7 kB7 hB hT HBE6 HAR6
           have hbs : ABg = false ∨ (ABg = true ∧ BBg = false) ∨ (ABg = true ∧ BBg = true) := by cases ABg <;> cases BBg <;> simp
           have hes : AEn = false ∨ (AEn = true ∧ BEn = false) ∨ (AEn = true ∧ BEn = true) := by cases AEn <;> cases BEn <;> simp
           rcases hbs with rfl | ⟨rfl, rfl⟩ | ⟨rfl, rfl⟩
           ·rcases hes with rfl | ⟨rfl, rfl⟩ | ⟨rfl, rfl⟩
            all_goals cases e2
            all_goals
             go_wp2_with fail
             go_ret
             exact ⟨by rw [hcov.out]; rfl, HW7.out⟩
           ·clear hes
            go_wp2_with fail
            go_ret
            exact ⟨by rw [hcov.out]; rfl, HW7.out⟩
           ·cases e1 with
            | false =>
             clear hes
             go_wp2_with fail
             go_ret
             exact ⟨by rw [hcov.out]; rfl, HW7.out⟩
            | true =>
             rcases hes with rfl | ⟨rfl, rfl⟩ | ⟨rfl, rfl⟩
             all_goals cases e2
             all_goals
              go_wp2_with fail
              go_ret
              exact ⟨by rw [hcov.out]; rfl, HW7.out⟩
end Go.Proofs.YtieifhfgedoiaaaDoor

namespace Go.Proofs.YtieifhfgedoiaaaDoor
open Go.RowKit Go.Lib
open Go.ChangeMaps
set_option linter.unusedVariables false
set_option linter.unusedSimpArgs false
attribute [local go_sem] ExtS.cell ExtS.froz upE_value upE_skip upE_enter Ext.cell Ext.froz one_neq
set_option maxRecDepth 100000 in
set_option maxHeartbeats 4000000 in
theorem covers29_out {w : World} {base : Nat} {c : Array Value} {x : Rs} (h : DVal w base c x) {i j : Nat} (ho : i = 0 ∨ j = 0 ∨ x.rules.length < i ∨ x.rules.length < j) :
  Calls Tryd.prog 29 #[.agg c, .int .i64 i, .int .i64 j] w fun e w' => e = .returned (.bool false) ∧ Below w.heap.size w w' := by
 have hbT : Below w.heap.size w (w.alloc (.cells c 31)) := (Below.refl _ _).alloc (Nat.le_refl _) _
 have KT := hid (Blk.new w 31 c)
 have HB0 := hid hbT
 obtain ⟨Vc, v, h2, h3, h4, h5⟩ := (h.low hbT).ex
 obtain ⟨pv, cv, rfl⟩ : ∃ pv cv, v = .slice pv x.rules.length cv := by obtain ⟨Vs, g1, g2, g3⟩ := h5; exact own_shape g2
 obtain ⟨n, hn⟩ : ∃ n, x.rules.length = n := ⟨_, rfl⟩
 rw [hn] at h4 ho
 have b78 := KT.out.cell (k := 78) h4
 have bf := KT.out.froz
 clear h h2 h3 h4 h5 hn hbT
 by_cases h1 : i = 0
 ·subst h1
  go_enter Tryd.func29, Tryd.ntmps29
  go_wp2_with fail
  go_ret
  exact ⟨rfl, HB0.out⟩
 have q1 : decide ((i : Int) < 1) = false := decide_eq_false (by omega)
 by_cases h2 : j = 0
 ·subst h2
  go_enter Tryd.func29, Tryd.ntmps29
  go_wp2_with fail
  go_ret
  exact ⟨rfl, HB0.out⟩
 have q2 : decide ((j : Int) < 1) = false := decide_eq_false (by omega)
 have q5 : decide (i < 1) = false := decide_eq_false (by omega)
 have q6 : decide (j < 1) = false := decide_eq_false (by omega)
 by_cases h3 : n < i
 ·have q3 : decide ((n : Int) < i) = true := decide_eq_true (by omega)
  have q7 : decide (n < i) = true := decide_eq_true (by omega)
  go_enter Tryd.func29, Tryd.ntmps29
  go_wp2_with fail
  go_ret
  exact ⟨rfl, HB0.out⟩
 have q3 : decide ((n : Int) < i) = false := decide_eq_false (by omega)
 have q7 : decide (n < i) = false := decide_eq_false (by omega)
 have q4 : decide ((n : Int) < j) = true := decide_eq_true (by omega)
 have q8 : decide (n < j) = true := decide_eq_true (by omega)
 go_enter Tryd.func29, Tryd.ntmps29
 go_wp2_with fail
 go_ret
 exact ⟨rfl, HB0.out⟩
theorem covers29 {w : World} {base : Nat} {c : Array Value} {x : Rs} (h : DVal w base c x) (gx : RsG x) (hl : x.rules.length ≤ 256) (i j : Nat) :
  Calls Tryd.prog 29 #[.agg c, .int .i64 i, .int .i64 j] w fun e w' => e = .returned (.bool (coverN x i j)) ∧ Below w.heap.size w w' := by
 by_cases ho : i = 0 ∨ j = 0 ∨ x.rules.length < i ∨ x.rules.length < j
 ·rw [coverN_no ho]
  exact covers29_out h ho
 ·obtain ⟨i', rfl⟩ : ∃ i', i = i' + 1 := ⟨i - 1, by omega⟩
  obtain ⟨j', rfl⟩ : ∃ j', j = j' + 1 := ⟨j - 1, by omega⟩
  have hi : x.rules[i']? = some (x.rules[i']'(by omega)) := List.getElem?_eq_getElem _
  have hj : x.rules[j']? = some (x.rules[j']'(by omega)) := List.getElem?_eq_getElem _
  have hE : coverN x (i' + 1) (j' + 1) = coversB x (x.rules[i']'(by omega)) (x.rules[j']'(by omega)) := by
   unfold coverN ruleAt
   rw [if_neg (by omega), if_neg (by omega), Nat.add_sub_cancel, Nat.add_sub_cancel, hi, hj]
  rw [hE]
  have hC := covers29_in h gx hl hi hj
  rw [show (i' : Int) + 1 = ((i' + 1 : Nat) : Int) by omega, show (j' : Int) + 1 = ((j' + 1 : Nat) : Int) by omega] at hC
  exact hC
set_option maxRecDepth 100000 in
set_option maxHeartbeats 4000000 in
theorem dead31 {w : World} {base : Nat} {c : Array Value} {x : Rs} (h : DVal w base c x) (gx : RsG x) (hl : x.rules.length ≤ 256) :
  Calls Tryd.prog 31 #[.agg c] w fun e w' => (∃ v, e = .returned v ∧ w'.ownsRow w.heap.size 3 1 v (deadL x).length ((deadL x).map fun (q : Nat) => Value.int .i64 (q : Int))) ∧ Below w.heap.size w w' := by
 obtain ⟨i0, hin, hz0, hz1, hz2⟩ := info_parts info3
 have hV1 := h.one
 have hi31 : (Tryd.prog.info? 31).map (·.size) = some c.size := by rw [hV1.1]; kernel_rfl
 have hbT : Below w.heap.size w (w.alloc (.cells c 31)) := (Below.refl _ _).alloc (Nat.le_refl _) _
 have KT := hid (Blk.new w 31 c)
 have HV := hid (h.low hbT)
 have HB0 := hid hbT
 obtain ⟨Vc, v, h2, h3, h4, h5⟩ := (h.low hbT).ex
 obtain ⟨pv, cv, rfl⟩ : ∃ pv cv, v = .slice pv x.rules.length cv := by obtain ⟨Vs, g1, g2, g3⟩ := h5; exact own_shape g2
 obtain ⟨n, hnn⟩ : ∃ n, x.rules.length = n := ⟨_, rfl⟩
 have HNN := hid hnn
 rw [hnn] at h4 hl
 have H4 := hid h4
 have hC := hid (fun (i j : Nat) (W : World) (hb : Below (w.alloc (.cells c 31)).heap.size (w.alloc (.cells c 31)) W) => covers29 (HV.out.low hb) gx (by rw [hnn]; exact hl) i j)
 clear h h2 h3 h4 h5 hnn
 go_enter Tryd.func31, Tryd.ntmps31
 go_wp2_with fail
 obtain ⟨T, hT⟩ : ∃ T, w.heap.size = T := ⟨_, rfl⟩
 rw [hT] at KT
 simp only [hT]
 clear hT hbT HV
 generalize w.alloc (.cells c 31) = W0 at *
 go_loopw [3, 4] (fun v3 v4 wr => ∃ q : Nat, q ≤ n ∧ v4 = .int .i64 ((q : Int) + 1) ∧ Hid (wr.ownsRow W0.heap.size 3 1 v3 (deadT x q).length (numV (deadT x q))) ∧ Hid (Below W0.heap.size W0 wr)) (fun _ v _ => n + 2 - (RowKit.intOf v).toNat)
 case atStart => exact ⟨0, Nat.zero_le _, by go_num, hid (by rw [deadT_zero]; exact World.ownsRow_nil _ _ _ _), hid (Below.refl _ _)⟩
 case round =>
  obtain ⟨q, hqn, rfl, hO, hB⟩ := hrel
  have KT2 := hid (KT.out.low hB.out)
  have b78 := KT2.out.cell (k := 78) H4.out
  have bf := KT2.out.froz
  have hw1 : IntKind.i64.wrap ((q : Int) + 1 + 1) = (q : Int) + 1 + 1 := Wi64 (by omega)
  obtain ⟨po, co, rfl⟩ := own_shape hO.out
  obtain ⟨D, hD⟩ : ∃ D, (deadT x q).length = D := ⟨_, rfl⟩
  have hDl : D ≤ 300 := by have := deadT_len x q; omega
  rw [hD] at hO ⊢
  have HD := hid hD
  clear hD
  by_cases hlt : q < n
  ·have u1 := dT (show (q : Int) + 1 ≤ n by omega)
   have hsucc := hid (deadT_succ x q)
   go_wp2_with fail
   clear b78 bf
   go_loopw [3, 5] (fun v3 v5 wx => ∃ i : Nat, 1 ≤ i ∧ i ≤ q + 1 ∧ v5 = .int .i64 i ∧ v3 = .slice po D co ∧ Hid (∀ k, k < i → coverN x k (q + 1) = false) ∧ Hid (wx.ownsRow W0.heap.size 3 1 (.slice po D co) D (numV (deadT x q))) ∧ Hid (Below W0.heap.size W0 wx)) (fun _ v _ => q + 1 - (RowKit.intOf v).toNat)
   case atStart => exact ⟨1, Nat.le_refl _, by omega, rfl, rfl, hid (fun k hk => coverN_no (.inl (by omega))), hO, hB⟩
   case round =>
    clear hO hB KT2
    obtain ⟨i, hi1, hij, rfl, rfl, hN, hO, hB⟩ := hrel
    have KT2 := hid (KT.out.low hB.out)
    have hw2 : IntKind.i64.wrap ((i : Int) + 1) = (i : Int) + 1 := Wi64 (by omega)
    by_cases hlt2 : i < q + 1
    ·have y1 := dT (show (i : Int) < (q : Int) + 1 by omega)
     have hCw := hid (hC.out i (q + 1) _ hB.out)
     rw [show ((q + 1 : Nat) : Int) = (q : Int) + 1 by omega] at hCw
     obtain ⟨cc, hc⟩ : ∃ cc, coverN x i (q + 1) = cc := ⟨_, rfl⟩
     rw [hc] at hCw
     have HCC := hid hc
     clear hc
     go_wp2_with fail
     refine wp_load_row 31 _ rfl T rfl 31 c (0, 0) _ KT2.out Tryd.underlying31 rfl hi31 ?_
     go_wp2_with fail
     go_at_call 29
     with_reducible refine Calls.mono (hCw.out) ?_
     rintro e w2 ⟨rfl, hb2⟩
     skip
     have hO2 := hid (own_low hO.out hb2)
     have hB2 := hid (bnext hB.out hb2)
     have hsz := hid hB2.out.size
     clear hO hB hb2 hCw KT2
     cases cc with
     | false =>
      have hN2 : Hid (∀ k, k < i + 1 → coverN x k (q + 1) = false) := hid (fun k hk => by
       rcases Nat.lt_or_eq_of_le (Nat.le_of_lt_succ hk) with h | h
       ·exact hN.out k h
       ·rw [h]; exact HCC.out)
      go_wp2_with fail
      go_roundw
      case rel => exact ⟨i + 1, by omega, by omega, by go_num, rfl, hN2, hO2, hB2⟩
      case measure => simp [RowKit.intOf] <;> omega
     | true =>
      have hdd := dead_yes hlt2 HCC.out
      have hT : Hid (deadT x (q + 1) = deadT x q ++ [q + 1]) := hid (by rw [hsucc.out, hdd]; rfl)
      go_wp2_with (at_builtin; refine wpList_append_own _ rfl (.tmp 22) (.tmp 24) 74 rfl W0.heap.size 3 i0 _ 1 8 Tryd.underlying74 hin hz0 hz1 hz2 rfl (by decide) _ _ _ rfl (hO2.out.alloc _) ⟨w2.heap.size, 0, none⟩ 1 1 [.int .i64 ((q : Int) + 1)] rfl rfl (cells_new1 _ _ _) (by simp [Value.oneCell']) (by unfold maxLen; omega) (by omega) (by have := hsz.out; simp <;> omega) ?_; refine stop_here ?_)
      refine hid ?_
      intro v' w5 hown hgrow hnil
      have hO5 : Hid (w5.ownsRow W0.heap.size 3 1 v' (deadT x (q + 1)).length (numV (deadT x (q + 1)))) := hid (by
       rw [hT.out, List.length_append, HD.out, numV_snoc, show ((q + 1 : Nat) : Int) = (q : Int) + 1 by omega]
       exact hown)
      have hB5 := hid ((hB2.out.alloc hsz.out (.cells #[.int .i64 ((q : Int) + 1)] 3)).grown hgrow (by have := hsz.out; simp <;> omega) (fun k hk => (own_ge hO2.out hk).1))
      clear hown hgrow hnil hO2 hB2 hN
      go_wp2_with fail
      go_roundw
      case rel => exact ⟨q + 1, by omega, by go_num, hO5, hB5⟩
      case measure => simp [RowKit.intOf] <;> omega
    ·obtain rfl : i = q + 1 := by omega
     have y1 : decide (((q + 1 : Nat) : Int) < (q : Int) + 1) = false := decide_eq_false (by omega)
     have hdd := dead_no hN.out
     have hT : Hid (deadT x (q + 1) = deadT x q) := hid (by rw [hsucc.out, hdd]; simp)
     rw [show ((q + 1 : Nat) : Int) = (q : Int) + 1 by omega] at y1 ⊢
     go_wp2_with fail
     go_roundw
     case rel => exact ⟨q + 1, by omega, by go_num, by rw [hT.out, HD.out]; exact hO, hB⟩
     case measure => simp [RowKit.intOf] <;> omega
  ·obtain rfl : q = n := by omega
   have u1 := dF (show ¬ (q : Int) + 1 ≤ q by omega)
   have hT : Hid (deadL x = deadT x q) := hid (by unfold deadL; rw [HNN.out])
   have hOw := hid (own_mono hO.out HB0.out.size)
   go_wp2_with fail
   go_ret
   exact ⟨⟨_, rfl, by rw [hT.out, HD.out]; exact hOw.out⟩, HB0.out.trans (hB.out.mono HB0.out.size)⟩
end Go.Proofs.YtieifhfgedoiaaaDoor
