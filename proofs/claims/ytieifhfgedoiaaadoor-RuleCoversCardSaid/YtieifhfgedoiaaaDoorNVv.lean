/- Which rules cover which, and which are dead: the program's hand. Conditions: those of each theorem. -/
import Derived.Test.YtieifhfgedoiaaaDoorNVu
import Derived.Laws.AppendOwnNone
namespace Go.Proofs.YtieifhfgedoiaaaDoor
open Go.RowKit Go.Lib
open Go.ChangeMaps
set_option linter.unusedVariables false
set_option linter.unusedSimpArgs false
attribute [local go_sem] ExtS.cell ExtS.froz upE_value upE_skip upE_enter Ext.cell Ext.froz one_neq
theorem Rng.left_eq {KS : Value → Prop} {w : World} {m r cnt : Nat} {f : Value → Option Value} {Pd : Value → Prop} (h : Rng KS w m r f Pd cnt) : w.rangeLeft m r = cnt := by
 obtain ⟨es, clock, since, seen, c0, h1, h2, h3, h4, h5, h6, h7, h8, h9, h10, h11⟩ := h
 simp only [World.rangeLeft, h1, h2]
 exact h11
set_option maxRecDepth 100000 in
set_option maxHeartbeats 4000000 in
theorem within46 {w : World} {X mc ml k : Nat} {v : Value} {x : Rs} (h : RsAt w X mc ml v x k) (gx : RsG x) (a b : Item) (ha : ItemG x.said a) (hb : ItemG x.said b) :
  Calls Tryd.prog 46 #[.pointer (some ⟨X, 0, none⟩), a.val, b.val] w fun e w' => e = .returned (.bool (withinB x a b)) ∧ Below w.heap.size w w' := by
 have hb1 : Below w.heap.size w (w.alloc (.cells a.cells.toArray 117)) := (Below.refl _ _).alloc (Nat.le_refl _) _
 have hb2 := hid (hb1.trans (((Below.refl _ _).alloc (Nat.le_refl _) (.cells b.cells.toArray 117)).mono hb1.size))
 have KA := hid ((Blk.new w 117 a.cells.toArray).alloc (.cells b.cells.toArray 117))
 have KC := hid (Blk.new (w.alloc (.cells a.cells.toArray 117)) 117 b.cells.toArray)
 have hsz : (w.alloc (.cells a.cells.toArray 117)).heap.size = w.heap.size + 1 := by simp
 rw [hsz] at KC
 have H := hid (h.low hb2.out)
 clear h hb1 hsz
 rcases ha.2 with h0 | ⟨h1, h2, h3⟩
 ·have hE : withinB x a b = hasB x b a.u := by unfold withinB; rw [if_pos h0]
  rw [hE]
  have hI := hid (is62 H.out b a.u hb ha.1)
  obtain ⟨nm, o⟩ := a
  dsimp only at h0
  subst h0
  unfold Item.val One.val Item.cells at *
  dsimp only at *
  go_enter Tryd.func46, Tryd.ntmps46
  go_wp2_with fail
  go_at_call 62
  with_reducible refine Calls.mono (hI.out) ?_
  rintro e w3 ⟨rfl, hb3⟩
  skip
  go_wp2_with fail
  go_ret
  exact ⟨rfl, bnext hb2.out hb3⟩
 ·have hn0 : a.name ≠ 0 := by omega
  obtain ⟨nm, o⟩ := a
  dsimp only at h1 h2 h3 hn0
  have qn : ((nm : Int) == 0) = false := beq_false_of (by omega)
  obtain ⟨bX, ne, ⟨n, f, c1, c2, c3⟩, _⟩ := H.out
  have b0 := bX.cell (k := 0) rfl
  have bf := bX.froz
  have hk : KB (.int .u8 nm) := ⟨nm, by omega, rfl⟩
  rcases c3 nm h1 h2 with ⟨e1, e2⟩ | ⟨y, mm, e1, e2, e3, e4, e5⟩
  ·unfold Rs.said at h3
   rw [e1] at h3
   cases h3
  ·have hE : withinB x ⟨nm, o⟩ b = y.2.all (hasB x b) := by unfold withinB; rw [if_neg hn0, e1]
   rw [hE]
   obtain ⟨n2, f2, d1, d2, d3⟩ := e5
   have hyB := hid (gx.c _ _ e1).2.1
   have D2 := hid d2
   have D3 := hid d3
   have invK := hid (show ∀ key, KU key → ∃ u : One, key = .agg #[.int .i32 u.r, .bool u.br, .int .u8 u.b] from fun key hk => by obtain ⟨u, _, _, rfl⟩ := hk; exact ⟨u, rfl⟩)
   have invV := hid (show ∀ key v, KU key → f2 key = some v → ∃ c : Int, v = .int .i64 c from fun key v hk hv => by
    obtain ⟨u, _, _, rfl⟩ := hk
    rw [d3 u] at hv
    split at hv
    ·injection hv with hv; exact ⟨_, hv.symm⟩
    ·cases hv)
   obtain ⟨W0, hW0⟩ : ∃ W0, (w.alloc (.cells (Item.cells ⟨nm, o⟩).toArray 117)).alloc (.cells b.cells.toArray 117) = W0 := ⟨_, rfl⟩
   rw [hW0] at hb2 KA KC H c2 b0 D2
   simp only [hW0] at bf
   have a0 := KA.out.cell (k := 0) rfl
   have af := KA.out.froz
   have l1 := fun x : ExtS [] W0 => (c2.but x.h (by simp)).look keysB Tryd.underlying80 (zero132 _) hk false
   simp only [e2] at l1
   try simp only [Option.getD] at l1
   have hW0' := hid hW0
   have hW0s : w.heap.size ≤ W0.heap.size := hb2.out.size
   clear d2 d3 hW0 c1 c2 c3 e1 e2 e3 e4 hk hE
   unfold Item.val Item.cells at *
   dsimp only at *
   go_enter Tryd.func46, Tryd.ntmps46
   go_wp2_with fail
   rw [hW0'.out]
   refine region_plan [] (.quiet 0 (.quiet 1 (.quiet 2 (.quiet 3 (.quiet 4 (.quiet 5 (.quiet 6 (.one 7 .done)))))))) (by kernel_rfl) (by kernel_rfl) ?_
   repeat (apply p_quiet; (case hi => rfl); intro K hK; go_simp; (refine ⟨hK _ ?_⟩; clear hK K))
   apply p_one
   case hi => rfl
   intro W3 hb3 K hK
   refine wpList_rangeF _ rfl _ 132 rfl 115 3 Tryd.underlying132 rfl (D2.out.low hb3) ?_
   intro W4 cnt hrg hb4 hsz4
   refine ⟨rfl, hK _ _ ((ButS.of hb3).trans (ButS.of hb4)) ?_⟩
   have HB4 := hid (bnext (bnext hb2.out hb3) hb4)
   have hW3 : W0.heap.size ≤ W3.heap.size := hb3.size
   have hrg' := hid hrg
   have hb04 := hid (bnext hb3 hb4)
   clear hK K hb4 hrg hb3 a0 af b0 bf l1
   apply p_done
   intro W5 hb5
   have hrg5 := hid (hrg'.out.low hb5)
   have HB5 := hid (bnext hb04.out hb5)
   clear hrg' hb5 HB4 hb04
   go_wp2_with fail
   obtain ⟨r, hr⟩ : ∃ r, W3.heap.size = r := ⟨_, rfl⟩
   rw [hr] at hrg5 hW3
   simp only [hr]
   clear hr
   simp only [List.getElem_toArray, List.getElem_cons_succ, List.getElem_cons_zero, List.set_cons_succ, List.set_cons_zero]
   go_frame
   go_loopw [] (fun wr => ∃ (Pd : Value → Prop) (cnt : Nat), Hid (Rng KU wr mm r f2 Pd cnt) ∧ Hid (∀ u : One, Pd u.val → hasB x b u = true) ∧ Hid (Below W0.heap.size W0 wr)) (fun wr => wr.rangeLeft mm r)
   case atStart => exact ⟨_, _, hrg5, hid (fun u hu => hu.elim), HB5⟩
   case round =>
    obtain ⟨Pd, cn, hrg, hP, hB⟩ := hrel
    go_wp2_with (first | (at_next; refine wpList_nextF _ rfl _ rfl (α := One) (β := Int) (fun u => .agg #[.int .i32 u.r, .bool u.br, .int .u8 u.b]) (fun c => .int .i64 c) invK.out invV.out rfl hrg.out ?_ ?_) | fail)
    ·intro hall
     have hAll : Hid (y.2.all (hasB x b) = true) := hid (List.all_eq_true.2 fun u hu => hP.out u (hall u.val _ (by rw [D3.out u, if_pos hu])))
     clear hall hrg hP invK invV D3
     go_wp2_with fail
     go_ret
     exact ⟨by rw [hAll.out]; rfl, hb2.out.trans (hB.out.mono hW0s)⟩
    ·intro u c w6 cn6 hku hfu hlt hrg6 hbl6 hsz6 hen
     have hum : u ∈ y.2 := by
      have h6 := D3.out u
      unfold One.val at h6
      rw [hfu] at h6
      by_cases h7 : u ∈ y.2
      ·exact h7
      ·rw [if_neg h7] at h6; cases h6
     have hOu := hid (hyB.out u hum)
     have hB6 := hid (hB.out.trans (hbl6 W0.heap.size hW3))
     have hbA : Below w6.heap.size w6 (w6.alloc (.cells #[.int .i32 u.r, .bool u.br, .int .u8 u.b] 115)) := (Below.refl _ _).alloc (Nat.le_refl _) _
     have KC7 := hid ((KC.out.low hB6.out).low hbA)
     have z0 := KC7.out.cell (k := 0) rfl
     have z1 := KC7.out.cell (k := 1) rfl
     have z2 := KC7.out.cell (k := 2) rfl
     have z3 := KC7.out.cell (k := 3) rfl
     have zf := KC7.out.froz
     have hI := hid (is62 ((H.out.low hB6.out).low hbA) b u hb hOu.out)
     have HR := hid (hrg6.low hbA)
     have HB7 := hid (bnext hB6.out hbA)
     have hleft := hid hrg.out.left_eq
     have HLT := hid hlt
     obtain ⟨hs, hhs⟩ : ∃ hs, hasB x b u = hs := ⟨_, rfl⟩
     rw [hhs] at hI
     have HHS := hid hhs
     have HUM := hid hum
     unfold Item.val One.val at *
     clear hku hfu hlt hrg6 hbl6 hsz6 hum hbA KC7 hrg hhs hB
     go_wp2_with fail
     go_at_call 62
     with_reducible refine Calls.mono (hI.out) ?_
     rintro e w8 ⟨rfl, hb8⟩
     skip
     have HB8 := hid (bnext HB7.out hb8)
     have HR8 := hid (HR.out.low hb8)
     clear z0 z1 z2 z3 zf hen hb8 HR HB7 hI
     cases hs with
     | false =>
      have hF : Hid (y.2.all (hasB x b) = false) := hid (List.all_eq_false.2 ⟨u, HUM.out, by rw [HHS.out]; simp⟩)
      go_wp2_with fail
      go_ret
      exact ⟨by rw [hF.out]; rfl, hb2.out.trans (HB8.out.mono hW0s)⟩
     | true =>
      go_wp2_with fail
      go_roundw
      case rel => exact ⟨_, cn6, HR8, hid (fun v hv => hv.elim (hP.out v) (fun e => by
       have h9 : v = u := by
        obtain ⟨v1, v2, v3⟩ := v
        obtain ⟨u1, u2, u3⟩ := u
        have e' : (v1 : Int) = u1 ∧ v2 = u2 ∧ (v3 : Int) = u3 := by simpa [One.val] using e
        have e1 : v1 = u1 := by omega
        have e3 : v3 = u3 := by omega
        rw [e1, e'.2.1, e3]
       rw [h9]; exact HHS.out)), HB8⟩
      case measure => rw [HR8.out.left_eq, hleft.out]; exact HLT.out
end Go.Proofs.YtieifhfgedoiaaaDoor

namespace Go.Proofs.YtieifhfgedoiaaaDoor
open Go.RowKit Go.Lib
open Go.ChangeMaps
set_option linter.unusedVariables false
set_option linter.unusedSimpArgs false
attribute [local go_sem] ExtS.cell ExtS.froz upE_value upE_skip upE_enter Ext.cell Ext.froz one_neq
theorem item_all {w : World} {a : Addr} {L : List Item} (h : ItemR w (some a) L) : ∀ j u, (flatE Item.cells L)[j]? = some u → w.cell? (a.add j) = some u := by
 intro j u hu
 obtain ⟨i, x, d, rfl, h2, h3⟩ := flatE_at Item.cells 4 (fun _ => rfl) L j u hu
 obtain ⟨g, e, hc⟩ := h (fun e => by rw [e] at h2; cases h2)
 injection e with e
 subst e
 obtain ⟨c0, c1, c2, c3⟩ := hc i x h2
 have hadd : (⟨g, 0, none⟩ : Addr).add (i * 4 + d) = ⟨g, i * 4 + d, none⟩ := by unfold Addr.add; split <;> simp_all
 rw [hadd]
 unfold Item.cells at h3
 match d, h3 with
 | 0, h3 => injection h3 with h3; subst h3; exact c0
 | 1, h3 => injection h3 with h3; subst h3; exact c1
 | 2, h3 => injection h3 with h3; subst h3; exact c2
 | 3, h3 => injection h3 with h3; subst h3; exact c3
theorem item_one (L : List Item) : ∀ u ∈ flatE Item.cells L, u.oneCell' = true := by
 intro u hu
 unfold flatE at hu
 obtain ⟨x, _, hx⟩ := List.mem_flatMap.1 hu
 unfold Item.cells at hx
 simp only [List.mem_cons, List.not_mem_nil, or_false] at hx
 rcases hx with rfl | rfl | rfl | rfl <;> rfl
/-- what the capacities of a rule's rows are -/
theorem rows_caps {w : World} {base n cv G : Nat} {L : List Rl} (h : RowsAt w base (.slice (some ⟨G, 0, none⟩) n cv) L) {j : Nat} {u : Rl} (hj : L[j]? = some u) {p2 p3 : Option Addr} {c2 c3 : Nat}
  (h2 : w.cell? ⟨G, j * 7 + 2, none⟩ = some (.slice p2 u.right.length c2)) (h3 : w.cell? ⟨G, j * 7 + 3, none⟩ = some (.slice p3 u.body.length c3)) : (p2 = none → c2 = 0) ∧ u.body.length ≤ c3 := by
 obtain ⟨Vs, g1, g2, g3⟩ := h
 have hl : L.length ≠ 0 := by have := (List.getElem?_eq_some_iff.1 hj).1; omega
 obtain ⟨m, hm⟩ : ∃ m, L.length = m + 1 := ⟨L.length - 1, by omega⟩
 rw [hm] at g2
 have hV : ∃ y, Vs[j]? = some y ∧ y.1 = u := by
  rw [← g1, List.getElem?_map] at hj
  cases hv : Vs[j]? with
  | none => rw [hv] at hj; cases hj
  | some y => rw [hv] at hj; exact ⟨y, rfl, by simpa using hj⟩
 obtain ⟨⟨u', V⟩, hz, rfl⟩ := hV
 have hok := g3 _ (List.mem_of_getElem? hz)
 obtain ⟨g, cap, hg⟩ := own_block g2
 cases hg
 have e2 := own_cell (j := j * 7 + 2) g2 (flatE_get (fun y : Rl × RlV => Rl.cells y.1 y.2) 7 (fun _ => rfl) Vs j _ hz 2 _ rfl)
 have e3 := own_cell (j := j * 7 + 3) g2 (flatE_get (fun y : Rl × RlV => Rl.cells y.1 y.2) 7 (fun _ => rfl) Vs j _ hz 3 _ rfl)
 rw [h2] at e2
 rw [h3] at e3
 injection e2 with e2
 injection e3 with e3
 have k2 := hok.r
 have k3 := hok.b
 rw [← e2] at k2
 rw [← e3] at k3
 exact ⟨fun h0 => by subst h0; exact own_capz k2, (own_len k3).2⟩
theorem behindL_good {said : Nat → Bool} {b : Rl} (g : RlG said b) (n : Nat) : ∀ i ∈ behindL n b, ItemG said i := by
 intro i hi
 unfold behindL at hi
 rcases List.mem_append.1 hi with h | h
 ·obtain ⟨u, hu, rfl⟩ := List.mem_map.1 h
  exact ⟨g.b u (List.mem_of_mem_drop hu), .inl rfl⟩
 ·exact g.r i h
theorem rev_at {l : List Item} {n k d : Nat} (hn : l.length = n) (h : n = k + d + 1) : l.reverse[d]? = l[k]? := by
 rw [List.getElem?_reverse (by omega)]
 congr 1
 omega
theorem dec_beq (a b : Nat) : decide (a = b) = ((a : Int) == (b : Int)) := by
 by_cases h : a = b
 ·subst h; simp
 ·rw [decide_eq_false h]
  symm
  rw [beq_eq_false_iff_ne]
  omega
/-- the test ahead of the contexts -/
def preC (al ar bl hl : Nat) (ab bb ae be : Bool) : Bool :=
 decide (al ≤ bl) && decide (ar ≤ hl) && (!ab || (bb && decide (al = bl))) && (!ae || (be && decide (ar = hl)))
theorem coversB_pre (x : Rs) (a b : Rl) : coversB x a b = (decide (a.body.length ≤ b.body.length) && (a.body == b.body.take a.body.length) && preC a.left.length a.right.length b.left.length (behindL a.body.length b).length a.begins b.begins a.ends b.ends
  && pairsB x b.left.reverse a.left.reverse a.left.length && pairsB x (behindL a.body.length b) a.right a.right.length) := by
 unfold coversB preC
 simp only [Bool.and_assoc]
set_option maxRecDepth 100000 in
set_option maxHeartbeats 8000000 in
theorem covers28_in {w : World} {X base : Nat} {x : Rs} (h : PAt w X base x) (gx : RsG x) (hl : x.rules.length ≤ 256) {i j : Nat} {a b : Rl} (hi : x.rules[i]? = some a) (hj : x.rules[j]? = some b) :
  Calls Tryd.prog 28 #[.pointer (some ⟨X, 0, none⟩), .int .i64 ((i : Int) + 1), .int .i64 ((j : Int) + 1)] w fun e w' => e = .returned (.bool (coversB x a b)) ∧ Below w.heap.size w w' := by
 obtain ⟨i0, hin, hz0, hz1, hz2⟩ := info_parts info117
 obtain ⟨mc, ml, v, kk, hX, hRows⟩ := h.ex
 obtain ⟨pv, cv, rfl⟩ : ∃ pv cv, v = .slice pv x.rules.length cv := by obtain ⟨Vs, _, g2, _⟩ := hRows; exact own_shape g2
 obtain ⟨G, p1, p2, p3, p4, c1, c2, c3, c4, rfl, HA0⟩ := rows_ruM hRows hi
 obtain ⟨G', q1, q2, q3, q4, d1, d2, d3, d4, hG, HB0⟩ := rows_ruM hRows hj
 injection hG with hG
 injection hG with hG
 subst hG
 obtain ⟨hcap2, hcap3⟩ := rows_caps hRows hj HB0.y2 HB0.y3
 have ga := gx.r a (List.mem_of_getElem? hi)
 have gb := gx.r b (List.mem_of_getElem? hj)
 have x2 : w.cell? ⟨X, 2, none⟩ = some (.slice (some ⟨G, 0, none⟩) x.rules.length cv) := hX.b.cell (k := 2) rfl
 have xf := hX.b.froz
 have hin1 := (List.getElem?_eq_some_iff.1 hi).1
 have hjn1 := (List.getElem?_eq_some_iff.1 hj).1
 obtain ⟨n, hnn⟩ : ∃ n, x.rules.length = n := ⟨_, rfl⟩
 rw [hnn] at x2 hl hin1 hjn1
 obtain ⟨an, han⟩ : ∃ an, a.body.length = an := ⟨_, rfl⟩
 obtain ⟨al, hal⟩ : ∃ al, a.left.length = al := ⟨_, rfl⟩
 obtain ⟨ar, har⟩ : ∃ ar, a.right.length = ar := ⟨_, rfl⟩
 obtain ⟨bn, hbn⟩ : ∃ bn, b.body.length = bn := ⟨_, rfl⟩
 obtain ⟨bl, hbl⟩ : ∃ bl, b.left.length = bl := ⟨_, rfl⟩
 obtain ⟨br, hbr⟩ : ∃ br, b.right.length = br := ⟨_, rfl⟩
 have ga1 := ga.ln
 have ga2 := ga.rn
 have ga3 := ga.b1
 have ga4 := ga.bn
 have gb1 := gb.ln
 have gb2 := gb.rn
 have gb3 := gb.b1
 have gb4 := gb.bn
 have ya1 := HA0.y1
 have ya2 := HA0.y2
 have ya3 := HA0.y3
 have ya4 := HA0.y4
 have ya5 := HA0.y5
 have yb1 := HB0.y1
 have yb2 := HB0.y2
 have yb3 := HB0.y3
 have yb4 := HB0.y4
 have yb5 := HB0.y5
 rw [han] at ga3 ga4 ya3
 rw [hal] at ga1 ya1
 rw [har] at ga2 ya2
 rw [hbn] at gb3 gb4 yb3 hcap3
 rw [hbl] at gb1 yb1
 rw [hbr] at gb2 yb2
 obtain ⟨o0, ho0⟩ : ∃ o, b.body[0]? = some o := ⟨_, List.getElem?_eq_getElem (by omega)⟩
 obtain ⟨gq, oq, rfl, _⟩ := HB0.b.at ho0
 have HX := hid hX
 have HA := hid HA0
 have HB := hid HB0
 have HGA := hid ga
 have HGB := hid gb
 have HAN := hid han
 have HAL := hid hal
 have HAR := hid har
 have HBN := hid hbn
 have HBL := hid hbl
 have HBR := hid hbr
 have HC2 := hid hcap2
 have r1 : decide ((i : Int) + 1 < 1) = false := decide_eq_false (by omega)
 have r2 : decide ((j : Int) + 1 < 1) = false := decide_eq_false (by omega)
 have r3 : decide ((n : Int) < (i : Int) + 1) = false := decide_eq_false (by omega)
 have r4 : decide ((n : Int) < (j : Int) + 1) = false := decide_eq_false (by omega)
 have s1 : IntKind.i64.wrap ((i : Int) + 1 - 1) = i := by rw [Int.add_sub_cancel]; exact Wi64 (by omega)
 have s2 : IntKind.i64.wrap ((j : Int) + 1 - 1) = j := by rw [Int.add_sub_cancel]; exact Wi64 (by omega)
 have s3 : (i : Int) < n := by omega
 have s4 : (j : Int) < n := by omega
 have s5 : (0 : Int) ≤ i := by omega
 have s6 : (0 : Int) ≤ j := by omega
 have hcov := hid (coversB_pre x a b)
 rw [han, hal, har, hbn, hbl] at hcov
 clear h hX hRows HA0 HB0 ga gb hi hj hnn han hal har hbn hbl hbr hcap2 ho0
 go_enter Tryd.func28, Tryd.ntmps28
 go_wp2_with fail
 go_quiet (fail)
 go_wp2_with fail
 have hdw : Below w.heap.size w (w.drewN nq) := bel_dr (Below.refl _ _) nq
 have HA1 := hid (HA.out.low hdw)
 have HB1 := hid (HB.out.low hdw)
 have HX1 := hid (HX.out.low hdw)
 have HB0 := hid hdw
 clear HA HB HX hdw xf x2 ya1 ya2 ya3 ya4 ya5 yb1 yb2 yb3 yb4 yb5
 generalize w.drewN nq = W0 at *
 have ya3 := HA1.out.y3
 have yb3 := HB1.out.y3
 rw [HAN.out] at ya3
 rw [HBN.out] at yb3
 by_cases hgt : bn < an
 ·have t1 : decide ((bn : Int) < an) = true := decide_eq_true (by omega)
  go_quiet (fail)
  go_wp2_with fail
  go_ret
  exact ⟨by rw [hcov.out, decide_eq_false (show ¬ an ≤ bn by omega)]; rfl, bel_dr HB0.out _⟩
 have t1 : decide ((bn : Int) < an) = false := decide_eq_false (by omega)
 rw [decide_eq_true (show an ≤ bn by omega), Bool.true_and] at hcov
 obtain ⟨eq, heq⟩ : ∃ eq, (a.body == b.body.take an) = eq := ⟨_, rfl⟩
 rw [heq] at hcov
 have hE : Hid (∀ u, Calls Tryd.prog 45 #[.slice p3 an c3, .slice (some ⟨gq, oq, none⟩) an d3] (W0.drewN u) fun e w' => e = .returned (.bool eq) ∧ ∃ m, w' = W0.drewN m) := by
  refine hid (fun u => ?_)
  have hs := (HB1.out.b.low (bel_dr (Below.refl _ _) u)).sub 0 an
  rw [Nat.zero_mul, Nat.add_zero, List.drop_zero] at hs
  have l1 : (b.body.take an).length = an := by rw [List.length_take, HBN.out]; omega
  have h1 := equal45q (w := W0.drewN u) (p1 := p3) (c1 := c3) (p2 := some ⟨gq, oq, none⟩) (c2 := d3) a.body (b.body.take an) (HA1.out.b.low (bel_dr (Below.refl _ _) u)) hs (by rw [HAN.out]; omega) (by rw [l1]; omega)
  rw [l1, HAN.out, heq] at h1
  exact h1.mono fun _ _ ⟨h, m, hm⟩ => ⟨h, u + m, by rw [hm, World.drewN_drewN]⟩
 have t2 : (an : Int) ≤ d3 := by omega
 have t3 : (0 : Int) ≤ an := by omega
 go_quiet (exact hE.out _)
 cases eq with
 | false =>
  go_wp2_with fail
  go_ret
  exact ⟨by rw [hcov.out]; rfl, bel_dr HB0.out _⟩
 | true =>
  rw [Bool.true_and] at hcov
  have t4 : (an : Int) ≤ bn := by omega
  have hdw : Below W0.heap.size W0 (W0.drewN nq) := bel_dr (Below.refl _ _) nq
  have HA2 := hid (HA1.out.low hdw)
  have HB2 := hid (HB1.out.low hdw)
  have HX2 := hid (HX1.out.low hdw)
  have HW2 := hid (bel_dr HB0.out nq)
  clear HA1 HB1 HX1 HB0 hdw ya3 yb3 hE
  rw [show (!true) = false from rfl]
  go_upto_region 8 with fail
  generalize W0.drewN nq = W1 at *
  go_cut [91, 92, 93] from 86 to 90 (fun v91 v92 v93 wd => ∃ (pb : Option Addr) (cb : Nat), v91 = .slice pb (bn - an) cb ∧ v92 = .int .i64 ((bn - an : Nat) : Int) ∧ v93 = .int .i64 0 ∧ wd = W1 ∧ Hid (OneR W1 pb (b.body.drop an)))
  case first => as_aux_lemma =>
   have yb3 := HB2.out.y3
   rw [HBN.out] at yb3
   have hsub := hid (HB2.out.b.sub an (bn - an))
   have htk : (b.body.drop an).take (bn - an) = b.body.drop an := List.take_of_length_le (by rw [List.length_drop, HBN.out]; exact Nat.le_refl _)
   rw [htk] at hsub
   by_cases hd : d3 = an
   ·have hnil : b.body.drop an = [] := List.drop_of_length_le (by rw [HBN.out]; omega)
    go_wp2_with fail
    go_meet
    refine ⟨_, _, rfl, rfl, rfl, rfl, hid ?_⟩
    rw [hnil]
    exact OneR.nil _ _
   ·go_wp2_with fail
    go_meet
    exact ⟨_, _, rfl, rfl, rfl, rfl, hsub⟩
  case rest =>
   obtain ⟨pb, cb, rfl, rfl, rfl, rfl, hOd⟩ := hcut
   generalize wc = W2 at *
   obtain ⟨K, hK⟩ : ∃ K, bn - an = K := ⟨_, rfl⟩
   obtain ⟨UL, hUL⟩ : ∃ UL, b.body.drop an = UL := ⟨_, rfl⟩
   have hULn : UL.length = K := by rw [← hUL, List.length_drop, HBN.out, hK]
   have hBh : Hid (behindL an b = UL.map (fun u => (⟨0, u⟩ : Item)) ++ b.right) := hid (by unfold behindL; rw [hUL])
   have hKb : K ≤ 64 := by omega
   obtain ⟨IL, hIL⟩ : ∃ IL, UL.map (fun u => (⟨0, u⟩ : Item)) = IL := ⟨_, rfl⟩
   rw [hIL] at hBh
   rw [hUL] at hOd
   rw [hK]
   have HUN := hid hULn
   have HIL := hid hIL
   clear hK hUL hULn hIL t1 t2 t4
   go_wp2_with fail
   go_loopw [10, 93] (fun v10 v93 wr => ∃ q : Nat, q ≤ K ∧ v93 = .int .i64 q ∧ Hid (wr.ownsRow W2.heap.size 117 4 v10 q (flatE Item.cells (IL.take q))) ∧ Hid (Below W2.heap.size W2 wr)) (fun _ v _ => K - (RowKit.intOf v).toNat)
   case atStart => exact ⟨0, Nat.zero_le _, rfl, hid (World.ownsRow_nil _ _ _ _), hid (Below.refl _ _)⟩
   case round =>
    obtain ⟨q, hq, rfl, hO, hB⟩ := hrel
    have hw1 : IntKind.i64.wrap ((q : Int) + 1) = (q : Int) + 1 := Wi64 (by omega)
    by_cases hlt : q < K
    ·have u1 := dT (show (q : Int) < K by omega)
     have u2 : (q : Int) < K := by omega
     obtain ⟨u, hu⟩ : ∃ u, UL[q]? = some u := ⟨_, List.getElem?_eq_getElem (by rw [HUN.out]; exact hlt)⟩
     obtain ⟨g1, o1, rfl, a0, a1, a2⟩ := (hOd.out.low hB.out).at hu
     have htk : Hid (IL.take (q + 1) = IL.take q ++ [⟨0, u⟩]) := hid (by rw [List.take_add_one, ← HIL.out, List.getElem?_map, hu]; rfl)
     obtain ⟨pv, cv2, rfl⟩ := own_shape hO.out
     clear hu
     go_upto_region 11 with fail
     have KU := hid (Blk.new wr 115 #[.int .i32 u.r, .bool u.br, .int .u8 u.b])
     have hbA : Below wr.heap.size wr (wr.alloc (.cells #[.int .i32 u.r, .bool u.br, .int .u8 u.b] 115)) := (Below.refl _ _).alloc (Nat.le_refl _) _
     have hOA := hid (own_low hO.out hbA)
     have hBA := hid (bnext hB.out hbA)
     have hsz := hid hBA.out.size
     have z0 := KU.out.cell (k := 0) rfl
     have z1 := KU.out.cell (k := 1) rfl
     have z2 := KU.out.cell (k := 2) rfl
     have zf := KU.out.froz
     clear hbA KU hO hB a0 a1 a2
     generalize wr.alloc (.cells #[.int .i32 u.r, .bool u.br, .int .u8 u.b] 115) = W3 at *
     generalize wr.heap.size = U at *
     go_wp2_with (at_builtin; refine wpList_append_own _ rfl (.tmp 97) (.tmp 100) 93 rfl W2.heap.size 117 i0 _ 4 12 Tryd.underlying93 hin hz0 hz1 hz2 rfl (by decide) _ _ _ rfl (hOA.out.alloc _) ⟨W3.heap.size, 0, none⟩ 1 1 [.int .u8 0, .int .i32 u.r, .bool u.br, .int .u8 u.b] rfl rfl (cells_new4 _ _ _ _ _ _) (by simp [Value.oneCell']) (by unfold maxLen; omega) (by omega) (by have := hsz.out; simp <;> omega) ?_; refine stop_here ?_)
     refine hid ?_
     intro v' w5 hown hgrow hnil
     have hO5 : Hid (w5.ownsRow W2.heap.size 117 4 v' (q + 1) (flatE Item.cells (IL.take (q + 1)))) := hid (by rw [htk.out, flatE_snoc]; exact hown)
     have hB5 := hid ((hBA.out.alloc hsz.out (.cells #[.int .u8 0, .int .i32 u.r, .bool u.br, .int .u8 u.b] 117)).grown hgrow (by have := hsz.out; simp <;> omega) (fun k hk => (own_ge hOA.out hk).1))
     clear hown hgrow hnil hOA hBA htk z0 z1 z2 zf
     go_wp2_with fail
     go_roundw
     case rel => exact ⟨q + 1, by omega, by go_num, hO5, hB5⟩
     case measure => simp [RowKit.intOf] <;> omega
    ·obtain rfl : q = K := by omega
     have u1 : decide ((q : Int) < q) = false := by simp
     have hIn : IL.length = q := by rw [← HIL.out, List.length_map]; exact HUN.out
     obtain ⟨pv, cv2, rfl⟩ := own_shape hO.out
     have hO2 : Hid (wr.ownsRow W2.heap.size 117 4 (.slice pv q cv2) q (flatE Item.cells IL)) := hid (by have := hO.out; rw [List.take_of_length_le (by omega)] at this; exact this)
     have HIN := hid hIn
     have HB3 := hid (HB2.out.low hB.out)
     have hsz := hid hB.out.size
     have hsW := hid hB.out
     have hHl : Hid ((behindL an b).length = q + br) := hid (by rw [hBh.out, List.length_append, HIN.out, HBR.out])
     clear hO hIn hB hOd u1
     go_upto_region 13 with fail
     go_cut [10] from 103 to 108 (fun v wd => ∃ pv2 cv3, v = .slice pv2 (q + br) cv3 ∧ Hid (wd.ownsRow W2.heap.size 117 4 (.slice pv2 (q + br) cv3) (q + br) (flatE Item.cells (behindL an b))) ∧ Hid (Below W2.heap.size W2 wd))
     case first => as_aux_lemma =>
      have yb2 := HB3.out.y2
      rw [HBR.out] at yb2
      have hRr := hid HB3.out.r
      cases q2 with
      | none =>
       have hd0 := HC2.out rfl
       subst hd0
       have hx : b.right = [] := Classical.byContradiction fun hL => by obtain ⟨g, e, _⟩ := hRr.out hL; cases e
       have hb0 : br = 0 := by rw [← HBR.out, hx]; rfl
       subst hb0
       go_wp2_with (at_builtin; refine wpList_append_own_none rfl (.tmp 103) (.tmp 107) 93 rfl W2.heap.size 117 i0 4 Tryd.underlying93 hin _ _ _ rfl hO2.out rfl ?_; refine stop_here ?_)
       refine hid ?_
       go_wp2_with fail
       go_meet
       exact ⟨pv, cv2, rfl, by rw [hBh.out, hx, List.append_nil]; exact hO2, hsW⟩
      | some ad =>
       have hlenF : (flatE Item.cells b.right).length = br * 4 := by rw [← HBR.out]; exact flatE_len Item.cells 4 (fun _ => rfl) b.right
       have hNw := hid (item_all hRr.out)
       go_wp2_with (at_builtin; refine wpList_append_own _ rfl (.tmp 103) (.tmp 107) 93 rfl W2.heap.size 117 i0 _ 4 12 Tryd.underlying93 hin hz0 hz1 hz2 rfl (by decide) _ q _ rfl hO2.out ad br d2 (flatE Item.cells b.right) rfl hlenF hNw.out (item_one b.right) (by unfold maxLen; omega) (by omega) hsz.out ?_; refine stop_here ?_)
       refine hid ?_
       intro v' w5 hown hgrow hnil
       obtain ⟨pv2, cv3, rfl⟩ := own_shape hown
       have hO5 : Hid (w5.ownsRow W2.heap.size 117 4 (.slice pv2 (q + br) cv3) (q + br) (flatE Item.cells (behindL an b))) := hid (by
        have hfl : flatE Item.cells (behindL an b) = flatE Item.cells IL ++ flatE Item.cells b.right := by rw [hBh.out]; unfold flatE; rw [List.flatMap_append]
        rw [hfl]
        exact hown)
       have hB5 := hid (hsW.out.grown hgrow hsz.out (fun k hk => (own_ge hO2.out hk).1))
       clear hown hgrow hnil hO2 hNw
       go_wp2_with fail
       go_meet
       exact ⟨pv2, cv3, rfl, hO5, hB5⟩
     case rest =>
      obtain ⟨pv2, cv3, rfl, hBe, hBW⟩ := hcut
      have HA4 := hid (HA2.out.low hBW.out)
      have HB4 := hid (HB2.out.low hBW.out)
      have HX4 := hid (HX2.out.low hBW.out)
      have HW4 := hid (bnext HW2.out hBW.out)
      obtain ⟨H, hH⟩ : ∃ H, q + br = H := ⟨_, rfl⟩
      rw [hH] at hHl hBe ⊢
      have hHb : H ≤ 128 := by omega
      have HBE := hid (own_itemR (by rw [hHl.out]; exact hBe.out) : ItemR wc pv2 (behindL an b))
      rw [hHl.out] at hcov
      obtain ⟨pre, hpre⟩ : ∃ pre, preC al ar bl H a.begins b.begins a.ends b.ends = pre := ⟨_, rfl⟩
      rw [hpre] at hcov
      unfold preC at hpre
      have ya1 := HA4.out.y1
      have ya2 := HA4.out.y2
      have ya4 := HA4.out.y4
      have ya5 := HA4.out.y5
      have yb1 := HB4.out.y1
      have yb4 := HB4.out.y4
      have yb5 := HB4.out.y5
      rw [HAL.out] at ya1
      rw [HAR.out] at ya2
      rw [HBL.out] at yb1
      clear hO2 HB3 hsW HA2 HB2 HX2 HW2 hBW hH hBe hsz
      generalize wc = W3 at *
      go_wp2_with fail
      go_cut [178] from 109 to 177 (fun v wd => v = .bool (!pre) ∧ ∃ d, wd = W3.drewN d)
      case first => as_aux_lemma =>
       dsimp only [List.append]
       by_cases hA : bl < al
       ·have v1 := dT (show (bl : Int) < al by omega)
        obtain rfl : pre = false := by rw [← hpre, decide_eq_false (show ¬ al ≤ bl by omega)]; rfl
        go_quiet (fail)
        go_wp2_with fail
        go_meet
        first | exact ⟨rfl, _, World.drewN_drewN _ _ _⟩ | exact ⟨rfl, _, rfl⟩
       have v1 := dF (show ¬ ((bl : Int) < al) by omega)
       by_cases hR : H < ar
       ·have v2 := dT (show (H : Int) < ar by omega)
        obtain rfl : pre = false := by rw [← hpre, decide_eq_false (show ¬ ar ≤ H by omega), Bool.and_false]; rfl
        go_quiet (fail)
        go_wp2_with fail
        go_meet
        first | exact ⟨rfl, _, World.drewN_drewN _ _ _⟩ | exact ⟨rfl, _, rfl⟩
       have v2 := dF (show ¬ ((H : Int) < ar) by omega)
       rw [decide_eq_true (show al ≤ bl by omega), decide_eq_true (show ar ≤ H by omega)] at hpre
       obtain ⟨e1, he1⟩ : ∃ e1, ((al : Int) == bl) = e1 := ⟨_, rfl⟩
       obtain ⟨e2, he2⟩ : ∃ e2, ((ar : Int) == H) = e2 := ⟨_, rfl⟩
       have hd1 : decide (al = bl) = e1 := by rw [← he1]; exact dec_beq al bl
       have hd2 : decide (ar = H) = e2 := by rw [← he2]; exact dec_beq ar H
       obtain ⟨ab, hab⟩ : ∃ ab, a.begins = ab := ⟨_, rfl⟩
       obtain ⟨bb, hbb⟩ : ∃ bb, b.begins = bb := ⟨_, rfl⟩
       obtain ⟨ae, hae⟩ : ∃ ae, a.ends = ae := ⟨_, rfl⟩
       obtain ⟨be, hbe⟩ : ∃ be, b.ends = be := ⟨_, rfl⟩
       rw [hab, hbb, hae, hbe, hd1, hd2, Bool.true_and, Bool.true_and] at hpre
       rw [hab] at ya4
       rw [hae] at ya5
       rw [hbb] at yb4
       rw [hbe] at yb5
       have HP := hid hpre
       clear hab hbb hae hbe hd1 hd2 hpre
       by_cases hq9 : ab = true ∧ (bb && e1) = false
       ·obtain ⟨rfl, hq9⟩ := hq9
        obtain rfl : pre = false := by rw [← HP.out, hq9]; rfl
        clear HP
        cases bb
        ·clear hq9
         go_quiet (fail)
         go_wp2_with fail
         go_meet
         first | exact ⟨rfl, _, World.drewN_drewN _ _ _⟩ | exact ⟨rfl, _, rfl⟩
        ·obtain rfl : e1 = false := by simpa using hq9
         clear hq9
         go_quiet (fail)
         go_wp2_with fail
         go_meet
         first | exact ⟨rfl, _, World.drewN_drewN _ _ _⟩ | exact ⟨rfl, _, rfl⟩
       have hbf : ab = false ∨ (ab = true ∧ bb = true ∧ e1 = true) := by cases ab <;> cases bb <;> cases e1 <;> simp at hq9 ⊢
       clear hq9
       by_cases hr9 : ae = true ∧ (be && e2) = false
       ·obtain ⟨rfl, hr9⟩ := hr9
        obtain rfl : pre = false := by rw [← HP.out, hr9]; simp
        clear HP
        cases be
        ·clear hr9
         rcases hbf with rfl | ⟨rfl, rfl, rfl⟩
         all_goals
          go_quiet (fail)
          go_wp2_with fail
          go_meet
          first | exact ⟨rfl, _, World.drewN_drewN _ _ _⟩ | exact ⟨rfl, _, rfl⟩
        ·obtain rfl : e2 = false := by simpa using hr9
         clear hr9
         rcases hbf with rfl | ⟨rfl, rfl, rfl⟩
         all_goals
          go_quiet (fail)
          go_wp2_with fail
          go_meet
          first | exact ⟨rfl, _, World.drewN_drewN _ _ _⟩ | exact ⟨rfl, _, rfl⟩
       have hre : ae = false ∨ (ae = true ∧ be = true ∧ e2 = true) := by cases ae <;> cases be <;> cases e2 <;> simp at hr9 ⊢
       clear hr9
       obtain rfl : pre = true := by
        rw [← HP.out]
        rcases hbf with rfl | ⟨rfl, rfl, rfl⟩ <;> rcases hre with rfl | ⟨rfl, rfl, rfl⟩ <;> rfl
       clear HP
       rcases hbf with rfl | ⟨rfl, rfl, rfl⟩
       all_goals rcases hre with rfl | ⟨rfl, rfl, rfl⟩
       all_goals
        go_quiet (fail)
        go_wp2_with fail
        go_meet
        first | exact ⟨rfl, _, World.drewN_drewN _ _ _⟩ | exact ⟨rfl, _, rfl⟩
      case rest =>
       obtain ⟨rfl, dd, rfl⟩ := hcut
       have hdw : Below W3.heap.size W3 (W3.drewN dd) := bel_dr (Below.refl _ _) dd
       have HA5 := hid (HA4.out.low hdw)
       have HB5 := hid (HB4.out.low hdw)
       have HX5 := hid (HX4.out.low hdw)
       have HE5 := hid (HBE.out.low hdw)
       have HW5 := hid (bel_dr HW4.out dd)
       clear HA4 HB4 HX4 HBE HW4 hdw ya1 ya2 ya4 ya5 yb1 yb4 yb5
       generalize W3.drewN dd = W4 at *
       cases pre with
       | false =>
        go_wp2_with fail
        go_ret
        exact ⟨by rw [hcov.out]; rfl, HW5.out⟩
       | true =>
        rw [Bool.true_and] at hcov
        simp only [Bool.and_eq_true, decide_eq_true_eq] at hpre
        obtain ⟨⟨⟨m1, m2⟩, _⟩, _⟩ := hpre
        have ya1 := HA5.out.y1
        have yb1 := HB5.out.y1
        rw [HAL.out] at ya1
        rw [HBL.out] at yb1
        have k1 : IntKind.i64.wrap ((al : Int) - 1) = (al : Int) - 1 := Wi64 (by omega)
        have k2 : IntKind.i64.wrap ((bl : Int) - 1) = (bl : Int) - 1 := Wi64 (by omega)
        go_wp2_with fail
        go_quiet (fail)
        have hdw : Below W4.heap.size W4 (W4.drewN nq) := bel_dr (Below.refl _ _) nq
        have HA6 := hid (HA5.out.low hdw)
        have HB6 := hid (HB5.out.low hdw)
        have HX6 := hid (HX5.out.low hdw)
        have HE6 := hid (HE5.out.low hdw)
        have HW6 := hid (bel_dr HW5.out nq)
        clear HA5 HB5 HX5 HE5 HW5 hdw ya1 yb1 k1 k2
        generalize W4.drewN nq = W5 at *
        go_wp2_with fail
        go_loopw [13, 14, 15] (fun v13 v14 v15 wr => ∃ (d : Nat) (z1 z2 : Int), d ≤ al ∧ v13 = .int .i64 d ∧ v14 = .int .i64 z1 ∧ v15 = .int .i64 z2 ∧ z1 = (al : Int) - 1 - d ∧ z2 = (bl : Int) - 1 - d ∧ Hid (pairsB x b.left.reverse a.left.reverse d = true) ∧ Hid (Below W5.heap.size W5 wr)) (fun v _ _ _ => al - (RowKit.intOf v).toNat)
        case atStart => exact ⟨0, _, _, Nat.zero_le _, rfl, rfl, rfl, by omega, by omega, hid rfl, hid (Below.refl _ _)⟩
        case round =>
         obtain ⟨d, z1, z2, hd, rfl, rfl, rfl, hz1', hz2', hT, hB⟩ := hrel
         have HA7 := hid (HA6.out.low hB.out)
         have HB7 := hid (HB6.out.low hB.out)
         have HX7 := hid (HX6.out.low hB.out)
         have HW7 := hid (bnext HW6.out hB.out)
         have ya1 := HA7.out.y1
         have yb1 := HB7.out.y1
         rw [HAL.out] at ya1
         rw [HBL.out] at yb1
         by_cases hlt2 : d < al
         ·--<E
          have u1 := dT (show (d : Int) < al by omega)
          obtain ⟨k', hk'⟩ : ∃ k', al = k' + d + 1 := ⟨al - 1 - d, by omega⟩
          obtain ⟨m', hm'⟩ : ∃ m', bl = m' + d + 1 := ⟨bl - 1 - d, by omega⟩
          obtain rfl : z1 = (k' : Int) := by omega
          obtain rfl : z2 = (m' : Int) := by omega
          have u3 : (k' : Int) < al := by omega
          have u4 : (m' : Int) < bl := by omega
          have u5 : (0 : Int) ≤ k' := by omega
          have u6 : (0 : Int) ≤ m' := by omega
          have w1 : IntKind.i64.wrap ((d : Int) + 1) = (d : Int) + 1 := Wi64 (by omega)
          have w2 : IntKind.i64.wrap ((k' : Int) - 1) = (k' : Int) - 1 := Wi64 (by omega)
          have w3 : IntKind.i64.wrap ((m' : Int) - 1) = (m' : Int) - 1 := Wi64 (by omega)
          obtain ⟨ia, hia⟩ : ∃ it, a.left[k']? = some it := ⟨_, List.getElem?_eq_getElem (by rw [HAL.out]; omega)⟩
          obtain ⟨ib, hib⟩ : ∃ it, b.left[m']? = some it := ⟨_, List.getElem?_eq_getElem (by rw [HBL.out]; omega)⟩
          have hst := hid (pairsB_step (x := x) ((rev_at HBL.out hm').trans hib) ((rev_at HAL.out hk').trans hia))
          rw [hT.out, Bool.true_and] at hst
          have hIa : Hid (ItemG x.said ia) := hid (HGA.out.l ia (List.mem_of_getElem? hia))
          have hIb : Hid (ItemG x.said ib) := hid (HGB.out.l ib (List.mem_of_getElem? hib))
          obtain ⟨ga1', rfl, hca⟩ := HA7.out.l (fun e => by rw [e] at hia; cases hia)
          obtain ⟨gb1', rfl, hcb⟩ := HB7.out.l (fun e => by rw [e] at hib; cases hib)
          obtain ⟨a0, a1, a2, a3⟩ := hca k' ia hia
          obtain ⟨b0, b1, b2, b3⟩ := hcb m' ib hib
          have hC := hid (fun xx : Ext wr => within46 (HX7.out.low xx.h) gx ib ia hIb.out hIa.out)
          obtain ⟨hs, hhs⟩ : ∃ hs, withinB x ib ia = hs := ⟨_, rfl⟩
          rw [hhs] at hC hst
          have HK := hid hk'
          have HM := hid hm'
          unfold Item.val at *
          clear hca hcb hia hib hIa hIb hhs hT hk' hm' hz1' hz2'
          go_wp2_with fail
          refine ext_all (by kernel_rfl) (by kernel_rfl) ?_
          repeat (go_big_quiet_step (first | with_reducible exact Ext.call (hC.out _)))
          refine wpQuiet_nil ?_
          rintro _ ⟨xx, rfl⟩
          have hB5 := hid (bnext hB.out xx.h)
          have hW5 := hid (bnext HW7.out xx.h)
          generalize xx.w = W6 at *
          clear hC a0 a1 a2 a3 b0 b1 b2 b3 ya1 yb1 HA7 HB7 HX7 HW7 hB
          cases hs with
          | false =>
           go_wp2_with fail
           go_ret
           exact ⟨by rw [hcov.out, pairsB_no hst.out (Nat.succ_le_of_lt hlt2)]; rfl, hW5.out⟩
          | true =>
           go_wp2_with fail
           go_roundw
           case rel => exact ⟨d + 1, _, _, by omega, by go_num, rfl, rfl, by have := HK.out; omega, by have := HM.out; omega, hst, hB5⟩
           case measure => simp [RowKit.intOf] <;> omega
         ·obtain rfl : d = al := by omega
          have u1 : decide ((d : Int) < d) = false := by simp
          rw [hT.out, Bool.true_and] at hcov
          have HE7 := hid (HE6.out.low hB.out)
          have ya2 := HA7.out.y2
          rw [HAR.out] at ya2
          clear hT hB hz1' hz2' yb1
          go_wp2_with fail
          go_loopw [226] (fun v226 wz => ∃ d2 : Nat, d2 ≤ ar ∧ v226 = .int .i64 d2 ∧ Hid (pairsB x (behindL an b) a.right d2 = true) ∧ Hid (Below wr.heap.size wr wz)) (fun v _ => ar - (RowKit.intOf v).toNat)
          case atStart => exact ⟨0, Nat.zero_le _, rfl, hid rfl, hid (Below.refl _ _)⟩
          case round =>
           clear ya1 ya2
           obtain ⟨e, he, rfl, hT, hB⟩ := hrel
           have w1 : IntKind.i64.wrap ((e : Int) + 1) = (e : Int) + 1 := Wi64 (by omega)
           by_cases hlt3 : e < ar
           ·have u1 := dT (show (e : Int) < ar by omega)
            have u2 : (e : Int) < ar := by omega
            have u3 : (0 : Int) ≤ e := by omega
            have u4 : (e : Int) < H := by omega
            obtain ⟨it, hit⟩ : ∃ it, a.right[e]? = some it := ⟨_, List.getElem?_eq_getElem (by rw [HAR.out]; exact hlt3)⟩
            obtain ⟨ib, hib⟩ : ∃ it, (behindL an b)[e]? = some it := ⟨_, List.getElem?_eq_getElem (by rw [hHl.out]; omega)⟩
            have hst := hid (pairsB_step (x := x) hib hit)
            rw [hT.out, Bool.true_and] at hst
            have hIa : Hid (ItemG x.said it) := hid (HGA.out.r it (List.mem_of_getElem? hit))
            have hIb : Hid (ItemG x.said ib) := hid (behindL_good HGB.out an ib (List.mem_of_getElem? hib))
            obtain ⟨ga1', rfl, hca⟩ := HA7.out.r.low hB.out (fun e => by rw [e] at hit; cases hit)
            obtain ⟨a0, a1, a2, a3⟩ := hca e it hit
            have hbA : Below wr.heap.size wr (wr.alloc (.cells it.cells.toArray 117)) := (Below.refl _ _).alloc (Nat.le_refl _) _
            obtain ⟨gb1', rfl, hcb⟩ := (HE7.out.low hB.out).low hbA (fun e => by rw [e] at hib; cases hib)
            obtain ⟨b0, b1, b2, b3⟩ := hcb e ib hib
            have HX8 := hid ((HX7.out.low hB.out).low hbA)
            have hC := hid (fun xx : Ext (wr.alloc (.cells it.cells.toArray 117)) => within46 (HX8.out.low xx.h) gx ib it hIb.out hIa.out)
            have HB8 := hid (bnext hB.out hbA)
            have HW8 := hid (bnext (bnext HW7.out hB.out) hbA)
            obtain ⟨hs, hhs⟩ : ∃ hs, withinB x ib it = hs := ⟨_, rfl⟩
            rw [hhs] at hC hst
            unfold Item.val Item.cells at *
            clear hca hcb hit hib hIa hIb hhs hT hbA HX8 hB
            go_wp2_with fail
            refine ext_all (by kernel_rfl) (by kernel_rfl) ?_
            repeat (go_big_quiet_step (first | with_reducible exact Ext.call (hC.out _)))
            refine wpQuiet_nil ?_
            rintro _ ⟨xx, rfl⟩
            have hB5 := hid (bnext HB8.out xx.h)
            have hW5 := hid (bnext HW8.out xx.h)
            generalize xx.w = W6 at *
            clear hC a0 a1 a2 a3 b0 b1 b2 b3 HB8 HW8
            cases hs with
            | false =>
             go_wp2_with fail
             go_ret
             exact ⟨by rw [hcov.out, pairsB_no hst.out (Nat.succ_le_of_lt hlt3)]; rfl, hW5.out⟩
            | true =>
             go_wp2_with fail
             go_roundw
             case rel => exact ⟨e + 1, by omega, by go_num, hst, hB5⟩
             case measure => simp [RowKit.intOf] <;> omega
           ·obtain rfl : e = ar := by omega
            have u1 : decide ((e : Int) < e) = false := by simp
            go_wp2_with fail
            go_ret
            exact ⟨by rw [hcov.out, hT.out]; rfl, bnext HW7.out hB.out⟩
end Go.Proofs.YtieifhfgedoiaaaDoor

namespace Go.Proofs.YtieifhfgedoiaaaDoor
open Go.RowKit Go.Lib
open Go.ChangeMaps
set_option linter.unusedVariables false
set_option linter.unusedSimpArgs false
attribute [local go_sem] ExtS.cell ExtS.froz upE_value upE_skip upE_enter Ext.cell Ext.froz one_neq
theorem coverN_no {x : Rs} {i j : Nat} (h : i = 0 ∨ j = 0 ∨ x.rules.length < i ∨ x.rules.length < j) : coverN x i j = false := by
 cases hc : coverN x i j with
 | false => rfl
 | true =>
  obtain ⟨a, b, ha, hb, _⟩ := cover_some hc
  have h1 := ruleAt_some ha
  have h2 := ruleAt_some hb
  omega
set_option maxRecDepth 100000 in
set_option maxHeartbeats 4000000 in
theorem covers28_out {w : World} {X base : Nat} {x : Rs} (h : PAt w X base x) {i j : Nat} (ho : i = 0 ∨ j = 0 ∨ x.rules.length < i ∨ x.rules.length < j) :
  Calls Tryd.prog 28 #[.pointer (some ⟨X, 0, none⟩), .int .i64 i, .int .i64 j] w fun e w' => e = .returned (.bool false) ∧ w = w' := by
 obtain ⟨pv, cv, c2, cf, _⟩ := h.slice
 obtain ⟨n, hn⟩ : ∃ n, x.rules.length = n := ⟨_, rfl⟩
 rw [hn] at c2 ho
 clear h hn
 by_cases h1 : i = 0
 ·subst h1
  go_enter Tryd.func28, Tryd.ntmps28
  go_wp2_with fail
  go_ret
  exact ⟨rfl, rfl⟩
 have q1 : decide ((i : Int) < 1) = false := decide_eq_false (by omega)
 by_cases h2 : j = 0
 ·subst h2
  go_enter Tryd.func28, Tryd.ntmps28
  go_wp2_with fail
  go_ret
  exact ⟨rfl, rfl⟩
 have q2 : decide ((j : Int) < 1) = false := decide_eq_false (by omega)
 have q5 : decide (i < 1) = false := decide_eq_false (by omega)
 have q6 : decide (j < 1) = false := decide_eq_false (by omega)
 by_cases h3 : n < i
 ·have q3 : decide ((n : Int) < i) = true := decide_eq_true (by omega)
  have q7 : decide (n < i) = true := decide_eq_true (by omega)
  go_enter Tryd.func28, Tryd.ntmps28
  go_wp2_with fail
  go_ret
  exact ⟨rfl, rfl⟩
 have q3 : decide ((n : Int) < i) = false := decide_eq_false (by omega)
 have q7 : decide (n < i) = false := decide_eq_false (by omega)
 have q4 : decide ((n : Int) < j) = true := decide_eq_true (by omega)
 have q8 : decide (n < j) = true := decide_eq_true (by omega)
 go_enter Tryd.func28, Tryd.ntmps28
 go_wp2_with fail
 go_ret
 exact ⟨rfl, rfl⟩
theorem covers28 {w : World} {X base : Nat} {x : Rs} (h : PAt w X base x) (gx : RsG x) (hl : x.rules.length ≤ 256) (i j : Nat) :
  Calls Tryd.prog 28 #[.pointer (some ⟨X, 0, none⟩), .int .i64 i, .int .i64 j] w fun e w' => e = .returned (.bool (coverN x i j)) ∧ Below w.heap.size w w' := by
 by_cases ho : i = 0 ∨ j = 0 ∨ x.rules.length < i ∨ x.rules.length < j
 ·rw [coverN_no ho]
  exact (covers28_out h ho).mono fun e w' ⟨h1, h2⟩ => ⟨h1, h2 ▸ Below.refl _ _⟩
 ·obtain ⟨i', rfl⟩ : ∃ i', i = i' + 1 := ⟨i - 1, by omega⟩
  obtain ⟨j', rfl⟩ : ∃ j', j = j' + 1 := ⟨j - 1, by omega⟩
  have hi : x.rules[i']? = some (x.rules[i']'(by omega)) := List.getElem?_eq_getElem _
  have hj : x.rules[j']? = some (x.rules[j']'(by omega)) := List.getElem?_eq_getElem _
  have hE : coverN x (i' + 1) (j' + 1) = coversB x (x.rules[i']'(by omega)) (x.rules[j']'(by omega)) := by
   unfold coverN ruleAt
   rw [if_neg (by omega), if_neg (by omega), Nat.add_sub_cancel, Nat.add_sub_cancel, hi, hj]
  rw [hE]
  have hC := covers28_in h gx hl hi hj
  rw [show (i' : Int) + 1 = ((i' + 1 : Nat) : Int) by omega, show (j' : Int) + 1 = ((j' + 1 : Nat) : Int) by omega] at hC
  exact hC
theorem dead_one (x : Rs) : deadB x 1 = false := rfl
theorem deadT_one (x : Rs) : deadT x 1 = [] := by rw [deadT_succ, dead_one, deadT_zero]; rfl
theorem dead_no {x : Rs} {j : Nat} (h : ∀ i, i < j → coverN x i j = false) : deadB x j = false := by
 cases hd : deadB x j with
 | false => rfl
 | true =>
  obtain ⟨i, h1, h2⟩ := dead_some hd
  rw [h i h1] at h2
  cases h2
theorem dead_yes {x : Rs} {i j : Nat} (hi : i < j) (h : coverN x i j = true) : deadB x j = true := List.any_eq_true.2 ⟨i, List.mem_range.2 hi, h⟩
def numV (L : List Nat) : List Value := L.map fun (q : Nat) => Value.int .i64 (q : Int)
theorem numV_snoc (L : List Nat) (j : Nat) : numV (L ++ [j]) = numV L ++ [.int .i64 j] := by unfold numV; rw [List.map_append]; rfl
theorem deadT_len (x : Rs) (i : Nat) : (deadT x i).length ≤ i + 1 := by
 unfold deadT
 exact Nat.le_trans (List.length_filter_le _ _) (by rw [List.length_range]; omega)
set_option maxRecDepth 100000 in
set_option maxHeartbeats 4000000 in
theorem dead32 {w : World} {X base : Nat} {x : Rs} (h : PAt w X base x) (gx : RsG x) (hl : x.rules.length ≤ 256) :
  Calls Tryd.prog 32 #[.pointer (some ⟨X, 0, none⟩)] w fun e w' => (∃ v, e = .returned v ∧ w'.ownsRow w.heap.size 3 1 v (deadL x).length ((deadL x).map fun (q : Nat) => Value.int .i64 (q : Int))) ∧ Below w.heap.size w w' := by
 obtain ⟨i0, hin, hz0, hz1, hz2⟩ := info_parts info3
 have hC := hid (fun (i j : Nat) (W : World) (hb : Below w.heap.size w W) => covers28 (h.low hb) gx hl i j)
 obtain ⟨pv, cv, c2, cf, _⟩ := h.slice
 have HC2 := hid c2
 have hcl := hid (fun (W : World) (hb : Below w.heap.size w W) => (show W.cell? ⟨X, 2, none⟩ = some (.slice pv x.rules.length cv) from cell_low hb c2))
 obtain ⟨n, hnn⟩ : ∃ n, x.rules.length = n := ⟨_, rfl⟩
 have HNN := hid hnn
 rw [hnn] at hcl hl
 clear h c2 cf hnn
 go_enter Tryd.func32, Tryd.ntmps32
 go_wp2_with fail
 go_loopw [3, 4] (fun v3 v4 wr => ∃ q : Nat, 1 ≤ q ∧ (q ≤ n ∨ q = 1) ∧ v4 = .int .i64 ((q + 1 : Nat) : Int) ∧ Hid (wr.ownsRow w.heap.size 3 1 v3 (deadT x q).length (numV (deadT x q))) ∧ Hid (Below w.heap.size w wr)) (fun _ v _ => n + 2 - (RowKit.intOf v).toNat)
 case atStart => exact ⟨1, Nat.le_refl _, .inr rfl, rfl, hid (by rw [deadT_one]; exact World.ownsRow_nil _ _ _ _), hid (Below.refl _ _)⟩
 case round =>
  obtain ⟨q, hq1, hqn, rfl, hO, hB⟩ := hrel
  have c2 := hcl.out _ hB.out
  have hw1 : IntKind.i64.wrap (((q + 1 : Nat) : Int) + 1) = ((q + 1 + 1 : Nat) : Int) := (Wi64 (by omega)).trans (by omega)
  obtain ⟨po, co, rfl⟩ := own_shape hO.out
  obtain ⟨D, hD⟩ : ∃ D, (deadT x q).length = D := ⟨_, rfl⟩
  have hDl : D ≤ 300 := by have := deadT_len x q; omega
  rw [hD] at hO ⊢
  have HD := hid hD
  have hsz := hid hB.out.size
  clear hD
  by_cases hlt : q + 1 ≤ n
  ·have u1 : decide (((q + 1 : Nat) : Int) ≤ n) = true := decide_eq_true (by omega)
   have u2 : decide (q + 1 ≤ n) = true := decide_eq_true (by omega)
   have hsucc := hid (deadT_succ x q)
   obtain ⟨j, hj⟩ : ∃ j, q + 1 = j := ⟨_, rfl⟩
   rw [hj] at hsucc hw1 u1 u2 hlt ⊢
   have hj1 : 2 ≤ j := by omega
   have HJ := hid hj
   clear hj
   go_wp2_with fail
   go_loopw [3, 5] (fun v3 v5 wx => ∃ i : Nat, 1 ≤ i ∧ i ≤ j ∧ v5 = .int .i64 i ∧ v3 = .slice po D co ∧ Hid (∀ k, k < i → coverN x k j = false) ∧ Hid (wx.ownsRow w.heap.size 3 1 (.slice po D co) D (numV (deadT x q))) ∧ Hid (Below w.heap.size w wx)) (fun _ v _ => j - (RowKit.intOf v).toNat)
   case atStart => exact ⟨1, Nat.le_refl _, by omega, rfl, rfl, hid (fun k hk => coverN_no (.inl (by omega))), hO, hB⟩
   case round =>
    clear hO hB hsz c2
    obtain ⟨i, hi1, hij, rfl, rfl, hN, hO, hB⟩ := hrel
    have hw2 : IntKind.i64.wrap ((i : Int) + 1) = (i : Int) + 1 := Wi64 (by omega)
    by_cases hlt2 : i < j
    ·have y1 : decide ((i : Int) < j) = true := decide_eq_true (by omega)
     have y2 : decide (i < j) = true := decide_eq_true hlt2
     have hCw := hid (hC.out i j _ hB.out)
     obtain ⟨c, hc⟩ : ∃ c, coverN x i j = c := ⟨_, rfl⟩
     rw [hc] at hCw
     have HCC := hid hc
     clear hc
     go_wp2_with fail
     go_at_call 28
     with_reducible refine Calls.mono (hCw.out) ?_
     rintro e w2 ⟨rfl, hb2⟩
     skip
     have hO2 := hid (own_low hO.out hb2)
     have hB2 := hid (bnext hB.out hb2)
     have hsz := hid hB2.out.size
     clear hO hB hb2 hCw
     cases c with
     | false =>
      have hN2 : Hid (∀ k, k < i + 1 → coverN x k j = false) := hid (fun k hk => by
       rcases Nat.lt_or_eq_of_le (Nat.le_of_lt_succ hk) with h | h
       ·exact hN.out k h
       ·rw [h]; exact HCC.out)
      go_wp2_with fail
      go_roundw
      case rel => exact ⟨i + 1, by omega, by omega, by go_num, rfl, hN2, hO2, hB2⟩
      case measure => simp [RowKit.intOf] <;> omega
     | true =>
      have hdd := dead_yes hlt2 HCC.out
      have hT : Hid (deadT x j = deadT x q ++ [j]) := hid (by rw [hsucc.out, hdd]; rfl)
      go_wp2_with (at_builtin; refine wpList_append_own _ rfl (.tmp 26) (.tmp 28) 74 rfl w.heap.size 3 i0 _ 1 8 Tryd.underlying74 hin hz0 hz1 hz2 rfl (by decide) _ _ _ rfl (hO2.out.alloc _) ⟨w2.heap.size, 0, none⟩ 1 1 [.int .i64 j] rfl rfl (cells_new1 _ _ _) (by simp [Value.oneCell']) (by unfold maxLen; omega) (by omega) (by have := hsz.out; simp <;> omega) ?_; refine stop_here ?_)
      refine hid ?_
      intro v' w5 hown hgrow hnil
      have hO5 : Hid (w5.ownsRow w.heap.size 3 1 v' (deadT x j).length (numV (deadT x j))) := hid (by rw [hT.out, List.length_append, HD.out, numV_snoc]; exact hown)
      have hB5 := hid ((hB2.out.alloc hsz.out (.cells #[.int .i64 j] 3)).grown hgrow (by have := hsz.out; simp <;> omega) (fun k hk => (own_ge hO2.out hk).1))
      clear hown hgrow hnil hO2 hB2 hN
      go_wp2_with fail
      go_roundw
      case rel => exact ⟨j, by omega, .inl (by omega), rfl, hO5, hB5⟩
      case measure => simp [RowKit.intOf] <;> omega
    ·obtain rfl : i = j := by omega
     have y1 : decide ((i : Int) < i) = false := by simp
     have hdd := dead_no hN.out
     have hT : Hid (deadT x i = deadT x q) := hid (by rw [hsucc.out, hdd]; simp)
     go_wp2_with fail
     go_roundw
     case rel => exact ⟨i, by omega, .inl (by omega), rfl, by rw [hT.out, HD.out]; exact hO, hB⟩
     case measure => simp [RowKit.intOf] <;> omega
  ·have u1 : decide (((q + 1 : Nat) : Int) ≤ n) = false := decide_eq_false (by omega)
   have u2 : decide (q + 1 ≤ n) = false := decide_eq_false (by omega)
   have hT : Hid (deadL x = deadT x q) := hid (by
    unfold deadL
    rw [HNN.out]
    by_cases h0 : n = 0
    ·have : q = 1 := by omega
     rw [h0, this, deadT_zero, deadT_one]
    ·have : q = n := by omega
     rw [this])
   go_wp2_with fail
   go_ret
   exact ⟨⟨_, rfl, by rw [hT.out, HD.out]; exact hO.out⟩, hB.out⟩
end Go.Proofs.YtieifhfgedoiaaaDoor
