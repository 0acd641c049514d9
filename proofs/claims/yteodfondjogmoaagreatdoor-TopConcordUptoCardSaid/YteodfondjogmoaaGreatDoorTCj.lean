/- Concord.At, at the last byte of a word. Conditions: those of each theorem. -/
import Derived.Test.YteodfondjogmoaaGreatDoorJh
namespace Go.Proofs.YteodfondjogmoaaGreatDoor
open Go Go.RowKit Go.Lib Go.Shelf
set_option linter.unusedVariables false
set_option linter.unusedSimpArgs false
attribute [local go_sem] Oper.semAt_some C.Ext.cell C.Ext.froz
section
variable {w : World} {c : Cc} {rs : List PmR} {E : List En} {ks : List ByteArray}
theorem find_at (h : CcAt w c rs E ks) {i : Nat} {e : En} (he : E[i]? = some e) {r : PmR} {v : Vs} (hK : KnowR w rs e r v) (cap pb : Nat) (W : World) (hW : Below w.heap.size w W) (hc : W.cell? ⟨pb, 0, none⟩ = some (.int .i64 e.h.p)) :
    Calls Tryz.prog 70 #[.slice c.ha E.length cap, .int .i64 (e.h.t - 1), .func (.func 71) #[] #[.pointer (some ⟨pb, 0, none⟩)]] W fun x w' => (∃ b : Bool, x = .returned (.tuple #[.int .i64 i, .bool b])) ∧ Below W.heap.size W w' := by
  have hi := (List.getElem?_eq_some_iff.1 he).1
  have hh := (h.low hW).hs
  have hl : (E.map (·.h)).length = E.length := List.length_map _
  have hg : ∀ j x, (E.map (·.h))[j]? = some x → ∃ y : En, E[j]? = some y ∧ y.h = x := fun j x hx => by
    rw [List.getElem?_map] at hx
    cases hy : E[j]? with
    | none => rw [hy] at hx; cases hx
    | some y => rw [hy] at hx; exact ⟨y, hy, by simpa using hx⟩
  have hS := search73 hh cap (e.h.t - 1) #[.pointer (some ⟨pb, 0, none⟩)] i (by rw [hl]; omega) (by rw [hl]; exact h.lE) (cvAt e.h.p (e.h.t - 1))
    (fun W2 hW2 x hx => at74 x (e.h.t - 1) e.h.p pb W2 (lowc hc hW2))
    (fun j x hx => by
      obtain ⟨y, hy, rfl⟩ := hg j x hx
      have hsp := hK.k.sp
      obtain ⟨r2, v2, K2⟩ := h.know hy
      have hs2 := K2.k.sp
      unfold cvAt
      rcases Nat.lt_trichotomy j i with hji | rfl | hji
      · have := pw_lt h.pw hji hy he
        unfold EnLt at this
        rw [if_pos (by omega)]
        omega
      · rw [he] at hy
        obtain rfl := Option.some.inj hy
        rw [if_neg (by omega)]
        omega
      · have := pw_lt h.pw hji he hy
        unfold EnLt at this
        rw [if_neg (by omega)]
        omega)
  rw [hl] at hS
  refine hS.mono ?_
  rintro x w' ⟨⟨b, rfl, _⟩, hbel⟩
  exact ⟨⟨b, rfl⟩, hbel⟩
set_option maxHeartbeats 4000000 in
theorem at38 (h : CcAt w c rs E ks) {i : Nat} {e : En} (he : E[i]? = some e) {r : PmR} {v : Vs} (hK : KnowR w rs e r v) :
    Calls Tryz.prog 37 #[.pointer (some ⟨c.cb, 0, none⟩), .int .i64 e.h.p, .int .i64 (e.h.t - 1)] w fun x w' => x = .returned (.tuple #[e.h.v, .int .i64 0]) ∧ Below w.heap.size w w' := by
  have hF := hid (find_at h he hK c.hc w.heap.size)
  have hi := (List.getElem?_eq_some_iff.1 he).1
  have hlE := h.lE
  obtain ⟨K1, K2, K3, K4, K5⟩ := hK
  have hln := K3.ln
  have hsp := K3.sp
  have hs0 : r.d.src.size ≤ 65536 := K3.ok.sz
  have hrp := (h.ps.row _ _ K1).1
  have hpa : c.pa = some ⟨c.pg, 0, none⟩ := h.ps.ha.resolve_left (fun e0 => by rw [e0] at K1; cases K1)
  have hpl := (List.getElem?_eq_some_iff.1 K1).1
  have c0 := h.c0
  have c1 := h.c1
  rw [hpa] at c0
  have hr := (h.hs.row i e.h (by rw [List.getElem?_map, he]; rfl))
  have ha : c.ha = some ⟨c.hg, 0, none⟩ := h.hs.ha.resolve_left (fun e0 => by rw [List.map_eq_nil_iff.1 e0] at he; cases he)
  rw [ha] at c1 hF
  have hii : (i : Int) < E.length := by omega
  obtain ⟨⟨hp, hl, hw, hn, hf, ht⟩, ek⟩ := e
  obtain ⟨q0, q1, q2, q3, q4, q5⟩ := hr
  obtain ⟨l0, l1, l2, l3⟩ := hln
  dsimp only at hrp hpl hsp l0 l1 l2 q0 q1 q2 q3 q4 q5 K4 K5 hF ⊢
  obtain ⟨at', hat⟩ : ∃ at' : Int, ht - 1 = at' := ⟨_, rfl⟩
  rw [hat] at hF ⊢
  have g1 : ¬ at' < 0 := by omega
  have g1' : decide (at' < 0) = false := decide_eq_false g1
  have g2 : ¬ (r.d.src.size : Int) < at' := by omega
  have g2' : decide ((r.d.src.size : Int) < at') = false := decide_eq_false g2
  have g3 : ¬ at' < hf := by omega
  have g3' : decide (at' < hf) = false := decide_eq_false g3
  have g4 : ¬ (rs.length : Int) ≤ hp := by omega
  have g4' : decide ((rs.length : Int) ≤ (hp : Int)) = false := decide_eq_false g4
  have g5 : ¬ (hp : Int) < 0 := by omega
  have g5' : decide ((hp : Int) < 0) = false := decide_eq_false g5
  have g6 : ((i : Int) == (E.length : Int)) = false := beq_f (by omega)
  have hppl : (hp : Int) < rs.length := by omega
  obtain ⟨w1, hw1⟩ : ∃ w1, (w.alloc (.cells #[.int .i64 hp] 3)).alloc (.cells #[.int .i64 0, .int .i64 0, .int .i64 0, .int .i64 0, .int .i64 0, .int .i64 0] 39) = w1 := ⟨_, rfl⟩
  have hb1 : Below w.heap.size w w1 := by rw [← hw1]; exact ((Below.refl _ w).alloc (Nat.le_refl _) _).alloc (by simp) _
  have k1 : Blk w1 w.heap.size 3 #[.int .i64 hp] := by rw [← hw1]; exact (Blk.new _ _ _).alloc _
  have k2 : Blk w1 (w.heap.size + 1) 39 #[.int .i64 0, .int .i64 0, .int .i64 0, .int .i64 0, .int .i64 0, .int .i64 0] := by
    have := Blk.new (w.alloc (.cells #[.int .i64 hp] 3)) 39 #[.int .i64 0, .int .i64 0, .int .i64 0, .int .i64 0, .int .i64 0, .int .i64 0]
    rw [World.size_alloc] at this
    rw [← hw1]; exact this
  have HB := hid hb1
  have HK1 := hid k1
  have HK2 := hid k2
  have CC := hid (And.intro c0 (And.intro c1 hrp))
  have Q := hid (And.intro q0 (And.intro q1 (And.intro q2 (And.intro q3 (And.intro q4 q5)))))
  have KK := hid K2
  generalize rs.length = nr at *
  generalize E.length = nE at *
  clear h he hb1 k1 k2 c0 c1 hrp K1 K2 K3 l0 l1 l2 l3 hi hpa ha q0 q1 q2 q3 q4 q5 hsp hat
  have x0 := HK1.out.cell (k := 0) rfl
  have x1 := lowc CC.out.1 HB.out
  go_enter Tryz.func37, Tryz.ntmps37
  go_wp2_with fail
  try rw [show (w.alloc (.cells #[.int .i64 hp] 3)).alloc (.cells #[.int .i64 0, .int .i64 0, .int .i64 0, .int .i64 0, .int .i64 0, .int .i64 0] 39) = w1 from hw1]
  clear hw1
  refine C.draw_allB (by kernel_rfl) (by kernel_rfl) ?_
  repeat (refine C.bq_step (fun K hK => ?_); go_simp; refine ⟨hK _ ?_⟩; clear hK K)
  refine C.bq_nil ?_
  rintro _ ⟨dn, rfl⟩
  have HB2 := hid (HB.out.trans (below_drN w1 dn))
  have HK12 := hid (HK1.out.low (below_drN w1 dn))
  have HK22 := hid (HK2.out.low (below_drN w1 dn))
  clear x0 x1 HB HK1 HK2
  generalize w1.drewN dn = w2 at *
  have x0 := HK12.out.cell (k := 0) rfl
  have x1 := lowc CC.out.1 HB2.out
  have x2 := lowc CC.out.2.2 HB2.out
  have hSo := hid (fun x : C.Ext w2 => still_below (source72 ((KK.out.low HB2.out).low x.h)))
  go_wp2_with fail
  refine C.ext_allB (by kernel_rfl) (by kernel_rfl) ?_
  repeat (refine C.bq_step (fun K hK => ?_); go_simp; first | (refine ⟨hK _ ?_⟩; clear hK K) | (refine ⟨?_⟩; apply Exists.intro; refine ⟨fun x => ?_, hK _ ?_⟩; (with_reducible exact C.Ext.call (hSo.out _)); clear hK K))
  refine C.bq_nil ?_
  rintro _ ⟨z, rfl⟩
  have HB3 := hid (HB2.out.trans (z.h.mono HB2.out.size))
  have HK13 := hid (HK12.out.low z.h)
  have HK23 := hid (HK22.out.low z.h)
  clear x0 x1 x2 HB2 HK12 HK22 hSo
  generalize z.w = w3 at *
  have x0 : w3.cell? ⟨w.heap.size, 0, none⟩ = some (.int .i64 hp) := HK13.out.cell (k := 0) rfl
  have x1 := lowc CC.out.2.1 HB3.out
  go_wp2_with fail
  with_reducible refine Calls.mono (hF.out w3 HB3.out x0) ?_
  rintro x w4 ⟨⟨b, rfl⟩, hb4⟩
  have HB4 := hid (HB3.out.trans (hb4.mono HB3.out.size))
  have HK14 := hid (HK13.out.low hb4)
  have HK24 := hid (HK23.out.low hb4)
  clear x0 x1 HB3 HK13 HK23 hb4
  have x0 := HK14.out.cell (k := 0) rfl
  have x1 := lowc CC.out.2.1 HB4.out
  obtain ⟨q0, q1, q2, q3, q4, q5⟩ := Q.out
  have p0 := lowc q0 HB4.out
  have p1 := lowc q1 HB4.out
  have p2 := lowc q2 HB4.out
  have p3 := lowc q3 HB4.out
  have p4 := lowc q4 HB4.out
  have p5 := lowc q5 HB4.out
  clear q0 q1 q2 q3 q4 q5
  go_wp2_with fail
  refine C.draw_allB (by kernel_rfl) (by kernel_rfl) ?_
  repeat (refine C.bq_step (fun K hK => ?_); go_simp; refine ⟨hK _ ?_⟩; clear hK K)
  refine C.bq_nil ?_
  rintro _ ⟨dm, rfl⟩
  have HB5 := hid (HB4.out.trans (below_drN w4 dm))
  have HK25 := hid (HK24.out.low (below_drN w4 dm))
  clear x0 x1 p0 p1 p2 p3 p4 p5 HB4 HK14 HK24
  generalize w4.drewN dm = w5 at *
  have x1 := lowc CC.out.2.1 HB5.out
  obtain ⟨q0, q1, q2, q3, q4, q5⟩ := Q.out
  have p0 := lowc q0 HB5.out
  have p1 := lowc q1 HB5.out
  have p2 := lowc q2 HB5.out
  have p3 := lowc q3 HB5.out
  have p4 := lowc q4 HB5.out
  have p5 := lowc q5 HB5.out
  have n0 := HK25.out.cell (k := 0) rfl
  have n1 := HK25.out.cell (k := 1) rfl
  have n2 := HK25.out.cell (k := 2) rfl
  have n3 := HK25.out.cell (k := 3) rfl
  have n4 := HK25.out.cell (k := 4) rfl
  have n5 := HK25.out.cell (k := 5) rfl
  have z0 := HK25.out.froz 0
  have z1 := HK25.out.froz 1
  have z2 := HK25.out.froz 2
  have z3 := HK25.out.froz 3
  have z4 := HK25.out.froz 4
  have z5 := HK25.out.froz 5
  clear q0 q1 q2 q3 q4 q5
  go_wp2_with fail
  try rw [Exit.noGoto_ret]
  have kf := (((((HK25.out.upd 0 (.int .i64 hp) rfl).upd 1 (.int .i64 hl) rfl).upd 2 (.int .i64 hw) rfl).upd 3 (.int .i64 hn) rfl).upd 4 (.int .i64 hf) rfl).upd 5 (.int .i64 ht) rfl
  have y0 := kf.cell (k := 0) rfl
  have y1 := kf.cell (k := 1) rfl
  have y2 := kf.cell (k := 2) rfl
  have y3 := kf.cell (k := 3) rfl
  have y4 := kf.cell (k := 4) rfl
  have y5 := kf.cell (k := 5) rfl
  refine bodyPost_ret (v := .tuple #[.agg #[.int .i64 hp, .int .i64 hl, .int .i64 hw, .int .i64 hn, .int .i64 hf, .int .i64 ht], .int .i64 0]) (by simp [results, Tryz.results37, go_sem, y0, y1, y2, y3, y4, y5]) rfl ⟨rfl, ?_⟩
  exact (((((HB5.out.setCell (p := ⟨w.heap.size + 1, 0, none⟩) (Nat.le_succ _) _).setCell (p := ⟨w.heap.size + 1, 1, none⟩) (Nat.le_succ _) _).setCell (p := ⟨w.heap.size + 1, 2, none⟩) (Nat.le_succ _) _).setCell (p := ⟨w.heap.size + 1, 3, none⟩) (Nat.le_succ _) _).setCell (p := ⟨w.heap.size + 1, 4, none⟩) (Nat.le_succ _) _).setCell (p := ⟨w.heap.size + 1, 5, none⟩) (Nat.le_succ _) _
end
end Go.Proofs.YteodfondjogmoaaGreatDoor
