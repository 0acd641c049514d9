/- RuleSounds: what a word's letters say; in memory of its own. Conditions: those of each theorem. -/
import Derived.Test.YtieifhfgedoiaaaDoorNVs
namespace Go.Proofs.YtieifhfgedoiaaaDoor
open Go.RowKit Go.Lib
open Go.ChangeMaps
set_option linter.unusedVariables false
set_option linter.unusedSimpArgs false
attribute [local go_sem] ExtS.cell ExtS.froz upE_value upE_skip upE_enter Ext.cell Ext.froz
/-- a row of phones of its own, with its room -/
def Roomy (w : World) (base : Nat) (v : Value) : Prop :=
 v = .slice none 0 0 ∨ ∃ g n cap cur, v = .slice (some ⟨g, 0, none⟩) n cap ∧ base ≤ g ∧ Blk w g 66 cur ∧ cur.size = cap * 3 ∧ n ≤ cap ∧ cap ≤ maxLen
theorem own_roomy {w : World} {base n : Nat} {v : Value} {xs : List Value} (h : w.ownsRow base 66 3 v n xs) : Roomy w base v := by
 rcases h.2 with ⟨hh, _⟩ | ⟨g, cap, cur, h1, h2, h3, h4, h5, h6, _⟩
 ·exact .inl hh
 ·exact .inr ⟨g, n, cap, cur, h1, h2, h3, h6, h4, h5⟩
theorem Roomy.low {w w' : World} {base : Nat} {v : Value} (h : Roomy w base v) (hb : Below w.heap.size w w') : Roomy w' base v := by
 rcases h with h | ⟨g, n, cap, cur, h1, h2, h3, h4⟩
 ·exact .inl h
 ·exact .inr ⟨g, n, cap, cur, h1, h2, h3.low hb, h4⟩
theorem Roomy.set {w : World} {base : Nat} {v : Value} (h : Roomy w base v) {g : Nat} {c : Array Value} (hg : Blk w g 66 c) (k : Nat) (u : Value) : Roomy (w.setCell ⟨g, k, none⟩ u) base v := by
 rcases h with h | ⟨g', n, cap, cur, h1, h2, h3, h4, h5⟩
 ·exact .inl h
 ·by_cases he : g' = g
  ·subst he
   exact .inr ⟨g', n, cap, _, h1, h2, h3.set k u, by rw [Array.size_setIfInBounds]; exact h4, h5⟩
  ·exact .inr ⟨g', n, cap, cur, h1, h2, h3.other he u, h4, h5⟩
/-- sounds whose phones may be written -/
def SndsM (w : World) (base : Nat) (v : Value) (l : List Snd) : Prop :=
 ∃ Vs : List (Snd × Value), Vs.map (·.1) = l ∧ w.ownsRow base 62 4 v l.length (flatE (fun y : Snd × Value => Snd.cells y.1 y.2) Vs) ∧ ∀ y ∈ Vs, Roomy w base y.2
theorem SndsAt.roomy {w : World} {base : Nat} {v : Value} {l : List Snd} (h : SndsAt w base v l) : SndsM w base v l := by
 obtain ⟨Vs, h1, h2, h3⟩ := h
 exact ⟨Vs, h1, h2, fun y hy => own_roomy (h3 y hy)⟩
theorem SndsM.low {w w' : World} {base : Nat} {v : Value} {l : List Snd} (h : SndsM w base v l) (hb : Below w.heap.size w w') : SndsM w' base v l := by
 obtain ⟨Vs, h1, h2, h3⟩ := h
 exact ⟨Vs, h1, own_low h2 hb, fun y hy => (h3 y hy).low hb⟩
theorem SndsM.set {w : World} {base : Nat} {v : Value} {l : List Snd} (h : SndsM w base v l) {g : Nat} {c : Array Value} (hg : Blk w g 66 c) (k : Nat) (u : Value) : SndsM (w.setCell ⟨g, k, none⟩ u) base v l := by
 obtain ⟨Vs, h1, h2, h3⟩ := h
 refine ⟨Vs, h1, own_butT h2 ((ButS.refl [g] w).set (R := g) (by simp) k u) (fun B hB => by rw [List.mem_singleton] at hB; subst hB; exact ⟨66, _, by decide, hg⟩), fun y hy => (h3 y hy).set hg k u⟩
theorem sndm_cells {w : World} {base n cv : Nat} {pv : Option Addr} {l : List Snd} (h : SndsM w base (.slice pv n cv) l) {i : Nat} (hi : i < l.length) :
  ∃ g V, pv = some ⟨g, 0, none⟩ ∧ w.cell? ⟨g, i * 4 + 3, none⟩ = some V ∧ Roomy w base V := by
 obtain ⟨Vs, g1, g2, g3⟩ := h
 obtain ⟨m, hm⟩ : ∃ m, l.length = m + 1 := ⟨l.length - 1, by omega⟩
 rw [hm] at g2
 obtain ⟨g, cap, hg⟩ := own_block g2
 cases hg
 have hl : i < Vs.length := by have := congrArg List.length g1; rw [List.length_map] at this; omega
 have hz : Vs[i]? = some Vs[i] := List.getElem?_eq_getElem hl
 exact ⟨g, Vs[i].2, rfl, own_cell (j := i * 4 + 3) g2 (flatE_get (fun y : Snd × Value => Snd.cells y.1 y.2) 4 (fun _ => rfl) Vs i _ hz 3 _ rfl), g3 _ (List.mem_of_getElem? hz)⟩
set_option maxRecDepth 100000 in
set_option maxHeartbeats 8000000 in
theorem sounds5 (s t : ByteArray) (w : World) (m : Int) (hm : w.cell? ⟨0, 0, none⟩ = some (.int .i64 m)) :
  Calls Tryd.prog 5 #[.string s, .string t] w fun e w' => e = .returned (.bool true) ∧ Below w.heap.size w w' := by
 obtain ⟨i0, hi, hz0, hz1, hz2⟩ := info_parts info66b
 have h0 : 0 < w.heap.size := World.block_lt_of_cell? w _ hm
 have hW := hid (wakes11 w m hm)
 have hL := hid (fun W => long12 s W)
 have hR := hid (fun W (hb : Below w.heap.size w W) (hs : s.size ≤ 8000) => read13 s (by omega) W m (by rw [hb.cell (p := ⟨0, 0, none⟩) h0]; exact hm))
 clear hm
 go_enter Tryd.func5, Tryd.ntmps5
 go_wp2_with fail
 go_at_call 11
 with_reducible refine Calls.mono (hW.out) ?_
 rintro e w1 ⟨rfl, hb1⟩
 skip
 have hb1H := hid hb1
 clear hb1 hW
 by_cases hlong : 8000 < s.size
 ·have q1 : decide ((8000 : Int) < s.size) = true := decide_eq_true (by omega)
  have q2 : decide (8000 < s.size) = true := decide_eq_true hlong
  clear hR
  go_wp2_with (go_at_call 12; (with_reducible refine Calls.mono (hL.out _) ?_); rintro e w2 ⟨rfl, rfl⟩)
  go_ret
  exact ⟨rfl, hb1H.out⟩
 have q1 : decide ((8000 : Int) < s.size) = false := decide_eq_false (by omega)
 have q2 : decide (8000 < s.size) = false := decide_eq_false hlong
 have hR2 := hid (hR.out _ hb1H.out (by omega))
 clear hR
 by_cases hlt : 1000 < t.size
 ·have q3 : decide ((1000 : Int) < t.size) = true := decide_eq_true (by omega)
  have q4 : decide (1000 < t.size) = true := decide_eq_true hlt
  clear hR2
  go_wp2_with (go_at_call 12; (with_reducible refine Calls.mono (hL.out _) ?_); rintro e w2 ⟨rfl, rfl⟩)
  go_ret
  exact ⟨rfl, hb1H.out⟩
 have q3 : decide ((1000 : Int) < t.size) = false := decide_eq_false (by omega)
 have q4 : decide (1000 < t.size) = false := decide_eq_false hlt
 obtain ⟨o, ho⟩ : ∃ o, linesR Rs.empty 0 (linesB s) = o := ⟨_, rfl⟩
 rw [ho] at hR2
 have HO := hid ho
 clear ho
 go_wp2_with (go_at_call 12; (with_reducible refine Calls.mono (hL.out _) ?_); rintro e w2 ⟨rfl, rfl⟩)
 cases o with
 | bad er q =>
  go_at_call 13
  with_reducible refine Calls.mono (hR2.out) ?_
  rintro e w3 ⟨⟨c, rfl, hV1⟩, hb3⟩
  skip
  have hi31 : (Tryd.prog.info? 31).map (·.size) = some c.size := by rw [hV1.1]; kernel_rfl
  have hb3H := hid hb3
  clear hb3 hR2
  go_wp2_with (refine wpList_store_row rfl 31 _ _ rfl w3.heap.size c rfl rfl 31 Tryd.zeroCells31 (heap_alloc_new _ _) hi31 (by rw [hV1.1]; kernel_rfl) hV1.2 ?_)
  have hBR := hid (setRow_but (w3.alloc (.cells Tryd.zeroCells31 31)) w3.heap.size c)
  have hbA : Below w3.heap.size w3 (w3.alloc (.cells Tryd.zeroCells31 31)) := (Below.refl _ _).alloc (Nat.le_refl _) _
  have hB3 := hid (hbA.trans (hBR.out.below (fun k hk => by rw [List.mem_singleton] at hk; omega) hbA.size))
  go_ret
  exact ⟨rfl, bnext (bnext hb1H.out hb3H.out) hB3.out⟩
 | ok y =>
  have gy := hid (linesR_good HO.out empty_good)
  go_at_call 13
  with_reducible refine Calls.mono (hR2.out) ?_
  rintro e w3 ⟨⟨X, c, rfl, hP, hV, hn⟩, hb3⟩
  skip
  have hV1 := hV.one
  have hi31 : (Tryd.prog.info? 31).map (·.size) = some c.size := by rw [hV1.1]; kernel_rfl
  have hb3H := hid hb3
  have hPH := hid hP
  have hVH := hid hV
  clear hb3 hR2 hP hV
  go_wp2_with (first | refine wpList_store_row rfl 31 _ _ rfl w3.heap.size c rfl rfl 31 Tryd.zeroCells31 (heap_alloc_new _ _) hi31 (by rw [hV1.1]; kernel_rfl) hV1.2 ?_)
  have hBR := hid (setRow_but (w3.alloc (.cells Tryd.zeroCells31 31)) w3.heap.size c)
  have hk4 := hid (setRow_heap _ w3.heap.size Tryd.zeroCells31 c 31 _ (heap_alloc_new w3 (.cells Tryd.zeroCells31 31)))
  have hbA : Below w3.heap.size w3 (w3.alloc (.cells Tryd.zeroCells31 31)) := (Below.refl _ _).alloc (Nat.le_refl _) _
  have hB3 := hid (hbA.trans (hBR.out.below (fun k hk => by rw [List.mem_singleton] at hk; omega) hbA.size))
  have hb4 := hid (bnext (bnext hb1H.out hb3H.out) hB3.out)
  have hP4 := hid (hPH.out.low hB3.out)
  have hV4 := hid (hVH.out.low hB3.out)
  clear hbA hBR hB3 hb3H hPH hVH hb1H
  generalize (w3.alloc (.cells Tryd.zeroCells31 31)).setRow w3.heap.size c = W4 at *
  generalize w3.heap.size = T at *
  have hts : t.size ≤ 1000 := by omega
  have hS2 := hid (sounds22 hV4.out gy.out hn t (by omega))
  have hkT := hid (show Blk W4 T 31 c from hk4.out)
  clear hk4
  go_wp2_with fail
  refine wp_load_row 31 _ rfl T rfl 31 c (0, 0) _ hkT.out Tryd.underlying31 rfl hi31 ?_
  go_wp2_with fail
  go_at_call 22
  with_reducible refine Calls.mono (hS2.out) ?_
  rintro e w5 ⟨hpo, hb5⟩
  skip
  obtain ⟨o2, ho2⟩ : ∃ o2, soundsR y t = o2 := ⟨_, rfl⟩
  rw [ho2] at hpo
  have HO2 := hid ho2
  have HB5 := hid (bnext hb4.out hb5)
  have hP5 := hid (hP4.out.low hb5)
  have hS3 := hid (fun W (hb : Below w5.heap.size w5 W) => sounds23 (hP5.out.low hb) gy.out hn t (by omega))
  have hPh := hid (fun W (hb : Below w5.heap.size w5 W) => phones24 (hP5.out.low hb) gy.out hn t (by omega))
  rw [ho2] at hS3 hPh
  clear hS2 hkT hP4 hV4 hb4 hb5
  cases o2 with
  | none =>
   have hpo2 : e = .returned (.tuple #[.slice none 0 0, .int .i64 3]) := hpo
   subst hpo2
   clear hpo
   go_wp2_with fail
   go_at_call 23
   with_reducible refine Calls.mono (hS3.out _ (Below.refl _ _)) ?_
   rintro e w6 ⟨hp6, hb6⟩
   skip
   have h6 : e = .returned (.tuple #[.slice none 0 0, .int .i64 3]) := hp6
   subst h6
   have HB6 := hid hb6
   clear hp6 hb6
   go_wp2_with fail
   go_at_call 24
   with_reducible refine Calls.mono (hPh.out _ HB6.out) ?_
   rintro e w7 ⟨hp7, hb7⟩
   skip
   have h7 : e = .returned (.tuple #[.slice none 0 0, .int .i64 3]) := hp7
   subst h7
   have HB7 := hid (bnext (bnext HB5.out HB6.out) hb7)
   clear hp7 hb7
   go_wp2_with fail
   go_ret
   exact ⟨rfl, HB7.out⟩
  | some l =>
   obtain ⟨vl, he, hSn⟩ := (show ∃ v, e = .returned (.tuple #[v, .int .i64 0]) ∧ SndsR w5 W4.heap.size v l from hpo)
   subst he
   obtain ⟨pl, cl, rfl⟩ : ∃ pv cv, vl = .slice pv l.length cv := by obtain ⟨Vs, _, g2, _⟩ := hSn; exact own_shape g2
   have hmany := sounds_many ho2
   have hlen := sounds_len gy.out ho2
   have hphl : Hid (∀ z ∈ l, z.ph.length ≤ 100000000) := hid (fun z hz => by
    obtain ⟨i, hi, rfl⟩ := List.mem_iff_getElem.1 hz
    have h1 := manyN_take l (i + 1)
    rw [← allP_len, allP_take (List.getElem?_eq_getElem hi), List.length_append] at h1
    omega)
   obtain ⟨L, hL⟩ : ∃ L, l.length = L := ⟨_, rfl⟩
   have HL := hid hL
   have HR := hid hSn
   rw [hL] at hlen HR ⊢
   clear hpo hSn hL
   go_wp2_with fail
   go_at_call 23
   with_reducible refine Calls.mono (hS3.out _ (Below.refl _ _)) ?_
   rintro e w6 ⟨hp6, hb6⟩
   skip
   obtain ⟨vs, he6, hS6⟩ := (show ∃ v, e = .returned (.tuple #[v, .int .i64 0]) ∧ SndsAt w6 w5.heap.size v l from hp6)
   subst he6
   obtain ⟨ps, cs, rfl⟩ : ∃ pv cv, vs = .slice pv l.length cv := by obtain ⟨Vs, _, g2, _⟩ := hS6; exact own_shape g2
   have HS6 := hid hS6
   have HB6 := hid hb6
   rw [HL.out] at HS6 ⊢
   clear hp6 hS6 hb6
   go_wp2_with fail
   go_at_call 24
   with_reducible refine Calls.mono (hPh.out _ HB6.out) ?_
   rintro e w7 ⟨hp7, hb7⟩
   skip
   obtain ⟨vp, he7, hP7⟩ := (show ∃ v, e = .returned (.tuple #[v, .int .i64 0]) ∧ w7.ownsRow w6.heap.size 66 3 v (allP l).length (flatE Ph.cells (allP l)) from hp7)
   subst he7
   obtain ⟨pp, cp, rfl⟩ := own_shape hP7
   have HP7 := hid (own_phR hP7)
   have HB7 := hid (bnext HB6.out hb7)
   have HS7 := hid (HS6.out.low hb7)
   have HR7 := hid (HR.out.low HB7.out)
   clear hp7 hP7 hb7 HB6 HS6
   go_wp2_with fail
   go_loopw [15, 16] (fun v8 v19 wr => ∃ i : Nat, i ≤ L ∧ v19 = .int .i64 i ∧ Hid (wr.ownsRow w7.heap.size 66 3 v8 (allP (l.take i)).length (flatE Ph.cells (allP (l.take i)))) ∧ Hid (Below w7.heap.size w7 wr)) (fun _ v _ => L - (RowKit.intOf v).toNat)
   case atStart => exact ⟨0, Nat.zero_le _, rfl, hid (World.ownsRow_nil _ _ _ _), hid (Below.refl _ _)⟩
   case round =>
    obtain ⟨i, hil, rfl, hO, hB⟩ := hrel
    have hwi : IntKind.i64.wrap ((i : Int) + 1) = (i : Int) + 1 := IntWalk.i64_in _ (by omega)
    by_cases hlt : i < L
    ·have q5 : decide ((i : Int) < L) = true := decide_eq_true (by omega)
     have q6 : (i : Int) < L := by omega
     have q7 : (0 : Int) ≤ i := by omega
     obtain ⟨z, hy⟩ : ∃ z, l[i]? = some z := ⟨_, List.getElem?_eq_getElem (by rw [HL.out]; exact hlt)⟩
     obtain ⟨g1, s1, k1, rfl, a0, a1, a2, a3, a4, a5⟩ := sndr_cells (HR7.out.low hB.out) hy
     have htk := hid (allP_take hy)
     have hbd : (allP (l.take i)).length + z.ph.length ≤ 128 := by
      have h1 := manyN_take l (i + 1)
      rw [← allP_len, htk.out, List.length_append] at h1
      omega
     obtain ⟨pv, cv, rfl⟩ := own_shape hO.out
     obtain ⟨P, hP⟩ : ∃ P, z.ph.length = P := ⟨_, rfl⟩
     obtain ⟨N, hN⟩ : ∃ N, (allP (l.take i)).length = N := ⟨_, rfl⟩
     rw [hP] at a3 hbd
     rw [hN] at hO hbd ⊢
     have HP := hid hP
     have HN := hid hN
     have hsz := hid hB.out.size
     have hA4 := hid a4
     clear hN hP a4
     cases s1 with
     | none =>
      have hk0 := a5 rfl
      subst hk0
      have hx : z.ph = [] := Classical.byContradiction fun hL => by obtain ⟨g, e, _⟩ := hA4.out hL; cases e
      have hP0 : P = 0 := by rw [← HP.out, hx]; rfl
      subst hP0
      go_wp2_with (at_builtin; refine wpList_append_own_none rfl (.tmp 88) (.tmp 93) 41 rfl w7.heap.size 66 i0 3 Tryd.underlying41 hi _ _ _ rfl hO.out rfl ?_; refine stop_here ?_)
      refine hid ?_
      have hO5 : Hid (wr.ownsRow w7.heap.size 66 3 (.slice pv N cv) (allP (l.take (i + 1))).length (flatE Ph.cells (allP (l.take (i + 1))))) := hid (by rw [htk.out, hx, List.append_nil, HN.out]; exact hO.out)
      clear hO hA4 htk
      go_wp2_with fail
      go_roundw
      case rel => exact ⟨i + 1, by omega, by go_num, hO5, hB⟩
      case measure => simp [RowKit.intOf]; omega
     | some a =>
      have hlenF : (flatE Ph.cells z.ph).length = P * 3 := by rw [← HP.out]; exact flatE_len Ph.cells 3 (fun _ => rfl) z.ph
      have hNw := hid (ph_all hA4.out)
      go_wp2_with (at_builtin; refine wpList_append_own _ rfl (.tmp 88) (.tmp 93) 41 rfl w7.heap.size 66 i0 _ 3 12 Tryd.underlying41 hi hz0 hz1 hz2 rfl (by decide) _ N _ rfl hO.out a P k1 (flatE Ph.cells z.ph) rfl hlenF hNw.out (ph_one z.ph) (by unfold maxLen; omega) (by omega) hsz.out ?_; refine stop_here ?_)
      refine hid ?_
      intro v' w5' hown hgrow hnil
      have hO5 : Hid (w5'.ownsRow w7.heap.size 66 3 v' (allP (l.take (i + 1))).length (flatE Ph.cells (allP (l.take (i + 1))))) := hid (by
       have hfl : flatE Ph.cells (allP (l.take (i + 1))) = flatE Ph.cells (allP (l.take i)) ++ flatE Ph.cells z.ph := by rw [htk.out]; unfold flatE; rw [List.flatMap_append]
       rw [hfl, htk.out, List.length_append, HN.out, HP.out]
       exact hown)
      have hB5 := hid (hB.out.grown hgrow hsz.out (fun k hk => (own_ge hO.out hk).1))
      clear hown hgrow hnil hO hA4 htk hNw
      go_wp2_with fail
      go_roundw
      case rel => exact ⟨i + 1, by omega, by go_num, hO5, hB5⟩
      case measure => simp [RowKit.intOf]; omega
    ·obtain rfl : i = L := by omega
     have q5 : decide ((i : Int) < i) = false := by simp
     have hO2 := hO.out
     obtain ⟨pv, cv, rfl⟩ := own_shape hO.out
     rw [List.take_of_length_le (by rw [HL.out]; exact Nat.le_refl _)] at hO2 ⊢
     have HOF := hid (own_phR hO2)
     clear hO2 hO
     have hA25 := hid (alike25 (w := wr) (p1 := ps) (p2 := pl) (c1 := cs) (c2 := cl) l (by rw [HL.out]; exact (HS7.out.low hB.out).reads) (by rw [HL.out]; exact HR7.out.low hB.out) (by rw [HL.out]; omega) hphl.out)
     rw [HL.out] at hA25
     have hal : (allP l).length ≤ 100000000 := by rw [allP_len]; omega
     go_wp2_with fail
     go_at_call 25
     with_reducible refine Calls.mono (hA25.out) ?_
     rintro e w8 ⟨rfl, m1, rfl⟩
     skip
     have hB8 := hid (bel_dr hB.out m1)
     have hA26 := hid (same26q (w := wr.drewN m1) (p1 := pp) (p2 := pv) (c1 := cp) (c2 := cv) (allP l) (HP7.out.low hB8.out) (HOF.out.low (bel_dr (Below.refl _ _) m1)) hal)
     clear hA25
     go_wp2_with fail
     go_at_call 26
     with_reducible refine Calls.mono (hA26.out) ?_
     rintro e w9 ⟨rfl, m2, rfl⟩
     skip
     have hB9 := hid (HB7.out.trans ((bel_dr hB8.out m2).mono HB7.out.size))
     have hM9 := hid ((HS7.out.low (bel_dr hB8.out m2)).roomy)
     clear hA26 hB8 hB HP7 HOF HS7 HR7
     generalize (wr.drewN m1).drewN m2 = W9 at *
     go_wp2_with fail
     go_loopw [17] (fun v17 wx => ∃ j : Nat, j ≤ i ∧ v17 = .int .i64 j ∧ Hid (SndsM wx w5.heap.size (.slice ps i cs) l) ∧ Hid (Below w5.heap.size w5 wx)) (fun v _ => i - (RowKit.intOf v).toNat)
     case atStart => exact ⟨0, Nat.zero_le _, rfl, hM9, hB9⟩
     case round =>
      obtain ⟨j, hj, rfl, hM, hBx⟩ := hrel
      have hwj : IntKind.i64.wrap ((j : Int) + 1) = (j : Int) + 1 := IntWalk.i64_in _ (by omega)
      by_cases hlt2 : j < i
      ·have t5 : decide ((j : Int) < i) = true := decide_eq_true (by omega)
       have t6 : (j : Int) < i := by omega
       have t7 : (0 : Int) ≤ j := by omega
       obtain ⟨g, V, rfl, y3, hro⟩ := sndm_cells hM.out (i := j) (by rw [HL.out]; exact hlt2)
       have hro2 : V = .slice none 0 0 ∨ ∃ G n cap, V = .slice (some ⟨G, 0, none⟩) n cap ∧ n ≤ cap ∧ cap ≤ maxLen ∧ w5.heap.size ≤ G ∧ Hid (∃ cur, Blk wr G 66 cur ∧ cur.size = cap * 3) := by
        rcases hro with h | ⟨G, n, cap, cur, h1, h2, h3, h4, h5, h6⟩
        ·exact .inl h
        ·exact .inr ⟨G, n, cap, h1, h5, h6, h2, hid ⟨cur, h3, h4⟩⟩
       clear hro
       rcases hro2 with rfl | ⟨G, n2, cap, rfl, hnc, hcm, hGb, hKG⟩
       ·go_wp2_with fail
        go_quiet (fail)
        have hMq := hid (hM.out.low (bel_dr (Below.refl _ _) nq))
        have hBq := hid (bel_dr hBx.out nq)
        clear hM hBx y3
        generalize wr.drewN nq = Wq at *
        go_wp2_with fail
        go_loopw [19] (fun v19 wz => v19 = .int .i64 0 ∧ wz = Wq) (fun _ _ => 0)
        case atStart => exact ⟨rfl, rfl⟩
        case round =>
         obtain ⟨rfl, rfl⟩ := hrel
         go_wp2_with fail
         go_roundw
         case rel => exact ⟨j + 1, by omega, by go_num, hMq, hBq⟩
         case measure => simp [RowKit.intOf]; omega
       ·have u0 : (0 : Int) ≤ cap := by omega
        go_wp2_with fail
        go_quiet (fail)
        have hMq := hid (hM.out.low (bel_dr (Below.refl _ _) nq))
        have hBq := hid (bel_dr hBx.out nq)
        have hKq : Hid (∃ cur, Blk (wr.drewN nq) G 66 cur ∧ cur.size = cap * 3) := hid (by obtain ⟨cur, h1, h2⟩ := hKG.out; exact ⟨cur, h1.low (bel_dr (Below.refl _ _) nq), h2⟩)
        clear hM hBx y3 hKG
        generalize wr.drewN nq = Wq at *
        go_wp2_with fail
        go_loopw [19] (fun v19 wz => ∃ k : Nat, k ≤ cap ∧ v19 = .int .i64 k ∧ Hid (SndsM wz w5.heap.size (.slice (some ⟨g, 0, none⟩) i cs) l) ∧ Hid (Below w5.heap.size w5 wz) ∧ Hid (∃ cur, Blk wz G 66 cur ∧ cur.size = cap * 3)) (fun v _ => cap - (RowKit.intOf v).toNat)
        case atStart => exact ⟨0, Nat.zero_le _, rfl, hMq, hBq, hKq⟩
        case round =>
         obtain ⟨k, hk, rfl, hMz, hBz, hKz⟩ := hrel
         by_cases hlt3 : k < cap
         ·have p5 : decide ((k : Int) < cap) = true := decide_eq_true (by omega)
          have hwk : IntKind.i64.wrap ((k : Int) + 1) = (k : Int) + 1 := IntWalk.i64_in _ (by unfold maxLen at hcm; omega)
          have p6 : (k : Int) < cap := by omega
          have p7 : (0 : Int) ≤ k := by omega
          obtain ⟨cur, hK, hcz⟩ := hKz.out
          obtain ⟨v0, c0⟩ : ∃ u, wr.cell? ⟨G, k * 3, none⟩ = some u := ⟨_, hK.cell (k := k * 3) (Array.getElem?_eq_getElem (by omega))⟩
          obtain ⟨v1, c1⟩ : ∃ u, wr.cell? ⟨G, k * 3 + 1, none⟩ = some u := ⟨_, hK.cell (k := k * 3 + 1) (Array.getElem?_eq_getElem (by omega))⟩
          obtain ⟨v2, c2⟩ : ∃ u, wr.cell? ⟨G, k * 3 + 2, none⟩ = some u := ⟨_, hK.cell (k := k * 3 + 2) (Array.getElem?_eq_getElem (by omega))⟩
          have cf := hK.froz
          have hK1 := hid (hK.set (k * 3) (.int .i32 120))
          have hK2 := hid (hK1.out.set (k * 3 + 1) (.bool true))
          have hK3 := hid (hK2.out.set (k * 3 + 2) (.int .i32 0))
          have hM3 := hid (((hMz.out.set hK (k * 3) (.int .i32 120)).set hK1.out (k * 3 + 1) (.bool true)).set hK2.out (k * 3 + 2) (.int .i32 0))
          have hB3 := hid (below_set (below_set (below_set hBz.out hGb (k * 3) (.int .i32 120)) hGb (k * 3 + 1) (.bool true)) hGb (k * 3 + 2) (.int .i32 0))
          have HCZ := hid hcz
          clear hcz hK
          go_wp2_with fail
          go_roundw
          case rel => exact ⟨k + 1, by omega, by go_num, hM3, hB3, hid ⟨_, hK3.out, by simp only [Array.size_setIfInBounds]; exact HCZ.out⟩⟩
          case measure => simp [RowKit.intOf]; omega
         ·have p5 : decide ((k : Int) < cap) = false := decide_eq_false (by omega)
          go_wp2_with fail
          go_roundw
          case rel => exact ⟨j + 1, by omega, by go_num, hMz, hBz⟩
          case measure => simp [RowKit.intOf]; omega
      ·have t5 : decide ((j : Int) < i) = false := decide_eq_false (by omega)
       go_wp2_with fail
       go_at_call 23
       with_reducible refine Calls.mono (hS3.out _ hBx.out) ?_
       rintro e wA ⟨hpA, hbA⟩
       skip
       obtain ⟨vt, heA, hSA⟩ := (show ∃ v, e = .returned (.tuple #[v, .int .i64 0]) ∧ SndsAt wA wr.heap.size v l from hpA)
       subst heA
       obtain ⟨pt, ct, rfl⟩ : ∃ pv cv, vt = .slice pv l.length cv := by obtain ⟨Vs, _, g2, _⟩ := hSA; exact own_shape g2
       have HBA := hid (bnext hBx.out hbA)
       have hA5 := hid (alike25 (w := wA) (p1 := pt) (p2 := pl) (c1 := ct) (c2 := cl) l hSA.reads (by rw [HL.out]; exact HR.out.low HBA.out) (by rw [HL.out]; omega) hphl.out)
       rw [HL.out] at hA5 ⊢
       clear hpA hSA hbA hM
       go_wp2_with fail
       go_at_call 25
       with_reducible refine Calls.mono (hA5.out) ?_
       rintro e wB ⟨rfl, m3, rfl⟩
       skip
       go_wp2_with fail
       go_ret
       exact ⟨rfl, HB5.out.trans ((bel_dr HBA.out m3).mono HB5.out.size)⟩
end Go.Proofs.YtieifhfgedoiaaaDoor
