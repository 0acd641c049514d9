/- What a word's letters say: both hands' sounds, and the phones. Conditions: those of each theorem. -/
import Derived.Test.YtieifhfgedoiaaaGreatDoorNTd
import Derived.Test.YtieifhfgedoiaaaGreatDoorNQu
import Derived.Deep.DeepCutAuto
import Derived.Deep.QuietTactic
import Derived.BigQuiet
import Derived.Great.Walk
import Derived.Laws.AppendOwnNone
namespace Go.Proofs.YtieifhfgedoiaaaGreatDoor
open Go.RowKit Go.Lib
set_option linter.unusedVariables false
set_option linter.unusedSimpArgs false
attribute [local go_sem] ExtS.cell ExtS.froz upE_value upE_skip upE_enter Ext.cell Ext.froz one_neq
theorem info66b : (Tryz.prog.info? 60).map (fun i => (i.zero, i.size, i.bytes)) = some (some (.agg #[.int .i32 0, .bool false, .int .i32 0]), 3, 12) := by kernel_rfl
theorem flatE_at {α : Type} (f : α → List Value) (k : Nat) (hk : ∀ x, (f x).length = k) : ∀ (L : List α) (j : Nat) (u : Value), (flatE f L)[j]? = some u → ∃ i x d, j = i * k + d ∧ L[i]? = some x ∧ (f x)[d]? = some u
 | [], j, u, h => by simp [flatE] at h
 | x :: r, j, u, h => by
  have e : flatE f (x :: r) = f x ++ flatE f r := by unfold flatE; rw [List.flatMap_cons]
  rw [e] at h
  by_cases hj : j < k
  ·rw [List.getElem?_append_left (by rw [hk]; exact hj)] at h
   exact ⟨0, x, j, by omega, rfl, h⟩
  ·rw [List.getElem?_append_right (by rw [hk]; omega), hk] at h
   obtain ⟨i, y, d, h1, h2, h3⟩ := flatE_at f k hk r _ u h
   exact ⟨i + 1, y, d, by rw [Nat.add_mul, Nat.one_mul]; omega, h2, h3⟩
theorem ph_all {w : World} {a : Addr} {L : List Ph} (h : PhR w (some a) L) : ∀ j u, (flatE Ph.cells L)[j]? = some u → w.cell? (a.add j) = some u := by
 intro j u hu
 obtain ⟨i, x, d, rfl, h2, h3⟩ := flatE_at Ph.cells 3 (fun _ => rfl) L j u hu
 obtain ⟨g, e, hc⟩ := h (fun e => by rw [e] at h2; cases h2)
 injection e with e
 subst e
 obtain ⟨c0, c1, c2⟩ := hc i x h2
 have hadd : (⟨g, 0, none⟩ : Addr).add (i * 3 + d) = ⟨g, i * 3 + d, none⟩ := by unfold Addr.add; split <;> simp_all
 rw [hadd]
 unfold Ph.cells at h3
 match d, h3 with
 | 0, h3 => injection h3 with h3; subst h3; exact c0
 | 1, h3 => injection h3 with h3; subst h3; exact c1
 | 2, h3 => injection h3 with h3; subst h3; exact c2
theorem ph_one (L : List Ph) : ∀ u ∈ flatE Ph.cells L, u.oneCell' = true := by
 intro u hu
 unfold flatE at hu
 obtain ⟨x, _, hx⟩ := List.mem_flatMap.1 hu
 unfold Ph.cells at hx
 simp only [List.mem_cons, List.not_mem_nil, or_false] at hx
 rcases hx with rfl | rfl | rfl <;> rfl
set_option maxHeartbeats 2000000 in
theorem clone40 (w : World) (p : Option Addr) (c : Nat) (L : List Ph) (h : PhR w p L) (hl : L.length ≤ 128) :
  Calls Tryz.prog 31 #[.slice p L.length c] w fun e w' => (∃ v, e = .returned v ∧ w'.ownsRow w.heap.size 60 3 v L.length (flatE Ph.cells L)) ∧ Below w.heap.size w w' := by
 obtain ⟨i0, hi, hz0, hz1, hz2⟩ := info_parts info66b
 cases p with
 | none =>
  have hx : L = [] := Classical.byContradiction fun hL => by obtain ⟨g, e, _⟩ := h hL; cases e
  subst hx
  have hnil : ∀ W, (binOp .eql 36 (.slice none 0 c) (.slice none 0 0)).run Tryz.prog W = .ok (.bool true) W := fun W => by simpa using Lib.run_eql_slice_nil W 36 60 none 0 c 0 0 Tryz.underlying36
  go_enter Tryz.func31, Tryz.ntmps31
  go_wp2_with fail
  go_ret
  exact ⟨⟨_, rfl, World.ownsRow_nil _ _ _ _⟩, Below.refl _ _⟩
 | some a =>
  have hnil : ∀ W, (binOp .eql 36 (.slice (some a) L.length c) (.slice none 0 0)).run Tryz.prog W = .ok (.bool false) W := fun W => by simpa using Lib.run_eql_slice_nil W 36 60 (some a) L.length c 0 0 Tryz.underlying36
  have hF2 := h.low (Below.alloc (Below.refl w.heap.size w) (Nat.le_refl _) (.cells #[] 60))
  have hown : (w.alloc (.cells #[] 60)).ownsRow w.heap.size 60 3 (.slice (some ⟨w.heap.size, 0, none⟩) 0 0) 0 [] := ⟨rfl, .inr ⟨w.heap.size, 0, #[], rfl, Nat.le_refl _, heap_alloc_new w _, Nat.le_refl _, Nat.zero_le _, rfl, rfl⟩⟩
  have hO := hid hown
  have hNw := hid (ph_all hF2)
  have hlen : (flatE Ph.cells L).length = L.length * 3 := flatE_len Ph.cells 3 (fun _ => rfl) L
  clear hown h hF2
  go_enter Tryz.func31, Tryz.ntmps31
  go_wp2_with (first | (at_builtin; refine wpList_append_own _ rfl (.tmp 5) (.tmp 6) 36 rfl w.heap.size 60 i0 _ 3 12 Tryz.underlying36 hi hz0 hz1 hz2 rfl (by decide) _ 0 [] rfl hO.out a L.length c (flatE Ph.cells L) rfl hlen hNw.out (ph_one L) (by unfold maxLen; omega) (by omega) (by simp) ?_; refine stop_here ?_) | fail)
  refine hid ?_
  intro v' w5 hown' hgrow hn
  have hB := hid (Below.grown (Below.alloc (Below.refl w.heap.size w) (Nat.le_refl _) (.cells #[] 60)) hgrow (by simp) (fun k e => by cases e; exact Nat.le_refl _))
  have hW := hid hown'
  clear hown' hgrow hn hO hNw
  go_wp2_with fail
  go_ret
  exact ⟨⟨v', rfl, hW.out⟩, hB.out⟩
end Go.Proofs.YtieifhfgedoiaaaGreatDoor

namespace Go.Proofs.YtieifhfgedoiaaaGreatDoor
open Go.RowKit Go.Lib
open Go.ChangeMaps
set_option linter.unusedVariables false
set_option linter.unusedSimpArgs false
attribute [local go_sem] ExtS.cell ExtS.froz upE_value upE_skip upE_enter Ext.cell Ext.froz one_neq
def Snd.cells (y : Snd) (v : Value) : List Value := [.int .i64 y.f, .int .i64 y.t, .int .i64 y.r, v]
/-- sounds in memory of their own -/
def SndsAt (w : World) (base : Nat) (v : Value) (l : List Snd) : Prop :=
 ∃ Vs : List (Snd × Value), Vs.map (·.1) = l ∧ w.ownsRow base 56 4 v l.length (flatE (fun y : Snd × Value => Snd.cells y.1 y.2) Vs) ∧ ∀ y ∈ Vs, w.ownsRow base 60 3 y.2 y.1.ph.length (flatE Ph.cells y.1.ph)
theorem SndsAt.low {w w' : World} {base : Nat} {v : Value} {l : List Snd} (h : SndsAt w base v l) (hb : Below w.heap.size w w') : SndsAt w' base v l := by
 obtain ⟨Vs, h1, h2, h3⟩ := h
 exact ⟨Vs, h1, own_low h2 hb, fun y hy => own_low (h3 y hy) hb⟩
theorem SndsAt.butT {w w' : World} {base : Nat} {v : Value} {l : List Snd} {S : List Nat} (h : SndsAt w base v l) (hb : ButS S w w') (hS : ∀ B ∈ S, ∃ t a, (t ≠ 56 ∧ t ≠ 60) ∧ Blk w B t a) : SndsAt w' base v l := by
 obtain ⟨Vs, h1, h2, h3⟩ := h
 exact ⟨Vs, h1, own_butT h2 hb (fun B hB => by obtain ⟨t, a, ht, k⟩ := hS B hB; exact ⟨t, a, ht.1, k⟩), fun y hy => own_butT (h3 y hy) hb (fun B hB => by obtain ⟨t, a, ht, k⟩ := hS B hB; exact ⟨t, a, ht.2, k⟩)⟩
theorem SndsAt.mono {w : World} {base b : Nat} {v : Value} {l : List Snd} (h : SndsAt w base v l) (hb : b ≤ base) : SndsAt w b v l := by
 obtain ⟨Vs, h1, h2, h3⟩ := h
 exact ⟨Vs, h1, own_mono h2 hb, fun y hy => own_mono (h3 y hy) hb⟩
theorem manyN_snoc (l : List Snd) (y : Snd) : manyN (l ++ [y]) = manyN l + y.ph.length := by unfold manyN; rw [List.map_append, List.sum_append]; simp
theorem manyN_app (l r : List Snd) : manyN (l ++ r) = manyN l + manyN r := by unfold manyN; rw [List.map_append, List.sum_append]
theorem info62 : (Tryz.prog.info? 56).map (fun i => (i.zero, i.size, i.bytes)) = some (some (.agg #[.int .i64 0, .int .i64 0, .int .i64 0, .slice none 0 0]), 4, 48) := by kernel_rfl
/-- what Sounds leaves -/
def SndPost (w w' : World) (o : Option (List Snd)) (e : Ending) : Prop :=
 match o with
 | none => e = .returned (.tuple #[.slice none 0 0, .int .i64 3])
 | some l => ∃ v, e = .returned (.tuple #[v, .int .i64 0]) ∧ SndsAt w' w.heap.size v l
set_option maxRecDepth 100000 in
set_option maxHeartbeats 8000000 in
theorem sounds23 {w : World} {X base : Nat} {x : Rs} (h : PAt w X base x) (gx : RsG x) (hl : x.rules.length ≤ 256) (s : ByteArray) (hs : s.size ≤ 100000000) :
  Calls Tryz.prog 19 #[.pointer (some ⟨X, 0, none⟩), .string s] w fun e w' => SndPost w w' (soundsR x s) e ∧ Below w.heap.size w w' := by
 have hO := hid (of37 s w hs)
 have H := hid h
 clear h
 obtain ⟨i0, hi, hz0, hz1, hz2⟩ := info_parts info62
 go_enter Tryz.func19, Tryz.ntmps19
 go_wp2_with fail
 go_at_call 29
 with_reducible refine Calls.mono (hO.out) ?_
 rintro e w1 ⟨⟨v1, v2, rfl, hW⟩, hb1⟩
 skip
 obtain ⟨pu, cu, rfl⟩ := own_shape hW.u
 obtain ⟨pa, ca, rfl⟩ := own_shape hW.a
 have hWl := wordL_le s
 obtain ⟨n, hnn⟩ : ∃ n, (wordL s).length = n := ⟨_, rfl⟩
 have hal : (atL s).length = n + 1 := by rw [atL_len, hnn]
 have hcu : n ≤ cu := by have := (own_len hW.u).2; rw [hnn] at this; exact this
 have HOr := hid (own_oneR hW.u)
 have HNr := hid (own_numR hW.a)
 rw [hnn, hal]
 have HNN := hid hnn
 have HAL := hid hal
 rw [hnn] at hWl
 have hb2 : Below w1.heap.size w1 (w1.alloc (.cells #[.slice pu n cu, .slice pa (n + 1) ca] 80)) := (Below.refl _ _).alloc (Nat.le_refl _) _
 have KB := hid (Blk.new w1 80 #[.slice pu n cu, .slice pa (n + 1) ca])
 have HO2 := hid (HOr.out.low hb2)
 have HX := hid ((H.out.low hb1).low hb2)
 have HN2 : Hid (NumR (w1.alloc (.cells #[.slice pu n cu, .slice pa (n + 1) ca] 80)) pa (atL s)) := hid (fun hL => by
  obtain ⟨g, h1, h2⟩ := HNr.out hL
  exact ⟨g, h1, fun i u hu => cell_low hb2 (h2 i u hu)⟩)
 have hbb := hid (bnext hb1 hb2)
 have z0 := KB.out.cell (k := 0) rfl
 have z1 := KB.out.cell (k := 1) rfl
 have zf := KB.out.froz
 clear hO H hW hnn hal HOr HNr hb1 hb2
 have hA : soundsR x s = if n > 64 then none else if manyN (sndL x (wordL s) (atL s) 0) > 128 then none else some (sndL x (wordL s) (atL s) 0) := by unfold soundsR; rw [HNN.out]
 have HA := hid hA
 clear hA
 by_cases h64 : 64 < n
 ·have q1 : decide ((64 : Int) < n) = true := decide_eq_true (by omega)
  have q2 : decide (64 < n) = true := decide_eq_true h64
  go_wp2_with fail
  refine bodyPost_ret_by (v := .tuple #[.slice none 0 0, .int .i64 3]) (by simp [results, Tryz.results19, go_sem]) rfl ?_
  exact ⟨by rw [HA.out, if_pos h64]; rfl, hbb.out⟩
 have q1 : decide ((64 : Int) < n) = false := decide_eq_false (by omega)
 have q2 : decide (64 < n) = false := decide_eq_false h64
 go_wp2_with fail
 obtain ⟨T, hT⟩ : ∃ T, w1.heap.size = T := ⟨_, rfl⟩
 rw [hT] at KB z0 z1
 simp only [hT] at zf ⊢
 clear hT
 generalize w1.alloc (.cells #[.slice pu n cu, .slice pa (n + 1) ca] 80) = W0 at *
 go_loopw [7, 8, 9] (fun v7 v8 v9 wr => ∃ (k : Nat) (l : List Snd), k ≤ n ∧ v9 = .int .i64 k ∧ v8 = .int .i64 (manyN l) ∧ manyN l ≤ 128 ∧ l.length ≤ k ∧ Hid (sndL x (wordL s) (atL s) 0 = l ++ sndL x (wordL s) (atL s) k) ∧ Hid (SndsAt wr W0.heap.size v7 l) ∧ Hid (Below W0.heap.size W0 wr)) (fun _ _ v _ => n - (RowKit.intOf v).toNat)
 case atStart => exact ⟨0, [], Nat.zero_le _, rfl, rfl, by decide, Nat.le_refl _, hid rfl, hid ⟨[], rfl, World.ownsRow_nil _ _ _ _, by simp⟩, hid (Below.refl _ _)⟩
 case round =>
  clear z0 z1 zf
  obtain ⟨k, l, hk, rfl, rfl, hm, hlk, hS, hR, hB⟩ := hrel
  have hbr := hid (hbb.out.trans (hB.out.mono hbb.out.size))
  have KB2 := hid (KB.out.low hB.out)
  have z0 := KB2.out.cell (k := 0) rfl
  have z1 := KB2.out.cell (k := 1) rfl
  have zf := KB2.out.froz
  by_cases hlt : k < n
  ·have q3 : decide ((k : Int) < n) = true := decide_eq_true (by omega)
   have hF := hid (first39 (HX.out.low hB.out) gx hl (wordL s) (pu := pu) (pa := pa) (cu := cu) (na := n + 1) (ca := ca) (HO2.out.low hB.out) wordL_bd (by rw [HNN.out]; exact hcu) (by rw [HNN.out]; omega) k (by rw [HNN.out]; omega))
   rw [HNN.out] at hF
   have hst := step_in gx (w := wordL s) (k := k) (by rw [HNN.out]; exact hlt)
   rw [HNN.out] at hst
   have hmore := hid (sndL_more gx (a := atL s) (k := k) (show k < (wordL s).length by rw [HNN.out]; exact hlt))
   have hph := phs_le gx (w := wordL s) (k := k)
   obtain ⟨r, hr⟩ : ∃ r, firstN x (wordL s) k = r := ⟨_, rfl⟩
   have hrl : r ≤ x.rules.length := by rw [← hr]; exact firstN_le
   rw [hr] at hF
   have hcase := @firstN_at x (wordL s) k
   obtain ⟨st, hst2⟩ : ∃ st, stepN x (wordL s) k = st := ⟨_, rfl⟩
   obtain ⟨ph, hph2⟩ : ∃ ph, phsN x (wordL s) k = ph := ⟨_, rfl⟩
   have hdef : Hid ((r = 0 ∧ st = 1 ∧ ph = []) ∨ ∃ i u, x.rules[i]? = some u ∧ r = i + 1 ∧ st = u.body.length ∧ ph = u.phones) := by
    rw [← hst2, ← hph2]
    unfold stepN phsN ruleAt
    rw [hr] at hcase ⊢
    rcases hcase with h0 | ⟨i, u, h1, h2, h3⟩
    ·rw [h0, if_pos rfl]; exact hid (.inl ⟨rfl, rfl, rfl⟩)
    ·rw [h3, if_neg (by omega), Nat.add_sub_cancel, h1]; exact hid (.inr ⟨i, u, h1, rfl, rfl, rfl⟩)
   rw [hst2] at hst
   rw [hph2] at hph
   rw [hst2, hph2, hr] at hmore
   clear hcase hst2 hph2 hr
   have q4 : (0 : Int) ≤ r := by omega
   obtain ⟨pv, cv, hv7⟩ : ∃ pv cv, u7 = .slice pv l.length cv := by obtain ⟨Vs, _, g2, _⟩ := hR.out; exact own_shape g2
   subst hv7
   obtain ⟨ll, hll⟩ : ∃ ll, l.length = ll := ⟨_, rfl⟩
   rw [hll] at hlk hR
   simp only [hll]
   have HLL := hid hll
   clear hll
   go_upto_if 33 with (go_at_call 30; (with_reducible refine Calls.mono hF.out ?_); rintro e w2 ⟨rfl, hb2⟩)
   have hbA : Below w2.heap.size w2 (w2.alloc (.cells #[.int .i64 0, .int .i64 0, .int .i64 r, .slice none 0 0] 56)) := (Below.refl _ _).alloc (Nat.le_refl _) _
   have KY := hid (Blk.new w2 56 #[.int .i64 0, .int .i64 0, .int .i64 r, .slice none 0 0])
   have hBw := hid (bnext (bnext hB.out hb2) hbA)
   have HR2 := hid (hR.out.low hb2)
   have HB2 := hid (bnext hB.out hb2)
   have hYl : Hid (W0.heap.size ≤ w2.heap.size) := hid (Nat.le_trans hB.out.size hb2.size)
   have hYb : Hid (Below w2.heap.size w2 (w2.alloc (.cells #[.int .i64 0, .int .i64 0, .int .i64 r, .slice none 0 0] 56))) := hid hbA
   obtain ⟨Y, hY⟩ : ∃ Y, w2.heap.size = Y := ⟨_, rfl⟩
   have HY := hid hY
   rw [hY] at KY hYl hYb
   simp only [hY]
   clear z0 z1 zf KB2 hF hR hB hbr hb2 hbA hY
   generalize w2.alloc (.cells #[.int .i64 0, .int .i64 0, .int .i64 r, .slice none 0 0] 56) = W2 at *
   go_cut [11] (fun v11 wd => ∃ (vp : Value), v11 = .int .i64 st ∧ Hid (Blk wd Y 56 #[.int .i64 0, .int .i64 0, .int .i64 r, vp]) ∧ Hid (wd.ownsRow W0.heap.size 60 3 vp ph.length (flatE Ph.cells ph)) ∧ Hid (Below Y w2 wd))
   case first =>
    rcases hdef.out with ⟨rfl, rfl, rfl⟩ | ⟨i, u, hu, hri, rfl, rfl⟩
    ·have q5 : decide (0 < 0) = false := by decide
     go_wp2_with fail
     go_meet
     exact ⟨.slice none 0 0, rfl, KY, hid (World.ownsRow_nil _ _ _ _), hYb⟩
    ·have q5 : decide (0 < r) = true := decide_eq_true (by omega)
     have q6 : decide ((0 : Int) < r) = true := decide_eq_true (by omega)
     have hX2 := hid (HX.out.low hBw.out)
     obtain ⟨pv0, cv0, dd0, _, HR0⟩ := HX.out.slice
     obtain ⟨G, p1, p2, p3, p4, c1, c2, c3, c4, rfl, hR0⟩ := rows_ruM HR0 hu
     have df : ∀ k, W2.frozen? ⟨X, k, none⟩ = false := by obtain ⟨_, _, _, df, _⟩ := hX2.out.slice; exact df
     have d2 := cell_low hBw.out dd0
     obtain ⟨N, hN⟩ : ∃ N, x.rules.length = N := ⟨_, rfl⟩
     rw [hN] at d2 hl hrl
     have hw7 : IntKind.i64.wrap ((r : Int) - 1) = i := by rw [show (r : Int) - 1 = i by omega]; exact IntWalk.i64_in _ (by omega)
     have q7 : (0 : Int) ≤ i := by omega
     have q8 : (i : Int) < N := by omega
     have hGY : G ≠ Y := by
      have g1 := World.block_lt_of_cell? W0 ⟨G, i * 7, none⟩ hR0.y0
      have g2 := hYl.out
      have g3 : G < W0.heap.size := g1
      omega
     have hGn : G ∉ [Y] := by simp [hGY]
     have k2 := KY.out.cell (k := 2) rfl
     have kf := KY.out.froz
     have hRu := hR0.low hBw.out
     have y3 := hRu.y3
     have y6 := hRu.y6
     have HRu := hid hRu
     have HRI := hid hri
     clear hRu hX2 HR0 hri hR0 dd0
     go_wp2_with fail
     rotate_left
     ·exact absurd (of_decide_eq_true q5) (by assumption)
     go_quiet (fail)
     have hbq : Below W2.heap.size W2 (W2.drewN nq) := bel_dr (Below.refl W2.heap.size W2) nq
     replace KY := hid (KY.out.low hbq)
     replace hYb := hid (bel_dr hYb.out nq)
     have hYs : Hid (Y ≤ (W2.drewN nq).heap.size) := hid (by have := hYb.out.size; rw [HY.out] at this; exact this)
     replace HRu := hid (HRu.out.low hbq)
     replace hBw := hid (bnext hBw.out hbq)
     clear d2 df k2 kf y3 y6 hbq
     generalize W2.drewN nq = W2b at *
     have y3 := HRu.out.y3
     have y6 := HRu.out.y6
     go_wp2_with fail
     refine region_plan [Y] (.quiet 0 (.quiet 1 (.quiet 2 (.quiet 3 (.quiet 4 (.quiet 5 (.quiet 6 (.quiet 7 (.quiet 8 (.one 9 (.quiet 10 (.quiet 11 (.one 12 .done))))))))))))) (by kernel_rfl) (by kernel_rfl) ?_
     repeat (apply p_quiet; (case hi => rfl); intro K hK; go_simp; (refine ⟨hK _ ?_⟩; clear hK K))
     apply p_one
     case hi => rfl
     intro W3 hb3 K hK
     go_wp2_with (go_at_call 31; (with_reducible refine Calls.mono (clone40 W3 p4 c4 u.phones (HRu.out.low hb3).p hph) ?_); rintro e W4 ⟨⟨vp, rfl, hvp⟩, hb4⟩)
     refine hK _ _ (ButS.of (bnext hb3 hb4)) ?_
     obtain ⟨pp, cp, rfl⟩ := own_shape hvp
     have hVP := hid (own_mono hvp (Nat.le_trans hBw.out.size hb3.size))
     have hB4 := hid (bnext hb3 hb4)
     have K4 := hid (KY.out.low hB4.out)
     have HBS := hid (ButS.of (S := [Y]) hB4.out)
     clear hb3 hb4 hvp hK K hB4
     repeat (apply p_quiet; (case hi => rfl); intro K hK; go_simp; (refine ⟨hK _ ?_⟩; clear hK K))
     apply p_one
     case hi => rfl
     intro W5 hb5 K hK
     have hK5 := K4.out.low hb5
     have yk : W5.cell? ⟨Y, 3, none⟩ = some (.slice none 0 0) := hK5.cell rfl
     have yf := hK5.froz
     go_wp2_with fail
     refine hK _ _ ((HBS.out.low hb5).set (R := Y) (by simp) _ _) ?_
     replace HBS := hid ((HBS.out.low hb5).set (R := Y) (by simp) 3 (.slice pp u.phones.length cp))
     have hVP5 : Hid ((W5.setCell ⟨Y, 3, none⟩ (.slice pp u.phones.length cp)).ownsRow W0.heap.size 60 3 (.slice pp u.phones.length cp) u.phones.length (flatE Ph.cells u.phones)) := hid (own_butT (own_low hVP.out hb5) ((ButS.refl [Y] W5).set (R := Y) (by simp) 3 (.slice pp u.phones.length cp)) (fun B hB => by rw [List.mem_singleton] at hB; subst hB; exact ⟨56, _, by decide, hK5⟩))
     have hK6 := hid (hK5.set 3 (.slice pp u.phones.length cp))
     clear hK K yk yf hK5 hb5 hVP K4
     generalize W5.setCell ⟨Y, 3, none⟩ (.slice pp u.phones.length cp) = W5b at *
     apply p_done
     intro W6 hb6
     go_wp2_with fail
     go_meet
     exact ⟨.slice pp u.phones.length cp, rfl, hid (show Blk W6 Y 56 #[.int .i64 0, .int .i64 0, .int .i64 r, (.slice pp u.phones.length cp)] from hK6.out.low hb6), hid (own_low hVP5.out hb6), hid (hYb.out.trans ((HBS.out.low hb6).below (fun k hk => by rw [List.mem_singleton] at hk; omega) hYs.out))⟩
   case rest =>
    obtain ⟨vp, rfl, hKd, hPd, hYd⟩ := hcut
    obtain ⟨pp, cp, rfl⟩ := own_shape hPd.out
    have hBd := hid (HB2.out.trans (hYd.out.mono hYl.out))
    have hKBd := hid (KB.out.low hBd.out)
    obtain ⟨P, hP⟩ : ∃ P, ph.length = P := ⟨_, rfl⟩
    have HP := hid hP
    rw [hP] at hph hKd
    clear hP
    obtain ⟨fk, hfk⟩ : ∃ f, (atL s)[k]? = some f := ⟨_, List.getElem?_eq_getElem (by rw [HAL.out]; omega)⟩
    obtain ⟨tk, htk⟩ : ∃ f, (atL s)[k + st]? = some f := ⟨_, List.getElem?_eq_getElem (by rw [HAL.out]; omega)⟩
    obtain ⟨ga, hga, hna⟩ := HN2.out (fun e => by have := HAL.out; rw [e] at this; cases this)
    subst hga
    have hgl : ga < W0.heap.size := World.block_lt_of_cell? W0 _ (hna k fk hfk)
    have y1 := cell_low hBd.out (hna k fk hfk)
    have y2 := cell_low hBd.out (hna (k + st) tk htk)
    have e1 : (atL s).getD k 0 = fk := by rw [List.getD_eq_getElem?_getD, hfk]; rfl
    have e2 : (atL s).getD (k + st) 0 = tk := by rw [List.getD_eq_getElem?_getD, htk]; rfl
    rw [e1, e2] at hmore
    clear e1 e2 hfk htk hna
    obtain ⟨k2, hk2⟩ : ∃ k2, k + st = k2 := ⟨_, rfl⟩
    rw [hk2] at y2 hmore
    have HK2 := hid hk2
    have hws : IntKind.i64.wrap ((k : Int) + st) = (k2 : Int) := by rw [← hk2, Int.natCast_add]; exact IntWalk.i64_in _ (by omega)
    have g0 : (0 : Int) ≤ k := by omega
    have g1 : (k : Int) < n + 1 := by omega
    have g2 : (0 : Int) ≤ k2 := by omega
    have g3 : (k2 : Int) < n + 1 := by omega
    have hTY : T ∉ [Y] := by
     have h1 := KB.out.lt
     have h2 := hYl.out
     simp
     omega
    have hAY : ga ∉ [Y] := by
     have h2 := hYl.out
     simp
     omega
    have z0 := hKBd.out.cell (k := 0) rfl
    have z1 := hKBd.out.cell (k := 1) rfl
    have zf := hKBd.out.froz
    clear hk2
    go_wp2_with fail
    refine region_plan [Y] (.quiet 0 (.quiet 1 (.quiet 2 (.quiet 3 (.quiet 4 (.quiet 5 (.quiet 6 (.quiet 7 (.quiet 8 (.quiet 9 (.quiet 10 (.quiet 11 (.quiet 12 (.quiet 13 (.one 14 .done))))))))))))))) (by kernel_rfl) (by kernel_rfl) ?_
    repeat (apply p_quiet; (case hi => rfl); intro K hK; go_simp; (refine ⟨hK _ ?_⟩; clear hK K))
    apply p_one
    case hi => rfl
    intro W5 hb5 K hK
    have hK5 := hKd.out.low hb5
    have yk : W5.cell? ⟨Y, 0, none⟩ = some (.int .i64 0) := hK5.cell rfl
    have yk1 : W5.cell? ⟨Y, 1, none⟩ = some (.int .i64 0) := hK5.cell rfl
    have yf := hK5.froz
    go_wp2_with fail
    refine hK _ _ (((ButS.of hb5).set (R := Y) (by simp) _ _).set (R := Y) (by simp) _ _) ?_
    have HBS := hid (((ButS.of (S := [Y]) hb5).set (R := Y) (by simp) 0 (.int .i64 fk)).set (R := Y) (by simp) 1 (.int .i64 tk))
    have hYs : Hid (Y ≤ wc.heap.size) := hid (Nat.le_of_lt hKd.out.lt)
    have hK6 := hid ((hK5.set 0 (.int .i64 fk)).set 1 (.int .i64 tk))
    have hP6 : Hid (((W5.setCell ⟨Y, 0, none⟩ (.int .i64 fk)).setCell ⟨Y, 1, none⟩ (.int .i64 tk)).ownsRow W0.heap.size 60 3 (.slice pp P cp) P (flatE Ph.cells ph)) := hid (by
     have h1 := hPd.out
     rw [HP.out] at h1
     exact own_butT (own_low h1 hb5) (((ButS.refl [Y] W5).set (R := Y) (by simp) 0 (.int .i64 fk)).set (R := Y) (by simp) 1 (.int .i64 tk)) (fun B hB => by rw [List.mem_singleton] at hB; subst hB; exact ⟨56, _, by decide, hK5⟩))
    clear hK K yk yk1 yf hK5 hb5 hPd y1 y2 z0 z1 zf
    generalize (W5.setCell ⟨Y, 0, none⟩ (.int .i64 fk)).setCell ⟨Y, 1, none⟩ (.int .i64 tk) = W5b at *
    apply p_done
    intro W6 hb6
    have hK6' := hid (show Blk W6 Y 56 #[.int .i64 fk, .int .i64 tk, .int .i64 r, .slice pp P cp] from hK6.out.low hb6)
    have hP7 := hid (own_low hP6.out hb6)
    have hYd6 := hid (hYd.out.trans ((HBS.out.low hb6).below (fun k hk => by rw [List.mem_singleton] at hk; omega) hYs.out))
    have hBd6 := hid (HB2.out.trans (hYd6.out.mono hYl.out))
    clear HBS hYs hK6 hP6 hb6 hYd hBd hKBd hKd
    have k0 := hK6'.out.cell (k := 0) rfl
    have k1 := hK6'.out.cell (k := 1) rfl
    have kk2 := hK6'.out.cell (k := 2) rfl
    have k3 := hK6'.out.cell (k := 3) rfl
    have kf := hK6'.out.froz
    obtain ⟨m2, hm2⟩ : ∃ m2, manyN l + P = m2 := ⟨_, rfl⟩
    have hwm : IntKind.i64.wrap ((manyN l : Int) + P) = (m2 : Int) := by rw [← hm2, Int.natCast_add]; exact IntWalk.i64_in _ (by omega)
    by_cases hbig : 128 < m2
    ·have g4 : decide ((128 : Int) < m2) = true := decide_eq_true (by omega)
     go_wp2_with fail
     refine bodyPost_ret_by (v := .tuple #[.slice none 0 0, .int .i64 3]) (by simp [results, Tryz.results19, go_sem]) rfl ?_
     refine ⟨?_, (hbb.out.trans (hBd6.out.mono hbb.out.size))⟩
     rw [HA.out, if_neg h64, if_pos ?_]
     ·rfl
     ·rw [hS.out, hmore.out, manyN_app]
      unfold manyN at *
      rw [List.map_cons, List.sum_cons, HP.out]
      omega
    ·have g4 : decide ((128 : Int) < m2) = false := decide_eq_false (by omega)
     obtain ⟨Vs, v1, v2, v3⟩ := HR2.out
     have hVs : Vs.length = ll := by have := congrArg List.length v1; rw [List.length_map, HLL.out] at this; exact this
     rw [HLL.out] at v2
     have hYd7 := hYd6.out
     rw [← HY.out] at hYd7
     have HV := hid (own_low v2 hYd7)
     have HVp := hid (fun y hy => own_low (v3 y hy) hYd7)
     have hsz := hid hBd6.out.size
     have HV1 := hid v1
     clear v1 v2 v3 hYd7
     go_wp2_with (at_builtin; refine wpList_append_own _ rfl (.tmp 74) (.tmp 76) 50 rfl W0.heap.size 56 i0 _ 4 48 Tryz.underlying50 hi hz0 hz1 hz2 rfl (by decide) _ _ _ rfl (HV.out.alloc _) ⟨W6.heap.size, 0, none⟩ 1 1 [.int .i64 fk, .int .i64 tk, .int .i64 r, .slice pp P cp] rfl rfl (cells_new4 _ _ _ _ _ _) (by simp [Value.oneCell']) (by unfold maxLen; omega) (by omega) (by have := hsz.out; simp <;> omega) ?_; refine stop_here ?_)
     refine hid ?_
     intro v' w5 hown hgrow hnil
     have hB5 := hid ((hBd6.out.alloc hsz.out (.cells #[.int .i64 fk, .int .i64 tk, .int .i64 r, .slice pp P cp] 56)).grown hgrow (by have := hsz.out; simp <;> omega) (fun k hk => (own_ge HV.out hk).1))
     have hR5 : Hid (SndsAt w5 W0.heap.size v' (l ++ [⟨fk, tk, r, ph⟩])) := hid (by
      refine ⟨Vs ++ [(⟨fk, tk, r, ph⟩, .slice pp P cp)], by rw [List.map_append, HV1.out]; rfl, ?_, ?_⟩
      ·rw [List.length_append, HLL.out, flatE_snoc]; exact hown
      ·have hblk : ∀ g, (Value.slice pv ll cv).ownBlock = some g → ∃ t a, t ≠ 60 ∧ Blk (W6.alloc (.cells #[.int .i64 fk, .int .i64 tk, .int .i64 r, .slice pp P cp] 56)) g t a := fun g hg => by obtain ⟨a, ha⟩ := own_blk (HV.out.alloc _) hg; exact ⟨56, a, by decide, ha⟩
       intro y hy
       rcases List.mem_append.1 hy with h | h
       ·exact own_grown ((HVp.out y h).alloc _) hgrow hblk
       ·rw [List.mem_singleton] at h
        subst h
        have h1 := hP7.out
        show w5.ownsRow W0.heap.size 60 3 (.slice pp P cp) ph.length (flatE Ph.cells ph)
        rw [HP.out]
        exact own_grown (h1.alloc _) hgrow hblk)
     have hS5 : Hid (sndL x (wordL s) (atL s) 0 = (l ++ [⟨fk, tk, r, ph⟩]) ++ sndL x (wordL s) (atL s) k2) := hid (by rw [hS.out, hmore.out, List.append_assoc]; rfl)
     have hM5 : Hid (manyN (l ++ [⟨fk, tk, r, ph⟩]) = m2) := hid (by rw [manyN_snoc, ← hm2, ← HP.out])
     have hL5 : Hid ((l ++ [(⟨fk, tk, r, ph⟩ : Snd)]).length ≤ k2) := hid (by rw [List.length_append, HLL.out]; simp; have := HK2.out; omega)
     have hk2n : k2 ≤ n := by omega
     have hkk2 : k < k2 := by have := HK2.out; omega
     clear hown hgrow hnil hS hmore hm2
     go_wp2_with fail
     go_roundw
     case rel => exact ⟨k2, l ++ [⟨fk, tk, r, ph⟩], hk2n, rfl, by rw [hM5.out], by rw [hM5.out]; omega, hL5.out, hS5, hR5, hB5⟩
     case measure => simp [RowKit.intOf] <;> omega
  ·obtain rfl : k = n := by omega
   have q3 : decide ((k : Int) < k) = false := by simp
   have hS2 := hS.out
   rw [sndL_end (k := k) (by rw [HNN.out]; omega), List.append_nil] at hS2
   obtain ⟨pv, cv, rfl⟩ : ∃ pv cv, u7 = .slice pv l.length cv := by obtain ⟨Vs, _, g2, _⟩ := hR.out; exact own_shape g2
   go_wp2_with fail
   refine bodyPost_ret_by (v := .tuple #[.slice pv l.length cv, .int .i64 0]) (by simp [results, Tryz.results19, go_sem]) rfl ?_
   refine ⟨?_, hbr.out⟩
   rw [HA.out, if_neg h64, hS2, if_neg (by omega)]
   exact ⟨_, rfl, hR.out.mono hbb.out.size⟩
end Go.Proofs.YtieifhfgedoiaaaGreatDoor

namespace Go.Proofs.YtieifhfgedoiaaaGreatDoor
open Go.RowKit Go.Lib
set_option linter.unusedVariables false
set_option linter.unusedSimpArgs false
attribute [local go_sem] ExtS.cell ExtS.froz upE_value upE_skip upE_enter Ext.cell Ext.froz
theorem sndL_len {x : Rs} (g : RsG x) {w : List One} {a : List Nat} : ∀ (m k : Nat), w.length - k = m → (sndL x w a k).length ≤ m := by
 intro m
 induction m using Nat.strongRecOn with
 | ind m ih =>
  intro k hk
  by_cases h : k < w.length
  ·have h1 := step_in g h
   rw [sndL_more g h, List.length_cons]
   have := ih (w.length - (k + stepN x w k)) (by omega) _ rfl
   omega
  ·rw [sndL_end h]; exact Nat.zero_le _
end Go.Proofs.YtieifhfgedoiaaaGreatDoor

namespace Go.Proofs.YtieifhfgedoiaaaGreatDoor
open Go.RowKit Go.Lib
open Go.ChangeMaps
set_option linter.unusedVariables false
set_option linter.unusedSimpArgs false
attribute [local go_sem] ExtS.cell ExtS.froz upE_value upE_skip upE_enter Ext.cell Ext.froz one_neq
/-- sounds that can be read: their phones may lie anywhere -/
def SndsR (w : World) (base : Nat) (v : Value) (l : List Snd) : Prop :=
 ∃ Vs : List (Snd × Value), Vs.map (·.1) = l ∧ w.ownsRow base 56 4 v l.length (flatE (fun y : Snd × Value => Snd.cells y.1 y.2) Vs) ∧ ∀ y ∈ Vs, ∃ p c, y.2 = .slice p y.1.ph.length c ∧ PhR w p y.1.ph ∧ (p = none → c = 0)
theorem SndsR.low {w w' : World} {base : Nat} {v : Value} {l : List Snd} (h : SndsR w base v l) (hb : Below w.heap.size w w') : SndsR w' base v l := by
 obtain ⟨Vs, h1, h2, h3⟩ := h
 exact ⟨Vs, h1, own_low h2 hb, fun y hy => by obtain ⟨p, c, e, k, z⟩ := h3 y hy; exact ⟨p, c, e, k.low hb, z⟩⟩
theorem SndsR.mono {w : World} {base b : Nat} {v : Value} {l : List Snd} (h : SndsR w base v l) (hb : b ≤ base) : SndsR w b v l := by
 obtain ⟨Vs, h1, h2, h3⟩ := h
 exact ⟨Vs, h1, own_mono h2 hb, h3⟩
theorem own_capz {w : World} {base n cap e size m : Nat} {xs : List Value} (h : w.ownsRow base e size (.slice none n cap) m xs) : cap = 0 := by
 rcases h.2 with ⟨hh, _⟩ | ⟨g', cap', cur, h1, h2, h3, h4⟩
 ·injection hh
 ·cases h1
theorem ph_nil (w : World) (p : Option Addr) : PhR w p [] := fun h => absurd rfl h
/-- the same, the phones read in an earlier world -/
def SndsK (w0 w : World) (base : Nat) (v : Value) (l : List Snd) : Prop :=
 ∃ Vs : List (Snd × Value), Vs.map (·.1) = l ∧ w.ownsRow base 56 4 v l.length (flatE (fun y : Snd × Value => Snd.cells y.1 y.2) Vs) ∧ ∀ y ∈ Vs, ∃ p c, y.2 = .slice p y.1.ph.length c ∧ PhR w0 p y.1.ph ∧ (p = none → c = 0)
theorem SndsK.low {w0 w w' : World} {base : Nat} {v : Value} {l : List Snd} (h : SndsK w0 w base v l) (hb : Below w.heap.size w w') : SndsK w0 w' base v l := by
 obtain ⟨Vs, h1, h2, h3⟩ := h
 exact ⟨Vs, h1, own_low h2 hb, h3⟩
theorem SndsK.out {w0 w : World} {base : Nat} {v : Value} {l : List Snd} (h : SndsK w0 w base v l) (hb : Below w0.heap.size w0 w) : SndsR w base v l := by
 obtain ⟨Vs, h1, h2, h3⟩ := h
 exact ⟨Vs, h1, h2, fun y hy => by obtain ⟨p, c, e, k, z⟩ := h3 y hy; exact ⟨p, c, e, k.low hb, z⟩⟩
end Go.Proofs.YtieifhfgedoiaaaGreatDoor

namespace Go.Proofs.YtieifhfgedoiaaaGreatDoor
open Go.RowKit Go.Lib
set_option linter.unusedVariables false
set_option linter.unusedSimpArgs false
attribute [local go_sem] ExtS.cell ExtS.froz upE_value upE_skip upE_enter Ext.cell Ext.froz
theorem SndsAt.reads {w : World} {base : Nat} {v : Value} {l : List Snd} (h : SndsAt w base v l) : SndsR w base v l := by
 obtain ⟨Vs, h1, h2, h3⟩ := h
 refine ⟨Vs, h1, h2, fun y hy => ?_⟩
 obtain ⟨p, c, e⟩ := own_shape (h3 y hy)
 have h4 := h3 y hy
 rw [e] at h4
 exact ⟨p, c, e, own_phR h4, fun z => by subst z; exact own_capz h4⟩
theorem sndr_cells {w : World} {base n cv : Nat} {pv : Option Addr} {l : List Snd} (h : SndsR w base (.slice pv n cv) l) {i : Nat} {y : Snd} (hy : l[i]? = some y) :
  ∃ g p c, pv = some ⟨g, 0, none⟩ ∧ w.cell? ⟨g, i * 4, none⟩ = some (.int .i64 y.f) ∧ w.cell? ⟨g, i * 4 + 1, none⟩ = some (.int .i64 y.t) ∧ w.cell? ⟨g, i * 4 + 2, none⟩ = some (.int .i64 y.r) ∧ w.cell? ⟨g, i * 4 + 3, none⟩ = some (.slice p y.ph.length c) ∧ PhR w p y.ph ∧ (p = none → c = 0) := by
 obtain ⟨Vs, g1, g2, g3⟩ := h
 have hl : l.length ≠ 0 := by have := (List.getElem?_eq_some_iff.1 hy).1; omega
 obtain ⟨m, hm⟩ : ∃ m, l.length = m + 1 := ⟨l.length - 1, by omega⟩
 rw [hm] at g2
 obtain ⟨g, cap, hg⟩ := own_block g2
 cases hg
 have hV : ∃ z, Vs[i]? = some z ∧ z.1 = y := by
  rw [← g1, List.getElem?_map] at hy
  cases hv : Vs[i]? with
  | none => rw [hv] at hy; cases hy
  | some z => rw [hv] at hy; exact ⟨z, rfl, by simpa using hy⟩
 obtain ⟨⟨y', V⟩, hz, rfl⟩ := hV
 obtain ⟨p, c, hpc, hph⟩ := g3 _ (List.mem_of_getElem? hz)
 have hc := fun j v hv => own_cell (j := i * 4 + j) g2 (flatE_get (fun y : Snd × Value => Snd.cells y.1 y.2) 4 (fun _ => rfl) Vs i _ hz j v hv)
 refine ⟨g, p, c, rfl, hc 0 _ rfl, hc 1 _ rfl, hc 2 _ rfl, ?_, hph⟩
 have := hc 3 _ rfl
 rw [this]
 exact congrArg some hpc
set_option maxRecDepth 100000 in
set_option maxHeartbeats 2000000 in
theorem same26q {w : World} {p1 p2 : Option Addr} {c1 c2 : Nat} (L : List Ph) (h1 : PhR w p1 L) (h2 : PhR w p2 L) (hn : L.length ≤ 100000000) :
  Calls Tryz.prog 13 #[.slice p1 L.length c1, .slice p2 L.length c2] w fun e w' => e = .returned (.bool true) ∧ ∃ m, w' = w.drewN m := by
 obtain ⟨n, hn1⟩ : ∃ n, L.length = n := ⟨_, rfl⟩
 rw [hn1]
 rw [hn1] at hn
 have HN := hid hn1
 have H1 := hid h1
 have H2 := hid h2
 clear hn1 h1 h2
 have q0 : ((n : Int) != n) = false := by simp
 go_enter Tryz.func13, Tryz.ntmps13
 go_wp2_with fail
 go_loopw [5] (fun v wr => ∃ i : Nat, i ≤ n ∧ v = .int .i64 i ∧ ∃ d, wr = w.drewN d) (fun v _ => n - (RowKit.intOf v).toNat)
 case atStart => exact ⟨0, Nat.zero_le _, rfl, 0, rfl⟩
 case round =>
  obtain ⟨i, hi, rfl, d, rfl⟩ := hrel
  have hw1 : IntKind.i64.wrap ((i : Int) + 1) = (i : Int) + 1 := IntWalk.i64_in _ (by omega)
  by_cases hlt : i < n
  ·have q1 : decide ((i : Int) < n) = true := decide_eq_true (by omega)
   have q2 : (i : Int) < n := by omega
   obtain ⟨a, ha⟩ : ∃ a, L[i]? = some a := ⟨_, List.getElem?_eq_getElem (by rw [HN.out]; exact hlt)⟩
   have hne : L ≠ [] := fun e => by rw [e] at ha; cases ha
   obtain ⟨g1, rfl, e1⟩ := H1.out hne
   obtain ⟨g2, rfl, e2⟩ := H2.out hne
   obtain ⟨a0, a1, a2⟩ := e1 i a ha
   obtain ⟨b0, b1, b2⟩ := e2 i a ha
   clear ha e1 e2 hne
   go_wp2_with fail
   go_quiet (fail)
   go_wp2_with fail
   go_roundw
   case rel => exact ⟨i + 1, by omega, by go_num, _, rfl⟩
   case measure => simp [RowKit.intOf] <;> omega
  ·obtain rfl : i = n := by omega
   have q1 : decide ((i : Int) < i) = false := by simp
   go_wp2_with fail
   go_ret
   exact ⟨rfl, _, rfl⟩
end Go.Proofs.YtieifhfgedoiaaaGreatDoor

namespace Go.Proofs.YtieifhfgedoiaaaGreatDoor
open Go.RowKit Go.Lib
open Go.ChangeMaps
set_option linter.unusedVariables false
set_option linter.unusedSimpArgs false
attribute [local go_sem] ExtS.cell ExtS.froz upE_value upE_skip upE_enter Ext.cell Ext.froz
def allP (l : List Snd) : List Ph := l.flatMap (·.ph)
theorem allP_len (l : List Snd) : (allP l).length = manyN l := by
 unfold allP manyN
 induction l with
 | nil => rfl
 | cons a r ih => rw [List.flatMap_cons, List.length_append, ih]; rfl
theorem allP_take {l : List Snd} {i : Nat} {y : Snd} (h : l[i]? = some y) : allP (l.take (i + 1)) = allP (l.take i) ++ y.ph := by
 unfold allP
 rw [List.take_add_one, h, List.flatMap_append]
 simp
theorem manyN_take (l : List Snd) (i : Nat) : manyN (l.take i) ≤ manyN l := by
 have h : manyN l = manyN (l.take i) + manyN (l.drop i) := by rw [← manyN_app, List.take_append_drop]
 omega
theorem sounds_many {x : Rs} {s : ByteArray} {l : List Snd} (h : soundsR x s = some l) : manyN l ≤ 128 := by
 unfold soundsR at h
 split at h
 ·cases h
 ·split at h
  ·cases h
  ·injection h with h; rw [← h]; omega
theorem sounds_len {x : Rs} (g : RsG x) {s : ByteArray} {l : List Snd} (h : soundsR x s = some l) : l.length ≤ 64 := by
 unfold soundsR at h
 split at h
 ·cases h
 ·split at h
  ·cases h
  ·injection h with h; rw [← h]; have := sndL_len g (w := wordL s) (a := atL s) _ 0 rfl; omega
/-- what Phones leaves -/
def PhsPost (w w' : World) (o : Option (List Snd)) (e : Ending) : Prop :=
 match o with
 | none => e = .returned (.tuple #[.slice none 0 0, .int .i64 3])
 | some l => ∃ v, e = .returned (.tuple #[v, .int .i64 0]) ∧ w'.ownsRow w.heap.size 60 3 v (allP l).length (flatE Ph.cells (allP l))
set_option maxRecDepth 100000 in
set_option maxHeartbeats 8000000 in
theorem phones24 {w : World} {X base : Nat} {x : Rs} (h : PAt w X base x) (gx : RsG x) (hl : x.rules.length ≤ 256) (s : ByteArray) (hs : s.size ≤ 100000000) :
  Calls Tryz.prog 11 #[.pointer (some ⟨X, 0, none⟩), .string s] w fun e w' => PhsPost w w' (soundsR x s) e ∧ Below w.heap.size w w' := by
 obtain ⟨i0, hi, hz0, hz1, hz2⟩ := info_parts info66b
 have hS := hid (sounds23 h gx hl s hs)
 clear h
 go_enter Tryz.func11, Tryz.ntmps11
 go_wp2_with fail
 go_at_call 19
 with_reducible refine Calls.mono (hS.out) ?_
 rintro e w1 ⟨hpo, hb1⟩
 skip
 obtain ⟨o2, ho2⟩ : ∃ o2, soundsR x s = o2 := ⟨_, rfl⟩
 rw [ho2] at hpo
 have HB1 := hid hb1
 have HO2 := hid ho2
 cases o2 with
 | none =>
  have hpo2 : e = .returned (.tuple #[.slice none 0 0, .int .i64 3]) := hpo
  subst hpo2
  clear hpo hS hb1
  go_wp2_with fail
  go_loopw [8, 19] (fun v8 v19 wr => v8 = .slice none 0 0 ∧ v19 = .int .i64 0 ∧ wr = w1) (fun _ _ _ => 0)
  case atStart => exact ⟨rfl, rfl, rfl⟩
  case round =>
   obtain ⟨rfl, rfl, rfl⟩ := hrel
   go_wp2_with fail
   refine bodyPost_ret_by (v := .tuple #[.slice none 0 0, .int .i64 3]) (by simp [results, Tryz.results11, go_sem]) rfl ?_
   exact ⟨by rw [HO2.out]; rfl, HB1.out⟩
 | some l =>
  obtain ⟨vl, he, hSn⟩ := (show ∃ v, e = .returned (.tuple #[v, .int .i64 0]) ∧ SndsAt w1 w.heap.size v l from hpo)
  subst he
  obtain ⟨pl, cl, rfl⟩ : ∃ pv cv, vl = .slice pv l.length cv := by obtain ⟨Vs, _, g2, _⟩ := hSn; exact own_shape g2
  have hmany := sounds_many ho2
  have hlen := sounds_len gx ho2
  obtain ⟨L, hL⟩ : ∃ L, l.length = L := ⟨_, rfl⟩
  rw [hL] at hSn hlen ⊢
  have HL := hid hL
  have HR := hid hSn.reads
  clear hpo hSn hS hb1 hL
  go_wp2_with fail
  go_loopw [8, 19] (fun v8 v19 wr => ∃ i : Nat, i ≤ L ∧ v19 = .int .i64 i ∧ Hid (wr.ownsRow w1.heap.size 60 3 v8 (allP (l.take i)).length (flatE Ph.cells (allP (l.take i)))) ∧ Hid (Below w1.heap.size w1 wr)) (fun _ v _ => L - (RowKit.intOf v).toNat)
  case atStart => exact ⟨0, Nat.zero_le _, rfl, hid (World.ownsRow_nil _ _ _ _), hid (Below.refl _ _)⟩
  case round =>
   obtain ⟨i, hil, rfl, hO, hB⟩ := hrel
   have hwi : IntKind.i64.wrap ((i : Int) + 1) = (i : Int) + 1 := IntWalk.i64_in _ (by omega)
   by_cases hlt : i < L
   ·have q5 : decide ((i : Int) < L) = true := decide_eq_true (by omega)
    have q6 : (i : Int) < L := by omega
    have q7 : (0 : Int) ≤ i := by omega
    obtain ⟨y, hy⟩ : ∃ y, l[i]? = some y := ⟨_, List.getElem?_eq_getElem (by rw [HL.out]; exact hlt)⟩
    obtain ⟨g1, s1, k1, rfl, a0, a1, a2, a3, a4, a5⟩ := sndr_cells (HR.out.low hB.out) hy
    have htk := hid (allP_take hy)
    have hbd : (allP (l.take i)).length + y.ph.length ≤ 128 := by
     have h1 := manyN_take l (i + 1)
     rw [← allP_len, htk.out, List.length_append] at h1
     omega
    obtain ⟨pv, cv, rfl⟩ := own_shape hO.out
    obtain ⟨P, hP⟩ : ∃ P, y.ph.length = P := ⟨_, rfl⟩
    obtain ⟨N, hN⟩ : ∃ N, (allP (l.take i)).length = N := ⟨_, rfl⟩
    rw [hP] at a3 hbd
    rw [hN] at hO hbd ⊢
    have HP := hid hP
    have HN := hid hN
    have hsz := hid hB.out.size
    have hbA : Below wr.heap.size wr (wr.alloc (.cells #[.int .i64 y.f, .int .i64 y.t, .int .i64 y.r, .slice s1 P k1] 56)) := (Below.refl _ _).alloc (Nat.le_refl _) _
    have hBA := hid (bnext hB.out hbA)
    have hOA := hid (own_low hO.out hbA)
    have hA4 := hid (a4.low hbA)
    clear hN hP hbA
    cases s1 with
    | none =>
     have hk0 := a5 rfl
     subst hk0
     have hx : y.ph = [] := Classical.byContradiction fun hL => by obtain ⟨g, e, _⟩ := hA4.out hL; cases e
     have hP0 : P = 0 := by rw [← HP.out, hx]; rfl
     subst hP0
     go_wp2_with (at_builtin; refine wpList_append_own_none rfl (.tmp 23) (.tmp 25) 36 rfl w1.heap.size 60 i0 3 Tryz.underlying36 hi _ _ _ rfl hOA.out rfl ?_; refine stop_here ?_)
     refine hid ?_
     have hO5 : Hid ((wr.alloc (.cells #[.int .i64 y.f, .int .i64 y.t, .int .i64 y.r, .slice none 0 0] 56)).ownsRow w1.heap.size 60 3 (.slice pv N cv) (allP (l.take (i + 1))).length (flatE Ph.cells (allP (l.take (i + 1))))) := hid (by rw [htk.out, hx, List.append_nil, HN.out]; exact hOA.out)
     clear hO hOA hA4 htk
     go_wp2_with fail
     go_roundw
     case rel => exact ⟨i + 1, by omega, by go_num, hO5, hBA⟩
     case measure => simp [RowKit.intOf]; omega
    | some a =>
     have hlenF : (flatE Ph.cells y.ph).length = P * 3 := by rw [← HP.out]; exact flatE_len Ph.cells 3 (fun _ => rfl) y.ph
     have hNw := hid (ph_all hA4.out)
     go_wp2_with (at_builtin; refine wpList_append_own _ rfl (.tmp 23) (.tmp 25) 36 rfl w1.heap.size 60 i0 _ 3 12 Tryz.underlying36 hi hz0 hz1 hz2 rfl (by decide) _ N _ rfl hOA.out a P k1 (flatE Ph.cells y.ph) rfl hlenF hNw.out (ph_one y.ph) (by unfold maxLen; omega) (by omega) (by have := hsz.out; simp <;> omega) ?_; refine stop_here ?_)
     refine hid ?_
     intro v' w5 hown hgrow hnil
     have hO5 : Hid (w5.ownsRow w1.heap.size 60 3 v' (allP (l.take (i + 1))).length (flatE Ph.cells (allP (l.take (i + 1))))) := hid (by
      have hfl : flatE Ph.cells (allP (l.take (i + 1))) = flatE Ph.cells (allP (l.take i)) ++ flatE Ph.cells y.ph := by rw [htk.out]; unfold flatE; rw [List.flatMap_append]
      rw [hfl, htk.out, List.length_append, HN.out, HP.out]
      exact hown)
     have hB5 := hid (hBA.out.grown hgrow (by have := hsz.out; simp <;> omega) (fun k hk => (own_ge hO.out hk).1))
     clear hown hgrow hnil hO hOA hA4 htk hNw
     go_wp2_with fail
     go_roundw
     case rel => exact ⟨i + 1, by omega, by go_num, hO5, hB5⟩
     case measure => simp [RowKit.intOf]; omega
   ·obtain rfl : i = L := by omega
    have q5 : decide ((i : Int) < i) = false := by simp
    have hO2 := hO.out
    rw [List.take_of_length_le (by rw [HL.out]; exact Nat.le_refl _)] at hO2
    obtain ⟨pv, cv, rfl⟩ := own_shape hO.out
    rw [List.take_of_length_le (by rw [HL.out]; exact Nat.le_refl _)] at hO2 ⊢
    have HOF := hid hO2
    clear hO2 hO
    go_wp2_with fail
    refine bodyPost_ret_by (v := .tuple #[.slice pv (allP l).length cv, .int .i64 0]) (by simp [results, Tryz.results11, go_sem]) rfl ?_
    refine ⟨?_, HB1.out.trans (hB.out.mono HB1.out.size)⟩
    rw [HO2.out]
    exact ⟨_, rfl, own_mono HOF.out HB1.out.size⟩
end Go.Proofs.YtieifhfgedoiaaaGreatDoor
