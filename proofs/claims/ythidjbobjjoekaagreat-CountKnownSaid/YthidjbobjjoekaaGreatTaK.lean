/- (*Tally).Merge walked, where the sum is not too great. Conditions: the two tallies are two; their entries together are at most 4096, their counts at most 2147483648. -/
import Derived.Test.YthidjbobjjoekaaGreatTaJ
namespace Go.Proofs.YthidjbobjjoekaaGreat
open Go.RowKit Go.Lib Go.Sort Go.Shelf
set_option linter.unusedVariables false
set_option linter.unusedSimpArgs false
theorem ranges_block {w w' : World} {b r n cnt : Nat} {D : Dt} {left : Lit → Bool} (h : w.ranges Tryz.prog 9 (plainElem Tryz.prog 3) b r n D left cnt) (h1 : w'.heap[b]? = w.heap[b]?) (h2 : w'.heap[r]? = w.heap[r]?) : w'.ranges Tryz.prog 9 (plainElem Tryz.prog 3) b r n D left cnt := by
  obtain ⟨es, clock, since, seen, c0, hb, F, hs, hD, hr, rest⟩ := h
  exact ⟨es, clock, since, seen, c0, h1.trans hb, F, hs, hD, h2.trans hr, rest⟩
theorem next_tal {w w' : World} {b m r : Nat} {L : List Ent} (h : Tal w b m L) (hg : w.grownBy w' (some r)) (hb : b ≠ r) (hm : m ≠ r) : Tal w' b m L :=
  h.keep (hg.block _ h.blt (by intro e; exact hb (by injection e))) (hg.block _ h.mlt (by intro e; exact hm (by injection e)))
set_option maxRecDepth 100000 in
set_option maxHeartbeats 4000000 in
theorem merge_ok {w : World} {b m b' m' : Nat} {L L' : List Ent} (hT : Tal w b m L) (hU : Tal w b' m' L') (hd : b ≠ b' ∧ m ≠ m') (hlen : L.length + L'.length ≤ 4096) (hsum : sumL L + sumL L' ≤ 2147483648) :
    Calls Tryz.prog 26 #[.pointer (some ⟨b, 0, none⟩), .pointer (some ⟨b', 0, none⟩)] w fun e w' => e = .returned (.int .i64 0) ∧ (∃ out, out.Perm L' ∧ Tal w' b m (foldP L out)) ∧ But2 b m w w' := by
  obtain ⟨D', hm', ht'⟩ := hU.hm
  obtain ⟨D, hm, ht⟩ := hT.hm
  have hl := fun ty => hm.len (e := 3) Tryz.underlying68 ty
  rw [ht.size] at hl
  have c0 := hT.hb.cell (k := 0) (v := .map (some m)) rfl
  have d0 := hU.hb.cell (k := 0) (v := .map (some m')) rfl
  have hsz' := hid ht'.size
  have HT := hid hT
  have HU := hid hU
  have Ht' := hid ht'
  have hbl := hT.blt
  have hml := hT.mlt
  have hbl' := hU.blt
  have hml' := hU.mlt
  have hE := hT.he.len
  have hE' := hU.he.len
  have hm'' := hid hm'
  clear hT hU ht ht' hm
  go_enter Tryz.func26, Tryz.ntmps26
  go_wp2_with (first | (at_range; refine wpList_range_own _ rfl _ 68 rfl 9 3 kS Tryz.underlying68 _ m' (Maps.size D') _ rfl hm' ?_; intro w0 hrg0 hg0 hs0) | fail)
  go_frame
  go_loopw [5] (fun v wr => ∃ (left : Lit → Bool) (cnt k : Nat) (c : Int), wr.ranges Tryz.prog 9 (plainElem (H := Unit) Tryz.prog 3) m' w.heap.size (Maps.size D') D' left cnt ∧ Below w.heap.size w wr ∧ k + cnt ≤ L'.length ∧ v = .int .i64 c ∧ (L.length : Int) ≤ c ∧ c ≤ L.length + k) (fun _ wr => wr.rangeLeft m' w.heap.size)
  case atStart => exact ⟨_, _, 0, _, hrg0, ⟨hg0.os, hg0.tape, hg0.output, hg0.size, fun k hk => hg0.block k hk (by simp)⟩, by rw [hsz'.out]; omega, rfl, by omega, by omega⟩
  case round =>
    obtain ⟨left, cnt, k, c, hrg, hB, hk, rfl, hc1, hc2⟩ := hrel
    go_wp2_with (first | (at_next; refine wpList_next_ranges _ rfl _ rfl 9 kS (plainElem Tryz.prog 3) Value.string (Value.int .i64) keyS_inv elem_inv m' w.heap.size (Maps.size D') _ _ _ rfl hrg ?_ ?_) | fail)
    · intro hcn0 hl0
      have HB := hid hB
      have hTr := hid (HT.out.low hB)
      have hUr := hid (HU.out.low hB)
      have hrl := hrg.lt
      clear hrg hB hcn0 hl0
      have e1 := hTr.out.hb.cell (k := 1) (v := .int .i64 (sumL L)) rfl
      have e2 := hUr.out.hb.cell (k := 1) (v := .int .i64 (sumL L')) rfl
      have e3 := hTr.out.hb.cell (k := 0) (v := .map (some m)) rfl
      have e4 := hUr.out.hb.cell (k := 0) (v := .map (some m')) rfl
      have p1 := sumL_pos hTr.out.he.pos
      have p2 := sumL_pos hUr.out.he.pos
      have t1 : decide ((4096 : Int) < c) = false := decide_eq_false (by omega)
      generalize hS : sumL L = S at *
      generalize hS' : sumL L' = S' at *
      replace hS := hid hS
      replace hS' := hid hS'
      have t2 : IntKind.i64.wrap (S + S') = S + S' := IntWalk.i64_in _ (by omega)
      have t3 : decide ((2147483648 : Int) < S + S') = false := decide_eq_false (by omega)
      clear hl hm' hrg0 hg0 hs0
      go_wp2_with fail
      refine draw_allB (by kernel_rfl) (by kernel_rfl) ?_
      repeat (refine bq_step (fun K hK => ?_); go_simp; refine ⟨hK _ ?_⟩; clear hK K)
      refine bq_nil ?_
      rintro _ ⟨q, rfl⟩
      have HB2 := hid (show Below w.heap.size w (wr.drewN q) from ⟨HB.out.os, HB.out.tape, HB.out.output, HB.out.size, HB.out.block⟩)
      have hT2 := hid (HT.out.low HB2.out)
      have hU2 := hid (HU.out.low HB2.out)
      have E4 := hid (show (wr.drewN q).cell? ⟨b', 0, none⟩ = some (.map (some m')) from e4)
      clear e1 e2 e3 e4 hTr hUr HB t1 t2 t3
      have hrl2 : w.heap.size < (wr.drewN q).heap.size := hrl
      clear hrl
      generalize wr.drewN q = wq at *
      have e4 := E4.out
      have hm2 : MapAt wq m' D' := by
        obtain ⟨D2, q1, q2⟩ := hU2.out.hm
        exact (show MapAt w m' D' from hm''.out).block (HB2.out.block _ hml')
      have hcl0 := AnyW.maps_Clone_owns Tryz.cloneM 9 (plainElem (H := Unit) Tryz.prog 3) m' (Maps.size D') D' wq hm2
      change Calls Tryz.prog 42 _ _ _ at hcl0
      have hcl := hid hcl0
      clear hcl0 hm2
      go_wp2_with fail
      with_reducible refine Calls.mono hcl.out ?_
      rintro e w3 ⟨rfl, hmc, -, hb3⟩
      have HMC := hid hmc
      have HB3 := hid hb3
      clear hmc hb3 hcl
      have hmcc := HMC.out
      obtain ⟨cc, hcc⟩ : ∃ cc, wq.heap.size = cc := ⟨_, rfl⟩
      rw [hcc] at hmcc
      have hccl : cc < w3.heap.size := hmcc.lt
      rw [hcc]
      replace hcc := hid hcc
      have hwcc : w.heap.size < cc := by rw [← hcc.out]; exact hrl2
      go_wp2_with (first | (at_range; refine wpList_range_own _ rfl _ 68 rfl 9 3 kS Tryz.underlying68 _ cc (Maps.size D') _ rfl hmcc ?_; intro w4 hrg4 hg4 hs4) | fail)
      go_frame
      have hB4 : Hid (Below w.heap.size w w4) := (HB2.out.trans (HB3.out.mono HB2.out.size)).trans ⟨hg4.os, hg4.tape, hg4.output, hg4.size, fun k hk => hg4.block k (by omega) (by simp)⟩
      have hT4 := hid (HT.out.low hB4.out)
      have hsz2 := hsz'.out
      have hPos := hid HU.out.he.pos
      have hSz := hid HU.out.he.sz
      have hr2 : w.heap.size < w3.heap.size := by omega
      have hgL := hid (foldP_len HT.out.nd)
      have hgS := hid (foldP_sum HT.out.nd)
      clear hmcc HMC hs4 hm'' c0 d0 e4 E4 hU2 hT2 hc1 hc2 hk hsz2
      go_loopw [9] (fun _ wr2 => ∃ (out : List Ent) (left2 : Lit → Bool) (cnt2 : Nat), wr2.ranges Tryz.prog 9 (plainElem (H := Unit) Tryz.prog 3) cc w3.heap.size (Maps.size D') D' left2 cnt2 ∧ Got D' left2 out ∧ Tal wr2 b m (foldP L out) ∧ But2 b m w wr2) (fun _ wr2 => wr2.rangeLeft cc w3.heap.size)
      case atStart => exact ⟨[], _, _, hrg4, Got.start D', hT4.out, ⟨hB4.out.os, hB4.out.tape, hB4.out.output, hB4.out.size, fun k hk _ _ => hB4.out.block k hk⟩⟩
      case round =>
        obtain ⟨out, left2, cnt2, hrg, hG, hT5, hBt⟩ := hrel
        go_wp2_with (first | (at_next; refine wpList_next_ranges _ rfl _ rfl 9 kS (plainElem Tryz.prog 3) Value.string (Value.int .i64) keyS_inv elem_inv cc w3.heap.size (Maps.size D') _ _ _ rfl hrg ?_ ?_) | fail)
        · intro hcn0 hl0
          have hp := hid (hG.done hl0 Ht'.out)
          have HT5 := hid hT5
          have HBt := hid hBt
          clear hrg hG hT5 hBt hcn0 hl0 hrg4 hg4
          go_wp2_with fail
          go_ret
          exact ⟨rfl, ⟨out, hp.out, HT5.out⟩, HBt.out⟩
        · intro x c2 kl d ps w5 cnt5 hkey hlx hv hat hrg5 hlt hg5 hs5 hen
          obtain ⟨rfl, hxs⟩ := keyS_is hkey
          obtain ⟨a, ea, eb, hwf⟩ := plainElem_int_inv Tryz.underlying3 hv
          cases ea
          cases eb
          have hG2 := hG.step x c2 hlx hat
          obtain ⟨s1, s2⟩ := hG2.sub Ht'.out hPos.out
          rw [sumL_app] at s2
          rw [List.length_append] at s1
          have hc0 : 0 < c2 := hPos.out (x, c2) (hG2.mem Ht'.out (by simp))
          have hT6 := next_tal hT5 hg5 (by omega) (by omega)
          have z1 := hgS.out out
          have z2 := hgL.out out
          have z3 := hS.out
          have z4 := hS'.out
          simp only [List.length_cons, List.length_nil] at s1
          obtain ⟨q1, q2⟩ := countL_le x hT6.he.pos
          have q3 := hT6.he.tot
          have hlk := (hT6.look x hxs).1
          obtain ⟨w6, hup, e1, f1, n1, hT7, hB7, _⟩ := hT6.push x c2 hxs hc0 (by omega) (.inr (by omega))
          have e0 := hT6.hb.cell (k := 0) (v := .map (some m)) rfl
          have hR := hid (ranges_block hrg5 (hB7.block cc (by have := hrg5.owns.lt; omega) (by omega) (by omega)) (hB7.block w3.heap.size (by have := hrg5.lt; omega) (by omega) (by omega)))
          have hRo := hid hrg.left_eq
          have hT8 : Hid (Tal (w6.setCell ⟨b, 1, none⟩ (.int .i64 (sumL (foldP L out) + c2))) b m (foldP L (out ++ [(x, c2)]))) := by rw [foldP_snoc]; exact hid hT7
          have hB8 : Hid (But2 b m w (w6.setCell ⟨b, 1, none⟩ (.int .i64 (sumL (foldP L out) + c2)))) := ⟨hB7.os.trans (hg5.os.trans hBt.os), hB7.tape.trans (hg5.tape.trans hBt.tape), hB7.output.trans (hg5.output.trans hBt.output), Nat.le_trans hBt.size (Nat.le_trans hg5.size hB7.size), fun k hk h1 h2 => (hB7.block k (by have := hBt.size; have := hg5.size; omega) h1 h2).trans ((hg5.block k (by have := hBt.size; omega) (by intro e; injection e with e; omega)).trans (hBt.block k hk h1 h2))⟩
          have hG3 := hid hG2
          have u1 : sumL (foldP L out) + c2 ≤ 2147483648 := by omega
          have u2 : c2 ≤ 2147483648 := by have := hT6.he.pos; have := sumL_pos this; omega
          clear hrg hrg5 hg5 hs5 hG hG2 hT5 hT6 hT7 hB7 hBt hv hkey hat hlx s1 s2 z1 z2 z3 z4 hwf hrg4 hg4
          generalize countL (foldP L out) x = C at *
          generalize sumL (foldP L out) = T at *
          go_wp2_with fail
          go_roundw
          case rel => exact ⟨_, _, cnt5, hR.out, hG3.out, hT8.out, hB8.out⟩
          case measure => rw [hR.out.left_eq, hRo.out]; exact hlt
    · intro x cc kl d ps w1 cnt1 hkey hlx hv hat hrg1 hlt hg1 hs1 hen
      obtain ⟨rfl, hxs⟩ := keyS_is hkey
      have hrl := hrg.lt
      have hT1 := next_tal (HT.out.low hB) hg1 (by omega) (by omega)
      have hB1 := hid (hB.grown hg1 hB.size (fun k hk => by cases hk; omega))
      have e3 := hT1.hb.cell (k := 0) (v := .map (some m)) rfl
      have hlk := (hT1.look x hxs).2
      have hR := hid hrg1
      have hRo := hid hrg.left_eq
      clear hrg hrg1 hB hg1 hs1 hv hat hkey hlx hT1 hl c0 d0 hm' hrg0 hg0 hs0
      by_cases hx : x ∈ keysL L
      · have h4 : decide (x ∈ keysL L) = true := decide_eq_true hx
        rw [h4] at hlk
        clear hx h4
        go_wp2_with fail
        go_roundw
        case rel => exact ⟨_, cnt1, k, c, hR.out, hB1.out, by omega, rfl, by omega, by omega⟩
        case measure => rw [hR.out.left_eq, hRo.out]; exact hlt
      · have h4 : decide (x ∈ keysL L) = false := decide_eq_false hx
        rw [h4] at hlk
        clear hx h4
        go_wp2_with fail
        go_roundw
        case rel => exact ⟨_, cnt1, k + 1, c + 1, hR.out, hB1.out, by omega, rfl, by omega, by omega⟩
        case measure => rw [hR.out.left_eq, hRo.out]; exact hlt
end Go.Proofs.YthidjbobjjoekaaGreat
