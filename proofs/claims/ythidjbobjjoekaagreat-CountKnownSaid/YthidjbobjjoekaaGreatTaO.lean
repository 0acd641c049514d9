/- (*Tally).Merge walked, of any two tallies, which may be one. Conditions: the tallies' own. -/
import Derived.Test.YthidjbobjjoekaaGreatTaK
import Derived.Test.YthidjbobjjoekaaGreatTaN
namespace Go.Proofs.YthidjbobjjoekaaGreat
open Go.RowKit Go.Lib Go.Sort Go.Shelf
set_option linter.unusedVariables false
set_option linter.unusedSimpArgs false
set_option maxRecDepth 100000 in
set_option maxHeartbeats 4000000 in
theorem merge_any {w : World} {b m b' m' : Nat} {L L' : List Ent} (hT : Tal w b m L) (hU : Tal w b' m' L') :
    Calls Tryz.prog 26 #[.pointer (some ⟨b, 0, none⟩), .pointer (some ⟨b', 0, none⟩)] w fun e w' => e = .returned (.int .i64 (mergeE L L')) ∧ Tal w' b m (mergeR L L') ∧ But2 b m w w' := by
  have hPart := hid (fun (out : List Ent) (h1 : out.Nodup) (h2 : ∀ x ∈ out, x ∈ L') => foldP_part hT.he.srt hT.nd hT.he.pos hU.nd hU.he.pos h1 h2)
  have hPerm := hid (fun (out : List Ent) (h1 : out.Perm L') => foldP_perm hT.he.srt hT.nd hT.he.pos hU.nd hU.he.pos h1)
  have hCnt := hid (foldP_count hT.nd L' hU.nd)
  have hE3 := hid (show 4096 < (foldP L L').length ∨ 2147483648 < sumL L + sumL L' → mergeE L L' = 3 ∧ mergeR L L' = L from fun h => by
    have h1 : mergeE L L' = 3 := if_pos h
    exact ⟨h1, by unfold mergeR; rw [h1]; rfl⟩)
  have hE0 := hid (show (foldP L L').length ≤ 4096 → sumL L + sumL L' ≤ 2147483648 → mergeE L L' = 0 ∧ mergeR L L' = foldP L L' from fun h k => by
    have h1 : mergeE L L' = 0 := if_neg (by omega)
    exact ⟨h1, by unfold mergeR; rw [h1]; rfl⟩)
  generalize mergeE L L' = mE at *
  generalize mergeR L L' = mR at *
  obtain ⟨D', hm', ht'⟩ := hU.hm
  obtain ⟨D, hm, ht⟩ := hT.hm
  have hl := fun ty => hm.len (e := 3) Tryz.underlying68 ty
  rw [ht.size] at hl
  have c0 := hT.hb.cell (k := 0) (v := .map (some m)) rfl
  have d0 := hU.hb.cell (k := 0) (v := .map (some m')) rfl
  have hsz' := hid ht'.size
  have HT := hid hT
  have HU := hid hU
  have Ht' := hid ht'
  have hbl := hT.blt
  have hml := hT.mlt
  have hbl' := hU.blt
  have hml' := hU.mlt
  have hE := hT.he.len
  have hE' := hU.he.len
  have hm'' := hid hm'
  clear hT hU ht ht' hm
  go_enter Tryz.func26, Tryz.ntmps26
  go_wp2_with (first | (at_range; refine wpList_range_own _ rfl _ 68 rfl 9 3 kS Tryz.underlying68 _ m' (Maps.size D') _ rfl hm' ?_; intro w0 hrg0 hg0 hs0) | fail)
  go_frame
  go_loopw [5] (fun v wr => ∃ (left : Lit → Bool) (cnt : Nat) (out : List Ent) (c : Int), wr.ranges Tryz.prog 9 (plainElem (H := Unit) Tryz.prog 3) m' w.heap.size (Maps.size D') D' left cnt ∧ Below w.heap.size w wr ∧ Got D' left out ∧ v = .int .i64 c ∧ Hid (c = L.length + (newL L out).length)) (fun _ wr => wr.rangeLeft m' w.heap.size)
  case atStart => exact ⟨_, _, [], _, hrg0, ⟨hg0.os, hg0.tape, hg0.output, hg0.size, fun k hk => hg0.block k hk (by simp)⟩, Got.start D', rfl, by simp [newL]; exact hid trivial⟩
  case round =>
    obtain ⟨left, cnt, out, c, hrg, hB, hG, rfl, hc⟩ := hrel
    go_wp2_with (first | (at_next; refine wpList_next_ranges _ rfl _ rfl 9 kS (plainElem Tryz.prog 3) Value.string (Value.int .i64) keyS_inv elem_inv m' w.heap.size (Maps.size D') _ _ _ rfl hrg ?_ ?_) | fail)
    · intro hcn0 hl0
      have HB := hid hB
      have hTr := hid (HT.out.low hB)
      have hUr := hid (HU.out.low hB)
      have hrl := hrg.lt
      have hp := hid (hG.done hl0 Ht'.out)
      have hcF : Hid (c = ((foldP L L').length : Int)) := by
        refine hid ?_
        rw [hc.out, hCnt.out, newL_perm hp.out]; omega
      clear hrg hB hcn0 hl0 hG hc
      have hc1 : (L.length : Int) ≤ c ∧ c ≤ 9000 := by
        have h1 := foldP_len HT.out.nd L'
        have h2 := hCnt.out
        have h3 := hcF.out
        omega
      have e1 := hTr.out.hb.cell (k := 1) (v := .int .i64 (sumL L)) rfl
      have e2 := hUr.out.hb.cell (k := 1) (v := .int .i64 (sumL L')) rfl
      have e3 := hTr.out.hb.cell (k := 0) (v := .map (some m)) rfl
      have e4 := hUr.out.hb.cell (k := 0) (v := .map (some m')) rfl
      have p1 := sumL_pos hTr.out.he.pos
      have p2 := sumL_pos hUr.out.he.pos
      have q1 := HT.out.he.tot
      have q2 := HU.out.he.tot
      generalize hS : sumL L = S at *
      generalize hS' : sumL L' = S' at *
      replace hS := hid hS
      replace hS' := hid hS'
      have t2 : IntKind.i64.wrap (S + S') = S + S' := IntWalk.i64_in _ (by omega)
      clear hl hm' hrg0 hg0 hs0 hp
      by_cases h1c : (4096 : Int) < c
      case' pos =>
        have hr := hid (hE3.out (.inl (by have := hcF.out; omega)))
        have t1 : decide ((4096 : Int) < c) = true := decide_eq_true h1c
        clear h1c
        go_wp2_with fail
        refine draw_allB (by kernel_rfl) (by kernel_rfl) ?_
        repeat (refine bq_step (fun K hK => ?_); go_simp; refine ⟨hK _ ?_⟩; clear hK K)
        refine bq_nil ?_
        rintro _ ⟨q, rfl⟩
        have HB2 := hid (show Below w.heap.size w (wr.drewN q) from ⟨HB.out.os, HB.out.tape, HB.out.output, HB.out.size, HB.out.block⟩)
        generalize wr.drewN q = wq at *
        go_wp2_with fail
        go_ret
        exact ⟨ret_int hr.out.1.symm, by rw [hr.out.2]; exact HT.out.low HB2.out, ⟨HB2.out.os, HB2.out.tape, HB2.out.output, HB2.out.size, fun k hk _ _ => HB2.out.block k hk⟩⟩
      have t1 : decide ((4096 : Int) < c) = false := decide_eq_false h1c
      by_cases h3c : (2147483648 : Int) < S + S'
      case' pos =>
        have hr := hid (hE3.out (.inr h3c))
        have t3 : decide ((2147483648 : Int) < S + S') = true := decide_eq_true h3c
        clear h1c h3c
        go_wp2_with fail
        refine draw_allB (by kernel_rfl) (by kernel_rfl) ?_
        repeat (refine bq_step (fun K hK => ?_); go_simp; refine ⟨hK _ ?_⟩; clear hK K)
        refine bq_nil ?_
        rintro _ ⟨q, rfl⟩
        have HB2 := hid (show Below w.heap.size w (wr.drewN q) from ⟨HB.out.os, HB.out.tape, HB.out.output, HB.out.size, HB.out.block⟩)
        generalize wr.drewN q = wq at *
        go_wp2_with fail
        go_ret
        exact ⟨ret_int hr.out.1.symm, by rw [hr.out.2]; exact HT.out.low HB2.out, ⟨HB2.out.os, HB2.out.tape, HB2.out.output, HB2.out.size, fun k hk _ _ => HB2.out.block k hk⟩⟩
      have t3 : decide ((2147483648 : Int) < S + S') = false := decide_eq_false h3c
      have hlen4 : (foldP L L').length ≤ 4096 := by have := hcF.out; omega
      have hsum : S + S' ≤ 2147483648 := by omega
      have hr := hid (hE0.out hlen4 hsum)
      go_wp2_with fail
      refine draw_allB (by kernel_rfl) (by kernel_rfl) ?_
      repeat (refine bq_step (fun K hK => ?_); go_simp; refine ⟨hK _ ?_⟩; clear hK K)
      refine bq_nil ?_
      rintro _ ⟨q, rfl⟩
      have HB2 := hid (show Below w.heap.size w (wr.drewN q) from ⟨HB.out.os, HB.out.tape, HB.out.output, HB.out.size, HB.out.block⟩)
      have hT2 := hid (HT.out.low HB2.out)
      have hU2 := hid (HU.out.low HB2.out)
      have E4 := hid (show (wr.drewN q).cell? ⟨b', 0, none⟩ = some (.map (some m')) from e4)
      clear e1 e2 e3 e4 hTr hUr HB t1 t2 t3
      have hrl2 : w.heap.size < (wr.drewN q).heap.size := hrl
      clear hrl
      generalize wr.drewN q = wq at *
      have e4 := E4.out
      have hm2 : MapAt wq m' D' := by
        obtain ⟨D2, q1, q2⟩ := hU2.out.hm
        exact (show MapAt w m' D' from hm''.out).block (HB2.out.block _ hml')
      have hcl0 := AnyW.maps_Clone_owns Tryz.cloneM 9 (plainElem (H := Unit) Tryz.prog 3) m' (Maps.size D') D' wq hm2
      change Calls Tryz.prog 42 _ _ _ at hcl0
      have hcl := hid hcl0
      clear hcl0 hm2
      go_wp2_with fail
      with_reducible refine Calls.mono hcl.out ?_
      rintro e w3 ⟨rfl, hmc, -, hb3⟩
      have HMC := hid hmc
      have HB3 := hid hb3
      clear hmc hb3 hcl
      have hmcc := HMC.out
      obtain ⟨cc, hcc⟩ : ∃ cc, wq.heap.size = cc := ⟨_, rfl⟩
      rw [hcc] at hmcc
      have hccl : cc < w3.heap.size := hmcc.lt
      rw [hcc]
      replace hcc := hid hcc
      have hwcc : w.heap.size < cc := by rw [← hcc.out]; exact hrl2
      go_wp2_with (first | (at_range; refine wpList_range_own _ rfl _ 68 rfl 9 3 kS Tryz.underlying68 _ cc (Maps.size D') _ rfl hmcc ?_; intro w4 hrg4 hg4 hs4) | fail)
      go_frame
      have hB4 : Hid (Below w.heap.size w w4) := (HB2.out.trans (HB3.out.mono HB2.out.size)).trans ⟨hg4.os, hg4.tape, hg4.output, hg4.size, fun k hk => hg4.block k (by omega) (by simp)⟩
      have hT4 := hid (HT.out.low hB4.out)
      have hsz2 := hsz'.out
      have hPos := hid HU.out.he.pos
      have hSz := hid HU.out.he.sz
      have hr2 : w.heap.size < w3.heap.size := by omega
      have hgL := hid (foldP_len HT.out.nd)
      have hgS := hid (foldP_sum HT.out.nd)
      clear hmcc HMC hs4 hm'' c0 d0 e4 E4 hU2 hT2 hc1 hsz2 h1c h3c hcF q1 q2
      go_loopw [9] (fun _ wr2 => ∃ (out : List Ent) (left2 : Lit → Bool) (cnt2 : Nat), wr2.ranges Tryz.prog 9 (plainElem (H := Unit) Tryz.prog 3) cc w3.heap.size (Maps.size D') D' left2 cnt2 ∧ Got D' left2 out ∧ Tal wr2 b m (foldP L out) ∧ But2 b m w wr2) (fun _ wr2 => wr2.rangeLeft cc w3.heap.size)
      case atStart => exact ⟨[], _, _, hrg4, Got.start D', hT4.out, ⟨hB4.out.os, hB4.out.tape, hB4.out.output, hB4.out.size, fun k hk _ _ => hB4.out.block k hk⟩⟩
      case round =>
        obtain ⟨out, left2, cnt2, hrg, hG, hT5, hBt⟩ := hrel
        go_wp2_with (first | (at_next; refine wpList_next_ranges _ rfl _ rfl 9 kS (plainElem Tryz.prog 3) Value.string (Value.int .i64) keyS_inv elem_inv cc w3.heap.size (Maps.size D') _ _ _ rfl hrg ?_ ?_) | fail)
        · intro hcn0 hl0
          have hp := hid (hG.done hl0 Ht'.out)
          have HT5 := hid hT5
          have HBt := hid hBt
          clear hrg hG hT5 hBt hcn0 hl0 hrg4 hg4
          go_wp2_with fail
          go_ret
          exact ⟨ret_int hr.out.1.symm, by rw [hr.out.2, ← hPerm.out _ hp.out]; exact HT5.out, HBt.out⟩
        · intro x c2 kl d ps w5 cnt5 hkey hlx hv hat hrg5 hlt hg5 hs5 hen
          obtain ⟨rfl, hxs⟩ := keyS_is hkey
          obtain ⟨a, ea, eb, hwf⟩ := plainElem_int_inv Tryz.underlying3 hv
          cases ea
          cases eb
          have hG2 := hG.step x c2 hlx hat
          obtain ⟨s1, s2⟩ := hG2.sub Ht'.out hPos.out
          rw [sumL_app] at s2
          rw [List.length_append] at s1
          have hc0 : 0 < c2 := hPos.out (x, c2) (hG2.mem Ht'.out (by simp))
          have hT6 := next_tal hT5 hg5 (by omega) (by omega)
          have z1 := hgS.out out
          have z2 := hgL.out out
          have z3 := hS.out
          have z4 := hS'.out
          simp only [List.length_cons, List.length_nil] at s1
          obtain ⟨q1, q2⟩ := countL_le x hT6.he.pos
          have q3 := hT6.he.tot
          have hlk := (hT6.look x hxs).1
          have hnd2 : (out ++ [(x, c2)]).Nodup := List.Pairwise.of_map (S := (· ≠ ·)) (fun x : Ent => x.1) (fun a b hab e => hab (by rw [e])) hG2.nd
          have z5 := hPart.out _ hnd2 fun y hy => hG2.mem Ht'.out hy
          rw [foldP_snoc] at z5
          have z6 := put_len hT6.nd x c2
          have hroom : x ∈ keysL (foldP L out) ∨ (foldP L out).length < 4096 := by
            by_cases hk : x ∈ keysL (foldP L out)
            · exact .inl hk
            · rw [if_neg hk] at z6; exact .inr (by dsimp only at z5; omega)
          obtain ⟨w6, hup, e1, f1, n1, hT7, hB7, _⟩ := hT6.push x c2 hxs hc0 (by omega) hroom
          have e0 := hT6.hb.cell (k := 0) (v := .map (some m)) rfl
          have hR := hid (ranges_block hrg5 (hB7.block cc (by have := hrg5.owns.lt; omega) (by omega) (by omega)) (hB7.block w3.heap.size (by have := hrg5.lt; omega) (by omega) (by omega)))
          have hRo := hid hrg.left_eq
          have hT8 : Hid (Tal (w6.setCell ⟨b, 1, none⟩ (.int .i64 (sumL (foldP L out) + c2))) b m (foldP L (out ++ [(x, c2)]))) := by rw [foldP_snoc]; exact hid hT7
          have hB8 : Hid (But2 b m w (w6.setCell ⟨b, 1, none⟩ (.int .i64 (sumL (foldP L out) + c2)))) := ⟨hB7.os.trans (hg5.os.trans hBt.os), hB7.tape.trans (hg5.tape.trans hBt.tape), hB7.output.trans (hg5.output.trans hBt.output), Nat.le_trans hBt.size (Nat.le_trans hg5.size hB7.size), fun k hk h1 h2 => (hB7.block k (by have := hBt.size; have := hg5.size; omega) h1 h2).trans ((hg5.block k (by have := hBt.size; omega) (by intro e; injection e with e; omega)).trans (hBt.block k hk h1 h2))⟩
          have hG3 := hid hG2
          have u1 : sumL (foldP L out) + c2 ≤ 2147483648 := by omega
          have u2 : c2 ≤ 2147483648 := by have := hT6.he.pos; have := sumL_pos this; omega
          clear hrg hrg5 hg5 hs5 hG hG2 hT5 hT6 hT7 hB7 hBt hv hkey hat hlx s1 s2 z1 z2 z3 z4 z5 z6 hnd2 hroom hwf hrg4 hg4
          generalize countL (foldP L out) x = C at *
          generalize sumL (foldP L out) = T at *
          go_wp2_with fail
          go_roundw
          case rel => exact ⟨_, _, cnt5, hR.out, hG3.out, hT8.out, hB8.out⟩
          case measure => rw [hR.out.left_eq, hRo.out]; exact hlt
    · intro x cc kl d ps w1 cnt1 hkey hlx hv hat hrg1 hlt hg1 hs1 hen
      obtain ⟨rfl, hxs⟩ := keyS_is hkey
      obtain ⟨a, ea, eb, hwf⟩ := plainElem_int_inv Tryz.underlying3 hv
      cases ea
      cases eb
      have hG2 := hid (hG.step x cc hlx hat)
      have hgl := hid (newL_snoc L out (x, cc))
      have hcb : (L.length : Int) ≤ c ∧ c ≤ 9000 := by
        have h1 := (hG.sub Ht'.out HU.out.he.pos).1
        have h2 : (newL L out).length ≤ out.length := List.length_filter_le _ _
        have h3 := hc.out
        omega
      have hc' := hc
      clear hG hc hwf
      have hrl := hrg.lt
      have hT1 := next_tal (HT.out.low hB) hg1 (by omega) (by omega)
      have hB1 := hid (hB.grown hg1 hB.size (fun k hk => by cases hk; omega))
      have e3 := hT1.hb.cell (k := 0) (v := .map (some m)) rfl
      have hlk := (hT1.look x hxs).2
      have hR := hid hrg1
      have hRo := hid hrg.left_eq
      clear hrg hrg1 hB hg1 hs1 hv hat hkey hlx hT1 hl c0 d0 hm' hrg0 hg0 hs0
      by_cases hx : x ∈ keysL L
      · have h4 : decide (x ∈ keysL L) = true := decide_eq_true hx
        rw [h4] at hlk
        replace hx := hid hx
        clear h4
        go_wp2_with fail
        go_roundw
        case rel => exact ⟨_, cnt1, _, c, hR.out, hB1.out, hG2.out, rfl, by rw [hgl.out, if_pos hx.out]; exact hc'⟩
        case measure => rw [hR.out.left_eq, hRo.out]; exact hlt
      · have h4 : decide (x ∈ keysL L) = false := decide_eq_false hx
        rw [h4] at hlk
        replace hx := hid hx
        clear h4
        go_wp2_with fail
        go_roundw
        case rel => exact ⟨_, cnt1, _, c + 1, hR.out, hB1.out, hG2.out, rfl, by rw [hgl.out, if_neg hx.out, List.length_append]; refine hid ?_; rw [hc'.out]; simp; omega⟩
        case measure => rw [hR.out.left_eq, hRo.out]; exact hlt
end Go.Proofs.YthidjbobjjoekaaGreat
