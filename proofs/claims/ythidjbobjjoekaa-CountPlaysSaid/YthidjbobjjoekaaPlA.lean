/- Entries taken over by other ones: the plain laws of Merge. No program walked. Conditions: those of each theorem. -/
import Derived.Test.YthidjbobjjoekaaTaL
import Derived.Test.YthidjbobjjoekaaTaK
import Derived.Test.YthidjbobjjoekaaTaH
import Derived.Test.YthidjbobjjoekaaQx
import Derived.OwnWalk
import Derived.Test.YthidjbobjjoekaaQw
namespace Go.Proofs.Ythidjbobjjoekaa
open Go.RowKit Go.Lib Go.Sort Go.Shelf
set_option linter.unusedVariables false
set_option linter.unusedSimpArgs false
/-- the entries whose words are new -/
def newL (L out : List Ent) : List Ent := out.filter (fun x => decide (x.1 ∉ keysL L))
theorem newL_snoc (L out : List Ent) (x : Ent) : newL L (out ++ [x]) = if x.1 ∈ keysL L then newL L out else newL L out ++ [x] := by
  unfold newL
  rw [List.filter_append]
  by_cases h : x.1 ∈ keysL L
  · rw [if_pos h]; simp [List.filter_cons, h]
  · rw [if_neg h]; simp [List.filter_cons, h]
theorem foldP_count {L : List Ent} (hn : (keysL L).Nodup) : ∀ out, (keysL out).Nodup → (foldP L out).length = L.length + (newL L out).length := by
  intro out
  induction out generalizing L with
  | nil => intro _; rfl
  | cons x r ih =>
    intro hd
    unfold keysL at hd
    rw [List.map_cons, List.nodup_cons] at hd
    have h1 := ih (put_nd hn x.1 x.2) hd.2
    have h2 := put_len hn x.1 x.2
    have h3 : newL (putL L x.1 x.2) r = newL L r := by
      unfold newL
      refine List.filter_congr fun y hy => ?_
      have hne : y.1 ≠ x.1 := fun e => hd.1 (by rw [← e]; exact List.mem_map_of_mem hy)
      have : (y.1 ∈ keysL (putL L x.1 x.2)) ↔ y.1 ∈ keysL L := by
        rw [keys_put]; exact ⟨fun h => h.resolve_left hne, .inr⟩
      simp only [this]
    show (foldP (putL L x.1 x.2) r).length = _
    rw [h1, h3, h2]
    unfold newL
    rw [List.filter_cons]
    by_cases h : x.1 ∈ keysL L
    · rw [if_pos h, if_neg (by simp [h])]
    · rw [if_neg h, if_pos (by simp [h])]
      simp only [List.length_cons]
      omega
theorem foldP_sorted {L : List Ent} (h : L.Pairwise ltE) : ∀ out, (foldP L out).Pairwise ltE := by
  intro out
  induction out generalizing L with
  | nil => exact h
  | cons x r ih => exact ih (putL_sorted h x.1 x.2)
theorem putL_pos {L : List Ent} (h : ∀ x ∈ L, 0 < x.2) (k : ByteArray) (n : Int) (hn : 0 < n) : ∀ x ∈ putL L k n, 0 < x.2 := fun x hx => by
  rcases insE_mem.1 hx with rfl | hx
  · have := (countL_le k h).1
    show 0 < countL L k + n
    omega
  · exact h x (dropL_mem.1 hx).1
theorem foldP_pos {L : List Ent} (h : ∀ x ∈ L, 0 < x.2) : ∀ out : List Ent, (∀ x ∈ out, 0 < x.2) → ∀ x ∈ foldP L out, 0 < x.2 := by
  intro out
  induction out generalizing L with
  | nil => intro _; exact h
  | cons x r ih => exact fun hp => ih (putL_pos h x.1 x.2 (hp x (List.mem_cons_self ..))) fun y hy => hp y (List.mem_cons_of_mem _ hy)
theorem foldP_sz {L : List Ent} (h : ∀ x ∈ L, x.1.size ≤ maxLen) : ∀ out : List Ent, (∀ x ∈ out, x.1.size ≤ maxLen) → ∀ x ∈ foldP L out, x.1.size ≤ maxLen := by
  intro out
  induction out generalizing L with
  | nil => intro _; exact h
  | cons x r ih =>
    refine fun hp => ih (fun y hy => ?_) fun y hy => hp y (List.mem_cons_of_mem _ hy)
    rcases insE_mem.1 hy with rfl | hy
    · exact hp x (List.mem_cons_self ..)
    · exact h y (dropL_mem.1 hy).1
theorem perm_keys {l m : List Ent} (hp : l.Perm m) : (keysL l).Perm (keysL m) := hp.map _
theorem foldP_perm {L out M : List Ent} (hs : L.Pairwise ltE) (hn : (keysL L).Nodup) (hL : ∀ x ∈ L, 0 < x.2) (hm : (keysL M).Nodup) (hM : ∀ x ∈ M, 0 < x.2) (hp : out.Perm M) : foldP L out = foldP L M := by
  have hno : (keysL out).Nodup := (perm_keys hp).nodup_iff.2 hm
  refine ents_ext (foldP_sorted hs _) (foldP_sorted hs _) (foldP_nd hn _) (foldP_nd hn _) (foldP_pos hL _ fun x hx => hM x (hp.subset hx)) (foldP_pos hL _ hM) fun k => ?_
  rw [count_fold hn out hno, count_fold hn M hm, count_perm hp hno]
theorem newL_perm {L out M : List Ent} (hp : out.Perm M) : (newL L out).length = (newL L M).length := (hp.filter _).length_eq
theorem fold_up : ∀ (r X : List Ent), (keysL X).Nodup → X.length ≤ (foldP X r).length
  | [], X, _ => Nat.le_refl _
  | x :: r, X, hn => by
    have h1 := fold_up r (putL X x.1 x.2) (put_nd hn x.1 x.2)
    have h2 := put_len hn x.1 x.2
    show X.length ≤ (foldP (putL X x.1 x.2) r).length
    split at h2 <;> omega
theorem foldP_grow {L : List Ent} (hn : (keysL L).Nodup) (out r : List Ent) : (foldP L out).length ≤ (foldP L (out ++ r)).length := by
  have e : foldP L (out ++ r) = foldP (foldP L out) r := by unfold foldP; rw [List.foldl_append]
  rw [e]
  exact fold_up r _ (foldP_nd hn out)
/-- a part that has been gone through: nothing of it is longer than the whole -/
theorem foldP_part {L M out : List Ent} (hs : L.Pairwise ltE) (hn : (keysL L).Nodup) (hL : ∀ x ∈ L, 0 < x.2) (hm : (keysL M).Nodup) (hM : ∀ x ∈ M, 0 < x.2) (ho : out.Nodup) (hsub : ∀ x ∈ out, x ∈ M) : (foldP L out).length ≤ (foldP L M).length := by
  obtain ⟨r, hr⟩ := nodup_sub ho hsub
  rw [← foldP_perm hs hn hL hm hM hr]
  exact foldP_grow hn out r
/-- what Merge answers -/
def mergeE (L M : List Ent) : Int := if 4096 < (foldP L M).length ∨ 2147483648 < sumL L + sumL M then 3 else 0
/-- what Add answers -/
def addE (L : List Ent) (k : ByteArray) (n : Int) : Int := if n < 1 ∨ 2147483648 < n then 2 else if (k ∉ keysL L ∧ 4096 ≤ L.length) ∨ 2147483648 < sumL L + n then 3 else 0
/-- what is there behind Add, behind Merge -/
def addR (L : List Ent) (k : ByteArray) (n : Int) : List Ent := if addE L k n = 0 then putL L k n else L
def mergeR (L M : List Ent) : List Ent := if mergeE L M = 0 then foldP L M else L
end Go.Proofs.Ythidjbobjjoekaa
/- (*Tally).Merge walked, of any two tallies, which may be one. Conditions: the tallies' own. -/
namespace Go.Proofs.Ythidjbobjjoekaa
open Go.RowKit Go.Lib Go.Sort Go.Shelf
set_option linter.unusedVariables false
set_option linter.unusedSimpArgs false
set_option maxRecDepth 100000 in
set_option maxHeartbeats 4000000 in
theorem merge_any {w : World} {b m b' m' : Nat} {L L' : List Ent} (hT : Tal w b m L) (hU : Tal w b' m' L') :
    Calls Try.prog 17 #[.pointer (some ⟨b, 0, none⟩), .pointer (some ⟨b', 0, none⟩)] w fun e w' => e = .returned (.int .i64 (mergeE L L')) ∧ Tal w' b m (mergeR L L') ∧ But2 b m w w' := by
  have hPart := hid (fun (out : List Ent) (h1 : out.Nodup) (h2 : ∀ x ∈ out, x ∈ L') => foldP_part hT.he.srt hT.nd hT.he.pos hU.nd hU.he.pos h1 h2)
  have hPerm := hid (fun (out : List Ent) (h1 : out.Perm L') => foldP_perm hT.he.srt hT.nd hT.he.pos hU.nd hU.he.pos h1)
  have hCnt := hid (foldP_count hT.nd L' hU.nd)
  have hE3 := hid (show 4096 < (foldP L L').length ∨ 2147483648 < sumL L + sumL L' → mergeE L L' = 3 ∧ mergeR L L' = L from fun h => by
    have h1 : mergeE L L' = 3 := if_pos h
    exact ⟨h1, by unfold mergeR; rw [h1]; rfl⟩)
  have hE0 := hid (show (foldP L L').length ≤ 4096 → sumL L + sumL L' ≤ 2147483648 → mergeE L L' = 0 ∧ mergeR L L' = foldP L L' from fun h k => by
    have h1 : mergeE L L' = 0 := if_neg (by omega)
    exact ⟨h1, by unfold mergeR; rw [h1]; rfl⟩)
  generalize mergeE L L' = mE at *
  generalize mergeR L L' = mR at *
  obtain ⟨D', hm', ht'⟩ := hU.hm
  obtain ⟨D, hm, ht⟩ := hT.hm
  have hl := fun ty => hm.len (e := 3) Try.underlying85 ty
  rw [ht.size] at hl
  have c0 := hT.hb.cell (k := 0) (v := .map (some m)) rfl
  have d0 := hU.hb.cell (k := 0) (v := .map (some m')) rfl
  have hsz' := hid ht'.size
  have HT := hid hT
  have HU := hid hU
  have Ht' := hid ht'
  have hbl := hT.blt
  have hml := hT.mlt
  have hbl' := hU.blt
  have hml' := hU.mlt
  have hE := hT.he.len
  have hE' := hU.he.len
  have hm'' := hid hm'
  clear hT hU ht ht' hm
  go_enter Try.func17, Try.ntmps17
  go_wp2_with (first | (at_range; refine wpList_range_own _ rfl _ 85 rfl 9 3 kS Try.underlying85 _ m' (Maps.size D') _ rfl hm' ?_; intro w0 hrg0 hg0 hs0) | fail)
  go_frame
  go_loopw [5] (fun v wr => ∃ (left : Lit → Bool) (cnt : Nat) (out : List Ent) (c : Int), wr.ranges Try.prog 9 (plainElem (H := Unit) Try.prog 3) m' w.heap.size (Maps.size D') D' left cnt ∧ Below w.heap.size w wr ∧ Got D' left out ∧ v = .int .i64 c ∧ Hid (c = L.length + (newL L out).length)) (fun _ wr => wr.rangeLeft m' w.heap.size)
  case atStart => exact ⟨_, _, [], _, hrg0, ⟨hg0.os, hg0.tape, hg0.output, hg0.size, fun k hk => hg0.block k hk (by simp)⟩, Got.start D', rfl, by simp [newL]; exact hid trivial⟩
  case round =>
    obtain ⟨left, cnt, out, c, hrg, hB, hG, rfl, hc⟩ := hrel
    go_wp2_with (first | (at_next; refine wpList_next_ranges _ rfl _ rfl 9 kS (plainElem Try.prog 3) Value.string (Value.int .i64) keyS_inv elem_inv m' w.heap.size (Maps.size D') _ _ _ rfl hrg ?_ ?_) | fail)
    · intro hcn0 hl0
      have HB := hid hB
      have hTr := hid (HT.out.low hB)
      have hUr := hid (HU.out.low hB)
      have hrl := hrg.lt
      have hp := hid (hG.done hl0 Ht'.out)
      have hcF : Hid (c = ((foldP L L').length : Int)) := by
        refine hid ?_
        rw [hc.out, hCnt.out, newL_perm hp.out]; omega
      clear hrg hB hcn0 hl0 hG hc
      have hc1 : (L.length : Int) ≤ c ∧ c ≤ 9000 := by
        have h1 := foldP_len HT.out.nd L'
        have h2 := hCnt.out
        have h3 := hcF.out
        omega
      have e1 := hTr.out.hb.cell (k := 1) (v := .int .i64 (sumL L)) rfl
      have e2 := hUr.out.hb.cell (k := 1) (v := .int .i64 (sumL L')) rfl
      have e3 := hTr.out.hb.cell (k := 0) (v := .map (some m)) rfl
      have e4 := hUr.out.hb.cell (k := 0) (v := .map (some m')) rfl
      have p1 := sumL_pos hTr.out.he.pos
      have p2 := sumL_pos hUr.out.he.pos
      have q1 := HT.out.he.tot
      have q2 := HU.out.he.tot
      generalize hS : sumL L = S at *
      generalize hS' : sumL L' = S' at *
      replace hS := hid hS
      replace hS' := hid hS'
      have t2 : IntKind.i64.wrap (S + S') = S + S' := IntWalk.i64_in _ (by omega)
      clear hl hm' hrg0 hg0 hs0 hp
      by_cases h1c : (4096 : Int) < c
      case' pos =>
        have hr := hid (hE3.out (.inl (by have := hcF.out; omega)))
        have t1 : decide ((4096 : Int) < c) = true := decide_eq_true h1c
        clear h1c
        go_wp2_with fail
        refine draw_allB (by kernel_rfl) (by kernel_rfl) ?_
        repeat (refine bq_step (fun K hK => ?_); go_simp; refine ⟨hK _ ?_⟩; clear hK K)
        refine bq_nil ?_
        rintro _ ⟨q, rfl⟩
        have HB2 := hid (show Below w.heap.size w (wr.drewN q) from ⟨HB.out.os, HB.out.tape, HB.out.output, HB.out.size, HB.out.block⟩)
        generalize wr.drewN q = wq at *
        go_wp2_with fail
        go_ret
        exact ⟨ret_int hr.out.1.symm, by rw [hr.out.2]; exact HT.out.low HB2.out, ⟨HB2.out.os, HB2.out.tape, HB2.out.output, HB2.out.size, fun k hk _ _ => HB2.out.block k hk⟩⟩
      have t1 : decide ((4096 : Int) < c) = false := decide_eq_false h1c
      by_cases h3c : (2147483648 : Int) < S + S'
      case' pos =>
        have hr := hid (hE3.out (.inr h3c))
        have t3 : decide ((2147483648 : Int) < S + S') = true := decide_eq_true h3c
        clear h1c h3c
        go_wp2_with fail
        refine draw_allB (by kernel_rfl) (by kernel_rfl) ?_
        repeat (refine bq_step (fun K hK => ?_); go_simp; refine ⟨hK _ ?_⟩; clear hK K)
        refine bq_nil ?_
        rintro _ ⟨q, rfl⟩
        have HB2 := hid (show Below w.heap.size w (wr.drewN q) from ⟨HB.out.os, HB.out.tape, HB.out.output, HB.out.size, HB.out.block⟩)
        generalize wr.drewN q = wq at *
        go_wp2_with fail
        go_ret
        exact ⟨ret_int hr.out.1.symm, by rw [hr.out.2]; exact HT.out.low HB2.out, ⟨HB2.out.os, HB2.out.tape, HB2.out.output, HB2.out.size, fun k hk _ _ => HB2.out.block k hk⟩⟩
      have t3 : decide ((2147483648 : Int) < S + S') = false := decide_eq_false h3c
      have hlen4 : (foldP L L').length ≤ 4096 := by have := hcF.out; omega
      have hsum : S + S' ≤ 2147483648 := by omega
      have hr := hid (hE0.out hlen4 hsum)
      go_wp2_with fail
      refine draw_allB (by kernel_rfl) (by kernel_rfl) ?_
      repeat (refine bq_step (fun K hK => ?_); go_simp; refine ⟨hK _ ?_⟩; clear hK K)
      refine bq_nil ?_
      rintro _ ⟨q, rfl⟩
      have HB2 := hid (show Below w.heap.size w (wr.drewN q) from ⟨HB.out.os, HB.out.tape, HB.out.output, HB.out.size, HB.out.block⟩)
      have hT2 := hid (HT.out.low HB2.out)
      have hU2 := hid (HU.out.low HB2.out)
      have E4 := hid (show (wr.drewN q).cell? ⟨b', 0, none⟩ = some (.map (some m')) from e4)
      clear e1 e2 e3 e4 hTr hUr HB t1 t2 t3
      have hrl2 : w.heap.size < (wr.drewN q).heap.size := hrl
      clear hrl
      generalize wr.drewN q = wq at *
      have e4 := E4.out
      have hm2 : MapAt wq m' D' := by
        obtain ⟨D2, q1, q2⟩ := hU2.out.hm
        exact (show MapAt w m' D' from hm''.out).block (HB2.out.block _ hml')
      have hcl0 := AnyW.maps_Clone_owns Try.cloneM 9 (plainElem (H := Unit) Try.prog 3) m' (Maps.size D') D' wq hm2
      change Calls Try.prog 58 _ _ _ at hcl0
      have hcl := hid hcl0
      clear hcl0 hm2
      go_wp2_with fail
      with_reducible refine Calls.mono hcl.out ?_
      rintro e w3 ⟨rfl, hmc, -, hb3⟩
      have HMC := hid hmc
      have HB3 := hid hb3
      clear hmc hb3 hcl
      have hmcc := HMC.out
      obtain ⟨cc, hcc⟩ : ∃ cc, wq.heap.size = cc := ⟨_, rfl⟩
      rw [hcc] at hmcc
      have hccl : cc < w3.heap.size := hmcc.lt
      rw [hcc]
      replace hcc := hid hcc
      have hwcc : w.heap.size < cc := by rw [← hcc.out]; exact hrl2
      go_wp2_with (first | (at_range; refine wpList_range_own _ rfl _ 85 rfl 9 3 kS Try.underlying85 _ cc (Maps.size D') _ rfl hmcc ?_; intro w4 hrg4 hg4 hs4) | fail)
      go_frame
      have hB4 : Hid (Below w.heap.size w w4) := (HB2.out.trans (HB3.out.mono HB2.out.size)).trans ⟨hg4.os, hg4.tape, hg4.output, hg4.size, fun k hk => hg4.block k (by omega) (by simp)⟩
      have hT4 := hid (HT.out.low hB4.out)
      have hsz2 := hsz'.out
      have hPos := hid HU.out.he.pos
      have hSz := hid HU.out.he.sz
      have hr2 : w.heap.size < w3.heap.size := by omega
      have hgL := hid (foldP_len HT.out.nd)
      have hgS := hid (foldP_sum HT.out.nd)
      clear hmcc HMC hs4 hm'' c0 d0 e4 E4 hU2 hT2 hc1 hsz2 h1c h3c hcF q1 q2
      go_loopw [9] (fun _ wr2 => ∃ (out : List Ent) (left2 : Lit → Bool) (cnt2 : Nat), wr2.ranges Try.prog 9 (plainElem (H := Unit) Try.prog 3) cc w3.heap.size (Maps.size D') D' left2 cnt2 ∧ Got D' left2 out ∧ Tal wr2 b m (foldP L out) ∧ But2 b m w wr2) (fun _ wr2 => wr2.rangeLeft cc w3.heap.size)
      case atStart => exact ⟨[], _, _, hrg4, Got.start D', hT4.out, ⟨hB4.out.os, hB4.out.tape, hB4.out.output, hB4.out.size, fun k hk _ _ => hB4.out.block k hk⟩⟩
      case round =>
        obtain ⟨out, left2, cnt2, hrg, hG, hT5, hBt⟩ := hrel
        go_wp2_with (first | (at_next; refine wpList_next_ranges _ rfl _ rfl 9 kS (plainElem Try.prog 3) Value.string (Value.int .i64) keyS_inv elem_inv cc w3.heap.size (Maps.size D') _ _ _ rfl hrg ?_ ?_) | fail)
        · intro hcn0 hl0
          have hp := hid (hG.done hl0 Ht'.out)
          have HT5 := hid hT5
          have HBt := hid hBt
          clear hrg hG hT5 hBt hcn0 hl0 hrg4 hg4
          go_wp2_with fail
          go_ret
          exact ⟨ret_int hr.out.1.symm, by rw [hr.out.2, ← hPerm.out _ hp.out]; exact HT5.out, HBt.out⟩
        · intro x c2 kl d ps w5 cnt5 hkey hlx hv hat hrg5 hlt hg5 hs5 hen
          obtain ⟨rfl, hxs⟩ := keyS_is hkey
          obtain ⟨a, ea, eb, hwf⟩ := plainElem_int_inv Try.underlying3 hv
          cases ea
          cases eb
          have hG2 := hG.step x c2 hlx hat
          obtain ⟨s1, s2⟩ := hG2.sub Ht'.out hPos.out
          rw [sumL_app] at s2
          rw [List.length_append] at s1
          have hc0 : 0 < c2 := hPos.out (x, c2) (hG2.mem Ht'.out (by simp))
          have hT6 := next_tal hT5 hg5 (by omega) (by omega)
          have z1 := hgS.out out
          have z2 := hgL.out out
          have z3 := hS.out
          have z4 := hS'.out
          simp only [List.length_cons, List.length_nil] at s1
          obtain ⟨q1, q2⟩ := countL_le x hT6.he.pos
          have q3 := hT6.he.tot
          have hlk := (hT6.look x hxs).1
          have hnd2 : (out ++ [(x, c2)]).Nodup := List.Pairwise.of_map (S := (· ≠ ·)) (fun x : Ent => x.1) (fun a b hab e => hab (by rw [e])) hG2.nd
          have z5 := hPart.out _ hnd2 fun y hy => hG2.mem Ht'.out hy
          rw [foldP_snoc] at z5
          have z6 := put_len hT6.nd x c2
          have hroom : x ∈ keysL (foldP L out) ∨ (foldP L out).length < 4096 := by
            by_cases hk : x ∈ keysL (foldP L out)
            · exact .inl hk
            · rw [if_neg hk] at z6; exact .inr (by dsimp only at z5; omega)
          obtain ⟨w6, hup, e1, f1, n1, hT7, hB7, _⟩ := hT6.push x c2 hxs hc0 (by omega) hroom
          have e0 := hT6.hb.cell (k := 0) (v := .map (some m)) rfl
          have hR := hid (ranges_block hrg5 (hB7.block cc (by have := hrg5.owns.lt; omega) (by omega) (by omega)) (hB7.block w3.heap.size (by have := hrg5.lt; omega) (by omega) (by omega)))
          have hRo := hid hrg.left_eq
          have hT8 : Hid (Tal (w6.setCell ⟨b, 1, none⟩ (.int .i64 (sumL (foldP L out) + c2))) b m (foldP L (out ++ [(x, c2)]))) := by rw [foldP_snoc]; exact hid hT7
          have hB8 : Hid (But2 b m w (w6.setCell ⟨b, 1, none⟩ (.int .i64 (sumL (foldP L out) + c2)))) := ⟨hB7.os.trans (hg5.os.trans hBt.os), hB7.tape.trans (hg5.tape.trans hBt.tape), hB7.output.trans (hg5.output.trans hBt.output), Nat.le_trans hBt.size (Nat.le_trans hg5.size hB7.size), fun k hk h1 h2 => (hB7.block k (by have := hBt.size; have := hg5.size; omega) h1 h2).trans ((hg5.block k (by have := hBt.size; omega) (by intro e; injection e with e; omega)).trans (hBt.block k hk h1 h2))⟩
          have hG3 := hid hG2
          have u1 : sumL (foldP L out) + c2 ≤ 2147483648 := by omega
          have u2 : c2 ≤ 2147483648 := by have := hT6.he.pos; have := sumL_pos this; omega
          clear hrg hrg5 hg5 hs5 hG hG2 hT5 hT6 hT7 hB7 hBt hv hkey hat hlx s1 s2 z1 z2 z3 z4 z5 z6 hnd2 hroom hwf hrg4 hg4
          generalize countL (foldP L out) x = C at *
          generalize sumL (foldP L out) = T at *
          go_wp2_with fail
          go_roundw
          case rel => exact ⟨_, _, cnt5, hR.out, hG3.out, hT8.out, hB8.out⟩
          case measure => rw [hR.out.left_eq, hRo.out]; exact hlt
    · intro x cc kl d ps w1 cnt1 hkey hlx hv hat hrg1 hlt hg1 hs1 hen
      obtain ⟨rfl, hxs⟩ := keyS_is hkey
      obtain ⟨a, ea, eb, hwf⟩ := plainElem_int_inv Try.underlying3 hv
      cases ea
      cases eb
      have hG2 := hid (hG.step x cc hlx hat)
      have hgl := hid (newL_snoc L out (x, cc))
      have hcb : (L.length : Int) ≤ c ∧ c ≤ 9000 := by
        have h1 := (hG.sub Ht'.out HU.out.he.pos).1
        have h2 : (newL L out).length ≤ out.length := List.length_filter_le _ _
        have h3 := hc.out
        omega
      have hc' := hc
      clear hG hc hwf
      have hrl := hrg.lt
      have hT1 := next_tal (HT.out.low hB) hg1 (by omega) (by omega)
      have hB1 := hid (hB.grown hg1 hB.size (fun k hk => by cases hk; omega))
      have e3 := hT1.hb.cell (k := 0) (v := .map (some m)) rfl
      have hlk := (hT1.look x hxs).2
      have hR := hid hrg1
      have hRo := hid hrg.left_eq
      clear hrg hrg1 hB hg1 hs1 hv hat hkey hlx hT1 hl c0 d0 hm' hrg0 hg0 hs0
      by_cases hx : x ∈ keysL L
      · have h4 : decide (x ∈ keysL L) = true := decide_eq_true hx
        rw [h4] at hlk
        replace hx := hid hx
        clear h4
        go_wp2_with fail
        go_roundw
        case rel => exact ⟨_, cnt1, _, c, hR.out, hB1.out, hG2.out, rfl, by rw [hgl.out, if_pos hx.out]; exact hc'⟩
        case measure => rw [hR.out.left_eq, hRo.out]; exact hlt
      · have h4 : decide (x ∈ keysL L) = false := decide_eq_false hx
        rw [h4] at hlk
        replace hx := hid hx
        clear h4
        go_wp2_with fail
        go_roundw
        case rel => exact ⟨_, cnt1, _, c + 1, hR.out, hB1.out, hG2.out, rfl, by rw [hgl.out, if_neg hx.out, List.length_append]; refine hid ?_; rw [hc'.out]; simp; omega⟩
        case measure => rw [hR.out.left_eq, hRo.out]; exact hlt
end Go.Proofs.Ythidjbobjjoekaa
/- (*Tally).Add of any word and number: what it answers, what is there behind it. Conditions: the tally's own; the word is a string of the machine. -/
namespace Go.Proofs.Ythidjbobjjoekaa
open Go.RowKit Go.Lib Go.Sort Go.Shelf
set_option linter.unusedVariables false
set_option linter.unusedSimpArgs false
theorem But2.refl (b m : Nat) (w : World) : But2 b m w w := ⟨rfl, rfl, rfl, Nat.le_refl _, fun _ _ _ _ => rfl⟩
set_option maxRecDepth 100000 in
set_option maxHeartbeats 1000000 in
theorem add_any {w : World} {b m : Nat} {L : List Ent} (h : Tal w b m L) (k : ByteArray) (n : Int) (hk : k.size ≤ maxLen) :
    Calls Try.prog 16 #[.pointer (some ⟨b, 0, none⟩), .string k, .int .i64 n] w fun e w' => e = .returned (.int .i64 (addE L k n)) ∧ Tal w' b m (addR L k n) ∧ But2 b m w w' ∧ w'.heap.size = w.heap.size := by
  by_cases c1 : n < 1 ∨ 2147483648 < n
  · have hE : addE L k n = 2 := if_pos c1
    have hR : addR L k n = L := by unfold addR; rw [hE]; rfl
    rw [hE, hR]
    have hW := hid (show Tal w b m L ∧ But2 b m w w from ⟨h, But2.refl _ _ _⟩)
    clear h hE hR
    rcases c1 with c1 | c1
    · have t1 : decide (n < 1) = true := decide_eq_true c1
      go_enter Try.func16, Try.ntmps16
      go_wp2_with fail
      go_ret
      exact ⟨rfl, hW.out.1, hW.out.2, rfl⟩
    · have t1 : decide (n < 1) = false := decide_eq_false (by omega)
      have t2 : decide (2147483648 < n) = true := decide_eq_true c1
      go_enter Try.func16, Try.ntmps16
      go_wp2_with fail
      go_ret
      exact ⟨rfl, hW.out.1, hW.out.2, rfl⟩
  by_cases c2 : (k ∉ keysL L ∧ 4096 ≤ L.length) ∨ 2147483648 < sumL L + n
  case' neg =>
    have hE : addE L k n = 0 := by unfold addE; rw [if_neg c1, if_neg c2]
    have hR : addR L k n = putL L k n := by unfold addR; rw [hE]; rfl
    rw [hE, hR]
    refine add_ok h k n hk (by omega) (by omega) ?_
    by_cases hm : k ∈ keysL L
    · exact .inl hm
    · refine .inr ?_
      rcases Nat.lt_or_ge L.length 4096 with h3 | h3
      · exact h3
      · exact absurd (.inl ⟨hm, h3⟩) c2
  have hE : addE L k n = 3 := by unfold addE; rw [if_neg c1, if_pos c2]
  have hR : addR L k n = L := by unfold addR; rw [hE]; rfl
  rw [hE, hR]
  have hW := hid (show Tal w b m L ∧ But2 b m w w from ⟨h, But2.refl _ _ _⟩)
  have hs0 := sumL_pos h.he.pos
  have ht0 := h.he.tot
  have hlen := h.he.len
  obtain ⟨l1, l2⟩ := h.look k hk
  have c0 := h.hb.cell (k := 0) rfl
  have c1' := h.hb.cell (k := 1) rfl
  have hl : ∀ ty, _ := fun ty => (h.hm.elim fun D hD => by have := hD.1.len (e := 3) Try.underlying85 ty; rw [hD.2.size] at this; exact this)
  clear h hE hR
  have t1 : decide (n < 1) = false := decide_eq_false (by omega)
  have t2 : decide (2147483648 < n) = false := decide_eq_false (by omega)
  generalize sumL L = S at *
  generalize L.length = q at *
  by_cases hm : k ∈ keysL L
  · have h4 : decide (k ∈ keysL L) = true := decide_eq_true hm
    have h5 : 2147483648 < S + n := by
      rcases c2 with c2 | c2
      · exact absurd hm c2.1
      · exact c2
    rw [h4] at l2
    clear c2 hm h4
    have t3 : decide (2147483648 < S + n) = true := decide_eq_true h5
    have t4 : IntKind.i64.wrap (S + n) = S + n := IntWalk.i64_in _ (by omega)
    go_enter Try.func16, Try.ntmps16
    go_wp2_with fail
    go_ret
    exact ⟨rfl, hW.out.1, hW.out.2, rfl⟩
  · have h4 : decide (k ∈ keysL L) = false := decide_eq_false hm
    rw [h4] at l2
    by_cases h6 : 4096 ≤ q
    · clear c2 hm h4
      go_enter Try.func16, Try.ntmps16
      go_wp2_with fail
      go_ret
      exact ⟨rfl, hW.out.1, hW.out.2, rfl⟩
    · have h5 : 2147483648 < S + n := by
        rcases c2 with c2 | c2
        · exact absurd c2.2 h6
        · exact c2
      clear c2 hm h4
      have t3 : decide (2147483648 < S + n) = true := decide_eq_true h5
      have t4 : IntKind.i64.wrap (S + n) = S + n := IntWalk.i64_in _ (by omega)
      go_enter Try.func16, Try.ntmps16
      go_wp2_with fail
      go_ret
      exact ⟨rfl, hW.out.1, hW.out.2, rfl⟩
end Go.Proofs.Ythidjbobjjoekaa
/- The document's Count, its order and its put, over entries in memory. Conditions: those of each theorem. -/
namespace Go.Proofs.Ythidjbobjjoekaa
open Go.RowKit Go.Lib Go.Sort Go.Shelf
set_option linter.unusedVariables false
set_option linter.unusedSimpArgs false
theorem strs_beq (y x : ByteArray) : (y.toList == x.toList) = decide (y = x) := by
  rw [Lib.toList_data, Lib.toList_data]
  by_cases h : y = x
  · subst h; simp
  · rw [decide_eq_false h, beq_eq_false_iff_ne]; exact fun e => h (ba_ext e)
theorem less_iff (x y : ByteArray) : Op.bytesLess x.toList y.toList = true ↔ x.data.toList < y.data.toList := by
  rw [Proofs.bytesLess_eq, Lib.toList_data, Lib.toList_data]; simp
/-- a slice of entries, opened -/
theorem EntsIn.opened {w : World} {v : Value} {L : List Ent} (h : EntsIn w v L) : ∃ p cap, v = .slice p L.length cap ∧
    ∀ j x, L[j]? = some x → ∃ g, p = some ⟨g, 0, none⟩ ∧ g < w.heap.size ∧ w.cell? ⟨g, j * 2, none⟩ = some (.string x.1) ∧ w.cell? ⟨g, j * 2 + 1, none⟩ = some (.int .i64 x.2) := by
  rcases h with ⟨rfl, rfl⟩ | ⟨g, cap, rfl, hg, hat⟩
  · exact ⟨none, 0, rfl, fun j x hx => by simp at hx⟩
  · exact ⟨_, cap, rfl, fun j x hx => ⟨g, rfl, hg, hat j x hx⟩⟩
theorem own_ents {w : World} {b : Nat} {t : TypeId} {v : Value} {out : List Ent} (h : w.ownsRow b t 2 v out.length (flatE out)) : EntsIn w v out := by
  rcases h.2 with ⟨hv, hx⟩ | ⟨g, cap, cur, hv, hbase, hb, k1, k2, k3, k4⟩
  · refine .inl ⟨?_, hv⟩
    cases out with
    | nil => rfl
    | cons x r => simp at hx
  · exact .inr ⟨g, cap, hv, (Array.getElem?_eq_some_iff.1 hb).1, fun k x hx => by
      obtain ⟨e1, e2⟩ := flatE_get out k x hx
      exact ⟨blk_cell hb (take_get k4 e1), blk_cell hb (take_get k4 e2)⟩⟩
theorem countL_drop {L : List Ent} {j : Nat} {x : Ent} (hx : L[j]? = some x) (k : ByteArray) : countL (L.drop j) k = if x.1 = k then x.2 else countL (L.drop (j + 1)) k := by
  have hlt := (List.getElem?_eq_some_iff.1 hx)
  obtain ⟨hlt, he⟩ := hlt
  rw [List.drop_eq_getElem_cons hlt, he]; rfl
set_option maxHeartbeats 1000000 in
theorem rcount_any {w : World} {v : Value} {L : List Ent} (h : EntsIn w v L) (k : ByteArray) (hlen : L.length ≤ 9000) : Calls Try.prog 47 #[v, .string k] w fun e w' => e = .returned (.int .i64 (countL L k)) ∧ w = w' := by
  obtain ⟨p, cap, rfl, hat⟩ := h.opened
  have HA := hid hat
  have hsb := hid (fun y => strs_beq y k)
  clear hat h
  go_enter Try.func47, Try.ntmps47
  go_wp2_with fail
  go_loop [5] (fun i => ∃ j : Nat, j ≤ L.length ∧ i = .int .i64 j ∧ Hid (countL L k = countL (L.drop j) k)) (fun i => L.length - (intOf i).toNat)
  case atStart => exact ⟨0, Nat.zero_le _, rfl, by rw [List.drop_zero]; exact hid rfl⟩
  case round =>
    obtain ⟨j, hj, rfl, hc⟩ := hrel
    by_cases hlt : j < L.length
    · obtain ⟨x, hx⟩ : ∃ x, L[j]? = some x := ⟨_, List.getElem?_eq_getElem hlt⟩
      obtain ⟨g, rfl, hg, q0, q1⟩ := HA.out j x hx
      have hd := hid (countL_drop hx k)
      have hki : (j : Int) < L.length := by omega
      have hb := hsb.out x.1
      clear hx
      by_cases hk : x.1 = k
      · rw [decide_eq_true hk] at hb
        have hR : Hid (x.2 = countL L k) := by rw [hc.out, hd.out, if_pos hk]; exact hid rfl
        clear hk hc hd
        generalize x.2 = X at *
        go_wp2_with fail
        go_ret
        exact ⟨ret_int hR.out, rfl⟩
      · rw [decide_eq_false hk] at hb
        have hR : Hid (countL L k = countL (L.drop (j + 1)) k) := by rw [hc.out, hd.out, if_neg hk]; exact hid rfl
        clear hk hc hd
        go_wp2_with fail
        go_round
        case rel => exact ⟨j + 1, by omega, by go_num, hR⟩
        case measure => simp [intOf]; omega
    · obtain rfl : j = L.length := by omega
      have h0 : Hid (0 = countL L k) := by rw [hc.out, List.drop_length]; exact hid rfl
      clear hc
      go_wp2_with fail
      go_ret
      exact ⟨ret_int h0.out, rfl⟩
set_option maxHeartbeats 1000000 in
theorem before_any (x y : Ent) (w : World) : Calls Try.prog 90 #[.agg #[.string x.1, .int .i64 x.2], .agg #[.string y.1, .int .i64 y.2]] w fun e w' => e = .returned (.bool (decide (ltE x y))) ∧ Below w.heap.size w w' := by
  have hcs : (decide (y.2 < x.2) = true ∧ decide (ltE x y) = true) ∨ (decide (y.2 < x.2) = false ∧ (x.2 == y.2) = false ∧ decide (ltE x y) = false) ∨ (decide (y.2 < x.2) = false ∧ (x.2 == y.2) = true ∧ Op.bytesLess x.1.toList y.1.toList = decide (ltE x y)) := by
    by_cases h1 : y.2 < x.2
    · exact .inl ⟨decide_eq_true h1, decide_eq_true (.inl h1)⟩
    · by_cases h2 : x.2 = y.2
      · refine .inr (.inr ⟨decide_eq_false h1, by rw [beq_iff_eq]; exact h2, ?_⟩)
        have := less_iff x.1 y.1
        by_cases h3 : x.1.data.toList < y.1.data.toList
        · rw [this.2 h3, decide_eq_true (.inr ⟨h2.symm, h3⟩)]
        · rw [decide_eq_false (fun h => h.elim h1 fun h => h3 h.2)]
          exact Bool.eq_false_iff.2 fun h => h3 (this.1 h)
      · refine .inr (.inl ⟨decide_eq_false h1, by rw [beq_eq_false_iff_ne]; exact h2, decide_eq_false fun h => h.elim h1 fun h => h2 h.1.symm⟩)
  obtain ⟨x1, x2⟩ := x
  obtain ⟨y1, y2⟩ := y
  dsimp only at hcs ⊢
  generalize decide (ltE (x1, x2) (y1, y2)) = B at *
  have n0 := cell_new w #[.string x1, .int .i64 x2] 79 w.heap.size 0 rfl (.string x1) rfl
  have n1 := cell_new w #[.string x1, .int .i64 x2] 79 w.heap.size 1 rfl (.int .i64 x2) rfl
  rcases hcs with ⟨t1, rfl⟩ | ⟨t1, t2, rfl⟩ | ⟨t1, t2, t3⟩
  · go_enter Try.func90, Try.ntmps90
    go_wp2_with fail
    go_ret
    exact ⟨rfl, ((Below.refl _ _).alloc (Nat.le_refl _) _).alloc (by simp) _⟩
  · go_enter Try.func90, Try.ntmps90
    go_wp2_with fail
    go_ret
    exact ⟨rfl, ((Below.refl _ _).alloc (Nat.le_refl _) _).alloc (by simp) _⟩
  · go_enter Try.func90, Try.ntmps90
    go_wp2_with fail
    go_ret
    exact ⟨rfl, ((Below.refl _ _).alloc (Nat.le_refl _) _).alloc (by simp) _⟩
end Go.Proofs.Ythidjbobjjoekaa
/- The document's put walked: a word's count, so many more, in order. Conditions: those of each theorem. -/
namespace Go.Proofs.Ythidjbobjjoekaa
open Go.RowKit Go.Lib Go.Sort Go.Shelf
set_option linter.unusedVariables false
set_option linter.unusedSimpArgs false
theorem insE_none {x : Ent} : ∀ {l : List Ent} (r : List Ent), (∀ y ∈ l, ¬ ltE x y) → insE x (l ++ r) = l ++ insE x r
  | [], r, _ => rfl
  | y :: l, r, h => by
    show insE x (y :: (l ++ r)) = y :: (l ++ insE x r)
    rw [← insE_none r fun z hz => h z (List.mem_cons_of_mem _ hz)]
    show (if ltE x y then _ else _) = _
    rw [if_neg (h y (List.mem_cons_self ..))]
theorem insE_some {x : Ent} : ∀ {l : List Ent} (r : List Ent), (∃ y ∈ l, ltE x y) → insE x (l ++ r) = insE x l ++ r
  | [], r, h => by obtain ⟨y, hy, _⟩ := h; simp at hy
  | y :: l, r, h => by
    show insE x (y :: (l ++ r)) = insE x (y :: l) ++ r
    show (if ltE x y then _ else _) = (if ltE x y then _ else _) ++ r
    by_cases hxy : ltE x y
    · rw [if_pos hxy, if_pos hxy]; rfl
    · rw [if_neg hxy, if_neg hxy]
      rw [insE_some r]
      · rfl
      · obtain ⟨z, hz, hlt⟩ := h
        rcases List.mem_cons.1 hz with rfl | hz
        · exact absurd hlt hxy
        · exact ⟨z, hz, hlt⟩
/-- has it been put down already? what is there so far -/
def putT (x : Ent) (l : List Ent) : Bool := l.any fun y => decide (ltE x y)
def putO (x : Ent) (l : List Ent) : List Ent := if putT x l = true then insE x l else l
theorem putT_true {x : Ent} {l : List Ent} (h : putT x l = true) : ∃ y ∈ l, ltE x y := by
  unfold putT at h
  obtain ⟨y, hy, h⟩ := List.any_eq_true.1 h
  exact ⟨y, hy, of_decide_eq_true h⟩
theorem putT_false {x : Ent} {l : List Ent} (h : putT x l = false) : ∀ y ∈ l, ¬ ltE x y := fun y hy hlt => by
  unfold putT at h
  have := List.any_eq_false.1 h y hy
  exact this (decide_eq_true hlt)
theorem putT_snoc (x y : Ent) (l : List Ent) : putT x (l ++ [y]) = (putT x l || decide (ltE x y)) := by unfold putT; simp
theorem put_done {x y : Ent} {l : List Ent} (h : putT x l = true) : putT x (l ++ [y]) = true ∧ putO x (l ++ [y]) = putO x l ++ [y] := by
  have h1 : putT x (l ++ [y]) = true := by rw [putT_snoc, h]; rfl
  refine ⟨h1, ?_⟩
  unfold putO
  rw [if_pos h1, if_pos h]
  exact insE_some [y] (putT_true h)
theorem put_now {x y : Ent} {l : List Ent} (h : putT x l = false) (hlt : ltE x y) : putT x (l ++ [y]) = true ∧ putO x (l ++ [y]) = putO x l ++ [x] ++ [y] := by
  have h1 : putT x (l ++ [y]) = true := by rw [putT_snoc, decide_eq_true hlt, Bool.or_true]
  refine ⟨h1, ?_⟩
  unfold putO
  rw [if_pos h1, if_neg (by rw [h]; decide), insE_none [y] (putT_false h)]
  show l ++ (if ltE x y then _ else _) = _
  rw [if_pos hlt]; simp
theorem put_not {x y : Ent} {l : List Ent} (h : putT x l = false) (hlt : ¬ ltE x y) : putT x (l ++ [y]) = false ∧ putO x (l ++ [y]) = putO x l ++ [y] := by
  have h1 : putT x (l ++ [y]) = false := by rw [putT_snoc, decide_eq_false hlt, h]; rfl
  refine ⟨h1, ?_⟩
  unfold putO
  rw [if_neg (by rw [h1]; decide), if_neg (by rw [h]; decide)]
theorem put_end {x : Ent} {l : List Ent} : (putT x l = true → insE x l = putO x l) ∧ (putT x l = false → insE x l = putO x l ++ [x]) := by
  refine ⟨fun h => by unfold putO; rw [if_pos h], fun h => ?_⟩
  have := insE_none (x := x) [] (putT_false h)
  rw [List.append_nil] at this
  unfold putO
  rw [if_neg (by rw [h]; decide), this]
  rfl
theorem dropL_snoc {L : List Ent} {j : Nat} {y : Ent} (hy : L[j]? = some y) (k : ByteArray) : dropL (L.take (j + 1)) k = if y.1 = k then dropL (L.take j) k else dropL (L.take j) k ++ [y] := by
  rw [take_snoc L j y hy]
  unfold dropL
  rw [List.filter_append]
  by_cases h : y.1 = k
  · rw [if_pos h]; simp [List.filter_cons, h]
  · rw [if_neg h]; simp [List.filter_cons, h]
attribute [local go_sem] Ext.cell Ext.froz
theorem infoR : (Try.prog.info? 79).map (fun i => (i.zero, i.size, i.bytes)) = some (some (.agg #[.string ByteArray.empty, .int .i64 0]), 2, 24) := by
  kernel_rfl
/-- what holds while the list is gone through -/
structure Put (w wr : World) (x : Ent) (l : List Ent) (v : Value) : Prop where
  own : wr.ownsRow (w.heap.size + 1) 79 2 v (putO x l).length (flatE (putO x l))
  low : Below w.heap.size w wr
  blk : Blk wr w.heap.size 79 #[.string x.1, .int .i64 x.2]
/-- one entry more -/
theorem Put.more {w wr w5 : World} {x : Ent} {out : List Ent} {v : Value} (hlow : Below w.heap.size w wr) (hblk : Blk wr w.heap.size 79 #[.string x.1, .int .i64 x.2]) (hown : wr.ownsRow (w.heap.size + 1) 79 2 v out.length (flatE out))
    (y : Ent) (hg : (wr.alloc (.cells #[.string y.1, .int .i64 y.2] 79)).grownBy w5 v.ownBlock) : Below w.heap.size w w5 ∧ Blk w5 w.heap.size 79 #[.string x.1, .int .i64 x.2] :=
  ⟨(hlow.alloc hlow.size _).grown hg (by simp; have := hlow.size; omega) (fun k hk => by have := (hown.lt k hk).1; omega),
   (hblk.alloc _).kept hg (fun e => by have := (hown.lt _ e.symm).1; omega)⟩
set_option maxRecDepth 100000 in
set_option maxHeartbeats 4000000 in
theorem rput_any {w : World} {v : Value} {L : List Ent} (h : EntsIn w v L) (k : ByteArray) (n : Int) (hlen : L.length ≤ 9000) (hb : -4611686018427387904 ≤ countL L k + n ∧ countL L k + n ≤ 4611686018427387904) :
    Calls Try.prog 71 #[v, .string k, .int .i64 n] w fun e w' => ∃ u, e = .returned u ∧ EntsIn w' u (putL L k n) ∧ Below w.heap.size w w' := by
  obtain ⟨i0, hi, hz0, hz1, hz2⟩ := info_parts infoR
  have hC := hid (rcount_any h k hlen)
  obtain ⟨p, cap, rfl, hat⟩ := h.opened
  have HA := hid hat
  have hsb := hid (fun y => strs_beq y k)
  have hPut : Hid (putL L k n = insE (k, countL L k + n) (dropL (L.take L.length) k)) := by rw [List.take_length]; exact hid rfl
  have hDl : Hid (∀ j, (dropL (L.take j) k).length ≤ 9000) := fun j => Nat.le_trans (List.length_filter_le _ _) (by rw [List.length_take]; omega)
  clear hat h
  go_enter Try.func71, Try.ntmps71
  go_wp2_with fail
  with_reducible refine Calls.mono hC.out ?_
  rintro e w' ⟨rfl, rfl⟩
  clear hC
  generalize countL L k = C at *
  have hw : IntKind.i64.wrap (C + n) = C + n := IntWalk.i64_in _ (by omega)
  go_wp2_with fail
  go_loopw [7, 9, 10] (fun o t i wr => ∃ j : Nat, j ≤ L.length ∧ i = .int .i64 j ∧ t = .bool (putT (k, C + n) (dropL (L.take j) k)) ∧ Put w wr (k, C + n) (dropL (L.take j) k) o) (fun _ _ i _ => L.length - (intOf i).toNat)
  case atStart => exact ⟨0, Nat.zero_le _, rfl, rfl, World.ownsRow_nil _ _ _ _, (Below.refl _ _).alloc (Nat.le_refl _) _, Blk.new _ _ _⟩
  case round =>
    obtain ⟨j, hj, rfl, rfl, hP⟩ := hrel
    have hO := hid hP.own
    have hLw := hid hP.low
    have hBk := hid hP.blk
    have hDj := hDl.out j
    have hol : (putO (k, C + n) (dropL (L.take j) k)).length ≤ 9001 := by
      unfold putO
      split
      · rw [(insE_perm _ _).length_eq]; simp only [List.length_cons]; omega
      · omega
    clear hP
    by_cases hlt : j < L.length
    · obtain ⟨y, hy⟩ : ∃ y, L[j]? = some y := ⟨_, List.getElem?_eq_getElem hlt⟩
      obtain ⟨g, rfl, hg, q0, q1⟩ := HA.out j y hy
      have hd := hid (dropL_snoc hy k)
      have hki : (j : Int) < L.length := by omega
      have hbq := hsb.out y.1
      have e := hLw.out.block g hg
      have W0 := hid q0
      have W1 := hid q1
      replace q0 := (World.cell?_of_block (a := ⟨g, j * 2, none⟩) e).trans q0
      replace q1 := (World.cell?_of_block (a := ⟨g, j * 2 + 1, none⟩) e).trans q1
      have x0 := hBk.out.cell (k := 0) (v := .string k) rfl
      have x1 := hBk.out.cell (k := 1) (v := .int .i64 (C + n)) rfl
      clear hy e
      by_cases hk : y.1 = k
      · rw [decide_eq_true hk] at hbq
        rw [if_pos hk] at hd
        clear hk
        go_wp2_with fail
        go_roundw
        case rel => exact ⟨j + 1, by omega, by go_num, by rw [hd.out], by rw [hd.out]; exact ⟨hO.out, hLw.out, hBk.out⟩⟩
        case measure => simp [intOf]; omega
      · rw [decide_eq_false hk] at hbq
        rw [if_neg hk] at hd
        clear hk
        generalize hOut : putO (k, C + n) (dropL (L.take j) k) = out at *
        have hOu := hid hOut
        clear hOut
        cases hT : putT (k, C + n) (dropL (L.take j) k)
        · -- not yet put down
          have hB := hid (before_any (k, C + n) y)
          by_cases hlt2 : ltE (k, C + n) y
          · -- here
            obtain ⟨hT1, hO1⟩ := put_now hT hlt2
            replace hT1 := hid hT1
            replace hO1 := hid hO1
            rw [hOu.out] at hO1
            rw [decide_eq_true hlt2] at hB
            clear hT hlt2
            go_wp2_with fail
            refine ext_allB (by kernel_rfl) (by kernel_rfl) ?_
            repeat (refine bq_step (fun K hK => ?_); go_simp; first | (refine ⟨hK _ ?_⟩; clear hK K) | (refine ⟨?_⟩; apply Exists.intro; refine ⟨fun x => ?_, hK _ ?_⟩; (with_reducible exact Ext.call (hB.out _)); clear hK K))
            refine bq_nil ?_
            rintro _ ⟨z, rfl⟩
            have hg0 : wr.grownBy z.w none := grownNone z.h
            have hO2 := hid (hO.out.kept hg0 (Classical.em _))
            have hL2 := hid (hLw.out.trans (z.h.mono hLw.out.size))
            have hB2 := hid (hBk.out.low z.h)
            have hx0 := hB2.out.cell (k := 0) (v := .string k) rfl
            have hx1 := hB2.out.cell (k := 1) (v := .int .i64 (C + n)) rfl
            have gz : g < wr.heap.size := by have := hLw.out.size; omega
            have Q0 := hid ((World.cell?_of_block (a := ⟨g, j * 2, none⟩) (z.h.block g gz)).trans q0)
            have Q1 := hid ((World.cell?_of_block (a := ⟨g, j * 2 + 1, none⟩) (z.h.block g gz)).trans q1)
            have sz := z.h.size
            have sB := hB2.out.lt
            clear hg0 hO hLw hBk q0 q1 gz x0 x1
            generalize z.w = wq at *
            go_wp2_with (first | (at_builtin; refine wpList_append_own _ rfl (.tmp 41) (.tmp 43) 62 rfl (w.heap.size + 1) 79 i0 _ 2 24 Try.underlying62 hi hz0 hz1 hz2 rfl (by decide) _ _ _ rfl (hO2.out.alloc _) ⟨wq.heap.size, 0, none⟩ 1 1 [.string k, .int .i64 (C + n)] rfl rfl (cells_new2 _ _ _ _) (by simp [Value.oneCell']) (by unfold maxLen; omega) (by omega) (by simp; omega) ?_; refine stop_here ?_) | fail)
            refine hid ?_
            intro v' w5 hown' hgrow hnil
            obtain ⟨l5, b5⟩ := Put.more (x := (k, C + n)) hL2.out hB2.out hO2.out (k, C + n) hgrow
            have hO5 : Hid (w5.ownsRow (w.heap.size + 1) 79 2 v' (out ++ [(k, C + n)]).length (flatE (out ++ [(k, C + n)]))) := by rw [flatE_snoc, List.length_append]; exact hid hown'
            have HL5 := hid l5
            have HB5 := hid b5
            have s5 : w5.heap.size ≥ wq.heap.size := by have := hgrow.size; simp at this; omega
            have e5 := l5.block g hg
            replace q0 := hid ((World.cell?_of_block (a := ⟨g, j * 2, none⟩) e5).trans W0.out)
            replace q1 := hid ((World.cell?_of_block (a := ⟨g, j * 2 + 1, none⟩) e5).trans W1.out)
            clear hown' hgrow hnil l5 b5 e5 hx0 hx1 hO2 hL2 hB2 Q0 Q1
            have q0' := q0.out
            have q1' := q1.out
            have hol2 : (out ++ [(k, C + n)]).length ≤ 9002 := by simp; omega
            generalize hO6 : out ++ [(k, C + n)] = out2 at *
            replace hO6 := hid hO6
            go_wp2_with (first | (at_builtin; refine wpList_append_own _ rfl (.tmp 45) (.tmp 50) 62 rfl (w.heap.size + 1) 79 i0 _ 2 24 Try.underlying62 hi hz0 hz1 hz2 rfl (by decide) _ _ _ rfl (hO5.out.alloc _) ⟨w5.heap.size, 0, none⟩ 1 1 [.string y.1, .int .i64 y.2] rfl rfl (cells_new2 _ _ _ _) (by simp [Value.oneCell']) (by unfold maxLen; omega) (by omega) (by simp; omega) ?_; refine stop_here ?_) | fail)
            refine hid ?_
            intro v6 w6 hown' hgrow hnil
            obtain ⟨l5, b5⟩ := Put.more (x := (k, C + n)) HL5.out HB5.out hO5.out y hgrow
            have hO7 : Hid (w6.ownsRow (w.heap.size + 1) 79 2 v6 (out2 ++ [y]).length (flatE (out2 ++ [y]))) := by rw [flatE_snoc, List.length_append]; exact hid hown'
            have HL6 := hid l5
            have HB6 := hid b5
            clear hown' hgrow hnil l5 b5 q0' q1'
            go_wp2_with fail
            go_roundw
            case rel => exact ⟨j + 1, by omega, by go_num, by rw [hd.out, hT1.out], by rw [hd.out]; exact ⟨by rw [hO1.out]; exact hO7.out, HL6.out, HB6.out⟩⟩
            case measure => simp [intOf]; omega
          · -- not here
            obtain ⟨hT1, hO1⟩ := put_not hT hlt2
            replace hT1 := hid hT1
            replace hO1 := hid hO1
            rw [hOu.out] at hO1
            rw [decide_eq_false hlt2] at hB
            clear hT hlt2
            go_wp2_with fail
            refine ext_allB (by kernel_rfl) (by kernel_rfl) ?_
            repeat (refine bq_step (fun K hK => ?_); go_simp; first | (refine ⟨hK _ ?_⟩; clear hK K) | (refine ⟨?_⟩; apply Exists.intro; refine ⟨fun x => ?_, hK _ ?_⟩; (with_reducible exact Ext.call (hB.out _)); clear hK K))
            refine bq_nil ?_
            rintro _ ⟨z, rfl⟩
            have hg0 : wr.grownBy z.w none := grownNone z.h
            have hO2 := hid (hO.out.kept hg0 (Classical.em _))
            have hL2 := hid (hLw.out.trans (z.h.mono hLw.out.size))
            have hB2 := hid (hBk.out.low z.h)
            have hx0 := hB2.out.cell (k := 0) (v := .string k) rfl
            have hx1 := hB2.out.cell (k := 1) (v := .int .i64 (C + n)) rfl
            have gz : g < wr.heap.size := by have := hLw.out.size; omega
            have Q0 := hid ((World.cell?_of_block (a := ⟨g, j * 2, none⟩) (z.h.block g gz)).trans q0)
            have Q1 := hid ((World.cell?_of_block (a := ⟨g, j * 2 + 1, none⟩) (z.h.block g gz)).trans q1)
            have sz := z.h.size
            have sB := hB2.out.lt
            clear hg0 hO hLw hBk q0 q1 gz x0 x1
            generalize z.w = wq at *
            have q0' := Q0.out
            have q1' := Q1.out
            go_wp2_with (first | (at_builtin; refine wpList_append_own _ rfl (.tmp 45) (.tmp 50) 62 rfl (w.heap.size + 1) 79 i0 _ 2 24 Try.underlying62 hi hz0 hz1 hz2 rfl (by decide) _ _ _ rfl (hO2.out.alloc _) ⟨wq.heap.size, 0, none⟩ 1 1 [.string y.1, .int .i64 y.2] rfl rfl (cells_new2 _ _ _ _) (by simp [Value.oneCell']) (by unfold maxLen; omega) (by omega) (by simp; omega) ?_; refine stop_here ?_) | fail)
            refine hid ?_
            intro v6 w6 hown' hgrow hnil
            obtain ⟨l5, b5⟩ := Put.more (x := (k, C + n)) hL2.out hB2.out hO2.out y hgrow
            have hO7 : Hid (w6.ownsRow (w.heap.size + 1) 79 2 v6 (out ++ [y]).length (flatE (out ++ [y]))) := by rw [flatE_snoc, List.length_append]; exact hid hown'
            have HL6 := hid l5
            have HB6 := hid b5
            clear hown' hgrow hnil l5 b5 q0' q1' hO2 hL2 hB2 hx0 hx1
            go_wp2_with fail
            go_roundw
            case rel => exact ⟨j + 1, by omega, by go_num, by rw [hd.out, hT1.out], by rw [hd.out]; exact ⟨by rw [hO1.out]; exact hO7.out, HL6.out, HB6.out⟩⟩
            case measure => simp [intOf]; omega
        · -- put down already
          obtain ⟨hT1, hO1⟩ := put_done (y := y) hT
          replace hT1 := hid hT1
          replace hO1 := hid hO1
          rw [hOu.out] at hO1
          clear hT
          go_wp2_with fail
          refine ext_allB (by kernel_rfl) (by kernel_rfl) ?_
          repeat (refine bq_step (fun K hK => ?_); go_simp; refine ⟨hK _ ?_⟩; clear hK K)
          refine bq_nil ?_
          rintro _ ⟨z, rfl⟩
          have hg0 : wr.grownBy z.w none := grownNone z.h
          have hO2 := hid (hO.out.kept hg0 (Classical.em _))
          have hL2 := hid (hLw.out.trans (z.h.mono hLw.out.size))
          have hB2 := hid (hBk.out.low z.h)
          have hx0 := hB2.out.cell (k := 0) (v := .string k) rfl
          have hx1 := hB2.out.cell (k := 1) (v := .int .i64 (C + n)) rfl
          have gz : g < wr.heap.size := by have := hLw.out.size; omega
          have Q0 := hid ((World.cell?_of_block (a := ⟨g, j * 2, none⟩) (z.h.block g gz)).trans q0)
          have Q1 := hid ((World.cell?_of_block (a := ⟨g, j * 2 + 1, none⟩) (z.h.block g gz)).trans q1)
          have sz := z.h.size
          have sB := hB2.out.lt
          clear hg0 hO hLw hBk q0 q1 gz x0 x1
          generalize z.w = wq at *
          have q0' := Q0.out
          have q1' := Q1.out
          go_wp2_with (first | (at_builtin; refine wpList_append_own _ rfl (.tmp 45) (.tmp 50) 62 rfl (w.heap.size + 1) 79 i0 _ 2 24 Try.underlying62 hi hz0 hz1 hz2 rfl (by decide) _ _ _ rfl (hO2.out.alloc _) ⟨wq.heap.size, 0, none⟩ 1 1 [.string y.1, .int .i64 y.2] rfl rfl (cells_new2 _ _ _ _) (by simp [Value.oneCell']) (by unfold maxLen; omega) (by omega) (by simp; omega) ?_; refine stop_here ?_) | fail)
          refine hid ?_
          intro v6 w6 hown' hgrow hnil
          obtain ⟨l5, b5⟩ := Put.more (x := (k, C + n)) hL2.out hB2.out hO2.out y hgrow
          have hO7 : Hid (w6.ownsRow (w.heap.size + 1) 79 2 v6 (out ++ [y]).length (flatE (out ++ [y]))) := by rw [flatE_snoc, List.length_append]; exact hid hown'
          have HL6 := hid l5
          have HB6 := hid b5
          clear hown' hgrow hnil l5 b5 q0' q1' hO2 hL2 hB2 hx0 hx1
          go_wp2_with fail
          go_roundw
          case rel => exact ⟨j + 1, by omega, by go_num, by rw [hd.out, hT1.out], by rw [hd.out]; exact ⟨by rw [hO1.out]; exact hO7.out, HL6.out, HB6.out⟩⟩
          case measure => simp [intOf]; omega
    · obtain rfl : j = L.length := by omega
      obtain ⟨e1, e2⟩ := put_end (x := (k, C + n)) (l := dropL (L.take L.length) k)
      have x0 := hBk.out.cell (k := 0) (v := .string k) rfl
      have x1 := hBk.out.cell (k := 1) (v := .int .i64 (C + n)) rfl
      have sB := hBk.out.lt
      generalize hOut : putO (k, C + n) (dropL (L.take L.length) k) = out at *
      cases hT : putT (k, C + n) (dropL (L.take L.length) k)
      · have hR : Hid (putL L k n = out ++ [(k, C + n)]) := by rw [hPut.out, e2 hT]; exact hid rfl
        clear e1 e2 hT hOut hPut
        go_wp2_with (first | (at_builtin; refine wpList_append_own _ rfl (.tmp 54) (.tmp 56) 62 rfl (w.heap.size + 1) 79 i0 _ 2 24 Try.underlying62 hi hz0 hz1 hz2 rfl (by decide) _ _ _ rfl (hO.out.alloc _) ⟨wr.heap.size, 0, none⟩ 1 1 [.string k, .int .i64 (C + n)] rfl rfl (cells_new2 _ _ _ _) (by simp [Value.oneCell']) (by unfold maxLen; omega) (by omega) (by simp; omega) ?_; refine stop_here ?_) | fail)
        refine hid ?_
        intro v6 w6 hown' hgrow hnil
        obtain ⟨l5, b5⟩ := Put.more (x := (k, C + n)) hLw.out hBk.out hO.out (k, C + n) hgrow
        have hO7 : Hid (w6.ownsRow (w.heap.size + 1) 79 2 v6 (out ++ [(k, C + n)]).length (flatE (out ++ [(k, C + n)]))) := by rw [flatE_snoc, List.length_append]; exact hid hown'
        have HL6 := hid l5
        clear hown' hgrow hnil l5 b5
        go_wp2_with fail
        go_ret
        exact ⟨_, rfl, by rw [hR.out]; exact own_ents hO7.out, HL6.out⟩
      · have hR : Hid (putL L k n = out) := by rw [hPut.out, e1 hT]; exact hid rfl
        clear e1 e2 hT hOut hPut
        go_wp2_with fail
        go_ret
        exact ⟨_, rfl, by rw [hR.out]; exact own_ents hO.out, hLw.out⟩
end Go.Proofs.Ythidjbobjjoekaa
/- The document's Add and Merge walked: they answer as the program's, and what they hand back are the same entries. Conditions: those of each theorem. -/
namespace Go.Proofs.Ythidjbobjjoekaa
open Go.RowKit Go.Lib Go.Sort Go.Shelf
set_option linter.unusedVariables false
set_option linter.unusedSimpArgs false
set_option maxRecDepth 100000 in
set_option maxHeartbeats 2000000 in
theorem radd_any {w : World} {v : Value} {L : List Ent} (h : EntsIn w v L) (hE : Ents L) (hnd : (keysL L).Nodup) (k : ByteArray) (n : Int) :
    Calls Try.prog 37 #[v, .string k, .int .i64 n] w fun e w' => ∃ u, e = .returned (.tuple #[u, .int .i64 (addE L k n)]) ∧ EntsIn w' u (addR L k n) ∧ Below w.heap.size w w' := by
  have hC := hid (rcount_any h k (by have := hE.len; omega))
  have hT := hid (rtotal_any h hE)
  have hP := hid (fun (hn : 1 ≤ n ∧ n ≤ 2147483648) => rput_any h k n (by have := hE.len; omega) (by have := (countL_le k hE.pos); have := hE.tot; omega))
  have hmem := mem_keys_pos hnd hE.pos k
  have hc0 := (countL_le k hE.pos).1
  have hc1 := (countL_le k hE.pos).2
  have hs0 := sumL_pos hE.pos
  have hst := hE.tot
  have hlen := hE.len
  have HV := hid h
  obtain ⟨p, cap, rfl, hat⟩ := h.opened
  clear hat h hE
  by_cases c1 : n < 1 ∨ 2147483648 < n
  · have hA : addE L k n = 2 := if_pos c1
    have hR : addR L k n = L := by unfold addR; rw [hA]; rfl
    rw [hA, hR]
    clear hA hR hP
    rcases c1 with c1 | c1
    · have t1 : decide (n < 1) = true := decide_eq_true c1
      go_enter Try.func37, Try.ntmps37
      go_wp2_with fail
      go_ret2
      exact ⟨_, rfl, HV.out, Below.refl _ _⟩
    · have t1 : decide (n < 1) = false := decide_eq_false (by omega)
      have t2 : decide (2147483648 < n) = true := decide_eq_true c1
      go_enter Try.func37, Try.ntmps37
      go_wp2_with fail
      go_ret2
      exact ⟨_, rfl, HV.out, Below.refl _ _⟩
  have t1 : decide (n < 1) = false := decide_eq_false (by omega)
  have t2 : decide (2147483648 < n) = false := decide_eq_false (by omega)
  by_cases c2 : k ∉ keysL L ∧ 4096 ≤ L.length
  · have hA : addE L k n = 3 := by unfold addE; rw [if_neg c1, if_pos (.inl c2)]
    have hR : addR L k n = L := by unfold addR; rw [hA]; rfl
    rw [hA, hR]
    have z : countL L k = 0 := by
      have := c2.1
      rw [hmem] at this
      omega
    have t3 : decide ((4096 : Int) ≤ (L.length : Int)) = true := decide_eq_true (by omega)
    have t3' : decide (4096 ≤ L.length) = true := decide_eq_true (by omega)
    rw [z] at hC
    clear hA hR hP z c2 hc0 hc1
    generalize L.length = q at *
    go_enter Try.func37, Try.ntmps37
    go_wp2_with fail
    with_reducible refine Calls.mono hC.out ?_
    rintro e w' ⟨rfl, rfl⟩
    go_wp2_with fail
    go_ret2
    exact ⟨_, rfl, HV.out, Below.refl _ _⟩
  have hz : (countL L k == 0) = true ∧ decide ((4096 : Int) ≤ (L.length : Int)) = false ∧ decide (4096 ≤ L.length) = false ∨ (countL L k == 0) = false := by
    by_cases hk : k ∈ keysL L
    · rw [hmem] at hk
      exact .inr (by rw [beq_eq_false_iff_ne]; omega)
    · have h4 : ¬ 4096 ≤ L.length := fun h => c2 ⟨hk, h⟩
      refine .inl ⟨?_, decide_eq_false (by omega), decide_eq_false h4⟩
      rw [hmem] at hk
      rw [beq_iff_eq]; omega
  have hres : (2147483648 < sumL L + n ∧ addE L k n = 3 ∧ addR L k n = L) ∨ (¬ 2147483648 < sumL L + n ∧ addE L k n = 0 ∧ addR L k n = putL L k n) := by
    by_cases h3 : 2147483648 < sumL L + n
    · have hA : addE L k n = 3 := by unfold addE; rw [if_neg c1, if_pos (.inr h3)]
      exact .inl ⟨h3, hA, by unfold addR; rw [hA]; rfl⟩
    · have hA : addE L k n = 0 := by unfold addE; rw [if_neg c1, if_neg (by rintro (h | h); exact c2 h; exact h3 h)]
      exact .inr ⟨h3, hA, by unfold addR; rw [hA]; rfl⟩
  have hPp := hid (hP.out (by omega))
  have hz' := hid hz
  have hres' := hid hres
  clear hP hz hres c2 hmem
  generalize addE L k n = A at *
  generalize addR L k n = R at *
  generalize putL L k n = U at *
  generalize hc : countL L k = c at *
  generalize L.length = q at *
  generalize sumL L = S at *
  clear hc
  have hw : IntKind.i64.wrap (S + n) = S + n := IntWalk.i64_in _ (by omega)
  rcases hz'.out with ⟨z1, z2, z3⟩ | z1
  all_goals
    clear hz'
    rcases hres'.out with ⟨r1, rfl, rfl⟩ | ⟨r1, rfl, rfl⟩
    all_goals
      clear hres'
      first | (have t5 : decide (2147483648 < S + n) = true := decide_eq_true r1) | (have t5 : decide (2147483648 < S + n) = false := decide_eq_false r1)
      clear r1
      go_enter Try.func37, Try.ntmps37
      go_wp2_with fail
      with_reducible refine Calls.mono hC.out ?_
      rintro e w' ⟨rfl, rfl⟩
      go_wp2_with fail
      with_reducible refine Calls.mono hT.out ?_
      rintro e w' ⟨rfl, rfl⟩
      go_wp2_with fail
      first
        | (with_reducible refine Calls.mono hPp.out ?_
           rintro e w' ⟨u, rfl, hu, hb⟩
           have hu2 := hid hu
           have hb2 := hid hb
           clear hu hb
           go_wp2_with fail
           go_ret2
           exact ⟨_, rfl, hu2.out, hb2.out⟩)
        | (go_ret2
           exact ⟨_, rfl, HV.out, Below.refl _ _⟩)
set_option maxRecDepth 100000 in
set_option maxHeartbeats 2000000 in
theorem rmerge_any {w : World} {v u : Value} {L M : List Ent} (h : EntsIn w v L) (g : EntsIn w u M) (hE : Ents L) (hF : Ents M) (hn : (keysL L).Nodup) :
    Calls Try.prog 38 #[v, u] w fun e w' => ∃ o, e = .returned (.tuple #[o, .int .i64 (mergeE L M)]) ∧ EntsIn w' o (mergeR L M) ∧ Below w.heap.size w w' := by
  have hT1 := hid (rtotal_any h hE)
  have hT2 := hid (rtotal_any g hF)
  have hE3 := hid (show 4096 < (foldP L M).length ∨ 2147483648 < sumL L + sumL M → mergeE L M = 3 ∧ mergeR L M = L from fun h => by
    have h1 : mergeE L M = 3 := if_pos h
    exact ⟨h1, by unfold mergeR; rw [h1]; rfl⟩)
  have hE0 := hid (show (foldP L M).length ≤ 4096 → sumL L + sumL M ≤ 2147483648 → mergeE L M = 0 ∧ mergeR L M = foldP L M from fun h k => by
    have h1 : mergeE L M = 0 := if_neg (by omega)
    exact ⟨h1, by unfold mergeR; rw [h1]; rfl⟩)
  have hLn := hid (fun j => foldP_len hn (M.take j))
  have hPos := hid (fun j => foldP_pos hE.pos (M.take j) fun x hx => hF.pos x (List.mem_of_mem_take hx))
  have hSm := hid (fun j => foldP_sum hn (M.take j))
  have hSt := hid (fun j => sumL_take M hF.pos j)
  have hFp := hid (fun j (x : Ent) (hx : M[j]? = some x) => hF.pos x (List.mem_of_getElem? hx))
  have hFs := hid (fun j (x : Ent) (hx : M[j]? = some x) => (show foldP L (M.take (j + 1)) = putL (foldP L (M.take j)) x.1 x.2 by rw [take_snoc M j x hx, foldP_snoc]))
  have hFl : Hid (foldP L (M.take M.length) = foldP L M) := by rw [List.take_length]; exact hid rfl
  have hl := hE.len
  have hl' := hF.len
  have ht := hE.tot
  have ht' := hF.tot
  have hp := sumL_pos hE.pos
  have hp' := sumL_pos hF.pos
  have HV := hid h
  have hU := hid g
  obtain ⟨p, cap, rfl, hat⟩ := h.opened
  obtain ⟨p2, cap2, rfl, hat2⟩ := g.opened
  have HA := hid hat2
  clear hat hat2 h g hE hF
  generalize mergeE L M = mE at *
  generalize mergeR L M = mR at *
  generalize hS : sumL L = S at *
  generalize hS' : sumL M = S' at *
  replace hS := hid hS
  replace hS' := hid hS'
  have hw : IntKind.i64.wrap (S + S') = S + S' := IntWalk.i64_in _ (by omega)
  by_cases c1 : 2147483648 < S + S'
  · obtain ⟨r1, r2⟩ := hE3.out (.inr c1)
    replace r1 := r1.symm
    replace r2 := r2.symm
    subst r1 r2
    have t5 : decide (2147483648 < S + S') = true := decide_eq_true c1
    clear c1 hE3 hE0
    go_enter Try.func38, Try.ntmps38
    go_wp2_with fail
    with_reducible refine Calls.mono hT1.out ?_
    rintro e w' ⟨rfl, rfl⟩
    go_wp2_with fail
    with_reducible refine Calls.mono hT2.out ?_
    rintro e w' ⟨rfl, rfl⟩
    go_wp2_with fail
    go_ret2
    exact ⟨_, rfl, HV.out, Below.refl _ _⟩
  have t5 : decide (2147483648 < S + S') = false := decide_eq_false c1
  go_enter Try.func38, Try.ntmps38
  go_wp2_with fail
  with_reducible refine Calls.mono hT1.out ?_
  rintro e w' ⟨rfl, rfl⟩
  go_wp2_with fail
  with_reducible refine Calls.mono hT2.out ?_
  rintro e w' ⟨rfl, rfl⟩
  clear hT1 hT2
  go_wp2_with fail
  clear t5
  go_loopw [6, 7] (fun o i wr => ∃ j : Nat, j ≤ M.length ∧ i = .int .i64 j ∧ Hid (EntsIn wr o (foldP L (M.take j))) ∧ Hid (Below w.heap.size w wr)) (fun _ i _ => M.length - (intOf i).toNat)
  case atStart => exact ⟨0, Nat.zero_le _, rfl, HV, hid (Below.refl _ _)⟩
  case round =>
    obtain ⟨j, hj, rfl, hO, hB⟩ := hrel
    by_cases hlt : j < M.length
    · obtain ⟨x, hx⟩ : ∃ x, M[j]? = some x := ⟨_, List.getElem?_eq_getElem hlt⟩
      obtain ⟨gg, rfl, hg, q0, q1⟩ := HA.out j x hx
      have e := hB.out.block gg hg
      replace q0 := (World.cell?_of_block (a := ⟨gg, j * 2, none⟩) e).trans q0
      replace q1 := (World.cell?_of_block (a := ⟨gg, j * 2 + 1, none⟩) e).trans q1
      have hki : (j : Int) < M.length := by omega
      have hst := hid (hFs.out j x hx)
      have hx0 := hFp.out j x hx
      have b1 := hSm.out j
      have b2 := hLn.out j
      have b3 := countL_le x.1 (hPos.out j)
      have b4 := hSt.out j
      have b5 : x.2 ≤ S' := by
        have h1 := hSt.out (j + 1)
        rw [take_snoc M j x hx, sumL_app] at h1
        omega
      have h0 := hS.out
      have b6 : (M.take j).length ≤ M.length := List.length_take_le' ..
      have hPut := hid (fun q => rput_any (hO.out.low (show Below wr.heap.size wr (wr.drewN q) from ⟨rfl, rfl, rfl, Nat.le_refl _, fun _ _ => rfl⟩)) x.1 x.2 (by omega) (by omega))
      clear b1 b2 b3 b4 b5 b6 hx e h0
      go_wp2_with fail
      refine region_callB 11 12 _ (by kernel_rfl) (by kernel_rfl) rfl ?_
      simp only [List.take_succ_cons, List.take_zero, List.drop_succ_cons, List.drop_zero]
      repeat (refine bq_step (fun K hK => ?_); go_simp; refine ⟨hK _ ?_⟩; clear hK K)
      refine bq_nil ?_
      rintro _ ⟨q, rfl⟩
      go_wp2_with fail
      with_reducible refine Calls.mono (hPut.out _) ?_
      rintro e w7 ⟨o2, rfl, ho2, hb2⟩
      have HO := hid ho2
      have HB : Hid (Below w.heap.size w w7) := hid (hB.out.trans ((show Below wr.heap.size wr (wr.drewN q) from ⟨rfl, rfl, rfl, Nat.le_refl _, fun _ _ => rfl⟩).trans hb2 |>.mono hB.out.size))
      clear ho2 hb2 hPut hO hB q0 q1
      go_wp2_with fail
      refine Later.draws ?_
      simp only [List.take_succ_cons, List.take_zero, List.drop_succ_cons, List.drop_zero]
      refine bq_nil ?_
      rintro _ ⟨q2, rfl⟩
      go_wp2_with fail
      go_roundw
      case rel => exact ⟨j + 1, by omega, by go_num, by rw [hst.out]; exact hid (HO.out.low ⟨rfl, rfl, rfl, Nat.le_refl _, fun _ _ => rfl⟩), hid (HB.out.trans ⟨rfl, rfl, rfl, Nat.le_refl _, fun _ _ => rfl⟩)⟩
      case measure => simp [intOf]; omega
    · obtain rfl : j = M.length := by omega
      rw [hFl.out] at hO
      obtain ⟨p3, cap3, rfl, -⟩ := hO.out.opened
      by_cases c2 : 4096 < (foldP L M).length
      · obtain ⟨r1, r2⟩ := hE3.out (.inl c2)
        replace r1 := r1.symm
        replace r2 := r2.symm
        subst r1 r2
        have t6 : decide ((4096 : Int) < ((foldP L M).length : Int)) = true := decide_eq_true (by omega)
        have t7 : decide (4096 < (foldP L M).length) = true := decide_eq_true c2
        clear hE3 hE0 c2 hO
        generalize (foldP L M).length = z at *
        go_wp2_with fail
        go_ret2
        exact ⟨_, rfl, HV.out.low hB.out, hB.out⟩
      · obtain ⟨r1, r2⟩ := hE0.out (by omega) (by omega)
        replace r1 := r1.symm
        replace r2 := r2.symm
        subst r1 r2
        have t6 : decide ((4096 : Int) < ((foldP L M).length : Int)) = false := decide_eq_false (by omega)
        have t7 : decide (4096 < (foldP L M).length) = false := decide_eq_false c2
        clear hE3 hE0 c2
        go_wp2_with fail
        go_ret2
        exact ⟨_, rfl, hO.out, hB.out⟩
end Go.Proofs.Ythidjbobjjoekaa
