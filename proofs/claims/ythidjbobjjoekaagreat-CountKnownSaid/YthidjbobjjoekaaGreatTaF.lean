/- (*Tally).entries walked. Conditions: none beyond the tally's own. -/
import Derived.Test.YthidjbobjjoekaaGreatTaE
import Derived.OwnWalk
namespace Go.Proofs.YthidjbobjjoekaaGreat
open Go.RowKit Go.Lib Go.Sort Go.Shelf
set_option linter.unusedVariables false
set_option linter.unusedSimpArgs false
theorem entries_nil (w : World) : Calls Tryz.prog 41 #[.pointer none] w fun e w' => e = .returned (.slice none 0 0) ∧ w = w' := by
  go_enter Tryz.func41, Tryz.ntmps41
  go_wp2
  go_ret
  exact ⟨rfl, rfl⟩
theorem take_get {cur : Array Value} {xs : List Value} {n j : Nat} {u : Value} (h : cur.toList.take n = xs) (hj : xs[j]? = some u) : cur[j]? = some u := by
  rw [← h, List.getElem?_take] at hj
  split at hj
  · rw [← Array.getElem?_toList]; exact hj
  · cases hj
theorem slice_eq {p : Option Addr} {n n' c : Nat} (h : n = n') : Value.slice p n c = Value.slice p n' c := by rw [h]
theorem keyS_is {x : ByteArray} {kl : Lit} (h : keyOf Tryz.prog 9 (.string x) = some kl) : kl = keyL x ∧ x.size ≤ maxLen := by
  simp [keyOf, Tryz.underlying9, mapKey] at h
  obtain ⟨h1, h2⟩ := h
  exact ⟨h2.symm, h1⟩
/-- what holds while the map is gone through -/
structure Col (w wr : World) (m r : Nat) (D : Dt) (L out : List Ent) (left : Lit → Bool) (cnt : Nat) (v : Value) : Prop where
  rg : wr.ranges Tryz.prog 9 (plainElem Tryz.prog 3) m r (Maps.size D) D left cnt
  own : wr.ownsRow (r + 1) 75 2 v out.length (flatE out)
  got : Got D left out
  low : Below w.heap.size w wr
  cnt : out.length + cnt ≤ L.length
  nil : out = [] → v = .slice none 0 0
set_option maxRecDepth 100000 in
set_option maxHeartbeats 2000000 in
theorem entries_any {w : World} {b m : Nat} {L : List Ent} (h : Tal w b m L) :
    Calls Tryz.prog 41 #[.pointer (some ⟨b, 0, none⟩)] w fun e w' => ∃ v, e = .returned v ∧ EntsBack w L v w' := by
  obtain ⟨i0, hi, hz0, hz1, hz2⟩ := info_parts infoE
  obtain ⟨D, hm, ht⟩ := h.hm
  have c0 := h.hb.cell (k := 0) rfl
  have hlen := h.he.len
  have hsrt := hid h.he.srt
  have hml := h.mlt
  have hTl := hid ht
  have hsz := hid ht.size
  clear h ht
  go_enter Tryz.func41, Tryz.ntmps41
  go_wp2_with (first | (at_range; refine wpList_range_own _ rfl _ 68 rfl 9 3 kS Tryz.underlying68 _ m (Maps.size D) _ rfl hm ?_; intro w0 hrg0 hg0 hs0) | fail)
  go_frame
  go_loopw [3] (fun v wr => ∃ out left cnt, Col w wr m w.heap.size D L out left cnt v) (fun _ wr => wr.rangeLeft m w.heap.size)
  case atStart => exact ⟨[], _, _, hrg0, World.ownsRow_nil _ _ _ _, Got.start D, ⟨hg0.os, hg0.tape, hg0.output, hg0.size, fun k hk => hg0.block k hk (by simp)⟩, by rw [hsz.out]; simp, fun _ => rfl⟩
  case round =>
    obtain ⟨out, left, cnt, hC⟩ := hrel
    have hrg := hC.rg
    have HC := hid hC
    clear hC
    go_wp2_with (first | (at_next; refine wpList_next_ranges _ rfl _ rfl 9 kS (plainElem Tryz.prog 3) Value.string (Value.int .i64) keyS_inv elem_inv m w.heap.size (Maps.size D) _ _ _ rfl hrg ?_ ?_) | fail)
    · intro hcn0 hl0
      have hp := HC.out.got.done hl0 hTl.out
      have hplen := hid hp.length_eq
      rcases HC.out.own.2 with ⟨hv, hx⟩ | ⟨g, cap, cur, hv, hbase, hb, k1, k2, k3, k4⟩
      · have ho : out = [] := by
          cases out with
          | nil => rfl
          | cons x r => simp [flatE, encE] at hx
        have hLn : Hid (L = []) := by
          rw [ho] at hp
          exact List.nil_perm.1 hp
        have hlow := hid HC.out.low
        clear hp HC hrg hx hplen
        subst hv
        have hc0 := AnyF.slices_SortFunc_none Tryz.sortE none 0 (.func (.func 60) #[] #[]) wr
        change Calls Tryz.prog 59 _ _ _ at hc0
        have hcon := hid hc0
        clear hc0
        go_wp2_with fail
        with_reducible refine Calls.mono hcon.out ?_
        rintro e w' ⟨rfl, rfl⟩
        go_wp2_with fail
        go_ret
        exact ⟨_, rfl, hlow.out, .inl ⟨hLn.out, rfl⟩⟩
      · subst hv
        have hat : EntAt wr g out := fun k x hx => by
          obtain ⟨e1, e2⟩ := flatE_get out k x hx
          exact ⟨blk_cell hb (take_get k4 e1), blk_cell hb (take_get k4 e2)⟩
        have hcl := HC.out.cnt
        have hcon := hid (sort_entries (cap := cap) hp hsrt.out (holdsE hat (blk_froz hb)) (Array.getElem?_eq_some_iff.1 hb).1 (by omega))
        have hlow := hid HC.out.low
        have hgl : g < wr.heap.size := (Array.getElem?_eq_some_iff.1 hb).1
        clear hp HC hrg hat k1 k2 k3 k4 hb hcn0 hl0 hcl
        go_wp2_with fail
        with_reducible refine Calls.mono hcon.out ?_
        rintro e w2 ⟨rfl, hE2, hg2⟩
        replace hE2 := hid hE2
        replace hg2 := hid hg2
        go_wp2_with fail
        go_ret
        exact ⟨_, rfl, hlow.out.grown hg2.out hlow.out.size (fun k hk => by cases hk; omega), .inr ⟨g, cap, slice_eq hplen.out, by omega, Nat.lt_of_lt_of_le hgl hg2.out.size, hE2.out⟩⟩
    · intro x c kl d ps w1 cnt1 hkey hlx hv hat hrg1 hlt hg1 hs1 hen
      obtain ⟨rfl, hxs⟩ := keyS_is hkey
      obtain ⟨a, ea, eb, hwf⟩ := plainElem_int_inv Tryz.underlying3 hv
      cases ea
      cases eb
      have hrl := hrg.lt
      have hG := hid (HC.out.got.step x c hlx hat)
      have hO := hid (HC.out.own.kept hg1 (.inr fun e => by have := (HC.out.own.lt _ e).1; omega))
      have hOl := hid HC.out.own.lt
      have hLw := hid (HC.out.low.grown hg1 HC.out.low.size (fun k hk => by cases hk; omega))
      have hcl := HC.out.cnt
      have hR := hid hrg1
      have hRo := hid hrg.left_eq
      have hr1 : w.heap.size < w1.heap.size := by omega
      clear HC hrg hrg1 hg1 hs1 hlx hat hkey hv hwf
      go_wp2_with (first | (at_builtin; refine wpList_append_own _ rfl (.tmp 18) (.tmp 22) 72 rfl (w.heap.size + 1) 75 i0 _ 2 24 Tryz.underlying72 hi hz0 hz1 hz2 rfl (by decide) _ _ _ rfl (hO.out.alloc _) ⟨w1.heap.size, 0, none⟩ 1 1 [.string x, .int .i64 c] rfl rfl (cells_new2 _ _ _ _) (by simp [Value.oneCell']) (by unfold maxLen; omega) (by omega) (by simp; omega) ?_; refine stop_here ?_) | fail)
      refine hid ?_
      intro v' w5 hown' hgrow hnil
      have hOw := hid hown'
      have hgr := hid hgrow
      clear hown' hgrow hnil
      have hR5 := hid ((hR.out.alloc (.cells #[.string x, .int .i64 c] 75)).kept hgr.out (fun e => by have := (hOl.out _ e.symm).1; omega) (fun e => by have := (hOl.out _ e.symm).1; omega))
      have hL5 := hid ((hLw.out.alloc hLw.out.size (.cells #[.string x, .int .i64 c] 75)).grown hgr.out (by simp; have := hLw.out.size; omega) (fun k hk => by have := (hOl.out _ hk).1; omega))
      clear hR hLw hgr hO
      go_wp2_with fail
      go_roundw
      case rel => exact ⟨out ++ [(x, c)], _, cnt1, hR5.out, by rw [flatE_snoc, List.length_append]; exact hOw.out, hG.out, hL5.out, by simp; omega, fun e => by simp at e⟩
      case measure => rw [hR5.out.left_eq, hRo.out]; exact hlt
end Go.Proofs.YthidjbobjjoekaaGreat
