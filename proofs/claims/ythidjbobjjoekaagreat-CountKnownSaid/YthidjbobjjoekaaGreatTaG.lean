/- t.Each() of a tally: its entries in order, as an iterator. Conditions: none beyond the tally's own. -/
import Derived.Test.YthidjbobjjoekaaGreatTaF
import Derived.Test.YthidjbobjjoekaaGreatQm
import Derived.OwnWalkIn
import Derived.TacticsInMore
import Derived.LoopNIn
import Derived.LoopIn
namespace Go.Proofs.YthidjbobjjoekaaGreat
open Go.RowKit Go.Lib Go.Sort Go.Shelf
set_option linter.unusedVariables false
set_option linter.unusedSimpArgs false
attribute [local go_sem] Oper.semAt_some
theorem take_snoc {α : Type} (l : List α) (k : Nat) (x : α) (h : l[k]? = some x) : l.take (k + 1) = l.take k ++ [x] := by
  rw [List.take_add_one, h]; rfl
theorem EntAt.kept {w w' : World} {g : Nat} {L : List Ent} (h : EntAt w g L) (he : w'.heap[g]? = w.heap[g]?) : EntAt w' g L := fun k x hx =>
  ⟨(World.cell?_of_block (a := ⟨g, k * 2, none⟩) he).trans (h k x hx).1, (World.cell?_of_block (a := ⟨g, k * 2 + 1, none⟩) he).trans (h k x hx).2⟩
theorem grownNone {W W' : World} (h : Below W.heap.size W W') : W.grownBy W' none := ⟨h.os, h.tape, h.output, h.size, fun k hk _ => h.block k hk⟩
theorem tal_each_in (F : Fence) (n : Nat) (hf : F.fn 25) (hro : F.round = none) (b : Nat) (w : World) :
    CallsIn F n Tryz.prog 25 #[.pointer (some ⟨b, 0, none⟩)] w fun e w' => e = .returned (.func (.func 50) #[] #[.pointer (some ⟨w.heap.size, 0, none⟩)]) ∧ w' = w.alloc (.cells #[.pointer (some ⟨b, 0, none⟩)] 44) := by
  refine callsIn_of_wp Tryz.func25 rfl hf ?_ hro
  simp only [Tryz.ntmps25, List.size_toArray, List.length_cons, List.length_nil, Nat.reduceAdd, Nat.reduceSub, Array.replicate_succ, Array.replicate_zero, List.push_toArray, List.append_toArray, List.nil_append, List.cons_append]
  gi_wp2
  go_ret
  exact ⟨rfl, rfl⟩
set_option maxRecDepth 100000 in
set_option maxHeartbeats 2000000 in
theorem tal_next1 (n : Nat) (hn : 1 ≤ n) (l Bs b m n₀ : Nat) (L : List Ent) (J Jx : List Ent → World → Prop) (W : World) (hsz : n₀ ≤ W.heap.size) (hJ : AbidesFrom W.heap.size J)
    (hY : ∀ pre x W1, J pre W1 → pre ++ [x] <+: L → YieldAt Fence.wide (n - 1) Tryz.prog l #[.string x.1, .int .i64 x.2] W1 fun e W' =>
      (e = .returned (.bool true) ∧ J (pre ++ [x]) W' ∧ KB n₀ W.heap.size W1 W') ∨ (e = .returned (.bool false) ∧ Jx (pre ++ [x]) W'))
    (hBs : W.cell? ⟨Bs, 0, none⟩ = some (.pointer (some ⟨b, 0, none⟩))) (hT : Tal W b m L) (h0 : J [] W) :
    CallsIn Fence.wide n Tryz.prog 50 #[.func (.yield l) #[] #[], .pointer (some ⟨Bs, 0, none⟩)] W fun e W' => (∃ v, e = .returned v) ∧
      (J L W' ∨ (∃ pre, pre <+: L ∧ Jx pre W')) := by
  have hE := hid (entries_any hT)
  have hlen := hT.he.len
  clear hT
  refine callsIn_of_wp Tryz.func50 rfl trivial ?_ rfl
  simp only [Tryz.ntmps50, List.size_toArray, List.length_cons, List.length_nil, Nat.reduceAdd, Nat.reduceSub, Array.replicate_succ, Array.replicate_zero, List.push_toArray, List.append_toArray, List.nil_append, List.cons_append]
  gi_wp2_with fail
  refine ⟨trivial, ?_⟩
  with_reducible refine CallsIn.mono (callsIn_wide.2 hE.out) ?_
  rintro e W1 ⟨v, rfl, hlow, hv⟩
  have hJ1 : J [] W1 := hJ _ _ _ none h0 (grownNone hlow) (fun r e => by cases e)
  rcases hv with ⟨hL, rfl⟩ | ⟨g, cap, rfl, hg, hgl, hat⟩
  · subst hL
    gi_wp2_with fail
    gi_loopw [8] (fun i wr => i = .int .i64 0 ∧ J [] wr) (fun _ _ => 0)
    case atStart => exact ⟨rfl, hJ1⟩
    case round =>
      obtain ⟨rfl, hJs⟩ := hrel
      gi_wp2
      go_end0
      exact ⟨⟨_, rfl⟩, .inl hJs⟩
  · gi_wp2_with fail
    gi_loopw [8] (fun i wr => ∃ k : Nat, k ≤ L.length ∧ i = .int .i64 k ∧ J (L.take k) wr ∧ Below n₀ W wr ∧ EntAt wr g L ∧ g < wr.heap.size ∧ W.heap.size ≤ wr.heap.size) (fun i _ => L.length - (intOf i).toNat)
    case atStart => exact ⟨0, Nat.zero_le _, rfl, hJ1, hlow.mono hsz, hat, hgl, hlow.size⟩
    case round =>
      obtain ⟨k, hk, rfl, hJs, hnx, hat2, hgl2, hsz2⟩ := hrel
      by_cases hlt : k < L.length
      · obtain ⟨x, hx⟩ : ∃ x, L[k]? = some x := ⟨_, List.getElem?_eq_getElem hlt⟩
        obtain ⟨q0, q1⟩ := hat2 k x hx
        have hJ2 : J (L.take k) (wr.alloc (.cells #[.string x.1, .int .i64 x.2] 75)) := hJ _ _ _ none hJs (World.grownBy_alloc wr _ none) (fun r e => by cases e)
        have hB2 : Below wr.heap.size wr (wr.alloc (.cells #[.string x.1, .int .i64 x.2] 75)) := (Below.refl _ _).alloc (Nat.le_refl _) _
        have htk := hid (take_snoc L k _ hx)
        obtain ⟨fn, tmps, assign, body, hy, hR⟩ := hY _ x _ hJ2 (by rw [← htk.out]; exact List.take_prefix _ _)
        have hki : (k : Int) < L.length := by omega
        have HA := hid hat2
        have HB := hid hB2
        have HN := hid hnx
        obtain ⟨x1, x2⟩ := x
        dsimp only at q0 q1 hy hR HB htk
        clear hY hx hat hat2 hB2 hnx hlow hJs hJ1 h0 hJ2 hBs
        gi_wp2
        refine hR.mono ?_
        rintro e W3 (⟨rfl, hJ3, hk3⟩ | ⟨rfl, hJx3⟩)
        · have HK := hid hk3
          clear hk3
          gi_wp2
          go_roundw
          case rel => exact ⟨k + 1, by omega, by go_num, by rw [htk.out]; exact hJ3, HN.out.trans ((HB.out.mono (by omega)).trans HK.out.low), HA.out.kept ((HK.out.up g hg (by simp; omega)).trans (HB.out.block g hgl2)), Nat.lt_of_lt_of_le hgl2 (Nat.le_trans HB.out.size HK.out.low.size), Nat.le_trans hsz2 (Nat.le_trans HB.out.size HK.out.low.size)⟩
          case measure => simp [intOf]; omega
        · gi_wp2
          refine bodyPost_ret (results_none rfl _ _ _) rfl ?_
          exact ⟨⟨_, rfl⟩, .inr ⟨_, by rw [← htk.out]; exact List.take_prefix _ _, hJx3⟩⟩
      · obtain rfl : k = L.length := by omega
        gi_wp2
        go_end0
        exact ⟨⟨_, rfl⟩, .inl (by rw [List.take_length] at hJs; exact hJs)⟩
/-- t.Each() of a tally: all its entries, in order. -/
theorem tal_next (n : Nat) (hn : 1 ≤ n) (Bs b m n₀ : Nat) (L : List Ent) (w : World) (hBs : Bs < w.heap.size) (hn₀ : n₀ ≤ w.heap.size)
    (hc : w.cell? ⟨Bs, 0, none⟩ = some (.pointer (some ⟨b, 0, none⟩))) (hT : Tal w b m L) :
    SeqOwn Fence.wide n Tryz.prog 50 #[.pointer (some ⟨Bs, 0, none⟩)] (fun x : Ent => #[.string x.1, .int .i64 x.2]) n₀ L w := fun l J Jx W hW hJ hY h0 =>
  tal_next1 n hn l Bs b m n₀ L J Jx W (Nat.le_trans hn₀ hW.size) hJ hY ((hW.cell (p := ⟨Bs, 0, none⟩) hBs).trans hc) (hT.low hW) h0
end Go.Proofs.YthidjbobjjoekaaGreat
