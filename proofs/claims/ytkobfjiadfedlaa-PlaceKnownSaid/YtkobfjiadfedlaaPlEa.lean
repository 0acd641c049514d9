/- m.Each() of a map: its contract as an iterator. Conditions: those of each theorem. -/
import Derived.RangeFuncNested
import Derived.RangeFuncBound
import Derived.RangeFuncCalls
import Derived.RangeFuncLeaves
import Derived.RangeFuncFrom
import Derived.Shelf.Abstract
import Derived.Shelf.RegionOpen
import Derived.WalkKit
import Derived.OwnWalkIn
import Derived.TacticsInMore
import Derived.LoopNIn
import Derived.LoopIn
import Derived.Test.YtkobfjiadfedlaaPlT
namespace Go.Proofs.Ytkobfjiadfedlaa
open Go.RowKit Go.Shelf
set_option linter.unusedVariables false
set_option linter.unusedSimpArgs false
attribute [local go_sem] Oper.semAt_some
attribute [local go_sem] Ext.cell Ext.froz
theorem take_snoc {α : Type} (l : List α) (k : Nat) (x : α) (h : l[k]? = some x) : l.take (k + 1) = l.take k ++ [x] := by
  rw [List.take_add_one, h]; rfl
abbrev In (P : List Pl) := { p : Pl // p ∈ P }
theorem att_val (P : List Pl) : P.attach.map Subtype.val = P := List.attach_map_subtype_val P
theorem att_get {P : List Pl} {k : Nat} {x : In P} (h : P.attach[k]? = some x) : P[k]? = some x.1 := by
  have := congrArg (fun l : List Pl => l[k]?) (att_val P)
  simp only [List.getElem?_map, h] at this
  exact this.symm
set_option maxRecDepth 100000 in
set_option maxHeartbeats 2000000 in
theorem each1_in (F : Fence) (n : Nat) (h36 : F.fn 36) (hro : F.round = none) (hn : 1 ≤ n) (l Bs b n₀ pb pc lb lc : Nat) (s : ByteArray) (P : List Pl) (L : List Ln) (hP2 : P.length ≤ 70000) (hpb : pb < n₀) (J Jx : List (In P) → World → Prop)
    (W : World) (hsz : n₀ ≤ W.heap.size) (hJ : AbidesFrom W.heap.size J)
    (hY : ∀ pre x W, J pre W → pre.length < P.length → YieldAt F (n - 1) Try.prog l #[plV x.1] W fun e W' =>
      (e = .returned (.bool true) ∧ J (pre ++ [x]) W' ∧ Below n₀ W W') ∨ (e = .returned (.bool false) ∧ Jx (pre ++ [x]) W'))
    (hBs : W.cell? ⟨Bs, 0, none⟩ = some (.pointer (some ⟨b, 0, none⟩))) (hm : IsMap W b s P L pb pc lb lc) (h0 : J [] W) :
    CallsIn F n Try.prog 36 #[.func (.yield l) #[] #[], .pointer (some ⟨Bs, 0, none⟩)] W fun e W' => (∃ v, e = .returned v) ∧
      ((∃ ys, ys = P.attach ∧ J ys W') ∨ (∃ pre, pre <+: P.attach ∧ Jx pre W')) := by
  have c1 := hm.c1
  have hpl := hid hm.hp
  clear hm
  refine callsIn_of_wp Try.func36 rfl h36 ?_ hro
  simp only [Try.ntmps36, List.size_toArray, List.length_cons, List.length_nil, Nat.reduceAdd, Nat.reduceSub, Array.replicate_succ, Array.replicate_zero, List.push_toArray, List.append_toArray, List.nil_append, List.cons_append]
  gi_wp2
  gi_loopw [12] (fun i wr => ∃ k : Nat, k ≤ P.length ∧ i = .int .i64 k ∧ J (P.attach.take k) wr ∧ Below n₀ W wr) (fun i _ => P.length - (intOf i).toNat)
  case atStart => exact ⟨0, Nat.zero_le _, rfl, h0, Below.refl _ _⟩
  case round =>
    obtain ⟨k, hk, rfl, hJs, hnx⟩ := hrel
    by_cases hlt : k < P.length
    · obtain ⟨x, hx⟩ : ∃ x, P.attach[k]? = some x := ⟨_, List.getElem?_eq_getElem (by rw [List.length_attach]; exact hlt)⟩
      obtain ⟨p, hpm⟩ := x
      have hp : P[k]? = some p := att_get hx
      obtain ⟨q0, q1, q2, q3, q4⟩ := hpl.out k p hp
      replace q0 := (hnx.cell (p := ⟨pb, k * 5, none⟩) hpb).trans q0
      replace q1 := (hnx.cell (p := ⟨pb, k * 5 + 1, none⟩) hpb).trans q1
      replace q2 := (hnx.cell (p := ⟨pb, k * 5 + 2, none⟩) hpb).trans q2
      replace q3 := (hnx.cell (p := ⟨pb, k * 5 + 3, none⟩) hpb).trans q3
      replace q4 := (hnx.cell (p := ⟨pb, k * 5 + 4, none⟩) hpb).trans q4
      have hJ2 : J (P.attach.take k) (wr.alloc (.cells #[.int .i64 p.b, .int .i64 p.r, .int .i64 p.u, .int .i64 p.l, .int .i64 p.c] 33)) := hJ _ _ _ none hJs (World.grownBy_alloc wr _ none) (fun r e => by cases e)
      have hB2 : Below n₀ wr (wr.alloc (.cells #[.int .i64 p.b, .int .i64 p.r, .int .i64 p.u, .int .i64 p.l, .int .i64 p.c] 33)) := (Below.refl _ _).alloc (Nat.le_trans hsz hnx.size) _
      obtain ⟨fn, tmps, assign, body, hy, hR⟩ := hY _ ⟨p, hpm⟩ _ hJ2 (by rw [List.length_take]; omega)
      dsimp only at hy
      have htk := hid (take_snoc P.attach k _ hx)
      have hki : (k : Int) < P.length := by omega
      clear hY hpl hp hx
      gi_wp2
      refine hR.mono ?_
      rintro e W3 (⟨rfl, hJ3, hk3⟩ | ⟨rfl, hJx3⟩)
      · gi_wp2
        go_roundw
        case rel => exact ⟨k + 1, by omega, by go_num, by rw [htk.out]; exact hJ3, hnx.trans (hB2.trans hk3)⟩
        case measure => simp [intOf]; omega
      · gi_wp2
        refine bodyPost_ret (results_none rfl _ _ _) rfl ?_
        exact ⟨⟨_, rfl⟩, .inr ⟨_, by rw [← htk.out]; exact List.take_prefix _ _, hJx3⟩⟩
    · obtain rfl : k = P.length := by omega
      gi_wp2
      go_end0
      exact ⟨⟨_, rfl⟩, .inl ⟨_, by rw [← List.length_attach (l := P), List.take_length], hJs⟩⟩
theorem each_in (F : Fence) (n : Nat) (h17 : F.fn 17) (hro : F.round = none) (b : Nat) (w : World) :
    CallsIn F n Try.prog 17 #[.pointer (some ⟨b, 0, none⟩)] w fun e w' => e = .returned (.func (.func 36) #[] #[.pointer (some ⟨w.heap.size, 0, none⟩)]) ∧ w' = w.alloc (.cells #[.pointer (some ⟨b, 0, none⟩)] 23) := by
  refine callsIn_of_wp Try.func17 rfl h17 ?_ hro
  simp only [Try.ntmps17, List.size_toArray, List.length_cons, List.length_nil, Nat.reduceAdd, Nat.reduceSub, Array.replicate_succ, Array.replicate_zero, List.push_toArray, List.append_toArray, List.nil_append, List.cons_append]
  gi_wp2
  go_ret
  exact ⟨rfl, rfl⟩
/-- the map of s at block b, all of it in blocks below n₀ -/
def MapAt (n₀ : Nat) (w : World) (b : Nat) (s : ByteArray) : Prop := ∃ pb pc lb lc, IsMap w b s (plOf s) (lnOf s) pb pc lb lc ∧ pb < n₀
theorem MapOf.at {w : World} {b : Nat} {s : ByteArray} (h : MapOf w b s) : MapAt w.heap.size w b s := by
  obtain ⟨pb, pc, lb, lc, h⟩ := h
  obtain ⟨q, _⟩ := h.hp 0 _ (pl_zero s)
  exact ⟨pb, pc, lb, lc, h, World.block_lt_of_cell? w _ q⟩
theorem MapAt.below {n₀ : Nat} {w w' : World} {b : Nat} {s : ByteArray} (h : MapAt n₀ w b s) (hb : Below w.heap.size w w') : MapAt n₀ w' b s := by
  obtain ⟨pb, pc, lb, lc, h, h2⟩ := h
  exact ⟨pb, pc, lb, lc, h.below hb, h2⟩
/-- m.Each() of a map: all its places, in order; or a part. -/
theorem each_stops (F : Fence) (n : Nat) (h36 : F.fn 36) (hro : F.round = none) (hn : 1 ≤ n) (Bs b n₀ : Nat) (s : ByteArray) (hs : s.size ≤ 65536) (w : World) (hBs : Bs < w.heap.size) (hn₀ : n₀ ≤ w.heap.size)
    (hc : w.cell? ⟨Bs, 0, none⟩ = some (.pointer (some ⟨b, 0, none⟩))) (hM : MapAt n₀ w b s) :
    SeqStopsK F n Try.prog 36 #[.pointer (some ⟨Bs, 0, none⟩)] (fun x : In (plOf s) => #[plV x.1]) (Below n₀) (fun ys => ys = (plOf s).attach) (fun pre => pre <+: (plOf s).attach) (plOf s).length w := fun l J Jx W hW hJ _ hY h0 => by
  obtain ⟨pb, pc, lb, lc, hm, hpb⟩ := hM
  have hc' := (hW.cell (p := ⟨Bs, 0, none⟩) hBs).trans hc
  have ok := fin_ok s
  have := ok.len
  exact each1_in F n h36 hro hn l Bs b n₀ pb pc lb lc s (plOf s) (lnOf s) (by unfold plOf; simp; omega) hpb J Jx W (Nat.le_trans hn₀ hW.size) hJ hY hc' (hm.below hW) h0
end Go.Proofs.Ytkobfjiadfedlaa
