/- m.Each() of a map: its places in their order, each round asked at the next place alone. Conditions: the text has at most 65536 bytes. -/
import Derived.Test.YtkobfjiadfedlaaPlEb
import Derived.Test.YtkobfjiadfedlaaQn
import Derived.Test.YtkobfjiadfedlaaQf
namespace Go.Proofs.Ytkobfjiadfedlaa
open Go.RowKit Go.Shelf
set_option linter.unusedVariables false
set_option linter.unusedSimpArgs false
attribute [local go_sem] Oper.semAt_some
attribute [local go_sem] Ext.cell Ext.froz
set_option maxRecDepth 100000 in
set_option maxHeartbeats 2000000 in
theorem next1_in (F : Fence) (n : Nat) (h36 : F.fn 36) (hro : F.round = none) (hn : 1 ≤ n) (l Bs b n₀ pb pc lb lc : Nat) (s : ByteArray) (P : List Pl) (L : List Ln) (hP2 : P.length ≤ 70000) (hpb : pb < n₀) (J Jx : List Pl → World → Prop)
    (W : World) (hsz : n₀ ≤ W.heap.size) (hJ : AbidesFrom W.heap.size J)
    (hY : ∀ pre x W, J pre W → pre ++ [x] <+: P → YieldAt F (n - 1) Try.prog l #[plV x] W fun e W' =>
      (e = .returned (.bool true) ∧ J (pre ++ [x]) W' ∧ Below n₀ W W') ∨ (e = .returned (.bool false) ∧ Jx (pre ++ [x]) W'))
    (hBs : W.cell? ⟨Bs, 0, none⟩ = some (.pointer (some ⟨b, 0, none⟩))) (hm : IsMap W b s P L pb pc lb lc) (h0 : J [] W) :
    CallsIn F n Try.prog 36 #[.func (.yield l) #[] #[], .pointer (some ⟨Bs, 0, none⟩)] W fun e W' => (∃ v, e = .returned v) ∧
      (J P W' ∨ (∃ pre, pre <+: P ∧ Jx pre W')) := by
  have c1 := hm.c1
  have hpl := hid hm.hp
  clear hm
  refine callsIn_of_wp Try.func36 rfl h36 ?_ hro
  simp only [Try.ntmps36, List.size_toArray, List.length_cons, List.length_nil, Nat.reduceAdd, Nat.reduceSub, Array.replicate_succ, Array.replicate_zero, List.push_toArray, List.append_toArray, List.nil_append, List.cons_append]
  gi_wp2
  gi_loopw [12] (fun i wr => ∃ k : Nat, k ≤ P.length ∧ i = .int .i64 k ∧ J (P.take k) wr ∧ Below n₀ W wr) (fun i _ => P.length - (intOf i).toNat)
  case atStart => exact ⟨0, Nat.zero_le _, rfl, h0, Below.refl _ _⟩
  case round =>
    obtain ⟨k, hk, rfl, hJs, hnx⟩ := hrel
    by_cases hlt : k < P.length
    · obtain ⟨p, hp⟩ : ∃ x, P[k]? = some x := ⟨_, List.getElem?_eq_getElem hlt⟩
      obtain ⟨q0, q1, q2, q3, q4⟩ := hpl.out k p hp
      replace q0 := (hnx.cell (p := ⟨pb, k * 5, none⟩) hpb).trans q0
      replace q1 := (hnx.cell (p := ⟨pb, k * 5 + 1, none⟩) hpb).trans q1
      replace q2 := (hnx.cell (p := ⟨pb, k * 5 + 2, none⟩) hpb).trans q2
      replace q3 := (hnx.cell (p := ⟨pb, k * 5 + 3, none⟩) hpb).trans q3
      replace q4 := (hnx.cell (p := ⟨pb, k * 5 + 4, none⟩) hpb).trans q4
      have hJ2 : J (P.take k) (wr.alloc (.cells #[.int .i64 p.b, .int .i64 p.r, .int .i64 p.u, .int .i64 p.l, .int .i64 p.c] 33)) := hJ _ _ _ none hJs (World.grownBy_alloc wr _ none) (fun r e => by cases e)
      have hB2 : Below n₀ wr (wr.alloc (.cells #[.int .i64 p.b, .int .i64 p.r, .int .i64 p.u, .int .i64 p.l, .int .i64 p.c] 33)) := (Below.refl _ _).alloc (Nat.le_trans hsz hnx.size) _
      have htk := hid (take_snoc P k _ hp)
      obtain ⟨fn, tmps, assign, body, hy, hR⟩ := hY _ p _ hJ2 (by rw [← htk.out]; exact List.take_prefix _ _)
      have hki : (k : Int) < P.length := by omega
      clear hY hpl hp
      gi_wp2
      refine hR.mono ?_
      rintro e W3 (⟨rfl, hJ3, hk3⟩ | ⟨rfl, hJx3⟩)
      · gi_wp2
        go_roundw
        case rel => exact ⟨k + 1, by omega, by go_num, by rw [htk.out]; exact hJ3, hnx.trans (hB2.trans hk3)⟩
        case measure => simp [intOf]; omega
      · gi_wp2
        refine bodyPost_ret (results_none rfl _ _ _) rfl ?_
        exact ⟨⟨_, rfl⟩, .inr ⟨_, by rw [← htk.out]; exact List.take_prefix _ _, hJx3⟩⟩
    · obtain rfl : k = P.length := by omega
      gi_wp2
      go_end0
      exact ⟨⟨_, rfl⟩, .inl (by rw [List.take_length] at hJs; exact hJs)⟩
/-- m.Each() of a map: all its places, in order. -/
theorem each_next (F : Fence) (n : Nat) (h36 : F.fn 36) (hro : F.round = none) (hn : 1 ≤ n) (Bs b n₀ : Nat) (s : ByteArray) (hs : s.size ≤ 65536) (w : World) (hBs : Bs < w.heap.size) (hn₀ : n₀ ≤ w.heap.size)
    (hc : w.cell? ⟨Bs, 0, none⟩ = some (.pointer (some ⟨b, 0, none⟩))) (hM : MapAt n₀ w b s) :
    SeqNext F n Try.prog 36 #[.pointer (some ⟨Bs, 0, none⟩)] (fun x : Pl => #[plV x]) n₀ (plOf s) w := fun l J Jx W hW hJ hY h0 => by
  obtain ⟨pb, pc, lb, lc, hm, hpb⟩ := hM
  have hc' := (hW.cell (p := ⟨Bs, 0, none⟩) hBs).trans hc
  have ok := fin_ok s
  have := ok.len
  exact next1_in F n h36 hro hn l Bs b n₀ pb pc lb lc s (plOf s) (lnOf s) (by unfold plOf; simp; omega) hpb J Jx W (Nat.le_trans hn₀ hW.size) hJ hY hc' (hm.below hW) h0
theorem prefix_get {α : Type} {l all : List α} {x : α} (h : l ++ [x] <+: all) : all[l.length]? = some x := by
  obtain ⟨t, rfl⟩ := h
  simp
theorem prefix_mem {α : Type} {l all : List α} {x : α} (h : l ++ [x] <+: all) : x ∈ all := List.mem_of_getElem? (prefix_get h)
theorem prefix_last {α : Type} {l all : List α} {x y : α} (h : (l ++ [y]) ++ [x] <+: all) : all[l.length]? = some y ∧ all[l.length + 1]? = some x := by
  obtain ⟨t, rfl⟩ := h
  refine ⟨by simp, ?_⟩
  have : l.length + 1 = (l ++ [y]).length := by simp
  rw [this]
  simp
theorem name_act {F : Fence} {n : Nat} {c : Code} {Q : Exit → Act → World → Prop} {a : Act} {w : World} (h : ∀ T D, a.tmps = T → a.defers = D → c.wpIn F n Try.prog Q ⟨T, D⟩ w) : c.wpIn F n Try.prog Q a w := h _ _ rfl rfl
theorem MapAt.up {n₀ n₁ : Nat} {w : World} {b : Nat} {s : ByteArray} (h : MapAt n₀ w b s) (hn : n₀ ≤ n₁) : MapAt n₁ w b s := by
  obtain ⟨pb, pc, lb, lc, h, h2⟩ := h
  exact ⟨pb, pc, lb, lc, h, by omega⟩
abbrev plC (p : Pl) : Array Value := #[.int .i64 p.b, .int .i64 p.r, .int .i64 p.u, .int .i64 p.l, .int .i64 p.c]
end Go.Proofs.Ytkobfjiadfedlaa
