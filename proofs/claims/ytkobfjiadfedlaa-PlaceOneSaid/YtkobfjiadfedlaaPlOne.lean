/- PlaceOne, walked: each place comes back from each way. Conditions: none but the length that a string may have. -/
import Derived.Test.YtkobfjiadfedlaaPlEc
import Derived.WalkSpells
import Derived.WalkLawsBesides
import Derived.Deep.QuietTactic
import Derived.BigQuiet

namespace Go.Proofs.Ytkobfjiadfedlaa
open Go.RowKit Go.Shelf
set_option linter.unusedVariables false
set_option linter.unusedSimpArgs false
attribute [local go_sem] Oper.semAt_some
attribute [local go_sem] Ext.cell Ext.froz
/-- what 'last' holds -/
def lastC (l : List Pl) : Array Value := match l.getLast? with
  | none => #[.int .i64 (-1), .int .i64 0, .int .i64 0, .int .i64 0, .int .i64 0]
  | some q => plC q
theorem nil_or_snoc {α : Type} (l : List α) : l = [] ∨ ∃ L q, l = L ++ [q] := by
  cases h : l.getLast? with
  | none => exact .inl (List.getLast?_eq_none_iff.1 h)
  | some q => obtain ⟨L, hL⟩ := List.getLast?_eq_some_iff.1 h; exact .inr ⟨L, q, hL⟩
theorem set5 {W : World} {B : Nat} {t : TypeId} {a0 a1 a2 a3 a4 : Value} (h : Blk W B t #[a0, a1, a2, a3, a4]) (b0 b1 b2 b3 b4 : Value) :
    Blk (((((W.setCell ⟨B, 0, none⟩ b0).setCell ⟨B, 1, none⟩ b1).setCell ⟨B, 2, none⟩ b2).setCell ⟨B, 3, none⟩ b3).setCell ⟨B, 4, none⟩ b4) B t #[b0, b1, b2, b3, b4] := ((((h.set 0 b0).set 1 b1).set 2 b2).set 3 b3).set 4 b4
theorem oth5 {W : World} {B B' : Nat} {t : TypeId} {c : Array Value} (h : Blk W B t c) (hne : B ≠ B') (b0 b1 b2 b3 b4 : Value) :
    Blk (((((W.setCell ⟨B', 0, none⟩ b0).setCell ⟨B', 1, none⟩ b1).setCell ⟨B', 2, none⟩ b2).setCell ⟨B', 3, none⟩ b3).setCell ⟨B', 4, none⟩ b4) B t c := ((((h.other hne b0).other hne b1).other hne b2).other hne b3).other hne b4
theorem low5 {n : Nat} {V W : World} {B : Nat} (h : Below n V W) (hn : n ≤ B) (b0 b1 b2 b3 b4 : Value) :
    Below n V (((((W.setCell ⟨B, 0, none⟩ b0).setCell ⟨B, 1, none⟩ b1).setCell ⟨B, 2, none⟩ b2).setCell ⟨B, 3, none⟩ b3).setCell ⟨B, 4, none⟩ b4) :=
  ((((h.setCell (p := ⟨B, 0, none⟩) hn b0).setCell (p := ⟨B, 1, none⟩) hn b1).setCell (p := ⟨B, 2, none⟩) hn b2).setCell (p := ⟨B, 3, none⟩) hn b3).setCell (p := ⟨B, 4, none⟩) hn b4
theorem kf5 {n : Nat} {V W : World} {B : Nat} (h : KeepsFrom n V W) (b0 b1 b2 b3 b4 : Value) :
    KeepsFrom n V (((((W.setCell ⟨B, 0, none⟩ b0).setCell ⟨B, 1, none⟩ b1).setCell ⟨B, 2, none⟩ b2).setCell ⟨B, 3, none⟩ b3).setCell ⟨B, 4, none⟩ b4) :=
  (((((h.trans ((KeepsOthers.setCell _ _ _).from _)).trans ((KeepsOthers.setCell _ _ _).from _)).trans ((KeepsOthers.setCell _ _ _).from _)).trans ((KeepsOthers.setCell _ _ _).from _)).trans ((KeepsOthers.setCell _ _ _).from _))
theorem lastC_snoc (l : List Pl) (x : Pl) : lastC (l ++ [x]) = plC x := by unfold lastC; simp
theorem one_fin {w w4 W w12 : World} {N0 b : Nat} {p : Pl} {pre : List Pl} {a0 a1 a2 a3 a4 v n : Value}
    (hN : w.heap.size < N0) (hB4 : N0 + 1 ≤ w4.heap.size) (hBW : Below W.heap.size W w12) (hW : N0 + 1 + 1 < W.heap.size) (hI : Below (N0 + 1) w4 W)
    (k3 : Blk w12 N0 23 #[.pointer (some ⟨b, 0, none⟩)]) (k2 : Blk w12 w.heap.size 4 #[.bool false]) (k5 : Blk w12 (N0 + 1) 33 #[a0, a1, a2, a3, a4]) (k6 : Blk w12 (N0 + 1 + 1) 3 #[v]) (hn : n = .int .i64 ((pre ++ [p]).length : Nat)) :
    KeepsFrom w4.heap.size W ((((((w12.setCell ⟨N0 + 1, 0, none⟩ (.int .i64 p.b)).setCell ⟨N0 + 1, 1, none⟩ (.int .i64 p.r)).setCell ⟨N0 + 1, 2, none⟩ (.int .i64 p.u)).setCell ⟨N0 + 1, 3, none⟩ (.int .i64 p.l)).setCell ⟨N0 + 1, 4, none⟩ (.int .i64 p.c)).setCell ⟨N0 + 1 + 1, 0, none⟩ n) ∧
    Below (N0 + 1) W ((((((w12.setCell ⟨N0 + 1, 0, none⟩ (.int .i64 p.b)).setCell ⟨N0 + 1, 1, none⟩ (.int .i64 p.r)).setCell ⟨N0 + 1, 2, none⟩ (.int .i64 p.u)).setCell ⟨N0 + 1, 3, none⟩ (.int .i64 p.l)).setCell ⟨N0 + 1, 4, none⟩ (.int .i64 p.c)).setCell ⟨N0 + 1 + 1, 0, none⟩ n) ∧
    (fun pre W => ((Blk W N0 23 #[.pointer (some ⟨b, 0, none⟩)] ∧ Blk W w.heap.size 4 #[.bool false]) ∧ (Blk W (N0 + 1) 33 (lastC pre) ∧ Blk W (N0 + 1 + 1) 3 #[.int .i64 (pre.length : Nat)])) ∧ Below (N0 + 1) w4 W) (pre ++ [p])
      ((((((w12.setCell ⟨N0 + 1, 0, none⟩ (.int .i64 p.b)).setCell ⟨N0 + 1, 1, none⟩ (.int .i64 p.r)).setCell ⟨N0 + 1, 2, none⟩ (.int .i64 p.u)).setCell ⟨N0 + 1, 3, none⟩ (.int .i64 p.l)).setCell ⟨N0 + 1, 4, none⟩ (.int .i64 p.c)).setCell ⟨N0 + 1 + 1, 0, none⟩ n) := by
  have hb : Below (N0 + 1) W w12 := hBW.mono (by omega)
  have q := (low5 hb (Nat.le_refl _) (.int .i64 p.b) (.int .i64 p.r) (.int .i64 p.u) (.int .i64 p.l) (.int .i64 p.c)).setCell (p := ⟨N0 + 1 + 1, 0, none⟩) (by show N0 + 1 ≤ N0 + 1 + 1; omega) n
  refine ⟨(kf5 (kf_of hBW) _ _ _ _ _).trans ((KeepsOthers.setCell _ _ _).from _), q, ⟨⟨?_, ?_⟩, ?_, ?_⟩, hI.trans q⟩
  · exact (oth5 k3 (by omega) _ _ _ _ _).other (by omega) _
  · exact (oth5 k2 (by omega) _ _ _ _ _).other (by omega) _
  · rw [lastC_snoc]; exact (set5 k5 _ _ _ _ _).other (by omega) _
  · rw [← hn]; exact (oth5 k6 (by omega) _ _ _ _ _).set 0 n
set_option maxRecDepth 100000 in
set_option maxHeartbeats 8000000 in
theorem one_main (s : ByteArray) (w : World) (hs : s.size ≤ 65536) :
    Calls Try.prog 4 #[.string s] w fun e w' => e = .returned (.bool true) ∧ Below w.heap.size w w' := by
  refine (callsIn_wide (n := 9)).1 ?_
  refine callsIn_of_wp_marks Try.func4 rfl trivial ?_ rfl
  simp only [Try.ntmps4, List.size_toArray, List.length_cons, List.length_nil, Nat.reduceAdd, Nat.reduceSub, Array.replicate_succ, Array.replicate_zero, List.push_toArray, List.append_toArray, List.nil_append, List.cons_append]
  gi_wp2_with fail
  obtain ⟨wa, hA⟩ : ∃ wa, w.alloc (.cells #[.bool false] 4) = wa := ⟨_, rfl⟩
  have k2 : Blk wa w.heap.size 4 #[.bool false] := hA ▸ Blk.new w _ _
  have ba : Below w.heap.size w wa := hA ▸ (Below.refl _ _).alloc (Nat.le_refl _) _
  rw [hA]
  clear hA
  refine ⟨trivial, ?_⟩
  have hW := hid (works_any wa)
  with_reducible refine (callsIn_wide.2 hW.out).mono ?_
  rintro e w1 ⟨rfl, hb1⟩
  replace k2 := k2.low hb1
  replace ba := ba.trans (hb1.mono ba.size)
  clear hb1 hW
  gi_wp2_with fail
  refine ⟨trivial, ?_⟩
  have hN := hid (new_map s w1 hs)
  with_reducible refine (callsIn_wide.2 hN.out).mono ?_
  rintro e w2 ⟨b, rfl, hm, hb2⟩
  replace k2 := k2.low hb2
  replace ba := ba.trans (hb2.mono ba.size)
  have hM := hid hm
  clear hb2 hN hm
  gi_wp2_with fail
  refine ⟨trivial, ?_⟩
  obtain ⟨N0, hN0⟩ : ∃ N0, w2.heap.size = N0 := ⟨_, rfl⟩
  obtain ⟨w3, hA⟩ : ∃ w3, ((w2.alloc (.cells #[.pointer (some ⟨b, 0, none⟩)] 23)).alloc (.cells #[.int .i64 (-1), .int .i64 0, .int .i64 0, .int .i64 0, .int .i64 0] 33)).alloc (.cells #[.int .i64 0] 3) = w3 := ⟨_, rfl⟩
  have k3 : Blk w3 N0 23 #[.pointer (some ⟨b, 0, none⟩)] := by rw [← hA, ← hN0]; exact ((Blk.new w2 _ _).alloc _).alloc _
  have k5 : Blk w3 (N0 + 1) 33 #[.int .i64 (-1), .int .i64 0, .int .i64 0, .int .i64 0, .int .i64 0] := by
    rw [← hA, ← hN0]; have := (Blk.new (w2.alloc (.cells #[.pointer (some ⟨b, 0, none⟩)] 23)) 33 #[.int .i64 (-1), .int .i64 0, .int .i64 0, .int .i64 0, .int .i64 0]).alloc (.cells #[.int .i64 0] 3)
    simpa using this
  have k6 : Blk w3 (N0 + 1 + 1) 3 #[.int .i64 0] := by
    rw [← hA, ← hN0]; have := Blk.new ((w2.alloc (.cells #[.pointer (some ⟨b, 0, none⟩)] 23)).alloc (.cells #[.int .i64 (-1), .int .i64 0, .int .i64 0, .int .i64 0, .int .i64 0] 33)) 3 #[.int .i64 0]
    simpa using this
  have hsz : w3.heap.size = N0 + 1 + 1 + 1 := by rw [← hA, ← hN0]; simp
  have hb3 : Below w2.heap.size w2 w3 := by
    rw [← hA]; exact (((Below.refl _ w2).alloc (Nat.le_refl _) _).alloc (by simp) _).alloc (by simp; omega) _
  have hN : w.heap.size < N0 := hN0 ▸ k2.lt
  replace k2 := k2.low hb3
  have hMA := hid (hM.out.at.below hb3)
  rw [hN0] at hMA
  have hM3 := hid (hM.out.below hb3)
  replace ba := ba.trans (hb3.mono ba.size)
  simp only [hN0]
  rw [hA]
  have h23 : Below N0 w2 w3 := hN0 ▸ hb3
  clear hA hb3
  have hE := hid (each_in Fence.wide 8 trivial rfl b w3)
  with_reducible refine hE.out.mono ?_
  rintro e w4 ⟨rfl, hw4⟩
  clear hE
  have hb4 : Below w3.heap.size w3 w4 := hw4 ▸ (Below.refl _ _).alloc (Nat.le_refl _) _
  have k7 : Blk w4 (N0 + 1 + 1 + 1) 23 #[.pointer (some ⟨b, 0, none⟩)] := by rw [hw4, ← hsz]; exact Blk.new w3 _ _
  have hsz4 : w4.heap.size = N0 + 1 + 1 + 1 + 1 := by rw [hw4, ← hsz]; simp
  replace k2 := k2.low hb4
  replace k3 := k3.low hb4
  replace k5 := k5.low hb4
  replace k6 := k6.low hb4
  replace ba := ba.trans (hb4.mono ba.size)
  have hMA4 := hid (hMA.out.below hb4)
  have h24 : Below N0 w2 w4 := h23.trans (hb4.mono (by omega))
  rw [hsz]
  clear hw4 hb4 hMA hM3 hsz h23
  gi_wp2_with fail
  refine name_act ?_
  intro T D hT hD
  refine rangeFunc_next (F := Fence.wide) (α := Pl) rfl (by omega) (gf := 36) (lb := #[.pointer (some ⟨N0 + 1 + 1 + 1, 0, none⟩)]) (by subst hT; rfl) trivial (enters_of Try.func36 (by kernel_rfl) rfl)
    (each_next Fence.wide 8 trivial rfl (by omega) (N0 + 1 + 1 + 1) b (N0 + 1) s hs w4 (by omega) (by omega) (k7.cell rfl) (hMA4.out.up (by omega))) (by omega) (Below.refl _ _) (fun _ => rfl)
    (fun pre W => ((Blk W N0 23 #[.pointer (some ⟨b, 0, none⟩)] ∧ Blk W w.heap.size 4 #[.bool false]) ∧ (Blk W (N0 + 1) 33 (lastC pre) ∧ Blk W (N0 + 1 + 1) 3 #[.int .i64 pre.length])) ∧ Below (N0 + 1) w4 W)
    (fun _ _ _ => False)
    (OwnFrom.and (OwnFrom.and (OwnFrom.and (Own.from (blk_own _ _ _) _) (Own.from (blk_own _ _ _) _)) (OwnFrom.and (Own.from (blk_own _ _ (fun pre : List Pl => lastC pre)) _) (Own.from (blk_own _ _ (fun pre : List Pl => #[.int .i64 pre.length])) _))) (ownFrom_below (by omega) (by omega)))
    (fun _ => ownFrom_pure _ _)
    ⟨⟨⟨k3, k2⟩, ⟨k5, k6⟩⟩, Below.refl _ _⟩
    (fun x a' W => ∃ Bx, N0 + 1 + 1 + 1 < Bx ∧ Blk W Bx 33 (plC x) ∧ a' = { tmps := (T.setIfInBounds 36 (plV x)).setIfInBounds 7 (.pointer (some ⟨Bx, 0, none⟩)), defers := [] })
    (fun x a' _ X Y row hs hg hr => by obtain ⟨Bx, h1, h2, h3⟩ := hs; exact ⟨Bx, h1, blk_own Bx 33 (fun (_ : Unit) => plC x) () X Y row h2 hg (fun r e => (hr r e).2), h3⟩)
    ?assign ?body ?done ?stop
  case assign =>
    rintro l pre x W K ⟨⟨⟨k3, k2⟩, ⟨k5, k6⟩⟩, hB⟩ hpre hK
    subst hT hD
    gi_wp2
    have hsW := hB.size
    refine hK _ _ ((KeepsOthers.alloc _ _).from _) ((Below.refl _ W).alloc (by omega) _) ⟨⟨⟨k3.alloc _, k2.alloc _⟩, ⟨k5.alloc _, k6.alloc _⟩⟩, hB.alloc (by omega) _⟩ ⟨W.heap.size, by omega, Blk.new W 33 _, ?_⟩
    rfl
  case body =>
    rintro l pre p a' W hl hr hnext ⟨⟨⟨k3, k2⟩, ⟨k5, k6⟩⟩, hB⟩ ⟨Bx, hBx, kx, rfl⟩
    have hp := prefix_mem hnext
    have hMW := hid (hM.out.below (hN0 ▸ h24.trans (hB.mono (by omega))))
    have HN := hid hnext
    clear hnext
    subst hT hD
    have hBW : Below W.heap.size W W := Below.refl _ _
    have hBx2 := kx.lt
    dsimp only at kx ⊢
    have nk3 := k3.lt
    have nk2 := k2.lt
    have nk5 := k5.lt
    have nk6 := k6.lt
    have nkx := kx.lt
    have c3 := k3.cell (k := 0) rfl
    have c6 := k6.cell (k := 0) rfl
    have cx0 := kx.cell (k := 0) rfl
    have cx1 := kx.cell (k := 1) rfl
    have cx2 := kx.cell (k := 2) rfl
    have cx3 := kx.cell (k := 3) rfl
    have cx4 := kx.cell (k := 4) rfl
    simp only [List.setIfInBounds_toArray, List.set_cons_succ, List.set_cons_zero]
    gi_wp2_with fail
    clear nk3 nk2 nk5 nk6 nkx c3 c6 cx0 cx1 cx2 cx3 cx4
    refine ⟨trivial, ?_⟩
    have hC := hid (own_byte hMW.out hs hp)
    with_reducible refine (CallsIn.inRound l (callsIn_wide.2 hC.out)).mono ?_
    rintro e w5 ⟨rfl, hb5⟩
    have hM5 := hid (hMW.out.below hb5)
    have hBW5 : Below W.heap.size W w5 := hBW.trans (hb5.mono hBW.size)
    replace k3 := k3.low hb5
    replace k2 := k2.low hb5
    replace k5 := k5.low hb5
    replace k6 := k6.low hb5
    replace kx := kx.low hb5
    clear hb5 hC  hBW
    have nk3 := k3.lt
    have nk2 := k2.lt
    have nk5 := k5.lt
    have nk6 := k6.lt
    have nkx := kx.lt
    have c3 := k3.cell (k := 0) rfl
    have c6 := k6.cell (k := 0) rfl
    have cx0 := kx.cell (k := 0) rfl
    have cx1 := kx.cell (k := 1) rfl
    have cx2 := kx.cell (k := 2) rfl
    have cx3 := kx.cell (k := 3) rfl
    have cx4 := kx.cell (k := 4) rfl
    gi_wp2_with fail
    clear nk3 nk2 nk5 nk6 nkx c3 c6 cx0 cx1 cx2 cx3 cx4
    obtain ⟨w6, hA⟩ : ∃ w6, w5.alloc (.cells (plC p) 33) = w6 := ⟨_, rfl⟩
    have hb6 : Below w5.heap.size w5 w6 := hA ▸ (Below.refl _ _).alloc (Nat.le_refl _) _
    have k8 : Blk w6 w5.heap.size 33 (plC p) := hA ▸ Blk.new w5 _ _
    rw [hA]
    have hM6 := hid (hM5.out.below hb6)
    have hBW6 : Below W.heap.size W w6 := hBW5.trans (hb6.mono hBW5.size)
    replace k3 := k3.low hb6
    replace k2 := k2.low hb6
    replace k5 := k5.low hb6
    replace k6 := k6.low hb6
    replace kx := kx.low hb6
    clear hA hb6 hM5 hBW5
    have nk3 := k3.lt
    have nk2 := k2.lt
    have nk5 := k5.lt
    have nk6 := k6.lt
    have nkx := kx.lt
    have nk8 := k8.lt
    have c3 := k3.cell (k := 0) rfl
    have c6 := k6.cell (k := 0) rfl
    have cx0 := kx.cell (k := 0) rfl
    have cx1 := kx.cell (k := 1) rfl
    have cx2 := kx.cell (k := 2) rfl
    have cx3 := kx.cell (k := 3) rfl
    have cx4 := kx.cell (k := 4) rfl
    have ce0 := k8.cell (k := 0) rfl
    have ce1 := k8.cell (k := 1) rfl
    have ce2 := k8.cell (k := 2) rfl
    have ce3 := k8.cell (k := 3) rfl
    have ce4 := k8.cell (k := 4) rfl
    gi_wp2_with fail
    clear nk3 nk2 nk5 nk6 nkx nk8 c3 c6 cx0 cx1 cx2 cx3 cx4 ce0 ce1 ce2 ce3 ce4
    refine ⟨trivial, ?_⟩
    have hC := hid (own_rune hM6.out hs hp)
    with_reducible refine (CallsIn.inRound l (callsIn_wide.2 hC.out)).mono ?_
    rintro e w7 ⟨rfl, hb7⟩
    have hM7 := hid (hM6.out.below hb7)
    have hBW7 : Below W.heap.size W w7 := hBW6.trans (hb7.mono hBW6.size)
    replace k3 := k3.low hb7
    replace k2 := k2.low hb7
    replace k5 := k5.low hb7
    replace k6 := k6.low hb7
    replace kx := kx.low hb7
    replace k8 := k8.low hb7
    clear hb7 hC hM6 hBW6
    have nk3 := k3.lt
    have nk2 := k2.lt
    have nk5 := k5.lt
    have nk6 := k6.lt
    have nkx := kx.lt
    have nk8 := k8.lt
    have c3 := k3.cell (k := 0) rfl
    have c6 := k6.cell (k := 0) rfl
    have cx0 := kx.cell (k := 0) rfl
    have cx1 := kx.cell (k := 1) rfl
    have cx2 := kx.cell (k := 2) rfl
    have cx3 := kx.cell (k := 3) rfl
    have cx4 := kx.cell (k := 4) rfl
    have ce0 := k8.cell (k := 0) rfl
    have ce1 := k8.cell (k := 1) rfl
    have ce2 := k8.cell (k := 2) rfl
    have ce3 := k8.cell (k := 3) rfl
    have ce4 := k8.cell (k := 4) rfl
    gi_wp2_with fail
    clear nk3 nk2 nk5 nk6 nkx nk8 c3 c6 cx0 cx1 cx2 cx3 cx4 ce0 ce1 ce2 ce3 ce4
    obtain ⟨w8, hA⟩ : ∃ w8, w7.alloc (.cells (plC p) 33) = w8 := ⟨_, rfl⟩
    have hb8 : Below w7.heap.size w7 w8 := hA ▸ (Below.refl _ _).alloc (Nat.le_refl _) _
    have k11 : Blk w8 w7.heap.size 33 (plC p) := hA ▸ Blk.new w7 _ _
    rw [hA]
    have hM8 := hid (hM7.out.below hb8)
    have hBW8 : Below W.heap.size W w8 := hBW7.trans (hb8.mono hBW7.size)
    replace k3 := k3.low hb8
    replace k2 := k2.low hb8
    replace k5 := k5.low hb8
    replace k6 := k6.low hb8
    replace kx := kx.low hb8
    replace k8 := k8.low hb8
    clear hA hb8 hM7 hBW7
    have nk3 := k3.lt
    have nk2 := k2.lt
    have nk5 := k5.lt
    have nk6 := k6.lt
    have nkx := kx.lt
    have nk8 := k8.lt
    have nk11 := k11.lt
    have c3 := k3.cell (k := 0) rfl
    have c6 := k6.cell (k := 0) rfl
    have cx0 := kx.cell (k := 0) rfl
    have cx1 := kx.cell (k := 1) rfl
    have cx2 := kx.cell (k := 2) rfl
    have cx3 := kx.cell (k := 3) rfl
    have cx4 := kx.cell (k := 4) rfl
    have ce0 := k8.cell (k := 0) rfl
    have ce1 := k8.cell (k := 1) rfl
    have ce2 := k8.cell (k := 2) rfl
    have ce3 := k8.cell (k := 3) rfl
    have ce4 := k8.cell (k := 4) rfl
    have cf0 := k11.cell (k := 0) rfl
    have cf1 := k11.cell (k := 1) rfl
    have cf2 := k11.cell (k := 2) rfl
    have cf3 := k11.cell (k := 3) rfl
    have cf4 := k11.cell (k := 4) rfl
    gi_wp2_with fail
    clear nk3 nk2 nk5 nk6 nkx nk8 nk11 c3 c6 cx0 cx1 cx2 cx3 cx4 ce0 ce1 ce2 ce3 ce4 cf0 cf1 cf2 cf3 cf4
    refine ⟨trivial, ?_⟩
    have hC := hid (own_unit hM8.out hs hp)
    with_reducible refine (CallsIn.inRound l (callsIn_wide.2 hC.out)).mono ?_
    rintro e w9 ⟨rfl, hb9⟩
    have hM9 := hid (hM8.out.below hb9)
    have hBW9 : Below W.heap.size W w9 := hBW8.trans (hb9.mono hBW8.size)
    replace k3 := k3.low hb9
    replace k2 := k2.low hb9
    replace k5 := k5.low hb9
    replace k6 := k6.low hb9
    replace kx := kx.low hb9
    replace k8 := k8.low hb9
    replace k11 := k11.low hb9
    clear hb9 hC hM8 hBW8
    have nk3 := k3.lt
    have nk2 := k2.lt
    have nk5 := k5.lt
    have nk6 := k6.lt
    have nkx := kx.lt
    have nk8 := k8.lt
    have nk11 := k11.lt
    have c3 := k3.cell (k := 0) rfl
    have c6 := k6.cell (k := 0) rfl
    have cx0 := kx.cell (k := 0) rfl
    have cx1 := kx.cell (k := 1) rfl
    have cx2 := kx.cell (k := 2) rfl
    have cx3 := kx.cell (k := 3) rfl
    have cx4 := kx.cell (k := 4) rfl
    have ce0 := k8.cell (k := 0) rfl
    have ce1 := k8.cell (k := 1) rfl
    have ce2 := k8.cell (k := 2) rfl
    have ce3 := k8.cell (k := 3) rfl
    have ce4 := k8.cell (k := 4) rfl
    have cf0 := k11.cell (k := 0) rfl
    have cf1 := k11.cell (k := 1) rfl
    have cf2 := k11.cell (k := 2) rfl
    have cf3 := k11.cell (k := 3) rfl
    have cf4 := k11.cell (k := 4) rfl
    gi_wp2_with fail
    clear nk3 nk2 nk5 nk6 nkx nk8 nk11 c3 c6 cx0 cx1 cx2 cx3 cx4 ce0 ce1 ce2 ce3 ce4 cf0 cf1 cf2 cf3 cf4
    obtain ⟨w10, hA⟩ : ∃ w10, w9.alloc (.cells (plC p) 33) = w10 := ⟨_, rfl⟩
    have hb10 : Below w9.heap.size w9 w10 := hA ▸ (Below.refl _ _).alloc (Nat.le_refl _) _
    have k13 : Blk w10 w9.heap.size 33 (plC p) := hA ▸ Blk.new w9 _ _
    rw [hA]
    have hM10 := hid (hM9.out.below hb10)
    have hBW10 : Below W.heap.size W w10 := hBW9.trans (hb10.mono hBW9.size)
    replace k3 := k3.low hb10
    replace k2 := k2.low hb10
    replace k5 := k5.low hb10
    replace k6 := k6.low hb10
    replace kx := kx.low hb10
    replace k8 := k8.low hb10
    replace k11 := k11.low hb10
    clear hA hb10 hM9 hBW9
    have nk3 := k3.lt
    have nk2 := k2.lt
    have nk5 := k5.lt
    have nk6 := k6.lt
    have nkx := kx.lt
    have nk8 := k8.lt
    have nk11 := k11.lt
    have nk13 := k13.lt
    have c3 := k3.cell (k := 0) rfl
    have c6 := k6.cell (k := 0) rfl
    have cx0 := kx.cell (k := 0) rfl
    have cx1 := kx.cell (k := 1) rfl
    have cx2 := kx.cell (k := 2) rfl
    have cx3 := kx.cell (k := 3) rfl
    have cx4 := kx.cell (k := 4) rfl
    have ce0 := k8.cell (k := 0) rfl
    have ce1 := k8.cell (k := 1) rfl
    have ce2 := k8.cell (k := 2) rfl
    have ce3 := k8.cell (k := 3) rfl
    have ce4 := k8.cell (k := 4) rfl
    have cf0 := k11.cell (k := 0) rfl
    have cf1 := k11.cell (k := 1) rfl
    have cf2 := k11.cell (k := 2) rfl
    have cf3 := k11.cell (k := 3) rfl
    have cf4 := k11.cell (k := 4) rfl
    have cg0 := k13.cell (k := 0) rfl
    have cg1 := k13.cell (k := 1) rfl
    have cg2 := k13.cell (k := 2) rfl
    have cg3 := k13.cell (k := 3) rfl
    have cg4 := k13.cell (k := 4) rfl
    gi_wp2_with fail
    clear nk3 nk2 nk5 nk6 nkx nk8 nk11 nk13 c3 c6 cx0 cx1 cx2 cx3 cx4 ce0 ce1 ce2 ce3 ce4 cf0 cf1 cf2 cf3 cf4 cg0 cg1 cg2 cg3 cg4
    refine ⟨trivial, ?_⟩
    have hC := hid (own_line hM10.out hs hp)
    with_reducible refine (CallsIn.inRound l (callsIn_wide.2 hC.out)).mono ?_
    rintro e w11 ⟨rfl, hb11⟩
    have hM11 := hid (hM10.out.below hb11)
    have hBW11 : Below W.heap.size W w11 := hBW10.trans (hb11.mono hBW10.size)
    replace k3 := k3.low hb11
    replace k2 := k2.low hb11
    replace k5 := k5.low hb11
    replace k6 := k6.low hb11
    replace kx := kx.low hb11
    replace k8 := k8.low hb11
    replace k11 := k11.low hb11
    replace k13 := k13.low hb11
    clear hb11 hC hM10 hBW10
    have nk3 := k3.lt
    have nk2 := k2.lt
    have nk5 := k5.lt
    have nk6 := k6.lt
    have nkx := kx.lt
    have nk8 := k8.lt
    have nk11 := k11.lt
    have nk13 := k13.lt
    have c3 := k3.cell (k := 0) rfl
    have c6 := k6.cell (k := 0) rfl
    have cx0 := kx.cell (k := 0) rfl
    have cx1 := kx.cell (k := 1) rfl
    have cx2 := kx.cell (k := 2) rfl
    have cx3 := kx.cell (k := 3) rfl
    have cx4 := kx.cell (k := 4) rfl
    have ce0 := k8.cell (k := 0) rfl
    have ce1 := k8.cell (k := 1) rfl
    have ce2 := k8.cell (k := 2) rfl
    have ce3 := k8.cell (k := 3) rfl
    have ce4 := k8.cell (k := 4) rfl
    have cf0 := k11.cell (k := 0) rfl
    have cf1 := k11.cell (k := 1) rfl
    have cf2 := k11.cell (k := 2) rfl
    have cf3 := k11.cell (k := 3) rfl
    have cf4 := k11.cell (k := 4) rfl
    have cg0 := k13.cell (k := 0) rfl
    have cg1 := k13.cell (k := 1) rfl
    have cg2 := k13.cell (k := 2) rfl
    have cg3 := k13.cell (k := 3) rfl
    have cg4 := k13.cell (k := 4) rfl
    rename_i K1 hK1 K0 hK0
    have HK1 := hid hK1
    clear hK1
    gi_wp2_with fail
    clear nk3 nk2 nk5 nk6 nkx nk8 nk11 nk13 c3 c6 cx0 cx1 cx2 cx3 cx4 ce0 ce1 ce2 ce3 ce4 cf0 cf1 cf2 cf3 cf4 cg0 cg1 cg2 cg3 cg4
    obtain ⟨w12, hA⟩ : ∃ w12, w11.alloc (.cells (plC p) 33) = w12 := ⟨_, rfl⟩
    have hb12 : Below w11.heap.size w11 w12 := hA ▸ (Below.refl _ _).alloc (Nat.le_refl _) _
    have k16 : Blk w12 w11.heap.size 33 (plC p) := hA ▸ Blk.new w11 _ _
    rw [hA]
    have hM12 := hid (hM11.out.below hb12)
    have hBW12 : Below W.heap.size W w12 := hBW11.trans (hb12.mono hBW11.size)
    replace k3 := k3.low hb12
    replace k2 := k2.low hb12
    replace k5 := k5.low hb12
    replace k6 := k6.low hb12
    replace kx := kx.low hb12
    replace k8 := k8.low hb12
    replace k11 := k11.low hb12
    replace k13 := k13.low hb12
    clear hA hb12 hM11 hBW11
    have f5 := k5.froz 0
    have f5b := k5.froz
    have f6 := k6.froz 0
    refine HK1.out _ _ ?_
    clear HK1
    rcases nil_or_snoc pre with rfl | ⟨L, q, rfl⟩
    · have k5' : Blk w12 (N0 + 1) 33 #[.int .i64 (-1), .int .i64 0, .int .i64 0, .int .i64 0, .int .i64 0] := k5
      have k6' : Blk w12 (N0 + 1 + 1) 3 #[.int .i64 0] := k6
      clear k5 k6 f5b
      have c6 := k6'.cell (k := 0) rfl
      have c2 := k2.cell (k := 0) rfl
      have c50 := k5'.cell (k := 0) rfl
      have c51 := k5'.cell (k := 1) rfl
      have c52 := k5'.cell (k := 2) rfl
      have c53 := k5'.cell (k := 3) rfl
      have c54 := k5'.cell (k := 4) rfl
      have n5 := k5'.lt
      have n6 := k6'.lt
      have f5x := k5'.froz
      have nk3 := k3.lt
      have nk2 := k2.lt
      have nkx := kx.lt
      have nk8 := k8.lt
      have nk11 := k11.lt
      have nk13 := k13.lt
      have nk16 := k16.lt
      have c3 := k3.cell (k := 0) rfl
      have cx0 := kx.cell (k := 0) rfl
      have cx1 := kx.cell (k := 1) rfl
      have cx2 := kx.cell (k := 2) rfl
      have cx3 := kx.cell (k := 3) rfl
      have cx4 := kx.cell (k := 4) rfl
      have ce0 := k8.cell (k := 0) rfl
      have ce1 := k8.cell (k := 1) rfl
      have ce2 := k8.cell (k := 2) rfl
      have ce3 := k8.cell (k := 3) rfl
      have ce4 := k8.cell (k := 4) rfl
      have cf0 := k11.cell (k := 0) rfl
      have cf1 := k11.cell (k := 1) rfl
      have cf2 := k11.cell (k := 2) rfl
      have cf3 := k11.cell (k := 3) rfl
      have cf4 := k11.cell (k := 4) rfl
      have cg0 := k13.cell (k := 0) rfl
      have cg1 := k13.cell (k := 1) rfl
      have cg2 := k13.cell (k := 2) rfl
      have cg3 := k13.cell (k := 3) rfl
      have cg4 := k13.cell (k := 4) rfl
      have ch0 := k16.cell (k := 0) rfl
      have ch1 := k16.cell (k := 1) rfl
      have ch2 := k16.cell (k := 2) rfl
      have ch3 := k16.cell (k := 3) rfl
      have ch4 := k16.cell (k := 4) rfl

      refine wpIn_seq_k ?_
      intro K2 hK2
      have HK2 := hid hK2
      clear hK2
      gi_wp2_with fail
      refine HK2.out _ _ ?_
      clear HK2
      dsimp only [List.append]
      gi_wp2_with fail
      exact one_fin hN (by omega) hBW12 (by have := hB.size; omega) hB k3 k2 k5' k6' (by simp)
    · have k5' : Blk w12 (N0 + 1) 33 (plC q) := lastC_snoc L q ▸ k5
      have k6' : Blk w12 (N0 + 1 + 1) 3 #[.int .i64 (L.length + 1 : Nat)] := by
        have := k6; rw [List.length_append] at this; exact this
      clear k5 k6 f5b
      have c6 := k6'.cell (k := 0) rfl
      have c2 := k2.cell (k := 0) rfl
      have c50 := k5'.cell (k := 0) rfl
      have c51 := k5'.cell (k := 1) rfl
      have c52 := k5'.cell (k := 2) rfl
      have c53 := k5'.cell (k := 3) rfl
      have c54 := k5'.cell (k := 4) rfl
      have n5 := k5'.lt
      have n6 := k6'.lt
      have f5x := k5'.froz
      have nk3 := k3.lt
      have nk2 := k2.lt
      have nkx := kx.lt
      have nk8 := k8.lt
      have nk11 := k11.lt
      have nk13 := k13.lt
      have nk16 := k16.lt
      have c3 := k3.cell (k := 0) rfl
      have cx0 := kx.cell (k := 0) rfl
      have cx1 := kx.cell (k := 1) rfl
      have cx2 := kx.cell (k := 2) rfl
      have cx3 := kx.cell (k := 3) rfl
      have cx4 := kx.cell (k := 4) rfl
      have ce0 := k8.cell (k := 0) rfl
      have ce1 := k8.cell (k := 1) rfl
      have ce2 := k8.cell (k := 2) rfl
      have ce3 := k8.cell (k := 3) rfl
      have ce4 := k8.cell (k := 4) rfl
      have cf0 := k11.cell (k := 0) rfl
      have cf1 := k11.cell (k := 1) rfl
      have cf2 := k11.cell (k := 2) rfl
      have cf3 := k11.cell (k := 3) rfl
      have cf4 := k11.cell (k := 4) rfl
      have cg0 := k13.cell (k := 0) rfl
      have cg1 := k13.cell (k := 1) rfl
      have cg2 := k13.cell (k := 2) rfl
      have cg3 := k13.cell (k := 3) rfl
      have cg4 := k13.cell (k := 4) rfl
      have ch0 := k16.cell (k := 0) rfl
      have ch1 := k16.cell (k := 1) rfl
      have ch2 := k16.cell (k := 2) rfl
      have ch3 := k16.cell (k := 3) rfl
      have ch4 := k16.cell (k := 4) rfl

      obtain ⟨e1, e2⟩ := prefix_last HN.out
      have hlen := (List.getElem?_eq_some_iff.1 e2).1
      have hP := (plOf_small s hs).1
      obtain ⟨x0, x1, x2, x3, x4, x5, x6⟩ := pl_next s e1 e2
      have hpq := pl_bd s hs e1
      clear e1 e2
      have y0 : decide (p.b ≤ q.b) = false := decide_eq_false (by omega)
      have y1 : ((p.r : Int) != (q.r : Int) + 1) = false := by rw [bne_eq_false_iff_eq]; omega
      have y2 : decide (p.u ≤ q.u) = false := decide_eq_false (by omega)
      have y3 : decide (p.l < q.l) = false := decide_eq_false (by omega)
      have y4 : IntKind.i64.wrap ((q.r : Int) + 1) = (q.r : Int) + 1 := IntWalk.i64_in _ (by omega)
      have y5 : IntKind.i64.wrap ((q.c : Int) + 1) = (q.c : Int) + 1 := IntWalk.i64_in _ (by omega)
      have y6 : IntKind.i64.wrap ((q.l : Int) + 1) = (q.l : Int) + 1 := IntWalk.i64_in _ (by omega)
      have y7 : (0 : Int) < ((L.length + 1 : Nat) : Int) := by omega
      have y12 : IntKind.i64.wrap ((L.length : Int) + 1 + 1) = (L.length : Int) + 1 + 1 := IntWalk.i64_in _ (by omega)
      rcases Nat.lt_or_eq_of_le x4 with hl | hl
      · obtain ⟨z1, z2⟩ := x6 hl
        have y8 : ((p.l : Int) == (q.l : Int)) = false := by rw [beq_eq_false_iff_ne]; omega
        have y9 : decide (q.l < p.l) = true := decide_eq_true hl
        have y10 : ((p.l : Int) != (q.l : Int) + 1) = false := by rw [bne_eq_false_iff_eq]; omega
        have y11 : ((p.c : Int) != 0) = false := by rw [bne_eq_false_iff_eq]; omega
        clear x0 x1 x2 x3 x4 x5 x6 hpq hlen hP z1 z2 hl
        refine wpIn_seq_k ?_
        intro K2 hK2
        have HK2 := hid hK2
        clear hK2
        gi_wp2_with fail
        refine HK2.out _ _ ?_
        clear HK2
        dsimp only [List.append]
        gi_wp2_with fail
        exact one_fin hN (by omega) hBW12 (by have := hB.size; omega) hB k3 k2 k5' k6' (congrArg (Value.int .i64) (by simp; omega))
      · have y8 : ((p.l : Int) == (q.l : Int)) = true := by rw [beq_iff_eq]; omega
        have y9 : decide (q.l < p.l) = false := decide_eq_false (by omega)
        have y10 : ((p.c : Int) != (q.c : Int) + 1) = false := by rw [bne_eq_false_iff_eq]; have := x5 hl.symm; omega
        clear x0 x1 x2 x3 x4 x5 x6 hpq hlen hP hl
        refine wpIn_seq_k ?_
        intro K2 hK2
        have HK2 := hid hK2
        clear hK2
        gi_wp2_with fail
        refine HK2.out _ _ ?_
        clear HK2
        dsimp only [List.append]
        gi_wp2_with fail
        exact one_fin hN (by omega) hBW12 (by have := hB.size; omega) hB k3 k2 k5' k6' (congrArg (Value.int .i64) (by simp; omega))
  case done =>
    rintro Dk W hDk ⟨⟨⟨k3, k2⟩, ⟨k5, k6⟩⟩, hB⟩ hK
    subst hT hD
    obtain ⟨L, hL⟩ : ∃ L, plOf s = L ++ [lastP s] := by
      rcases nil_or_snoc (plOf s) with h | ⟨L, q, h⟩
      · have := plOf_len s; rw [h] at this; simp at this
      · have h2 := last_get s
        have h3 := plOf_len s
        rw [h] at h2 h3
        rw [List.length_append] at h3
        have h4 : (fin s).ps.length = L.length := by simp at h3; omega
        rw [h4] at h2
        simp at h2
        exact ⟨L, by rw [h, h2]⟩
    have k5' : Blk W (N0 + 1) 33 (plC (lastP s)) := by rw [hL, lastC_snoc] at k5; exact k5
    have k6' : Blk W (N0 + 1 + 1) 3 #[.int .i64 (L.length + 1 : Nat)] := by
      rw [hL, List.length_append] at k6; exact k6
    have hMW := hid (hM.out.below (hN0 ▸ h24.trans (hB.mono (by omega))))
    have hE : Hid (∀ x : Ext W, Calls Try.prog 21 #[.pointer (some ⟨b, 0, none⟩)] x.w fun e w' => e = .returned (plV (lastP s)) ∧ Below x.w.heap.size x.w w') := fun x => own_end (hMW.out.below x.h) hs
    have hWk : Hid (∀ x : Ext W, Calls Try.prog 12 #[] x.w fun e w' => e = .returned (.bool true) ∧ Below x.w.heap.size x.w w') := fun x => works_any x.w
    clear k5 k6 hL
    have c3 := k3.cell (k := 0) rfl
    have c6 := k6'.cell (k := 0) rfl
    have c50 := k5'.cell (k := 0) rfl
    have c51 := k5'.cell (k := 1) rfl
    have c52 := k5'.cell (k := 2) rfl
    have c53 := k5'.cell (k := 3) rfl
    have c54 := k5'.cell (k := 4) rfl
    have y7 : (0 : Int) < ((L.length + 1 : Nat) : Int) := by omega
    gi_wp2_with fail
    refine ext_tailIn 11 (by kernel_rfl) (WideF.wide _ _) (by kernel_rfl) (by kernel_rfl) ?_
    simp only [List.take_succ_cons, List.take_zero, List.drop_succ_cons, List.drop_zero]
    repeat (quiet_step ((first | (with_reducible exact Ext.call (hE.out _)) | (with_reducible exact Ext.call (hWk.out _)))))
    refine wpQuiet_nil ?_
    rintro _ ⟨x, rfl⟩
    have k2x := k2.low x.h
    have hKx := (x.h.block Dk (Array.getElem?_eq_some_iff.1 hK).1).trans hK
    have c2x := k2x.cell (k := 0) rfl
    have n2x := k2x.lt
    have f2x := k2x.froz 0
    gi_wp2_with fail
    have hK2 : (x.w.setCell ⟨w.heap.size, 0, none⟩ (.bool true)).heap[Dk]? = some (.deferred (some [])) := (KeepsOthers.setCell _ _ _).same Dk _ hKx rfl
    refine ⟨by simp, .inl ⟨_, _, rfl, run_takeDeferred hK2, ?_⟩⟩
    have hcc : ((x.w.setCell ⟨w.heap.size, 0, none⟩ (.bool true)).putObj Dk (.deferred none)).cell? ⟨w.heap.size, 0, none⟩ = some (.bool true) :=
      cell_kept (World.cell?_setCell_same' _ _ _ (by rw [c2x]; rfl)) (grownBy_putObj' _ Dk (.deferred none)) (fun r e => by cases e; exact ⟨_, hK2, rfl⟩)
    have hs4 := ba.size
    have hFin : Below w.heap.size w ((x.w.setCell ⟨w.heap.size, 0, none⟩ (.bool true)).putObj Dk (.deferred none)) :=
      ((ba.trans ((hB.mono (by omega)).trans (x.h.mono (by have := hB.size; omega)))).setCell (p := ⟨w.heap.size, 0, none⟩) (Nat.le_refl _) _).trans (belowK_b hs4 _ _ _ _ hDk hK2 rfl rfl)
    clear hE hWk
    exact ⟨_, by simp [results, Try.results4, go_sem, hcc], rfl, hFin⟩
  case stop =>
    rintro Dk c pre W hDk hpre h _
    exact h.elim
set_option maxRecDepth 100000 in
set_option maxHeartbeats 4000000 in
theorem one_long (s : ByteArray) (w : World) (hs : 65536 < s.size) (hm : s.size ≤ maxLen) :
    Calls Try.prog 4 #[.string s] w fun e w' => e = .returned (.bool true) ∧ Below w.heap.size w w' := by
  have d0 : decide ((65536:Int) < s.size) = true := decide_eq_true (by omega)
  go_enter Try.func4, Try.ntmps4
  go_wp2_with fail
  obtain ⟨wa, hA⟩ : ∃ wa, w.alloc (.cells #[.bool false] 4) = wa := ⟨_, rfl⟩
  have k2 : Blk wa w.heap.size 4 #[.bool false] := hA ▸ Blk.new w _ _
  have ba : Below w.heap.size w wa := hA ▸ (Below.refl _ _).alloc (Nat.le_refl _) _
  rw [hA]
  clear hA
  have hW := hid (works_any wa)
  with_reducible refine Calls.mono hW.out ?_
  rintro e w1 ⟨rfl, hb1⟩
  replace k2 := k2.low hb1
  replace ba := ba.trans (hb1.mono ba.size)
  clear hb1 hW
  go_wp2_with fail
  have hN := hid (new_long s w1 hs hm)
  with_reducible refine Calls.mono hN.out ?_
  rintro e w2 ⟨rfl, hb2⟩
  replace k2 := k2.low hb2
  replace ba := ba.trans (hb2.mono ba.size)
  clear hb2 hN
  go_wp2_with fail
  generalize hA : World.alloc _ _ = w3
  have hb3 : Below w2.heap.size w2 w3 := hA ▸ (Below.refl _ _).alloc (Nat.le_refl _) _
  replace k2 := k2.low hb3
  replace ba := ba.trans (hb3.mono ba.size)
  clear hb3 hA
  have hW := hid (works_any w3)
  with_reducible refine Calls.mono hW.out ?_
  rintro e w4 ⟨rfl, hb4⟩
  replace k2 := k2.low hb4
  replace ba := ba.trans (hb4.mono ba.size)
  clear hb4 hW
  have c2 := k2.cell (k := 0) rfl
  have n2 := k2.lt
  have f2 := k2.froz 0
  go_wp2_with fail
  try rw [Exit.noGoto_ret]
  have hcc : (w4.setCell ⟨w.heap.size, 0, none⟩ (.bool true)).cell? ⟨w.heap.size, 0, none⟩ = some (.bool true) := World.cell?_setCell_same' _ _ _ (by rw [c2]; rfl)
  exact bodyPost_ret (v := .bool true) (by simp [results, Try.results4, go_sem, hcc]) rfl ⟨rfl, ba.setCell (p := ⟨w.heap.size, 0, none⟩) (Nat.le_refl _) _⟩
theorem one_walk (s : ByteArray) (w : World) (hm : s.size ≤ maxLen) :
    Calls Try.prog 4 #[.string s] w fun e w' => e = .returned (.bool true) ∧ Below w.heap.size w w' := by
  by_cases hs : s.size ≤ 65536
  · exact one_main s w hs
  · exact one_long s w (by omega) hm
end Go.Proofs.Ytkobfjiadfedlaa
