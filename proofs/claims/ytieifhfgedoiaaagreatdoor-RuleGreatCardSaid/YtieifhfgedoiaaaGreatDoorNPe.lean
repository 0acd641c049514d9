/- The next phone of a text: the long ones. Conditions: those of each theorem. -/
import Derived.Test.YtieifhfgedoiaaaGreatDoorNPhD
namespace Go.Proofs.YtieifhfgedoiaaaGreatDoor
open Go.RowKit Go.Lib
open Go.ChangeMaps
set_option linter.unusedVariables false
set_option linter.unusedSimpArgs false
theorem size_set (w : World) (b k : Nat) (v : Value) : (w.setCell ⟨b, k, none⟩ v).heap.size = w.heap.size := by simp [World.setCell]
theorem Blk.c7 {W : World} {B : Nat} {t : TypeId} {a b c d e f g : Value} (h : Blk W B t #[a, b, c, d, e, f, g]) : W.cell? ⟨B, 0, none⟩ = some a ∧ W.cell? ⟨B, 1, none⟩ = some b ∧ W.cell? ⟨B, 2, none⟩ = some c ∧ W.cell? ⟨B, 3, none⟩ = some d ∧ W.cell? ⟨B, 4, none⟩ = some e ∧ W.cell? ⟨B, 5, none⟩ = some f ∧ W.cell? ⟨B, 6, none⟩ = some g ∧ ∀ k, W.frozen? ⟨B, k, none⟩ = false :=
 ⟨h.cell (k := 0) rfl, h.cell (k := 1) rfl, h.cell (k := 2) rfl, h.cell (k := 3) rfl, h.cell (k := 4) rfl, h.cell (k := 5) rfl, h.cell (k := 6) rfl, h.froz⟩
set_option maxRecDepth 100000 in
set_option maxHeartbeats 4000000 in
theorem next_lc {w : World} {m : Nat} (hT : Tab w m rowsS) (s : ByteArray) (hp : 0 < s.size) (hs : s.size ≤ 140737488355328) {t : Tr} (htr0 : trOf (rnN s 0) = some t) (hv : t.vowel = false) (hl : stB s (wdN s 0) [203, 144] = true) :
  Calls Tryz.prog 86 #[.map (some m), .string s] w fun e w' => e = .returned (.tuple #[.agg #[.int .i32 (rnN s 0), .bool true, .int .i32 0], .int .i64 ((wdN s 0 + 2 : Nat) : Int)]) ∧ Below w.heap.size w w' := by
 have hnx := fun (wr : World) (k : Nat) ty h => run_next_any_at (P := Tryz.prog) wr k s 0 ty h hp
 change ∀ (wr : World) (k : Nat) ty, wr.heap[k]? = some (.stringIter s 0) → (Instr.next (.pointer (some ⟨k, 0, none⟩)) true ty).run Tryz.prog wr = .ok (.tuple #[.bool true, .int .i64 ((0 : Nat) : Int), .int .i32 (rnN s 0)]) (wr.iterAt k s (0 + wdN s 0)) at hnx
 have hrb := hid (rn_bd hp)
 have hwd := wdN_pos hp
 rw [Nat.zero_add] at hwd
 rw [show ((wdN s 0 + 2 : Nat) : Int) = ((wdN s 0 : Int) + 2) by omega]
 have htr := htr0
 have hew := enc_wd hp htr0
 clear htr0
 have HP := hid (fun (t : ByteArray) (ht : t.size ≤ 100) (a : Nat) (ha : a ≤ s.size) (w' : World) => hasPrefix_any (s.extract a s.size) t (by rw [ext_size]; omega) (by omega) w')
 have P1 := fun w' => HP.out ⟨#[203, 144]⟩ (show 2 ≤ 100 by decide) (wdN s 0) hwd.2.2 w'
 simp only [stB_ext s (wdN s 0) 0 hwd.2.2, Nat.add_zero, show ((⟨#[203, 144]⟩ : ByteArray).data.toList) = [203, 144] from rfl, hl] at P1
 have hP1 := hid P1
 clear P1
 obtain ⟨tv, th, tb, tr, tp, tm, tc⟩ := t
 obtain rfl : tv = false := hv
 clear HP hl
 have hTT := hid hT
 have hml : m < w.heap.size := by
  obtain ⟨f, h1, _⟩ := hT.e
  exact h1.lt
 clear hT
 generalize rnN s 0 = r at *
 generalize wdN s 0 = wd at *
 go_enter Tryz.func86, Tryz.ntmps86
 go_wp2_with fail
 have K4 := hid ((Blk.new w 60 #[.int .i32 0, .bool false, .int .i32 0]).alloc (.cells #[.int .i32 0, .bool false, .int .i32 0] 60) |>.alloc (.stringIter s 0))
 have K6 : Hid (Blk _ (w.heap.size + 1) 60 #[.int .i32 0, .bool false, .int .i32 0]) := hid (((World.size_alloc w (.cells #[.int .i32 0, .bool false, .int .i32 0] 60)) ▸ Blk.new (w.alloc (.cells #[.int .i32 0, .bool false, .int .i32 0] 60)) 60 #[.int .i32 0, .bool false, .int .i32 0]).alloc (.stringIter s 0))
 have HI : Hid (_ = _) := hid (heap_alloc_new ((w.alloc (.cells #[.int .i32 0, .bool false, .int .i32 0] 60)).alloc (.cells #[.int .i32 0, .bool false, .int .i32 0] 60)) (.stringIter s 0))
 rw [World.size_alloc, World.size_alloc] at HI
 have HB := hid ((((Below.refl w.heap.size w).alloc (Nat.le_refl _) (.cells #[.int .i32 0, .bool false, .int .i32 0] 60)).alloc (by simp) (.cells #[.int .i32 0, .bool false, .int .i32 0] 60)).alloc (by simp; omega) (.stringIter s 0))
 refine wp_loop_rounds 1 ?_
 rw [rounds_succ]
 change Hid (Blk (((w.alloc (.cells #[.int .i32 0, .bool false, .int .i32 0] 60)).alloc (.cells #[.int .i32 0, .bool false, .int .i32 0] 60)).iter s 0) w.heap.size 60 #[.int .i32 0, .bool false, .int .i32 0]) at K4
 change Hid (Blk (((w.alloc (.cells #[.int .i32 0, .bool false, .int .i32 0] 60)).alloc (.cells #[.int .i32 0, .bool false, .int .i32 0] 60)).iter s 0) (w.heap.size + 1) 60 #[.int .i32 0, .bool false, .int .i32 0]) at K6
 change Hid ((((w.alloc (.cells #[.int .i32 0, .bool false, .int .i32 0] 60)).alloc (.cells #[.int .i32 0, .bool false, .int .i32 0] 60)).iter s 0).heap[w.heap.size + 1 + 1]? = some (.stringIter s 0)) at HI
 change Hid (Below w.heap.size w (((w.alloc (.cells #[.int .i32 0, .bool false, .int .i32 0] 60)).alloc (.cells #[.int .i32 0, .bool false, .int .i32 0] 60)).iter s 0)) at HB
 generalize ((w.alloc (.cells #[.int .i32 0, .bool false, .int .i32 0] 60)).alloc (.cells #[.int .i32 0, .bool false, .int .i32 0] 60)).iter s 0 = W0 at *
 obtain ⟨N, hN⟩ : ∃ N, w.heap.size = N := ⟨_, rfl⟩
 rw [hN] at K4 K6 HI HB hml
 simp only [hN]
 have HN := hid hN
 clear hN
 have hne : ∀ ty, (Instr.next (.pointer (some ⟨N + 1 + 1, 0, none⟩)) true ty).run Tryz.prog W0 = _ := fun ty => hnx W0 _ ty HI.out
 clear hnx
 replace K4 := hid ((iterAt_other W0 (N + 1 + 1) N s (0 + wd) (by omega)).trans K4.out)
 replace K6 := hid ((iterAt_other W0 (N + 1 + 1) (N + 1) s (0 + wd) (by omega)).trans K6.out)
 replace HB := hid (below_iterAt HB.out (k := N + 1 + 1) (by omega) s (0 + wd))
 change Hid (Blk (W0.iterAt (N + 1 + 1) s (0 + wd)) N 60 #[.int .i32 0, .bool false, .int .i32 0]) at K4
 change Hid (Blk (W0.iterAt (N + 1 + 1) s (0 + wd)) (N + 1) 60 #[.int .i32 0, .bool false, .int .i32 0]) at K6
 generalize W0.iterAt (N + 1 + 1) s (0 + wd) = W1 at *
 clear HI
 have HB0 : Hid (Below w.heap.size w W1) := by have := HB.out; rw [← HN.out] at this; exact hid this
 have hlk := tab_look (w := W1.setCell ⟨N + 1, 0, none⟩ (.int .i32 r)) (m := m) (by
  exact hTT.out.low (below_set HB0.out (b := N + 1) (by have := HN.out; omega) 0 (.int .i32 r))) r hrb.out
 rw [htr] at hlk
 simp only [Option.getD, Option.isSome, Tr.val, Tr.none] at hlk
 obtain ⟨d0, d1, d2, df⟩ := K6.out.c3
 obtain ⟨f0, f1, f2, ff⟩ := K4.out.c3
 have hlN := K4.out.lt
 have hlP := K6.out.lt
 clear htr
 go_wp2_with (first | (go_at_call 48; (with_reducible refine Calls.mono (hP1.out _) ?_); rintro e w1 ⟨rfl, hw⟩; have K6b : Hid (Blk w1 (N + 1) 60 #[.int .i32 r, .bool false, .int .i32 0]) := hid (hw ▸ ((K6.out.set 0 (.int .i32 r)).alloc (.cells #[.bool false, .int .i64 th, .int .i64 tb, .bool tr, .int .i64 tp, .int .i64 tm, .bool tc] 169))); have K4b : Hid (Blk w1 N 60 #[.int .i32 0, .bool false, .int .i32 0]) := hid (hw ▸ ((K4.out.other (B' := N + 1) (by omega) (k := 0) (.int .i32 r)).alloc (.cells #[.bool false, .int .i64 th, .int .i64 tb, .bool tr, .int .i64 tp, .int .i64 tm, .bool tc] 169))); have K9b : Hid (Blk w1 W1.heap.size 169 #[.bool false, .int .i64 th, .int .i64 tb, .bool tr, .int .i64 tp, .int .i64 tm, .bool tc]) := hid (hw ▸ (size_set W1 (N + 1) 0 (.int .i32 r) ▸ Blk.new (W1.setCell ⟨N + 1, 0, none⟩ (.int .i32 r)) 169 #[.bool false, .int .i64 th, .int .i64 tb, .bool tr, .int .i64 tp, .int .i64 tm, .bool tc])); have HBb : Hid (Below w.heap.size w w1) := hid (hw ▸ ((below_set HB0.out (b := N + 1) (by have := HN.out; omega) 0 (.int .i32 r)).alloc (by have := HB0.out.size; rw [size_set]; exact this) (.cells #[.bool false, .int .i64 th, .int .i64 tb, .bool tr, .int .i64 tp, .int .i64 tm, .bool tc] 169))); clear hw d0 d1 d2 df f0 f1 f2 ff hlN hlP K4 K6 HB HB0 hlk hP1; generalize W1.heap.size = B9 at *; obtain ⟨d0, d1, d2, df⟩ := K6b.out.c3; obtain ⟨f0, f1, f2, ff⟩ := K4b.out.c3; obtain ⟨h0, h1, h2, h3, h4, h5, h6, hf⟩ := K9b.out.c7; have hlN := K4b.out.lt; have hlP := K6b.out.lt; have hn9 : N + 1 ≠ B9 := blk_ne K6b.out K9b.out (by decide); have hn8 : N ≠ B9 := blk_ne K4b.out K9b.out (by decide); have HB0 := HBb))
 refine bodyPost_ret (v := .tuple #[.agg #[.int .i32 (r), .bool true, .int .i32 0], .int .i64 ((wd : Int) + 2)]) (by simp [results, Tryz.results86, go_sem, f0, f1, f2, ff, hlN, hlP]) rfl ⟨rfl, ?_⟩
 have hB := HB0.out
 have hNN := HN.out
 repeat' (first | exact hB | refine below_set ?_ ?_ _ _ | refine Below.alloc ?_ ?_ _ | (have := hB.size; simp; omega) | omega)
set_option maxRecDepth 100000 in
set_option maxHeartbeats 4000000 in
theorem next_li {w : World} {m : Nat} (hT : Tab w m rowsS) (s : ByteArray) (hp : 0 < s.size) (hs : s.size ≤ 140737488355328) {t : Tr} (htr0 : trOf (rnN s 0) = some t) (hv : t.vowel = true) (hl : stB s (wdN s 0) [203, 144] = true) (hi : stB s (wdN s 0 + 2) [105, 204, 175] = true) :
  Calls Tryz.prog 86 #[.map (some m), .string s] w fun e w' => e = .returned (.tuple #[.agg #[.int .i32 (rnN s 0), .bool true, .int .i32 105], .int .i64 ((wdN s 0 + 5 : Nat) : Int)]) ∧ Below w.heap.size w w' := by
 have hnx := fun (wr : World) (k : Nat) ty h => run_next_any_at (P := Tryz.prog) wr k s 0 ty h hp
 change ∀ (wr : World) (k : Nat) ty, wr.heap[k]? = some (.stringIter s 0) → (Instr.next (.pointer (some ⟨k, 0, none⟩)) true ty).run Tryz.prog wr = .ok (.tuple #[.bool true, .int .i64 ((0 : Nat) : Int), .int .i32 (rnN s 0)]) (wr.iterAt k s (0 + wdN s 0)) at hnx
 have hrb := hid (rn_bd hp)
 have hwd := wdN_pos hp
 rw [Nat.zero_add] at hwd
 rw [show ((wdN s 0 + 5 : Nat) : Int) = ((wdN s 0 : Int) + 2 + 1 + 2) by omega]
 have htr := htr0
 have hew := enc_wd hp htr0
 clear htr0
 have HP := hid (fun (t : ByteArray) (ht : t.size ≤ 100) (a : Nat) (ha : a ≤ s.size) (w' : World) => hasPrefix_any (s.extract a s.size) t (by rw [ext_size]; omega) (by omega) w')
 have P1 := fun w' => HP.out ⟨#[203, 144]⟩ (show 2 ≤ 100 by decide) (wdN s 0) hwd.2.2 w'
 simp only [stB_ext s (wdN s 0) 0 hwd.2.2, Nat.add_zero, show ((⟨#[203, 144]⟩ : ByteArray).data.toList) = [203, 144] from rfl, hl] at P1
 have hP1 := hid P1
 clear P1
 have hlr : wdN s 0 + 2 ≤ s.size := stB_le hl
 have t2 : ((wdN s 0 : Int) + 2).toNat = wdN s 0 + 2 := by omega
 have P2 := fun w' => HP.out ⟨#[105, 204, 175]⟩ (show 3 ≤ 100 by decide) (wdN s 0 + 2) hlr w'
 simp only [stB_ext s (wdN s 0 + 2) 0 hlr, Nat.add_zero, show ((⟨#[105, 204, 175]⟩ : ByteArray).data.toList) = [105, 204, 175] from rfl, hi] at P2
 have hP2 := hid P2
 clear P2
 obtain ⟨tv, th, tb, tr, tp, tm, tc⟩ := t
 obtain rfl : tv = true := hv
 clear HP hl hi
 have hTT := hid hT
 have hml : m < w.heap.size := by
  obtain ⟨f, h1, _⟩ := hT.e
  exact h1.lt
 clear hT
 generalize rnN s 0 = r at *
 generalize wdN s 0 = wd at *
 go_enter Tryz.func86, Tryz.ntmps86
 go_wp2_with fail
 have K4 := hid ((Blk.new w 60 #[.int .i32 0, .bool false, .int .i32 0]).alloc (.cells #[.int .i32 0, .bool false, .int .i32 0] 60) |>.alloc (.stringIter s 0))
 have K6 : Hid (Blk _ (w.heap.size + 1) 60 #[.int .i32 0, .bool false, .int .i32 0]) := hid (((World.size_alloc w (.cells #[.int .i32 0, .bool false, .int .i32 0] 60)) ▸ Blk.new (w.alloc (.cells #[.int .i32 0, .bool false, .int .i32 0] 60)) 60 #[.int .i32 0, .bool false, .int .i32 0]).alloc (.stringIter s 0))
 have HI : Hid (_ = _) := hid (heap_alloc_new ((w.alloc (.cells #[.int .i32 0, .bool false, .int .i32 0] 60)).alloc (.cells #[.int .i32 0, .bool false, .int .i32 0] 60)) (.stringIter s 0))
 rw [World.size_alloc, World.size_alloc] at HI
 have HB := hid ((((Below.refl w.heap.size w).alloc (Nat.le_refl _) (.cells #[.int .i32 0, .bool false, .int .i32 0] 60)).alloc (by simp) (.cells #[.int .i32 0, .bool false, .int .i32 0] 60)).alloc (by simp; omega) (.stringIter s 0))
 refine wp_loop_rounds 1 ?_
 rw [rounds_succ]
 change Hid (Blk (((w.alloc (.cells #[.int .i32 0, .bool false, .int .i32 0] 60)).alloc (.cells #[.int .i32 0, .bool false, .int .i32 0] 60)).iter s 0) w.heap.size 60 #[.int .i32 0, .bool false, .int .i32 0]) at K4
 change Hid (Blk (((w.alloc (.cells #[.int .i32 0, .bool false, .int .i32 0] 60)).alloc (.cells #[.int .i32 0, .bool false, .int .i32 0] 60)).iter s 0) (w.heap.size + 1) 60 #[.int .i32 0, .bool false, .int .i32 0]) at K6
 change Hid ((((w.alloc (.cells #[.int .i32 0, .bool false, .int .i32 0] 60)).alloc (.cells #[.int .i32 0, .bool false, .int .i32 0] 60)).iter s 0).heap[w.heap.size + 1 + 1]? = some (.stringIter s 0)) at HI
 change Hid (Below w.heap.size w (((w.alloc (.cells #[.int .i32 0, .bool false, .int .i32 0] 60)).alloc (.cells #[.int .i32 0, .bool false, .int .i32 0] 60)).iter s 0)) at HB
 generalize ((w.alloc (.cells #[.int .i32 0, .bool false, .int .i32 0] 60)).alloc (.cells #[.int .i32 0, .bool false, .int .i32 0] 60)).iter s 0 = W0 at *
 obtain ⟨N, hN⟩ : ∃ N, w.heap.size = N := ⟨_, rfl⟩
 rw [hN] at K4 K6 HI HB hml
 simp only [hN]
 have HN := hid hN
 clear hN
 have hne : ∀ ty, (Instr.next (.pointer (some ⟨N + 1 + 1, 0, none⟩)) true ty).run Tryz.prog W0 = _ := fun ty => hnx W0 _ ty HI.out
 clear hnx
 replace K4 := hid ((iterAt_other W0 (N + 1 + 1) N s (0 + wd) (by omega)).trans K4.out)
 replace K6 := hid ((iterAt_other W0 (N + 1 + 1) (N + 1) s (0 + wd) (by omega)).trans K6.out)
 replace HB := hid (below_iterAt HB.out (k := N + 1 + 1) (by omega) s (0 + wd))
 change Hid (Blk (W0.iterAt (N + 1 + 1) s (0 + wd)) N 60 #[.int .i32 0, .bool false, .int .i32 0]) at K4
 change Hid (Blk (W0.iterAt (N + 1 + 1) s (0 + wd)) (N + 1) 60 #[.int .i32 0, .bool false, .int .i32 0]) at K6
 generalize W0.iterAt (N + 1 + 1) s (0 + wd) = W1 at *
 clear HI
 have HB0 : Hid (Below w.heap.size w W1) := by have := HB.out; rw [← HN.out] at this; exact hid this
 have hlk := tab_look (w := W1.setCell ⟨N + 1, 0, none⟩ (.int .i32 r)) (m := m) (by
  exact hTT.out.low (below_set HB0.out (b := N + 1) (by have := HN.out; omega) 0 (.int .i32 r))) r hrb.out
 rw [htr] at hlk
 simp only [Option.getD, Option.isSome, Tr.val, Tr.none] at hlk
 obtain ⟨d0, d1, d2, df⟩ := K6.out.c3
 obtain ⟨f0, f1, f2, ff⟩ := K4.out.c3
 have hlN := K4.out.lt
 have hlP := K6.out.lt
 clear htr
 go_wp2_with (first | (go_at_call 48; (with_reducible refine Calls.mono (hP1.out _) ?_); rintro e w1 ⟨rfl, hw⟩; have K6b : Hid (Blk w1 (N + 1) 60 #[.int .i32 r, .bool false, .int .i32 0]) := hid (hw ▸ ((K6.out.set 0 (.int .i32 r)).alloc (.cells #[.bool true, .int .i64 th, .int .i64 tb, .bool tr, .int .i64 tp, .int .i64 tm, .bool tc] 169))); have K4b : Hid (Blk w1 N 60 #[.int .i32 0, .bool false, .int .i32 0]) := hid (hw ▸ ((K4.out.other (B' := N + 1) (by omega) (k := 0) (.int .i32 r)).alloc (.cells #[.bool true, .int .i64 th, .int .i64 tb, .bool tr, .int .i64 tp, .int .i64 tm, .bool tc] 169))); have K9b : Hid (Blk w1 W1.heap.size 169 #[.bool true, .int .i64 th, .int .i64 tb, .bool tr, .int .i64 tp, .int .i64 tm, .bool tc]) := hid (hw ▸ (size_set W1 (N + 1) 0 (.int .i32 r) ▸ Blk.new (W1.setCell ⟨N + 1, 0, none⟩ (.int .i32 r)) 169 #[.bool true, .int .i64 th, .int .i64 tb, .bool tr, .int .i64 tp, .int .i64 tm, .bool tc])); have HBb : Hid (Below w.heap.size w w1) := hid (hw ▸ ((below_set HB0.out (b := N + 1) (by have := HN.out; omega) 0 (.int .i32 r)).alloc (by have := HB0.out.size; rw [size_set]; exact this) (.cells #[.bool true, .int .i64 th, .int .i64 tb, .bool tr, .int .i64 tp, .int .i64 tm, .bool tc] 169))); clear hw d0 d1 d2 df f0 f1 f2 ff hlN hlP K4 K6 HB HB0 hlk hP1; generalize W1.heap.size = B9 at *; obtain ⟨d0, d1, d2, df⟩ := K6b.out.c3; obtain ⟨f0, f1, f2, ff⟩ := K4b.out.c3; obtain ⟨h0, h1, h2, h3, h4, h5, h6, hf⟩ := K9b.out.c7; have hlN := K4b.out.lt; have hlP := K6b.out.lt; have hn9 : N + 1 ≠ B9 := blk_ne K6b.out K9b.out (by decide); have hn8 : N ≠ B9 := blk_ne K4b.out K9b.out (by decide); have HB0 := HBb) | (go_at_call 48; (with_reducible refine Calls.mono (hP2.out _) ?_); rintro e w2 ⟨rfl, hw⟩; have K6c : Hid (Blk w2 (N + 1) 60 #[.int .i32 r, .bool true, .int .i32 0]) := hid (hw ▸ K6b.out.set 1 (.bool true)); have K4c : Hid (Blk w2 N 60 #[.int .i32 0, .bool false, .int .i32 0]) := hid (hw ▸ K4b.out.other (B' := N + 1) (by omega) (k := 1) (.bool true)); have HBc : Hid (Below w.heap.size w w2) := hid (hw ▸ below_set HBb.out (b := N + 1) (by have := HN.out; omega) 1 (.bool true)); clear hw d0 d1 d2 df f0 f1 f2 ff hlN hlP K4b K6b HBb HB0 hP2 h0 h1 h2 h3 h4 h5 h6 hf; obtain ⟨d0, d1, d2, df⟩ := K6c.out.c3; obtain ⟨f0, f1, f2, ff⟩ := K4c.out.c3; have hlN := K4c.out.lt; have hlP := K6c.out.lt; have HB0 := HBc))
 refine bodyPost_ret (v := .tuple #[.agg #[.int .i32 (r), .bool true, .int .i32 105], .int .i64 ((wd : Int) + 2 + 1 + 2)]) (by simp [results, Tryz.results86, go_sem, f0, f1, f2, ff, hlN, hlP]) rfl ⟨rfl, ?_⟩
 have hB := HB0.out
 have hNN := HN.out
 repeat' (first | exact hB | refine below_set ?_ ?_ _ _ | refine Below.alloc ?_ ?_ _ | (have := hB.size; simp; omega) | omega)
set_option maxRecDepth 100000 in
set_option maxHeartbeats 4000000 in
theorem next_lu {w : World} {m : Nat} (hT : Tab w m rowsS) (s : ByteArray) (hp : 0 < s.size) (hs : s.size ≤ 140737488355328) {t : Tr} (htr0 : trOf (rnN s 0) = some t) (hv : t.vowel = true) (hl : stB s (wdN s 0) [203, 144] = true) (hi : stB s (wdN s 0 + 2) [105, 204, 175] = false) (hu : stB s (wdN s 0 + 2) [117, 204, 175] = true) :
  Calls Tryz.prog 86 #[.map (some m), .string s] w fun e w' => e = .returned (.tuple #[.agg #[.int .i32 (rnN s 0), .bool true, .int .i32 117], .int .i64 ((wdN s 0 + 5 : Nat) : Int)]) ∧ Below w.heap.size w w' := by
 have hnx := fun (wr : World) (k : Nat) ty h => run_next_any_at (P := Tryz.prog) wr k s 0 ty h hp
 change ∀ (wr : World) (k : Nat) ty, wr.heap[k]? = some (.stringIter s 0) → (Instr.next (.pointer (some ⟨k, 0, none⟩)) true ty).run Tryz.prog wr = .ok (.tuple #[.bool true, .int .i64 ((0 : Nat) : Int), .int .i32 (rnN s 0)]) (wr.iterAt k s (0 + wdN s 0)) at hnx
 have hrb := hid (rn_bd hp)
 have hwd := wdN_pos hp
 rw [Nat.zero_add] at hwd
 rw [show ((wdN s 0 + 5 : Nat) : Int) = ((wdN s 0 : Int) + 2 + 1 + 2) by omega]
 have htr := htr0
 have hew := enc_wd hp htr0
 clear htr0
 have HP := hid (fun (t : ByteArray) (ht : t.size ≤ 100) (a : Nat) (ha : a ≤ s.size) (w' : World) => hasPrefix_any (s.extract a s.size) t (by rw [ext_size]; omega) (by omega) w')
 have P1 := fun w' => HP.out ⟨#[203, 144]⟩ (show 2 ≤ 100 by decide) (wdN s 0) hwd.2.2 w'
 simp only [stB_ext s (wdN s 0) 0 hwd.2.2, Nat.add_zero, show ((⟨#[203, 144]⟩ : ByteArray).data.toList) = [203, 144] from rfl, hl] at P1
 have hP1 := hid P1
 clear P1
 have hlr : wdN s 0 + 2 ≤ s.size := stB_le hl
 have t2 : ((wdN s 0 : Int) + 2).toNat = wdN s 0 + 2 := by omega
 have P2 := fun w' => HP.out ⟨#[105, 204, 175]⟩ (show 3 ≤ 100 by decide) (wdN s 0 + 2) hlr w'
 simp only [stB_ext s (wdN s 0 + 2) 0 hlr, Nat.add_zero, show ((⟨#[105, 204, 175]⟩ : ByteArray).data.toList) = [105, 204, 175] from rfl, hi] at P2
 have hP2 := hid P2
 clear P2
 have P3 := fun w' => HP.out ⟨#[117, 204, 175]⟩ (show 3 ≤ 100 by decide) (wdN s 0 + 2) hlr w'
 simp only [stB_ext s (wdN s 0 + 2) 0 hlr, Nat.add_zero, show ((⟨#[117, 204, 175]⟩ : ByteArray).data.toList) = [117, 204, 175] from rfl, hu] at P3
 have hP3 := hid P3
 clear P3
 obtain ⟨tv, th, tb, tr, tp, tm, tc⟩ := t
 obtain rfl : tv = true := hv
 clear HP hl hi hu
 have hTT := hid hT
 have hml : m < w.heap.size := by
  obtain ⟨f, h1, _⟩ := hT.e
  exact h1.lt
 clear hT
 generalize rnN s 0 = r at *
 generalize wdN s 0 = wd at *
 go_enter Tryz.func86, Tryz.ntmps86
 go_wp2_with fail
 have K4 := hid ((Blk.new w 60 #[.int .i32 0, .bool false, .int .i32 0]).alloc (.cells #[.int .i32 0, .bool false, .int .i32 0] 60) |>.alloc (.stringIter s 0))
 have K6 : Hid (Blk _ (w.heap.size + 1) 60 #[.int .i32 0, .bool false, .int .i32 0]) := hid (((World.size_alloc w (.cells #[.int .i32 0, .bool false, .int .i32 0] 60)) ▸ Blk.new (w.alloc (.cells #[.int .i32 0, .bool false, .int .i32 0] 60)) 60 #[.int .i32 0, .bool false, .int .i32 0]).alloc (.stringIter s 0))
 have HI : Hid (_ = _) := hid (heap_alloc_new ((w.alloc (.cells #[.int .i32 0, .bool false, .int .i32 0] 60)).alloc (.cells #[.int .i32 0, .bool false, .int .i32 0] 60)) (.stringIter s 0))
 rw [World.size_alloc, World.size_alloc] at HI
 have HB := hid ((((Below.refl w.heap.size w).alloc (Nat.le_refl _) (.cells #[.int .i32 0, .bool false, .int .i32 0] 60)).alloc (by simp) (.cells #[.int .i32 0, .bool false, .int .i32 0] 60)).alloc (by simp; omega) (.stringIter s 0))
 refine wp_loop_rounds 1 ?_
 rw [rounds_succ]
 change Hid (Blk (((w.alloc (.cells #[.int .i32 0, .bool false, .int .i32 0] 60)).alloc (.cells #[.int .i32 0, .bool false, .int .i32 0] 60)).iter s 0) w.heap.size 60 #[.int .i32 0, .bool false, .int .i32 0]) at K4
 change Hid (Blk (((w.alloc (.cells #[.int .i32 0, .bool false, .int .i32 0] 60)).alloc (.cells #[.int .i32 0, .bool false, .int .i32 0] 60)).iter s 0) (w.heap.size + 1) 60 #[.int .i32 0, .bool false, .int .i32 0]) at K6
 change Hid ((((w.alloc (.cells #[.int .i32 0, .bool false, .int .i32 0] 60)).alloc (.cells #[.int .i32 0, .bool false, .int .i32 0] 60)).iter s 0).heap[w.heap.size + 1 + 1]? = some (.stringIter s 0)) at HI
 change Hid (Below w.heap.size w (((w.alloc (.cells #[.int .i32 0, .bool false, .int .i32 0] 60)).alloc (.cells #[.int .i32 0, .bool false, .int .i32 0] 60)).iter s 0)) at HB
 generalize ((w.alloc (.cells #[.int .i32 0, .bool false, .int .i32 0] 60)).alloc (.cells #[.int .i32 0, .bool false, .int .i32 0] 60)).iter s 0 = W0 at *
 obtain ⟨N, hN⟩ : ∃ N, w.heap.size = N := ⟨_, rfl⟩
 rw [hN] at K4 K6 HI HB hml
 simp only [hN]
 have HN := hid hN
 clear hN
 have hne : ∀ ty, (Instr.next (.pointer (some ⟨N + 1 + 1, 0, none⟩)) true ty).run Tryz.prog W0 = _ := fun ty => hnx W0 _ ty HI.out
 clear hnx
 replace K4 := hid ((iterAt_other W0 (N + 1 + 1) N s (0 + wd) (by omega)).trans K4.out)
 replace K6 := hid ((iterAt_other W0 (N + 1 + 1) (N + 1) s (0 + wd) (by omega)).trans K6.out)
 replace HB := hid (below_iterAt HB.out (k := N + 1 + 1) (by omega) s (0 + wd))
 change Hid (Blk (W0.iterAt (N + 1 + 1) s (0 + wd)) N 60 #[.int .i32 0, .bool false, .int .i32 0]) at K4
 change Hid (Blk (W0.iterAt (N + 1 + 1) s (0 + wd)) (N + 1) 60 #[.int .i32 0, .bool false, .int .i32 0]) at K6
 generalize W0.iterAt (N + 1 + 1) s (0 + wd) = W1 at *
 clear HI
 have HB0 : Hid (Below w.heap.size w W1) := by have := HB.out; rw [← HN.out] at this; exact hid this
 have hlk := tab_look (w := W1.setCell ⟨N + 1, 0, none⟩ (.int .i32 r)) (m := m) (by
  exact hTT.out.low (below_set HB0.out (b := N + 1) (by have := HN.out; omega) 0 (.int .i32 r))) r hrb.out
 rw [htr] at hlk
 simp only [Option.getD, Option.isSome, Tr.val, Tr.none] at hlk
 obtain ⟨d0, d1, d2, df⟩ := K6.out.c3
 obtain ⟨f0, f1, f2, ff⟩ := K4.out.c3
 have hlN := K4.out.lt
 have hlP := K6.out.lt
 clear htr
 go_wp2_with (first | (go_at_call 48; (with_reducible refine Calls.mono (hP1.out _) ?_); rintro e w1 ⟨rfl, hw⟩; have K6b : Hid (Blk w1 (N + 1) 60 #[.int .i32 r, .bool false, .int .i32 0]) := hid (hw ▸ ((K6.out.set 0 (.int .i32 r)).alloc (.cells #[.bool true, .int .i64 th, .int .i64 tb, .bool tr, .int .i64 tp, .int .i64 tm, .bool tc] 169))); have K4b : Hid (Blk w1 N 60 #[.int .i32 0, .bool false, .int .i32 0]) := hid (hw ▸ ((K4.out.other (B' := N + 1) (by omega) (k := 0) (.int .i32 r)).alloc (.cells #[.bool true, .int .i64 th, .int .i64 tb, .bool tr, .int .i64 tp, .int .i64 tm, .bool tc] 169))); have K9b : Hid (Blk w1 W1.heap.size 169 #[.bool true, .int .i64 th, .int .i64 tb, .bool tr, .int .i64 tp, .int .i64 tm, .bool tc]) := hid (hw ▸ (size_set W1 (N + 1) 0 (.int .i32 r) ▸ Blk.new (W1.setCell ⟨N + 1, 0, none⟩ (.int .i32 r)) 169 #[.bool true, .int .i64 th, .int .i64 tb, .bool tr, .int .i64 tp, .int .i64 tm, .bool tc])); have HBb : Hid (Below w.heap.size w w1) := hid (hw ▸ ((below_set HB0.out (b := N + 1) (by have := HN.out; omega) 0 (.int .i32 r)).alloc (by have := HB0.out.size; rw [size_set]; exact this) (.cells #[.bool true, .int .i64 th, .int .i64 tb, .bool tr, .int .i64 tp, .int .i64 tm, .bool tc] 169))); clear hw d0 d1 d2 df f0 f1 f2 ff hlN hlP K4 K6 HB HB0 hlk hP1; generalize W1.heap.size = B9 at *; obtain ⟨d0, d1, d2, df⟩ := K6b.out.c3; obtain ⟨f0, f1, f2, ff⟩ := K4b.out.c3; obtain ⟨h0, h1, h2, h3, h4, h5, h6, hf⟩ := K9b.out.c7; have hlN := K4b.out.lt; have hlP := K6b.out.lt; have hn9 : N + 1 ≠ B9 := blk_ne K6b.out K9b.out (by decide); have hn8 : N ≠ B9 := blk_ne K4b.out K9b.out (by decide); have HB0 := HBb) | (go_at_call 48; (with_reducible refine Calls.mono (hP2.out _) ?_); rintro e w2 ⟨rfl, hw⟩; have K6c : Hid (Blk w2 (N + 1) 60 #[.int .i32 r, .bool true, .int .i32 0]) := hid (hw ▸ K6b.out.set 1 (.bool true)); have K4c : Hid (Blk w2 N 60 #[.int .i32 0, .bool false, .int .i32 0]) := hid (hw ▸ K4b.out.other (B' := N + 1) (by omega) (k := 1) (.bool true)); have HBc : Hid (Below w.heap.size w w2) := hid (hw ▸ below_set HBb.out (b := N + 1) (by have := HN.out; omega) 1 (.bool true)); clear hw d0 d1 d2 df f0 f1 f2 ff hlN hlP K4b K6b HBb HB0 hP2 h0 h1 h2 h3 h4 h5 h6 hf; obtain ⟨d0, d1, d2, df⟩ := K6c.out.c3; obtain ⟨f0, f1, f2, ff⟩ := K4c.out.c3; have hlN := K4c.out.lt; have hlP := K6c.out.lt; have HB0 := HBc) | (go_at_call 48; (with_reducible refine Calls.mono (hP3.out _) ?_); rintro e w3 ⟨rfl, rfl⟩))
 refine bodyPost_ret (v := .tuple #[.agg #[.int .i32 (r), .bool true, .int .i32 117], .int .i64 ((wd : Int) + 2 + 1 + 2)]) (by simp [results, Tryz.results86, go_sem, f0, f1, f2, ff, hlN, hlP]) rfl ⟨rfl, ?_⟩
 have hB := HB0.out
 have hNN := HN.out
 repeat' (first | exact hB | refine below_set ?_ ?_ _ _ | refine Below.alloc ?_ ?_ _ | (have := hB.size; simp; omega) | omega)
set_option maxRecDepth 100000 in
set_option maxHeartbeats 4000000 in
theorem next_ln {w : World} {m : Nat} (hT : Tab w m rowsS) (s : ByteArray) (hp : 0 < s.size) (hs : s.size ≤ 140737488355328) {t : Tr} (htr0 : trOf (rnN s 0) = some t) (hv : t.vowel = true) (hl : stB s (wdN s 0) [203, 144] = true) (hi : stB s (wdN s 0 + 2) [105, 204, 175] = false) (hu : stB s (wdN s 0 + 2) [117, 204, 175] = false) :
  Calls Tryz.prog 86 #[.map (some m), .string s] w fun e w' => e = .returned (.tuple #[.agg #[.int .i32 (rnN s 0), .bool true, .int .i32 0], .int .i64 ((wdN s 0 + 2 : Nat) : Int)]) ∧ Below w.heap.size w w' := by
 have hnx := fun (wr : World) (k : Nat) ty h => run_next_any_at (P := Tryz.prog) wr k s 0 ty h hp
 change ∀ (wr : World) (k : Nat) ty, wr.heap[k]? = some (.stringIter s 0) → (Instr.next (.pointer (some ⟨k, 0, none⟩)) true ty).run Tryz.prog wr = .ok (.tuple #[.bool true, .int .i64 ((0 : Nat) : Int), .int .i32 (rnN s 0)]) (wr.iterAt k s (0 + wdN s 0)) at hnx
 have hrb := hid (rn_bd hp)
 have hwd := wdN_pos hp
 rw [Nat.zero_add] at hwd
 rw [show ((wdN s 0 + 2 : Nat) : Int) = ((wdN s 0 : Int) + 2) by omega]
 have htr := htr0
 have hew := enc_wd hp htr0
 clear htr0
 have HP := hid (fun (t : ByteArray) (ht : t.size ≤ 100) (a : Nat) (ha : a ≤ s.size) (w' : World) => hasPrefix_any (s.extract a s.size) t (by rw [ext_size]; omega) (by omega) w')
 have P1 := fun w' => HP.out ⟨#[203, 144]⟩ (show 2 ≤ 100 by decide) (wdN s 0) hwd.2.2 w'
 simp only [stB_ext s (wdN s 0) 0 hwd.2.2, Nat.add_zero, show ((⟨#[203, 144]⟩ : ByteArray).data.toList) = [203, 144] from rfl, hl] at P1
 have hP1 := hid P1
 clear P1
 have hlr : wdN s 0 + 2 ≤ s.size := stB_le hl
 have t2 : ((wdN s 0 : Int) + 2).toNat = wdN s 0 + 2 := by omega
 have P2 := fun w' => HP.out ⟨#[105, 204, 175]⟩ (show 3 ≤ 100 by decide) (wdN s 0 + 2) hlr w'
 simp only [stB_ext s (wdN s 0 + 2) 0 hlr, Nat.add_zero, show ((⟨#[105, 204, 175]⟩ : ByteArray).data.toList) = [105, 204, 175] from rfl, hi] at P2
 have hP2 := hid P2
 clear P2
 have P3 := fun w' => HP.out ⟨#[117, 204, 175]⟩ (show 3 ≤ 100 by decide) (wdN s 0 + 2) hlr w'
 simp only [stB_ext s (wdN s 0 + 2) 0 hlr, Nat.add_zero, show ((⟨#[117, 204, 175]⟩ : ByteArray).data.toList) = [117, 204, 175] from rfl, hu] at P3
 have hP3 := hid P3
 clear P3
 obtain ⟨tv, th, tb, tr, tp, tm, tc⟩ := t
 obtain rfl : tv = true := hv
 clear HP hl hi hu
 have hTT := hid hT
 have hml : m < w.heap.size := by
  obtain ⟨f, h1, _⟩ := hT.e
  exact h1.lt
 clear hT
 generalize rnN s 0 = r at *
 generalize wdN s 0 = wd at *
 go_enter Tryz.func86, Tryz.ntmps86
 go_wp2_with fail
 have K4 := hid ((Blk.new w 60 #[.int .i32 0, .bool false, .int .i32 0]).alloc (.cells #[.int .i32 0, .bool false, .int .i32 0] 60) |>.alloc (.stringIter s 0))
 have K6 : Hid (Blk _ (w.heap.size + 1) 60 #[.int .i32 0, .bool false, .int .i32 0]) := hid (((World.size_alloc w (.cells #[.int .i32 0, .bool false, .int .i32 0] 60)) ▸ Blk.new (w.alloc (.cells #[.int .i32 0, .bool false, .int .i32 0] 60)) 60 #[.int .i32 0, .bool false, .int .i32 0]).alloc (.stringIter s 0))
 have HI : Hid (_ = _) := hid (heap_alloc_new ((w.alloc (.cells #[.int .i32 0, .bool false, .int .i32 0] 60)).alloc (.cells #[.int .i32 0, .bool false, .int .i32 0] 60)) (.stringIter s 0))
 rw [World.size_alloc, World.size_alloc] at HI
 have HB := hid ((((Below.refl w.heap.size w).alloc (Nat.le_refl _) (.cells #[.int .i32 0, .bool false, .int .i32 0] 60)).alloc (by simp) (.cells #[.int .i32 0, .bool false, .int .i32 0] 60)).alloc (by simp; omega) (.stringIter s 0))
 refine wp_loop_rounds 1 ?_
 rw [rounds_succ]
 change Hid (Blk (((w.alloc (.cells #[.int .i32 0, .bool false, .int .i32 0] 60)).alloc (.cells #[.int .i32 0, .bool false, .int .i32 0] 60)).iter s 0) w.heap.size 60 #[.int .i32 0, .bool false, .int .i32 0]) at K4
 change Hid (Blk (((w.alloc (.cells #[.int .i32 0, .bool false, .int .i32 0] 60)).alloc (.cells #[.int .i32 0, .bool false, .int .i32 0] 60)).iter s 0) (w.heap.size + 1) 60 #[.int .i32 0, .bool false, .int .i32 0]) at K6
 change Hid ((((w.alloc (.cells #[.int .i32 0, .bool false, .int .i32 0] 60)).alloc (.cells #[.int .i32 0, .bool false, .int .i32 0] 60)).iter s 0).heap[w.heap.size + 1 + 1]? = some (.stringIter s 0)) at HI
 change Hid (Below w.heap.size w (((w.alloc (.cells #[.int .i32 0, .bool false, .int .i32 0] 60)).alloc (.cells #[.int .i32 0, .bool false, .int .i32 0] 60)).iter s 0)) at HB
 generalize ((w.alloc (.cells #[.int .i32 0, .bool false, .int .i32 0] 60)).alloc (.cells #[.int .i32 0, .bool false, .int .i32 0] 60)).iter s 0 = W0 at *
 obtain ⟨N, hN⟩ : ∃ N, w.heap.size = N := ⟨_, rfl⟩
 rw [hN] at K4 K6 HI HB hml
 simp only [hN]
 have HN := hid hN
 clear hN
 have hne : ∀ ty, (Instr.next (.pointer (some ⟨N + 1 + 1, 0, none⟩)) true ty).run Tryz.prog W0 = _ := fun ty => hnx W0 _ ty HI.out
 clear hnx
 replace K4 := hid ((iterAt_other W0 (N + 1 + 1) N s (0 + wd) (by omega)).trans K4.out)
 replace K6 := hid ((iterAt_other W0 (N + 1 + 1) (N + 1) s (0 + wd) (by omega)).trans K6.out)
 replace HB := hid (below_iterAt HB.out (k := N + 1 + 1) (by omega) s (0 + wd))
 change Hid (Blk (W0.iterAt (N + 1 + 1) s (0 + wd)) N 60 #[.int .i32 0, .bool false, .int .i32 0]) at K4
 change Hid (Blk (W0.iterAt (N + 1 + 1) s (0 + wd)) (N + 1) 60 #[.int .i32 0, .bool false, .int .i32 0]) at K6
 generalize W0.iterAt (N + 1 + 1) s (0 + wd) = W1 at *
 clear HI
 have HB0 : Hid (Below w.heap.size w W1) := by have := HB.out; rw [← HN.out] at this; exact hid this
 have hlk := tab_look (w := W1.setCell ⟨N + 1, 0, none⟩ (.int .i32 r)) (m := m) (by
  exact hTT.out.low (below_set HB0.out (b := N + 1) (by have := HN.out; omega) 0 (.int .i32 r))) r hrb.out
 rw [htr] at hlk
 simp only [Option.getD, Option.isSome, Tr.val, Tr.none] at hlk
 obtain ⟨d0, d1, d2, df⟩ := K6.out.c3
 obtain ⟨f0, f1, f2, ff⟩ := K4.out.c3
 have hlN := K4.out.lt
 have hlP := K6.out.lt
 clear htr
 go_wp2_with (first | (go_at_call 48; (with_reducible refine Calls.mono (hP1.out _) ?_); rintro e w1 ⟨rfl, hw⟩; have K6b : Hid (Blk w1 (N + 1) 60 #[.int .i32 r, .bool false, .int .i32 0]) := hid (hw ▸ ((K6.out.set 0 (.int .i32 r)).alloc (.cells #[.bool true, .int .i64 th, .int .i64 tb, .bool tr, .int .i64 tp, .int .i64 tm, .bool tc] 169))); have K4b : Hid (Blk w1 N 60 #[.int .i32 0, .bool false, .int .i32 0]) := hid (hw ▸ ((K4.out.other (B' := N + 1) (by omega) (k := 0) (.int .i32 r)).alloc (.cells #[.bool true, .int .i64 th, .int .i64 tb, .bool tr, .int .i64 tp, .int .i64 tm, .bool tc] 169))); have K9b : Hid (Blk w1 W1.heap.size 169 #[.bool true, .int .i64 th, .int .i64 tb, .bool tr, .int .i64 tp, .int .i64 tm, .bool tc]) := hid (hw ▸ (size_set W1 (N + 1) 0 (.int .i32 r) ▸ Blk.new (W1.setCell ⟨N + 1, 0, none⟩ (.int .i32 r)) 169 #[.bool true, .int .i64 th, .int .i64 tb, .bool tr, .int .i64 tp, .int .i64 tm, .bool tc])); have HBb : Hid (Below w.heap.size w w1) := hid (hw ▸ ((below_set HB0.out (b := N + 1) (by have := HN.out; omega) 0 (.int .i32 r)).alloc (by have := HB0.out.size; rw [size_set]; exact this) (.cells #[.bool true, .int .i64 th, .int .i64 tb, .bool tr, .int .i64 tp, .int .i64 tm, .bool tc] 169))); clear hw d0 d1 d2 df f0 f1 f2 ff hlN hlP K4 K6 HB HB0 hlk hP1; generalize W1.heap.size = B9 at *; obtain ⟨d0, d1, d2, df⟩ := K6b.out.c3; obtain ⟨f0, f1, f2, ff⟩ := K4b.out.c3; obtain ⟨h0, h1, h2, h3, h4, h5, h6, hf⟩ := K9b.out.c7; have hlN := K4b.out.lt; have hlP := K6b.out.lt; have hn9 : N + 1 ≠ B9 := blk_ne K6b.out K9b.out (by decide); have hn8 : N ≠ B9 := blk_ne K4b.out K9b.out (by decide); have HB0 := HBb) | (go_at_call 48; (with_reducible refine Calls.mono (hP2.out _) ?_); rintro e w2 ⟨rfl, hw⟩; have K6c : Hid (Blk w2 (N + 1) 60 #[.int .i32 r, .bool true, .int .i32 0]) := hid (hw ▸ K6b.out.set 1 (.bool true)); have K4c : Hid (Blk w2 N 60 #[.int .i32 0, .bool false, .int .i32 0]) := hid (hw ▸ K4b.out.other (B' := N + 1) (by omega) (k := 1) (.bool true)); have HBc : Hid (Below w.heap.size w w2) := hid (hw ▸ below_set HBb.out (b := N + 1) (by have := HN.out; omega) 1 (.bool true)); clear hw d0 d1 d2 df f0 f1 f2 ff hlN hlP K4b K6b HBb HB0 hP2 h0 h1 h2 h3 h4 h5 h6 hf; obtain ⟨d0, d1, d2, df⟩ := K6c.out.c3; obtain ⟨f0, f1, f2, ff⟩ := K4c.out.c3; have hlN := K4c.out.lt; have hlP := K6c.out.lt; have HB0 := HBc) | (go_at_call 48; (with_reducible refine Calls.mono (hP3.out _) ?_); rintro e w3 ⟨rfl, rfl⟩))
 refine bodyPost_ret (v := .tuple #[.agg #[.int .i32 (r), .bool true, .int .i32 0], .int .i64 ((wd : Int) + 2)]) (by simp [results, Tryz.results86, go_sem, f0, f1, f2, ff, hlN, hlP]) rfl ⟨rfl, ?_⟩
 have hB := HB0.out
 have hNN := HN.out
 repeat' (first | exact hB | refine below_set ?_ ?_ _ _ | refine Below.alloc ?_ ?_ _ | (have := hB.size; simp; omega) | omega)
end Go.Proofs.YtieifhfgedoiaaaGreatDoor
/- The next phone of a text, whatever stands there. Conditions: those of each theorem. -/
namespace Go.Proofs.YtieifhfgedoiaaaGreatDoor
open Go.RowKit Go.Lib
open Go.ChangeMaps
set_option linter.unusedVariables false
set_option linter.unusedSimpArgs false
theorem next_some {w : World} {m : Nat} (hT : Tab w m rowsS) (s : ByteArray) (hp : 0 < s.size) (hs : s.size ≤ 140737488355328) {x : Ph} {n : Nat} (h : phAt s 0 = some (x, n)) :
  Calls Tryz.prog 86 #[.map (some m), .string s] w fun e w' => e = .returned (.tuple #[x.val, .int .i64 n]) ∧ Below w.heap.size w w' := by
 unfold phAt at h
 cases htr : trOf (rnN s 0) with
 | none => rw [htr] at h; cases h
 | some t =>
  rw [htr] at h
  dsimp only at h
  rw [Nat.zero_add] at h
  cases hl : stB s (wdN s 0) [203, 144]
  ·rw [hl] at h
   simp only [Bool.false_eq_true, if_false, Nat.zero_add] at h
   by_cases hv : t.vowel = false
   ·rw [if_pos hv] at h
    injection h with h; injection h with h1 h2; subst h1 h2
    exact next_sc hT s hp hs htr hv hl
   ·rw [if_neg hv] at h
    have hv' : t.vowel = true := by simpa using hv
    cases hi : stB s (wdN s 0) [105, 204, 175]
    ·rw [hi] at h
     simp only [Bool.false_eq_true, if_false] at h
     cases hu : stB s (wdN s 0) [117, 204, 175]
     ·rw [hu] at h
      simp only [Bool.false_eq_true, if_false] at h
      injection h with h; injection h with h1 h2; subst h1 h2
      exact next_sn hT s hp hs htr hv' hl hi hu
     ·rw [hu] at h
      simp only [if_true] at h
      injection h with h; injection h with h1 h2; subst h1 h2
      exact next_su hT s hp hs htr hv' hl hi hu
    ·rw [hi] at h
     simp only [if_true] at h
     injection h with h; injection h with h1 h2; subst h1 h2
     exact next_si hT s hp hs htr hv' hl hi
  ·rw [hl] at h
   simp only [if_true, Nat.zero_add] at h
   by_cases hv : t.vowel = false
   ·rw [if_pos hv] at h
    injection h with h; injection h with h1 h2; subst h1 h2
    exact next_lc hT s hp hs htr hv hl
   ·rw [if_neg hv] at h
    have hv' : t.vowel = true := by simpa using hv
    cases hi : stB s (wdN s 0 + 2) [105, 204, 175]
    ·rw [hi] at h
     simp only [Bool.false_eq_true, if_false] at h
     cases hu : stB s (wdN s 0 + 2) [117, 204, 175]
     ·rw [hu] at h
      simp only [Bool.false_eq_true, if_false] at h
      injection h with h; injection h with h1 h2; subst h1 h2
      exact next_ln hT s hp hs htr hv' hl hi hu
     ·rw [hu] at h
      simp only [if_true] at h
      injection h with h; injection h with h1 h2; subst h1 h2
      exact next_lu hT s hp hs htr hv' hl hi hu
    ·rw [hi] at h
     simp only [if_true] at h
     injection h with h; injection h with h1 h2; subst h1 h2
     exact next_li hT s hp hs htr hv' hl hi
theorem next_no {w : World} {m : Nat} (hT : Tab w m rowsS) (s : ByteArray) (hp : 0 < s.size) (hs : s.size ≤ 140737488355328) (h : phAt s 0 = none) :
  Calls Tryz.prog 86 #[.map (some m), .string s] w fun e w' => e = .returned (.tuple #[.agg #[.int .i32 0, .bool false, .int .i32 0], .int .i64 0]) ∧ Below w.heap.size w w' := by
 have : trOf (rnN s 0) = none := by
  unfold phAt at h
  cases htr : trOf (rnN s 0) with
  | none => rfl
  | some t =>
   rw [htr] at h
   dsimp only at h
   exfalso
   (repeat' (split at h)) <;> cases h
 exact next_none hT s hp hs this
end Go.Proofs.YtieifhfgedoiaaaGreatDoor
