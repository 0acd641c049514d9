/- The next phone of a text. Conditions: those of each theorem. -/
import Derived.Test.YtieifhfgedoiaaaGreatDoorNPhC
namespace Go.Proofs.YtieifhfgedoiaaaGreatDoor
open Go.RowKit Go.Lib
open Go.ChangeMaps
set_option linter.unusedVariables false
set_option linter.unusedSimpArgs false
theorem stB_yes (s t : ByteArray) (h : t.size ≤ s.size) : ((s.extract 0 t.size).toList == t.toList) = stB s 0 t.data.toList := by
 unfold stB
 have hl : t.data.toList.length = t.size := by show t.data.toList.length = t.data.size; simp
 rw [Nat.zero_add, hl, decide_eq_true h, Bool.true_and, toList_data t]
theorem stB_no (s t : ByteArray) (h : ¬ t.size ≤ s.size) : false = stB s 0 t.data.toList := by
 unfold stB
 have hl : t.data.toList.length = t.size := by show t.data.toList.length = t.data.size; simp
 rw [Nat.zero_add, hl, decide_eq_false h, Bool.false_and]
theorem hasPrefix72 (s t : ByteArray) (hs : s.size ≤ 140737488355328) (ht : t.size ≤ 140737488355328) (w : World) : Calls Tryz.prog 65 #[.string s, .string t] w fun e w' => e = .returned (.bool (stB s 0 t.data.toList)) ∧ w = w' := by
 by_cases h : t.size ≤ s.size
 ·have q1 := dT (show (t.size : Int) ≤ s.size by omega)
  have q2 : decide (t.size ≤ s.size) = true := decide_eq_true h
  rw [← stB_yes s t h]
  go_enter Tryz.func65, Tryz.ntmps65
  go_wp2_with fail
  go_ret
  exact ⟨rfl, rfl⟩
 ·have q1 := dF (show ¬ ((t.size : Int) ≤ s.size) by omega)
  have q2 : decide (t.size ≤ s.size) = false := decide_eq_false h
  rw [← stB_no s t h]
  go_enter Tryz.func65, Tryz.ntmps65
  go_wp2_with fail
  go_ret
  exact ⟨rfl, rfl⟩
theorem hasPrefix_any (s t : ByteArray) (hs : s.size ≤ 140737488355328) (ht : t.size ≤ 140737488355328) (w : World) : Calls Tryz.prog 48 #[.string s, .string t] w fun e w' => e = .returned (.bool (stB s 0 t.data.toList)) ∧ w = w' := by
 have h1 := hid (hasPrefix72 s t hs ht)
 generalize stB s 0 t.data.toList = b at *
 go_enter Tryz.func48, Tryz.ntmps48
 go_wp2_with (go_at_call 65; (with_reducible refine Calls.mono (h1.out _) ?_); rintro e w1 ⟨rfl, rfl⟩)
 go_ret
 exact ⟨rfl, rfl⟩
theorem ext_size (s : ByteArray) (a : Nat) : (s.extract a s.size).size = s.size - a := by simp
theorem drop_take_drop (l : List UInt8) (a p n : Nat) : (((l.drop a).take (l.length - a)).drop p).take n = (l.drop (a + p)).take n := by
 rw [List.take_of_length_le (l := l.drop a) (by simp), List.drop_drop]
theorem stB_ext (s : ByteArray) (a p : Nat) (ha : a ≤ s.size) (t : List UInt8) : stB (s.extract a s.size) p t = stB s (a + p) t := by
 unfold stB
 rw [ext_size, extract_toList, extract_toList, ← toList_data, ← toList_data, extract_toList]
 have hl : s.toList.length = s.size := by rw [toList_data]; show s.data.toList.length = s.data.size; simp
 have := drop_take_drop s.toList a p t.length
 rw [hl] at this
 rw [← toList_data s]
 rw [show p + t.length - p = t.length by omega, show a + p + t.length - (a + p) = t.length by omega, this]
 congr 1
 rw [decide_eq_decide]
 omega
theorem trOf_ne {r : Nat} {t : Tr} (h : trOf r = some t) : r ≠ 65533 := by
 rintro rfl
 have h0 : trOf 65533 = none := by decide
 rw [h0] at h; cases h
theorem enc_wd {s : ByteArray} {p : Nat} (hp : p < s.size) {t : Tr} (h : trOf (rnN s p) = some t) : (Utf8.encode (rnN s p : Int)).size = wdN s p := by
 have hd := dec_at s p hp
 have hne := trOf_ne h
 unfold rnN wdN at *
 generalize (Utf8.decode s p).1 = r at *
 generalize (Utf8.decode s p).2 = w at *
 cases hd with
 | rune _ _ h1 h2 h3 h4 h5 h6 h7 => exact h3
 | lost h1 h2 => exact absurd rfl hne
 | broken h0 h1 => exact absurd rfl hne
def Ph.zero : Ph := ⟨0, false, 0⟩
theorem stB_le {s : ByteArray} {p : Nat} {t : List UInt8} (h : stB s p t = true) : p + t.length ≤ s.size := by
 unfold stB at h
 rw [Bool.and_eq_true] at h
 exact of_decide_eq_true h.1
set_option maxRecDepth 100000 in
set_option maxHeartbeats 4000000 in
theorem next_none {w : World} {m : Nat} (hT : Tab w m rowsS) (s : ByteArray) (hp : 0 < s.size) (hs : s.size ≤ 140737488355328) (htr0 : trOf (rnN s 0) = none) :
  Calls Tryz.prog 86 #[.map (some m), .string s] w fun e w' => e = .returned (.tuple #[.agg #[.int .i32 0, .bool false, .int .i32 0], .int .i64 0]) ∧ Below w.heap.size w w' := by
 have hnx := fun (wr : World) (k : Nat) ty h => run_next_any_at (P := Tryz.prog) wr k s 0 ty h hp
 change ∀ (wr : World) (k : Nat) ty, wr.heap[k]? = some (.stringIter s 0) → (Instr.next (.pointer (some ⟨k, 0, none⟩)) true ty).run Tryz.prog wr = .ok (.tuple #[.bool true, .int .i64 ((0 : Nat) : Int), .int .i32 (rnN s 0)]) (wr.iterAt k s (0 + wdN s 0)) at hnx
 have hrb := hid (rn_bd hp)
 have hwd := wdN_pos hp
 rw [Nat.zero_add] at hwd
 have htr := htr0
 clear htr0
 have hTT := hid hT
 have hml : m < w.heap.size := by
  obtain ⟨f, h1, _⟩ := hT.e
  exact h1.lt
 clear hT
 generalize rnN s 0 = r at *
 generalize wdN s 0 = wd at *
 go_enter Tryz.func86, Tryz.ntmps86
 go_wp2_with fail
 have K4 := hid ((Blk.new w 60 #[.int .i32 0, .bool false, .int .i32 0]).alloc (.cells #[.int .i32 0, .bool false, .int .i32 0] 60) |>.alloc (.stringIter s 0))
 have K6 : Hid (Blk _ (w.heap.size + 1) 60 #[.int .i32 0, .bool false, .int .i32 0]) := hid (((World.size_alloc w (.cells #[.int .i32 0, .bool false, .int .i32 0] 60)) ▸ Blk.new (w.alloc (.cells #[.int .i32 0, .bool false, .int .i32 0] 60)) 60 #[.int .i32 0, .bool false, .int .i32 0]).alloc (.stringIter s 0))
 have HI : Hid (_ = _) := hid (heap_alloc_new ((w.alloc (.cells #[.int .i32 0, .bool false, .int .i32 0] 60)).alloc (.cells #[.int .i32 0, .bool false, .int .i32 0] 60)) (.stringIter s 0))
 rw [World.size_alloc, World.size_alloc] at HI
 have HB := hid ((((Below.refl w.heap.size w).alloc (Nat.le_refl _) (.cells #[.int .i32 0, .bool false, .int .i32 0] 60)).alloc (by simp) (.cells #[.int .i32 0, .bool false, .int .i32 0] 60)).alloc (by simp; omega) (.stringIter s 0))
 refine wp_loop_rounds 1 ?_
 rw [rounds_succ]
 change Hid (Blk (((w.alloc (.cells #[.int .i32 0, .bool false, .int .i32 0] 60)).alloc (.cells #[.int .i32 0, .bool false, .int .i32 0] 60)).iter s 0) w.heap.size 60 #[.int .i32 0, .bool false, .int .i32 0]) at K4
 change Hid (Blk (((w.alloc (.cells #[.int .i32 0, .bool false, .int .i32 0] 60)).alloc (.cells #[.int .i32 0, .bool false, .int .i32 0] 60)).iter s 0) (w.heap.size + 1) 60 #[.int .i32 0, .bool false, .int .i32 0]) at K6
 change Hid ((((w.alloc (.cells #[.int .i32 0, .bool false, .int .i32 0] 60)).alloc (.cells #[.int .i32 0, .bool false, .int .i32 0] 60)).iter s 0).heap[w.heap.size + 1 + 1]? = some (.stringIter s 0)) at HI
 change Hid (Below w.heap.size w (((w.alloc (.cells #[.int .i32 0, .bool false, .int .i32 0] 60)).alloc (.cells #[.int .i32 0, .bool false, .int .i32 0] 60)).iter s 0)) at HB
 generalize ((w.alloc (.cells #[.int .i32 0, .bool false, .int .i32 0] 60)).alloc (.cells #[.int .i32 0, .bool false, .int .i32 0] 60)).iter s 0 = W0 at *
 obtain ⟨N, hN⟩ : ∃ N, w.heap.size = N := ⟨_, rfl⟩
 rw [hN] at K4 K6 HI HB hml
 simp only [hN]
 have HN := hid hN
 clear hN
 have hne : ∀ ty, (Instr.next (.pointer (some ⟨N + 1 + 1, 0, none⟩)) true ty).run Tryz.prog W0 = _ := fun ty => hnx W0 _ ty HI.out
 clear hnx
 replace K4 := hid ((iterAt_other W0 (N + 1 + 1) N s (0 + wd) (by omega)).trans K4.out)
 replace K6 := hid ((iterAt_other W0 (N + 1 + 1) (N + 1) s (0 + wd) (by omega)).trans K6.out)
 replace HB := hid (below_iterAt HB.out (k := N + 1 + 1) (by omega) s (0 + wd))
 change Hid (Blk (W0.iterAt (N + 1 + 1) s (0 + wd)) N 60 #[.int .i32 0, .bool false, .int .i32 0]) at K4
 change Hid (Blk (W0.iterAt (N + 1 + 1) s (0 + wd)) (N + 1) 60 #[.int .i32 0, .bool false, .int .i32 0]) at K6
 generalize W0.iterAt (N + 1 + 1) s (0 + wd) = W1 at *
 clear HI
 have HB0 : Hid (Below w.heap.size w W1) := by have := HB.out; rw [← HN.out] at this; exact hid this
 have hlk := tab_look (w := W1.setCell ⟨N + 1, 0, none⟩ (.int .i32 r)) (m := m) (by
  exact hTT.out.low (below_set HB0.out (b := N + 1) (by have := HN.out; omega) 0 (.int .i32 r))) r hrb.out
 rw [htr] at hlk
 simp only [Option.getD, Option.isSome, Tr.val, Tr.none] at hlk
 obtain ⟨d0, d1, d2, df⟩ := K6.out.c3
 obtain ⟨f0, f1, f2, ff⟩ := K4.out.c3
 have hlN := K4.out.lt
 have hlP := K6.out.lt
 clear K4 K6 htr
 go_wp2_with fail
 refine bodyPost_ret (v := .tuple #[.agg #[.int .i32 0, .bool false, .int .i32 0], .int .i64 0]) (by simp [results, Tryz.results86, go_sem, f0, f1, f2, ff, hlN, hlP]) rfl ⟨rfl, ?_⟩
 have hB := HB0.out
 have hNN := HN.out
 repeat' (first | exact hB | refine below_set ?_ ?_ _ _ | refine Below.alloc ?_ ?_ _ | (have := hB.size; simp; omega) | omega)
set_option maxRecDepth 100000 in
set_option maxHeartbeats 4000000 in
theorem next_sc {w : World} {m : Nat} (hT : Tab w m rowsS) (s : ByteArray) (hp : 0 < s.size) (hs : s.size ≤ 140737488355328) {t : Tr} (htr0 : trOf (rnN s 0) = some t) (hv : t.vowel = false) (hl : stB s (wdN s 0) [203, 144] = false) :
  Calls Tryz.prog 86 #[.map (some m), .string s] w fun e w' => e = .returned (.tuple #[.agg #[.int .i32 (rnN s 0), .bool false, .int .i32 0], .int .i64 (wdN s 0 : Nat)]) ∧ Below w.heap.size w w' := by
 have hnx := fun (wr : World) (k : Nat) ty h => run_next_any_at (P := Tryz.prog) wr k s 0 ty h hp
 change ∀ (wr : World) (k : Nat) ty, wr.heap[k]? = some (.stringIter s 0) → (Instr.next (.pointer (some ⟨k, 0, none⟩)) true ty).run Tryz.prog wr = .ok (.tuple #[.bool true, .int .i64 ((0 : Nat) : Int), .int .i32 (rnN s 0)]) (wr.iterAt k s (0 + wdN s 0)) at hnx
 have hrb := hid (rn_bd hp)
 have hwd := wdN_pos hp
 rw [Nat.zero_add] at hwd
 have htr := htr0
 have hew := enc_wd hp htr0
 clear htr0
 have HP := hid (fun (t : ByteArray) (ht : t.size ≤ 100) (a : Nat) (ha : a ≤ s.size) (w' : World) => hasPrefix_any (s.extract a s.size) t (by rw [ext_size]; omega) (by omega) w')
 have P1 := fun w' => HP.out ⟨#[203, 144]⟩ (show 2 ≤ 100 by decide) (wdN s 0) hwd.2.2 w'
 simp only [stB_ext s (wdN s 0) 0 hwd.2.2, Nat.add_zero, show ((⟨#[203, 144]⟩ : ByteArray).data.toList) = [203, 144] from rfl, hl] at P1
 have hP1 := hid P1
 clear P1
 obtain ⟨tv, th, tb, tr, tp, tm, tc⟩ := t
 obtain rfl : tv = false := hv
 clear HP hl
 have hTT := hid hT
 have hml : m < w.heap.size := by
  obtain ⟨f, h1, _⟩ := hT.e
  exact h1.lt
 clear hT
 generalize rnN s 0 = r at *
 generalize wdN s 0 = wd at *
 go_enter Tryz.func86, Tryz.ntmps86
 go_wp2_with fail
 have K4 := hid ((Blk.new w 60 #[.int .i32 0, .bool false, .int .i32 0]).alloc (.cells #[.int .i32 0, .bool false, .int .i32 0] 60) |>.alloc (.stringIter s 0))
 have K6 : Hid (Blk _ (w.heap.size + 1) 60 #[.int .i32 0, .bool false, .int .i32 0]) := hid (((World.size_alloc w (.cells #[.int .i32 0, .bool false, .int .i32 0] 60)) ▸ Blk.new (w.alloc (.cells #[.int .i32 0, .bool false, .int .i32 0] 60)) 60 #[.int .i32 0, .bool false, .int .i32 0]).alloc (.stringIter s 0))
 have HI : Hid (_ = _) := hid (heap_alloc_new ((w.alloc (.cells #[.int .i32 0, .bool false, .int .i32 0] 60)).alloc (.cells #[.int .i32 0, .bool false, .int .i32 0] 60)) (.stringIter s 0))
 rw [World.size_alloc, World.size_alloc] at HI
 have HB := hid ((((Below.refl w.heap.size w).alloc (Nat.le_refl _) (.cells #[.int .i32 0, .bool false, .int .i32 0] 60)).alloc (by simp) (.cells #[.int .i32 0, .bool false, .int .i32 0] 60)).alloc (by simp; omega) (.stringIter s 0))
 refine wp_loop_rounds 1 ?_
 rw [rounds_succ]
 change Hid (Blk (((w.alloc (.cells #[.int .i32 0, .bool false, .int .i32 0] 60)).alloc (.cells #[.int .i32 0, .bool false, .int .i32 0] 60)).iter s 0) w.heap.size 60 #[.int .i32 0, .bool false, .int .i32 0]) at K4
 change Hid (Blk (((w.alloc (.cells #[.int .i32 0, .bool false, .int .i32 0] 60)).alloc (.cells #[.int .i32 0, .bool false, .int .i32 0] 60)).iter s 0) (w.heap.size + 1) 60 #[.int .i32 0, .bool false, .int .i32 0]) at K6
 change Hid ((((w.alloc (.cells #[.int .i32 0, .bool false, .int .i32 0] 60)).alloc (.cells #[.int .i32 0, .bool false, .int .i32 0] 60)).iter s 0).heap[w.heap.size + 1 + 1]? = some (.stringIter s 0)) at HI
 change Hid (Below w.heap.size w (((w.alloc (.cells #[.int .i32 0, .bool false, .int .i32 0] 60)).alloc (.cells #[.int .i32 0, .bool false, .int .i32 0] 60)).iter s 0)) at HB
 generalize ((w.alloc (.cells #[.int .i32 0, .bool false, .int .i32 0] 60)).alloc (.cells #[.int .i32 0, .bool false, .int .i32 0] 60)).iter s 0 = W0 at *
 obtain ⟨N, hN⟩ : ∃ N, w.heap.size = N := ⟨_, rfl⟩
 rw [hN] at K4 K6 HI HB hml
 simp only [hN]
 have HN := hid hN
 clear hN
 have hne : ∀ ty, (Instr.next (.pointer (some ⟨N + 1 + 1, 0, none⟩)) true ty).run Tryz.prog W0 = _ := fun ty => hnx W0 _ ty HI.out
 clear hnx
 replace K4 := hid ((iterAt_other W0 (N + 1 + 1) N s (0 + wd) (by omega)).trans K4.out)
 replace K6 := hid ((iterAt_other W0 (N + 1 + 1) (N + 1) s (0 + wd) (by omega)).trans K6.out)
 replace HB := hid (below_iterAt HB.out (k := N + 1 + 1) (by omega) s (0 + wd))
 change Hid (Blk (W0.iterAt (N + 1 + 1) s (0 + wd)) N 60 #[.int .i32 0, .bool false, .int .i32 0]) at K4
 change Hid (Blk (W0.iterAt (N + 1 + 1) s (0 + wd)) (N + 1) 60 #[.int .i32 0, .bool false, .int .i32 0]) at K6
 generalize W0.iterAt (N + 1 + 1) s (0 + wd) = W1 at *
 clear HI
 have HB0 : Hid (Below w.heap.size w W1) := by have := HB.out; rw [← HN.out] at this; exact hid this
 have hlk := tab_look (w := W1.setCell ⟨N + 1, 0, none⟩ (.int .i32 r)) (m := m) (by
  exact hTT.out.low (below_set HB0.out (b := N + 1) (by have := HN.out; omega) 0 (.int .i32 r))) r hrb.out
 rw [htr] at hlk
 simp only [Option.getD, Option.isSome, Tr.val, Tr.none] at hlk
 obtain ⟨d0, d1, d2, df⟩ := K6.out.c3
 obtain ⟨f0, f1, f2, ff⟩ := K4.out.c3
 have hlN := K4.out.lt
 have hlP := K6.out.lt
 clear K4 K6 htr
 go_wp2_with (first | (go_at_call 48; (with_reducible refine Calls.mono (hP1.out _) ?_); rintro e w1 ⟨rfl, rfl⟩))
 refine bodyPost_ret (v := .tuple #[.agg #[.int .i32 (r), .bool false, .int .i32 0], .int .i64 (wd : Int)]) (by simp [results, Tryz.results86, go_sem, f0, f1, f2, ff, hlN, hlP]) rfl ⟨rfl, ?_⟩
 have hB := HB0.out
 have hNN := HN.out
 repeat' (first | exact hB | refine below_set ?_ ?_ _ _ | refine Below.alloc ?_ ?_ _ | (have := hB.size; simp; omega) | omega)
set_option maxRecDepth 100000 in
set_option maxHeartbeats 4000000 in
theorem next_si {w : World} {m : Nat} (hT : Tab w m rowsS) (s : ByteArray) (hp : 0 < s.size) (hs : s.size ≤ 140737488355328) {t : Tr} (htr0 : trOf (rnN s 0) = some t) (hv : t.vowel = true) (hl : stB s (wdN s 0) [203, 144] = false) (hi : stB s (wdN s 0) [105, 204, 175] = true) :
  Calls Tryz.prog 86 #[.map (some m), .string s] w fun e w' => e = .returned (.tuple #[.agg #[.int .i32 (rnN s 0), .bool false, .int .i32 105], .int .i64 ((wdN s 0 + 3 : Nat) : Int)]) ∧ Below w.heap.size w w' := by
 have hnx := fun (wr : World) (k : Nat) ty h => run_next_any_at (P := Tryz.prog) wr k s 0 ty h hp
 change ∀ (wr : World) (k : Nat) ty, wr.heap[k]? = some (.stringIter s 0) → (Instr.next (.pointer (some ⟨k, 0, none⟩)) true ty).run Tryz.prog wr = .ok (.tuple #[.bool true, .int .i64 ((0 : Nat) : Int), .int .i32 (rnN s 0)]) (wr.iterAt k s (0 + wdN s 0)) at hnx
 have hrb := hid (rn_bd hp)
 have hwd := wdN_pos hp
 rw [Nat.zero_add] at hwd
 rw [show ((wdN s 0 + 3 : Nat) : Int) = ((wdN s 0 : Int) + 1 + 2) by omega]
 have htr := htr0
 have hew := enc_wd hp htr0
 clear htr0
 have HP := hid (fun (t : ByteArray) (ht : t.size ≤ 100) (a : Nat) (ha : a ≤ s.size) (w' : World) => hasPrefix_any (s.extract a s.size) t (by rw [ext_size]; omega) (by omega) w')
 have P1 := fun w' => HP.out ⟨#[203, 144]⟩ (show 2 ≤ 100 by decide) (wdN s 0) hwd.2.2 w'
 simp only [stB_ext s (wdN s 0) 0 hwd.2.2, Nat.add_zero, show ((⟨#[203, 144]⟩ : ByteArray).data.toList) = [203, 144] from rfl, hl] at P1
 have hP1 := hid P1
 clear P1
 have hlr : wdN s 0 ≤ s.size := hwd.2.2
 have P2 := fun w' => HP.out ⟨#[105, 204, 175]⟩ (show 3 ≤ 100 by decide) (wdN s 0) hlr w'
 simp only [stB_ext s (wdN s 0) 0 hlr, Nat.add_zero, show ((⟨#[105, 204, 175]⟩ : ByteArray).data.toList) = [105, 204, 175] from rfl, hi] at P2
 have hP2 := hid P2
 clear P2
 obtain ⟨tv, th, tb, tr, tp, tm, tc⟩ := t
 obtain rfl : tv = true := hv
 clear HP hl hi
 have hTT := hid hT
 have hml : m < w.heap.size := by
  obtain ⟨f, h1, _⟩ := hT.e
  exact h1.lt
 clear hT
 generalize rnN s 0 = r at *
 generalize wdN s 0 = wd at *
 go_enter Tryz.func86, Tryz.ntmps86
 go_wp2_with fail
 have K4 := hid ((Blk.new w 60 #[.int .i32 0, .bool false, .int .i32 0]).alloc (.cells #[.int .i32 0, .bool false, .int .i32 0] 60) |>.alloc (.stringIter s 0))
 have K6 : Hid (Blk _ (w.heap.size + 1) 60 #[.int .i32 0, .bool false, .int .i32 0]) := hid (((World.size_alloc w (.cells #[.int .i32 0, .bool false, .int .i32 0] 60)) ▸ Blk.new (w.alloc (.cells #[.int .i32 0, .bool false, .int .i32 0] 60)) 60 #[.int .i32 0, .bool false, .int .i32 0]).alloc (.stringIter s 0))
 have HI : Hid (_ = _) := hid (heap_alloc_new ((w.alloc (.cells #[.int .i32 0, .bool false, .int .i32 0] 60)).alloc (.cells #[.int .i32 0, .bool false, .int .i32 0] 60)) (.stringIter s 0))
 rw [World.size_alloc, World.size_alloc] at HI
 have HB := hid ((((Below.refl w.heap.size w).alloc (Nat.le_refl _) (.cells #[.int .i32 0, .bool false, .int .i32 0] 60)).alloc (by simp) (.cells #[.int .i32 0, .bool false, .int .i32 0] 60)).alloc (by simp; omega) (.stringIter s 0))
 refine wp_loop_rounds 1 ?_
 rw [rounds_succ]
 change Hid (Blk (((w.alloc (.cells #[.int .i32 0, .bool false, .int .i32 0] 60)).alloc (.cells #[.int .i32 0, .bool false, .int .i32 0] 60)).iter s 0) w.heap.size 60 #[.int .i32 0, .bool false, .int .i32 0]) at K4
 change Hid (Blk (((w.alloc (.cells #[.int .i32 0, .bool false, .int .i32 0] 60)).alloc (.cells #[.int .i32 0, .bool false, .int .i32 0] 60)).iter s 0) (w.heap.size + 1) 60 #[.int .i32 0, .bool false, .int .i32 0]) at K6
 change Hid ((((w.alloc (.cells #[.int .i32 0, .bool false, .int .i32 0] 60)).alloc (.cells #[.int .i32 0, .bool false, .int .i32 0] 60)).iter s 0).heap[w.heap.size + 1 + 1]? = some (.stringIter s 0)) at HI
 change Hid (Below w.heap.size w (((w.alloc (.cells #[.int .i32 0, .bool false, .int .i32 0] 60)).alloc (.cells #[.int .i32 0, .bool false, .int .i32 0] 60)).iter s 0)) at HB
 generalize ((w.alloc (.cells #[.int .i32 0, .bool false, .int .i32 0] 60)).alloc (.cells #[.int .i32 0, .bool false, .int .i32 0] 60)).iter s 0 = W0 at *
 obtain ⟨N, hN⟩ : ∃ N, w.heap.size = N := ⟨_, rfl⟩
 rw [hN] at K4 K6 HI HB hml
 simp only [hN]
 have HN := hid hN
 clear hN
 have hne : ∀ ty, (Instr.next (.pointer (some ⟨N + 1 + 1, 0, none⟩)) true ty).run Tryz.prog W0 = _ := fun ty => hnx W0 _ ty HI.out
 clear hnx
 replace K4 := hid ((iterAt_other W0 (N + 1 + 1) N s (0 + wd) (by omega)).trans K4.out)
 replace K6 := hid ((iterAt_other W0 (N + 1 + 1) (N + 1) s (0 + wd) (by omega)).trans K6.out)
 replace HB := hid (below_iterAt HB.out (k := N + 1 + 1) (by omega) s (0 + wd))
 change Hid (Blk (W0.iterAt (N + 1 + 1) s (0 + wd)) N 60 #[.int .i32 0, .bool false, .int .i32 0]) at K4
 change Hid (Blk (W0.iterAt (N + 1 + 1) s (0 + wd)) (N + 1) 60 #[.int .i32 0, .bool false, .int .i32 0]) at K6
 generalize W0.iterAt (N + 1 + 1) s (0 + wd) = W1 at *
 clear HI
 have HB0 : Hid (Below w.heap.size w W1) := by have := HB.out; rw [← HN.out] at this; exact hid this
 have hlk := tab_look (w := W1.setCell ⟨N + 1, 0, none⟩ (.int .i32 r)) (m := m) (by
  exact hTT.out.low (below_set HB0.out (b := N + 1) (by have := HN.out; omega) 0 (.int .i32 r))) r hrb.out
 rw [htr] at hlk
 simp only [Option.getD, Option.isSome, Tr.val, Tr.none] at hlk
 obtain ⟨d0, d1, d2, df⟩ := K6.out.c3
 obtain ⟨f0, f1, f2, ff⟩ := K4.out.c3
 have hlN := K4.out.lt
 have hlP := K6.out.lt
 clear K4 K6 htr
 go_wp2_with (first | (go_at_call 48; (with_reducible refine Calls.mono (hP1.out _) ?_); rintro e w1 ⟨rfl, rfl⟩) | (go_at_call 48; (with_reducible refine Calls.mono (hP2.out _) ?_); rintro e w1 ⟨rfl, rfl⟩))
 refine bodyPost_ret (v := .tuple #[.agg #[.int .i32 (r), .bool false, .int .i32 105], .int .i64 ((wd : Int) + 1 + 2)]) (by simp [results, Tryz.results86, go_sem, f0, f1, f2, ff, hlN, hlP]) rfl ⟨rfl, ?_⟩
 have hB := HB0.out
 have hNN := HN.out
 repeat' (first | exact hB | refine below_set ?_ ?_ _ _ | refine Below.alloc ?_ ?_ _ | (have := hB.size; simp; omega) | omega)
set_option maxRecDepth 100000 in
set_option maxHeartbeats 4000000 in
theorem next_su {w : World} {m : Nat} (hT : Tab w m rowsS) (s : ByteArray) (hp : 0 < s.size) (hs : s.size ≤ 140737488355328) {t : Tr} (htr0 : trOf (rnN s 0) = some t) (hv : t.vowel = true) (hl : stB s (wdN s 0) [203, 144] = false) (hi : stB s (wdN s 0) [105, 204, 175] = false) (hu : stB s (wdN s 0) [117, 204, 175] = true) :
  Calls Tryz.prog 86 #[.map (some m), .string s] w fun e w' => e = .returned (.tuple #[.agg #[.int .i32 (rnN s 0), .bool false, .int .i32 117], .int .i64 ((wdN s 0 + 3 : Nat) : Int)]) ∧ Below w.heap.size w w' := by
 have hnx := fun (wr : World) (k : Nat) ty h => run_next_any_at (P := Tryz.prog) wr k s 0 ty h hp
 change ∀ (wr : World) (k : Nat) ty, wr.heap[k]? = some (.stringIter s 0) → (Instr.next (.pointer (some ⟨k, 0, none⟩)) true ty).run Tryz.prog wr = .ok (.tuple #[.bool true, .int .i64 ((0 : Nat) : Int), .int .i32 (rnN s 0)]) (wr.iterAt k s (0 + wdN s 0)) at hnx
 have hrb := hid (rn_bd hp)
 have hwd := wdN_pos hp
 rw [Nat.zero_add] at hwd
 rw [show ((wdN s 0 + 3 : Nat) : Int) = ((wdN s 0 : Int) + 1 + 2) by omega]
 have htr := htr0
 have hew := enc_wd hp htr0
 clear htr0
 have HP := hid (fun (t : ByteArray) (ht : t.size ≤ 100) (a : Nat) (ha : a ≤ s.size) (w' : World) => hasPrefix_any (s.extract a s.size) t (by rw [ext_size]; omega) (by omega) w')
 have P1 := fun w' => HP.out ⟨#[203, 144]⟩ (show 2 ≤ 100 by decide) (wdN s 0) hwd.2.2 w'
 simp only [stB_ext s (wdN s 0) 0 hwd.2.2, Nat.add_zero, show ((⟨#[203, 144]⟩ : ByteArray).data.toList) = [203, 144] from rfl, hl] at P1
 have hP1 := hid P1
 clear P1
 have hlr : wdN s 0 ≤ s.size := hwd.2.2
 have P2 := fun w' => HP.out ⟨#[105, 204, 175]⟩ (show 3 ≤ 100 by decide) (wdN s 0) hlr w'
 simp only [stB_ext s (wdN s 0) 0 hlr, Nat.add_zero, show ((⟨#[105, 204, 175]⟩ : ByteArray).data.toList) = [105, 204, 175] from rfl, hi] at P2
 have hP2 := hid P2
 clear P2
 have P3 := fun w' => HP.out ⟨#[117, 204, 175]⟩ (show 3 ≤ 100 by decide) (wdN s 0) hlr w'
 simp only [stB_ext s (wdN s 0) 0 hlr, Nat.add_zero, show ((⟨#[117, 204, 175]⟩ : ByteArray).data.toList) = [117, 204, 175] from rfl, hu] at P3
 have hP3 := hid P3
 clear P3
 obtain ⟨tv, th, tb, tr, tp, tm, tc⟩ := t
 obtain rfl : tv = true := hv
 clear HP hl hi hu
 have hTT := hid hT
 have hml : m < w.heap.size := by
  obtain ⟨f, h1, _⟩ := hT.e
  exact h1.lt
 clear hT
 generalize rnN s 0 = r at *
 generalize wdN s 0 = wd at *
 go_enter Tryz.func86, Tryz.ntmps86
 go_wp2_with fail
 have K4 := hid ((Blk.new w 60 #[.int .i32 0, .bool false, .int .i32 0]).alloc (.cells #[.int .i32 0, .bool false, .int .i32 0] 60) |>.alloc (.stringIter s 0))
 have K6 : Hid (Blk _ (w.heap.size + 1) 60 #[.int .i32 0, .bool false, .int .i32 0]) := hid (((World.size_alloc w (.cells #[.int .i32 0, .bool false, .int .i32 0] 60)) ▸ Blk.new (w.alloc (.cells #[.int .i32 0, .bool false, .int .i32 0] 60)) 60 #[.int .i32 0, .bool false, .int .i32 0]).alloc (.stringIter s 0))
 have HI : Hid (_ = _) := hid (heap_alloc_new ((w.alloc (.cells #[.int .i32 0, .bool false, .int .i32 0] 60)).alloc (.cells #[.int .i32 0, .bool false, .int .i32 0] 60)) (.stringIter s 0))
 rw [World.size_alloc, World.size_alloc] at HI
 have HB := hid ((((Below.refl w.heap.size w).alloc (Nat.le_refl _) (.cells #[.int .i32 0, .bool false, .int .i32 0] 60)).alloc (by simp) (.cells #[.int .i32 0, .bool false, .int .i32 0] 60)).alloc (by simp; omega) (.stringIter s 0))
 refine wp_loop_rounds 1 ?_
 rw [rounds_succ]
 change Hid (Blk (((w.alloc (.cells #[.int .i32 0, .bool false, .int .i32 0] 60)).alloc (.cells #[.int .i32 0, .bool false, .int .i32 0] 60)).iter s 0) w.heap.size 60 #[.int .i32 0, .bool false, .int .i32 0]) at K4
 change Hid (Blk (((w.alloc (.cells #[.int .i32 0, .bool false, .int .i32 0] 60)).alloc (.cells #[.int .i32 0, .bool false, .int .i32 0] 60)).iter s 0) (w.heap.size + 1) 60 #[.int .i32 0, .bool false, .int .i32 0]) at K6
 change Hid ((((w.alloc (.cells #[.int .i32 0, .bool false, .int .i32 0] 60)).alloc (.cells #[.int .i32 0, .bool false, .int .i32 0] 60)).iter s 0).heap[w.heap.size + 1 + 1]? = some (.stringIter s 0)) at HI
 change Hid (Below w.heap.size w (((w.alloc (.cells #[.int .i32 0, .bool false, .int .i32 0] 60)).alloc (.cells #[.int .i32 0, .bool false, .int .i32 0] 60)).iter s 0)) at HB
 generalize ((w.alloc (.cells #[.int .i32 0, .bool false, .int .i32 0] 60)).alloc (.cells #[.int .i32 0, .bool false, .int .i32 0] 60)).iter s 0 = W0 at *
 obtain ⟨N, hN⟩ : ∃ N, w.heap.size = N := ⟨_, rfl⟩
 rw [hN] at K4 K6 HI HB hml
 simp only [hN]
 have HN := hid hN
 clear hN
 have hne : ∀ ty, (Instr.next (.pointer (some ⟨N + 1 + 1, 0, none⟩)) true ty).run Tryz.prog W0 = _ := fun ty => hnx W0 _ ty HI.out
 clear hnx
 replace K4 := hid ((iterAt_other W0 (N + 1 + 1) N s (0 + wd) (by omega)).trans K4.out)
 replace K6 := hid ((iterAt_other W0 (N + 1 + 1) (N + 1) s (0 + wd) (by omega)).trans K6.out)
 replace HB := hid (below_iterAt HB.out (k := N + 1 + 1) (by omega) s (0 + wd))
 change Hid (Blk (W0.iterAt (N + 1 + 1) s (0 + wd)) N 60 #[.int .i32 0, .bool false, .int .i32 0]) at K4
 change Hid (Blk (W0.iterAt (N + 1 + 1) s (0 + wd)) (N + 1) 60 #[.int .i32 0, .bool false, .int .i32 0]) at K6
 generalize W0.iterAt (N + 1 + 1) s (0 + wd) = W1 at *
 clear HI
 have HB0 : Hid (Below w.heap.size w W1) := by have := HB.out; rw [← HN.out] at this; exact hid this
 have hlk := tab_look (w := W1.setCell ⟨N + 1, 0, none⟩ (.int .i32 r)) (m := m) (by
  exact hTT.out.low (below_set HB0.out (b := N + 1) (by have := HN.out; omega) 0 (.int .i32 r))) r hrb.out
 rw [htr] at hlk
 simp only [Option.getD, Option.isSome, Tr.val, Tr.none] at hlk
 obtain ⟨d0, d1, d2, df⟩ := K6.out.c3
 obtain ⟨f0, f1, f2, ff⟩ := K4.out.c3
 have hlN := K4.out.lt
 have hlP := K6.out.lt
 clear K4 K6 htr
 go_wp2_with (first | (go_at_call 48; (with_reducible refine Calls.mono (hP1.out _) ?_); rintro e w1 ⟨rfl, rfl⟩) | (go_at_call 48; (with_reducible refine Calls.mono (hP2.out _) ?_); rintro e w1 ⟨rfl, rfl⟩) | (go_at_call 48; (with_reducible refine Calls.mono (hP3.out _) ?_); rintro e w1 ⟨rfl, rfl⟩))
 refine bodyPost_ret (v := .tuple #[.agg #[.int .i32 (r), .bool false, .int .i32 117], .int .i64 ((wd : Int) + 1 + 2)]) (by simp [results, Tryz.results86, go_sem, f0, f1, f2, ff, hlN, hlP]) rfl ⟨rfl, ?_⟩
 have hB := HB0.out
 have hNN := HN.out
 repeat' (first | exact hB | refine below_set ?_ ?_ _ _ | refine Below.alloc ?_ ?_ _ | (have := hB.size; simp; omega) | omega)
set_option maxRecDepth 100000 in
set_option maxHeartbeats 4000000 in
theorem next_sn {w : World} {m : Nat} (hT : Tab w m rowsS) (s : ByteArray) (hp : 0 < s.size) (hs : s.size ≤ 140737488355328) {t : Tr} (htr0 : trOf (rnN s 0) = some t) (hv : t.vowel = true) (hl : stB s (wdN s 0) [203, 144] = false) (hi : stB s (wdN s 0) [105, 204, 175] = false) (hu : stB s (wdN s 0) [117, 204, 175] = false) :
  Calls Tryz.prog 86 #[.map (some m), .string s] w fun e w' => e = .returned (.tuple #[.agg #[.int .i32 (rnN s 0), .bool false, .int .i32 0], .int .i64 (wdN s 0 : Nat)]) ∧ Below w.heap.size w w' := by
 have hnx := fun (wr : World) (k : Nat) ty h => run_next_any_at (P := Tryz.prog) wr k s 0 ty h hp
 change ∀ (wr : World) (k : Nat) ty, wr.heap[k]? = some (.stringIter s 0) → (Instr.next (.pointer (some ⟨k, 0, none⟩)) true ty).run Tryz.prog wr = .ok (.tuple #[.bool true, .int .i64 ((0 : Nat) : Int), .int .i32 (rnN s 0)]) (wr.iterAt k s (0 + wdN s 0)) at hnx
 have hrb := hid (rn_bd hp)
 have hwd := wdN_pos hp
 rw [Nat.zero_add] at hwd
 have htr := htr0
 have hew := enc_wd hp htr0
 clear htr0
 have HP := hid (fun (t : ByteArray) (ht : t.size ≤ 100) (a : Nat) (ha : a ≤ s.size) (w' : World) => hasPrefix_any (s.extract a s.size) t (by rw [ext_size]; omega) (by omega) w')
 have P1 := fun w' => HP.out ⟨#[203, 144]⟩ (show 2 ≤ 100 by decide) (wdN s 0) hwd.2.2 w'
 simp only [stB_ext s (wdN s 0) 0 hwd.2.2, Nat.add_zero, show ((⟨#[203, 144]⟩ : ByteArray).data.toList) = [203, 144] from rfl, hl] at P1
 have hP1 := hid P1
 clear P1
 have hlr : wdN s 0 ≤ s.size := hwd.2.2
 have P2 := fun w' => HP.out ⟨#[105, 204, 175]⟩ (show 3 ≤ 100 by decide) (wdN s 0) hlr w'
 simp only [stB_ext s (wdN s 0) 0 hlr, Nat.add_zero, show ((⟨#[105, 204, 175]⟩ : ByteArray).data.toList) = [105, 204, 175] from rfl, hi] at P2
 have hP2 := hid P2
 clear P2
 have P3 := fun w' => HP.out ⟨#[117, 204, 175]⟩ (show 3 ≤ 100 by decide) (wdN s 0) hlr w'
 simp only [stB_ext s (wdN s 0) 0 hlr, Nat.add_zero, show ((⟨#[117, 204, 175]⟩ : ByteArray).data.toList) = [117, 204, 175] from rfl, hu] at P3
 have hP3 := hid P3
 clear P3
 obtain ⟨tv, th, tb, tr, tp, tm, tc⟩ := t
 obtain rfl : tv = true := hv
 clear HP hl hi hu
 have hTT := hid hT
 have hml : m < w.heap.size := by
  obtain ⟨f, h1, _⟩ := hT.e
  exact h1.lt
 clear hT
 generalize rnN s 0 = r at *
 generalize wdN s 0 = wd at *
 go_enter Tryz.func86, Tryz.ntmps86
 go_wp2_with fail
 have K4 := hid ((Blk.new w 60 #[.int .i32 0, .bool false, .int .i32 0]).alloc (.cells #[.int .i32 0, .bool false, .int .i32 0] 60) |>.alloc (.stringIter s 0))
 have K6 : Hid (Blk _ (w.heap.size + 1) 60 #[.int .i32 0, .bool false, .int .i32 0]) := hid (((World.size_alloc w (.cells #[.int .i32 0, .bool false, .int .i32 0] 60)) ▸ Blk.new (w.alloc (.cells #[.int .i32 0, .bool false, .int .i32 0] 60)) 60 #[.int .i32 0, .bool false, .int .i32 0]).alloc (.stringIter s 0))
 have HI : Hid (_ = _) := hid (heap_alloc_new ((w.alloc (.cells #[.int .i32 0, .bool false, .int .i32 0] 60)).alloc (.cells #[.int .i32 0, .bool false, .int .i32 0] 60)) (.stringIter s 0))
 rw [World.size_alloc, World.size_alloc] at HI
 have HB := hid ((((Below.refl w.heap.size w).alloc (Nat.le_refl _) (.cells #[.int .i32 0, .bool false, .int .i32 0] 60)).alloc (by simp) (.cells #[.int .i32 0, .bool false, .int .i32 0] 60)).alloc (by simp; omega) (.stringIter s 0))
 refine wp_loop_rounds 1 ?_
 rw [rounds_succ]
 change Hid (Blk (((w.alloc (.cells #[.int .i32 0, .bool false, .int .i32 0] 60)).alloc (.cells #[.int .i32 0, .bool false, .int .i32 0] 60)).iter s 0) w.heap.size 60 #[.int .i32 0, .bool false, .int .i32 0]) at K4
 change Hid (Blk (((w.alloc (.cells #[.int .i32 0, .bool false, .int .i32 0] 60)).alloc (.cells #[.int .i32 0, .bool false, .int .i32 0] 60)).iter s 0) (w.heap.size + 1) 60 #[.int .i32 0, .bool false, .int .i32 0]) at K6
 change Hid ((((w.alloc (.cells #[.int .i32 0, .bool false, .int .i32 0] 60)).alloc (.cells #[.int .i32 0, .bool false, .int .i32 0] 60)).iter s 0).heap[w.heap.size + 1 + 1]? = some (.stringIter s 0)) at HI
 change Hid (Below w.heap.size w (((w.alloc (.cells #[.int .i32 0, .bool false, .int .i32 0] 60)).alloc (.cells #[.int .i32 0, .bool false, .int .i32 0] 60)).iter s 0)) at HB
 generalize ((w.alloc (.cells #[.int .i32 0, .bool false, .int .i32 0] 60)).alloc (.cells #[.int .i32 0, .bool false, .int .i32 0] 60)).iter s 0 = W0 at *
 obtain ⟨N, hN⟩ : ∃ N, w.heap.size = N := ⟨_, rfl⟩
 rw [hN] at K4 K6 HI HB hml
 simp only [hN]
 have HN := hid hN
 clear hN
 have hne : ∀ ty, (Instr.next (.pointer (some ⟨N + 1 + 1, 0, none⟩)) true ty).run Tryz.prog W0 = _ := fun ty => hnx W0 _ ty HI.out
 clear hnx
 replace K4 := hid ((iterAt_other W0 (N + 1 + 1) N s (0 + wd) (by omega)).trans K4.out)
 replace K6 := hid ((iterAt_other W0 (N + 1 + 1) (N + 1) s (0 + wd) (by omega)).trans K6.out)
 replace HB := hid (below_iterAt HB.out (k := N + 1 + 1) (by omega) s (0 + wd))
 change Hid (Blk (W0.iterAt (N + 1 + 1) s (0 + wd)) N 60 #[.int .i32 0, .bool false, .int .i32 0]) at K4
 change Hid (Blk (W0.iterAt (N + 1 + 1) s (0 + wd)) (N + 1) 60 #[.int .i32 0, .bool false, .int .i32 0]) at K6
 generalize W0.iterAt (N + 1 + 1) s (0 + wd) = W1 at *
 clear HI
 have HB0 : Hid (Below w.heap.size w W1) := by have := HB.out; rw [← HN.out] at this; exact hid this
 have hlk := tab_look (w := W1.setCell ⟨N + 1, 0, none⟩ (.int .i32 r)) (m := m) (by
  exact hTT.out.low (below_set HB0.out (b := N + 1) (by have := HN.out; omega) 0 (.int .i32 r))) r hrb.out
 rw [htr] at hlk
 simp only [Option.getD, Option.isSome, Tr.val, Tr.none] at hlk
 obtain ⟨d0, d1, d2, df⟩ := K6.out.c3
 obtain ⟨f0, f1, f2, ff⟩ := K4.out.c3
 have hlN := K4.out.lt
 have hlP := K6.out.lt
 clear K4 K6 htr
 go_wp2_with (first | (go_at_call 48; (with_reducible refine Calls.mono (hP1.out _) ?_); rintro e w1 ⟨rfl, rfl⟩) | (go_at_call 48; (with_reducible refine Calls.mono (hP2.out _) ?_); rintro e w1 ⟨rfl, rfl⟩) | (go_at_call 48; (with_reducible refine Calls.mono (hP3.out _) ?_); rintro e w1 ⟨rfl, rfl⟩))
 refine bodyPost_ret (v := .tuple #[.agg #[.int .i32 (r), .bool false, .int .i32 0], .int .i64 (wd : Int)]) (by simp [results, Tryz.results86, go_sem, f0, f1, f2, ff, hlN, hlP]) rfl ⟨rfl, ?_⟩
 have hB := HB0.out
 have hNN := HN.out
 repeat' (first | exact hB | refine below_set ?_ ?_ _ _ | refine Below.alloc ?_ ?_ _ | (have := hB.size; simp; omega) | omega)
end Go.Proofs.YtieifhfgedoiaaaGreatDoor
