/- PlaceMoves, walked: a place moved, by the map and by the document. Conditions: none but the length that a string may have, and what an int may be. -/
import Derived.Test.YtkobfjiadfedlaaPlRj
import Derived.Deep.DeepCutAuto
namespace Go.Proofs.Ytkobfjiadfedlaa
open Go.RowKit
set_option linter.unusedVariables false
set_option linter.unusedSimpArgs false
attribute [local go_sem] Ext.cell Ext.froz
set_option maxRecDepth 100000 in
set_option maxHeartbeats 4000000 in
theorem mv_long (s : ByteArray) (at' way n : Int) (w : World) (hs : 65536 < s.size) (hm : s.size ≤ maxLen) :
    Calls Try.prog 9 #[.string s, .int .i64 at', .int .i64 way, .int .i64 n] w fun e w' => e = .returned (.bool true) ∧ Below w.heap.size w w' := by
  have d0 : decide ((65536:Int) < s.size) = true := decide_eq_true (by omega)
  go_enter Try.func9, Try.ntmps9
  go_wp2_with fail
  have hW := hid (works_any w)
  with_reducible refine Calls.mono hW.out ?_
  rintro e w1 ⟨rfl, ba⟩
  clear hW
  go_wp2_with fail
  have hN := hid (new_long s w1 hs hm)
  with_reducible refine Calls.mono hN.out ?_
  rintro e w2 ⟨rfl, hb⟩
  replace ba := ba.trans (hb.mono ba.size)
  clear hb hN
  go_wp2_with fail
  have hW := hid (works_any w2)
  with_reducible refine Calls.mono hW.out ?_
  rintro e w3 ⟨rfl, hb⟩
  replace ba := ba.trans (hb.mono ba.size)
  clear hb hW
  go_wp2_with fail
  exact bodyPost_ret (v := .bool true) (by simp [results, Try.results9, go_sem]) rfl ⟨rfl, ba⟩
set_option maxRecDepth 100000 in
set_option maxHeartbeats 4000000 in
theorem mv_badway (s : ByteArray) (at' way n : Int) (w : World) (hs : s.size ≤ 65536) (hw : way < 1 ∨ 3 < way) :
    Calls Try.prog 9 #[.string s, .int .i64 at', .int .i64 way, .int .i64 n] w fun e w' => e = .returned (.bool true) ∧ Below w.heap.size w w' := by
  go_enter Try.func9, Try.ntmps9
  go_wp2_with fail
  have hW := hid (works_any w)
  with_reducible refine Calls.mono hW.out ?_
  rintro e w1 ⟨rfl, ba⟩
  clear hW
  go_wp2_with fail
  have hN := hid (new_map s w1 hs)
  with_reducible refine Calls.mono hN.out ?_
  rintro e w2 ⟨b, rfl, hm, hb⟩
  replace ba := ba.trans (hb.mono ba.size)
  clear hb hN
  go_wp2_with fail
  have hMv := hid (mv_way_bad (w := w2) (b := b) (s := s) at' way n hw)
  with_reducible refine Calls.mono hMv.out ?_
  rintro e w3 ⟨rfl, hb⟩
  replace ba := ba.trans (hb.mono ba.size)
  replace hm := hm.below hb
  clear hb hMv
  obtain ⟨N, hN⟩ : ∃ N, w3.heap.size = N := ⟨_, rfl⟩
  obtain ⟨w4, hA⟩ : ∃ W, w3.alloc (.cells #[.int .i64 0, .int .i64 0, .int .i64 0, .int .i64 0, .int .i64 0] 33) = W := ⟨_, rfl⟩
  have k11 : Blk w4 N 33 #[.int .i64 0, .int .i64 0, .int .i64 0, .int .i64 0, .int .i64 0] := by rw [← hA, ← hN]; exact Blk.new w3 _ _
  have hb : Below w3.heap.size w3 w4 := hA ▸ (Below.refl _ _).alloc (Nat.le_refl _) _
  replace ba := ba.trans (hb.mono ba.size)
  replace hm := hm.below hb
  have hA1 := hid hA
  clear hA hb
  go_upto_region 7 with fail
  try simp only [hN]
  rw [hA1.out]
  clear hA1 hN
  have c0 := k11.cell (k := 0) rfl
  have c1 := k11.cell (k := 1) rfl
  have c2 := k11.cell (k := 2) rfl
  have c3 := k11.cell (k := 3) rfl
  have c4 := k11.cell (k := 4) rfl
  by_cases h1 : way < 1
  · have h2 : decide (way < 1) = true := decide_eq_true h1
    clear hw
    go_wp2_with fail
    have hW := hid (works_any w4)
    with_reducible refine Calls.mono hW.out ?_
    rintro e w5 ⟨rfl, hb⟩
    replace ba := ba.trans (hb.mono ba.size)
    clear hb hW
    go_wp2_with fail
    exact bodyPost_ret (v := .bool true) (by simp [results, Try.results9, go_sem]) rfl ⟨rfl, ba⟩
  · have h2 : decide (way < 1) = false := decide_eq_false h1
    have h3 : 3 < way := by omega
    have h4 : decide (3 < way) = true := decide_eq_true h3
    clear hw
    go_wp2_with fail
    have hW := hid (works_any w4)
    with_reducible refine Calls.mono hW.out ?_
    rintro e w5 ⟨rfl, hb⟩
    replace ba := ba.trans (hb.mono ba.size)
    clear hb hW
    go_wp2_with fail
    exact bodyPost_ret (v := .bool true) (by simp [results, Try.results9, go_sem]) rfl ⟨rfl, ba⟩
set_option maxRecDepth 100000 in
set_option maxHeartbeats 4000000 in
theorem mv_badat (s : ByteArray) (at' way n : Int) (w : World) (hs : s.size ≤ 65536) (hw : 1 ≤ way ∧ way ≤ 3) (ha : at' < 0 ∨ (s.size : Int) < at') :
    Calls Try.prog 9 #[.string s, .int .i64 at', .int .i64 way, .int .i64 n] w fun e w' => e = .returned (.bool true) ∧ Below w.heap.size w w' := by
  go_enter Try.func9, Try.ntmps9
  go_wp2_with fail
  have hW := hid (works_any w)
  with_reducible refine Calls.mono hW.out ?_
  rintro e w1 ⟨rfl, ba⟩
  clear hW
  go_wp2_with fail
  have hN := hid (new_map s w1 hs)
  with_reducible refine Calls.mono hN.out ?_
  rintro e w2 ⟨b, rfl, hm, hb⟩
  replace ba := ba.trans (hb.mono ba.size)
  clear hb hN
  go_wp2_with fail
  have hMv := hid (mv_at_bad hm hs at' way n hw ha)
  with_reducible refine Calls.mono hMv.out ?_
  rintro e w3 ⟨rfl, hb⟩
  replace ba := ba.trans (hb.mono ba.size)
  replace hm := hm.below hb
  clear hb hMv
  obtain ⟨N, hN⟩ : ∃ N, w3.heap.size = N := ⟨_, rfl⟩
  obtain ⟨w4, hA⟩ : ∃ W, w3.alloc (.cells #[.int .i64 0, .int .i64 0, .int .i64 0, .int .i64 0, .int .i64 0] 33) = W := ⟨_, rfl⟩
  have k11 : Blk w4 N 33 #[.int .i64 0, .int .i64 0, .int .i64 0, .int .i64 0, .int .i64 0] := by rw [← hA, ← hN]; exact Blk.new w3 _ _
  have hb : Below w3.heap.size w3 w4 := hA ▸ (Below.refl _ _).alloc (Nat.le_refl _) _
  replace ba := ba.trans (hb.mono ba.size)
  replace hm := hm.below hb
  have hA1 := hid hA
  clear hA hb
  go_upto_region 7 with fail
  try simp only [hN]
  rw [hA1.out]
  clear hA1 hN
  have c0 := k11.cell (k := 0) rfl
  have c1 := k11.cell (k := 1) rfl
  have c2 := k11.cell (k := 2) rfl
  have c3 := k11.cell (k := 3) rfl
  have c4 := k11.cell (k := 4) rfl
  have h2 : decide (way < 1) = false := decide_eq_false (by omega)
  have h4 : decide (3 < way) = false := decide_eq_false (by omega)
  have h5 : ¬ way < 1 := by omega
  have h6 : ¬ 3 < way := by omega
  by_cases h1 : at' < 0
  · have g2 : decide (at' < 0) = true := decide_eq_true h1
    clear hw ha
    go_wp2_with fail
    have hW := hid (works_any w4)
    with_reducible refine Calls.mono hW.out ?_
    rintro e w5 ⟨rfl, hb⟩
    replace ba := ba.trans (hb.mono ba.size)
    clear hb hW
    go_wp2_with fail
    exact bodyPost_ret (v := .bool true) (by simp [results, Try.results9, go_sem]) rfl ⟨rfl, ba⟩
  · have g2 : decide (at' < 0) = false := decide_eq_false h1
    have g3 : (s.size : Int) < at' := by omega
    have g4 : decide ((s.size : Int) < at') = true := decide_eq_true g3
    clear hw ha
    go_wp2_with fail
    have hW := hid (works_any w4)
    with_reducible refine Calls.mono hW.out ?_
    rintro e w5 ⟨rfl, hb⟩
    replace ba := ba.trans (hb.mono ba.size)
    clear hb hW
    go_wp2_with fail
    exact bodyPost_ret (v := .bool true) (by simp [results, Try.results9, go_sem]) rfl ⟨rfl, ba⟩
set_option maxRecDepth 100000 in
set_option maxHeartbeats 4000000 in
theorem mv_main (s : ByteArray) (at' way n : Int) (w : World) (hs : s.size ≤ 65536) (hw : 1 ≤ way ∧ way ≤ 3) (ha : 0 ≤ at' ∧ at' ≤ s.size) (n0 : -9223372036854775808 ≤ n) (n1 : n ≤ 9223372036854775807) :
    Calls Try.prog 9 #[.string s, .int .i64 at', .int .i64 way, .int .i64 n] w fun e w' => e = .returned (.bool true) ∧ Below w.heap.size w w' := by
  obtain ⟨q, hq1, hq2⟩ := pair_move s hs at' way n hw ha n0 n1
  replace hq1 := hid hq1
  replace hq2 := hid hq2
  clear n0 n1
  go_enter Try.func9, Try.ntmps9
  go_wp2_with fail
  have hW := hid (works_any w)
  with_reducible refine Calls.mono hW.out ?_
  rintro e w1 ⟨rfl, ba⟩
  clear hW
  go_wp2_with fail
  have hN := hid (new_map s w1 hs)
  with_reducible refine Calls.mono hN.out ?_
  rintro e w2 ⟨b, rfl, hm, hb⟩
  replace ba := ba.trans (hb.mono ba.size)
  clear hb hN
  go_wp2_with fail
  have hMv := hid (hq1.out w2 b hm)
  with_reducible refine Calls.mono hMv.out ?_
  rintro e w3 ⟨rfl, hb⟩
  replace ba := ba.trans (hb.mono ba.size)
  replace hm := hm.below hb
  clear hb hMv
  obtain ⟨N, hN⟩ : ∃ N, w3.heap.size = N := ⟨_, rfl⟩
  obtain ⟨w4, hA⟩ : ∃ W, w3.alloc (.cells (plC q) 33) = W := ⟨_, rfl⟩
  have k11 : Blk w4 N 33 (plC q) := by rw [← hA, ← hN]; exact Blk.new w3 _ _
  have hb : Below w3.heap.size w3 w4 := hA ▸ (Below.refl _ _).alloc (Nat.le_refl _) _
  replace ba := ba.trans (hb.mono ba.size)
  replace hm := hm.below hb
  have hA1 := hid hA
  clear hA hb
  go_upto_region 7 with fail
  try simp only [hN]
  rw [hA1.out]
  clear hA1 hN
  have c0 := k11.cell (k := 0) rfl
  have c1 := k11.cell (k := 1) rfl
  have c2 := k11.cell (k := 2) rfl
  have c3 := k11.cell (k := 3) rfl
  have c4 := k11.cell (k := 4) rfl
  have h2 : decide (way < 1) = false := decide_eq_false (by omega)
  have h4 : decide (3 < way) = false := decide_eq_false (by omega)
  have h5 : ¬ way < 1 := by omega
  have h6 : ¬ 3 < way := by omega
  have g2 : decide (at' < 0) = false := decide_eq_false (by omega)
  have g3 : ¬ (s.size : Int) < at' := by omega
  have g4 : decide ((s.size : Int) < at') = false := decide_eq_false g3
  have g5 : ¬ at' < 0 := by omega
  have hMv : Hid (∀ x : Ext w4, Calls Try.prog 33 #[.string s, .int .i64 at', .int .i64 way, .int .i64 n] x.w fun e w' => e = .returned (plV q) ∧ Below x.w.heap.size x.w w') := hid fun x => hq2.out x.w
  have hWk : Hid (∀ x : Ext w4, Calls Try.prog 12 #[] x.w fun e w' => e = .returned (.bool true) ∧ Below x.w.heap.size x.w w') := hid fun x => works_any x.w
  clear hw ha hq1 hq2
  go_wp2_with fail
  refine ext_allB (by kernel_rfl) (by kernel_rfl) ?_
  iterate 8 (refine bq_step (fun K hK => ?_); go_simp; refine ⟨hK _ ?_⟩; clear hK K)
  refine bq_step (fun K hK => ?_)
  go_simp
  refine ⟨?_⟩
  apply Exists.intro
  refine ⟨fun x => ?_, hK _ ?_⟩
  · with_reducible exact Ext.call (hMv.out _)
  clear hK K
  iterate 3 (refine bq_step (fun K hK => ?_); go_simp; refine ⟨hK _ ?_⟩; clear hK K)
  refine bq_step (fun K hK => ?_)
  go_simp
  refine ⟨?_⟩
  apply Exists.intro
  refine ⟨fun x => ?_, hK _ ?_⟩
  · with_reducible exact Ext.call (hWk.out _)
  clear hK K
  repeat (refine bq_step (fun K hK => ?_); go_simp; refine ⟨hK _ ?_⟩; clear hK K)
  refine bq_nil ?_
  rintro _ ⟨x, rfl⟩
  replace ba := ba.trans (x.h.mono ba.size)
  go_wp2_with fail
  exact bodyPost_ret (v := .bool true) (by simp [results, Try.results9, go_sem]) rfl ⟨rfl, ba⟩
theorem mv_walk (s : ByteArray) (at' way n : Int) (w : World) (hm : s.size ≤ maxLen) (n0 : -9223372036854775808 ≤ n) (n1 : n ≤ 9223372036854775807) :
    Calls Try.prog 9 #[.string s, .int .i64 at', .int .i64 way, .int .i64 n] w fun e w' => e = .returned (.bool true) ∧ Below w.heap.size w w' := by
  by_cases hs : s.size ≤ 65536
  · by_cases hw : 1 ≤ way ∧ way ≤ 3
    · by_cases ha : 0 ≤ at' ∧ at' ≤ s.size
      · exact mv_main s at' way n w hs hw ha n0 n1
      · exact mv_badat s at' way n w hs hw (by omega)
    · exact mv_badway s at' way n w hs (by omega)
  · exact mv_long s at' way n w (by omega) hm
end Go.Proofs.Ytkobfjiadfedlaa
