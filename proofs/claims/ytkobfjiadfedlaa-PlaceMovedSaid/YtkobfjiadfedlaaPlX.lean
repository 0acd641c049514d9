/- PlaceMoved: a place moved by 0, and by two numbers. Conditions: the text has at most maxLen bytes. -/
import Derived.Test.YtkobfjiadfedlaaPlT
import Derived.Test.YtkobfjiadfedlaaPlS
import Derived.WalkKit
import Derived.WalkSpells
import Derived.WalkLawsBesides
import Derived.Deep.QuietTactic
import Derived.BigQuiet
namespace Go.Proofs.Ytkobfjiadfedlaa
open Go.RowKit
set_option linter.unusedVariables false
set_option linter.unusedSimpArgs false
attribute [local go_sem] Ext.cell Ext.froz
set_option maxHeartbeats 2000000 in
theorem moved_o1 (s : ByteArray) (at' a c : Int) (w : World) (hs : s.size ≤ 65536) (h1 : at' < 0) :
    Calls Try.prog 10 #[.string s, .int .i64 at', .int .i64 a, .int .i64 c] w fun e w' => e = .returned (.bool true) ∧ Below w.heap.size w w' := by
  have hW0 := hid (works_any w)
  have d0 : decide (at' < 0) = true := decide_eq_true (by omega)
  go_enter Try.func10, Try.ntmps10
  go_wp2_with fail
  with_reducible refine Calls.mono hW0.out ?_
  rintro e w1 ⟨rfl, hb1⟩
  go_wp2_with fail
  have hN := hid (new_map s w1 hs)
  with_reducible refine Calls.mono hN.out ?_
  rintro e w2 ⟨b, rfl, hm, hb2⟩
  have b2 : Below w.heap.size w w2 := hb1.trans (hb2.mono hb1.size)
  clear hm hb2 hN hb1
  go_wp2_with fail
  have hW2 := hid (works_any w2)
  with_reducible refine Calls.mono hW2.out ?_
  rintro e w3 ⟨rfl, hb3⟩
  go_wp2
  try rw [Exit.noGoto_ret]
  go_ret
  exact ⟨rfl, b2.trans (hb3.mono b2.size)⟩
set_option maxHeartbeats 2000000 in
theorem moved_o2 (s : ByteArray) (at' a c : Int) (w : World) (hs : s.size ≤ 65536) (h0 : 0 ≤ at') (h1 : (s.size : Int) < at') :
    Calls Try.prog 10 #[.string s, .int .i64 at', .int .i64 a, .int .i64 c] w fun e w' => e = .returned (.bool true) ∧ Below w.heap.size w w' := by
  have hW0 := hid (works_any w)
  have d0 : decide (at' < 0) = false := decide_eq_false (by omega)
  have d1 : decide ((s.size : Int) < at') = true := decide_eq_true (by omega)
  go_enter Try.func10, Try.ntmps10
  go_wp2_with fail
  with_reducible refine Calls.mono hW0.out ?_
  rintro e w1 ⟨rfl, hb1⟩
  go_wp2_with fail
  have hN := hid (new_map s w1 hs)
  with_reducible refine Calls.mono hN.out ?_
  rintro e w2 ⟨b, rfl, hm, hb2⟩
  have b2 : Below w.heap.size w w2 := hb1.trans (hb2.mono hb1.size)
  clear hm hb2 hN hb1
  go_wp2_with fail
  have hW2 := hid (works_any w2)
  with_reducible refine Calls.mono hW2.out ?_
  rintro e w3 ⟨rfl, hb3⟩
  go_wp2
  try rw [Exit.noGoto_ret]
  go_ret
  exact ⟨rfl, b2.trans (hb3.mono b2.size)⟩
set_option maxHeartbeats 2000000 in
theorem moved_o3 (s : ByteArray) (at' a c : Int) (w : World) (hs : s.size ≤ 65536) (h0 : 0 ≤ at') (h1 : at' ≤ s.size) (h2 : ¬ (a < 0 ↔ c < 0)) :
    Calls Try.prog 10 #[.string s, .int .i64 at', .int .i64 a, .int .i64 c] w fun e w' => e = .returned (.bool true) ∧ Below w.heap.size w w' := by
  have hW0 := hid (works_any w)
  have d0 : decide (at' < 0) = false := decide_eq_false (by omega)
  have d1 : decide ((s.size : Int) < at') = false := decide_eq_false (by omega)
  have d2 : (decide (a < 0) != decide (c < 0)) = true := by
    by_cases u : a < 0 <;> by_cases v : c < 0 <;> simp [u, v] at h2 ⊢
  go_enter Try.func10, Try.ntmps10
  go_wp2_with fail
  with_reducible refine Calls.mono hW0.out ?_
  rintro e w1 ⟨rfl, hb1⟩
  go_wp2_with fail
  have hN := hid (new_map s w1 hs)
  with_reducible refine Calls.mono hN.out ?_
  rintro e w2 ⟨b, rfl, hm, hb2⟩
  have b2 : Below w.heap.size w w2 := hb1.trans (hb2.mono hb1.size)
  clear hm hb2 hN hb1
  go_wp2_with fail
  have hW2 := hid (works_any w2)
  with_reducible refine Calls.mono hW2.out ?_
  rintro e w3 ⟨rfl, hb3⟩
  go_wp2
  try rw [Exit.noGoto_ret]
  go_ret
  exact ⟨rfl, b2.trans (hb3.mono b2.size)⟩
set_option maxHeartbeats 2000000 in
theorem moved_o4 (s : ByteArray) (at' a c : Int) (w : World) (hs : s.size ≤ 65536) (h0 : 0 ≤ at') (h1 : at' ≤ s.size) (h2 : a < 0 ↔ c < 0) (h3 : 1099511627776 < a) :
    Calls Try.prog 10 #[.string s, .int .i64 at', .int .i64 a, .int .i64 c] w fun e w' => e = .returned (.bool true) ∧ Below w.heap.size w w' := by
  have hW0 := hid (works_any w)
  have d0 : decide (at' < 0) = false := decide_eq_false (by omega)
  have d1 : decide ((s.size : Int) < at') = false := decide_eq_false (by omega)
  have d2 : (decide (a < 0) != decide (c < 0)) = false := by
    by_cases u : a < 0 <;> by_cases v : c < 0 <;> simp [u, v] at h2 ⊢
  have d3 : decide ((1099511627776:Int) < a) = true := decide_eq_true (by omega)
  go_enter Try.func10, Try.ntmps10
  go_wp2_with fail
  with_reducible refine Calls.mono hW0.out ?_
  rintro e w1 ⟨rfl, hb1⟩
  go_wp2_with fail
  have hN := hid (new_map s w1 hs)
  with_reducible refine Calls.mono hN.out ?_
  rintro e w2 ⟨b, rfl, hm, hb2⟩
  have b2 : Below w.heap.size w w2 := hb1.trans (hb2.mono hb1.size)
  clear hm hb2 hN hb1
  go_wp2_with fail
  have hW2 := hid (works_any w2)
  with_reducible refine Calls.mono hW2.out ?_
  rintro e w3 ⟨rfl, hb3⟩
  go_wp2
  try rw [Exit.noGoto_ret]
  go_ret
  exact ⟨rfl, b2.trans (hb3.mono b2.size)⟩
set_option maxHeartbeats 2000000 in
theorem moved_o5 (s : ByteArray) (at' a c : Int) (w : World) (hs : s.size ≤ 65536) (h0 : 0 ≤ at') (h1 : at' ≤ s.size) (h2 : a < 0 ↔ c < 0) (h3 : a < -1099511627776) :
    Calls Try.prog 10 #[.string s, .int .i64 at', .int .i64 a, .int .i64 c] w fun e w' => e = .returned (.bool true) ∧ Below w.heap.size w w' := by
  have hW0 := hid (works_any w)
  have d0 : decide (at' < 0) = false := decide_eq_false (by omega)
  have d1 : decide ((s.size : Int) < at') = false := decide_eq_false (by omega)
  have d2 : (decide (a < 0) != decide (c < 0)) = false := by
    by_cases u : a < 0 <;> by_cases v : c < 0 <;> simp [u, v] at h2 ⊢
  have d3 : decide ((1099511627776:Int) < a) = false := decide_eq_false (by omega)
  have d4 : decide (a < -1099511627776) = true := decide_eq_true (by omega)
  go_enter Try.func10, Try.ntmps10
  go_wp2_with fail
  with_reducible refine Calls.mono hW0.out ?_
  rintro e w1 ⟨rfl, hb1⟩
  go_wp2_with fail
  have hN := hid (new_map s w1 hs)
  with_reducible refine Calls.mono hN.out ?_
  rintro e w2 ⟨b, rfl, hm, hb2⟩
  have b2 : Below w.heap.size w w2 := hb1.trans (hb2.mono hb1.size)
  clear hm hb2 hN hb1
  go_wp2_with fail
  have hW2 := hid (works_any w2)
  with_reducible refine Calls.mono hW2.out ?_
  rintro e w3 ⟨rfl, hb3⟩
  go_wp2
  try rw [Exit.noGoto_ret]
  go_ret
  exact ⟨rfl, b2.trans (hb3.mono b2.size)⟩
set_option maxHeartbeats 2000000 in
theorem moved_o6 (s : ByteArray) (at' a c : Int) (w : World) (hs : s.size ≤ 65536) (h0 : 0 ≤ at') (h1 : at' ≤ s.size) (h2 : a < 0 ↔ c < 0) (h3 : a ≤ 1099511627776) (h4 : -1099511627776 ≤ a) (h5 : 1099511627776 < c) :
    Calls Try.prog 10 #[.string s, .int .i64 at', .int .i64 a, .int .i64 c] w fun e w' => e = .returned (.bool true) ∧ Below w.heap.size w w' := by
  have hW0 := hid (works_any w)
  have d0 : decide (at' < 0) = false := decide_eq_false (by omega)
  have d1 : decide ((s.size : Int) < at') = false := decide_eq_false (by omega)
  have d2 : (decide (a < 0) != decide (c < 0)) = false := by
    by_cases u : a < 0 <;> by_cases v : c < 0 <;> simp [u, v] at h2 ⊢
  have d3 : decide ((1099511627776:Int) < a) = false := decide_eq_false (by omega)
  have d4 : decide (a < -1099511627776) = false := decide_eq_false (by omega)
  have d5 : decide ((1099511627776:Int) < c) = true := decide_eq_true (by omega)
  go_enter Try.func10, Try.ntmps10
  go_wp2_with fail
  with_reducible refine Calls.mono hW0.out ?_
  rintro e w1 ⟨rfl, hb1⟩
  go_wp2_with fail
  have hN := hid (new_map s w1 hs)
  with_reducible refine Calls.mono hN.out ?_
  rintro e w2 ⟨b, rfl, hm, hb2⟩
  have b2 : Below w.heap.size w w2 := hb1.trans (hb2.mono hb1.size)
  clear hm hb2 hN hb1
  go_wp2_with fail
  have hW2 := hid (works_any w2)
  with_reducible refine Calls.mono hW2.out ?_
  rintro e w3 ⟨rfl, hb3⟩
  go_wp2
  try rw [Exit.noGoto_ret]
  go_ret
  exact ⟨rfl, b2.trans (hb3.mono b2.size)⟩
set_option maxHeartbeats 2000000 in
theorem moved_o7 (s : ByteArray) (at' a c : Int) (w : World) (hs : s.size ≤ 65536) (h0 : 0 ≤ at') (h1 : at' ≤ s.size) (h2 : a < 0 ↔ c < 0) (h3 : a ≤ 1099511627776) (h4 : -1099511627776 ≤ a) (h5 : c < -1099511627776) :
    Calls Try.prog 10 #[.string s, .int .i64 at', .int .i64 a, .int .i64 c] w fun e w' => e = .returned (.bool true) ∧ Below w.heap.size w w' := by
  have hW0 := hid (works_any w)
  have d0 : decide (at' < 0) = false := decide_eq_false (by omega)
  have d1 : decide ((s.size : Int) < at') = false := decide_eq_false (by omega)
  have d2 : (decide (a < 0) != decide (c < 0)) = false := by
    by_cases u : a < 0 <;> by_cases v : c < 0 <;> simp [u, v] at h2 ⊢
  have d3 : decide ((1099511627776:Int) < a) = false := decide_eq_false (by omega)
  have d4 : decide (a < -1099511627776) = false := decide_eq_false (by omega)
  have d5 : decide ((1099511627776:Int) < c) = false := decide_eq_false (by omega)
  have d6 : decide (c < -1099511627776) = true := decide_eq_true (by omega)
  go_enter Try.func10, Try.ntmps10
  go_wp2_with fail
  with_reducible refine Calls.mono hW0.out ?_
  rintro e w1 ⟨rfl, hb1⟩
  go_wp2_with fail
  have hN := hid (new_map s w1 hs)
  with_reducible refine Calls.mono hN.out ?_
  rintro e w2 ⟨b, rfl, hm, hb2⟩
  have b2 : Below w.heap.size w w2 := hb1.trans (hb2.mono hb1.size)
  clear hm hb2 hN hb1
  go_wp2_with fail
  have hW2 := hid (works_any w2)
  with_reducible refine Calls.mono hW2.out ?_
  rintro e w3 ⟨rfl, hb3⟩
  go_wp2
  try rw [Exit.noGoto_ret]
  go_ret
  exact ⟨rfl, b2.trans (hb3.mono b2.size)⟩
set_option maxRecDepth 100000 in
set_option maxHeartbeats 8000000 in
theorem moved_main (s : ByteArray) (at' a c : Int) (w : World) (hs : s.size ≤ 65536) (h0 : 0 ≤ at') (h1 : at' ≤ s.size) (h2 : a < 0 ↔ c < 0) (h3 : a ≤ 1099511627776) (h4 : -1099511627776 ≤ a) (h5 : c ≤ 1099511627776) (h6 : -1099511627776 ≤ c) :
    Calls Try.prog 10 #[.string s, .int .i64 at', .int .i64 a, .int .i64 c] w fun e w' => e = .returned (.bool true) ∧ Below w.heap.size w w' := by
  have hW0 := hid (works_any w)
  have d0 : decide (at' < 0) = false := decide_eq_false (by omega)
  have d1 : decide ((s.size : Int) < at') = false := decide_eq_false (by omega)
  have d2 : (decide (a < 0) != decide (c < 0)) = false := by
    by_cases u : a < 0 <;> by_cases v : c < 0 <;> simp [u, v] at h2 ⊢
  have d3 : decide ((1099511627776:Int) < a) = false := decide_eq_false (by omega)
  have d4 : decide (a < -1099511627776) = false := decide_eq_false (by omega)
  have d5 : decide ((1099511627776:Int) < c) = false := decide_eq_false (by omega)
  have d6 : decide (c < -1099511627776) = false := decide_eq_false (by omega)
  obtain ⟨j, p, hat⟩ := at_find s Pl.b (.inl rfl) at' h0
  have hHat := hid hat
  clear hat
  go_enter Try.func10, Try.ntmps10
  go_wp2_with fail
  with_reducible refine Calls.mono hW0.out ?_
  rintro e w1 ⟨rfl, hb1⟩
  clear hW0
  go_wp2_with fail
  have hN := hid (new_map s w1 hs)
  with_reducible refine Calls.mono hN.out ?_
  rintro e w2 ⟨b, rfl, hm, hb2⟩
  have b2 : Below w.heap.size w w2 := hb1.trans (hb2.mono hb1.size)
  clear hb2 hN hb1
  have hM := hid hm
  clear hm
  go_wp2_with fail
  have hB := hid (mp_byte hM.out hs at' h0 h1 hHat.out)
  with_reducible refine Calls.mono hB.out ?_
  rintro e w3 ⟨rfl, hb3⟩
  have hM3 := hid (hM.out.below hb3)
  have b3 : Below w.heap.size w w3 := b2.trans (hb3.mono b2.size)
  clear hM hb3 hB b2
  go_wp2_with fail
  generalize hW4 : w3.alloc (.cells #[.int .i64 p.b, .int .i64 p.r, .int .i64 p.u, .int .i64 p.l, .int .i64 p.c] 33) = w4
  have hb4 : Below w3.heap.size w3 w4 := by subst hW4; exact (Below.refl _ _).alloc (Nat.le_refl _) _
  have hN4 : w4.heap[w3.heap.size]? = some (.cells #[.int .i64 p.b, .int .i64 p.r, .int .i64 p.u, .int .i64 p.l, .int .i64 p.c] 33 (0, 0)) := by subst hW4; exact heap_alloc_new w3 _
  have y0 := blk_cell (k := 0) hN4 rfl
  have y1 := blk_cell (k := 1) hN4 rfl
  have y2 := blk_cell (k := 2) hN4 rfl
  have y3 := blk_cell (k := 3) hN4 rfl
  have y4 := blk_cell (k := 4) hN4 rfl
  have hs4 : w3.heap.size < w4.heap.size := by subst hW4; simp
  have hM4 := hid (hM3.out.below hb4)
  have b4 : Below w.heap.size w w4 := b3.trans (hb4.mono b3.size)
  clear hW4 hN4 hb4 hM3 b3
  have hq0 : (plOf s)[clampR s j 0]? = some p := by
    have hl := (List.getElem?_eq_some_iff.1 hHat.out.get).1
    have hn := plOf_len s
    have : clampR s j 0 = j := by unfold clampR; split <;> (try split) <;> omega
    rw [this]; exact hHat.out.get
  have hC := hid (mp_move1 hM4.out hs at' h0 h1 hHat.out 0 (by omega) (by omega) hq0)
  clear hq0
  refine wp_loop_rounds 4 ?_
  rw [rounds_succ]
  go_wp2_with fail
  with_reducible refine Calls.mono hC.out ?_
  rintro e w5 ⟨rfl, hb5⟩
  have hM5 := hid (hM4.out.below hb5)
  have b5 : Below w.heap.size w w5 := b4.trans (hb5.mono b4.size)
  have hs5 : w3.heap.size < w5.heap.size := Nat.lt_of_lt_of_le hs4 hb5.size
  replace y0 := keeps hb5 y0
  replace y1 := keeps hb5 y1
  replace y2 := keeps hb5 y2
  replace y3 := keeps hb5 y3
  replace y4 := keeps hb5 y4
  clear hM4 hb5 b4 hC hs4
  go_wp2_with fail
  generalize hW6 : w5.alloc (.cells #[.int .i64 p.b, .int .i64 p.r, .int .i64 p.u, .int .i64 p.l, .int .i64 p.c] 33) = w6
  have hb6 : Below w5.heap.size w5 w6 := by subst hW6; exact (Below.refl _ _).alloc (Nat.le_refl _) _
  have hM6 := hid (hM5.out.below hb6)
  have b6 : Below w.heap.size w w6 := b5.trans (hb6.mono b5.size)
  have hs6 : w3.heap.size < w6.heap.size := Nat.lt_of_lt_of_le hs5 hb6.size
  replace y0 := keeps hb6 y0
  replace y1 := keeps hb6 y1
  replace y2 := keeps hb6 y2
  replace y3 := keeps hb6 y3
  replace y4 := keeps hb6 y4
  clear hW6 hb6 hM5 b5 hs5
  have hC := hid (mp_move2_zero hM6.out hs at' h0 h1 hHat.out)
  rw [rounds_succ]
  go_wp2_with fail
  with_reducible refine Calls.mono hC.out ?_
  rintro e w7 ⟨rfl, hb7⟩
  have hM7 := hid (hM6.out.below hb7)
  have b7 : Below w.heap.size w w7 := b6.trans (hb7.mono b6.size)
  have hs7 : w3.heap.size < w7.heap.size := Nat.lt_of_lt_of_le hs6 hb7.size
  replace y0 := keeps hb7 y0
  replace y1 := keeps hb7 y1
  replace y2 := keeps hb7 y2
  replace y3 := keeps hb7 y3
  replace y4 := keeps hb7 y4
  clear hM6 hb7 b6 hs6 hC
  go_wp2_with fail
  generalize hW8 : w7.alloc (.cells #[.int .i64 p.b, .int .i64 p.r, .int .i64 p.u, .int .i64 p.l, .int .i64 p.c] 33) = w8
  have hb8 : Below w7.heap.size w7 w8 := by subst hW8; exact (Below.refl _ _).alloc (Nat.le_refl _) _
  have hM8 := hid (hM7.out.below hb8)
  have b8 : Below w.heap.size w w8 := b7.trans (hb8.mono b7.size)
  have hs8 : w3.heap.size < w8.heap.size := Nat.lt_of_lt_of_le hs7 hb8.size
  replace y0 := keeps hb8 y0
  replace y1 := keeps hb8 y1
  replace y2 := keeps hb8 y2
  replace y3 := keeps hb8 y3
  replace y4 := keeps hb8 y4
  clear hW8 hb8 hM7 b7 hs7
  obtain ⟨⟨qb, qr, qu, ql, qc⟩, hql, hC⟩ := mp_move3_zero hM8.out hs at' h0 h1 hHat.out
  replace hC := hid hC
  simp only at hql
  subst hql
  rw [rounds_succ]
  go_wp2_with fail
  with_reducible refine Calls.mono hC.out ?_
  rintro e w9 ⟨rfl, hb9⟩
  have hM9 := hid (hM8.out.below hb9)
  have b9 : Below w.heap.size w w9 := b8.trans (hb9.mono b8.size)
  have hs9 : w3.heap.size < w9.heap.size := Nat.lt_of_lt_of_le hs8 hb9.size
  replace y0 := keeps hb9 y0
  replace y1 := keeps hb9 y1
  replace y2 := keeps hb9 y2
  replace y3 := keeps hb9 y3
  replace y4 := keeps hb9 y4
  clear hM8 hb9 b8 hs8 hC
  go_wp2_with fail
  clear y0 y1 y2 y3 y4 hs9
  generalize hW10 : w9.alloc (.cells #[.int .i64 qb, .int .i64 qr, .int .i64 qu, .int .i64 p.l, .int .i64 qc] 33) = w10
  have hb10 : Below w9.heap.size w9 w10 := by subst hW10; exact (Below.refl _ _).alloc (Nat.le_refl _) _
  have hM10 := hid (hM9.out.below hb10)
  have b10 : Below w.heap.size w w10 := b9.trans (hb10.mono b9.size)
  clear hW10 hb10 hM9 b9
  obtain ⟨q1, hq1⟩ : ∃ q, (plOf s)[clampR s j a]? = some q := ⟨_, List.getElem?_eq_getElem (by have := clamp_le s j a; have := plOf_len s; omega)⟩
  have hC := hid (mp_move1 hM10.out hs at' h0 h1 hHat.out a (by omega) (by omega) hq1)
  have hq1' := hid hq1
  clear hq1
  rw [rounds_succ]
  go_wp2_with fail
  with_reducible refine Calls.mono hC.out ?_
  rintro e w11 ⟨rfl, hb11⟩
  have hM11 := hid (hM10.out.below hb11)
  have b11 : Below w.heap.size w w11 := b10.trans (hb11.mono b10.size)
  clear hM10 hb11 b10 hC
  go_wp2_with fail
  generalize hW12 : w11.alloc (.cells #[.int .i64 q1.b, .int .i64 q1.r, .int .i64 q1.u, .int .i64 q1.l, .int .i64 q1.c] 33) = w12
  have hb12 : Below w11.heap.size w11 w12 := by subst hW12; exact (Below.refl _ _).alloc (Nat.le_refl _) _
  have hM12 := hid (hM11.out.below hb12)
  have b12 : Below w.heap.size w w12 := b11.trans (hb12.mono b11.size)
  clear hW12 hb12 hM11 b11
  obtain ⟨q2, hq2⟩ : ∃ q, (plOf s)[clampR s j (a + c)]? = some q := ⟨_, List.getElem?_eq_getElem (by have := clamp_le s j (a + c); have := plOf_len s; omega)⟩
  have hadd := clamp_add s j (by have := (List.getElem?_eq_some_iff.1 hHat.out.get).1; have := plOf_len s; omega) a c (by omega)
  have hC := hid (mp_move1 hM12.out hs q1.b (by omega) (by have := (pl_bd s hs hq1'.out).2.2.2.2.2; omega) (at_self s Pl.b (.inl rfl) hq1'.out) c (by omega) (by omega) (by rw [hadd]; exact hq2))
  have hq2' := hid hq2
  clear hq2
  with_reducible refine Calls.mono hC.out ?_
  rintro e w13 ⟨rfl, hb13⟩
  have hM13 := hid (hM12.out.below hb13)
  have b13 : Below w.heap.size w w13 := b12.trans (hb13.mono b12.size)
  clear hM12 hb13 b12 hC
  go_wp2_with fail
  generalize hW14 : w13.alloc (.cells #[.int .i64 q2.b, .int .i64 q2.r, .int .i64 q2.u, .int .i64 q2.l, .int .i64 q2.c] 33) = w14
  have hb14 : Below w13.heap.size w13 w14 := by subst hW14; exact (Below.refl _ _).alloc (Nat.le_refl _) _
  have hM14 := hid (hM13.out.below hb14)
  have b14 : Below w.heap.size w w14 := b13.trans (hb14.mono b13.size)
  have hN : w14.heap[w13.heap.size]? = some (.cells #[.int .i64 q2.b, .int .i64 q2.r, .int .i64 q2.u, .int .i64 q2.l, .int .i64 q2.c] 33 (0, 0)) := by subst hW14; exact heap_alloc_new w13 _
  have x0 := blk_cell (k := 0) hN rfl
  have x1 := blk_cell (k := 1) hN rfl
  have x2 := blk_cell (k := 2) hN rfl
  have x3 := blk_cell (k := 3) hN rfl
  have x4 := blk_cell (k := 4) hN rfl
  clear hN
  have hs14 : w13.heap.size < w14.heap.size := by subst hW14; simp
  clear hW14 hb14 hM13 b13
  have hC := hid (mp_move1 hM14.out hs at' h0 h1 hHat.out (a + c) (by omega) (by omega) hq2'.out)
  with_reducible refine Calls.mono hC.out ?_
  rintro e w15 ⟨rfl, hb15⟩
  have b15 : Below w.heap.size w w15 := b14.trans (hb15.mono b14.size)
  have hs15 : w13.heap.size < w15.heap.size := Nat.lt_of_lt_of_le hs14 hb15.size
  replace x0 := keeps hb15 x0
  replace x1 := keeps hb15 x1
  replace x2 := keeps hb15 x2
  replace x3 := keeps hb15 x3
  replace x4 := keeps hb15 x4
  clear hb15 hM14 b14 hC
  go_wp2_with fail
  generalize hW16 : w15.alloc (.cells #[.int .i64 q2.b, .int .i64 q2.r, .int .i64 q2.u, .int .i64 q2.l, .int .i64 q2.c] 33) = w16
  have hb16 : Below w15.heap.size w15 w16 := by subst hW16; exact (Below.refl _ _).alloc (Nat.le_refl _) _
  have b16 : Below w.heap.size w w16 := b15.trans (hb16.mono b15.size)
  clear hW16 hb16 b15 x0 x1 x2 x3 x4
  have hC := hid (works_any w16)
  with_reducible refine Calls.mono hC.out ?_
  rintro e w17 ⟨rfl, hb17⟩
  have b17 : Below w.heap.size w w17 := b16.trans (hb17.mono b16.size)
  clear hb17 b16 hC
  go_wp2
  try rw [Exit.noGoto_ret]
  go_ret
  exact ⟨rfl, b17⟩
set_option maxHeartbeats 4000000 in
theorem moved_long (s : ByteArray) (at' a c : Int) (w : World) (hs : 65536 < s.size) (hm : s.size ≤ maxLen) :
    Calls Try.prog 10 #[.string s, .int .i64 at', .int .i64 a, .int .i64 c] w fun e w' => e = .returned (.bool true) ∧ Below w.heap.size w w' := by
  have hW0 := hid (works_any w)
  have d0 : decide ((65536:Int) < s.size) = true := decide_eq_true (by omega)
  go_enter Try.func10, Try.ntmps10
  go_wp2_with fail
  with_reducible refine Calls.mono hW0.out ?_
  rintro e w1 ⟨rfl, hb1⟩
  go_wp2_with fail
  have hN := hid (new_long s w1 hs hm)
  with_reducible refine Calls.mono hN.out ?_
  rintro e w2 ⟨rfl, hb2⟩
  have b2 : Below w.heap.size w w2 := hb1.trans (hb2.mono hb1.size)
  clear hb2 hN hb1
  go_wp2_with fail
  have hW2 := hid (works_any w2)
  with_reducible refine Calls.mono hW2.out ?_
  rintro e w3 ⟨rfl, hb3⟩
  go_wp2
  try rw [Exit.noGoto_ret]
  go_ret
  exact ⟨rfl, b2.trans (hb3.mono b2.size)⟩
theorem moved_any (s : ByteArray) (at' a c : Int) (w : World) (hm : s.size ≤ maxLen) :
    Calls Try.prog 10 #[.string s, .int .i64 at', .int .i64 a, .int .i64 c] w fun e w' => e = .returned (.bool true) ∧ Below w.heap.size w w' := by
  by_cases hs : s.size ≤ 65536
  · by_cases g0 : at' < 0
    · exact moved_o1 s at' a c w hs g0
    · by_cases g1 : (s.size : Int) < at'
      · exact moved_o2 s at' a c w hs (by omega) g1
      · by_cases g2 : a < 0 ↔ c < 0
        · by_cases g3 : 1099511627776 < a
          · exact moved_o4 s at' a c w hs (by omega) (by omega) g2 g3
          · by_cases g4 : a < -1099511627776
            · exact moved_o5 s at' a c w hs (by omega) (by omega) g2 g4
            · by_cases g5 : 1099511627776 < c
              · exact moved_o6 s at' a c w hs (by omega) (by omega) g2 (by omega) (by omega) g5
              · by_cases g6 : c < -1099511627776
                · exact moved_o7 s at' a c w hs (by omega) (by omega) g2 (by omega) (by omega) g6
                · exact moved_main s at' a c w hs (by omega) (by omega) g2 (by omega) (by omega) (by omega) (by omega)
        · exact moved_o3 s at' a c w hs (by omega) (by omega) g2
  · exact moved_long s at' a c w (by omega) hm
end Go.Proofs.Ytkobfjiadfedlaa
