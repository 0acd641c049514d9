/- Map.Move of a map of a text's places, in each way: below, beyond, within. Conditions: none beyond each theorem's own. -/
import Derived.Test.YtkobfjiadfedlaaPlE
import Derived.Test.YtkobfjiadfedlaaPlF
import Derived.Test.YtkobfjiadfedlaaPlG
import Derived.Test.YtkobfjiadfedlaaPlP
import Derived.Test.YtkobfjiadfedlaaPlM
import Derived.Test.YtkobfjiadfedlaaQt
import Derived.WalkKit
import Derived.WalkSpells
import Derived.WalkLawsBesides
import Derived.Deep.QuietTactic
import Derived.BigQuiet
import Derived.Deep.RegionHeld3
import Derived.Deep.RegionLawGrows
import Derived.StillTailTactics
namespace Go.Proofs.Ytkobfjiadfedlaa
open Go.RowKit
set_option linter.unusedVariables false
set_option linter.unusedSimpArgs false
attribute [local go_sem] Ext.cell Ext.froz
theorem beyond_lo (a n most : Int) (h0 : 0 ≤ a) (h1 : a ≤ most) (h2 : most ≤ 300000) (h3 : -9223372036854775808 ≤ n) (h4 : n ≤ 9223372036854775807) (g1 : n < -a) (w : World) :
    Calls Try.prog 40 #[.int .i64 a, .int .i64 n, .int .i64 most] w fun e w' => e = .returned (.tuple #[.int .i64 0, .int .i64 (-1)]) ∧ w'.heap = w.heap ∧ Below w.heap.size w w' := by
  go_enter Try.func40, Try.ntmps40
  go_wp2_with fail
  go_ret2
  exact ⟨rfl, rfl, Below.refl _ _⟩
theorem beyond_hi (a n most : Int) (h0 : 0 ≤ a) (h1 : a ≤ most) (h2 : most ≤ 300000) (h3 : -9223372036854775808 ≤ n) (h4 : n ≤ 9223372036854775807) (g1 : most - a < n) (w : World) :
    Calls Try.prog 40 #[.int .i64 a, .int .i64 n, .int .i64 most] w fun e w' => e = .returned (.tuple #[.int .i64 0, .int .i64 1]) ∧ w'.heap = w.heap ∧ Below w.heap.size w w' := by
  have g0 : ¬ n < -a := by omega
  go_enter Try.func40, Try.ntmps40
  go_wp2_with fail
  go_ret2
  exact ⟨rfl, rfl, Below.refl _ _⟩
theorem beyond_in (a n most : Int) (h0 : 0 ≤ a) (h1 : a ≤ most) (h2 : most ≤ 300000) (h3 : -9223372036854775808 ≤ n) (h4 : n ≤ 9223372036854775807) (b1 : 0 ≤ a + n) (b2 : a + n ≤ most) (w : World) :
    Calls Try.prog 40 #[.int .i64 a, .int .i64 n, .int .i64 most] w fun e w' => e = .returned (.tuple #[.int .i64 (a + n), .int .i64 0]) ∧ w'.heap = w.heap ∧ Below w.heap.size w w' := by
  have g0 : ¬ n < -a := by omega
  have g1 : ¬ most - a < n := by omega
  go_enter Try.func40, Try.ntmps40
  go_wp2_with fail
  go_ret2
  exact ⟨rfl, rfl, Below.refl _ _⟩
set_option maxRecDepth 1000000 in
set_option maxHeartbeats 4000000 in
theorem move1_lo {w : World} {b : Nat} {s : ByteArray} {P : List Pl} {L : List Ln} {pb pc lb lc : Nat} (h : IsMap w b s P L pb pc lb lc) (hP2 : P.length ≤ 70000) (hL2 : L.length ≤ 70000) (hs : s.size ≤ 70000) (at' : Int) (h0 : 0 ≤ at') (h1 : at' ≤ s.size) (j : Nat) (p : Pl) (hp : P[j]? = some p)
    (hlo : ∀ i q, P[i]? = some q → i ≤ j → (q.b : Int) ≤ at') (hhi : ∀ i q, P[i]? = some q → j < i → at' < (q.b : Int)) (en : Nat) (pe : Pl) (hen : P.length = en + 1) (hpe : P[en]? = some pe)
    (br : p.r ≤ pe.r ∧ pe.r ≤ 200000) (bu : p.u ≤ pe.u ∧ pe.u ≤ 200000) (bl : p.l ≤ pe.l ∧ pe.l ≤ 200000) (n : Int) (n0 : -9223372036854775808 ≤ n) (n1 : n ≤ 9223372036854775807) (q : Pl) (hq : P[0]? = some q) (hn : n < -(p.r : Int)) :
    Calls Try.prog 32 #[.pointer (some ⟨b, 0, none⟩), .int .i64 at', .int .i64 1, .int .i64 n] w fun e w' => e = .returned (.tuple #[.agg #[.int .i64 q.b, .int .i64 q.r, .int .i64 q.u, .int .i64 q.l, .int .i64 q.c], .int .i64 0]) ∧ Below w.heap.size w w' := by
  have H := hid h
  have hb := h.bl
  have c1 := h.c1
  have c2 := h.c2
  have HB := hid (byte_ok (w := w.alloc (.cells #[.int .i64 0, .int .i64 0, .int .i64 0, .int .i64 0, .int .i64 0] 33)) (h.below ((Below.refl _ w).alloc (Nat.le_refl _) _)) hP2 at' h0 h1 j p hp hlo hhi hs)
  have HE : Hid (∀ w2, Below w.heap.size w w2 → Calls Try.prog 21 #[.pointer (some ⟨b, 0, none⟩)] w2 fun e w' => e = .returned (.agg #[.int .i64 pe.b, .int .i64 pe.r, .int .i64 pe.u, .int .i64 pe.l, .int .i64 pe.c]) ∧ Below w2.heap.size w2 w') := fun w2 h2 => by
    have := end_any (h.below h2) en pe hen hpe hP2
    simp only [Pl.val] at this
    exact this
  obtain ⟨br0, br1⟩ := br
  obtain ⟨bu0, bu1⟩ := bu
  obtain ⟨bl0, bl1⟩ := bl
  have HLo := hid hlo
  have HHi := hid hhi
  have HP := hid hp
  have HPE := hid hpe
  have HEN := hid hen
  clear h hlo hhi hp hpe hen
  obtain ⟨q0, q1, q2, q3, q4⟩ := H.out.hp 0 q hq
  have hpb : pb < w.heap.size := World.block_lt_of_cell? w _ q0
  have hl0 : (0 : Int) < P.length := by have := (List.getElem?_eq_some_iff.1 hq).1; omega
  have Hn := hid hn
  clear hq hn
  have HBy : Hid (∀ w', Calls Try.prog 40 #[.int .i64 p.r, .int .i64 n, .int .i64 pe.r] w' fun e w'' => e = .returned (.tuple #[.int .i64 0, .int .i64 (-1)]) ∧ w''.heap = w'.heap ∧ Below w'.heap.size w' w'') := fun w' => by
    have := beyond_lo (p.r : Int) n pe.r (by omega) (by omega) (by omega) n0 n1 Hn.out w'
    exact this
  go_enter Try.func32, Try.ntmps32
  go_wp2_with fail
  with_reducible refine Calls.mono HB.out ?_
  rintro e w2 ⟨rfl, hb2⟩
  have nz := new_block hb2
  have s1 : w.heap.size < w2.heap.size := (Array.getElem?_eq_some_iff.1 nz).1
  have b2 : Below w.heap.size w w2 := ((Below.refl _ w).alloc (Nat.le_refl _) _).trans (hb2.mono (by simp))
  clear hb2 HB
  go_wp2_with fail
  have HE2 := hid (HE.out (w2.alloc (.cells #[.int .i64 p.b, .int .i64 p.r, .int .i64 p.u, .int .i64 p.l, .int .i64 p.c] 33)) (b2.alloc b2.size _))
  with_reducible refine Calls.mono HE2.out ?_
  rintro e w3 ⟨rfl, hb3⟩
  have np := new_block hb3
  have s2 : w2.heap.size < w3.heap.size := (Array.getElem?_eq_some_iff.1 np).1
  have nz3 := (hb3.block w.heap.size (by simp; omega)).trans ((Below.heap_alloc w2 (.cells #[.int .i64 p.b, .int .i64 p.r, .int .i64 p.u, .int .i64 p.l, .int .i64 p.c] 33) _ s1).trans nz)
  have b3 : Below w.heap.size w w3 := (b2.alloc b2.size _).trans (hb3.mono (by have := b2.size; simp; omega))
  have ne : (w3.alloc (.cells #[.int .i64 pe.b, .int .i64 pe.r, .int .i64 pe.u, .int .i64 pe.l, .int .i64 pe.c] 33)).heap[w3.heap.size]? = some (.cells #[.int .i64 pe.b, .int .i64 pe.r, .int .i64 pe.u, .int .i64 pe.l, .int .i64 pe.c] 33 (0, 0)) := heap_alloc_new w3 _
  have np4 := (Below.heap_alloc w3 (.cells #[.int .i64 pe.b, .int .i64 pe.r, .int .i64 pe.u, .int .i64 pe.l, .int .i64 pe.c] 33) _ s2).trans np
  have nz4 := (Below.heap_alloc w3 (.cells #[.int .i64 pe.b, .int .i64 pe.r, .int .i64 pe.u, .int .i64 pe.l, .int .i64 pe.c] 33) _ (by omega)).trans nz3
  have b4 : Below w.heap.size w (w3.alloc (.cells #[.int .i64 pe.b, .int .i64 pe.r, .int .i64 pe.u, .int .i64 pe.l, .int .i64 pe.c] 33)) := b3.alloc b3.size _
  clear nz np nz3 hb3 HE2 b2 b3
  go_wp2_with fail
  generalize hW4 : w3.alloc (.cells #[.int .i64 pe.b, .int .i64 pe.r, .int .i64 pe.u, .int .i64 pe.l, .int .i64 pe.c] 33) = w4 at *
  clear hW4
  obtain ⟨a0, a1, a2, a3, a4, af, as0⟩ := blk5 np4
  obtain ⟨e0, e1, e2, e3, e4, ef, es0⟩ := blk5 ne
  go_quiet (fail)
  go_wp2_with fail
  with_reducible refine Calls.mono (HBy.out _) ?_
  rintro e w5 ⟨rfl, hh5, hb5⟩
  have nz5 : w5.heap[w.heap.size]? = some (.cells #[.int .i64 0, .int .i64 0, .int .i64 0, .int .i64 0, .int .i64 0] 33 (0, 0)) := (congrArg (fun x : Array Obj => x[w.heap.size]?) hh5).trans nz4
  have np5 : w5.heap[w2.heap.size]? = some (.cells #[.int .i64 p.b, .int .i64 p.r, .int .i64 p.u, .int .i64 p.l, .int .i64 p.c] 33 (0, 0)) := (congrArg (fun x : Array Obj => x[w2.heap.size]?) hh5).trans np4
  have ne5 : w5.heap[w3.heap.size]? = some (.cells #[.int .i64 pe.b, .int .i64 pe.r, .int .i64 pe.u, .int .i64 pe.l, .int .i64 pe.c] 33 (0, 0)) := (congrArg (fun x : Array Obj => x[w3.heap.size]?) hh5).trans ne
  have b5 : Below w.heap.size w w5 := (b4.trans (below_dr w4 _)).trans (hb5.mono b4.size)
  clear hh5 hb5 nz4 np4 ne b4 HBy a0 a1 a2 a3 a4 af as0 e0 e1 e2 e3 e4 ef es0
  obtain ⟨z0, z1, z2, z3, z4, zf, zs⟩ := blk5 nz5
  have k1 := b5.cell (p := ⟨b, 1, none⟩) hb
  rw [c1] at k1
  have r0 := b5.cell (p := ⟨pb, 0 * 5, none⟩) hpb
  have r1 := b5.cell (p := ⟨pb, 0 * 5 + 1, none⟩) hpb
  have r2 := b5.cell (p := ⟨pb, 0 * 5 + 2, none⟩) hpb
  have r3 := b5.cell (p := ⟨pb, 0 * 5 + 3, none⟩) hpb
  have r4 := b5.cell (p := ⟨pb, 0 * 5 + 4, none⟩) hpb
  rw [q0] at r0
  rw [q1] at r1
  rw [q2] at r2
  rw [q3] at r3
  rw [q4] at r4
  clear c1 c2 q0 q1 q2 q3 q4 np5 ne5 nz5
  go_wp2_with fail
  exact bodyPost_ret (v := .tuple #[.agg #[.int .i64 q.b, .int .i64 q.r, .int .i64 q.u, .int .i64 q.l, .int .i64 q.c], .int .i64 0]) (by simp [results, Try.results32, go_sem, *]) rfl ⟨rfl, (((((b5.setCell (by simp) _).setCell (by simp) _).setCell (by simp) _).setCell (by simp) _).setCell (by simp) _)⟩
set_option maxRecDepth 1000000 in
set_option maxHeartbeats 4000000 in
theorem move1_hi {w : World} {b : Nat} {s : ByteArray} {P : List Pl} {L : List Ln} {pb pc lb lc : Nat} (h : IsMap w b s P L pb pc lb lc) (hP2 : P.length ≤ 70000) (hL2 : L.length ≤ 70000) (hs : s.size ≤ 70000) (at' : Int) (h0 : 0 ≤ at') (h1 : at' ≤ s.size) (j : Nat) (p : Pl) (hp : P[j]? = some p)
    (hlo : ∀ i q, P[i]? = some q → i ≤ j → (q.b : Int) ≤ at') (hhi : ∀ i q, P[i]? = some q → j < i → at' < (q.b : Int)) (en : Nat) (pe : Pl) (hen : P.length = en + 1) (hpe : P[en]? = some pe)
    (br : p.r ≤ pe.r ∧ pe.r ≤ 200000) (bu : p.u ≤ pe.u ∧ pe.u ≤ 200000) (bl : p.l ≤ pe.l ∧ pe.l ≤ 200000) (n : Int) (n0 : -9223372036854775808 ≤ n) (n1 : n ≤ 9223372036854775807) (hn : (pe.r : Int) - p.r < n) :
    Calls Try.prog 32 #[.pointer (some ⟨b, 0, none⟩), .int .i64 at', .int .i64 1, .int .i64 n] w fun e w' => e = .returned (.tuple #[.agg #[.int .i64 pe.b, .int .i64 pe.r, .int .i64 pe.u, .int .i64 pe.l, .int .i64 pe.c], .int .i64 0]) ∧ Below w.heap.size w w' := by
  have H := hid h
  have hb := h.bl
  have c1 := h.c1
  have c2 := h.c2
  have HB := hid (byte_ok (w := w.alloc (.cells #[.int .i64 0, .int .i64 0, .int .i64 0, .int .i64 0, .int .i64 0] 33)) (h.below ((Below.refl _ w).alloc (Nat.le_refl _) _)) hP2 at' h0 h1 j p hp hlo hhi hs)
  have HE : Hid (∀ w2, Below w.heap.size w w2 → Calls Try.prog 21 #[.pointer (some ⟨b, 0, none⟩)] w2 fun e w' => e = .returned (.agg #[.int .i64 pe.b, .int .i64 pe.r, .int .i64 pe.u, .int .i64 pe.l, .int .i64 pe.c]) ∧ Below w2.heap.size w2 w') := fun w2 h2 => by
    have := end_any (h.below h2) en pe hen hpe hP2
    simp only [Pl.val] at this
    exact this
  obtain ⟨br0, br1⟩ := br
  obtain ⟨bu0, bu1⟩ := bu
  obtain ⟨bl0, bl1⟩ := bl
  have HLo := hid hlo
  have HHi := hid hhi
  have HP := hid hp
  have HPE := hid hpe
  have HEN := hid hen
  clear h hlo hhi hp hpe hen
  have Hn := hid hn
  clear hn
  have HBy : Hid (∀ w', Calls Try.prog 40 #[.int .i64 p.r, .int .i64 n, .int .i64 pe.r] w' fun e w'' => e = .returned (.tuple #[.int .i64 0, .int .i64 1]) ∧ w''.heap = w'.heap ∧ Below w'.heap.size w' w'') := fun w' => by
    have := beyond_hi (p.r : Int) n pe.r (by omega) (by omega) (by omega) n0 n1 Hn.out w'
    exact this
  go_enter Try.func32, Try.ntmps32
  go_wp2_with fail
  with_reducible refine Calls.mono HB.out ?_
  rintro e w2 ⟨rfl, hb2⟩
  have nz := new_block hb2
  have s1 : w.heap.size < w2.heap.size := (Array.getElem?_eq_some_iff.1 nz).1
  have b2 : Below w.heap.size w w2 := ((Below.refl _ w).alloc (Nat.le_refl _) _).trans (hb2.mono (by simp))
  clear hb2 HB
  go_wp2_with fail
  have HE2 := hid (HE.out (w2.alloc (.cells #[.int .i64 p.b, .int .i64 p.r, .int .i64 p.u, .int .i64 p.l, .int .i64 p.c] 33)) (b2.alloc b2.size _))
  with_reducible refine Calls.mono HE2.out ?_
  rintro e w3 ⟨rfl, hb3⟩
  have np := new_block hb3
  have s2 : w2.heap.size < w3.heap.size := (Array.getElem?_eq_some_iff.1 np).1
  have nz3 := (hb3.block w.heap.size (by simp; omega)).trans ((Below.heap_alloc w2 (.cells #[.int .i64 p.b, .int .i64 p.r, .int .i64 p.u, .int .i64 p.l, .int .i64 p.c] 33) _ s1).trans nz)
  have b3 : Below w.heap.size w w3 := (b2.alloc b2.size _).trans (hb3.mono (by have := b2.size; simp; omega))
  have ne : (w3.alloc (.cells #[.int .i64 pe.b, .int .i64 pe.r, .int .i64 pe.u, .int .i64 pe.l, .int .i64 pe.c] 33)).heap[w3.heap.size]? = some (.cells #[.int .i64 pe.b, .int .i64 pe.r, .int .i64 pe.u, .int .i64 pe.l, .int .i64 pe.c] 33 (0, 0)) := heap_alloc_new w3 _
  have np4 := (Below.heap_alloc w3 (.cells #[.int .i64 pe.b, .int .i64 pe.r, .int .i64 pe.u, .int .i64 pe.l, .int .i64 pe.c] 33) _ s2).trans np
  have nz4 := (Below.heap_alloc w3 (.cells #[.int .i64 pe.b, .int .i64 pe.r, .int .i64 pe.u, .int .i64 pe.l, .int .i64 pe.c] 33) _ (by omega)).trans nz3
  have b4 : Below w.heap.size w (w3.alloc (.cells #[.int .i64 pe.b, .int .i64 pe.r, .int .i64 pe.u, .int .i64 pe.l, .int .i64 pe.c] 33)) := b3.alloc b3.size _
  clear nz np nz3 hb3 HE2 b2 b3
  go_wp2_with fail
  generalize hW4 : w3.alloc (.cells #[.int .i64 pe.b, .int .i64 pe.r, .int .i64 pe.u, .int .i64 pe.l, .int .i64 pe.c] 33) = w4 at *
  clear hW4
  obtain ⟨a0, a1, a2, a3, a4, af, as0⟩ := blk5 np4
  obtain ⟨e0, e1, e2, e3, e4, ef, es0⟩ := blk5 ne
  go_quiet (fail)
  go_wp2_with fail
  with_reducible refine Calls.mono (HBy.out _) ?_
  rintro e w5 ⟨rfl, hh5, hb5⟩
  have nz5 : w5.heap[w.heap.size]? = some (.cells #[.int .i64 0, .int .i64 0, .int .i64 0, .int .i64 0, .int .i64 0] 33 (0, 0)) := (congrArg (fun x : Array Obj => x[w.heap.size]?) hh5).trans nz4
  have np5 : w5.heap[w2.heap.size]? = some (.cells #[.int .i64 p.b, .int .i64 p.r, .int .i64 p.u, .int .i64 p.l, .int .i64 p.c] 33 (0, 0)) := (congrArg (fun x : Array Obj => x[w2.heap.size]?) hh5).trans np4
  have ne5 : w5.heap[w3.heap.size]? = some (.cells #[.int .i64 pe.b, .int .i64 pe.r, .int .i64 pe.u, .int .i64 pe.l, .int .i64 pe.c] 33 (0, 0)) := (congrArg (fun x : Array Obj => x[w3.heap.size]?) hh5).trans ne
  have b5 : Below w.heap.size w w5 := (b4.trans (below_dr w4 _)).trans (hb5.mono b4.size)
  clear hh5 hb5 nz4 np4 ne b4 HBy a0 a1 a2 a3 a4 af as0 e0 e1 e2 e3 e4 ef es0
  obtain ⟨z0, z1, z2, z3, z4, zf, zs⟩ := blk5 nz5
  obtain ⟨e0, e1, e2, e3, e4, ef, es0⟩ := blk5 ne5
  clear np5 ne5 nz5
  go_wp2_with fail
  exact bodyPost_ret (v := .tuple #[.agg #[.int .i64 pe.b, .int .i64 pe.r, .int .i64 pe.u, .int .i64 pe.l, .int .i64 pe.c], .int .i64 0]) (by simp [results, Try.results32, go_sem, *]) rfl ⟨rfl, (((((b5.setCell (by simp) _).setCell (by simp) _).setCell (by simp) _).setCell (by simp) _).setCell (by simp) _)⟩
set_option maxRecDepth 1000000 in
set_option maxHeartbeats 4000000 in
theorem move1_in {w : World} {b : Nat} {s : ByteArray} {P : List Pl} {L : List Ln} {pb pc lb lc : Nat} (h : IsMap w b s P L pb pc lb lc) (hP2 : P.length ≤ 70000) (hL2 : L.length ≤ 70000) (hs : s.size ≤ 70000) (at' : Int) (h0 : 0 ≤ at') (h1 : at' ≤ s.size) (j : Nat) (p : Pl) (hp : P[j]? = some p)
    (hlo : ∀ i q, P[i]? = some q → i ≤ j → (q.b : Int) ≤ at') (hhi : ∀ i q, P[i]? = some q → j < i → at' < (q.b : Int)) (en : Nat) (pe : Pl) (hen : P.length = en + 1) (hpe : P[en]? = some pe)
    (br : p.r ≤ pe.r ∧ pe.r ≤ 200000) (bu : p.u ≤ pe.u ∧ pe.u ≤ 200000) (bl : p.l ≤ pe.l ∧ pe.l ≤ 200000) (n : Int) (n0 : -9223372036854775808 ≤ n) (n1 : n ≤ 9223372036854775807) (hn0 : 0 ≤ (p.r : Int) + n) (hn1 : (p.r : Int) + n ≤ pe.r) (q : Pl) (hq : P[((p.r : Int) + n).toNat]? = some q) :
    Calls Try.prog 32 #[.pointer (some ⟨b, 0, none⟩), .int .i64 at', .int .i64 1, .int .i64 n] w fun e w' => e = .returned (.tuple #[.agg #[.int .i64 q.b, .int .i64 q.r, .int .i64 q.u, .int .i64 q.l, .int .i64 q.c], .int .i64 0]) ∧ Below w.heap.size w w' := by
  have H := hid h
  have HNN := hid (And.intro hn0 hn1)
  have hb := h.bl
  have c1 := h.c1
  have c2 := h.c2
  have HB := hid (byte_ok (w := w.alloc (.cells #[.int .i64 0, .int .i64 0, .int .i64 0, .int .i64 0, .int .i64 0] 33)) (h.below ((Below.refl _ w).alloc (Nat.le_refl _) _)) hP2 at' h0 h1 j p hp hlo hhi hs)
  have HE : Hid (∀ w2, Below w.heap.size w w2 → Calls Try.prog 21 #[.pointer (some ⟨b, 0, none⟩)] w2 fun e w' => e = .returned (.agg #[.int .i64 pe.b, .int .i64 pe.r, .int .i64 pe.u, .int .i64 pe.l, .int .i64 pe.c]) ∧ Below w2.heap.size w2 w') := fun w2 h2 => by
    have := end_any (h.below h2) en pe hen hpe hP2
    simp only [Pl.val] at this
    exact this
  obtain ⟨br0, br1⟩ := br
  obtain ⟨bu0, bu1⟩ := bu
  obtain ⟨bl0, bl1⟩ := bl
  have HLo := hid hlo
  have HHi := hid hhi
  have HP := hid hp
  have HPE := hid hpe
  have HEN := hid hen
  clear h hlo hhi hp hpe hen
  obtain ⟨k, hk⟩ := Int.eq_ofNat_of_zero_le hn0
  rw [hk, Int.toNat_natCast] at hq
  rw [hk] at hn0 hn1
  obtain ⟨q0, q1, q2, q3, q4⟩ := H.out.hp k q hq
  have hpb : pb < w.heap.size := World.block_lt_of_cell? w _ q0
  have hkl : (k : Int) < P.length := by have := (List.getElem?_eq_some_iff.1 hq).1; omega
  have HK := hid hk
  have Hn : Hid (¬ n < -(p.r : Int) ∧ ¬ (pe.r : Int) - p.r < n) := ⟨by omega, by omega⟩
  clear hq hk
  have HBy : Hid (∀ w', Calls Try.prog 40 #[.int .i64 p.r, .int .i64 n, .int .i64 pe.r] w' fun e w'' => e = .returned (.tuple #[.int .i64 k, .int .i64 0]) ∧ w''.heap = w'.heap ∧ Below w'.heap.size w' w'') := fun w' => by
    have := beyond_in (p.r : Int) n pe.r (by omega) (by omega) (by omega) n0 n1 HNN.out.1 HNN.out.2 w'
    rw [HK.out] at this
    exact this
  go_enter Try.func32, Try.ntmps32
  go_wp2_with fail
  with_reducible refine Calls.mono HB.out ?_
  rintro e w2 ⟨rfl, hb2⟩
  have nz := new_block hb2
  have s1 : w.heap.size < w2.heap.size := (Array.getElem?_eq_some_iff.1 nz).1
  have b2 : Below w.heap.size w w2 := ((Below.refl _ w).alloc (Nat.le_refl _) _).trans (hb2.mono (by simp))
  clear hb2 HB
  go_wp2_with fail
  have HE2 := hid (HE.out (w2.alloc (.cells #[.int .i64 p.b, .int .i64 p.r, .int .i64 p.u, .int .i64 p.l, .int .i64 p.c] 33)) (b2.alloc b2.size _))
  with_reducible refine Calls.mono HE2.out ?_
  rintro e w3 ⟨rfl, hb3⟩
  have np := new_block hb3
  have s2 : w2.heap.size < w3.heap.size := (Array.getElem?_eq_some_iff.1 np).1
  have nz3 := (hb3.block w.heap.size (by simp; omega)).trans ((Below.heap_alloc w2 (.cells #[.int .i64 p.b, .int .i64 p.r, .int .i64 p.u, .int .i64 p.l, .int .i64 p.c] 33) _ s1).trans nz)
  have b3 : Below w.heap.size w w3 := (b2.alloc b2.size _).trans (hb3.mono (by have := b2.size; simp; omega))
  have ne : (w3.alloc (.cells #[.int .i64 pe.b, .int .i64 pe.r, .int .i64 pe.u, .int .i64 pe.l, .int .i64 pe.c] 33)).heap[w3.heap.size]? = some (.cells #[.int .i64 pe.b, .int .i64 pe.r, .int .i64 pe.u, .int .i64 pe.l, .int .i64 pe.c] 33 (0, 0)) := heap_alloc_new w3 _
  have np4 := (Below.heap_alloc w3 (.cells #[.int .i64 pe.b, .int .i64 pe.r, .int .i64 pe.u, .int .i64 pe.l, .int .i64 pe.c] 33) _ s2).trans np
  have nz4 := (Below.heap_alloc w3 (.cells #[.int .i64 pe.b, .int .i64 pe.r, .int .i64 pe.u, .int .i64 pe.l, .int .i64 pe.c] 33) _ (by omega)).trans nz3
  have b4 : Below w.heap.size w (w3.alloc (.cells #[.int .i64 pe.b, .int .i64 pe.r, .int .i64 pe.u, .int .i64 pe.l, .int .i64 pe.c] 33)) := b3.alloc b3.size _
  clear nz np nz3 hb3 HE2 b2 b3
  go_wp2_with fail
  generalize hW4 : w3.alloc (.cells #[.int .i64 pe.b, .int .i64 pe.r, .int .i64 pe.u, .int .i64 pe.l, .int .i64 pe.c] 33) = w4 at *
  clear hW4
  obtain ⟨a0, a1, a2, a3, a4, af, as0⟩ := blk5 np4
  obtain ⟨e0, e1, e2, e3, e4, ef, es0⟩ := blk5 ne
  go_quiet (fail)
  go_wp2_with fail
  with_reducible refine Calls.mono (HBy.out _) ?_
  rintro e w5 ⟨rfl, hh5, hb5⟩
  have nz5 : w5.heap[w.heap.size]? = some (.cells #[.int .i64 0, .int .i64 0, .int .i64 0, .int .i64 0, .int .i64 0] 33 (0, 0)) := (congrArg (fun x : Array Obj => x[w.heap.size]?) hh5).trans nz4
  have np5 : w5.heap[w2.heap.size]? = some (.cells #[.int .i64 p.b, .int .i64 p.r, .int .i64 p.u, .int .i64 p.l, .int .i64 p.c] 33 (0, 0)) := (congrArg (fun x : Array Obj => x[w2.heap.size]?) hh5).trans np4
  have ne5 : w5.heap[w3.heap.size]? = some (.cells #[.int .i64 pe.b, .int .i64 pe.r, .int .i64 pe.u, .int .i64 pe.l, .int .i64 pe.c] 33 (0, 0)) := (congrArg (fun x : Array Obj => x[w3.heap.size]?) hh5).trans ne
  have b5 : Below w.heap.size w w5 := (b4.trans (below_dr w4 _)).trans (hb5.mono b4.size)
  clear hh5 hb5 nz4 np4 ne b4 HBy a0 a1 a2 a3 a4 af as0 e0 e1 e2 e3 e4 ef es0
  obtain ⟨z0, z1, z2, z3, z4, zf, zs⟩ := blk5 nz5
  have k1 := b5.cell (p := ⟨b, 1, none⟩) hb
  rw [c1] at k1
  have r0 := b5.cell (p := ⟨pb, k * 5, none⟩) hpb
  have r1 := b5.cell (p := ⟨pb, k * 5 + 1, none⟩) hpb
  have r2 := b5.cell (p := ⟨pb, k * 5 + 2, none⟩) hpb
  have r3 := b5.cell (p := ⟨pb, k * 5 + 3, none⟩) hpb
  have r4 := b5.cell (p := ⟨pb, k * 5 + 4, none⟩) hpb
  rw [q0] at r0
  rw [q1] at r1
  rw [q2] at r2
  rw [q3] at r3
  rw [q4] at r4
  clear c1 c2 q0 q1 q2 q3 q4 np5 ne5 nz5
  go_wp2_with fail
  exact bodyPost_ret (v := .tuple #[.agg #[.int .i64 q.b, .int .i64 q.r, .int .i64 q.u, .int .i64 q.l, .int .i64 q.c], .int .i64 0]) (by simp [results, Try.results32, go_sem, *]) rfl ⟨rfl, (((((b5.setCell (by simp) _).setCell (by simp) _).setCell (by simp) _).setCell (by simp) _).setCell (by simp) _)⟩
set_option maxRecDepth 1000000 in
set_option maxHeartbeats 4000000 in
theorem move2_lo {w : World} {b : Nat} {s : ByteArray} {P : List Pl} {L : List Ln} {pb pc lb lc : Nat} (h : IsMap w b s P L pb pc lb lc) (hP2 : P.length ≤ 70000) (hL2 : L.length ≤ 70000) (hs : s.size ≤ 70000) (at' : Int) (h0 : 0 ≤ at') (h1 : at' ≤ s.size) (j : Nat) (p : Pl) (hp : P[j]? = some p)
    (hlo : ∀ i q, P[i]? = some q → i ≤ j → (q.b : Int) ≤ at') (hhi : ∀ i q, P[i]? = some q → j < i → at' < (q.b : Int)) (en : Nat) (pe : Pl) (hen : P.length = en + 1) (hpe : P[en]? = some pe)
    (br : p.r ≤ pe.r ∧ pe.r ≤ 200000) (bu : p.u ≤ pe.u ∧ pe.u ≤ 200000) (bl : p.l ≤ pe.l ∧ pe.l ≤ 200000) (n : Int) (n0 : -9223372036854775808 ≤ n) (n1 : n ≤ 9223372036854775807) (q : Pl) (hq : P[0]? = some q) (hn : n < -(p.u : Int)) :
    Calls Try.prog 32 #[.pointer (some ⟨b, 0, none⟩), .int .i64 at', .int .i64 2, .int .i64 n] w fun e w' => e = .returned (.tuple #[.agg #[.int .i64 q.b, .int .i64 q.r, .int .i64 q.u, .int .i64 q.l, .int .i64 q.c], .int .i64 0]) ∧ Below w.heap.size w w' := by
  have H := hid h
  have hb := h.bl
  have c1 := h.c1
  have c2 := h.c2
  have HB := hid (byte_ok (w := w.alloc (.cells #[.int .i64 0, .int .i64 0, .int .i64 0, .int .i64 0, .int .i64 0] 33)) (h.below ((Below.refl _ w).alloc (Nat.le_refl _) _)) hP2 at' h0 h1 j p hp hlo hhi hs)
  have HE : Hid (∀ w2, Below w.heap.size w w2 → Calls Try.prog 21 #[.pointer (some ⟨b, 0, none⟩)] w2 fun e w' => e = .returned (.agg #[.int .i64 pe.b, .int .i64 pe.r, .int .i64 pe.u, .int .i64 pe.l, .int .i64 pe.c]) ∧ Below w2.heap.size w2 w') := fun w2 h2 => by
    have := end_any (h.below h2) en pe hen hpe hP2
    simp only [Pl.val] at this
    exact this
  obtain ⟨br0, br1⟩ := br
  obtain ⟨bu0, bu1⟩ := bu
  obtain ⟨bl0, bl1⟩ := bl
  have HLo := hid hlo
  have HHi := hid hhi
  have HP := hid hp
  have HPE := hid hpe
  have HEN := hid hen
  clear h hlo hhi hp hpe hen
  obtain ⟨q0, q1, q2, q3, q4⟩ := H.out.hp 0 q hq
  have hpb : pb < w.heap.size := World.block_lt_of_cell? w _ q0
  have hl0 : (0 : Int) < P.length := by have := (List.getElem?_eq_some_iff.1 hq).1; omega
  have Hn := hid hn
  clear hq hn
  have HBy : Hid (∀ w', Calls Try.prog 40 #[.int .i64 p.u, .int .i64 n, .int .i64 pe.u] w' fun e w'' => e = .returned (.tuple #[.int .i64 0, .int .i64 (-1)]) ∧ w''.heap = w'.heap ∧ Below w'.heap.size w' w'') := fun w' => by
    have := beyond_lo (p.u : Int) n pe.u (by omega) (by omega) (by omega) n0 n1 Hn.out w'
    exact this
  go_enter Try.func32, Try.ntmps32
  go_wp2_with fail
  with_reducible refine Calls.mono HB.out ?_
  rintro e w2 ⟨rfl, hb2⟩
  have nz := new_block hb2
  have s1 : w.heap.size < w2.heap.size := (Array.getElem?_eq_some_iff.1 nz).1
  have b2 : Below w.heap.size w w2 := ((Below.refl _ w).alloc (Nat.le_refl _) _).trans (hb2.mono (by simp))
  clear hb2 HB
  go_wp2_with fail
  have HE2 := hid (HE.out (w2.alloc (.cells #[.int .i64 p.b, .int .i64 p.r, .int .i64 p.u, .int .i64 p.l, .int .i64 p.c] 33)) (b2.alloc b2.size _))
  with_reducible refine Calls.mono HE2.out ?_
  rintro e w3 ⟨rfl, hb3⟩
  have np := new_block hb3
  have s2 : w2.heap.size < w3.heap.size := (Array.getElem?_eq_some_iff.1 np).1
  have nz3 := (hb3.block w.heap.size (by simp; omega)).trans ((Below.heap_alloc w2 (.cells #[.int .i64 p.b, .int .i64 p.r, .int .i64 p.u, .int .i64 p.l, .int .i64 p.c] 33) _ s1).trans nz)
  have b3 : Below w.heap.size w w3 := (b2.alloc b2.size _).trans (hb3.mono (by have := b2.size; simp; omega))
  have ne : (w3.alloc (.cells #[.int .i64 pe.b, .int .i64 pe.r, .int .i64 pe.u, .int .i64 pe.l, .int .i64 pe.c] 33)).heap[w3.heap.size]? = some (.cells #[.int .i64 pe.b, .int .i64 pe.r, .int .i64 pe.u, .int .i64 pe.l, .int .i64 pe.c] 33 (0, 0)) := heap_alloc_new w3 _
  have np4 := (Below.heap_alloc w3 (.cells #[.int .i64 pe.b, .int .i64 pe.r, .int .i64 pe.u, .int .i64 pe.l, .int .i64 pe.c] 33) _ s2).trans np
  have nz4 := (Below.heap_alloc w3 (.cells #[.int .i64 pe.b, .int .i64 pe.r, .int .i64 pe.u, .int .i64 pe.l, .int .i64 pe.c] 33) _ (by omega)).trans nz3
  have b4 : Below w.heap.size w (w3.alloc (.cells #[.int .i64 pe.b, .int .i64 pe.r, .int .i64 pe.u, .int .i64 pe.l, .int .i64 pe.c] 33)) := b3.alloc b3.size _
  clear nz np nz3 hb3 HE2 b2 b3
  go_wp2_with fail
  generalize hW4 : w3.alloc (.cells #[.int .i64 pe.b, .int .i64 pe.r, .int .i64 pe.u, .int .i64 pe.l, .int .i64 pe.c] 33) = w4 at *
  clear hW4
  obtain ⟨a0, a1, a2, a3, a4, af, as0⟩ := blk5 np4
  obtain ⟨e0, e1, e2, e3, e4, ef, es0⟩ := blk5 ne
  go_quiet (fail)
  go_wp2_with fail
  go_quiet (fail)
  go_wp2_with fail
  with_reducible refine Calls.mono (HBy.out _) ?_
  rintro e w5 ⟨rfl, hh5, hb5⟩
  have nz5 : w5.heap[w.heap.size]? = some (.cells #[.int .i64 0, .int .i64 0, .int .i64 0, .int .i64 0, .int .i64 0] 33 (0, 0)) := (congrArg (fun x : Array Obj => x[w.heap.size]?) hh5).trans nz4
  have np5 : w5.heap[w2.heap.size]? = some (.cells #[.int .i64 p.b, .int .i64 p.r, .int .i64 p.u, .int .i64 p.l, .int .i64 p.c] 33 (0, 0)) := (congrArg (fun x : Array Obj => x[w2.heap.size]?) hh5).trans np4
  have ne5 : w5.heap[w3.heap.size]? = some (.cells #[.int .i64 pe.b, .int .i64 pe.r, .int .i64 pe.u, .int .i64 pe.l, .int .i64 pe.c] 33 (0, 0)) := (congrArg (fun x : Array Obj => x[w3.heap.size]?) hh5).trans ne
  have b5 : Below w.heap.size w w5 := (b4.trans (below_dr w4 _)).trans (hb5.mono b4.size)
  clear hh5 hb5 nz4 np4 ne b4 HBy a0 a1 a2 a3 a4 af as0 e0 e1 e2 e3 e4 ef es0
  obtain ⟨z0, z1, z2, z3, z4, zf, zs⟩ := blk5 nz5
  have k1 := b5.cell (p := ⟨b, 1, none⟩) hb
  rw [c1] at k1
  have r0 := b5.cell (p := ⟨pb, 0 * 5, none⟩) hpb
  have r1 := b5.cell (p := ⟨pb, 0 * 5 + 1, none⟩) hpb
  have r2 := b5.cell (p := ⟨pb, 0 * 5 + 2, none⟩) hpb
  have r3 := b5.cell (p := ⟨pb, 0 * 5 + 3, none⟩) hpb
  have r4 := b5.cell (p := ⟨pb, 0 * 5 + 4, none⟩) hpb
  rw [q0] at r0
  rw [q1] at r1
  rw [q2] at r2
  rw [q3] at r3
  rw [q4] at r4
  clear c1 c2 q0 q1 q2 q3 q4 np5 ne5 nz5
  go_wp2_with fail
  exact bodyPost_ret (v := .tuple #[.agg #[.int .i64 q.b, .int .i64 q.r, .int .i64 q.u, .int .i64 q.l, .int .i64 q.c], .int .i64 0]) (by simp [results, Try.results32, go_sem, *]) rfl ⟨rfl, (((((b5.setCell (by simp) _).setCell (by simp) _).setCell (by simp) _).setCell (by simp) _).setCell (by simp) _)⟩
set_option maxRecDepth 1000000 in
set_option maxHeartbeats 4000000 in
theorem move2_hi {w : World} {b : Nat} {s : ByteArray} {P : List Pl} {L : List Ln} {pb pc lb lc : Nat} (h : IsMap w b s P L pb pc lb lc) (hP2 : P.length ≤ 70000) (hL2 : L.length ≤ 70000) (hs : s.size ≤ 70000) (at' : Int) (h0 : 0 ≤ at') (h1 : at' ≤ s.size) (j : Nat) (p : Pl) (hp : P[j]? = some p)
    (hlo : ∀ i q, P[i]? = some q → i ≤ j → (q.b : Int) ≤ at') (hhi : ∀ i q, P[i]? = some q → j < i → at' < (q.b : Int)) (en : Nat) (pe : Pl) (hen : P.length = en + 1) (hpe : P[en]? = some pe)
    (br : p.r ≤ pe.r ∧ pe.r ≤ 200000) (bu : p.u ≤ pe.u ∧ pe.u ≤ 200000) (bl : p.l ≤ pe.l ∧ pe.l ≤ 200000) (n : Int) (n0 : -9223372036854775808 ≤ n) (n1 : n ≤ 9223372036854775807) (hn : (pe.u : Int) - p.u < n) :
    Calls Try.prog 32 #[.pointer (some ⟨b, 0, none⟩), .int .i64 at', .int .i64 2, .int .i64 n] w fun e w' => e = .returned (.tuple #[.agg #[.int .i64 pe.b, .int .i64 pe.r, .int .i64 pe.u, .int .i64 pe.l, .int .i64 pe.c], .int .i64 0]) ∧ Below w.heap.size w w' := by
  have H := hid h
  have hb := h.bl
  have c1 := h.c1
  have c2 := h.c2
  have HB := hid (byte_ok (w := w.alloc (.cells #[.int .i64 0, .int .i64 0, .int .i64 0, .int .i64 0, .int .i64 0] 33)) (h.below ((Below.refl _ w).alloc (Nat.le_refl _) _)) hP2 at' h0 h1 j p hp hlo hhi hs)
  have HE : Hid (∀ w2, Below w.heap.size w w2 → Calls Try.prog 21 #[.pointer (some ⟨b, 0, none⟩)] w2 fun e w' => e = .returned (.agg #[.int .i64 pe.b, .int .i64 pe.r, .int .i64 pe.u, .int .i64 pe.l, .int .i64 pe.c]) ∧ Below w2.heap.size w2 w') := fun w2 h2 => by
    have := end_any (h.below h2) en pe hen hpe hP2
    simp only [Pl.val] at this
    exact this
  obtain ⟨br0, br1⟩ := br
  obtain ⟨bu0, bu1⟩ := bu
  obtain ⟨bl0, bl1⟩ := bl
  have HLo := hid hlo
  have HHi := hid hhi
  have HP := hid hp
  have HPE := hid hpe
  have HEN := hid hen
  clear h hlo hhi hp hpe hen
  have Hn := hid hn
  clear hn
  have HBy : Hid (∀ w', Calls Try.prog 40 #[.int .i64 p.u, .int .i64 n, .int .i64 pe.u] w' fun e w'' => e = .returned (.tuple #[.int .i64 0, .int .i64 1]) ∧ w''.heap = w'.heap ∧ Below w'.heap.size w' w'') := fun w' => by
    have := beyond_hi (p.u : Int) n pe.u (by omega) (by omega) (by omega) n0 n1 Hn.out w'
    exact this
  go_enter Try.func32, Try.ntmps32
  go_wp2_with fail
  with_reducible refine Calls.mono HB.out ?_
  rintro e w2 ⟨rfl, hb2⟩
  have nz := new_block hb2
  have s1 : w.heap.size < w2.heap.size := (Array.getElem?_eq_some_iff.1 nz).1
  have b2 : Below w.heap.size w w2 := ((Below.refl _ w).alloc (Nat.le_refl _) _).trans (hb2.mono (by simp))
  clear hb2 HB
  go_wp2_with fail
  have HE2 := hid (HE.out (w2.alloc (.cells #[.int .i64 p.b, .int .i64 p.r, .int .i64 p.u, .int .i64 p.l, .int .i64 p.c] 33)) (b2.alloc b2.size _))
  with_reducible refine Calls.mono HE2.out ?_
  rintro e w3 ⟨rfl, hb3⟩
  have np := new_block hb3
  have s2 : w2.heap.size < w3.heap.size := (Array.getElem?_eq_some_iff.1 np).1
  have nz3 := (hb3.block w.heap.size (by simp; omega)).trans ((Below.heap_alloc w2 (.cells #[.int .i64 p.b, .int .i64 p.r, .int .i64 p.u, .int .i64 p.l, .int .i64 p.c] 33) _ s1).trans nz)
  have b3 : Below w.heap.size w w3 := (b2.alloc b2.size _).trans (hb3.mono (by have := b2.size; simp; omega))
  have ne : (w3.alloc (.cells #[.int .i64 pe.b, .int .i64 pe.r, .int .i64 pe.u, .int .i64 pe.l, .int .i64 pe.c] 33)).heap[w3.heap.size]? = some (.cells #[.int .i64 pe.b, .int .i64 pe.r, .int .i64 pe.u, .int .i64 pe.l, .int .i64 pe.c] 33 (0, 0)) := heap_alloc_new w3 _
  have np4 := (Below.heap_alloc w3 (.cells #[.int .i64 pe.b, .int .i64 pe.r, .int .i64 pe.u, .int .i64 pe.l, .int .i64 pe.c] 33) _ s2).trans np
  have nz4 := (Below.heap_alloc w3 (.cells #[.int .i64 pe.b, .int .i64 pe.r, .int .i64 pe.u, .int .i64 pe.l, .int .i64 pe.c] 33) _ (by omega)).trans nz3
  have b4 : Below w.heap.size w (w3.alloc (.cells #[.int .i64 pe.b, .int .i64 pe.r, .int .i64 pe.u, .int .i64 pe.l, .int .i64 pe.c] 33)) := b3.alloc b3.size _
  clear nz np nz3 hb3 HE2 b2 b3
  go_wp2_with fail
  generalize hW4 : w3.alloc (.cells #[.int .i64 pe.b, .int .i64 pe.r, .int .i64 pe.u, .int .i64 pe.l, .int .i64 pe.c] 33) = w4 at *
  clear hW4
  obtain ⟨a0, a1, a2, a3, a4, af, as0⟩ := blk5 np4
  obtain ⟨e0, e1, e2, e3, e4, ef, es0⟩ := blk5 ne
  go_quiet (fail)
  go_wp2_with fail
  go_quiet (fail)
  go_wp2_with fail
  with_reducible refine Calls.mono (HBy.out _) ?_
  rintro e w5 ⟨rfl, hh5, hb5⟩
  have nz5 : w5.heap[w.heap.size]? = some (.cells #[.int .i64 0, .int .i64 0, .int .i64 0, .int .i64 0, .int .i64 0] 33 (0, 0)) := (congrArg (fun x : Array Obj => x[w.heap.size]?) hh5).trans nz4
  have np5 : w5.heap[w2.heap.size]? = some (.cells #[.int .i64 p.b, .int .i64 p.r, .int .i64 p.u, .int .i64 p.l, .int .i64 p.c] 33 (0, 0)) := (congrArg (fun x : Array Obj => x[w2.heap.size]?) hh5).trans np4
  have ne5 : w5.heap[w3.heap.size]? = some (.cells #[.int .i64 pe.b, .int .i64 pe.r, .int .i64 pe.u, .int .i64 pe.l, .int .i64 pe.c] 33 (0, 0)) := (congrArg (fun x : Array Obj => x[w3.heap.size]?) hh5).trans ne
  have b5 : Below w.heap.size w w5 := (b4.trans (below_dr w4 _)).trans (hb5.mono b4.size)
  clear hh5 hb5 nz4 np4 ne b4 HBy a0 a1 a2 a3 a4 af as0 e0 e1 e2 e3 e4 ef es0
  obtain ⟨z0, z1, z2, z3, z4, zf, zs⟩ := blk5 nz5
  obtain ⟨e0, e1, e2, e3, e4, ef, es0⟩ := blk5 ne5
  clear np5 ne5 nz5
  go_wp2_with fail
  exact bodyPost_ret (v := .tuple #[.agg #[.int .i64 pe.b, .int .i64 pe.r, .int .i64 pe.u, .int .i64 pe.l, .int .i64 pe.c], .int .i64 0]) (by simp [results, Try.results32, go_sem, *]) rfl ⟨rfl, (((((b5.setCell (by simp) _).setCell (by simp) _).setCell (by simp) _).setCell (by simp) _).setCell (by simp) _)⟩
set_option maxRecDepth 1000000 in
set_option maxHeartbeats 4000000 in
theorem move2_in {w : World} {b : Nat} {s : ByteArray} {P : List Pl} {L : List Ln} {pb pc lb lc : Nat} (h : IsMap w b s P L pb pc lb lc) (hP2 : P.length ≤ 70000) (hL2 : L.length ≤ 70000) (hs : s.size ≤ 70000) (at' : Int) (h0 : 0 ≤ at') (h1 : at' ≤ s.size) (j : Nat) (p : Pl) (hp : P[j]? = some p)
    (hlo : ∀ i q, P[i]? = some q → i ≤ j → (q.b : Int) ≤ at') (hhi : ∀ i q, P[i]? = some q → j < i → at' < (q.b : Int)) (en : Nat) (pe : Pl) (hen : P.length = en + 1) (hpe : P[en]? = some pe)
    (br : p.r ≤ pe.r ∧ pe.r ≤ 200000) (bu : p.u ≤ pe.u ∧ pe.u ≤ 200000) (bl : p.l ≤ pe.l ∧ pe.l ≤ 200000) (n : Int) (n0 : -9223372036854775808 ≤ n) (n1 : n ≤ 9223372036854775807) (hn0 : 0 ≤ (p.u : Int) + n) (hn1 : (p.u : Int) + n ≤ pe.u) (j2 : Nat) (q : Pl) (hq : P[j2]? = some q) (hlo2 : ∀ i x, P[i]? = some x → i ≤ j2 → (x.u : Int) ≤ (p.u : Int) + n) (hhi2 : ∀ i x, P[i]? = some x → j2 < i → (p.u : Int) + n < (x.u : Int)) :
    Calls Try.prog 32 #[.pointer (some ⟨b, 0, none⟩), .int .i64 at', .int .i64 2, .int .i64 n] w fun e w' => e = .returned (.tuple #[.agg #[.int .i64 q.b, .int .i64 q.r, .int .i64 q.u, .int .i64 q.l, .int .i64 q.c], .int .i64 0]) ∧ Below w.heap.size w w' := by
  have H := hid h
  have HNN := hid (And.intro hn0 hn1)
  have hb := h.bl
  have c1 := h.c1
  have c2 := h.c2
  have HB := hid (byte_ok (w := w.alloc (.cells #[.int .i64 0, .int .i64 0, .int .i64 0, .int .i64 0, .int .i64 0] 33)) (h.below ((Below.refl _ w).alloc (Nat.le_refl _) _)) hP2 at' h0 h1 j p hp hlo hhi hs)
  have HE : Hid (∀ w2, Below w.heap.size w w2 → Calls Try.prog 21 #[.pointer (some ⟨b, 0, none⟩)] w2 fun e w' => e = .returned (.agg #[.int .i64 pe.b, .int .i64 pe.r, .int .i64 pe.u, .int .i64 pe.l, .int .i64 pe.c]) ∧ Below w2.heap.size w2 w') := fun w2 h2 => by
    have := end_any (h.below h2) en pe hen hpe hP2
    simp only [Pl.val] at this
    exact this
  obtain ⟨br0, br1⟩ := br
  obtain ⟨bu0, bu1⟩ := bu
  obtain ⟨bl0, bl1⟩ := bl
  have HLo := hid hlo
  have HHi := hid hhi
  have HP := hid hp
  have HPE := hid hpe
  have HEN := hid hen
  clear h hlo hhi hp hpe hen
  have HU : Hid (∀ w2, Below w.heap.size w w2 → Calls Try.prog 19 #[.pointer (some ⟨b, 0, none⟩), .int .i64 ((p.u : Int) + n)] w2 fun e w' => e = .returned (.tuple #[.agg #[.int .i64 q.b, .int .i64 q.r, .int .i64 q.u, .int .i64 q.l, .int .i64 q.c], .int .i64 ((p.u : Int) + n - q.u), .int .i64 0]) ∧ Below w2.heap.size w2 w') :=
    fun w2 h2 => unit_ok (H.out.below h2) hP2 _ hn0 en pe HEN.out HPE.out hn1 (by omega) j2 q hq hlo2 hhi2
  have Hn : Hid (¬ n < -(p.u : Int) ∧ ¬ (pe.u : Int) - p.u < n) := ⟨by omega, by omega⟩
  clear hq hlo2 hhi2
  have HBy : Hid (∀ w', Calls Try.prog 40 #[.int .i64 p.u, .int .i64 n, .int .i64 pe.u] w' fun e w'' => e = .returned (.tuple #[.int .i64 ((p.u : Int) + n), .int .i64 0]) ∧ w''.heap = w'.heap ∧ Below w'.heap.size w' w'') := fun w' => by
    have := beyond_in (p.u : Int) n pe.u (by omega) (by omega) (by omega) n0 n1 HNN.out.1 HNN.out.2 w'
    exact this
  go_enter Try.func32, Try.ntmps32
  go_wp2_with fail
  with_reducible refine Calls.mono HB.out ?_
  rintro e w2 ⟨rfl, hb2⟩
  have nz := new_block hb2
  have s1 : w.heap.size < w2.heap.size := (Array.getElem?_eq_some_iff.1 nz).1
  have b2 : Below w.heap.size w w2 := ((Below.refl _ w).alloc (Nat.le_refl _) _).trans (hb2.mono (by simp))
  clear hb2 HB
  go_wp2_with fail
  have HE2 := hid (HE.out (w2.alloc (.cells #[.int .i64 p.b, .int .i64 p.r, .int .i64 p.u, .int .i64 p.l, .int .i64 p.c] 33)) (b2.alloc b2.size _))
  with_reducible refine Calls.mono HE2.out ?_
  rintro e w3 ⟨rfl, hb3⟩
  have np := new_block hb3
  have s2 : w2.heap.size < w3.heap.size := (Array.getElem?_eq_some_iff.1 np).1
  have nz3 := (hb3.block w.heap.size (by simp; omega)).trans ((Below.heap_alloc w2 (.cells #[.int .i64 p.b, .int .i64 p.r, .int .i64 p.u, .int .i64 p.l, .int .i64 p.c] 33) _ s1).trans nz)
  have b3 : Below w.heap.size w w3 := (b2.alloc b2.size _).trans (hb3.mono (by have := b2.size; simp; omega))
  have ne : (w3.alloc (.cells #[.int .i64 pe.b, .int .i64 pe.r, .int .i64 pe.u, .int .i64 pe.l, .int .i64 pe.c] 33)).heap[w3.heap.size]? = some (.cells #[.int .i64 pe.b, .int .i64 pe.r, .int .i64 pe.u, .int .i64 pe.l, .int .i64 pe.c] 33 (0, 0)) := heap_alloc_new w3 _
  have np4 := (Below.heap_alloc w3 (.cells #[.int .i64 pe.b, .int .i64 pe.r, .int .i64 pe.u, .int .i64 pe.l, .int .i64 pe.c] 33) _ s2).trans np
  have nz4 := (Below.heap_alloc w3 (.cells #[.int .i64 pe.b, .int .i64 pe.r, .int .i64 pe.u, .int .i64 pe.l, .int .i64 pe.c] 33) _ (by omega)).trans nz3
  have b4 : Below w.heap.size w (w3.alloc (.cells #[.int .i64 pe.b, .int .i64 pe.r, .int .i64 pe.u, .int .i64 pe.l, .int .i64 pe.c] 33)) := b3.alloc b3.size _
  clear nz np nz3 hb3 HE2 b2 b3
  go_wp2_with fail
  generalize hW4 : w3.alloc (.cells #[.int .i64 pe.b, .int .i64 pe.r, .int .i64 pe.u, .int .i64 pe.l, .int .i64 pe.c] 33) = w4 at *
  clear hW4
  obtain ⟨a0, a1, a2, a3, a4, af, as0⟩ := blk5 np4
  obtain ⟨e0, e1, e2, e3, e4, ef, es0⟩ := blk5 ne
  go_quiet (fail)
  go_wp2_with fail
  go_quiet (fail)
  go_wp2_with fail
  with_reducible refine Calls.mono (HBy.out _) ?_
  rintro e w5 ⟨rfl, hh5, hb5⟩
  have nz5 : w5.heap[w.heap.size]? = some (.cells #[.int .i64 0, .int .i64 0, .int .i64 0, .int .i64 0, .int .i64 0] 33 (0, 0)) := (congrArg (fun x : Array Obj => x[w.heap.size]?) hh5).trans nz4
  have np5 : w5.heap[w2.heap.size]? = some (.cells #[.int .i64 p.b, .int .i64 p.r, .int .i64 p.u, .int .i64 p.l, .int .i64 p.c] 33 (0, 0)) := (congrArg (fun x : Array Obj => x[w2.heap.size]?) hh5).trans np4
  have ne5 : w5.heap[w3.heap.size]? = some (.cells #[.int .i64 pe.b, .int .i64 pe.r, .int .i64 pe.u, .int .i64 pe.l, .int .i64 pe.c] 33 (0, 0)) := (congrArg (fun x : Array Obj => x[w3.heap.size]?) hh5).trans ne
  have b5 : Below w.heap.size w w5 := (b4.trans (below_dr w4 _)).trans (hb5.mono b4.size)
  clear hh5 hb5 nz4 np4 ne b4 HBy a0 a1 a2 a3 a4 af as0 e0 e1 e2 e3 e4 ef es0
  obtain ⟨z0, z1, z2, z3, z4, zf, zs⟩ := blk5 nz5
  go_wp2_with fail
  have HU2 := hid (HU.out w5 b5)
  with_reducible refine Calls.mono HU2.out ?_
  rintro e w6 ⟨rfl, hb6⟩
  have nz6 := (hb6.block _ zs).trans nz5
  have np6 := (hb6.block _ (Array.getElem?_eq_some_iff.1 np5).1).trans np5
  have b6 : Below w.heap.size w w6 := b5.trans (hb6.mono b5.size)
  clear nz5 np5 ne5 b5 hb6 HU HU2 z0 z1 z2 z3 z4 zf zs
  obtain ⟨z0, z1, z2, z3, z4, zf, zs⟩ := blk5 nz6
  obtain ⟨a0, a1, a2, a3, a4, af, as0⟩ := blk5 np6
  have hne : ¬ w2.heap.size = w.heap.size := by omega
  clear nz6 np6
  go_wp2_with fail
  exact bodyPost_ret (v := .tuple #[.agg #[.int .i64 q.b, .int .i64 q.r, .int .i64 q.u, .int .i64 q.l, .int .i64 q.c], .int .i64 0]) (by simp [results, Try.results32, go_sem, *]) rfl ⟨rfl, ((((((((((b6.setCell (by simp; omega) _).setCell (by simp; omega) _).setCell (by simp; omega) _).setCell (by simp; omega) _).setCell (by simp; omega) _).setCell (by simp) _).setCell (by simp) _).setCell (by simp) _).setCell (by simp) _).setCell (by simp) _)⟩
set_option maxRecDepth 1000000 in
set_option maxHeartbeats 4000000 in
theorem move3_lo {w : World} {b : Nat} {s : ByteArray} {P : List Pl} {L : List Ln} {pb pc lb lc : Nat} (h : IsMap w b s P L pb pc lb lc) (hP2 : P.length ≤ 70000) (hL2 : L.length ≤ 70000) (hs : s.size ≤ 70000) (at' : Int) (h0 : 0 ≤ at') (h1 : at' ≤ s.size) (j : Nat) (p : Pl) (hp : P[j]? = some p)
    (hlo : ∀ i q, P[i]? = some q → i ≤ j → (q.b : Int) ≤ at') (hhi : ∀ i q, P[i]? = some q → j < i → at' < (q.b : Int)) (en : Nat) (pe : Pl) (hen : P.length = en + 1) (hpe : P[en]? = some pe)
    (br : p.r ≤ pe.r ∧ pe.r ≤ 200000) (bu : p.u ≤ pe.u ∧ pe.u ≤ 200000) (bl : p.l ≤ pe.l ∧ pe.l ≤ 200000) (n : Int) (n0 : -9223372036854775808 ≤ n) (n1 : n ≤ 9223372036854775807) (q : Pl) (hq : P[0]? = some q) (hn : n < -(p.l : Int)) :
    Calls Try.prog 32 #[.pointer (some ⟨b, 0, none⟩), .int .i64 at', .int .i64 3, .int .i64 n] w fun e w' => e = .returned (.tuple #[.agg #[.int .i64 q.b, .int .i64 q.r, .int .i64 q.u, .int .i64 q.l, .int .i64 q.c], .int .i64 0]) ∧ Below w.heap.size w w' := by
  have H := hid h
  have hb := h.bl
  have c1 := h.c1
  have c2 := h.c2
  have HB := hid (byte_ok (w := w.alloc (.cells #[.int .i64 0, .int .i64 0, .int .i64 0, .int .i64 0, .int .i64 0] 33)) (h.below ((Below.refl _ w).alloc (Nat.le_refl _) _)) hP2 at' h0 h1 j p hp hlo hhi hs)
  have HE : Hid (∀ w2, Below w.heap.size w w2 → Calls Try.prog 21 #[.pointer (some ⟨b, 0, none⟩)] w2 fun e w' => e = .returned (.agg #[.int .i64 pe.b, .int .i64 pe.r, .int .i64 pe.u, .int .i64 pe.l, .int .i64 pe.c]) ∧ Below w2.heap.size w2 w') := fun w2 h2 => by
    have := end_any (h.below h2) en pe hen hpe hP2
    simp only [Pl.val] at this
    exact this
  obtain ⟨br0, br1⟩ := br
  obtain ⟨bu0, bu1⟩ := bu
  obtain ⟨bl0, bl1⟩ := bl
  have HLo := hid hlo
  have HHi := hid hhi
  have HP := hid hp
  have HPE := hid hpe
  have HEN := hid hen
  clear h hlo hhi hp hpe hen
  obtain ⟨q0, q1, q2, q3, q4⟩ := H.out.hp 0 q hq
  have hpb : pb < w.heap.size := World.block_lt_of_cell? w _ q0
  have hl0 : (0 : Int) < P.length := by have := (List.getElem?_eq_some_iff.1 hq).1; omega
  have Hn := hid hn
  clear hq hn
  have HBy : Hid (∀ w', Calls Try.prog 40 #[.int .i64 p.l, .int .i64 n, .int .i64 pe.l] w' fun e w'' => e = .returned (.tuple #[.int .i64 0, .int .i64 (-1)]) ∧ w''.heap = w'.heap ∧ Below w'.heap.size w' w'') := fun w' => by
    have := beyond_lo (p.l : Int) n pe.l (by omega) (by omega) (by omega) n0 n1 Hn.out w'
    exact this
  go_enter Try.func32, Try.ntmps32
  go_wp2_with fail
  with_reducible refine Calls.mono HB.out ?_
  rintro e w2 ⟨rfl, hb2⟩
  have nz := new_block hb2
  have s1 : w.heap.size < w2.heap.size := (Array.getElem?_eq_some_iff.1 nz).1
  have b2 : Below w.heap.size w w2 := ((Below.refl _ w).alloc (Nat.le_refl _) _).trans (hb2.mono (by simp))
  clear hb2 HB
  go_wp2_with fail
  have HE2 := hid (HE.out (w2.alloc (.cells #[.int .i64 p.b, .int .i64 p.r, .int .i64 p.u, .int .i64 p.l, .int .i64 p.c] 33)) (b2.alloc b2.size _))
  with_reducible refine Calls.mono HE2.out ?_
  rintro e w3 ⟨rfl, hb3⟩
  have np := new_block hb3
  have s2 : w2.heap.size < w3.heap.size := (Array.getElem?_eq_some_iff.1 np).1
  have nz3 := (hb3.block w.heap.size (by simp; omega)).trans ((Below.heap_alloc w2 (.cells #[.int .i64 p.b, .int .i64 p.r, .int .i64 p.u, .int .i64 p.l, .int .i64 p.c] 33) _ s1).trans nz)
  have b3 : Below w.heap.size w w3 := (b2.alloc b2.size _).trans (hb3.mono (by have := b2.size; simp; omega))
  have ne : (w3.alloc (.cells #[.int .i64 pe.b, .int .i64 pe.r, .int .i64 pe.u, .int .i64 pe.l, .int .i64 pe.c] 33)).heap[w3.heap.size]? = some (.cells #[.int .i64 pe.b, .int .i64 pe.r, .int .i64 pe.u, .int .i64 pe.l, .int .i64 pe.c] 33 (0, 0)) := heap_alloc_new w3 _
  have np4 := (Below.heap_alloc w3 (.cells #[.int .i64 pe.b, .int .i64 pe.r, .int .i64 pe.u, .int .i64 pe.l, .int .i64 pe.c] 33) _ s2).trans np
  have nz4 := (Below.heap_alloc w3 (.cells #[.int .i64 pe.b, .int .i64 pe.r, .int .i64 pe.u, .int .i64 pe.l, .int .i64 pe.c] 33) _ (by omega)).trans nz3
  have b4 : Below w.heap.size w (w3.alloc (.cells #[.int .i64 pe.b, .int .i64 pe.r, .int .i64 pe.u, .int .i64 pe.l, .int .i64 pe.c] 33)) := b3.alloc b3.size _
  clear nz np nz3 hb3 HE2 b2 b3
  go_wp2_with fail
  generalize hW4 : w3.alloc (.cells #[.int .i64 pe.b, .int .i64 pe.r, .int .i64 pe.u, .int .i64 pe.l, .int .i64 pe.c] 33) = w4 at *
  clear hW4
  obtain ⟨a0, a1, a2, a3, a4, af, as0⟩ := blk5 np4
  obtain ⟨e0, e1, e2, e3, e4, ef, es0⟩ := blk5 ne
  go_quiet (fail)
  go_wp2_with fail
  go_quiet (fail)
  go_wp2_with fail
  with_reducible refine Calls.mono (HBy.out _) ?_
  rintro e w5 ⟨rfl, hh5, hb5⟩
  have nz5 : w5.heap[w.heap.size]? = some (.cells #[.int .i64 0, .int .i64 0, .int .i64 0, .int .i64 0, .int .i64 0] 33 (0, 0)) := (congrArg (fun x : Array Obj => x[w.heap.size]?) hh5).trans nz4
  have np5 : w5.heap[w2.heap.size]? = some (.cells #[.int .i64 p.b, .int .i64 p.r, .int .i64 p.u, .int .i64 p.l, .int .i64 p.c] 33 (0, 0)) := (congrArg (fun x : Array Obj => x[w2.heap.size]?) hh5).trans np4
  have ne5 : w5.heap[w3.heap.size]? = some (.cells #[.int .i64 pe.b, .int .i64 pe.r, .int .i64 pe.u, .int .i64 pe.l, .int .i64 pe.c] 33 (0, 0)) := (congrArg (fun x : Array Obj => x[w3.heap.size]?) hh5).trans ne
  have b5 : Below w.heap.size w w5 := (b4.trans (below_dr w4 _)).trans (hb5.mono b4.size)
  clear hh5 hb5 nz4 np4 ne b4 HBy a0 a1 a2 a3 a4 af as0 e0 e1 e2 e3 e4 ef es0
  obtain ⟨z0, z1, z2, z3, z4, zf, zs⟩ := blk5 nz5
  have k1 := b5.cell (p := ⟨b, 1, none⟩) hb
  rw [c1] at k1
  have r0 := b5.cell (p := ⟨pb, 0 * 5, none⟩) hpb
  have r1 := b5.cell (p := ⟨pb, 0 * 5 + 1, none⟩) hpb
  have r2 := b5.cell (p := ⟨pb, 0 * 5 + 2, none⟩) hpb
  have r3 := b5.cell (p := ⟨pb, 0 * 5 + 3, none⟩) hpb
  have r4 := b5.cell (p := ⟨pb, 0 * 5 + 4, none⟩) hpb
  rw [q0] at r0
  rw [q1] at r1
  rw [q2] at r2
  rw [q3] at r3
  rw [q4] at r4
  clear c1 c2 q0 q1 q2 q3 q4 np5 ne5 nz5
  go_wp2_with fail
  exact bodyPost_ret (v := .tuple #[.agg #[.int .i64 q.b, .int .i64 q.r, .int .i64 q.u, .int .i64 q.l, .int .i64 q.c], .int .i64 0]) (by simp [results, Try.results32, go_sem, *]) rfl ⟨rfl, (((((b5.setCell (by simp) _).setCell (by simp) _).setCell (by simp) _).setCell (by simp) _).setCell (by simp) _)⟩
set_option maxRecDepth 1000000 in
set_option maxHeartbeats 4000000 in
theorem move3_hi {w : World} {b : Nat} {s : ByteArray} {P : List Pl} {L : List Ln} {pb pc lb lc : Nat} (h : IsMap w b s P L pb pc lb lc) (hP2 : P.length ≤ 70000) (hL2 : L.length ≤ 70000) (hs : s.size ≤ 70000) (at' : Int) (h0 : 0 ≤ at') (h1 : at' ≤ s.size) (j : Nat) (p : Pl) (hp : P[j]? = some p)
    (hlo : ∀ i q, P[i]? = some q → i ≤ j → (q.b : Int) ≤ at') (hhi : ∀ i q, P[i]? = some q → j < i → at' < (q.b : Int)) (en : Nat) (pe : Pl) (hen : P.length = en + 1) (hpe : P[en]? = some pe)
    (br : p.r ≤ pe.r ∧ pe.r ≤ 200000) (bu : p.u ≤ pe.u ∧ pe.u ≤ 200000) (bl : p.l ≤ pe.l ∧ pe.l ≤ 200000) (n : Int) (n0 : -9223372036854775808 ≤ n) (n1 : n ≤ 9223372036854775807) (hn : (pe.l : Int) - p.l < n) :
    Calls Try.prog 32 #[.pointer (some ⟨b, 0, none⟩), .int .i64 at', .int .i64 3, .int .i64 n] w fun e w' => e = .returned (.tuple #[.agg #[.int .i64 pe.b, .int .i64 pe.r, .int .i64 pe.u, .int .i64 pe.l, .int .i64 pe.c], .int .i64 0]) ∧ Below w.heap.size w w' := by
  have H := hid h
  have hb := h.bl
  have c1 := h.c1
  have c2 := h.c2
  have HB := hid (byte_ok (w := w.alloc (.cells #[.int .i64 0, .int .i64 0, .int .i64 0, .int .i64 0, .int .i64 0] 33)) (h.below ((Below.refl _ w).alloc (Nat.le_refl _) _)) hP2 at' h0 h1 j p hp hlo hhi hs)
  have HE : Hid (∀ w2, Below w.heap.size w w2 → Calls Try.prog 21 #[.pointer (some ⟨b, 0, none⟩)] w2 fun e w' => e = .returned (.agg #[.int .i64 pe.b, .int .i64 pe.r, .int .i64 pe.u, .int .i64 pe.l, .int .i64 pe.c]) ∧ Below w2.heap.size w2 w') := fun w2 h2 => by
    have := end_any (h.below h2) en pe hen hpe hP2
    simp only [Pl.val] at this
    exact this
  obtain ⟨br0, br1⟩ := br
  obtain ⟨bu0, bu1⟩ := bu
  obtain ⟨bl0, bl1⟩ := bl
  have HLo := hid hlo
  have HHi := hid hhi
  have HP := hid hp
  have HPE := hid hpe
  have HEN := hid hen
  clear h hlo hhi hp hpe hen
  have Hn := hid hn
  clear hn
  have HBy : Hid (∀ w', Calls Try.prog 40 #[.int .i64 p.l, .int .i64 n, .int .i64 pe.l] w' fun e w'' => e = .returned (.tuple #[.int .i64 0, .int .i64 1]) ∧ w''.heap = w'.heap ∧ Below w'.heap.size w' w'') := fun w' => by
    have := beyond_hi (p.l : Int) n pe.l (by omega) (by omega) (by omega) n0 n1 Hn.out w'
    exact this
  go_enter Try.func32, Try.ntmps32
  go_wp2_with fail
  with_reducible refine Calls.mono HB.out ?_
  rintro e w2 ⟨rfl, hb2⟩
  have nz := new_block hb2
  have s1 : w.heap.size < w2.heap.size := (Array.getElem?_eq_some_iff.1 nz).1
  have b2 : Below w.heap.size w w2 := ((Below.refl _ w).alloc (Nat.le_refl _) _).trans (hb2.mono (by simp))
  clear hb2 HB
  go_wp2_with fail
  have HE2 := hid (HE.out (w2.alloc (.cells #[.int .i64 p.b, .int .i64 p.r, .int .i64 p.u, .int .i64 p.l, .int .i64 p.c] 33)) (b2.alloc b2.size _))
  with_reducible refine Calls.mono HE2.out ?_
  rintro e w3 ⟨rfl, hb3⟩
  have np := new_block hb3
  have s2 : w2.heap.size < w3.heap.size := (Array.getElem?_eq_some_iff.1 np).1
  have nz3 := (hb3.block w.heap.size (by simp; omega)).trans ((Below.heap_alloc w2 (.cells #[.int .i64 p.b, .int .i64 p.r, .int .i64 p.u, .int .i64 p.l, .int .i64 p.c] 33) _ s1).trans nz)
  have b3 : Below w.heap.size w w3 := (b2.alloc b2.size _).trans (hb3.mono (by have := b2.size; simp; omega))
  have ne : (w3.alloc (.cells #[.int .i64 pe.b, .int .i64 pe.r, .int .i64 pe.u, .int .i64 pe.l, .int .i64 pe.c] 33)).heap[w3.heap.size]? = some (.cells #[.int .i64 pe.b, .int .i64 pe.r, .int .i64 pe.u, .int .i64 pe.l, .int .i64 pe.c] 33 (0, 0)) := heap_alloc_new w3 _
  have np4 := (Below.heap_alloc w3 (.cells #[.int .i64 pe.b, .int .i64 pe.r, .int .i64 pe.u, .int .i64 pe.l, .int .i64 pe.c] 33) _ s2).trans np
  have nz4 := (Below.heap_alloc w3 (.cells #[.int .i64 pe.b, .int .i64 pe.r, .int .i64 pe.u, .int .i64 pe.l, .int .i64 pe.c] 33) _ (by omega)).trans nz3
  have b4 : Below w.heap.size w (w3.alloc (.cells #[.int .i64 pe.b, .int .i64 pe.r, .int .i64 pe.u, .int .i64 pe.l, .int .i64 pe.c] 33)) := b3.alloc b3.size _
  clear nz np nz3 hb3 HE2 b2 b3
  go_wp2_with fail
  generalize hW4 : w3.alloc (.cells #[.int .i64 pe.b, .int .i64 pe.r, .int .i64 pe.u, .int .i64 pe.l, .int .i64 pe.c] 33) = w4 at *
  clear hW4
  obtain ⟨a0, a1, a2, a3, a4, af, as0⟩ := blk5 np4
  obtain ⟨e0, e1, e2, e3, e4, ef, es0⟩ := blk5 ne
  go_quiet (fail)
  go_wp2_with fail
  go_quiet (fail)
  go_wp2_with fail
  with_reducible refine Calls.mono (HBy.out _) ?_
  rintro e w5 ⟨rfl, hh5, hb5⟩
  have nz5 : w5.heap[w.heap.size]? = some (.cells #[.int .i64 0, .int .i64 0, .int .i64 0, .int .i64 0, .int .i64 0] 33 (0, 0)) := (congrArg (fun x : Array Obj => x[w.heap.size]?) hh5).trans nz4
  have np5 : w5.heap[w2.heap.size]? = some (.cells #[.int .i64 p.b, .int .i64 p.r, .int .i64 p.u, .int .i64 p.l, .int .i64 p.c] 33 (0, 0)) := (congrArg (fun x : Array Obj => x[w2.heap.size]?) hh5).trans np4
  have ne5 : w5.heap[w3.heap.size]? = some (.cells #[.int .i64 pe.b, .int .i64 pe.r, .int .i64 pe.u, .int .i64 pe.l, .int .i64 pe.c] 33 (0, 0)) := (congrArg (fun x : Array Obj => x[w3.heap.size]?) hh5).trans ne
  have b5 : Below w.heap.size w w5 := (b4.trans (below_dr w4 _)).trans (hb5.mono b4.size)
  clear hh5 hb5 nz4 np4 ne b4 HBy a0 a1 a2 a3 a4 af as0 e0 e1 e2 e3 e4 ef es0
  obtain ⟨z0, z1, z2, z3, z4, zf, zs⟩ := blk5 nz5
  obtain ⟨e0, e1, e2, e3, e4, ef, es0⟩ := blk5 ne5
  clear np5 ne5 nz5
  go_wp2_with fail
  exact bodyPost_ret (v := .tuple #[.agg #[.int .i64 pe.b, .int .i64 pe.r, .int .i64 pe.u, .int .i64 pe.l, .int .i64 pe.c], .int .i64 0]) (by simp [results, Try.results32, go_sem, *]) rfl ⟨rfl, (((((b5.setCell (by simp) _).setCell (by simp) _).setCell (by simp) _).setCell (by simp) _).setCell (by simp) _)⟩
set_option maxRecDepth 1000000 in
set_option maxHeartbeats 4000000 in
theorem move3_in {w : World} {b : Nat} {s : ByteArray} {P : List Pl} {L : List Ln} {pb pc lb lc : Nat} (h : IsMap w b s P L pb pc lb lc) (hP2 : P.length ≤ 70000) (hL2 : L.length ≤ 70000) (hs : s.size ≤ 70000) (at' : Int) (h0 : 0 ≤ at') (h1 : at' ≤ s.size) (j : Nat) (p : Pl) (hp : P[j]? = some p)
    (hlo : ∀ i q, P[i]? = some q → i ≤ j → (q.b : Int) ≤ at') (hhi : ∀ i q, P[i]? = some q → j < i → at' < (q.b : Int)) (en : Nat) (pe : Pl) (hen : P.length = en + 1) (hpe : P[en]? = some pe)
    (br : p.r ≤ pe.r ∧ pe.r ≤ 200000) (bu : p.u ≤ pe.u ∧ pe.u ≤ 200000) (bl : p.l ≤ pe.l ∧ pe.l ≤ 200000) (n : Int) (n0 : -9223372036854775808 ≤ n) (n1 : n ≤ 9223372036854775807) (hn0 : 0 ≤ (p.l : Int) + n) (hn1 : (p.l : Int) + n ≤ pe.l) (ln : Ln) (hln : L[((p.l : Int) + n).toNat]? = some ln) (hlt : ln.t ≤ s.size) (hli : ln.i ≤ 70000) (hpc : p.c ≤ 70000) (j2 : Nat) (bh : Pl) (hbh : P[j2]? = some bh) (hlo2 : ∀ i x, P[i]? = some x → i ≤ j2 → (x.b : Int) ≤ (ln.t : Int)) (hhi2 : ∀ i x, P[i]? = some x → j2 < i → (ln.t : Int) < (x.b : Int)) (hbr : bh.r ≤ 70000) (q : Pl) (hq : P[min (ln.i + p.c) bh.r]? = some q) :
    Calls Try.prog 32 #[.pointer (some ⟨b, 0, none⟩), .int .i64 at', .int .i64 3, .int .i64 n] w fun e w' => e = .returned (.tuple #[.agg #[.int .i64 q.b, .int .i64 q.r, .int .i64 q.u, .int .i64 q.l, .int .i64 q.c], .int .i64 0]) ∧ Below w.heap.size w w' := by
  have H := hid h
  have HNN := hid (And.intro hn0 hn1)
  have hb := h.bl
  have c1 := h.c1
  have c2 := h.c2
  have HB := hid (byte_ok (w := w.alloc (.cells #[.int .i64 0, .int .i64 0, .int .i64 0, .int .i64 0, .int .i64 0] 33)) (h.below ((Below.refl _ w).alloc (Nat.le_refl _) _)) hP2 at' h0 h1 j p hp hlo hhi hs)
  have HE : Hid (∀ w2, Below w.heap.size w w2 → Calls Try.prog 21 #[.pointer (some ⟨b, 0, none⟩)] w2 fun e w' => e = .returned (.agg #[.int .i64 pe.b, .int .i64 pe.r, .int .i64 pe.u, .int .i64 pe.l, .int .i64 pe.c]) ∧ Below w2.heap.size w2 w') := fun w2 h2 => by
    have := end_any (h.below h2) en pe hen hpe hP2
    simp only [Pl.val] at this
    exact this
  obtain ⟨br0, br1⟩ := br
  obtain ⟨bu0, bu1⟩ := bu
  obtain ⟨bl0, bl1⟩ := bl
  have HLo := hid hlo
  have HHi := hid hhi
  have HP := hid hp
  have HPE := hid hpe
  have HEN := hid hen
  clear h hlo hhi hp hpe hen
  obtain ⟨k, hk⟩ := Int.eq_ofNat_of_zero_le hn0
  rw [hk, Int.toNat_natCast] at hln
  rw [hk] at hn0 hn1
  obtain ⟨l0, l1, l2, l3⟩ := H.out.hl k ln hln
  have hlb : lb < w.heap.size := World.block_lt_of_cell? w _ l0
  have hkl : (k : Int) < L.length := by have := (List.getElem?_eq_some_iff.1 hln).1; omega
  have HK := hid hk
  have Hn : Hid (¬ n < -(p.l : Int) ∧ ¬ (pe.l : Int) - p.l < n) := ⟨by omega, by omega⟩
  have HB2 : Hid (∀ w2, Below w.heap.size w w2 → Calls Try.prog 16 #[.pointer (some ⟨b, 0, none⟩), .int .i64 ln.t] w2 fun e w' => e = .returned (.tuple #[.agg #[.int .i64 bh.b, .int .i64 bh.r, .int .i64 bh.u, .int .i64 bh.l, .int .i64 bh.c], .int .i64 ((ln.t : Int) - bh.b), .int .i64 0]) ∧ Below w2.heap.size w2 w') :=
    fun w2 h2 => byte_ok (H.out.below h2) hP2 _ (by omega) (by omega) j2 bh hbh hlo2 hhi2 hs
  obtain ⟨q0, q1, q2, q3, q4⟩ := H.out.hp _ q hq
  have hpb : pb < w.heap.size := World.block_lt_of_cell? w _ q0
  have hmm : ((min (ln.i + p.c) bh.r : Nat) : Int) < P.length := by have := (List.getElem?_eq_some_iff.1 hq).1; omega
  have HMin : Hid ((if (bh.r : Int) < (ln.i : Int) + p.c then (bh.r : Int) else (ln.i : Int) + p.c) = ((min (ln.i + p.c) bh.r : Nat) : Int)) := by unfold Hid; split <;> omega
  generalize min (ln.i + p.c) bh.r = mn at *
  clear hq hk hln hbh hlo2 hhi2
  have HBy : Hid (∀ w', Calls Try.prog 40 #[.int .i64 p.l, .int .i64 n, .int .i64 pe.l] w' fun e w'' => e = .returned (.tuple #[.int .i64 k, .int .i64 0]) ∧ w''.heap = w'.heap ∧ Below w'.heap.size w' w'') := fun w' => by
    have := beyond_in (p.l : Int) n pe.l (by omega) (by omega) (by omega) n0 n1 HNN.out.1 HNN.out.2 w'
    rw [HK.out] at this
    exact this
  go_enter Try.func32, Try.ntmps32
  go_wp2_with fail
  with_reducible refine Calls.mono HB.out ?_
  rintro e w2 ⟨rfl, hb2⟩
  have nz := new_block hb2
  have s1 : w.heap.size < w2.heap.size := (Array.getElem?_eq_some_iff.1 nz).1
  have b2 : Below w.heap.size w w2 := ((Below.refl _ w).alloc (Nat.le_refl _) _).trans (hb2.mono (by simp))
  clear hb2 HB
  go_wp2_with fail
  have HE2 := hid (HE.out (w2.alloc (.cells #[.int .i64 p.b, .int .i64 p.r, .int .i64 p.u, .int .i64 p.l, .int .i64 p.c] 33)) (b2.alloc b2.size _))
  with_reducible refine Calls.mono HE2.out ?_
  rintro e w3 ⟨rfl, hb3⟩
  have np := new_block hb3
  have s2 : w2.heap.size < w3.heap.size := (Array.getElem?_eq_some_iff.1 np).1
  have nz3 := (hb3.block w.heap.size (by simp; omega)).trans ((Below.heap_alloc w2 (.cells #[.int .i64 p.b, .int .i64 p.r, .int .i64 p.u, .int .i64 p.l, .int .i64 p.c] 33) _ s1).trans nz)
  have b3 : Below w.heap.size w w3 := (b2.alloc b2.size _).trans (hb3.mono (by have := b2.size; simp; omega))
  have ne : (w3.alloc (.cells #[.int .i64 pe.b, .int .i64 pe.r, .int .i64 pe.u, .int .i64 pe.l, .int .i64 pe.c] 33)).heap[w3.heap.size]? = some (.cells #[.int .i64 pe.b, .int .i64 pe.r, .int .i64 pe.u, .int .i64 pe.l, .int .i64 pe.c] 33 (0, 0)) := heap_alloc_new w3 _
  have np4 := (Below.heap_alloc w3 (.cells #[.int .i64 pe.b, .int .i64 pe.r, .int .i64 pe.u, .int .i64 pe.l, .int .i64 pe.c] 33) _ s2).trans np
  have nz4 := (Below.heap_alloc w3 (.cells #[.int .i64 pe.b, .int .i64 pe.r, .int .i64 pe.u, .int .i64 pe.l, .int .i64 pe.c] 33) _ (by omega)).trans nz3
  have b4 : Below w.heap.size w (w3.alloc (.cells #[.int .i64 pe.b, .int .i64 pe.r, .int .i64 pe.u, .int .i64 pe.l, .int .i64 pe.c] 33)) := b3.alloc b3.size _
  clear nz np nz3 hb3 HE2 b2 b3
  go_wp2_with fail
  generalize hW4 : w3.alloc (.cells #[.int .i64 pe.b, .int .i64 pe.r, .int .i64 pe.u, .int .i64 pe.l, .int .i64 pe.c] 33) = w4 at *
  clear hW4
  obtain ⟨a0, a1, a2, a3, a4, af, as0⟩ := blk5 np4
  obtain ⟨e0, e1, e2, e3, e4, ef, es0⟩ := blk5 ne
  go_quiet (fail)
  go_wp2_with fail
  go_quiet (fail)
  go_wp2_with fail
  with_reducible refine Calls.mono (HBy.out _) ?_
  rintro e w5 ⟨rfl, hh5, hb5⟩
  have nz5 : w5.heap[w.heap.size]? = some (.cells #[.int .i64 0, .int .i64 0, .int .i64 0, .int .i64 0, .int .i64 0] 33 (0, 0)) := (congrArg (fun x : Array Obj => x[w.heap.size]?) hh5).trans nz4
  have np5 : w5.heap[w2.heap.size]? = some (.cells #[.int .i64 p.b, .int .i64 p.r, .int .i64 p.u, .int .i64 p.l, .int .i64 p.c] 33 (0, 0)) := (congrArg (fun x : Array Obj => x[w2.heap.size]?) hh5).trans np4
  have ne5 : w5.heap[w3.heap.size]? = some (.cells #[.int .i64 pe.b, .int .i64 pe.r, .int .i64 pe.u, .int .i64 pe.l, .int .i64 pe.c] 33 (0, 0)) := (congrArg (fun x : Array Obj => x[w3.heap.size]?) hh5).trans ne
  have b5 : Below w.heap.size w w5 := (b4.trans (below_dr w4 _)).trans (hb5.mono b4.size)
  clear hh5 hb5 nz4 np4 ne b4 HBy a0 a1 a2 a3 a4 af as0 e0 e1 e2 e3 e4 ef es0
  obtain ⟨z0, z1, z2, z3, z4, zf, zs⟩ := blk5 nz5
  have k2 := b5.cell (p := ⟨b, 2, none⟩) hb
  rw [c2] at k2
  have m0 := b5.cell (p := ⟨lb, k * 4, none⟩) hlb
  have m1 := b5.cell (p := ⟨lb, k * 4 + 1, none⟩) hlb
  have m2 := b5.cell (p := ⟨lb, k * 4 + 2, none⟩) hlb
  have m3 := b5.cell (p := ⟨lb, k * 4 + 3, none⟩) hlb
  rw [l0] at m0
  rw [l1] at m1
  rw [l2] at m2
  rw [l3] at m3
  go_wp2_with fail
  have b6 : Below w.heap.size w (w5.alloc (.cells #[.int .i64 ln.f, .int .i64 ln.t, .int .i64 ln.e, .int .i64 ln.i] 76)) := b5.alloc b5.size _
  have HB3 := hid (HB2.out _ b6)
  with_reducible refine Calls.mono HB3.out ?_
  rintro e w7 ⟨rfl, hb7⟩
  have nl := new_block hb7
  have s5 : w5.heap.size < w7.heap.size := (Array.getElem?_eq_some_iff.1 nl).1
  have nz7 := (hb7.block w.heap.size (by simp; omega)).trans ((Below.heap_alloc w5 (.cells #[.int .i64 ln.f, .int .i64 ln.t, .int .i64 ln.e, .int .i64 ln.i] 76) _ zs).trans nz5)
  have np7 := (hb7.block w2.heap.size (by have := (Array.getElem?_eq_some_iff.1 np5).1; simp; omega)).trans ((Below.heap_alloc w5 (.cells #[.int .i64 ln.f, .int .i64 ln.t, .int .i64 ln.e, .int .i64 ln.i] 76) _ (Array.getElem?_eq_some_iff.1 np5).1).trans np5)
  have b7 : Below w.heap.size w w7 := b6.trans (hb7.mono b6.size)
  clear hb7 HB3 HB2 b6 b5 nz5 np5 ne5 z0 z1 z2 z3 z4 zf zs k2 m0 m1 m2 m3
  go_wp2_with fail
  have nb8 : (w7.alloc (.cells #[.int .i64 bh.b, .int .i64 bh.r, .int .i64 bh.u, .int .i64 bh.l, .int .i64 bh.c] 33)).heap[w7.heap.size]? = some (.cells #[.int .i64 bh.b, .int .i64 bh.r, .int .i64 bh.u, .int .i64 bh.l, .int .i64 bh.c] 33 (0, 0)) := heap_alloc_new w7 _
  have nz8 := (Below.heap_alloc w7 (.cells #[.int .i64 bh.b, .int .i64 bh.r, .int .i64 bh.u, .int .i64 bh.l, .int .i64 bh.c] 33) _ (Array.getElem?_eq_some_iff.1 nz7).1).trans nz7
  have np8 := (Below.heap_alloc w7 (.cells #[.int .i64 bh.b, .int .i64 bh.r, .int .i64 bh.u, .int .i64 bh.l, .int .i64 bh.c] 33) _ (Array.getElem?_eq_some_iff.1 np7).1).trans np7
  have nl8 := (Below.heap_alloc w7 (.cells #[.int .i64 bh.b, .int .i64 bh.r, .int .i64 bh.u, .int .i64 bh.l, .int .i64 bh.c] 33) _ s5).trans nl
  have b8 : Below w.heap.size w (w7.alloc (.cells #[.int .i64 bh.b, .int .i64 bh.r, .int .i64 bh.u, .int .i64 bh.l, .int .i64 bh.c] 33)) := b7.alloc b7.size _
  generalize w7.alloc (.cells #[.int .i64 bh.b, .int .i64 bh.r, .int .i64 bh.u, .int .i64 bh.l, .int .i64 bh.c] 33) = w8 at *
  clear nz7 np7 nl b7
  obtain ⟨z0, z1, z2, z3, z4, zf, zs⟩ := blk5 nz8
  obtain ⟨a0, a1, a2, a3, a4, af, as0⟩ := blk5 np8
  obtain ⟨e0, e1, e2, e3, e4, ef, es0⟩ := blk5 nb8
  obtain ⟨g0, g1, g2, g3, gf, gs⟩ := blk4 nl8
  have k1 := b8.cell (p := ⟨b, 1, none⟩) hb
  rw [c1] at k1
  have r0 := b8.cell (p := ⟨pb, mn * 5, none⟩) hpb
  have r1 := b8.cell (p := ⟨pb, mn * 5 + 1, none⟩) hpb
  have r2 := b8.cell (p := ⟨pb, mn * 5 + 2, none⟩) hpb
  have r3 := b8.cell (p := ⟨pb, mn * 5 + 3, none⟩) hpb
  have r4 := b8.cell (p := ⟨pb, mn * 5 + 4, none⟩) hpb
  rw [q0] at r0
  rw [q1] at r1
  rw [q2] at r2
  rw [q3] at r3
  rw [q4] at r4
  clear c1 c2 q0 q1 q2 q3 q4 nz8 np8 nb8 nl8 l0 l1 l2 l3
  have x1 : IntKind.i64.wrap ((ln.i : Int) + p.c) = (ln.i : Int) + p.c := IntWalk.i64_in _ (by omega)
  have x2 : (if (bh.r : Int) < (ln.i : Int) + p.c then (bh.r : Int) else (ln.i : Int) + p.c) = (mn : Int) := HMin.out
  have x3 : (0 : Int) ≤ mn := by omega
  refine ext_tail 14 (by kernel_rfl) (by kernel_rfl) ?_
  simp only [List.take_succ_cons, List.take_zero, List.drop_succ_cons, List.drop_zero]
  repeat (quiet_step (fail))
  refine wpQuiet_nil ?_
  rintro _ ⟨x, rfl⟩
  go_wp2_with fail
  have b9 : Below w.heap.size w x.w := b8.trans (x.h.mono b8.size)
  exact bodyPost_ret (v := .tuple #[.agg #[.int .i64 q.b, .int .i64 q.r, .int .i64 q.u, .int .i64 q.l, .int .i64 q.c], .int .i64 0]) (by simp [results, Try.results32, go_sem, *]) rfl ⟨rfl, (((((b9.setCell (by simp) _).setCell (by simp) _).setCell (by simp) _).setCell (by simp) _).setCell (by simp) _)⟩
end Go.Proofs.Ytkobfjiadfedlaa
