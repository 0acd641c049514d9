/- Map.Byte of a map of a text's places. Conditions: none beyond each theorem's own. -/
import Derived.Test.YtkobfjiadfedlaaPlC
import Derived.Test.YtkobfjiadfedlaaQt
import Derived.WalkKit
import Derived.WalkSpells
import Derived.WalkLawsBesides
import Derived.Deep.QuietTactic
import Derived.BigQuiet
import Derived.Deep.RegionHeld3
import Derived.Deep.RegionLawGrows
import Derived.StillTailTactics
namespace Go.Proofs.Ytkobfjiadfedlaa
open Go.RowKit
set_option linter.unusedVariables false
set_option linter.unusedSimpArgs false
attribute [local go_sem] Ext.cell Ext.froz
theorem unfz {W w' : World} (hb : Below W.heap.size W w') {b : Nat} (h : b < W.heap.size) (hf : ∀ k, W.frozen? ⟨b, k, none⟩ = false) : ∀ k, w'.frozen? ⟨b, k, none⟩ = false := fun k => (hb.frozen (p := ⟨b, k, none⟩) h).trans (hf k)
set_option maxRecDepth 100000 in
theorem byte_ok {w : World} {b : Nat} {s : ByteArray} {P : List Pl} {L : List Ln} {pb pc lb lc : Nat} (h : IsMap w b s P L pb pc lb lc) (hP2 : P.length ≤ 70000) (at' : Int) (h0 : 0 ≤ at') (h1 : at' ≤ s.size) (j : Nat) (p : Pl) (hp : P[j]? = some p)
    (hlo : ∀ i q, P[i]? = some q → i ≤ j → (q.b : Int) ≤ at') (hhi : ∀ i q, P[i]? = some q → j < i → at' < (q.b : Int)) (hs : s.size ≤ 70000) :
    Calls Try.prog 16 #[.pointer (some ⟨b, 0, none⟩), .int .i64 at'] w fun e w' => e = .returned (.tuple #[.agg #[.int .i64 p.b, .int .i64 p.r, .int .i64 p.u, .int .i64 p.l, .int .i64 p.c], .int .i64 (at' - p.b), .int .i64 0]) ∧ Below w.heap.size w w' := by
  have c0 := h.c0
  have hb0 := h.bl
  have hpb := hlo j p hp (Nat.le_refl _)
  have HX := hid (last_any (w := w.alloc (.cells #[.int .i64 0, .int .i64 0, .int .i64 0, .int .i64 0, .int .i64 0] 33)) (h.below ((Below.refl _ _).alloc (Nat.le_refl _) _)) 35 Pl.b (Or.inl ⟨rfl, rfl⟩) hP2 at' j p hp hlo hhi)
  clear h hlo hhi hp
  have d1 : decide (at' < 0) = false := by simp; omega
  go_enter Try.func16, Try.ntmps16
  go_wp2_with fail
  with_reducible refine Calls.mono HX.out ?_
  rintro e w1 ⟨rfl, hb⟩
  have hN := new_block hb
  have f4 := blk_froz hN
  have z0 := blk_cell (k := 0) hN rfl
  have z1 := blk_cell (k := 1) hN rfl
  have z2 := blk_cell (k := 2) hN rfl
  have z3 := blk_cell (k := 3) hN rfl
  have z4 := blk_cell (k := 4) hN rfl
  have hsz : w.heap.size < w1.heap.size := by have := hb.size; simp at this; omega
  have hbw : Below w.heap.size w w1 := ((Below.refl _ w).alloc (Nat.le_refl _) _).trans (hb.mono (by simp))
  clear hN
  go_wp2_with fail
  generalize hW2 : w1.alloc (.cells #[.int .i64 p.b, .int .i64 p.r, .int .i64 p.u, .int .i64 p.l, .int .i64 p.c] 33) = w2
  have hb2 : Below w1.heap.size w1 w2 := by subst hW2; exact (Below.refl _ _).alloc (Nat.le_refl _) _
  have hN2 : w2.heap[w1.heap.size]? = some (.cells #[.int .i64 p.b, .int .i64 p.r, .int .i64 p.u, .int .i64 p.l, .int .i64 p.c] 33 (0, 0)) := by subst hW2; exact heap_alloc_new w1 _
  have y0 := blk_cell (k := 0) hN2 rfl
  have y1 := blk_cell (k := 1) hN2 rfl
  have y2 := blk_cell (k := 2) hN2 rfl
  have y3 := blk_cell (k := 3) hN2 rfl
  have y4 := blk_cell (k := 4) hN2 rfl
  have f5 : ∀ k, w2.frozen? ⟨w.heap.size, k, none⟩ = false := unfz hb2 hsz f4
  replace z0 := keeps hb2 z0
  replace z1 := keeps hb2 z1
  replace z2 := keeps hb2 z2
  replace z3 := keeps hb2 z3
  replace z4 := keeps hb2 z4
  have t1 : IntKind.i64.wrap (at' - p.b) = at' - p.b := IntWalk.i64_in _ (by omega)
  have hb3 : Below w.heap.size w w2 := hbw.trans (hb2.mono hbw.size)
  have hne : ¬ w.heap.size = w1.heap.size := by omega
  clear hW2 hN2 f4
  go_region
  go_wp2
  exact bodyPost_ret (v := .tuple #[.agg #[.int .i64 p.b, .int .i64 p.r, .int .i64 p.u, .int .i64 p.l, .int .i64 p.c], .int .i64 (at' - p.b), .int .i64 0]) (by simp [results, Try.results16, go_sem, *]) rfl ⟨rfl, (((((hb3.setCell (by simp) _).setCell (by simp) _).setCell (by simp) _).setCell (by simp) _).setCell (by simp) _).drew⟩
theorem byte_bad {w : World} {b : Nat} {s : ByteArray} {P : List Pl} {L : List Ln} {pb pc lb lc : Nat} (h : IsMap w b s P L pb pc lb lc) (at' : Int) (h0 : at' < 0 ∨ (s.size : Int) < at') (hs : s.size ≤ 70000) :
    Calls Try.prog 16 #[.pointer (some ⟨b, 0, none⟩), .int .i64 at'] w fun e w' => e = .returned (.tuple #[.agg #[.int .i64 0, .int .i64 0, .int .i64 0, .int .i64 0, .int .i64 0], .int .i64 0, .int .i64 5]) ∧ Below w.heap.size w w' := by
  have c0 := h.c0
  have hb0 := h.bl
  clear h
  rcases h0 with h0 | h0
  · go_enter Try.func16, Try.ntmps16
    go_wp2_with fail
    exact bodyPost_ret (v := .tuple #[.agg #[.int .i64 0, .int .i64 0, .int .i64 0, .int .i64 0, .int .i64 0], .int .i64 0, .int .i64 5]) (by simp [results, Try.results16, go_sem, *]) rfl ⟨rfl, (Below.refl _ _).alloc (Nat.le_refl _) _⟩
  · have d1 : decide (at' < 0) = false := by simp; omega
    go_enter Try.func16, Try.ntmps16
    go_wp2_with fail
    exact bodyPost_ret (v := .tuple #[.agg #[.int .i64 0, .int .i64 0, .int .i64 0, .int .i64 0, .int .i64 0], .int .i64 0, .int .i64 5]) (by simp [results, Try.results16, go_sem, *]) rfl ⟨rfl, (Below.refl _ _).alloc (Nat.le_refl _) _⟩
end Go.Proofs.Ytkobfjiadfedlaa
