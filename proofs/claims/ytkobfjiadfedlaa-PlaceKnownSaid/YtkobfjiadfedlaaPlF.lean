/- Map.Unit of a map of a text's places. Conditions: none beyond each theorem's own. -/
import Derived.Test.YtkobfjiadfedlaaPlD
import Derived.Test.YtkobfjiadfedlaaQt
import Derived.WalkKit
import Derived.WalkSpells
import Derived.WalkLawsBesides
import Derived.Deep.QuietTactic
import Derived.BigQuiet
import Derived.Deep.RegionHeld3
import Derived.Deep.RegionLawGrows
import Derived.StillTailTactics
namespace Go.Proofs.Ytkobfjiadfedlaa
open Go.RowKit
set_option linter.unusedVariables false
set_option linter.unusedSimpArgs false
attribute [local go_sem] Ext.cell Ext.froz
set_option maxRecDepth 100000 in
theorem unit_ok {w : World} {b : Nat} {s : ByteArray} {P : List Pl} {L : List Ln} {pb pc lb lc : Nat} (h : IsMap w b s P L pb pc lb lc) (hP2 : P.length ≤ 70000) (at' : Int) (h0 : 0 ≤ at') (en : Nat) (pe : Pl) (hen : P.length = en + 1) (hpe : P[en]? = some pe) (h1 : at' ≤ pe.u) (hu : pe.u ≤ 200000) (j : Nat) (p : Pl) (hp : P[j]? = some p)
    (hlo : ∀ i q, P[i]? = some q → i ≤ j → (q.u : Int) ≤ at') (hhi : ∀ i q, P[i]? = some q → j < i → at' < (q.u : Int)) :
    Calls Try.prog 19 #[.pointer (some ⟨b, 0, none⟩), .int .i64 at'] w fun e w' => e = .returned (.tuple #[.agg #[.int .i64 p.b, .int .i64 p.r, .int .i64 p.u, .int .i64 p.l, .int .i64 p.c], .int .i64 (at' - p.u), .int .i64 0]) ∧ Below w.heap.size w w' := by
  have c0 := h.c0
  have hb0 := h.bl
  have hpb := hlo j p hp (Nat.le_refl _)
  have HE0 := end_any (w := w.alloc (.cells #[.int .i64 0, .int .i64 0, .int .i64 0, .int .i64 0, .int .i64 0] 33)) (h.below ((Below.refl _ _).alloc (Nat.le_refl _) _)) en pe hen hpe hP2
  simp only [Pl.val] at HE0
  have HE := hid HE0
  have HX : Hid (∀ w2, Below w.heap.size w w2 → Calls Try.prog 34 #[.pointer (some ⟨b, 0, none⟩), .int .i64 at', .func (.func 37) #[] #[]] w2 fun e w' => e = .returned (.agg #[.int .i64 p.b, .int .i64 p.r, .int .i64 p.u, .int .i64 p.l, .int .i64 p.c]) ∧ Below w2.heap.size w2 w') :=
    fun w2 hb => last_any (h.below hb) 37 Pl.u (Or.inr ⟨rfl, rfl⟩) hP2 at' j p hp hlo hhi
  clear h hlo hhi hp HE0 hpe hen
  have d1 : decide (at' < 0) = false := by simp <;> omega
  have d2 : decide ((pe.u : Int) < at') = false := by simp <;> omega
  have d3 : decide (at' < 0) = false := by simp <;> omega
  have hfd : ∀ w : World, (Instr.field 33 (.agg #[.int .i64 pe.b, .int .i64 pe.r, .int .i64 pe.u, .int .i64 pe.l, .int .i64 pe.c]) 2).run Try.prog w = .ok (.int .i64 pe.u) w := fun _ => by kernel_rfl
  go_enter Try.func19, Try.ntmps19
  go_wp2_with fail
  with_reducible refine Calls.mono HE.out ?_
  rintro e w0 ⟨rfl, hbE⟩
  have hN0 := new_block hbE
  have hbw0 : Below w.heap.size w w0 := ((Below.refl _ w).alloc (Nat.le_refl _) _).trans (hbE.mono (by simp))
  have hsz0 : w.heap.size < w0.heap.size := by have := hbE.size; simp at this; omega
  go_wp2_with fail
  have HX2 := hid (HX.out w0 hbw0)
  with_reducible refine Calls.mono HX2.out ?_
  rintro e w1 ⟨rfl, hb⟩
  have hN : w1.heap[w.heap.size]? = some (.cells #[.int .i64 0, .int .i64 0, .int .i64 0, .int .i64 0, .int .i64 0] 33 (0, 0)) := (hb.block _ hsz0).trans hN0
  clear hN0
  have f4 := blk_froz hN
  have z0 := blk_cell (k := 0) hN rfl
  have z1 := blk_cell (k := 1) hN rfl
  have z2 := blk_cell (k := 2) hN rfl
  have z3 := blk_cell (k := 3) hN rfl
  have z4 := blk_cell (k := 4) hN rfl
  have hsz : w.heap.size < w1.heap.size := by have := hb.size; omega
  have hbw : Below w.heap.size w w1 := hbw0.trans (hb.mono hbw0.size)
  clear hN
  go_wp2_with fail
  generalize hW2 : w1.alloc (.cells #[.int .i64 p.b, .int .i64 p.r, .int .i64 p.u, .int .i64 p.l, .int .i64 p.c] 33) = w2
  have hb2 : Below w1.heap.size w1 w2 := by subst hW2; exact (Below.refl _ _).alloc (Nat.le_refl _) _
  have hN2 : w2.heap[w1.heap.size]? = some (.cells #[.int .i64 p.b, .int .i64 p.r, .int .i64 p.u, .int .i64 p.l, .int .i64 p.c] 33 (0, 0)) := by subst hW2; exact heap_alloc_new w1 _
  have y0 := blk_cell (k := 0) hN2 rfl
  have y1 := blk_cell (k := 1) hN2 rfl
  have y2 := blk_cell (k := 2) hN2 rfl
  have y3 := blk_cell (k := 3) hN2 rfl
  have y4 := blk_cell (k := 4) hN2 rfl
  have f5 : ∀ k, w2.frozen? ⟨w.heap.size, k, none⟩ = false := unfz hb2 hsz f4
  replace z0 := keeps hb2 z0
  replace z1 := keeps hb2 z1
  replace z2 := keeps hb2 z2
  replace z3 := keeps hb2 z3
  replace z4 := keeps hb2 z4
  have t1 : IntKind.i64.wrap (at' - p.u) = at' - p.u := IntWalk.i64_in _ (by omega)
  have hb3 : Below w.heap.size w w2 := hbw.trans (hb2.mono hbw.size)
  have hne : ¬ w.heap.size = w1.heap.size := by omega
  clear hW2 hN2 f4
  go_region
  go_wp2
  exact bodyPost_ret (v := .tuple #[.agg #[.int .i64 p.b, .int .i64 p.r, .int .i64 p.u, .int .i64 p.l, .int .i64 p.c], .int .i64 (at' - p.u), .int .i64 0]) (by simp [results, Try.results19, go_sem, *]) rfl ⟨rfl, (((((hb3.setCell (by simp) _).setCell (by simp) _).setCell (by simp) _).setCell (by simp) _).setCell (by simp) _).drew⟩
end Go.Proofs.Ytkobfjiadfedlaa
