/- The statement's function PlaceShifts walked: it answers true for any place and any change. Conditions: none. -/
import Derived.Test.YtkobfjiadfedlaaPlW
import Derived.Test.YtkobfjiadfedlaaPlE
import Derived.Test.YtkobfjiadfedlaaPlF
import Derived.Test.YtkobfjiadfedlaaPlG
import Derived.Test.YtkobfjiadfedlaaPlP
import Derived.Test.YtkobfjiadfedlaaPlO
import Derived.Test.YtkobfjiadfedlaaQt
import Derived.WalkKit
import Derived.WalkSpells
import Derived.WalkLawsBesides
import Derived.Deep.QuietTactic
import Derived.BigQuiet
import Derived.Deep.RegionHeld3
import Derived.Deep.RegionLawGrows
import Derived.StillTailTactics
namespace Go.Proofs.Ytkobfjiadfedlaa
open Go.RowKit
set_option linter.unusedVariables false
set_option linter.unusedSimpArgs false
attribute [local go_sem] Ext.cell Ext.froz
def shiftBad (a f t p : Int) : Prop := f < 0 ∨ t < f ∨ a < 0 ∨ p < 0 ∨ 65536 < p ∨ 2147483647 < a ∨ 2147483647 < t
theorem shift_bad (a f t p : Int) (h : shiftBad a f t p) : shiftV a f t p = (0, 2) := by unfold shiftBad at h; unfold shiftV; rw [if_pos h]
theorem shift_good (a f t p : Int) (h : ¬ shiftBad a f t p) : (shiftV a f t p).2 = 0 := by
  unfold shiftBad at h; unfold shiftV; rw [if_neg h]; repeat' split
  all_goals rfl
theorem rshift_any (a f t p : Int) (w : World) : Calls Try.prog 23 #[.int .i64 a, .agg #[.int .i64 f, .int .i64 t], .int .i64 p] w fun e w' => e = .returned (.tuple #[.int .i64 (shiftV a f t p).1, .bool (decide ((shiftV a f t p).2 = 0))]) ∧ Below w.heap.size w w' := by
  go_enter Try.func23, Try.ntmps23
  go_wp2_with fail
  all_goals
    go_ret2
    refine ⟨?_, (Below.refl _ w).alloc (Nat.le_refl _) _⟩
    unfold shiftV
    repeat' split
  all_goals (first | rfl | (exfalso; omega))
set_option maxHeartbeats 1000000 in
theorem shifts_walk (a f t p : Int) (w : World) : Calls Try.prog 7 #[.int .i64 a, .agg #[.int .i64 f, .int .i64 t], .int .i64 p] w fun e w' => e = .returned (.bool true) ∧ Below w.heap.size w w' := by
  have HS := hid (shift_any a f t p)
  have HR := hid (rshift_any a f t p)
  obtain ⟨k, r, hk⟩ : ∃ k r, shiftV a f t p = (k, r) ∧ (r = 0 ∨ r = 2 ∧ k = 0) := by
    by_cases h : shiftBad a f t p
    · exact ⟨0, 2, shift_bad a f t p h, .inr ⟨rfl, rfl⟩⟩
    · exact ⟨_, _, Prod.eta _, .inl (shift_good a f t p h)⟩
  obtain ⟨hk, hr⟩ := hk
  have HS' : Hid (∀ w, Calls Try.prog 22 #[.int .i64 a, .agg #[.int .i64 f, .int .i64 t], .int .i64 p] w fun e w' => e = .returned (.tuple #[.int .i64 k, .int .i64 r]) ∧ Below w.heap.size w w') := fun w => by have := HS.out w; rw [hk] at this; exact this
  have HR' : Hid (∀ w, Calls Try.prog 23 #[.int .i64 a, .agg #[.int .i64 f, .int .i64 t], .int .i64 p] w fun e w' => e = .returned (.tuple #[.int .i64 k, .bool (decide (r = 0))]) ∧ Below w.heap.size w w') := fun w => by have := HR.out w; rw [hk] at this; exact this
  clear HS HR hk
  rcases hr with rfl | ⟨rfl, rfl⟩
  all_goals
    go_enter Try.func7, Try.ntmps7
    go_wp2_with fail
    have hW0 := hid (works_any (w.alloc (.cells #[.int .i64 f, .int .i64 t] 29)))
    with_reducible refine Calls.mono hW0.out ?_
    rintro e w1 ⟨rfl, hb1⟩
    have n1 := new_block hb1
    have z0 := blk_cell (k := 0) n1 rfl
    have z1 := blk_cell (k := 1) n1 rfl
    have s1 : w.heap.size < w1.heap.size := (Array.getElem?_eq_some_iff.1 n1).1
    have b1 : Below w.heap.size w w1 := ((Below.refl _ w).alloc (Nat.le_refl _) _).trans (hb1.mono (by simp))
    clear n1 hb1 hW0
    go_wp2_with fail
    have hW1 := hid (HS'.out w1)
    with_reducible refine Calls.mono hW1.out ?_
    rintro e w2 ⟨rfl, hb2⟩
    replace z0 := keeps hb2 z0
    replace z1 := keeps hb2 z1
    have b2 : Below w.heap.size w w2 := b1.trans (hb2.mono b1.size)
    clear b1 hb2 hW1
    go_wp2_with fail
    have hW2 := hid (HR'.out w2)
    with_reducible refine Calls.mono hW2.out ?_
    rintro e w3 ⟨rfl, hb3⟩
    have b3 : Below w.heap.size w w3 := b2.trans (hb3.mono b2.size)
    clear b2 hb3 hW2
    go_wp2_with fail
    have hW3 := hid (works_any w3)
    with_reducible refine Calls.mono hW3.out ?_
    rintro e w4 ⟨rfl, hb4⟩
    have b4 : Below w.heap.size w w4 := b3.trans (hb4.mono b3.size)
    clear b3 hb4 hW3
    go_wp2_with fail
    go_ret
    exact ⟨rfl, b4⟩
end Go.Proofs.Ytkobfjiadfedlaa
