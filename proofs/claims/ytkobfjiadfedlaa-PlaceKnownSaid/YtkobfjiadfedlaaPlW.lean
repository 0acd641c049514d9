/- The document's example answers in all ways: works() is true in any world. Conditions: none. -/
import Derived.Test.YtkobfjiadfedlaaPlE
import Derived.Test.YtkobfjiadfedlaaPlF
import Derived.Test.YtkobfjiadfedlaaPlG
import Derived.Test.YtkobfjiadfedlaaPlP
import Derived.Test.YtkobfjiadfedlaaPlO
import Derived.Test.YtkobfjiadfedlaaQt
import Derived.WalkKit
import Derived.WalkSpells
import Derived.WalkLawsBesides
import Derived.Deep.QuietTactic
import Derived.BigQuiet
import Derived.Deep.RegionHeld3
import Derived.Deep.RegionLawGrows
import Derived.StillTailTactics
namespace Go.Proofs.Ytkobfjiadfedlaa
open Go.RowKit
set_option linter.unusedVariables false
set_option linter.unusedSimpArgs false
attribute [local go_sem] Ext.cell Ext.froz
def tee : ByteArray := ⟨#[97, 195, 169, 13, 10, 255, 240, 159, 152, 128, 10]⟩
def teeP : List Pl := [⟨0, 0, 0, 0, 0⟩, ⟨1, 1, 1, 0, 1⟩, ⟨3, 2, 2, 0, 2⟩, ⟨4, 3, 3, 0, 3⟩, ⟨5, 4, 4, 1, 0⟩, ⟨6, 5, 5, 1, 1⟩, ⟨10, 6, 7, 1, 2⟩, ⟨11, 7, 8, 2, 0⟩]
def teeL : List Ln := [⟨0, 3, 2, 0⟩, ⟨5, 10, 1, 4⟩, ⟨11, 11, 0, 7⟩]
theorem tee_p : plOf tee = teeP := by kernel_rfl
theorem tee_l : lnOf tee = teeL := by kernel_rfl
theorem tee_srt : Srt teeP := tee_p ▸ plOf_srt tee
abbrev teeV : Value := .string ⟨#[97, 195, 169, 13, 10, 255, 240, 159, 152, 128, 10]⟩
set_option maxRecDepth 1000000 in
set_option maxHeartbeats 4000000 in
theorem works_any (w : World) : Calls Try.prog 12 #[] w fun e w' => e = .returned (.bool true) ∧ Below w.heap.size w w' := by
  have HN : Hid (Calls Try.prog 13 #[.string ⟨#[97, 195, 169, 13, 10, 255, 240, 159, 152, 128, 10]⟩] w fun e w' => ∃ b pb pc lb lc, w.heap.size ≤ b ∧ IsMap w' b tee (plOf tee) (lnOf tee) pb pc lb lc ∧ e = .returned (.tuple #[.pointer (some ⟨b, 0, none⟩), .int .i64 0]) ∧ Below w.heap.size w w') := new_any tee w (by decide)
  go_enter Try.func12, Try.ntmps12
  go_wp2_with fail
  with_reducible refine Calls.mono HN.out ?_
  rintro e w1 ⟨b, pb, pc, lb, lc, hbb, HM, rfl, hb⟩
  rw [tee_p, tee_l] at HM
  have HT : Hid (Calls Try.prog 25 #[.pointer (some ⟨b, 0, none⟩)] w1 fun e w' => e = .returned (.string ⟨#[97, 195, 169, 13, 10, 255, 240, 159, 152, 128, 10]⟩) ∧ w1 = w') := text_any HM
  have HL : Hid (Calls Try.prog 14 #[.pointer (some ⟨b, 0, none⟩)] w1 fun e w' => e = .returned (.int .i64 3) ∧ w1 = w') := lines_any HM
  have hb1 := HM.bl
  have HB : Hid (Calls Try.prog 16 #[.pointer (some ⟨b, 0, none⟩), .int .i64 8] w1 fun e w' => e = .returned (.tuple #[.agg #[.int .i64 6, .int .i64 5, .int .i64 5, .int .i64 1, .int .i64 1], .int .i64 2, .int .i64 0]) ∧ Below w1.heap.size w1 w') :=
    byte_ok HM (by decide) 8 (by decide) (by decide) 5 ⟨6, 5, 5, 1, 1⟩ rfl (srt_split tee_srt rfl Pl.b (.inl rfl) 8 (by decide) (by intro q h; cases h; decide)).1 (srt_split tee_srt (j := 5) (p := ⟨6, 5, 5, 1, 1⟩) rfl Pl.b (.inl rfl) 8 (by decide) (by intro q h; cases h; decide)).2 (by decide)
  have HR : Hid (∀ w2, Below w1.heap.size w1 w2 → Calls Try.prog 18 #[.pointer (some ⟨b, 0, none⟩), .int .i64 5] w2 fun e w' => e = .returned (.tuple #[.agg #[.int .i64 6, .int .i64 5, .int .i64 5, .int .i64 1, .int .i64 1], .int .i64 0]) ∧ Below w2.heap.size w2 w') :=
    fun w2 h => rune_ok (HM.below h) (by decide) (by decide) 5 (by decide) ⟨6, 5, 5, 1, 1⟩ rfl
  have HU : Hid (∀ w2, Below w1.heap.size w1 w2 → Calls Try.prog 19 #[.pointer (some ⟨b, 0, none⟩), .int .i64 6] w2 fun e w' => e = .returned (.tuple #[.agg #[.int .i64 6, .int .i64 5, .int .i64 5, .int .i64 1, .int .i64 1], .int .i64 1, .int .i64 0]) ∧ Below w2.heap.size w2 w') :=
    fun w2 h => unit_ok (HM.below h) (by decide) 6 (by decide) 7 ⟨11, 7, 8, 2, 0⟩ rfl rfl (by decide) (by decide) 5 ⟨6, 5, 5, 1, 1⟩ rfl (srt_split tee_srt (j := 5) (p := ⟨6, 5, 5, 1, 1⟩) rfl Pl.u (.inr rfl) 6 (by decide) (by intro q h; cases h; decide)).1 (srt_split tee_srt (j := 5) (p := ⟨6, 5, 5, 1, 1⟩) rfl Pl.u (.inr rfl) 6 (by decide) (by intro q h; cases h; decide)).2
  have HI : Hid (∀ w2, Below w1.heap.size w1 w2 → Calls Try.prog 20 #[.pointer (some ⟨b, 0, none⟩), .int .i64 1, .int .i64 1] w2 fun e w' => e = .returned (.tuple #[.agg #[.int .i64 6, .int .i64 5, .int .i64 5, .int .i64 1, .int .i64 1], .int .i64 0]) ∧ Below w2.heap.size w2 w') :=
    fun w2 h => line_in (HM.below h) (by decide) (by decide) 1 1 (by decide) (by decide) ⟨5, 10, 1, 4⟩ rfl (by decide) ⟨6, 5, 5, 1, 1⟩ rfl _ _ (.inl ⟨rfl, rfl, rfl⟩)
  clear HM HN
  go_wp2_with (first | (go_at_call 25; (with_reducible refine Calls.mono HT.out ?_); rintro e w' ⟨rfl, rfl⟩) | (go_at_call 14; (with_reducible refine Calls.mono HL.out ?_); rintro e w' ⟨rfl, rfl⟩))
  with_reducible refine Calls.mono HB.out ?_
  rintro e w2 ⟨rfl, hb2⟩
  go_wp2_with fail
  have q2 : Below w1.heap.size w1 (w2.alloc (.cells #[.int .i64 6, .int .i64 5, .int .i64 5, .int .i64 1, .int .i64 1] 33)) := hb2.alloc hb2.size _
  have HR2 := hid (HR.out _ q2)
  with_reducible refine Calls.mono HR2.out ?_
  rintro e w3 ⟨rfl, hb3⟩
  have n2 := new_block hb3
  have s2 : w2.heap.size < w3.heap.size := (Array.getElem?_eq_some_iff.1 n2).1
  have r3 : Below w1.heap.size w1 w3 := q2.trans (hb3.mono q2.size)
  go_wp2_with fail
  have q3 : Below w1.heap.size w1 (w3.alloc (.cells #[.int .i64 6, .int .i64 5, .int .i64 5, .int .i64 1, .int .i64 1] 33)) := r3.alloc r3.size _
  have HU2 := hid (HU.out _ q3)
  with_reducible refine Calls.mono HU2.out ?_
  rintro e w4 ⟨rfl, hb4⟩
  have n3 := new_block hb4
  have n2' := (hb4.block w2.heap.size (by simp; omega)).trans ((Below.heap_alloc w3 (.cells #[.int .i64 6, .int .i64 5, .int .i64 5, .int .i64 1, .int .i64 1] 33) _ s2).trans n2)
  have s3 : w3.heap.size < w4.heap.size := (Array.getElem?_eq_some_iff.1 n3).1
  have r4 : Below w1.heap.size w1 w4 := q3.trans (hb4.mono q3.size)
  go_wp2_with fail
  have q4 : Below w1.heap.size w1 (w4.alloc (.cells #[.int .i64 6, .int .i64 5, .int .i64 5, .int .i64 1, .int .i64 1] 33)) := r4.alloc r4.size _
  have HI2 := hid (HI.out _ q4)
  with_reducible refine Calls.mono HI2.out ?_
  rintro e w5 ⟨rfl, hb5⟩
  have n4 := new_block hb5
  have n3' := (hb5.block w3.heap.size (by simp; omega)).trans ((Below.heap_alloc w4 (.cells #[.int .i64 6, .int .i64 5, .int .i64 5, .int .i64 1, .int .i64 1] 33) _ s3).trans n3)
  have n2'' := (hb5.block w2.heap.size (by simp; omega)).trans ((Below.heap_alloc w4 (.cells #[.int .i64 6, .int .i64 5, .int .i64 5, .int .i64 1, .int .i64 1] 33) _ (by omega)).trans n2')
  have r5 : Below w1.heap.size w1 w5 := q4.trans (hb5.mono q4.size)
  obtain ⟨a0, a1, a2, a3, a4, af, as0⟩ := blk5 n2''
  obtain ⟨b0, b1, b2, b3, b4, bf, bs⟩ := blk5 n3'
  obtain ⟨c0, c1, c2, c3, c4, cf, cs⟩ := blk5 n4
  have HF : Below w.heap.size w w5 := hb.trans (r5.mono hb.size)
  clear n2 n3 n4 n2' n3' n2'' HB HR HU HI HT HL HR2 HU2 HI2 q2 q3 q4 r3 r4 r5 hb2 hb3 hb4 hb5
  go_wp2_with fail
  go_ret
  exact ⟨rfl, (HF.alloc HF.size _).alloc (by have := HF.size; simp; omega) _⟩
end Go.Proofs.Ytkobfjiadfedlaa
