/- What a move comes to: the map's answer and the document's, the same; and what the map answers at numbers out of range. Conditions: the text has at most 65536 bytes. -/
import Derived.Test.YtkobfjiadfedlaaPlRi
import Derived.Test.YtkobfjiadfedlaaPlRh
namespace Go.Proofs.Ytkobfjiadfedlaa
open Go.RowKit
set_option linter.unusedVariables false
set_option linter.unusedSimpArgs false
attribute [local go_sem] Ext.cell Ext.froz
theorem pair_move (s : ByteArray) (hs : s.size ≤ 65536) (at' way n : Int) (hw : 1 ≤ way ∧ way ≤ 3) (ha : 0 ≤ at' ∧ at' ≤ s.size) (n0 : -9223372036854775808 ≤ n) (n1 : n ≤ 9223372036854775807) : ∃ q : Pl,
    (∀ (w : World) (b : Nat), MapOf w b s → Calls Try.prog 32 #[.pointer (some ⟨b, 0, none⟩), .int .i64 at', .int .i64 way, .int .i64 n] w fun x w' => x = .returned (.tuple #[plV q, .int .i64 0]) ∧ Below w.heap.size w w') ∧
    (∀ w : World, Calls Try.prog 33 #[.string s, .int .i64 at', .int .i64 way, .int .i64 n] w fun x w' => x = .returned (plV q) ∧ Below w.heap.size w w') := by
  obtain ⟨j, p, hat⟩ := at_find s Pl.b (.inl rfl) at' ha.1
  have hz := plOf_small s hs
  have hlen := plOf_len s
  have hlr := last_r s
  have hln := lnOf_len s
  have hll : (lastP s).l = (fin s).ls.length := (fin_ok s).l
  have hls := (fin_ok s).ll
  obtain ⟨b1, b2, b3, b4, b5, b6⟩ := pl_bd s hs hat.get
  obtain rfl | rfl | rfl : way = 1 ∨ way = 2 ∨ way = 3 := by omega
  · by_cases c1 : (p.r : Int) + n < 0
    · refine ⟨⟨0, 0, 0, 0, 0⟩, fun w b h => ?_, fun w => rmv1_lo s at' n w hs ha.1 ha.2 hat n0 n1 c1 (pl_zero s)⟩
      obtain ⟨pb, pc, lb, lc, h⟩ := h
      exact move1_lo h (by omega) (by omega) (by omega) at' ha.1 ha.2 j p hat.get hat.lo hat.hi _ (lastP s) (plOf_len s) (last_get s) b1 b2 b3 n n0 n1 _ (pl_zero s) (by omega)
    by_cases c2 : ((lastP s).r : Int) < (p.r : Int) + n
    · refine ⟨lastP s, fun w b h => ?_, fun w => rmv1_hi s at' n w hs ha.1 ha.2 hat n0 n1 c2⟩
      obtain ⟨pb, pc, lb, lc, h⟩ := h
      exact move1_hi h (by omega) (by omega) (by omega) at' ha.1 ha.2 j p hat.get hat.lo hat.hi _ (lastP s) (plOf_len s) (last_get s) b1 b2 b3 n n0 n1 (by omega)
    obtain ⟨q, hq⟩ : ∃ q, (plOf s)[((p.r : Int) + n).toNat]? = some q := ⟨_, List.getElem?_eq_getElem (by omega)⟩
    refine ⟨q, fun w b h => ?_, fun w => rmv1_in s at' n w hs ha.1 ha.2 hat n0 n1 (by omega) (by omega) hq⟩
    obtain ⟨pb, pc, lb, lc, h⟩ := h
    exact move1_in h (by omega) (by omega) (by omega) at' ha.1 ha.2 j p hat.get hat.lo hat.hi _ (lastP s) (plOf_len s) (last_get s) b1 b2 b3 n n0 n1 (by omega) (by omega) q hq
  · by_cases c1 : (p.u : Int) + n < 0
    · refine ⟨⟨0, 0, 0, 0, 0⟩, fun w b h => ?_, fun w => rmv2_lo s at' n w hs ha.1 ha.2 hat n0 n1 c1 (pl_zero s)⟩
      obtain ⟨pb, pc, lb, lc, h⟩ := h
      exact move2_lo h (by omega) (by omega) (by omega) at' ha.1 ha.2 j p hat.get hat.lo hat.hi _ (lastP s) (plOf_len s) (last_get s) b1 b2 b3 n n0 n1 _ (pl_zero s) (by omega)
    by_cases c2 : ((lastP s).u : Int) < (p.u : Int) + n
    · refine ⟨lastP s, fun w b h => ?_, fun w => rmv2_hi s at' n w hs ha.1 ha.2 hat n0 n1 c2⟩
      obtain ⟨pb, pc, lb, lc, h⟩ := h
      exact move2_hi h (by omega) (by omega) (by omega) at' ha.1 ha.2 j p hat.get hat.lo hat.hi _ (lastP s) (plOf_len s) (last_get s) b1 b2 b3 n n0 n1 (by omega)
    obtain ⟨j2, q, hq⟩ := at_find s Pl.u (.inr rfl) ((p.u : Int) + n) (by omega)
    refine ⟨q, fun w b h => ?_, fun w => rmv2_in s at' n w hs ha.1 ha.2 hat n0 n1 (by omega) (by omega) hq⟩
    obtain ⟨pb, pc, lb, lc, h⟩ := h
    exact move2_in h (by omega) (by omega) (by omega) at' ha.1 ha.2 j p hat.get hat.lo hat.hi _ (lastP s) (plOf_len s) (last_get s) b1 b2 b3 n n0 n1 (by omega) (by omega) j2 q hq.get hq.lo hq.hi
  · by_cases c1 : (p.l : Int) + n < 0
    · refine ⟨⟨0, 0, 0, 0, 0⟩, fun w b h => ?_, fun w => rmv3_lo s at' n w hs ha.1 ha.2 hat n0 n1 c1 (pl_zero s)⟩
      obtain ⟨pb, pc, lb, lc, h⟩ := h
      exact move3_lo h (by omega) (by omega) (by omega) at' ha.1 ha.2 j p hat.get hat.lo hat.hi _ (lastP s) (plOf_len s) (last_get s) b1 b2 b3 n n0 n1 _ (pl_zero s) (by omega)
    by_cases c2 : ((lastP s).l : Int) < (p.l : Int) + n
    · refine ⟨lastP s, fun w b h => ?_, fun w => rmv3_hi s at' n w hs ha.1 ha.2 hat n0 n1 c2⟩
      obtain ⟨pb, pc, lb, lc, h⟩ := h
      exact move3_hi h (by omega) (by omega) (by omega) at' ha.1 ha.2 j p hat.get hat.lo hat.hi _ (lastP s) (plOf_len s) (last_get s) b1 b2 b3 n n0 n1 (by omega)
    obtain ⟨k, hk⟩ := Int.eq_ofNat_of_zero_le (show 0 ≤ (p.l : Int) + n by omega)
    obtain ⟨ln, hl⟩ : ∃ ln, (lnOf s)[k]? = some ln := ⟨_, List.getElem?_eq_getElem (by omega)⟩
    have lok := ln_ok s hl
    obtain ⟨p0, g1, g2, g3, g4⟩ := lok.p0
    have hft := lok.ft
    have hsz := lok.sz
    have hp0 := at_self s Pl.b (.inl rfl) g1
    have e0 : ((Pl.b p0 : Nat) : Int) = (ln.f : Int) := by rw [g2]
    rw [e0] at hp0
    obtain ⟨j2, bh, hbh⟩ := at_find s Pl.b (.inl rfl) (ln.t : Int) (by omega)
    have r0 := plOf_r s g1
    have r1 := plOf_r s hbh.get
    have hle : p0.r ≤ bh.r := by
      rw [r0, r1]
      rcases Nat.lt_or_ge j2 ln.i with h | h
      · have := hbh.hi _ p0 g1 h; omega
      · exact h
    have hb2 := pl_bd s hs hbh.get
    have hb0 := pl_bd s hs g1
    have hjl := (List.getElem?_eq_some_iff.1 hbh.get).1
    obtain ⟨q, hq⟩ : ∃ q, (plOf s)[min (p0.r + p.c) bh.r]? = some q := ⟨_, List.getElem?_eq_getElem (by omega)⟩
    refine ⟨q, fun w b h => ?_, fun w => rmv3_in s at' n w hs ha.1 ha.2 hat n0 n1 (by omega) (by omega) hk hl hp0 hbh hle hq ⟨hft, by omega⟩⟩
    obtain ⟨pb, pc, lb, lc, h⟩ := h
    exact move3_in h (by omega) (by omega) (by omega) at' ha.1 ha.2 j p hat.get hat.lo hat.hi _ (lastP s) (plOf_len s) (last_get s) b1 b2 b3 n n0 n1 (by omega) (by omega) ln (by rw [hk, Int.toNat_natCast]; exact hl) (by omega) (by omega) b4 j2 bh hbh.get hbh.lo hbh.hi (by omega) q (by rw [← r0]; exact hq)
set_option maxRecDepth 100000 in
set_option maxHeartbeats 2000000 in
theorem mv_way_bad {w : World} {b : Nat} {s : ByteArray} (at' way n : Int) (hw : way < 1 ∨ 3 < way) :
    Calls Try.prog 32 #[.pointer (some ⟨b, 0, none⟩), .int .i64 at', .int .i64 way, .int .i64 n] w fun e w' => e = .returned (.tuple #[zeroP, .int .i64 2]) ∧ Below w.heap.size w w' := by
  by_cases h1 : way < 1
  · have h2 : decide (way < 1) = true := decide_eq_true h1
    clear hw
    go_enter Try.func32, Try.ntmps32
    go_wp2_with fail
    exact bodyPost_ret (v := .tuple #[zeroP, .int .i64 2]) (by simp [results, Try.results32, go_sem]) rfl ⟨rfl, (Below.refl _ w).alloc (Nat.le_refl _) _⟩
  · have h2 : decide (way < 1) = false := decide_eq_false h1
    have h3 : 3 < way := by omega
    have h4 : decide (3 < way) = true := decide_eq_true h3
    clear hw
    go_enter Try.func32, Try.ntmps32
    go_wp2_with fail
    exact bodyPost_ret (v := .tuple #[zeroP, .int .i64 2]) (by simp [results, Try.results32, go_sem]) rfl ⟨rfl, (Below.refl _ w).alloc (Nat.le_refl _) _⟩
set_option maxRecDepth 100000 in
set_option maxHeartbeats 2000000 in
theorem mv_at_bad {w : World} {b : Nat} {s : ByteArray} (h : MapOf w b s) (hs : s.size ≤ 65536) (at' way n : Int) (hw : 1 ≤ way ∧ way ≤ 3) (ha : at' < 0 ∨ (s.size : Int) < at') :
    Calls Try.prog 32 #[.pointer (some ⟨b, 0, none⟩), .int .i64 at', .int .i64 way, .int .i64 n] w fun e w' => e = .returned (.tuple #[zeroP, .int .i64 5]) ∧ Below w.heap.size w w' := by
  have k4 := Blk.new w 33 #[.int .i64 0, .int .i64 0, .int .i64 0, .int .i64 0, .int .i64 0]
  have ba : Below w.heap.size w (w.alloc (.cells #[.int .i64 0, .int .i64 0, .int .i64 0, .int .i64 0, .int .i64 0] 33)) := (Below.refl _ _).alloc (Nat.le_refl _) _
  have hE : Hid (Calls Try.prog 16 #[.pointer (some ⟨b, 0, none⟩), .int .i64 at'] (w.alloc (.cells #[.int .i64 0, .int .i64 0, .int .i64 0, .int .i64 0, .int .i64 0] 33)) fun e w' => e = .returned (.tuple #[zeroP, .int .i64 0, .int .i64 5]) ∧ Below (w.alloc (.cells #[.int .i64 0, .int .i64 0, .int .i64 0, .int .i64 0, .int .i64 0] 33)).heap.size (w.alloc (.cells #[.int .i64 0, .int .i64 0, .int .i64 0, .int .i64 0, .int .i64 0] 33)) w') := by
    obtain ⟨pb, pc, lb, lc, h⟩ := h.below ba
    exact hid (byte_bad h at' ha (by omega))
  have h2 : decide (way < 1) = false := decide_eq_false (by omega)
  have h4 : decide (3 < way) = false := decide_eq_false (by omega)
  have h5 : ¬ way < 1 := by omega
  have h6 : ¬ 3 < way := by omega
  have k4h := hid k4
  have bah := hid ba
  clear hw ha h ba k4
  go_enter Try.func32, Try.ntmps32
  go_wp2_with fail
  with_reducible refine Calls.mono hE.out ?_
  rintro e w1 ⟨rfl, hb1⟩
  have k4 := k4h.out.low hb1
  have ba := bah.out.trans (hb1.mono bah.out.size)
  clear hE hb1
  go_upto_region 6 with fail
  generalize hA : World.alloc w1 _ = w2
  have hb2 : Below w1.heap.size w1 w2 := hA ▸ (Below.refl _ _).alloc (Nat.le_refl _) _
  replace k4 := k4.low hb2
  replace ba := ba.trans (hb2.mono ba.size)
  clear hb2 hA
  have cb0 := k4.cell (k := 0) rfl
  have cb1 := k4.cell (k := 1) rfl
  have cb2 := k4.cell (k := 2) rfl
  have cb3 := k4.cell (k := 3) rfl
  have cb4 := k4.cell (k := 4) rfl
  have nb := k4.lt
  have fb := k4.froz
  have hF := set5r k4 (.int .i64 0) (.int .i64 0) (.int .i64 0) (.int .i64 0) (.int .i64 0)
  have d0 := hid (hF.cell (k := 0) rfl)
  have d1 := hid (hF.cell (k := 1) rfl)
  have d2 := hid (hF.cell (k := 2) rfl)
  have d3 := hid (hF.cell (k := 3) rfl)
  have d4 := hid (hF.cell (k := 4) rfl)
  clear hF
  go_wp2_with fail
  exact bodyPost_ret (v := .tuple #[zeroP, .int .i64 5]) (by simp [results, Try.results32, go_sem, d0.out, d1.out, d2.out, d3.out, d4.out]) rfl ⟨rfl, low5r ba (Nat.le_refl _) _ _ _ _ _⟩
end Go.Proofs.Ytkobfjiadfedlaa
