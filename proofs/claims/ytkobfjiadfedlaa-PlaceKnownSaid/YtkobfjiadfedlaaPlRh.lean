/- What a map answers, and what the document answers, at any number: the same. Conditions: the text has at most 65536 bytes. -/
import Derived.Test.YtkobfjiadfedlaaPlRg
namespace Go.Proofs.Ytkobfjiadfedlaa
open Go.RowKit
set_option linter.unusedVariables false
set_option linter.unusedSimpArgs false
attribute [local go_sem] Ext.cell Ext.froz
set_option maxRecDepth 100000 in
set_option maxHeartbeats 2000000 in
theorem mp_unit_bad {w : World} {b : Nat} {s : ByteArray} (h : MapOf w b s) (hs : s.size ≤ 65536) (k : Int) (hk : k < 0 ∨ ((lastP s).u : Int) < k) :
    Calls Try.prog 19 #[.pointer (some ⟨b, 0, none⟩), .int .i64 k] w fun e w' => e = .returned (.tuple #[zeroP, .int .i64 0, .int .i64 5]) ∧ Below w.heap.size w w' := by
  have k4 := Blk.new w 33 #[.int .i64 0, .int .i64 0, .int .i64 0, .int .i64 0, .int .i64 0]
  have ba : Below w.heap.size w (w.alloc (.cells #[.int .i64 0, .int .i64 0, .int .i64 0, .int .i64 0, .int .i64 0] 33)) := (Below.refl _ _).alloc (Nat.le_refl _) _
  have hE := hid (own_end (h.below ba) hs)
  obtain ⟨pe, hpe⟩ : ∃ pe, lastP s = pe := ⟨_, rfl⟩
  rw [hpe] at hE hk
  have hfd : ∀ w : World, (Instr.field 33 (plV pe) 2).run Try.prog w = .ok (.int .i64 pe.u) w := fun _ => by kernel_rfl
  clear hpe
  by_cases h0 : k < 0
  · have h1 : decide (k < 0) = true := decide_eq_true h0
    replace ba := hid ba
    clear hk k4 h
    go_enter Try.func19, Try.ntmps19
    go_wp2
    exact bodyPost_ret (v := .tuple #[zeroP, .int .i64 0, .int .i64 5]) (by simp [results, Try.results19, go_sem]) rfl ⟨rfl, ba.out⟩
  · have h1 : decide (k < 0) = false := decide_eq_false h0
    have h2 : (pe.u : Int) < k := by omega
    have h3 : decide ((pe.u : Int) < k) = true := decide_eq_true h2
    have k4h := hid k4
    have bah := hid ba
    clear hk h ba k4
    go_enter Try.func19, Try.ntmps19
    go_wp2_with fail
    with_reducible refine Calls.mono hE.out ?_
    rintro e w1 ⟨rfl, hb1⟩
    have k4 := k4h.out.low hb1
    have ba := bah.out.trans (hb1.mono bah.out.size)
    clear hE hb1
    have cb0 := k4.cell (k := 0) rfl
    have cb1 := k4.cell (k := 1) rfl
    have cb2 := k4.cell (k := 2) rfl
    have cb3 := k4.cell (k := 3) rfl
    have cb4 := k4.cell (k := 4) rfl
    have nb := k4.lt
    have fb := k4.froz
    have hF := set5r k4 (.int .i64 0) (.int .i64 0) (.int .i64 0) (.int .i64 0) (.int .i64 0)
    have d0 := hid (hF.cell (k := 0) rfl)
    have d1 := hid (hF.cell (k := 1) rfl)
    have d2 := hid (hF.cell (k := 2) rfl)
    have d3 := hid (hF.cell (k := 3) rfl)
    have d4 := hid (hF.cell (k := 4) rfl)
    clear hF
    go_wp2
    exact bodyPost_ret (v := .tuple #[zeroP, .int .i64 0, .int .i64 5]) (by simp [results, Try.results19, go_sem, d0.out, d1.out, d2.out, d3.out, d4.out]) rfl ⟨rfl, low5r ba (Nat.le_refl _) _ _ _ _ _⟩
/-- the error that goes with yes or no -/
structure Err (ok : Bool) (e : Int) : Prop where
  h : ok = true ∧ e = 0 ∨ ok = false ∧ e = 5
abbrev agg5 (a0 a1 a2 a3 a4 : Int) : Value := .agg #[.int .i64 a0, .int .i64 a1, .int .i64 a2, .int .i64 a3, .int .i64 a4]
section
variable (s : ByteArray) (hs : s.size ≤ 65536)
include hs
theorem pair_byte (k : Int) : ∃ (a0 a1 a2 a3 a4 d e : Int) (ok : Bool), Err ok e ∧
    (∀ (w : World) (b : Nat), MapOf w b s → Calls Try.prog 16 #[.pointer (some ⟨b, 0, none⟩), .int .i64 k] w fun x w' => x = .returned (.tuple #[agg5 a0 a1 a2 a3 a4, .int .i64 d, .int .i64 e]) ∧ Below w.heap.size w w') ∧
    (∀ w : World, Calls Try.prog 27 #[.string s, .int .i64 k] w fun x w' => x = .returned (.tuple #[agg5 a0 a1 a2 a3 a4, .int .i64 d, .bool ok]) ∧ Below w.heap.size w w') := by
  by_cases hk : 0 ≤ k ∧ k ≤ s.size
  · obtain ⟨j, p, hat⟩ := at_find s Pl.b (.inl rfl) k hk.1
    exact ⟨p.b, p.r, p.u, p.l, p.c, k - p.b, 0, true, ⟨.inl ⟨rfl, rfl⟩⟩, fun w b h => mp_byte h hs k hk.1 hk.2 hat, fun w => ref_byte s k w hs hk.1 hk.2 hat⟩
  · refine ⟨0, 0, 0, 0, 0, 0, 5, false, ⟨.inr ⟨rfl, rfl⟩⟩, fun w b h => ?_, fun w => ref_byte_bad s k w (by omega)⟩
    obtain ⟨pb, pc, lb, lc, h⟩ := h
    exact byte_bad h k (by omega) (by omega)
theorem pair_rune (k : Int) : ∃ (a0 a1 a2 a3 a4 e : Int) (ok : Bool), Err ok e ∧
    (∀ (w : World) (b : Nat), MapOf w b s → Calls Try.prog 18 #[.pointer (some ⟨b, 0, none⟩), .int .i64 k] w fun x w' => x = .returned (.tuple #[agg5 a0 a1 a2 a3 a4, .int .i64 e]) ∧ Below w.heap.size w w') ∧
    (∀ w : World, Calls Try.prog 28 #[.string s, .int .i64 k] w fun x w' => x = .returned (.tuple #[agg5 a0 a1 a2 a3 a4, .bool ok]) ∧ Below w.heap.size w w') := by
  have hz := plOf_small s hs
  by_cases hk : 0 ≤ k ∧ k < (plOf s).length
  · obtain ⟨p, hp⟩ : ∃ p, (plOf s)[k.toNat]? = some p := ⟨_, List.getElem?_eq_getElem (by omega)⟩
    refine ⟨p.b, p.r, p.u, p.l, p.c, 0, true, ⟨.inl ⟨rfl, rfl⟩⟩, fun w b h => ?_, fun w => ref_rune s k w hs hk.1 hp⟩
    obtain ⟨pb, pc, lb, lc, h⟩ := h
    exact rune_ok h (by omega) (by omega) k hk.1 p hp
  · refine ⟨0, 0, 0, 0, 0, 5, false, ⟨.inr ⟨rfl, rfl⟩⟩, fun w b h => ?_, fun w => ref_rune_bad s k w hs (by omega)⟩
    obtain ⟨pb, pc, lb, lc, h⟩ := h
    exact rune_bad h (by omega) (by omega) k (by omega)
theorem pair_unit (k : Int) : ∃ (a0 a1 a2 a3 a4 d e : Int) (ok : Bool), Err ok e ∧
    (∀ (w : World) (b : Nat), MapOf w b s → Calls Try.prog 19 #[.pointer (some ⟨b, 0, none⟩), .int .i64 k] w fun x w' => x = .returned (.tuple #[agg5 a0 a1 a2 a3 a4, .int .i64 d, .int .i64 e]) ∧ Below w.heap.size w w') ∧
    (∀ w : World, Calls Try.prog 29 #[.string s, .int .i64 k] w fun x w' => x = .returned (.tuple #[agg5 a0 a1 a2 a3 a4, .int .i64 d, .bool ok]) ∧ Below w.heap.size w w') := by
  have hz := plOf_small s hs
  by_cases hk : 0 ≤ k ∧ k ≤ (lastP s).u
  · obtain ⟨j, p, hat⟩ := at_find s Pl.u (.inr rfl) k hk.1
    refine ⟨p.b, p.r, p.u, p.l, p.c, k - p.u, 0, true, ⟨.inl ⟨rfl, rfl⟩⟩, fun w b h => ?_, fun w => ref_unit s k w hs hk.1 hk.2 hat⟩
    have hu := (pl_bd s hs (last_get s)).2.1.2
    obtain ⟨pb, pc, lb, lc, h⟩ := h
    exact unit_ok h (by omega) k hk.1 _ (lastP s) (plOf_len s) (last_get s) hk.2 hu j p hat.get hat.lo hat.hi
  · exact ⟨0, 0, 0, 0, 0, 0, 5, false, ⟨.inr ⟨rfl, rfl⟩⟩, fun w b h => mp_unit_bad h hs k (by omega), fun w => ref_unit_bad s k w hs (by omega)⟩
theorem pair_line (l c : Int) : ∃ (a0 a1 a2 a3 a4 e : Int) (ok : Bool), Err ok e ∧
    (∀ (w : World) (b : Nat), MapOf w b s → Calls Try.prog 20 #[.pointer (some ⟨b, 0, none⟩), .int .i64 l, .int .i64 c] w fun x w' => x = .returned (.tuple #[agg5 a0 a1 a2 a3 a4, .int .i64 e]) ∧ Below w.heap.size w w') ∧
    (∀ w : World, Calls Try.prog 30 #[.string s, .int .i64 l, .int .i64 c] w fun x w' => x = .returned (.tuple #[agg5 a0 a1 a2 a3 a4, .bool ok]) ∧ Below w.heap.size w w') := by
  have hz := plOf_small s hs
  have hi : ∀ (k : Nat) (ln : Ln), (lnOf s)[k]? = some ln → ln.i ≤ (plOf s).length := fun k ln h => by
    obtain ⟨p0, h0, _⟩ := (ln_ok s h).p0
    have := (List.getElem?_eq_some_iff.1 h0).1
    omega
  by_cases hex : ∃ (j : Nat) (p : Pl), (plOf s)[j]? = some p ∧ (p.l : Int) = l ∧ (p.c : Int) = c
  · obtain ⟨j, p, hp, rfl, rfl⟩ := hex
    refine ⟨p.b, p.r, p.u, p.l, p.c, 0, true, ⟨.inl ⟨rfl, rfl⟩⟩, fun w b h => ?_, fun w => ref_line s w hs hp⟩
    obtain ⟨ln, a1, a2, _⟩ := pl_line s hp
    have hlt := (List.getElem?_eq_some_iff.1 hp).1
    obtain ⟨pb, pc, lb, lc, h⟩ := h
    exact line_in h (by omega) (by omega) p.l p.c (by omega) (by omega) ln (by rw [Int.toNat_natCast]; exact a1) (by omega) p (by rw [Int.toNat_natCast, a2]; exact hp) _ 0 (.inl ⟨rfl, rfl, rfl⟩)
  · refine ⟨0, 0, 0, 0, 0, 5, false, ⟨.inr ⟨rfl, rfl⟩⟩, fun w b h => ?_, fun w => ref_line_bad s l c w hs (fun j p hp hh => hex ⟨j, p, hp, hh.1, hh.2⟩)⟩
    obtain ⟨pb, pc, lb, lc, h⟩ := h
    by_cases h1 : l < 0
    · exact line_bad h (by omega) (by omega) hi l c (.inl h1)
    by_cases h2 : ((lnOf s).length : Int) ≤ l
    · exact line_bad h (by omega) (by omega) hi l c (.inr (.inl ⟨by omega, h2⟩))
    by_cases h3 : c < 0
    · exact line_bad h (by omega) (by omega) hi l c (.inr (.inr (.inl ⟨by omega, by omega, h3⟩)))
    obtain ⟨ln, hln⟩ : ∃ ln, (lnOf s)[l.toNat]? = some ln := ⟨_, List.getElem?_eq_getElem (by omega)⟩
    by_cases h4 : ((plOf s).length : Int) - ln.i ≤ c
    · exact line_bad h (by omega) (by omega) hi l c (.inr (.inr (.inr ⟨by omega, by omega, by omega, fun p hp => by rw [hln] at hp; cases hp; exact h4⟩)))
    obtain ⟨q, hq⟩ : ∃ q, (plOf s)[ln.i + c.toNat]? = some q := ⟨_, List.getElem?_eq_getElem (by omega)⟩
    refine line_in h (by omega) (by omega) l c (by omega) (by omega) ln hln (by omega) q hq _ 5 (.inr ⟨fun hl => ?_, rfl, rfl⟩)
    obtain ⟨ln2, b1, b2, _⟩ := pl_line s hq
    have e : l.toNat = q.l := by omega
    rw [e, b1] at hln
    cases hln
    exact hex ⟨_, q, hq, hl, by omega⟩
theorem pair_span (k : Int) : ∃ (a0 a1 d e : Int) (ok : Bool), Err ok e ∧
    (∀ (w : World) (b : Nat), MapOf w b s → Calls Try.prog 15 #[.pointer (some ⟨b, 0, none⟩), .int .i64 k] w fun x w' => x = .returned (.tuple #[.agg #[.int .i64 a0, .int .i64 a1], .int .i64 d, .int .i64 e]) ∧ Below w.heap.size w w') ∧
    (∀ w : World, Calls Try.prog 31 #[.string s, .int .i64 k] w fun x w' => x = .returned (.tuple #[.agg #[.int .i64 a0, .int .i64 a1], .int .i64 d, .bool ok]) ∧ Below w.heap.size w w') := by
  have hz := plOf_small s hs
  have hl := lnOf_len s
  by_cases hk : 0 ≤ k ∧ k < (lnOf s).length
  · obtain ⟨n, rfl⟩ := Int.eq_ofNat_of_zero_le hk.1
    obtain ⟨ln, hln⟩ : ∃ ln, (lnOf s)[n]? = some ln := ⟨_, List.getElem?_eq_getElem (by omega)⟩
    refine ⟨ln.f, ln.t, ln.e, 0, true, ⟨.inl ⟨rfl, rfl⟩⟩, fun w b h => ?_, fun w => ref_span s w hs hln⟩
    obtain ⟨pb, pc, lb, lc, h⟩ := h
    exact span_ok h (by omega) (by omega) n (by omega) ln (by rw [Int.toNat_natCast]; exact hln)
  · refine ⟨0, 0, 0, 5, false, ⟨.inr ⟨rfl, rfl⟩⟩, fun w b h => ?_, fun w => ref_span_bad s k w hs (by omega)⟩
    obtain ⟨pb, pc, lb, lc, h⟩ := h
    exact span_bad h (by omega) (by omega) k (by omega)
end
end Go.Proofs.Ytkobfjiadfedlaa
