/- Blocks of cells; each place of a text, asked in each way; the next place. Conditions: the text has at most 65536 bytes. -/
import Derived.Test.YtkobfjiadfedlaaPlEa
import Derived.Test.YtkobfjiadfedlaaPlY
import Derived.Test.YtkobfjiadfedlaaPlF
import Derived.WalkSpells
import Derived.WalkLawsBesides
import Derived.Deep.QuietTactic
import Derived.BigQuiet
namespace Go.Proofs.Ytkobfjiadfedlaa
open Go.RowKit Go.Shelf
set_option linter.unusedVariables false
set_option linter.unusedSimpArgs false
attribute [local go_sem] Oper.semAt_some
attribute [local go_sem] Ext.cell Ext.froz
/-- a block of cells, as it lies -/
def Blk (W : World) (B : Nat) (t : TypeId) (c : Array Value) : Prop := W.heap[B]? = some (.cells c t (0, 0))
section
variable {W W' : World} {B : Nat} {t : TypeId} {c : Array Value}
theorem Blk.lt (h : Blk W B t c) : B < W.heap.size := (Array.getElem?_eq_some_iff.1 h).1
theorem Blk.cell (h : Blk W B t c) {k : Nat} {v : Value} (hk : c[k]? = some v) : W.cell? ⟨B, k, none⟩ = some v := blk_cell h hk
theorem Blk.froz (h : Blk W B t c) (k : Nat) : W.frozen? ⟨B, k, none⟩ = false := blk_froz h k
theorem Blk.low (h : Blk W B t c) (hb : Below W.heap.size W W') : Blk W' B t c := (hb.block B h.lt).trans h
theorem Blk.lowN {n : Nat} (h : Blk W B t c) (hb : Below n W W') (hn : B < n) : Blk W' B t c := (hb.block B hn).trans h
theorem Blk.new (W : World) (t : TypeId) (c : Array Value) : Blk (W.alloc (.cells c t)) W.heap.size t c := heap_alloc_new W _
theorem Blk.alloc (h : Blk W B t c) (o : Obj) : Blk (W.alloc o) B t c := h.low ((Below.refl _ _).alloc (Nat.le_refl _) _)
theorem Blk.kept {row : Option Nat} (h : Blk W B t c) (hg : W.grownBy W' row) (hne : some B ≠ row) : Blk W' B t c := (hg.block B h.lt hne).trans h
theorem Blk.other (h : Blk W B t c) {B' k : Nat} (hne : B ≠ B') (u : Value) : Blk (W.setCell ⟨B', k, none⟩ u) B t c :=
  (Below.heap_setCell W ⟨B', k, none⟩ u B hne).trans h
theorem Blk.set (h : Blk W B t c) (k : Nat) (u : Value) : Blk (W.setCell ⟨B, k, none⟩ u) B t (c.setIfInBounds k u) := by
  obtain ⟨hlt, hk⟩ := Array.getElem?_eq_some_iff.1 h
  show (W.heap.modify B _)[B]? = _
  rw [Array.getElem?_eq_getElem (by rw [Array.size_modify]; exact hlt), Array.getElem_modify_self, hk]
  rfl
end
theorem blk_own {β : Type} (B : Nat) (t : TypeId) (f : β → Array Value) : Own (fun s W => Blk W B t (f s)) := fun s X Y row hs hg hrow =>
  hs.kept hg (fun e' => by obtain ⟨o, ho, hc⟩ := hrow B e'.symm; rw [show X.heap[B]? = _ from hs] at ho; cases ho; cases hc)
theorem kf_of {B : Nat} {W W' : World} (h : Below W.heap.size W W') : KeepsFrom B W W' :=
  ⟨h.size, fun k o _ hk _ => (h.block k (Array.getElem?_eq_some_iff.1 hk).1).trans hk⟩
section
variable {w : World} {b : Nat} {s : ByteArray}
/-- what the next place is -/
theorem pl_next (s : ByteArray) {k : Nat} {p q : Pl} (hp : (plOf s)[k]? = some p) (hq : (plOf s)[k + 1]? = some q) :
    p.r = k ∧ p.b < q.b ∧ q.r = p.r + 1 ∧ p.u < q.u ∧ p.l ≤ q.l ∧ (q.l = p.l → q.c = p.c + 1) ∧ (p.l < q.l → q.l = p.l + 1 ∧ q.c = 0) := by
  obtain ⟨h1, h3⟩ : p.b < q.b ∧ p.u < q.u := by
    have := plOf_srt s k (k + 1) p q (by omega) hp hq
    omega
  have r1 := plOf_r s hp
  have r2 := plOf_r s hq
  have hl := pl_mono s (Nat.le_succ k) hp hq
  obtain ⟨ln, a1, a2, _⟩ := pl_line s hp
  obtain ⟨ln', b1, b2, _⟩ := pl_line s hq
  refine ⟨by omega, h1, by omega, h3, hl, fun he => ?_, fun hlt => ?_⟩
  · rw [he, a1] at b1
    cases b1
    omega
  · have hlen : p.l + 1 < (lnOf s).length := by have := (List.getElem?_eq_some_iff.1 b1).1; omega
    obtain ⟨p0, c1, c2, c3, c4⟩ := (ln_ok s (List.getElem?_eq_getElem hlen)).p0
    generalize hln : (lnOf s)[p.l + 1] = l2 at *
    have hi : k + 1 ≤ l2.i := by
      rcases Nat.lt_or_ge k l2.i with h | h
      · exact h
      · have := pl_mono s h c1 hp; omega
    have := pl_mono s hi hq c1
    have he : q.l = p.l + 1 := by omega
    have hg : (lnOf s)[p.l + 1]? = some l2 := by rw [List.getElem?_eq_getElem hlen, hln]
    rw [he, hg] at b1
    cases b1
    exact ⟨he, by omega⟩
theorem pl_mem {s : ByteArray} {x : Pl} (h : x ∈ plOf s) : (plOf s)[x.r]? = some x := by
  obtain ⟨k, hk, rfl⟩ := List.mem_iff_getElem.1 h
  have h2 : (plOf s)[k]? = some (plOf s)[k] := List.getElem?_eq_getElem hk
  rw [plOf_r s h2]; exact h2
theorem own_byte (h : MapOf w b s) (hs : s.size ≤ 65536) {x : Pl} (hx : x ∈ plOf s) :
    Calls Try.prog 16 #[.pointer (some ⟨b, 0, none⟩), .int .i64 x.b] w fun e w' => e = .returned (.tuple #[plV x, .int .i64 0, .int .i64 0]) ∧ Below w.heap.size w w' := by
  have hp := pl_mem hx
  obtain ⟨_, _, _, _, _, hz⟩ := pl_bd s hs hp
  have := mp_byte h hs x.b (by omega) (by omega) (at_self s Pl.b (.inl rfl) hp)
  rw [Int.sub_self] at this
  exact this
theorem own_rune (h : MapOf w b s) (hs : s.size ≤ 65536) {x : Pl} (hx : x ∈ plOf s) :
    Calls Try.prog 18 #[.pointer (some ⟨b, 0, none⟩), .int .i64 x.r] w fun e w' => e = .returned (.tuple #[plV x, .int .i64 0]) ∧ Below w.heap.size w w' := by
  have hp := pl_mem hx
  have ok := fin_ok s
  have k1 := ok.len
  have k2 := ok.ll
  obtain ⟨pb, pc, lb, lc, h⟩ := h
  exact rune_ok h (by unfold plOf; simp; omega) (by unfold lnOf; simp; omega) x.r (by omega) x (by rw [Int.toNat_natCast]; exact hp)
theorem own_unit (h : MapOf w b s) (hs : s.size ≤ 65536) {x : Pl} (hx : x ∈ plOf s) :
    Calls Try.prog 19 #[.pointer (some ⟨b, 0, none⟩), .int .i64 x.u] w fun e w' => e = .returned (.tuple #[plV x, .int .i64 0, .int .i64 0]) ∧ Below w.heap.size w w' := by
  have hp := pl_mem hx
  have ok := fin_ok s
  have k1 := ok.len
  obtain ⟨_, ⟨u1, u2⟩, _⟩ := pl_bd s hs hp
  have a := at_self s Pl.u (.inr rfl) hp
  obtain ⟨pb, pc, lb, lc, h⟩ := h
  have := unit_ok h (by unfold plOf; simp; omega) x.u (by omega) _ (lastP s) (plOf_len s) (last_get s) (by omega) u2 _ x hp a.lo a.hi
  rw [Int.sub_self] at this
  exact this
theorem own_line (h : MapOf w b s) (hs : s.size ≤ 65536) {x : Pl} (hx : x ∈ plOf s) :
    Calls Try.prog 20 #[.pointer (some ⟨b, 0, none⟩), .int .i64 x.l, .int .i64 x.c] w fun e w' => e = .returned (.tuple #[plV x, .int .i64 0]) ∧ Below w.heap.size w w' := by
  have hp := pl_mem hx
  have ok := fin_ok s
  have k1 := ok.len
  have k2 := ok.ll
  obtain ⟨ln, a1, a2, _⟩ := pl_line s hp
  have hlt := (List.getElem?_eq_some_iff.1 hp).1
  obtain ⟨pb, pc, lb, lc, h⟩ := h
  exact line_in h (by unfold plOf; simp; omega) (by unfold lnOf; simp; omega) x.l x.c (by omega) (by omega) ln (by rw [Int.toNat_natCast]; exact a1) (by omega) x (by rw [Int.toNat_natCast, a2]; exact hp) (plV x) 0 (.inl ⟨rfl, rfl, rfl⟩)
theorem own_end (h : MapOf w b s) (hs : s.size ≤ 65536) :
    Calls Try.prog 21 #[.pointer (some ⟨b, 0, none⟩)] w fun e w' => e = .returned (plV (lastP s)) ∧ Below w.heap.size w w' := by
  have ok := fin_ok s
  have k1 := ok.len
  obtain ⟨pb, pc, lb, lc, h⟩ := h
  exact end_any h _ (lastP s) (plOf_len s) (last_get s) (by unfold plOf; simp; omega)
end
end Go.Proofs.Ytkobfjiadfedlaa
