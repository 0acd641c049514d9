/- The map of a text: Byte and Move by what the plain data says. Conditions: the text has at most 65536 bytes. -/
import Derived.Test.YtkobfjiadfedlaaPlV
import Derived.Test.YtkobfjiadfedlaaPlR
import Derived.Test.YtkobfjiadfedlaaPlW
namespace Go.Proofs.Ytkobfjiadfedlaa
open Go.RowKit
set_option linter.unusedVariables false
set_option linter.unusedSimpArgs false
abbrev plV (p : Pl) : Value := .agg #[.int .i64 p.b, .int .i64 p.r, .int .i64 p.u, .int .i64 p.l, .int .i64 p.c]
/-- the map of s at block b -/
def MapOf (w : World) (b : Nat) (s : ByteArray) : Prop := ∃ pb pc lb lc, IsMap w b s (plOf s) (lnOf s) pb pc lb lc
theorem MapOf.below {w w' : World} {b : Nat} {s : ByteArray} (h : MapOf w b s) (hb : Below w.heap.size w w') : MapOf w' b s := by
  obtain ⟨pb, pc, lb, lc, h⟩ := h
  exact ⟨pb, pc, lb, lc, h.below hb⟩
section
variable {w : World} {b : Nat} {s : ByteArray}
theorem mp_byte (h : MapOf w b s) (hs : s.size ≤ 65536) (n : Int) (h0 : 0 ≤ n) (h1 : n ≤ s.size) {j : Nat} {p : Pl} (hat : At s Pl.b n j p) :
    Calls Try.prog 16 #[.pointer (some ⟨b, 0, none⟩), .int .i64 n] w fun e w' => e = .returned (.tuple #[plV p, .int .i64 (n - p.b), .int .i64 0]) ∧ Below w.heap.size w w' := by
  obtain ⟨pb, pc, lb, lc, h⟩ := h
  have hb := plOf_small s hs
  exact byte_ok h (by omega) n h0 h1 j p hat.get hat.lo hat.hi (by omega)
theorem mp_move1 (h : MapOf w b s) (hs : s.size ≤ 65536) (n : Int) (h0 : 0 ≤ n) (h1 : n ≤ s.size) {j : Nat} {p : Pl} (hat : At s Pl.b n j p) (d : Int) (d0 : -9223372036854775808 ≤ d) (d1 : d ≤ 9223372036854775807) {q : Pl} (hq : (plOf s)[clampR s j d]? = some q) :
    Calls Try.prog 32 #[.pointer (some ⟨b, 0, none⟩), .int .i64 n, .int .i64 1, .int .i64 d] w fun e w' => e = .returned (.tuple #[plV q, .int .i64 0]) ∧ Below w.heap.size w w' := by
  obtain ⟨pb, pc, lb, lc, h⟩ := h
  have hb := plOf_small s hs
  have hr := plOf_r s hat.get
  have hl := last_r s
  obtain ⟨b1, b2, b3, _⟩ := pl_bd s hs hat.get
  unfold clampR at hq
  split at hq
  · exact move1_lo h (by omega) (by omega) (by omega) n h0 h1 j p hat.get hat.lo hat.hi _ (lastP s) (plOf_len s) (last_get s) b1 b2 b3 d d0 d1 q hq (by omega)
  · split at hq
    · rw [last_get s] at hq
      cases hq
      exact move1_hi h (by omega) (by omega) (by omega) n h0 h1 j p hat.get hat.lo hat.hi _ (lastP s) (plOf_len s) (last_get s) b1 b2 b3 d d0 d1 (by omega)
    · exact move1_in h (by omega) (by omega) (by omega) n h0 h1 j p hat.get hat.lo hat.hi _ (lastP s) (plOf_len s) (last_get s) b1 b2 b3 d d0 d1 (by omega) (by omega) q (by rw [hr]; exact hq)
theorem mp_move2_zero (h : MapOf w b s) (hs : s.size ≤ 65536) (n : Int) (h0 : 0 ≤ n) (h1 : n ≤ s.size) {j : Nat} {p : Pl} (hat : At s Pl.b n j p) :
    Calls Try.prog 32 #[.pointer (some ⟨b, 0, none⟩), .int .i64 n, .int .i64 2, .int .i64 0] w fun e w' => e = .returned (.tuple #[plV p, .int .i64 0]) ∧ Below w.heap.size w w' := by
  obtain ⟨pb, pc, lb, lc, h⟩ := h
  have hb := plOf_small s hs
  obtain ⟨b1, b2, b3, _⟩ := pl_bd s hs hat.get
  have hu := at_self s Pl.u (.inr rfl) hat.get
  exact move2_in h (by omega) (by omega) (by omega) n h0 h1 j p hat.get hat.lo hat.hi _ (lastP s) (plOf_len s) (last_get s) b1 b2 b3 0 (by omega) (by omega) (by omega) (by omega) j p hat.get (by rw [Int.add_zero]; exact hu.lo) (by rw [Int.add_zero]; exact hu.hi)
theorem mp_move3_zero (h : MapOf w b s) (hs : s.size ≤ 65536) (n : Int) (h0 : 0 ≤ n) (h1 : n ≤ s.size) {j : Nat} {p : Pl} (hat : At s Pl.b n j p) : ∃ q : Pl, q.l = p.l ∧
    Calls Try.prog 32 #[.pointer (some ⟨b, 0, none⟩), .int .i64 n, .int .i64 3, .int .i64 0] w fun e w' => e = .returned (.tuple #[plV q, .int .i64 0]) ∧ Below w.heap.size w w' := by
  obtain ⟨pb, pc, lb, lc, h⟩ := h
  have hb := plOf_small s hs
  obtain ⟨b1, b2, b3, b4, _⟩ := pl_bd s hs hat.get
  obtain ⟨ln, j2, bh, q, a1, a2, a3, a4, a5, a6, a7⟩ := line_zero s hs hat.get
  refine ⟨q, a7, move3_in h (by omega) (by omega) (by omega) n h0 h1 j p hat.get hat.lo hat.hi _ (lastP s) (plOf_len s) (last_get s) b1 b2 b3 0 (by omega) (by omega) (by omega) (by omega) ln ?_ a2 a3 b4 j2 bh a4.get a4.lo a4.hi a5 q a6⟩
  rw [Int.add_zero, Int.toNat_natCast]
  exact a1
theorem new_map (s : ByteArray) (w : World) (hs : s.size ≤ 65536) :
    Calls Try.prog 13 #[.string s] w fun e w' => ∃ b, e = .returned (.tuple #[.pointer (some ⟨b, 0, none⟩), .int .i64 0]) ∧ MapOf w' b s ∧ Below w.heap.size w w' :=
  (new_any s w hs).mono fun e w' ⟨b, pb, pc, lb, lc, _, hm, he, hb⟩ => ⟨b, he, ⟨pb, pc, lb, lc, hm⟩, hb⟩
theorem new_long (s : ByteArray) (w : World) (hs : 65536 < s.size) (hm : s.size ≤ maxLen) : Calls Try.prog 13 #[.string s] w fun e w' => e = .returned (.tuple #[.pointer none, .int .i64 3]) ∧ Below w.heap.size w w' := by
  unfold maxLen at hm
  have h1 : (65536 : Int) < s.size := by omega
  go_enter Try.func13, Try.ntmps13
  go_wp2_with fail
  go_step3
  go_wp2_with fail
  try rw [Exit.noGoto_ret]
  go_ret2
  exact ⟨rfl, Below.refl _ _⟩
end
end Go.Proofs.Ytkobfjiadfedlaa
