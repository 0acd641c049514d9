/- Map.Rune, Span, Line of a map of a text's places. Conditions: none beyond each theorem's own. -/
import Derived.Test.YtkobfjiadfedlaaPlD
import Derived.Test.YtkobfjiadfedlaaQt
import Derived.WalkKit
import Derived.WalkSpells
import Derived.WalkLawsBesides
import Derived.Deep.QuietTactic
import Derived.BigQuiet
import Derived.Deep.RegionHeld3
import Derived.Deep.RegionLawGrows
import Derived.StillTailTactics
namespace Go.Proofs.Ytkobfjiadfedlaa
open Go.RowKit
set_option linter.unusedVariables false
set_option linter.unusedSimpArgs false
attribute [local go_sem] Ext.cell Ext.froz
theorem rune_ok {w : World} {b : Nat} {s : ByteArray} {P : List Pl} {L : List Ln} {pb pc lb lc : Nat} (h : IsMap w b s P L pb pc lb lc) (hP2 : P.length ≤ 70000) (hL2 : L.length ≤ 70000) (k : Int) (h0 : 0 ≤ k) (p : Pl) (hp : P[k.toNat]? = some p) :
    Calls Try.prog 18 #[.pointer (some ⟨b, 0, none⟩), .int .i64 k] w fun e w' => e = .returned (.tuple #[.agg #[.int .i64 p.b, .int .i64 p.r, .int .i64 p.u, .int .i64 p.l, .int .i64 p.c], .int .i64 0]) ∧ Below w.heap.size w w' := by
  obtain ⟨n, rfl⟩ := Int.eq_ofNat_of_zero_le h0
  rw [Int.toNat_natCast] at hp
  have c1 := h.c1
  have hb := h.bl
  obtain ⟨q0, q1, q2, q3, q4⟩ := h.hp n p hp
  have hn : n < P.length := (List.getElem?_eq_some_iff.1 hp).1
  have hpb : pb < w.heap.size := World.block_lt_of_cell? w _ q0
  generalize P.length = len at *
  have t1 : (n : Int) < len := by omega
  have d1 : decide ((n : Int) < 0) = false := by simp <;> omega
  clear h hp
  go_enter Try.func18, Try.ntmps18
  go_wp2_with fail
  exact bodyPost_ret (v := .tuple #[.agg #[.int .i64 p.b, .int .i64 p.r, .int .i64 p.u, .int .i64 p.l, .int .i64 p.c], .int .i64 0]) (by simp [results, Try.results18, go_sem, *]) rfl ⟨rfl, (Below.refl _ w).alloc (Nat.le_refl _) _⟩
theorem rune_bad {w : World} {b : Nat} {s : ByteArray} {P : List Pl} {L : List Ln} {pb pc lb lc : Nat} (h : IsMap w b s P L pb pc lb lc) (hP2 : P.length ≤ 70000) (hL2 : L.length ≤ 70000) (k : Int) (h0 : k < 0 ∨ (P.length : Int) ≤ k) :
    Calls Try.prog 18 #[.pointer (some ⟨b, 0, none⟩), .int .i64 k] w fun e w' => e = .returned (.tuple #[.agg #[.int .i64 0, .int .i64 0, .int .i64 0, .int .i64 0, .int .i64 0], .int .i64 5]) ∧ Below w.heap.size w w' := by
  have c1 := h.c1
  have hb := h.bl
  clear h
  generalize P.length = len at *
  rcases h0 with h0 | h0
  · go_enter Try.func18, Try.ntmps18
    go_wp2_with fail
    exact bodyPost_ret (v := .tuple #[.agg #[.int .i64 0, .int .i64 0, .int .i64 0, .int .i64 0, .int .i64 0], .int .i64 5]) (by simp [results, Try.results18, go_sem, *]) rfl ⟨rfl, (Below.refl _ w).alloc (Nat.le_refl _) _⟩
  · have d1 : decide (k < 0) = false := by simp <;> omega
    go_enter Try.func18, Try.ntmps18
    go_wp2_with fail
    exact bodyPost_ret (v := .tuple #[.agg #[.int .i64 0, .int .i64 0, .int .i64 0, .int .i64 0, .int .i64 0], .int .i64 5]) (by simp [results, Try.results18, go_sem, *]) rfl ⟨rfl, (Below.refl _ w).alloc (Nat.le_refl _) _⟩
theorem span_ok {w : World} {b : Nat} {s : ByteArray} {P : List Pl} {L : List Ln} {pb pc lb lc : Nat} (h : IsMap w b s P L pb pc lb lc) (hP2 : P.length ≤ 70000) (hL2 : L.length ≤ 70000) (k : Int) (h0 : 0 ≤ k) (p : Ln) (hp : L[k.toNat]? = some p) :
    Calls Try.prog 15 #[.pointer (some ⟨b, 0, none⟩), .int .i64 k] w fun e w' => e = .returned (.tuple #[.agg #[.int .i64 p.f, .int .i64 p.t], .int .i64 p.e, .int .i64 0]) ∧ Below w.heap.size w w' := by
  obtain ⟨n, rfl⟩ := Int.eq_ofNat_of_zero_le h0
  rw [Int.toNat_natCast] at hp
  have c1 := h.c2
  have hb := h.bl
  obtain ⟨q0, q1, q2, q3⟩ := h.hl n p hp
  have hn : n < L.length := (List.getElem?_eq_some_iff.1 hp).1
  have hpb : lb < w.heap.size := World.block_lt_of_cell? w _ q0
  generalize L.length = len at *
  have t1 : (n : Int) < len := by omega
  have t2 : (0 : Int) ≤ n := by omega
  have d1 : decide ((n : Int) < 0) = false := by simp <;> omega
  clear h hp
  go_enter Try.func15, Try.ntmps15
  go_wp2_with fail
  go_region
  all_goals
    go_wp2_with fail
    exact bodyPost_ret (v := .tuple #[.agg #[.int .i64 p.f, .int .i64 p.t], .int .i64 p.e, .int .i64 0]) (by simp [results, Try.results15, go_sem, *]) rfl ⟨rfl, ((Below.refl _ w).alloc (Nat.le_refl _) _).drew⟩
theorem span_bad {w : World} {b : Nat} {s : ByteArray} {P : List Pl} {L : List Ln} {pb pc lb lc : Nat} (h : IsMap w b s P L pb pc lb lc) (hP2 : P.length ≤ 70000) (hL2 : L.length ≤ 70000) (k : Int) (h0 : k < 0 ∨ (L.length : Int) ≤ k) :
    Calls Try.prog 15 #[.pointer (some ⟨b, 0, none⟩), .int .i64 k] w fun e w' => e = .returned (.tuple #[.agg #[.int .i64 0, .int .i64 0], .int .i64 0, .int .i64 5]) ∧ Below w.heap.size w w' := by
  have c1 := h.c2
  have hb := h.bl
  clear h
  generalize L.length = len at *
  rcases h0 with h0 | h0
  · go_enter Try.func15, Try.ntmps15
    go_wp2_with fail
    exact bodyPost_ret (v := .tuple #[.agg #[.int .i64 0, .int .i64 0], .int .i64 0, .int .i64 5]) (by simp [results, Try.results15, go_sem, *]) rfl ⟨rfl, (Below.refl _ w).alloc (Nat.le_refl _) _⟩
  · have d1 : decide (k < 0) = false := by simp <;> omega
    go_enter Try.func15, Try.ntmps15
    go_wp2_with fail
    exact bodyPost_ret (v := .tuple #[.agg #[.int .i64 0, .int .i64 0], .int .i64 0, .int .i64 5]) (by simp [results, Try.results15, go_sem, *]) rfl ⟨rfl, (Below.refl _ w).alloc (Nat.le_refl _) _⟩
theorem below_dr {B : Nat} (w : World) (n : Nat) : Below B w (w.drewN n) := ⟨rfl, rfl, rfl, Nat.le_refl _, fun _ _ => rfl⟩
theorem line_bad {w : World} {b : Nat} {s : ByteArray} {P : List Pl} {L : List Ln} {pb pc lb lc : Nat} (h : IsMap w b s P L pb pc lb lc) (hP2 : P.length ≤ 70000) (hL2 : L.length ≤ 70000) (hi : ∀ (k : Nat) (p : Ln), L[k]? = some p → p.i ≤ P.length) (ln c : Int) (h0 : ln < 0 ∨ (0 ≤ ln ∧ (L.length : Int) ≤ ln) ∨ (0 ≤ ln ∧ ln < L.length ∧ c < 0) ∨ (0 ≤ ln ∧ ln < L.length ∧ 0 ≤ c ∧ ∀ p, L[ln.toNat]? = some p → (P.length : Int) - p.i ≤ c)) :
    Calls Try.prog 20 #[.pointer (some ⟨b, 0, none⟩), .int .i64 ln, .int .i64 c] w fun e w' => e = .returned (.tuple #[.agg #[.int .i64 0, .int .i64 0, .int .i64 0, .int .i64 0, .int .i64 0], .int .i64 5]) ∧ Below w.heap.size w w' := by
  have c1 := h.c1
  have c2 := h.c2
  have hb := h.bl
  rcases h0 with h0 | ⟨h0, h1⟩ | ⟨h0, h1, h2⟩ | ⟨h0, h1, h2, h3⟩
  · clear h hi
    generalize P.length = len at *
    generalize L.length = lem at *
    go_enter Try.func20, Try.ntmps20
    go_wp2_with fail
    go_quiet (fail)
    go_wp2_with fail
    exact bodyPost_ret (v := .tuple #[.agg #[.int .i64 0, .int .i64 0, .int .i64 0, .int .i64 0, .int .i64 0], .int .i64 5]) (by simp [results, Try.results20, go_sem, *]) rfl ⟨rfl, (((((((Below.refl _ w).alloc (Nat.le_refl _) _).trans (below_dr _ _)).setCell (by simp) _).setCell (by simp) _).setCell (by simp) _).setCell (by simp) _).setCell (by simp) _⟩
  · clear h hi
    generalize P.length = len at *
    generalize L.length = lem at *
    have d1 : decide (ln < 0) = false := by simp <;> omega
    go_enter Try.func20, Try.ntmps20
    go_wp2_with fail
    go_quiet (fail)
    go_wp2_with fail
    exact bodyPost_ret (v := .tuple #[.agg #[.int .i64 0, .int .i64 0, .int .i64 0, .int .i64 0, .int .i64 0], .int .i64 5]) (by simp [results, Try.results20, go_sem, *]) rfl ⟨rfl, (((((((Below.refl _ w).alloc (Nat.le_refl _) _).trans (below_dr _ _)).setCell (by simp) _).setCell (by simp) _).setCell (by simp) _).setCell (by simp) _).setCell (by simp) _⟩
  · clear h hi
    generalize P.length = len at *
    generalize L.length = lem at *
    have d1 : decide (ln < 0) = false := by simp <;> omega
    have d2 : decide ((lem : Int) ≤ ln) = false := by simp <;> omega
    go_enter Try.func20, Try.ntmps20
    go_wp2_with fail
    go_quiet (fail)
    go_wp2_with fail
    exact bodyPost_ret (v := .tuple #[.agg #[.int .i64 0, .int .i64 0, .int .i64 0, .int .i64 0, .int .i64 0], .int .i64 5]) (by simp [results, Try.results20, go_sem, *]) rfl ⟨rfl, (((((((Below.refl _ w).alloc (Nat.le_refl _) _).trans (below_dr _ _)).setCell (by simp) _).setCell (by simp) _).setCell (by simp) _).setCell (by simp) _).setCell (by simp) _⟩
  · obtain ⟨n, rfl⟩ := Int.eq_ofNat_of_zero_le h0
    rw [Int.toNat_natCast] at h3
    obtain ⟨p, hp⟩ : ∃ p, L[n]? = some p := ⟨_, List.getElem?_eq_getElem (by omega)⟩
    have h4 := h3 p hp
    have h5 := hi n p hp
    clear hi
    obtain ⟨q0, q1, q2, q3⟩ := h.hl n p hp
    have hlb : lb < w.heap.size := World.block_lt_of_cell? w _ q0
    clear h h3 hp
    generalize P.length = len at *
    generalize L.length = lem at *
    have d1 : decide ((n : Int) < 0) = false := by simp <;> omega
    have d2 : decide ((lem : Int) ≤ n) = false := by simp <;> omega
    have d6 : decide (lem ≤ n) = false := by simp <;> omega
    have d7 : n < lem := by omega
    have d3 : decide (c < 0) = false := by simp <;> omega
    have d4 : IntKind.i64.wrap ((len : Int) - p.i) = (len : Int) - p.i := IntWalk.i64_in _ (by omega)
    have d5 : decide ((len : Int) - p.i ≤ c) = true := by simp <;> omega
    have e1 : (0 : Int) ≤ n := by omega
    have e2 : (n : Int) < lem := by omega
    go_enter Try.func20, Try.ntmps20
    go_wp2_with fail
    go_quiet (fail)
    go_wp2_with fail
    exact bodyPost_ret (v := .tuple #[.agg #[.int .i64 0, .int .i64 0, .int .i64 0, .int .i64 0, .int .i64 0], .int .i64 5]) (by simp [results, Try.results20, go_sem, *]) rfl ⟨rfl, (((((((Below.refl _ w).alloc (Nat.le_refl _) _).trans (below_dr _ _)).setCell (by simp) _).setCell (by simp) _).setCell (by simp) _).setCell (by simp) _).setCell (by simp) _⟩
set_option maxHeartbeats 2000000 in
theorem line_in {w : World} {b : Nat} {s : ByteArray} {P : List Pl} {L : List Ln} {pb pc lb lc : Nat} (h : IsMap w b s P L pb pc lb lc) (hP2 : P.length ≤ 70000) (hL2 : L.length ≤ 70000) (ln c : Int) (h0 : 0 ≤ ln) (h1 : 0 ≤ c) (p : Ln) (hp : L[ln.toNat]? = some p) (h2 : c < (P.length : Int) - p.i) (q : Pl) (hq : P[p.i + c.toNat]? = some q) (v : Value) (r : Int) (hv : (q.l : Int) = ln ∧ v = .agg #[.int .i64 q.b, .int .i64 q.r, .int .i64 q.u, .int .i64 q.l, .int .i64 q.c] ∧ r = 0 ∨ (q.l : Int) ≠ ln ∧ v = .agg #[.int .i64 0, .int .i64 0, .int .i64 0, .int .i64 0, .int .i64 0] ∧ r = 5) :
    Calls Try.prog 20 #[.pointer (some ⟨b, 0, none⟩), .int .i64 ln, .int .i64 c] w fun e w' => e = .returned (.tuple #[v, .int .i64 r]) ∧ Below w.heap.size w w' := by
  obtain ⟨n, rfl⟩ := Int.eq_ofNat_of_zero_le h0
  obtain ⟨d, rfl⟩ := Int.eq_ofNat_of_zero_le h1
  rw [Int.toNat_natCast] at hp hq
  have c1 := h.c1
  have c2 := h.c2
  have hb := h.bl
  have hn : n < L.length := (List.getElem?_eq_some_iff.1 hp).1
  have hm : p.i + d < P.length := (List.getElem?_eq_some_iff.1 hq).1
  obtain ⟨q0, q1, q2, q3⟩ := h.hl n p hp
  obtain ⟨r0, r1, r2, r3, r4⟩ := h.hp _ q hq
  have hpb : pb < w.heap.size := World.block_lt_of_cell? w _ r0
  have hlb : lb < w.heap.size := World.block_lt_of_cell? w _ q0
  clear h hp hq
  generalize P.length = len at *
  generalize L.length = lem at *
  have d1 : decide ((n : Int) < 0) = false := by simp <;> omega
  have d2 : decide ((lem : Int) ≤ n) = false := by simp <;> omega
  have d3 : decide ((d : Int) < 0) = false := by simp <;> omega
  have d4 : IntKind.i64.wrap ((len : Int) - p.i) = (len : Int) - p.i := IntWalk.i64_in _ (by omega)
  have d5 : decide ((len : Int) - p.i ≤ d) = false := by simp <;> omega
  have e1 : (0 : Int) ≤ n := by omega
  have e2 : (n : Int) < lem := by omega
  have e3 : IntKind.i64.wrap ((p.i : Int) + d) = (p.i : Int) + d := IntWalk.i64_in _ (by omega)
  have e4 : (0 : Int) ≤ (p.i : Int) + d := by omega
  have e5 : (p.i : Int) + d < len := by omega
  have e6 : ((p.i : Int) + d).toNat = p.i + d := by omega
  rcases hv with ⟨hv, rfl, rfl⟩ | ⟨hv, rfl, rfl⟩
  · have f1 : ((q.l : Int) != n) = false := by simp <;> omega
    clear hv
    go_enter Try.func20, Try.ntmps20
    go_wp2_with fail
    go_quiet (fail)
    go_wp2_with fail
    go_region
    go_wp2_with fail
    exact bodyPost_ret (v := .tuple #[.agg #[.int .i64 q.b, .int .i64 q.r, .int .i64 q.u, .int .i64 q.l, .int .i64 q.c], .int .i64 0]) (by simp [results, Try.results20, go_sem, *]) rfl ⟨rfl, ((((((((Below.refl _ w).alloc (Nat.le_refl _) _).trans (below_dr _ _)).setCell (by simp) _).setCell (by simp) _).setCell (by simp) _).setCell (by simp) _).setCell (by simp) _).alloc (by simp) _⟩
  · have f1 : ((q.l : Int) != n) = true := by simp <;> omega
    clear hv
    go_enter Try.func20, Try.ntmps20
    go_wp2_with fail
    go_quiet (fail)
    go_wp2_with fail
    go_region
    go_wp2_with fail
    exact bodyPost_ret (v := .tuple #[.agg #[.int .i64 0, .int .i64 0, .int .i64 0, .int .i64 0, .int .i64 0], .int .i64 5]) (by simp [results, Try.results20, go_sem, *]) rfl ⟨rfl, ((((((((Below.refl _ w).alloc (Nat.le_refl _) _).trans (below_dr _ _)).setCell (by simp) _).setCell (by simp) _).setCell (by simp) _).setCell (by simp) _).setCell (by simp) _).alloc (by simp) _⟩
end Go.Proofs.Ytkobfjiadfedlaa
