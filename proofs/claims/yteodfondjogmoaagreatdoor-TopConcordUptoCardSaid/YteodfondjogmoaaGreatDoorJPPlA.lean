/- The data of the map of a text's places (package place) in memory, and the contracts of its small readers. Conditions: none beyond each theorem's own. -/
import Derived.Test.YteodfondjogmoaaGreatDoorProg
import Derived.WalkKit
import Derived.WalkSpells
import Derived.WalkLawsBesides
import Derived.Deep.QuietTactic
import Derived.BigQuiet
import Derived.Deep.RegionHeld3
import Derived.Deep.RegionLawGrows
import Derived.StillTailTactics
import Derived.StillTail
import Derived.Deep.Quiet
import Derived.Below
namespace Go.Proofs.YteodfondjogmoaaGreatDoor.P
open Go.RowKit


theorem still_tail {Pr : Program} {id : Nat} {Q : Exit → Act → World → Prop} {a : Act} {w : World} {l : List Oper} (n : Nat) (hm : Pr.follows .mixedOrders = true) (hB : Region.lexTailB .any l.toArray n = true)
    (h : wpStill Pr l.toArray w.drew (fun a' => wpList Pr l.toArray Q (l.drop n) a' w.drew) (l.take n) a) : (Code.region id l.toArray true).wp Pr Q a w := wp_region_still_tail n hm hB h
structure Pl where
  b : Nat
  r : Nat
  u : Nat
  l : Nat
  c : Nat
structure Ln where
  f : Nat
  t : Nat
  e : Nat
  i : Nat
def Pl.cells (p : Pl) : List Value := [.int .i64 p.b, .int .i64 p.r, .int .i64 p.u, .int .i64 p.l, .int .i64 p.c]
def Ln.cells (p : Ln) : List Value := [.int .i64 p.f, .int .i64 p.t, .int .i64 p.e, .int .i64 p.i]
def Pl.val (p : Pl) : Value := .agg #[.int .i64 p.b, .int .i64 p.r, .int .i64 p.u, .int .i64 p.l, .int .i64 p.c]


def PlAt (w : World) (a k : Nat) (p : Pl) : Prop := w.cell? ⟨a, k * 5, none⟩ = some (.int .i64 p.b) ∧ w.cell? ⟨a, k * 5 + 1, none⟩ = some (.int .i64 p.r) ∧ w.cell? ⟨a, k * 5 + 2, none⟩ = some (.int .i64 p.u) ∧ w.cell? ⟨a, k * 5 + 3, none⟩ = some (.int .i64 p.l) ∧ w.cell? ⟨a, k * 5 + 4, none⟩ = some (.int .i64 p.c)
def LnAt (w : World) (a k : Nat) (p : Ln) : Prop := w.cell? ⟨a, k * 4, none⟩ = some (.int .i64 p.f) ∧ w.cell? ⟨a, k * 4 + 1, none⟩ = some (.int .i64 p.t) ∧ w.cell? ⟨a, k * 4 + 2, none⟩ = some (.int .i64 p.e) ∧ w.cell? ⟨a, k * 4 + 3, none⟩ = some (.int .i64 p.i)
/-- a map of a text in memory -/
structure IsMap (w : World) (b : Nat) (s : ByteArray) (P : List Pl) (L : List Ln) (pb pc lb lc : Nat) : Prop where
  hm : w.heap[b]? = some (.cells #[.string s, .slice (some ⟨pb, 0, none⟩) P.length pc, .slice (some ⟨lb, 0, none⟩) L.length lc] 217 (0, 0))
  hp : ∀ k p, P[k]? = some p → PlAt w pb k p
  hl : ∀ k p, L[k]? = some p → LnAt w lb k p
section
variable {w : World} {b : Nat} {s : ByteArray} {P : List Pl} {L : List Ln} {pb pc lb lc : Nat}
theorem IsMap.c0 (h : IsMap w b s P L pb pc lb lc) : w.cell? ⟨b, 0, none⟩ = some (.string s) := by
  simp [World.cell?, h.hm]
theorem IsMap.c1 (h : IsMap w b s P L pb pc lb lc) : w.cell? ⟨b, 1, none⟩ = some (.slice (some ⟨pb, 0, none⟩) P.length pc) := by
  simp [World.cell?, h.hm]
theorem IsMap.c2 (h : IsMap w b s P L pb pc lb lc) : w.cell? ⟨b, 2, none⟩ = some (.slice (some ⟨lb, 0, none⟩) L.length lc) := by
  simp [World.cell?, h.hm]
theorem IsMap.bl (h : IsMap w b s P L pb pc lb lc) : b < w.heap.size := (Array.getElem?_eq_some_iff.1 h.hm).1

theorem lines_any (h : IsMap w b s P L pb pc lb lc) :
    Calls Tryz.prog 85 #[.pointer (some ⟨b, 0, none⟩)] w fun e w' => e = .returned (.int .i64 L.length) ∧ w = w' := by
  have h0 := h.c2
  clear h
  go_enter Tryz.func85, Tryz.ntmps85
  go_wp2
  go_ret
  exact ⟨rfl, rfl⟩
end


end Go.Proofs.YteodfondjogmoaaGreatDoor.P
/- The readers of a map of a text's places that search: sort.Search and the closures handed to it. Conditions: none beyond each theorem's own. -/
namespace Go.Proofs.YteodfondjogmoaaGreatDoor.P
open Go.RowKit
set_option linter.unusedVariables false
set_option linter.unusedSimpArgs false
theorem keeps {W w' : World} (hb : Below W.heap.size W w') {a : Addr} {v : Value} (h : W.cell? a = some v) : w'.cell? a = some v := (hb.cell (World.block_lt_of_cell? W _ h)).trans h
theorem keep1 {W w' w : World} (hb : Below W.heap.size W w') {a1 : Addr} {v1 : Value}
    (h : W.cell? a1 = some v1 ∧ Below w.heap.size w W) : w'.cell? a1 = some v1 ∧ Below w.heap.size w w' := by
  obtain ⟨h1, h'⟩ := h
  exact ⟨keeps hb h1, h'.trans (hb.mono h'.size)⟩

theorem keep2 {W w' w : World} (hb : Below W.heap.size W w') {a1 a2 : Addr} {v1 v2 : Value}
    (h : W.cell? a1 = some v1 ∧ W.cell? a2 = some v2 ∧ Below w.heap.size w W) : w'.cell? a1 = some v1 ∧ w'.cell? a2 = some v2 ∧ Below w.heap.size w w' := by
  obtain ⟨h1, h2, h'⟩ := h
  exact ⟨keeps hb h1, keeps hb h2, h'.trans (hb.mono h'.size)⟩

theorem keep3 {W w' w : World} (hb : Below W.heap.size W w') {a1 a2 a3 : Addr} {v1 v2 v3 : Value}
    (h : W.cell? a1 = some v1 ∧ W.cell? a2 = some v2 ∧ W.cell? a3 = some v3 ∧ Below w.heap.size w W) : w'.cell? a1 = some v1 ∧ w'.cell? a2 = some v2 ∧ w'.cell? a3 = some v3 ∧ Below w.heap.size w w' := by
  obtain ⟨h1, h2, h3, h'⟩ := h
  exact ⟨keeps hb h1, keeps hb h2, keeps hb h3, h'.trans (hb.mono h'.size)⟩

theorem keep4 {W w' w : World} (hb : Below W.heap.size W w') {a1 a2 a3 a4 : Addr} {v1 v2 v3 v4 : Value}
    (h : W.cell? a1 = some v1 ∧ W.cell? a2 = some v2 ∧ W.cell? a3 = some v3 ∧ W.cell? a4 = some v4 ∧ Below w.heap.size w W) : w'.cell? a1 = some v1 ∧ w'.cell? a2 = some v2 ∧ w'.cell? a3 = some v3 ∧ w'.cell? a4 = some v4 ∧ Below w.heap.size w w' := by
  obtain ⟨h1, h2, h3, h4, h'⟩ := h
  exact ⟨keeps hb h1, keeps hb h2, keeps hb h3, keeps hb h4, h'.trans (hb.mono h'.size)⟩

theorem keep5 {W w' w : World} (hb : Below W.heap.size W w') {a1 a2 a3 a4 a5 : Addr} {v1 v2 v3 v4 v5 : Value}
    (h : W.cell? a1 = some v1 ∧ W.cell? a2 = some v2 ∧ W.cell? a3 = some v3 ∧ W.cell? a4 = some v4 ∧ W.cell? a5 = some v5 ∧ Below w.heap.size w W) : w'.cell? a1 = some v1 ∧ w'.cell? a2 = some v2 ∧ w'.cell? a3 = some v3 ∧ w'.cell? a4 = some v4 ∧ w'.cell? a5 = some v5 ∧ Below w.heap.size w w' := by
  obtain ⟨h1, h2, h3, h4, h5, h'⟩ := h
  exact ⟨keeps hb h1, keeps hb h2, keeps hb h3, keeps hb h4, keeps hb h5, h'.trans (hb.mono h'.size)⟩

theorem keep6 {W w' w : World} (hb : Below W.heap.size W w') {a1 a2 a3 a4 a5 a6 : Addr} {v1 v2 v3 v4 v5 v6 : Value}
    (h : W.cell? a1 = some v1 ∧ W.cell? a2 = some v2 ∧ W.cell? a3 = some v3 ∧ W.cell? a4 = some v4 ∧ W.cell? a5 = some v5 ∧ W.cell? a6 = some v6 ∧ Below w.heap.size w W) : w'.cell? a1 = some v1 ∧ w'.cell? a2 = some v2 ∧ w'.cell? a3 = some v3 ∧ w'.cell? a4 = some v4 ∧ w'.cell? a5 = some v5 ∧ w'.cell? a6 = some v6 ∧ Below w.heap.size w w' := by
  obtain ⟨h1, h2, h3, h4, h5, h6, h'⟩ := h
  exact ⟨keeps hb h1, keeps hb h2, keeps hb h3, keeps hb h4, keeps hb h5, keeps hb h6, h'.trans (hb.mono h'.size)⟩

theorem keep7 {W w' w : World} (hb : Below W.heap.size W w') {a1 a2 a3 a4 a5 a6 a7 : Addr} {v1 v2 v3 v4 v5 v6 v7 : Value}
    (h : W.cell? a1 = some v1 ∧ W.cell? a2 = some v2 ∧ W.cell? a3 = some v3 ∧ W.cell? a4 = some v4 ∧ W.cell? a5 = some v5 ∧ W.cell? a6 = some v6 ∧ W.cell? a7 = some v7 ∧ Below w.heap.size w W) : w'.cell? a1 = some v1 ∧ w'.cell? a2 = some v2 ∧ w'.cell? a3 = some v3 ∧ w'.cell? a4 = some v4 ∧ w'.cell? a5 = some v5 ∧ w'.cell? a6 = some v6 ∧ w'.cell? a7 = some v7 ∧ Below w.heap.size w w' := by
  obtain ⟨h1, h2, h3, h4, h5, h6, h7, h'⟩ := h
  exact ⟨keeps hb h1, keeps hb h2, keeps hb h3, keeps hb h4, keeps hb h5, keeps hb h6, keeps hb h7, h'.trans (hb.mono h'.size)⟩

theorem keep8 {W w' w : World} (hb : Below W.heap.size W w') {a1 a2 a3 a4 a5 a6 a7 a8 : Addr} {v1 v2 v3 v4 v5 v6 v7 v8 : Value}
    (h : W.cell? a1 = some v1 ∧ W.cell? a2 = some v2 ∧ W.cell? a3 = some v3 ∧ W.cell? a4 = some v4 ∧ W.cell? a5 = some v5 ∧ W.cell? a6 = some v6 ∧ W.cell? a7 = some v7 ∧ W.cell? a8 = some v8 ∧ Below w.heap.size w W) : w'.cell? a1 = some v1 ∧ w'.cell? a2 = some v2 ∧ w'.cell? a3 = some v3 ∧ w'.cell? a4 = some v4 ∧ w'.cell? a5 = some v5 ∧ w'.cell? a6 = some v6 ∧ w'.cell? a7 = some v7 ∧ w'.cell? a8 = some v8 ∧ Below w.heap.size w w' := by
  obtain ⟨h1, h2, h3, h4, h5, h6, h7, h8, h'⟩ := h
  exact ⟨keeps hb h1, keeps hb h2, keeps hb h3, keeps hb h4, keeps hb h5, keeps hb h6, keeps hb h7, keeps hb h8, h'.trans (hb.mono h'.size)⟩

theorem keep9 {W w' w : World} (hb : Below W.heap.size W w') {a1 a2 a3 a4 a5 a6 a7 a8 a9 : Addr} {v1 v2 v3 v4 v5 v6 v7 v8 v9 : Value}
    (h : W.cell? a1 = some v1 ∧ W.cell? a2 = some v2 ∧ W.cell? a3 = some v3 ∧ W.cell? a4 = some v4 ∧ W.cell? a5 = some v5 ∧ W.cell? a6 = some v6 ∧ W.cell? a7 = some v7 ∧ W.cell? a8 = some v8 ∧ W.cell? a9 = some v9 ∧ Below w.heap.size w W) : w'.cell? a1 = some v1 ∧ w'.cell? a2 = some v2 ∧ w'.cell? a3 = some v3 ∧ w'.cell? a4 = some v4 ∧ w'.cell? a5 = some v5 ∧ w'.cell? a6 = some v6 ∧ w'.cell? a7 = some v7 ∧ w'.cell? a8 = some v8 ∧ w'.cell? a9 = some v9 ∧ Below w.heap.size w w' := by
  obtain ⟨h1, h2, h3, h4, h5, h6, h7, h8, h9, h'⟩ := h
  exact ⟨keeps hb h1, keeps hb h2, keeps hb h3, keeps hb h4, keeps hb h5, keeps hb h6, keeps hb h7, keeps hb h8, keeps hb h9, h'.trans (hb.mono h'.size)⟩

theorem keep10 {W w' w : World} (hb : Below W.heap.size W w') {a1 a2 a3 a4 a5 a6 a7 a8 a9 a10 : Addr} {v1 v2 v3 v4 v5 v6 v7 v8 v9 v10 : Value}
    (h : W.cell? a1 = some v1 ∧ W.cell? a2 = some v2 ∧ W.cell? a3 = some v3 ∧ W.cell? a4 = some v4 ∧ W.cell? a5 = some v5 ∧ W.cell? a6 = some v6 ∧ W.cell? a7 = some v7 ∧ W.cell? a8 = some v8 ∧ W.cell? a9 = some v9 ∧ W.cell? a10 = some v10 ∧ Below w.heap.size w W) : w'.cell? a1 = some v1 ∧ w'.cell? a2 = some v2 ∧ w'.cell? a3 = some v3 ∧ w'.cell? a4 = some v4 ∧ w'.cell? a5 = some v5 ∧ w'.cell? a6 = some v6 ∧ w'.cell? a7 = some v7 ∧ w'.cell? a8 = some v8 ∧ w'.cell? a9 = some v9 ∧ w'.cell? a10 = some v10 ∧ Below w.heap.size w w' := by
  obtain ⟨h1, h2, h3, h4, h5, h6, h7, h8, h9, h10, h'⟩ := h
  exact ⟨keeps hb h1, keeps hb h2, keeps hb h3, keeps hb h4, keeps hb h5, keeps hb h6, keeps hb h7, keeps hb h8, keeps hb h9, keeps hb h10, h'.trans (hb.mono h'.size)⟩

theorem keep11 {W w' w : World} (hb : Below W.heap.size W w') {a1 a2 a3 a4 a5 a6 a7 a8 a9 a10 a11 : Addr} {v1 v2 v3 v4 v5 v6 v7 v8 v9 v10 v11 : Value}
    (h : W.cell? a1 = some v1 ∧ W.cell? a2 = some v2 ∧ W.cell? a3 = some v3 ∧ W.cell? a4 = some v4 ∧ W.cell? a5 = some v5 ∧ W.cell? a6 = some v6 ∧ W.cell? a7 = some v7 ∧ W.cell? a8 = some v8 ∧ W.cell? a9 = some v9 ∧ W.cell? a10 = some v10 ∧ W.cell? a11 = some v11 ∧ Below w.heap.size w W) : w'.cell? a1 = some v1 ∧ w'.cell? a2 = some v2 ∧ w'.cell? a3 = some v3 ∧ w'.cell? a4 = some v4 ∧ w'.cell? a5 = some v5 ∧ w'.cell? a6 = some v6 ∧ w'.cell? a7 = some v7 ∧ w'.cell? a8 = some v8 ∧ w'.cell? a9 = some v9 ∧ w'.cell? a10 = some v10 ∧ w'.cell? a11 = some v11 ∧ Below w.heap.size w w' := by
  obtain ⟨h1, h2, h3, h4, h5, h6, h7, h8, h9, h10, h11, h'⟩ := h
  exact ⟨keeps hb h1, keeps hb h2, keeps hb h3, keeps hb h4, keeps hb h5, keeps hb h6, keeps hb h7, keeps hb h8, keeps hb h9, keeps hb h10, keeps hb h11, h'.trans (hb.mono h'.size)⟩

theorem keep12 {W w' w : World} (hb : Below W.heap.size W w') {a1 a2 a3 a4 a5 a6 a7 a8 a9 a10 a11 a12 : Addr} {v1 v2 v3 v4 v5 v6 v7 v8 v9 v10 v11 v12 : Value}
    (h : W.cell? a1 = some v1 ∧ W.cell? a2 = some v2 ∧ W.cell? a3 = some v3 ∧ W.cell? a4 = some v4 ∧ W.cell? a5 = some v5 ∧ W.cell? a6 = some v6 ∧ W.cell? a7 = some v7 ∧ W.cell? a8 = some v8 ∧ W.cell? a9 = some v9 ∧ W.cell? a10 = some v10 ∧ W.cell? a11 = some v11 ∧ W.cell? a12 = some v12 ∧ Below w.heap.size w W) : w'.cell? a1 = some v1 ∧ w'.cell? a2 = some v2 ∧ w'.cell? a3 = some v3 ∧ w'.cell? a4 = some v4 ∧ w'.cell? a5 = some v5 ∧ w'.cell? a6 = some v6 ∧ w'.cell? a7 = some v7 ∧ w'.cell? a8 = some v8 ∧ w'.cell? a9 = some v9 ∧ w'.cell? a10 = some v10 ∧ w'.cell? a11 = some v11 ∧ w'.cell? a12 = some v12 ∧ Below w.heap.size w w' := by
  obtain ⟨h1, h2, h3, h4, h5, h6, h7, h8, h9, h10, h11, h12, h'⟩ := h
  exact ⟨keeps hb h1, keeps hb h2, keeps hb h3, keeps hb h4, keeps hb h5, keeps hb h6, keeps hb h7, keeps hb h8, keeps hb h9, keeps hb h10, keeps hb h11, keeps hb h12, h'.trans (hb.mono h'.size)⟩

theorem keep13 {W w' w : World} (hb : Below W.heap.size W w') {a1 a2 a3 a4 a5 a6 a7 a8 a9 a10 a11 a12 a13 : Addr} {v1 v2 v3 v4 v5 v6 v7 v8 v9 v10 v11 v12 v13 : Value}
    (h : W.cell? a1 = some v1 ∧ W.cell? a2 = some v2 ∧ W.cell? a3 = some v3 ∧ W.cell? a4 = some v4 ∧ W.cell? a5 = some v5 ∧ W.cell? a6 = some v6 ∧ W.cell? a7 = some v7 ∧ W.cell? a8 = some v8 ∧ W.cell? a9 = some v9 ∧ W.cell? a10 = some v10 ∧ W.cell? a11 = some v11 ∧ W.cell? a12 = some v12 ∧ W.cell? a13 = some v13 ∧ Below w.heap.size w W) : w'.cell? a1 = some v1 ∧ w'.cell? a2 = some v2 ∧ w'.cell? a3 = some v3 ∧ w'.cell? a4 = some v4 ∧ w'.cell? a5 = some v5 ∧ w'.cell? a6 = some v6 ∧ w'.cell? a7 = some v7 ∧ w'.cell? a8 = some v8 ∧ w'.cell? a9 = some v9 ∧ w'.cell? a10 = some v10 ∧ w'.cell? a11 = some v11 ∧ w'.cell? a12 = some v12 ∧ w'.cell? a13 = some v13 ∧ Below w.heap.size w w' := by
  obtain ⟨h1, h2, h3, h4, h5, h6, h7, h8, h9, h10, h11, h12, h13, h'⟩ := h
  exact ⟨keeps hb h1, keeps hb h2, keeps hb h3, keeps hb h4, keeps hb h5, keeps hb h6, keeps hb h7, keeps hb h8, keeps hb h9, keeps hb h10, keeps hb h11, keeps hb h12, keeps hb h13, h'.trans (hb.mono h'.size)⟩

theorem keep14 {W w' w : World} (hb : Below W.heap.size W w') {a1 a2 a3 a4 a5 a6 a7 a8 a9 a10 a11 a12 a13 a14 : Addr} {v1 v2 v3 v4 v5 v6 v7 v8 v9 v10 v11 v12 v13 v14 : Value}
    (h : W.cell? a1 = some v1 ∧ W.cell? a2 = some v2 ∧ W.cell? a3 = some v3 ∧ W.cell? a4 = some v4 ∧ W.cell? a5 = some v5 ∧ W.cell? a6 = some v6 ∧ W.cell? a7 = some v7 ∧ W.cell? a8 = some v8 ∧ W.cell? a9 = some v9 ∧ W.cell? a10 = some v10 ∧ W.cell? a11 = some v11 ∧ W.cell? a12 = some v12 ∧ W.cell? a13 = some v13 ∧ W.cell? a14 = some v14 ∧ Below w.heap.size w W) : w'.cell? a1 = some v1 ∧ w'.cell? a2 = some v2 ∧ w'.cell? a3 = some v3 ∧ w'.cell? a4 = some v4 ∧ w'.cell? a5 = some v5 ∧ w'.cell? a6 = some v6 ∧ w'.cell? a7 = some v7 ∧ w'.cell? a8 = some v8 ∧ w'.cell? a9 = some v9 ∧ w'.cell? a10 = some v10 ∧ w'.cell? a11 = some v11 ∧ w'.cell? a12 = some v12 ∧ w'.cell? a13 = some v13 ∧ w'.cell? a14 = some v14 ∧ Below w.heap.size w w' := by
  obtain ⟨h1, h2, h3, h4, h5, h6, h7, h8, h9, h10, h11, h12, h13, h14, h'⟩ := h
  exact ⟨keeps hb h1, keeps hb h2, keeps hb h3, keeps hb h4, keeps hb h5, keeps hb h6, keeps hb h7, keeps hb h8, keeps hb h9, keeps hb h10, keeps hb h11, keeps hb h12, keeps hb h13, keeps hb h14, h'.trans (hb.mono h'.size)⟩

theorem keep15 {W w' w : World} (hb : Below W.heap.size W w') {a1 a2 a3 a4 a5 a6 a7 a8 a9 a10 a11 a12 a13 a14 a15 : Addr} {v1 v2 v3 v4 v5 v6 v7 v8 v9 v10 v11 v12 v13 v14 v15 : Value}
    (h : W.cell? a1 = some v1 ∧ W.cell? a2 = some v2 ∧ W.cell? a3 = some v3 ∧ W.cell? a4 = some v4 ∧ W.cell? a5 = some v5 ∧ W.cell? a6 = some v6 ∧ W.cell? a7 = some v7 ∧ W.cell? a8 = some v8 ∧ W.cell? a9 = some v9 ∧ W.cell? a10 = some v10 ∧ W.cell? a11 = some v11 ∧ W.cell? a12 = some v12 ∧ W.cell? a13 = some v13 ∧ W.cell? a14 = some v14 ∧ W.cell? a15 = some v15 ∧ Below w.heap.size w W) : w'.cell? a1 = some v1 ∧ w'.cell? a2 = some v2 ∧ w'.cell? a3 = some v3 ∧ w'.cell? a4 = some v4 ∧ w'.cell? a5 = some v5 ∧ w'.cell? a6 = some v6 ∧ w'.cell? a7 = some v7 ∧ w'.cell? a8 = some v8 ∧ w'.cell? a9 = some v9 ∧ w'.cell? a10 = some v10 ∧ w'.cell? a11 = some v11 ∧ w'.cell? a12 = some v12 ∧ w'.cell? a13 = some v13 ∧ w'.cell? a14 = some v14 ∧ w'.cell? a15 = some v15 ∧ Below w.heap.size w w' := by
  obtain ⟨h1, h2, h3, h4, h5, h6, h7, h8, h9, h10, h11, h12, h13, h14, h15, h'⟩ := h
  exact ⟨keeps hb h1, keeps hb h2, keeps hb h3, keeps hb h4, keeps hb h5, keeps hb h6, keeps hb h7, keeps hb h8, keeps hb h9, keeps hb h10, keeps hb h11, keeps hb h12, keeps hb h13, keeps hb h14, keeps hb h15, h'.trans (hb.mono h'.size)⟩

theorem hid {p : Prop} (h : p) : Hid p := h
end Go.Proofs.YteodfondjogmoaaGreatDoor.P
/- A region of code that draws its order, whose first n operations read or call what only makes new memory, and whose last ones stand in one forced order: it is enough to walk it once, in the text's order. Conditions: the program follows mixed orders; the order of the region passes the check lexTailB. -/
namespace Go.Proofs.YteodfondjogmoaaGreatDoor.P
open Go Go.RowKit
set_option linter.unusedVariables false
section
variable {P : Program} {ops : Array Oper} {C : World → Prop} {n : Nat}

/-- Whatever order is drawn, till all of the first n operations have come up. -/
def AnyHead (P : Program) (ops : Array Oper) (C : World → Prop) (n : Nat) (E : Array Bool → Act → Prop) : Nat → Array Bool → Act → Prop
  | 0, T, a => E T a
  | f + 1, T, a => (Region.ready .any ops T ≠ [] ∧ ∀ i, i ∈ Region.ready .any ops T → i < n) ∧
      ∀ i, i ∈ Region.ready .any ops T → qOp P ops C i (AnyHead P ops C n E f (T.setIfInBounds i true)) a

theorem AnyHead.sound {E : Array Bool → Act → Prop} {Q : Exit → Act → World → Prop} {g : Nat}
    (hE : ∀ T a w, C w → E T a → wpAny P .any ops Q g T a w) (f : Nat) :
    ∀ T a w, C w → AnyHead P ops C n E f T a → wpAny P .any ops Q (g + f) T a w := by
  induction f with
  | zero => exact fun T a w hw h => hE T a w hw h
  | succ f ih =>
    intro T a w hw h
    refine ⟨fun h0 => absurd h0 h.1.1, fun i hi => ?_⟩
    exact wpOp_of_qOp hw (fun a' w' hw' h' => ih _ a' w' hw' h') (h.2 i hi)

/-- A quiet operation that may come up now may as well come first. -/
theorem AnyHead.first {E : Array Bool → Act → Prop} (hsel : Region.noSelect ops = true) (hs : Region.sinkB .any ops n = true) (hc : Region.chainB .any ops n = true) (hn : n < ops.size)
    (hE : ∀ T a, E T a → ∀ j, j ∈ Region.ready .any ops T → n ≤ j) {i : Nat} {o : Oper} {v : Value} (ho : ops[i]? = some o) (hin : i < n) (f : Nat) :
    ∀ T a, HeadInv .any ops n T → i ∈ Region.ready .any ops T →
      (∀ j x, ops[j]? = some x → j ≠ i → T.getD j true = false → (∀ e ∈ x.after, Region.binds .any e = true → e.on ≠ i) → o.apart ops x = true) →
      YieldsIn P ops C o v a → AnyHead P ops C n E f (T.setIfInBounds i true) (a.put o.dst v) → AnyHead P ops C n E (f + 1) T a := by
  have nosel := Region.noSelect_spec hsel
  induction f with
  | zero =>
    intro T a inv hi hap hy h
    have hlt : ∀ j, j ∈ Region.ready .any ops T → j < n := fun j hj =>
      Nat.lt_of_not_le fun hnj => tail_waits hs hc hn inv _ i rfl hin (mem_ready.1 hi).1 j hnj hj
    refine ⟨⟨fun h0 => by simp [h0] at hi, hlt⟩, fun j hj => ?_⟩
    rcases Nat.decEq j i with hne | rfl
    · exact absurd (hlt j hj) (Nat.not_lt.2 (hE _ _ h j (ready_mono hj hne)))
    · exact hy.qOp ho h
  | succ f ih =>
    intro T a inv hi hap hy h
    have hun := (mem_ready.1 hi).1
    have hlt : ∀ j, j ∈ Region.ready .any ops T → j < n := fun j hj =>
      Nat.lt_of_not_le fun hnj => tail_waits hs hc hn inv _ i rfl hin hun j hnj hj
    refine ⟨⟨fun h0 => by simp [h0] at hi, hlt⟩, fun j hj => ?_⟩
    rcases Nat.decEq j i with hne | rfl
    · obtain ⟨hjun, x, hx, hwait⟩ := mem_ready.1 hj
      have hno : ∀ e ∈ x.after, Region.binds .any e = true → e.on ≠ i := fun e he hb h1 => by
        have h2 := hwait e he hb
        rw [h1, getD_both hun] at h2
        exact Bool.false_ne_true h2
      refine qOp_mono (fun a' h' => ?_) (qOp_put hx (hap j x hx hne hjun hno) (fun cs b => nosel i o cs b ho) (fun cs b => nosel j x cs b hx) hy (h.2 j (ready_mono hj hne)))
      refine ih _ a' (inv.set hj (hlt j hj)) (ready_mono hi (Ne.symm hne)) (fun k y hk hki hkT hky => ?_) h'.1 ?_
      · refine hap k y hk hki ?_ hky
        rcases Nat.decEq j k with hjk | rfl
        · rwa [getD_set_ne true hjk] at hkT
        · exact hjun
      · rw [Array.setIfInBounds_comm _ _ hne]
        exact h'.2
    · exact hy.qOp ho h

theorem AnyHead.text {g : Nat} {L : Act → Prop} (hsel : Region.noSelect ops = true) (hs : Region.sinkB .any ops n = true) (hc : Region.chainB .any ops n = true) (hn : n < ops.size) (l : List Oper) :
    ∀ k T a, (∀ j, j < l.length → ops[k + j]? = l[j]?) → k + l.length = n → HeadInv .any ops n T → Region.lexHead .any ops g l.length k T = true →
      wpQuiet P ops C L l a → AnyHead P ops C n (fun T' a' => Region.seqB .any ops g n T' = true ∧ L a') l.length T a := by
  induction l with
  | nil =>
    intro k T a _ hk _ hB h
    obtain rfl : k = n := hk
    exact ⟨hB, h⟩
  | cons o l ih =>
    intro k T a hl hk inv hB h
    have h0 : ops[k]? = some o := by have := hl 0 (by simp); simpa using this
    simp only [List.length_cons, Region.lexHead, Bool.and_eq_true, List.contains_iff_mem] at hB
    simp only [List.length_cons] at hk
    have hkn : k < n := by omega
    obtain ⟨v, hy, h2⟩ := yieldsIn_of_qOp (P := P) (C := C) h0 (a := a) (K := wpQuiet P ops C L l) (by unfold qOp; rw [h0]; exact h)
    refine AnyHead.first hsel hs hc hn (fun T' a' hT => seqB_ready hT.1) h0 hkn l.length T a inv hB.1.1 (Region.free_spec h0 hB.1.2) hy ?_
    refine ih (k + 1) _ _ (fun j hj => ?_) (by omega) (inv.set hB.1.1 hkn) hB.2 h2
    have := hl (j + 1) (by simp; omega)
    simpa [Nat.add_assoc, Nat.add_comm 1 j] using this
end

/-- THE LAW: a region that draws its order, walked once. -/
theorem quiet_tail {P : Program} {C : World → Prop} {id : Nat} {Q : Exit → Act → World → Prop} {a : Act} {w : World} {l : List Oper} (n : Nat) (hm : P.follows .mixedOrders = true) (hB : Region.lexTailB .any l.toArray n = true) (hC : C w.drew)
    (h : wpQuiet P l.toArray C (fun a' => ∀ w', C w' → wpList P l.toArray Q (l.drop n) a' w') (l.take n) a) : (Code.region id l.toArray true).wp P Q a w := by
  simp only [Region.lexTailB, Bool.and_eq_true, decide_eq_true_eq] at hB
  have hn := hB.1.1.1.2
  have hsz : l.toArray.size = l.length := by simp
  have htl : (l.take n).length = n := by rw [List.length_take]; omega
  have inv : HeadInv .any l.toArray n (Array.replicate l.toArray.size false) :=
    ⟨Array.size_replicate, fun j x _ hT => (by rw [getD_replicate_false] at hT; cases hT), fun t _ ht => getD_in (by rw [Array.size_replicate]; exact ht) (getD_replicate_false _ _)⟩
  have hh := AnyHead.text (P := P) (C := C) (g := l.toArray.size - n) hB.1.1.1.1 hB.1.1.2 hB.1.2 hn (l.take n) 0 (Array.replicate l.toArray.size false) a
    (fun j hj => by rw [htl] at hj; simp [hj]) (by rw [htl]; omega) inv (by rw [htl]; exact hB.2) h
  refine wp_region_any hm ?_
  have h2 := AnyHead.sound (Q := Q) (g := l.toArray.size - n) (fun T a' w' hw' hT => by
    have := wpAny_of_seq (md := .any) (Q' := Q) (l.drop n) n T a' w' (fun j => by simp [List.getElem?_drop]) (by rw [List.length_drop, ← hsz]; exact hT.1) (hT.2 w' hw')
    rwa [List.length_drop, ← hsz] at this) _ _ _ _ hC hh
  rw [htl, show l.toArray.size - n + n = l.toArray.size by omega] at h2
  exact h2

/-- A world to which only new memory has come since w0. -/
structure Ext (w0 : World) where
  w : World
  h : Below w0.heap.size w0 w
theorem Ext.cell {w0 : World} (x : Ext w0) (a : Addr) (h : (w0.cell? a).isSome = true) : x.w.cell? a = w0.cell? a := by
  obtain ⟨v, hv⟩ := Option.isSome_iff_exists.1 h
  exact x.h.cell (World.block_lt_of_cell? w0 a hv)
theorem Ext.froz {w0 : World} (x : Ext w0) (a : Addr) (h : (w0.cell? a).isSome = true) : x.w.frozen? a = w0.frozen? a := by
  obtain ⟨v, hv⟩ := Option.isSome_iff_exists.1 h
  exact x.h.frozen (World.block_lt_of_cell? w0 a hv)
def Ext.start (w : World) : Ext w := ⟨w.drew, (Below.refl _ _).drew⟩
instance (w : World) : Nonempty (Ext w) := ⟨Ext.start w⟩
theorem Ext.call {P : Program} {f : FuncId} {args : Array Value} {w0 : World} {x : Ext w0} {v : Value} (h : Calls P f args x.w fun e w' => e = .returned v ∧ Below x.w.heap.size x.w w') :
    Calls P f args x.w fun e w'' => e = .returned v ∧ ∃ y : Ext w0, w'' = y.w :=
  h.mono fun _ w' hh => ⟨hh.1, ⟨w', x.h.trans (hh.2.mono x.h.size)⟩, rfl⟩
/-- The law at the class of such worlds. -/
theorem ext_tail {P : Program} {id : Nat} {Q : Exit → Act → World → Prop} {a : Act} {w : World} {l : List Oper} (n : Nat) (hm : P.follows .mixedOrders = true) (hB : Region.lexTailB .any l.toArray n = true)
    (h : wpQuiet P l.toArray (fun w' => ∃ x : Ext w, w' = x.w) (fun a' => ∀ w', (∃ x : Ext w, w' = x.w) → wpList P l.toArray Q (l.drop n) a' w') (l.take n) a) : (Code.region id l.toArray true).wp P Q a w :=
  quiet_tail n hm hB ⟨Ext.start w, rfl⟩ h
theorem ext_all {P : Program} {id : Nat} {Q : Exit → Act → World → Prop} {a : Act} {w : World} {l : List Oper} (hm : P.follows .mixedOrders = true) (hB : Region.lexB .any l.toArray = true)
    (h : wpQuiet P l.toArray (fun w' => ∃ x : Ext w, w' = x.w) (fun a' => ∀ w', (∃ x : Ext w, w' = x.w) → Q .normal a' w') l a) : (Code.region id l.toArray true).wp P Q a w :=
  wp_region_quiet (C := fun w' => ∃ x : Ext w, w' = x.w) hm hB ⟨Ext.start w, rfl⟩ (by simpa using h)
end Go.Proofs.YteodfondjogmoaaGreatDoor.P
/- The last place of a map whose number is not above a given one. Conditions: none beyond each theorem's own. -/
namespace Go.Proofs.YteodfondjogmoaaGreatDoor.P
open Go.RowKit
set_option linter.unusedVariables false
set_option linter.unusedSimpArgs false
attribute [local go_sem] Ext.cell Ext.froz
theorem IsMap.below {w w' : World} {b : Nat} {s : ByteArray} {P : List Pl} {L : List Ln} {pb pc lb lc : Nat} (h : IsMap w b s P L pb pc lb lc) (hb : Below w.heap.size w w') : IsMap w' b s P L pb pc lb lc := by
  refine ⟨(hb.block b h.bl).trans h.hm, fun k p hk => ?_, fun k p hk => ?_⟩
  · obtain ⟨h0, h1, h2, h3, h4⟩ := h.hp k p hk
    exact ⟨keeps hb h0, keeps hb h1, keeps hb h2, keeps hb h3, keeps hb h4⟩
  · obtain ⟨h0, h1, h2, h3⟩ := h.hl k p hk
    exact ⟨keeps hb h0, keeps hb h1, keeps hb h2, keeps hb h3⟩
def gAt (num : Pl → Nat) (P : List Pl) (n : Int) (i : Nat) : Bool := match P[i]? with
  | some p => decide (n < (num p : Int))
  | none => true
theorem gAt_some {num : Pl → Nat} {P : List Pl} {n : Int} {i : Nat} {p : Pl} (h : P[i]? = some p) : gAt num P n i = decide (n < (num p : Int)) := by simp [gAt, h]
theorem new_block {w w' : World} {c : Array Value} {T : TypeId} (hb : Below (w.alloc (.cells c T)).heap.size (w.alloc (.cells c T)) w') : w'.heap[w.heap.size]? = some (.cells c T (0, 0)) := by
  rw [hb.block w.heap.size (by simp)]
  exact heap_alloc_new w _
theorem blk_cell {w : World} {b k : Nat} {c : Array Value} {T : TypeId} {v : Value} (h : w.heap[b]? = some (.cells c T (0, 0))) (hk : c[k]? = some v) : w.cell? ⟨b, k, none⟩ = some v := by
  simp [World.cell?, h, hk]
theorem blk_froz {w : World} {b : Nat} {c : Array Value} {T : TypeId} (h : w.heap[b]? = some (.cells c T (0, 0))) : ∀ k, w.frozen? ⟨b, k, none⟩ = false := by
  intro k; simp [World.frozen?, h]
end Go.Proofs.YteodfondjogmoaaGreatDoor.P
