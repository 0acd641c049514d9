/- The readers of a map of a text's places that search: sort.Search and the closures handed to it. Conditions: none beyond each theorem's own. -/
import Derived.Test.YtkobfjiadfedlaaPlA
import Derived.WalkKit
import Derived.WalkSpells
import Derived.WalkLawsBesides
import Derived.Deep.QuietTactic
import Derived.BigQuiet
import Derived.Deep.RegionHeld3
import Derived.Deep.RegionLawGrows
import Derived.StillTailTactics
namespace Go.Proofs.Ytkobfjiadfedlaa
open Go.RowKit
set_option linter.unusedVariables false
set_option linter.unusedSimpArgs false
theorem keeps {W w' : World} (hb : Below W.heap.size W w') {a : Addr} {v : Value} (h : W.cell? a = some v) : w'.cell? a = some v := (hb.cell (World.block_lt_of_cell? W _ h)).trans h
theorem keep1 {W w' w : World} (hb : Below W.heap.size W w') {a1 : Addr} {v1 : Value}
    (h : W.cell? a1 = some v1 ∧ Below w.heap.size w W) : w'.cell? a1 = some v1 ∧ Below w.heap.size w w' := by
  obtain ⟨h1, h'⟩ := h
  exact ⟨keeps hb h1, h'.trans (hb.mono h'.size)⟩

theorem keep2 {W w' w : World} (hb : Below W.heap.size W w') {a1 a2 : Addr} {v1 v2 : Value}
    (h : W.cell? a1 = some v1 ∧ W.cell? a2 = some v2 ∧ Below w.heap.size w W) : w'.cell? a1 = some v1 ∧ w'.cell? a2 = some v2 ∧ Below w.heap.size w w' := by
  obtain ⟨h1, h2, h'⟩ := h
  exact ⟨keeps hb h1, keeps hb h2, h'.trans (hb.mono h'.size)⟩

theorem keep3 {W w' w : World} (hb : Below W.heap.size W w') {a1 a2 a3 : Addr} {v1 v2 v3 : Value}
    (h : W.cell? a1 = some v1 ∧ W.cell? a2 = some v2 ∧ W.cell? a3 = some v3 ∧ Below w.heap.size w W) : w'.cell? a1 = some v1 ∧ w'.cell? a2 = some v2 ∧ w'.cell? a3 = some v3 ∧ Below w.heap.size w w' := by
  obtain ⟨h1, h2, h3, h'⟩ := h
  exact ⟨keeps hb h1, keeps hb h2, keeps hb h3, h'.trans (hb.mono h'.size)⟩

theorem keep4 {W w' w : World} (hb : Below W.heap.size W w') {a1 a2 a3 a4 : Addr} {v1 v2 v3 v4 : Value}
    (h : W.cell? a1 = some v1 ∧ W.cell? a2 = some v2 ∧ W.cell? a3 = some v3 ∧ W.cell? a4 = some v4 ∧ Below w.heap.size w W) : w'.cell? a1 = some v1 ∧ w'.cell? a2 = some v2 ∧ w'.cell? a3 = some v3 ∧ w'.cell? a4 = some v4 ∧ Below w.heap.size w w' := by
  obtain ⟨h1, h2, h3, h4, h'⟩ := h
  exact ⟨keeps hb h1, keeps hb h2, keeps hb h3, keeps hb h4, h'.trans (hb.mono h'.size)⟩

theorem keep5 {W w' w : World} (hb : Below W.heap.size W w') {a1 a2 a3 a4 a5 : Addr} {v1 v2 v3 v4 v5 : Value}
    (h : W.cell? a1 = some v1 ∧ W.cell? a2 = some v2 ∧ W.cell? a3 = some v3 ∧ W.cell? a4 = some v4 ∧ W.cell? a5 = some v5 ∧ Below w.heap.size w W) : w'.cell? a1 = some v1 ∧ w'.cell? a2 = some v2 ∧ w'.cell? a3 = some v3 ∧ w'.cell? a4 = some v4 ∧ w'.cell? a5 = some v5 ∧ Below w.heap.size w w' := by
  obtain ⟨h1, h2, h3, h4, h5, h'⟩ := h
  exact ⟨keeps hb h1, keeps hb h2, keeps hb h3, keeps hb h4, keeps hb h5, h'.trans (hb.mono h'.size)⟩

theorem keep6 {W w' w : World} (hb : Below W.heap.size W w') {a1 a2 a3 a4 a5 a6 : Addr} {v1 v2 v3 v4 v5 v6 : Value}
    (h : W.cell? a1 = some v1 ∧ W.cell? a2 = some v2 ∧ W.cell? a3 = some v3 ∧ W.cell? a4 = some v4 ∧ W.cell? a5 = some v5 ∧ W.cell? a6 = some v6 ∧ Below w.heap.size w W) : w'.cell? a1 = some v1 ∧ w'.cell? a2 = some v2 ∧ w'.cell? a3 = some v3 ∧ w'.cell? a4 = some v4 ∧ w'.cell? a5 = some v5 ∧ w'.cell? a6 = some v6 ∧ Below w.heap.size w w' := by
  obtain ⟨h1, h2, h3, h4, h5, h6, h'⟩ := h
  exact ⟨keeps hb h1, keeps hb h2, keeps hb h3, keeps hb h4, keeps hb h5, keeps hb h6, h'.trans (hb.mono h'.size)⟩

theorem keep7 {W w' w : World} (hb : Below W.heap.size W w') {a1 a2 a3 a4 a5 a6 a7 : Addr} {v1 v2 v3 v4 v5 v6 v7 : Value}
    (h : W.cell? a1 = some v1 ∧ W.cell? a2 = some v2 ∧ W.cell? a3 = some v3 ∧ W.cell? a4 = some v4 ∧ W.cell? a5 = some v5 ∧ W.cell? a6 = some v6 ∧ W.cell? a7 = some v7 ∧ Below w.heap.size w W) : w'.cell? a1 = some v1 ∧ w'.cell? a2 = some v2 ∧ w'.cell? a3 = some v3 ∧ w'.cell? a4 = some v4 ∧ w'.cell? a5 = some v5 ∧ w'.cell? a6 = some v6 ∧ w'.cell? a7 = some v7 ∧ Below w.heap.size w w' := by
  obtain ⟨h1, h2, h3, h4, h5, h6, h7, h'⟩ := h
  exact ⟨keeps hb h1, keeps hb h2, keeps hb h3, keeps hb h4, keeps hb h5, keeps hb h6, keeps hb h7, h'.trans (hb.mono h'.size)⟩

theorem keep8 {W w' w : World} (hb : Below W.heap.size W w') {a1 a2 a3 a4 a5 a6 a7 a8 : Addr} {v1 v2 v3 v4 v5 v6 v7 v8 : Value}
    (h : W.cell? a1 = some v1 ∧ W.cell? a2 = some v2 ∧ W.cell? a3 = some v3 ∧ W.cell? a4 = some v4 ∧ W.cell? a5 = some v5 ∧ W.cell? a6 = some v6 ∧ W.cell? a7 = some v7 ∧ W.cell? a8 = some v8 ∧ Below w.heap.size w W) : w'.cell? a1 = some v1 ∧ w'.cell? a2 = some v2 ∧ w'.cell? a3 = some v3 ∧ w'.cell? a4 = some v4 ∧ w'.cell? a5 = some v5 ∧ w'.cell? a6 = some v6 ∧ w'.cell? a7 = some v7 ∧ w'.cell? a8 = some v8 ∧ Below w.heap.size w w' := by
  obtain ⟨h1, h2, h3, h4, h5, h6, h7, h8, h'⟩ := h
  exact ⟨keeps hb h1, keeps hb h2, keeps hb h3, keeps hb h4, keeps hb h5, keeps hb h6, keeps hb h7, keeps hb h8, h'.trans (hb.mono h'.size)⟩

theorem keep9 {W w' w : World} (hb : Below W.heap.size W w') {a1 a2 a3 a4 a5 a6 a7 a8 a9 : Addr} {v1 v2 v3 v4 v5 v6 v7 v8 v9 : Value}
    (h : W.cell? a1 = some v1 ∧ W.cell? a2 = some v2 ∧ W.cell? a3 = some v3 ∧ W.cell? a4 = some v4 ∧ W.cell? a5 = some v5 ∧ W.cell? a6 = some v6 ∧ W.cell? a7 = some v7 ∧ W.cell? a8 = some v8 ∧ W.cell? a9 = some v9 ∧ Below w.heap.size w W) : w'.cell? a1 = some v1 ∧ w'.cell? a2 = some v2 ∧ w'.cell? a3 = some v3 ∧ w'.cell? a4 = some v4 ∧ w'.cell? a5 = some v5 ∧ w'.cell? a6 = some v6 ∧ w'.cell? a7 = some v7 ∧ w'.cell? a8 = some v8 ∧ w'.cell? a9 = some v9 ∧ Below w.heap.size w w' := by
  obtain ⟨h1, h2, h3, h4, h5, h6, h7, h8, h9, h'⟩ := h
  exact ⟨keeps hb h1, keeps hb h2, keeps hb h3, keeps hb h4, keeps hb h5, keeps hb h6, keeps hb h7, keeps hb h8, keeps hb h9, h'.trans (hb.mono h'.size)⟩

theorem keep10 {W w' w : World} (hb : Below W.heap.size W w') {a1 a2 a3 a4 a5 a6 a7 a8 a9 a10 : Addr} {v1 v2 v3 v4 v5 v6 v7 v8 v9 v10 : Value}
    (h : W.cell? a1 = some v1 ∧ W.cell? a2 = some v2 ∧ W.cell? a3 = some v3 ∧ W.cell? a4 = some v4 ∧ W.cell? a5 = some v5 ∧ W.cell? a6 = some v6 ∧ W.cell? a7 = some v7 ∧ W.cell? a8 = some v8 ∧ W.cell? a9 = some v9 ∧ W.cell? a10 = some v10 ∧ Below w.heap.size w W) : w'.cell? a1 = some v1 ∧ w'.cell? a2 = some v2 ∧ w'.cell? a3 = some v3 ∧ w'.cell? a4 = some v4 ∧ w'.cell? a5 = some v5 ∧ w'.cell? a6 = some v6 ∧ w'.cell? a7 = some v7 ∧ w'.cell? a8 = some v8 ∧ w'.cell? a9 = some v9 ∧ w'.cell? a10 = some v10 ∧ Below w.heap.size w w' := by
  obtain ⟨h1, h2, h3, h4, h5, h6, h7, h8, h9, h10, h'⟩ := h
  exact ⟨keeps hb h1, keeps hb h2, keeps hb h3, keeps hb h4, keeps hb h5, keeps hb h6, keeps hb h7, keeps hb h8, keeps hb h9, keeps hb h10, h'.trans (hb.mono h'.size)⟩

theorem keep11 {W w' w : World} (hb : Below W.heap.size W w') {a1 a2 a3 a4 a5 a6 a7 a8 a9 a10 a11 : Addr} {v1 v2 v3 v4 v5 v6 v7 v8 v9 v10 v11 : Value}
    (h : W.cell? a1 = some v1 ∧ W.cell? a2 = some v2 ∧ W.cell? a3 = some v3 ∧ W.cell? a4 = some v4 ∧ W.cell? a5 = some v5 ∧ W.cell? a6 = some v6 ∧ W.cell? a7 = some v7 ∧ W.cell? a8 = some v8 ∧ W.cell? a9 = some v9 ∧ W.cell? a10 = some v10 ∧ W.cell? a11 = some v11 ∧ Below w.heap.size w W) : w'.cell? a1 = some v1 ∧ w'.cell? a2 = some v2 ∧ w'.cell? a3 = some v3 ∧ w'.cell? a4 = some v4 ∧ w'.cell? a5 = some v5 ∧ w'.cell? a6 = some v6 ∧ w'.cell? a7 = some v7 ∧ w'.cell? a8 = some v8 ∧ w'.cell? a9 = some v9 ∧ w'.cell? a10 = some v10 ∧ w'.cell? a11 = some v11 ∧ Below w.heap.size w w' := by
  obtain ⟨h1, h2, h3, h4, h5, h6, h7, h8, h9, h10, h11, h'⟩ := h
  exact ⟨keeps hb h1, keeps hb h2, keeps hb h3, keeps hb h4, keeps hb h5, keeps hb h6, keeps hb h7, keeps hb h8, keeps hb h9, keeps hb h10, keeps hb h11, h'.trans (hb.mono h'.size)⟩

theorem keep12 {W w' w : World} (hb : Below W.heap.size W w') {a1 a2 a3 a4 a5 a6 a7 a8 a9 a10 a11 a12 : Addr} {v1 v2 v3 v4 v5 v6 v7 v8 v9 v10 v11 v12 : Value}
    (h : W.cell? a1 = some v1 ∧ W.cell? a2 = some v2 ∧ W.cell? a3 = some v3 ∧ W.cell? a4 = some v4 ∧ W.cell? a5 = some v5 ∧ W.cell? a6 = some v6 ∧ W.cell? a7 = some v7 ∧ W.cell? a8 = some v8 ∧ W.cell? a9 = some v9 ∧ W.cell? a10 = some v10 ∧ W.cell? a11 = some v11 ∧ W.cell? a12 = some v12 ∧ Below w.heap.size w W) : w'.cell? a1 = some v1 ∧ w'.cell? a2 = some v2 ∧ w'.cell? a3 = some v3 ∧ w'.cell? a4 = some v4 ∧ w'.cell? a5 = some v5 ∧ w'.cell? a6 = some v6 ∧ w'.cell? a7 = some v7 ∧ w'.cell? a8 = some v8 ∧ w'.cell? a9 = some v9 ∧ w'.cell? a10 = some v10 ∧ w'.cell? a11 = some v11 ∧ w'.cell? a12 = some v12 ∧ Below w.heap.size w w' := by
  obtain ⟨h1, h2, h3, h4, h5, h6, h7, h8, h9, h10, h11, h12, h'⟩ := h
  exact ⟨keeps hb h1, keeps hb h2, keeps hb h3, keeps hb h4, keeps hb h5, keeps hb h6, keeps hb h7, keeps hb h8, keeps hb h9, keeps hb h10, keeps hb h11, keeps hb h12, h'.trans (hb.mono h'.size)⟩

theorem keep13 {W w' w : World} (hb : Below W.heap.size W w') {a1 a2 a3 a4 a5 a6 a7 a8 a9 a10 a11 a12 a13 : Addr} {v1 v2 v3 v4 v5 v6 v7 v8 v9 v10 v11 v12 v13 : Value}
    (h : W.cell? a1 = some v1 ∧ W.cell? a2 = some v2 ∧ W.cell? a3 = some v3 ∧ W.cell? a4 = some v4 ∧ W.cell? a5 = some v5 ∧ W.cell? a6 = some v6 ∧ W.cell? a7 = some v7 ∧ W.cell? a8 = some v8 ∧ W.cell? a9 = some v9 ∧ W.cell? a10 = some v10 ∧ W.cell? a11 = some v11 ∧ W.cell? a12 = some v12 ∧ W.cell? a13 = some v13 ∧ Below w.heap.size w W) : w'.cell? a1 = some v1 ∧ w'.cell? a2 = some v2 ∧ w'.cell? a3 = some v3 ∧ w'.cell? a4 = some v4 ∧ w'.cell? a5 = some v5 ∧ w'.cell? a6 = some v6 ∧ w'.cell? a7 = some v7 ∧ w'.cell? a8 = some v8 ∧ w'.cell? a9 = some v9 ∧ w'.cell? a10 = some v10 ∧ w'.cell? a11 = some v11 ∧ w'.cell? a12 = some v12 ∧ w'.cell? a13 = some v13 ∧ Below w.heap.size w w' := by
  obtain ⟨h1, h2, h3, h4, h5, h6, h7, h8, h9, h10, h11, h12, h13, h'⟩ := h
  exact ⟨keeps hb h1, keeps hb h2, keeps hb h3, keeps hb h4, keeps hb h5, keeps hb h6, keeps hb h7, keeps hb h8, keeps hb h9, keeps hb h10, keeps hb h11, keeps hb h12, keeps hb h13, h'.trans (hb.mono h'.size)⟩

theorem keep14 {W w' w : World} (hb : Below W.heap.size W w') {a1 a2 a3 a4 a5 a6 a7 a8 a9 a10 a11 a12 a13 a14 : Addr} {v1 v2 v3 v4 v5 v6 v7 v8 v9 v10 v11 v12 v13 v14 : Value}
    (h : W.cell? a1 = some v1 ∧ W.cell? a2 = some v2 ∧ W.cell? a3 = some v3 ∧ W.cell? a4 = some v4 ∧ W.cell? a5 = some v5 ∧ W.cell? a6 = some v6 ∧ W.cell? a7 = some v7 ∧ W.cell? a8 = some v8 ∧ W.cell? a9 = some v9 ∧ W.cell? a10 = some v10 ∧ W.cell? a11 = some v11 ∧ W.cell? a12 = some v12 ∧ W.cell? a13 = some v13 ∧ W.cell? a14 = some v14 ∧ Below w.heap.size w W) : w'.cell? a1 = some v1 ∧ w'.cell? a2 = some v2 ∧ w'.cell? a3 = some v3 ∧ w'.cell? a4 = some v4 ∧ w'.cell? a5 = some v5 ∧ w'.cell? a6 = some v6 ∧ w'.cell? a7 = some v7 ∧ w'.cell? a8 = some v8 ∧ w'.cell? a9 = some v9 ∧ w'.cell? a10 = some v10 ∧ w'.cell? a11 = some v11 ∧ w'.cell? a12 = some v12 ∧ w'.cell? a13 = some v13 ∧ w'.cell? a14 = some v14 ∧ Below w.heap.size w w' := by
  obtain ⟨h1, h2, h3, h4, h5, h6, h7, h8, h9, h10, h11, h12, h13, h14, h'⟩ := h
  exact ⟨keeps hb h1, keeps hb h2, keeps hb h3, keeps hb h4, keeps hb h5, keeps hb h6, keeps hb h7, keeps hb h8, keeps hb h9, keeps hb h10, keeps hb h11, keeps hb h12, keeps hb h13, keeps hb h14, h'.trans (hb.mono h'.size)⟩

theorem keep15 {W w' w : World} (hb : Below W.heap.size W w') {a1 a2 a3 a4 a5 a6 a7 a8 a9 a10 a11 a12 a13 a14 a15 : Addr} {v1 v2 v3 v4 v5 v6 v7 v8 v9 v10 v11 v12 v13 v14 v15 : Value}
    (h : W.cell? a1 = some v1 ∧ W.cell? a2 = some v2 ∧ W.cell? a3 = some v3 ∧ W.cell? a4 = some v4 ∧ W.cell? a5 = some v5 ∧ W.cell? a6 = some v6 ∧ W.cell? a7 = some v7 ∧ W.cell? a8 = some v8 ∧ W.cell? a9 = some v9 ∧ W.cell? a10 = some v10 ∧ W.cell? a11 = some v11 ∧ W.cell? a12 = some v12 ∧ W.cell? a13 = some v13 ∧ W.cell? a14 = some v14 ∧ W.cell? a15 = some v15 ∧ Below w.heap.size w W) : w'.cell? a1 = some v1 ∧ w'.cell? a2 = some v2 ∧ w'.cell? a3 = some v3 ∧ w'.cell? a4 = some v4 ∧ w'.cell? a5 = some v5 ∧ w'.cell? a6 = some v6 ∧ w'.cell? a7 = some v7 ∧ w'.cell? a8 = some v8 ∧ w'.cell? a9 = some v9 ∧ w'.cell? a10 = some v10 ∧ w'.cell? a11 = some v11 ∧ w'.cell? a12 = some v12 ∧ w'.cell? a13 = some v13 ∧ w'.cell? a14 = some v14 ∧ w'.cell? a15 = some v15 ∧ Below w.heap.size w w' := by
  obtain ⟨h1, h2, h3, h4, h5, h6, h7, h8, h9, h10, h11, h12, h13, h14, h15, h'⟩ := h
  exact ⟨keeps hb h1, keeps hb h2, keeps hb h3, keeps hb h4, keeps hb h5, keeps hb h6, keeps hb h7, keeps hb h8, keeps hb h9, keeps hb h10, keeps hb h11, keeps hb h12, keeps hb h13, keeps hb h14, keeps hb h15, h'.trans (hb.mono h'.size)⟩

theorem num_byte (p : Pl) (w : World) : Calls Try.prog 35 #[.agg #[.int .i64 p.b, .int .i64 p.r, .int .i64 p.u, .int .i64 p.l, .int .i64 p.c]] w fun e w' => e = .returned (.int .i64 p.b) ∧ Below w.heap.size w w' := by
  go_enter Try.func35, Try.ntmps35
  go_wp2
  go_ret
  exact ⟨rfl, (Below.refl _ _).alloc (Nat.le_refl _) _⟩
theorem num_unit (p : Pl) (w : World) : Calls Try.prog 37 #[.agg #[.int .i64 p.b, .int .i64 p.r, .int .i64 p.u, .int .i64 p.l, .int .i64 p.c]] w fun e w' => e = .returned (.int .i64 p.u) ∧ Below w.heap.size w w' := by
  go_enter Try.func37, Try.ntmps37
  go_wp2
  go_ret
  exact ⟨rfl, (Below.refl _ _).alloc (Nat.le_refl _) _⟩

theorem last1_any {w : World} {b : Nat} {s : ByteArray} {P : List Pl} {L : List Ln} {pb pc lb lc : Nat} (h : IsMap w b s P L pb pc lb lc) (nf : Nat) (num : Pl → Nat)
    (hnf : nf = 35 ∧ num = Pl.b ∨ nf = 37 ∧ num = Pl.u)
    (i : Nat) (p : Pl) (hp : P[i]? = some p) (hP2 : P.length ≤ 70000) (n : Int) (x y z : Nat)
    (hx : w.cell? ⟨x, 0, none⟩ = some (.func (.func nf) #[] #[])) (hy : w.cell? ⟨y, 0, none⟩ = some (.pointer (some ⟨b, 0, none⟩))) (hz : w.cell? ⟨z, 0, none⟩ = some (.int .i64 n)) :
    Calls Try.prog 43 #[.int .i64 i, .pointer (some ⟨x, 0, none⟩), .pointer (some ⟨y, 0, none⟩), .pointer (some ⟨z, 0, none⟩)] w fun e w' => e = .returned (.bool (decide (n < (num p : Int)))) ∧ Below w.heap.size w w' := by
  have h0 := h.c1
  obtain ⟨k0, k1, k2, k3, k4⟩ := h.hp i p hp
  have hi : i < P.length := (List.getElem?_eq_some_iff.1 hp).1
  generalize P.length = m at *
  have t2 : (0 : Int) ≤ i := by omega
  have t3 : (i : Int) < (m : Int) := by omega
  have hzs := World.block_lt_of_cell? w _ hz
  clear h hp
  rcases hnf with ⟨rfl, rfl⟩ | ⟨rfl, rfl⟩
  · go_enter Try.func43, Try.ntmps43
    go_wp2_with fail
    go_region_held3 (fun w' => w'.cell? ⟨x, 0, none⟩ = some (.func (.func 35) #[] #[]) ∧ w'.cell? ⟨y, 0, none⟩ = some (.pointer (some ⟨b, 0, none⟩)) ∧ w'.cell? ⟨z, 0, none⟩ = some (.int .i64 n) ∧ w'.cell? ⟨b, 1, none⟩ = some (.slice (some ⟨pb, 0, none⟩) m pc) ∧ w'.cell? ⟨pb, i * 5, none⟩ = some (.int .i64 p.b) ∧ w'.cell? ⟨pb, i * 5 + 1, none⟩ = some (.int .i64 p.r) ∧ w'.cell? ⟨pb, i * 5 + 2, none⟩ = some (.int .i64 p.u) ∧ w'.cell? ⟨pb, i * 5 + 3, none⟩ = some (.int .i64 p.l) ∧ w'.cell? ⟨pb, i * 5 + 4, none⟩ = some (.int .i64 p.c) ∧ Below w.heap.size w w') (first | exact ⟨hx, hy, hz, h0, k0, k1, k2, k3, k4, (Below.refl _ _).drew⟩ | exact keep9 hb (by assumption)) (((refine (num_byte p _).mono ?_); rintro e w' ⟨rfl, hb⟩))
    rename_i hSS
    have HB : Below w.heap.size w _ := hSS.2.2.2.2.2.2.2.2.2
    clear hSS
    go_wp2
    go_ret
    exact ⟨rfl, HB⟩
  · go_enter Try.func43, Try.ntmps43
    go_wp2_with fail
    go_region_held3 (fun w' => w'.cell? ⟨x, 0, none⟩ = some (.func (.func 37) #[] #[]) ∧ w'.cell? ⟨y, 0, none⟩ = some (.pointer (some ⟨b, 0, none⟩)) ∧ w'.cell? ⟨z, 0, none⟩ = some (.int .i64 n) ∧ w'.cell? ⟨b, 1, none⟩ = some (.slice (some ⟨pb, 0, none⟩) m pc) ∧ w'.cell? ⟨pb, i * 5, none⟩ = some (.int .i64 p.b) ∧ w'.cell? ⟨pb, i * 5 + 1, none⟩ = some (.int .i64 p.r) ∧ w'.cell? ⟨pb, i * 5 + 2, none⟩ = some (.int .i64 p.u) ∧ w'.cell? ⟨pb, i * 5 + 3, none⟩ = some (.int .i64 p.l) ∧ w'.cell? ⟨pb, i * 5 + 4, none⟩ = some (.int .i64 p.c) ∧ Below w.heap.size w w') (first | exact ⟨hx, hy, hz, h0, k0, k1, k2, k3, k4, (Below.refl _ _).drew⟩ | exact keep9 hb (by assumption)) (((refine (num_unit p _).mono ?_); rintro e w' ⟨rfl, hb⟩))
    rename_i hSS
    have HB : Below w.heap.size w _ := hSS.2.2.2.2.2.2.2.2.2
    clear hSS
    go_wp2
    go_ret
    exact ⟨rfl, HB⟩
theorem hid {p : Prop} (h : p) : Hid p := h
/-- sort.Search over a predicate that is read off the memory as it is: it answers a number at which the predicate turns. -/
theorem search_any (B0 : Nat) (w0 : World) (n : Nat) (hn : n ≤ 70000) (g : Nat → Bool) (c1 c2 c3 : Value) 
    (hf' : ∀ i w', i < n → Below B0 w0 w' → Calls Try.prog 43 #[.int .i64 i, c1, c2, c3] w' fun e w'' => e = .returned (.bool (g i)) ∧ Below w'.heap.size w' w'')
    (w : World) (hw : Below B0 w0 w) (hB0 : B0 ≤ w.heap.size) :
    Calls Try.prog 42 #[.int .i64 n, .func (.func 43) #[] #[c1, c2, c3]] w fun e w' => ∃ k : Nat, k ≤ n ∧ (0 < k → g (k - 1) = false) ∧ (k < n → g k = true) ∧ e = .returned (.int .i64 k) ∧ Below w.heap.size w w' := by
  have hf := hid hf'
  clear hf'
  go_enter Try.func42, Try.ntmps42
  go_wp2_with fail
  go_loopw [5, 6] (fun i j wr => ∃ a b : Nat, i = .int .i64 a ∧ j = .int .i64 b ∧ a ≤ b ∧ b ≤ n ∧ Hid ((0 < a → g (a - 1) = false) ∧ (b < n → g b = true)) ∧ Below w.heap.size w wr) (fun i j _ => (intOf j - intOf i).toNat)
  case atStart => exact ⟨0, n, rfl, rfl, by omega, by omega, ⟨by omega, by omega⟩, Below.refl _ _⟩
  case round =>
    obtain ⟨a, b, rfl, rfl, hab, hbn, hH, hbel⟩ := hrel
    by_cases hlt : a < b
    · have hm : Hid (((a : Int) + b) / 2 = ((a + b) / 2 : Nat)) := by unfold Hid; omega
      have HC := hid (hf.out ((a + b) / 2) wr (by omega) (hw.trans (hbel.mono hB0)))
      cases hg : g ((a + b) / 2)
      all_goals
        have HG := hid hg
        clear hg
        go_wp2_with fail
        rw [hm.out]
        refine HC.out.mono ?_
        rintro e w' ⟨rfl, hb⟩
        rw [HG.out]
        have hb2 := hbel.trans (hb.mono hbel.size)
        go_wp2_with fail
        go_roundw
        case rel =>
          first
            | exact ⟨(a + b) / 2 + 1, b, by go_num, rfl, by omega, hbn, ⟨fun _ => by simpa using HG.out, hH.out.2⟩, hb2⟩
            | exact ⟨a, (a + b) / 2, rfl, by go_num, by omega, by omega, ⟨hH.out.1, fun _ => HG.out⟩, hb2⟩
        case measure => simp [intOf]; omega
    · have hab' : a = b := by omega
      subst hab'
      go_wp2_with fail
      go_ret
      exact ⟨a, by omega, hH.out.1, hH.out.2, rfl, hbel⟩
end Go.Proofs.Ytkobfjiadfedlaa
