/- The data of the map of a text's places (package place) in memory, and the contracts of its small readers. Conditions: none beyond each theorem's own. -/
import Derived.Test.YtkobfjiadfedlaaProg
import Derived.WalkKit
import Derived.WalkSpells
import Derived.WalkLawsBesides
import Derived.Deep.QuietTactic
import Derived.BigQuiet

import Derived.Deep.RegionHeld3
import Derived.Deep.RegionLawGrows
import Derived.StillTailTactics
namespace Go.Proofs.Ytkobfjiadfedlaa
open Go.RowKit


theorem still_tail {Pr : Program} {id : Nat} {Q : Exit → Act → World → Prop} {a : Act} {w : World} {l : List Oper} (n : Nat) (hm : Pr.follows .mixedOrders = true) (hB : Region.lexTailB .any l.toArray n = true)
    (h : wpStill Pr l.toArray w.drew (fun a' => wpList Pr l.toArray Q (l.drop n) a' w.drew) (l.take n) a) : (Code.region id l.toArray true).wp Pr Q a w := wp_region_still_tail n hm hB h
structure Pl where
  b : Nat
  r : Nat
  u : Nat
  l : Nat
  c : Nat
structure Ln where
  f : Nat
  t : Nat
  e : Nat
  i : Nat
def Pl.cells (p : Pl) : List Value := [.int .i64 p.b, .int .i64 p.r, .int .i64 p.u, .int .i64 p.l, .int .i64 p.c]
def Ln.cells (p : Ln) : List Value := [.int .i64 p.f, .int .i64 p.t, .int .i64 p.e, .int .i64 p.i]
def Pl.val (p : Pl) : Value := .agg #[.int .i64 p.b, .int .i64 p.r, .int .i64 p.u, .int .i64 p.l, .int .i64 p.c]


def PlAt (w : World) (a k : Nat) (p : Pl) : Prop := w.cell? ⟨a, k * 5, none⟩ = some (.int .i64 p.b) ∧ w.cell? ⟨a, k * 5 + 1, none⟩ = some (.int .i64 p.r) ∧ w.cell? ⟨a, k * 5 + 2, none⟩ = some (.int .i64 p.u) ∧ w.cell? ⟨a, k * 5 + 3, none⟩ = some (.int .i64 p.l) ∧ w.cell? ⟨a, k * 5 + 4, none⟩ = some (.int .i64 p.c)
def LnAt (w : World) (a k : Nat) (p : Ln) : Prop := w.cell? ⟨a, k * 4, none⟩ = some (.int .i64 p.f) ∧ w.cell? ⟨a, k * 4 + 1, none⟩ = some (.int .i64 p.t) ∧ w.cell? ⟨a, k * 4 + 2, none⟩ = some (.int .i64 p.e) ∧ w.cell? ⟨a, k * 4 + 3, none⟩ = some (.int .i64 p.i)
/-- a map of a text in memory -/
structure IsMap (w : World) (b : Nat) (s : ByteArray) (P : List Pl) (L : List Ln) (pb pc lb lc : Nat) : Prop where
  hm : w.heap[b]? = some (.cells #[.string s, .slice (some ⟨pb, 0, none⟩) P.length pc, .slice (some ⟨lb, 0, none⟩) L.length lc] 74 (0, 0))
  hp : ∀ k p, P[k]? = some p → PlAt w pb k p
  hl : ∀ k p, L[k]? = some p → LnAt w lb k p
section
variable {w : World} {b : Nat} {s : ByteArray} {P : List Pl} {L : List Ln} {pb pc lb lc : Nat}
theorem IsMap.c0 (h : IsMap w b s P L pb pc lb lc) : w.cell? ⟨b, 0, none⟩ = some (.string s) := by
  simp [World.cell?, h.hm]
theorem IsMap.c1 (h : IsMap w b s P L pb pc lb lc) : w.cell? ⟨b, 1, none⟩ = some (.slice (some ⟨pb, 0, none⟩) P.length pc) := by
  simp [World.cell?, h.hm]
theorem IsMap.c2 (h : IsMap w b s P L pb pc lb lc) : w.cell? ⟨b, 2, none⟩ = some (.slice (some ⟨lb, 0, none⟩) L.length lc) := by
  simp [World.cell?, h.hm]
theorem IsMap.bl (h : IsMap w b s P L pb pc lb lc) : b < w.heap.size := (Array.getElem?_eq_some_iff.1 h.hm).1

theorem text_any (h : IsMap w b s P L pb pc lb lc) :
    Calls Try.prog 25 #[.pointer (some ⟨b, 0, none⟩)] w fun e w' => e = .returned (.string s) ∧ w = w' := by
  have h0 := h.c0
  clear h
  go_enter Try.func25, Try.ntmps25
  go_wp2
  go_ret
  exact ⟨rfl, rfl⟩
theorem lines_any (h : IsMap w b s P L pb pc lb lc) :
    Calls Try.prog 14 #[.pointer (some ⟨b, 0, none⟩)] w fun e w' => e = .returned (.int .i64 L.length) ∧ w = w' := by
  have h0 := h.c2
  clear h
  go_enter Try.func14, Try.ntmps14
  go_wp2
  go_ret
  exact ⟨rfl, rfl⟩
set_option maxRecDepth 100000 in
theorem end_any (h : IsMap w b s P L pb pc lb lc) (n : Nat) (p : Pl) (hn : P.length = n + 1) (hp : P[n]? = some p) (hP2 : P.length ≤ 70000) :
    Calls Try.prog 21 #[.pointer (some ⟨b, 0, none⟩)] w fun e w' => e = .returned p.val ∧ Below w.heap.size w w' := by
  have h0 := h.c1
  obtain ⟨k0, k1, k2, k3, k4⟩ := h.hp n p hp
  have hb := h.bl
  have hpb : pb < w.heap.size := World.block_lt_of_cell? w _ k0
  clear h hp
  have t1 : IntKind.i64.wrap (n : Int) = n := IntWalk.i64_in _ (by omega)
  have t2 : (0 : Int) ≤ n := by omega
  have t3 : ((n : Nat) : Int) < (n : Int) + 1 := by omega
  have t4 : ((n : Nat) : Int).toNat = n := by omega
  rw [hn] at h0
  clear hn
  go_enter Try.func21, Try.ntmps21
  go_wp2
  refine still_tail 12 (by kernel_rfl) (by kernel_rfl) ?_
  simp only [List.take_succ_cons, List.take_zero, List.drop_succ_cons, List.drop_zero]
  repeat still_step
  refine wpStill_nil ?_
  go_wp2
  exact bodyPost_ret (v := p.val) (by simp [results, Try.results21, go_sem, Pl.val]) rfl ⟨rfl, (((Below.refl _ _).alloc (Nat.le_refl _) _).drew)⟩
end


end Go.Proofs.Ytkobfjiadfedlaa
