/- Memory: blocks of cells as they lie, and worlds in which nothing but some blocks has turned. Conditions: those of each theorem. -/
import Derived.Test.YtmpkfpabejpbkaaGreatDoorProg
import Derived.StillTail
import Derived.StillTailTactics
import Derived.WalkKit
import Derived.WalkSpells
import Derived.WalkLawsBesides
import Derived.Outline
import Derived.Below
import Derived.Carry
import Derived.Lib.Hide
import Derived.Lib.OthersKept
namespace Go.Proofs.YtmpkfpabejpbkaaGreatDoor.R
open Go.RowKit Go.Lib
set_option linter.unusedVariables false
set_option linter.unusedSimpArgs false
theorem blk_cell {w : World} {b k : Nat} {c : Array Value} {T : TypeId} {v : Value} (h : w.heap[b]? = some (.cells c T (0, 0))) (hk : c[k]? = some v) : w.cell? ⟨b, k, none⟩ = some v := by
 simp [World.cell?, h, hk]
theorem blk_froz {w : World} {b : Nat} {c : Array Value} {T : TypeId} (h : w.heap[b]? = some (.cells c T (0, 0))) : ∀ k, w.frozen? ⟨b, k, none⟩ = false := by
 intro k; simp [World.frozen?, h]
theorem stop_here {p : Prop} (h : Hid p) : p := h.out
def Blk (W : World) (B : Nat) (t : TypeId) (c : Array Value) : Prop := W.heap[B]? = some (.cells c t (0, 0))
section
variable {W W' : World} {B : Nat} {t : TypeId} {c : Array Value}
theorem Blk.lt (h : Blk W B t c) : B < W.heap.size := (Array.getElem?_eq_some_iff.1 h).1
theorem Blk.cell (h : Blk W B t c) {k : Nat} {v : Value} (hk : c[k]? = some v) : W.cell? ⟨B, k, none⟩ = some v := blk_cell h hk
theorem Blk.froz (h : Blk W B t c) (k : Nat) : W.frozen? ⟨B, k, none⟩ = false := blk_froz h k
theorem Blk.low (h : Blk W B t c) (hb : Below W.heap.size W W') : Blk W' B t c := (hb.block B h.lt).trans h
theorem Blk.lowN {n : Nat} (h : Blk W B t c) (hb : Below n W W') (hn : B < n) : Blk W' B t c := (hb.block B hn).trans h
theorem Blk.new (W : World) (t : TypeId) (c : Array Value) : Blk (W.alloc (.cells c t)) W.heap.size t c := heap_alloc_new W _
theorem Blk.alloc (h : Blk W B t c) (o : Obj) : Blk (W.alloc o) B t c := h.low ((Below.refl _ _).alloc (Nat.le_refl _) _)
theorem Blk.kept {row : Option Nat} (h : Blk W B t c) (hg : W.grownBy W' row) (hne : some B ≠ row) : Blk W' B t c := (hg.block B h.lt hne).trans h
theorem Blk.other (h : Blk W B t c) {B' k : Nat} (hne : B ≠ B') (u : Value) : Blk (W.setCell ⟨B', k, none⟩ u) B t c :=
 (Below.heap_setCell W ⟨B', k, none⟩ u B hne).trans h
theorem Blk.set (h : Blk W B t c) (k : Nat) (u : Value) : Blk (W.setCell ⟨B, k, none⟩ u) B t (c.setIfInBounds k u) := by
 obtain ⟨hlt, hk⟩ := Array.getElem?_eq_some_iff.1 h
 show (W.heap.modify B _)[B]? = _
 rw [Array.getElem?_eq_getElem (by rw [Array.size_modify]; exact hlt), Array.getElem_modify_self, hk]
 rfl
end
structure ButS (S : List Nat) (w w' : World) : Prop where
 os : w'.os = w.os
 tape : w'.tape = w.tape
 output : w'.output = w.output
 size : w.heap.size ≤ w'.heap.size
 block : ∀ k, k < w.heap.size → k ∉ S → w'.heap[k]? = w.heap[k]?
section
variable {S T : List Nat} {a b c w w' : World}
theorem ButS.refl (S : List Nat) (w : World) : ButS S w w := ⟨rfl, rfl, rfl, Nat.le_refl _, fun _ _ _ => rfl⟩
theorem ButS.trans (h : ButS S a b) (k : ButS S b c) : ButS S a c :=
 ⟨k.os.trans h.os, k.tape.trans h.tape, k.output.trans h.output, Nat.le_trans h.size k.size, fun i hi hS => (k.block i (Nat.lt_of_lt_of_le hi h.size) hS).trans (h.block i hi hS)⟩
theorem ButS.mono (h : ButS S a b) (hT : ∀ k, k ∈ S → k < a.heap.size → k ∈ T) : ButS T a b :=
 ⟨h.os, h.tape, h.output, h.size, fun i hi hn => h.block i hi (fun hs => hn (hT i hs hi))⟩
theorem ButS.of (h : Below w.heap.size w w') : ButS S w w' := ⟨h.os, h.tape, h.output, h.size, fun k hk _ => h.block k hk⟩
theorem ButS.low (h : ButS S a b) (hb : Below b.heap.size b c) : ButS S a c := h.trans (.of hb)
theorem ButS.set (h : ButS S a b) {R : Nat} (hR : R ∈ S) (k : Nat) (u : Value) : ButS S a (b.setCell ⟨R, k, none⟩ u) :=
 h.trans ⟨rfl, rfl, rfl, by simp [World.setCell], fun i _ hi => Below.heap_setCell _ _ _ _ (fun e => hi (by rw [e]; exact hR))⟩
theorem ButS.alloc (h : ButS S a b) (o : Obj) : ButS S a (b.alloc o) := h.low ((Below.refl _ _).alloc (Nat.le_refl _) o)
theorem ButS.blk (h : ButS S w w') {B : Nat} {t : TypeId} {c : Array Value} (hk : Blk w B t c) (hB : B ∉ S) : Blk w' B t c := (h.block B hk.lt hB).trans hk
theorem ButS.below {n : Nat} (h : ButS S w w') (hS : ∀ k ∈ S, n ≤ k) (hn : n ≤ w.heap.size) : Below n w w' :=
 ⟨h.os, h.tape, h.output, h.size, fun k hk => h.block k (by omega) (fun hs => by have := hS k hs; omega)⟩
end
theorem dT {p : Prop} [Decidable p] (h : p) : decide p = true := decide_eq_true h
theorem dF {p : Prop} [Decidable p] (h : ¬ p) : decide p = false := decide_eq_false h
theorem Wi64 {x : Int} (h : -9223372036854775808 ≤ x ∧ x ≤ 9223372036854775807) : IntKind.i64.wrap x = x := IntWalk.i64_in _ h
theorem Wu8 {x : Int} (h : 0 ≤ x ∧ x ≤ 255) : IntKind.u8.wrap x = x := IntWalk.u8_in _ h
end Go.Proofs.YtmpkfpabejpbkaaGreatDoor.R
