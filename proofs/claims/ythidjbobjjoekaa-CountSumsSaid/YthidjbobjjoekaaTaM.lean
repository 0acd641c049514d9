/- CountSums walked: words added at once or one by one. Conditions: the words lie in memory as a slice of strings. -/
import Derived.Test.YthidjbobjjoekaaTaI
import Derived.Test.YthidjbobjjoekaaTaK
import Derived.Test.YthidjbobjjoekaaTaL
import Derived.Test.YthidjbobjjoekaaQw
namespace Go.Proofs.Ythidjbobjjoekaa
open Go.RowKit Go.Lib Go.Sort Go.Shelf
set_option linter.unusedVariables false
set_option linter.unusedSimpArgs false
attribute [local go_sem] Oper.semAt_some
/-- words in memory -/
structure WordsIn (w : World) (p : Option Addr) (ws : List ByteArray) : Prop where
  at_ : ∀ k x, ws[k]? = some x → ∃ g off, p = some ⟨g, off, none⟩ ∧ g < w.heap.size ∧ w.cell? ⟨g, off + k, none⟩ = some (.string x)
  sz : ∀ x ∈ ws, x.size ≤ maxLen
theorem WordsIn.low {w w' : World} {p : Option Addr} {ws : List ByteArray} (h : WordsIn w p ws) {n : Nat} (hn : w.heap.size ≤ n) (hb : Below n w w') : WordsIn w' p ws :=
  ⟨fun k x hx => by
    obtain ⟨g, off, h1, h2, h3⟩ := h.at_ k x hx
    exact ⟨g, off, h1, Nat.lt_of_lt_of_le h2 hb.size, (hb.cell (p := ⟨g, off + k, none⟩) (Nat.lt_of_lt_of_le h2 hn)).trans h3⟩, h.sz⟩
set_option maxRecDepth 100000 in
set_option maxHeartbeats 2000000 in
theorem sums_long (w : World) (p : Option Addr) (c : Nat) (ws : List ByteArray) (cut : Int) (hl : 2000 < ws.length) (hm : ws.length ≤ maxLen) :
    Calls Try.prog 4 #[.slice p ws.length c, .int .i64 cut] w fun e w' => e = .returned (.bool true) ∧ Below w.heap.size w w' := by
  have d0 : decide ((2000 : Int) < ws.length) = true := decide_eq_true (by omega)
  have d1 : decide (2000 < ws.length) = true := decide_eq_true hl
  have HW := hid works_any
  unfold maxLen at hm
  generalize ws.length = n at *
  go_enter Try.func4, Try.ntmps4
  go_wp2_with fail
  obtain ⟨wa, hA⟩ : ∃ wa, (w.alloc (.cells #[.slice p n c] 27)).alloc (.cells #[.bool false] 4) = wa := ⟨_, rfl⟩
  have k1 : Blk wa w.heap.size 27 #[.slice p n c] := hA ▸ (Blk.new w _ _).alloc _
  have k2 : Blk wa (w.heap.size + 1) 4 #[.bool false] := by
    rw [← hA]; have := Blk.new (w.alloc (.cells #[.slice p n c] 27)) 4 #[.bool false]
    rw [World.size_alloc] at this
    exact this
  have ba : Below w.heap.size w wa := hA ▸ ((Below.refl _ _).alloc (Nat.le_refl _) _).alloc (by simp) _
  rw [hA]
  clear hA
  with_reducible refine Calls.mono (HW.out _) ?_
  rintro e w1 ⟨rfl, hb1⟩
  replace k1 := k1.low hb1
  replace k2 := k2.low hb1
  replace ba := ba.trans (hb1.mono ba.size)
  have c1 := k1.cell (k := 0) rfl
  clear hb1
  go_wp2_with fail
  with_reducible refine Calls.mono (HW.out _) ?_
  rintro e w2 ⟨rfl, hb2⟩
  replace k2 := k2.low hb2
  replace ba := ba.trans (hb2.mono ba.size)
  clear hb2
  have c2 := k2.cell (k := 0) rfl
  have n2 := k2.lt
  have f2 := k2.froz 0
  go_wp2_with fail
  try rw [Exit.noGoto_ret]
  have hcc : (w2.setCell ⟨w.heap.size + 1, 0, none⟩ (.bool true)).cell? ⟨w.heap.size + 1, 0, none⟩ = some (.bool true) := World.cell?_setCell_same' _ _ _ (by rw [c2]; rfl)
  exact bodyPost_ret (v := .bool true) (by simp [results, Try.results4, go_sem, hcc]) rfl ⟨rfl, ba.setCell (p := ⟨w.heap.size + 1, 0, none⟩) (Nat.le_succ _) _⟩
/-- nothing but some blocks has turned; memory has not grown -/
structure ButS (S : List Nat) (w w' : World) : Prop where
  os : w'.os = w.os
  tape : w'.tape = w.tape
  output : w'.output = w.output
  size : w'.heap.size = w.heap.size
  block : ∀ k, k ∉ S → w'.heap[k]? = w.heap[k]?
theorem ButS.refl (S : List Nat) (w : World) : ButS S w w := ⟨rfl, rfl, rfl, rfl, fun _ _ => rfl⟩
theorem ButS.push {S : List Nat} {w w1 w2 : World} {b m : Nat} (h : ButS S w w1) (k : But2 b m w1 w2) (hs : w2.heap.size = w1.heap.size) (hb : b ∈ S) (hm : m ∈ S) : ButS S w w2 :=
  ⟨k.os.trans h.os, k.tape.trans h.tape, k.output.trans h.output, hs.trans h.size, fun j hj => by
    by_cases hl : j < w1.heap.size
    · exact (k.block j hl (fun e => hj (e ▸ hb)) (fun e => hj (e ▸ hm))).trans (h.block j hj)
    · rw [Array.getElem?_eq_none (by omega), Array.getElem?_eq_none (by have := h.size; omega)]⟩
theorem ButS.blk {S : List Nat} {w w' : World} (h : ButS S w w') {B : Nat} {t : TypeId} {c : Array Value} (hk : Blk w B t c) (hB : B ∉ S) : Blk w' B t c := (h.block B hB).trans hk
theorem Tal.other {w w' : World} {b m b' m' : Nat} {L : List Ent} (h : Tal w b m L) (k : But2 b' m' w w') (h1 : b ≠ b') (h2 : b ≠ m') (h3 : m ≠ b') (h4 : m ≠ m') : Tal w' b m L :=
  h.keep (k.block b h.blt h1 h2) (k.block m h.mlt h3 h4)
theorem take_cut1 {ws : List ByteArray} {k c : Nat} {x : ByteArray} (hx : ws[k]? = some x) (h : k < c) : ws.take (min (k + 1) c) = ws.take (min k c) ++ [x] ∧ (ws.take (k + 1)).drop c = (ws.take k).drop c := by
  rw [show min (k + 1) c = k + 1 by omega, show min k c = k by omega, List.take_add_one, hx]
  refine ⟨rfl, ?_⟩
  rw [List.drop_eq_nil_of_le (by simp; omega), List.drop_eq_nil_of_le (by simp; omega)]
theorem take_cut2 {ws : List ByteArray} {k c : Nat} {x : ByteArray} (hx : ws[k]? = some x) (h : c ≤ k) : ws.take (min (k + 1) c) = ws.take (min k c) ∧ (ws.take (k + 1)).drop c = (ws.take k).drop c ++ [x] := by
  rw [show min (k + 1) c = c by omega, show min k c = c by omega]
  refine ⟨rfl, ?_⟩
  have hk := (List.getElem?_eq_some_iff.1 hx).1
  rw [List.take_add_one, hx, List.drop_append_of_le_length (by simp; omega)]
  rfl
end Go.Proofs.Ythidjbobjjoekaa
