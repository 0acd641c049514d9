/- Cosine, the document's. Conditions: those of each theorem. -/
import Derived.Test.YthidjbobjjoekaaGreatCpE
import Derived.BigRegion
import Derived.Deep.QuietTactic
import Derived.BigQuiet
namespace Go.Proofs.YthidjbobjjoekaaGreat
open Go.RowKit Go.Lib Go.Sort Go.Shelf
set_option linter.unusedVariables false
set_option linter.unusedSimpArgs false
set_option maxHeartbeats 1000000
open Ieee (infR)
/-- the words of the first j entries, of L first -/
structure SoFar (L M : List Ent) (j : Nat) (zs : List ByteArray) : Prop where
  srt : zs.Pairwise leS
  nd : zs.Nodup
  mem : ∀ k, k ∈ zs ↔ k ∈ keysL (L.take j) ∨ k ∈ keysL (M.take (j - L.length))
  len : zs.length ≤ j
theorem SoFar.start (L M : List Ent) : SoFar L M 0 [] := ⟨.nil, .nil, fun k => by simp [keysL], Nat.le_refl _⟩
theorem keys_snoc {L : List Ent} {j : Nat} {x : Ent} (hx : L[j]? = some x) (k : ByteArray) : k ∈ keysL (L.take (j + 1)) ↔ k ∈ keysL (L.take j) ∨ k = x.1 := by
  rw [take_snoc L j x hx]; unfold keysL; simp
theorem keys_new {L : List Ent} (hn : (keysL L).Nodup) {j : Nat} {x : Ent} (hx : L[j]? = some x) : x.1 ∉ keysL (L.take j) := fun h => by
  have e : L = L.take j ++ x :: L.drop (j + 1) := by
    obtain ⟨hlt, he⟩ := List.getElem?_eq_some_iff.1 hx
    rw [← he, ← List.drop_eq_getElem_cons hlt, List.take_append_drop]
  rw [e] at hn
  unfold keysL at hn h
  rw [List.map_append, List.nodup_append] at hn
  exact hn.2.2 _ h _ (List.mem_map_of_mem (List.mem_cons_self ..)) rfl
theorem SoFar.next {L M : List Ent} {j : Nat} {zs : List ByteArray} (h : SoFar L M j zs) {x : ByteArray} (hx : x ∉ zs) (hm : ∀ k, (k ∈ keysL (L.take (j + 1)) ∨ k ∈ keysL (M.take (j + 1 - L.length))) ↔ (k ∈ zs ∨ k = x)) :
    ∀ zs' : List ByteArray, zs'.Pairwise leS → zs'.Perm (zs ++ [x]) → SoFar L M (j + 1) zs' := fun zs' hs hp =>
  ⟨hs, hp.nodup_iff.2 (List.nodup_append.2 ⟨h.nd, by simp, fun a ha b hb e => by simp at hb; subst hb; subst e; exact hx ha⟩), fun k => by rw [hp.mem_iff, hm]; simp, by rw [hp.length_eq]; have := h.len; simp; omega⟩
theorem SoFar.left {L M : List Ent} (hn : (keysL L).Nodup) {j : Nat} {zs : List ByteArray} (h : SoFar L M j zs) {x : Ent} (hx : L[j]? = some x) :
    ∀ zs' : List ByteArray, zs'.Pairwise leS → zs'.Perm (zs ++ [x.1]) → SoFar L M (j + 1) zs' := by
  have hj := (List.getElem?_eq_some_iff.1 hx).1
  have e1 : j - L.length = 0 := by omega
  have e2 : j + 1 - L.length = 0 := by omega
  refine h.next (fun hz => ?_) fun k => ?_
  · rcases (h.mem _).1 hz with h1 | h1
    · exact keys_new hn hx h1
    · rw [e1] at h1; simp [keysL] at h1
  · rw [h.mem, e1, e2, keys_snoc hx]
    simp [keysL]
theorem SoFar.right {L M : List Ent} (hm : (keysL M).Nodup) {j : Nat} {zs : List ByteArray} (h : SoFar L M j zs) (hj : L.length ≤ j) {y : Ent} (hy : M[j - L.length]? = some y) (hk : y.1 ∉ keysL L) :
    ∀ zs' : List ByteArray, zs'.Pairwise leS → zs'.Perm (zs ++ [y.1]) → SoFar L M (j + 1) zs' := by
  have e1 : L.take j = L := List.take_of_length_le hj
  have e2 : L.take (j + 1) = L := List.take_of_length_le (by omega)
  have e3 : j + 1 - L.length = j - L.length + 1 := by omega
  refine h.next (fun hz => ?_) fun k => ?_
  · rcases (h.mem _).1 hz with h1 | h1
    · rw [e1] at h1; exact hk h1
    · exact keys_new hm hy h1
  · rw [h.mem, e1, e2, e3, keys_snoc hy]
    constructor
    · rintro (h | h | h)
      · exact .inl (.inl h)
      · exact .inl (.inr h)
      · exact .inr h
    · rintro ((h | h) | h)
      · exact .inl h
      · exact .inr (.inl h)
      · exact .inr (.inr h)
theorem SoFar.skip {L M : List Ent} {j : Nat} {zs : List ByteArray} (h : SoFar L M j zs) (hj : L.length ≤ j) {y : Ent} (hy : M[j - L.length]? = some y) (hk : y.1 ∈ keysL L) : SoFar L M (j + 1) zs := by
  have e1 : L.take j = L := List.take_of_length_le hj
  have e2 : L.take (j + 1) = L := List.take_of_length_le (by omega)
  have e3 : j + 1 - L.length = j - L.length + 1 := by omega
  refine ⟨h.srt, h.nd, fun k => ?_, by have := h.len; omega⟩
  rw [h.mem, e1, e2, e3, keys_snoc hy]
  constructor
  · rintro (h | h)
    · exact .inl h
    · exact .inr (.inl h)
  · rintro (h | h | h)
    · exact .inl h
    · exact .inr h
    · subst h; exact .inl hk
theorem SoFar.done {L M : List Ent} {zs W : List ByteArray} (h : SoFar L M (L.length + M.length) zs) (hW : Words L M W) : zs = W := by
  refine (words_of h.srt h.nd fun k => ?_).uniq hW
  have e1 : L.take (L.length + M.length) = L := List.take_of_length_le (by omega)
  have e2 : M.take (L.length + M.length - L.length) = M := List.take_of_length_le (by omega)
  rw [h.mem, e1, e2]
theorem OwnS.opened {w0 w : World} {v : Value} {zs : List ByteArray} (h : OwnS w0 w v zs) : ∃ p cap, v = .slice p zs.length cap ∧ ∀ j x, zs[j]? = some x → ∃ g, p = some ⟨g, 0, none⟩ ∧ g < w.heap.size ∧ w.cell? ⟨g, j, none⟩ = some (.string x) := by
  rcases h.own.2 with ⟨hv, hz⟩ | ⟨g, cap, cur, hv, hbase, hb, k1, k2, k3, k4⟩
  · refine ⟨none, 0, by rw [hv, hz], fun j x hx => ?_⟩
    have : zs = [] := List.eq_nil_of_length_eq_zero hz
    subst this; simp at hx
  · subst hv
    exact ⟨some ⟨g, 0, none⟩, cap, rfl, fun j x hx => ⟨g, rfl, (Array.getElem?_eq_some_iff.1 hb).1, (h.at_ hx).1⟩⟩
theorem mul_whole (a b : Int) (h1 : 0 ≤ a ∧ a ≤ 2147483648) (h2 : 0 ≤ b ∧ b ≤ 2147483648) : ∃ r, floatBits .mul .f64 (floatOfInt .f64 a) (floatOfInt .f64 b) = some r := by
  have key : ∀ n : Int, 0 ≤ n ∧ n ≤ 2147483648 → Ieee.rung (floatOfInt .f64 n) < infR := fun n hn => by
    obtain ⟨r, e1, e2, _, e4, _⟩ := Ieee.num_ok n.toNat (by omega)
    have e : ((n.toNat : Nat) : Int) = n := by omega
    rw [e] at e1
    show Ieee.rung (Ieee.intF n) < _
    rw [e1, e4]
    unfold infR
    omega
  exact ⟨_, Ieee.mul_fin _ _ (key a h1) (key b h2)⟩
theorem take_more {α : Type} (l : List α) (k : Nat) (x : α) (h : l[k]? = some x) : l.take (k + 1) = l.take k ++ [x] := by
  rw [List.take_add_one, h]; rfl
end Go.Proofs.YthidjbobjjoekaaGreat
