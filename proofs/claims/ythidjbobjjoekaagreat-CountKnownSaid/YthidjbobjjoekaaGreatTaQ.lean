/- The document's Count, its order and its put, over entries in memory. Conditions: those of each theorem. -/
import Derived.Test.YthidjbobjjoekaaGreatTaH
import Derived.Test.YthidjbobjjoekaaGreatQx
namespace Go.Proofs.YthidjbobjjoekaaGreat
open Go.RowKit Go.Lib Go.Sort Go.Shelf
set_option linter.unusedVariables false
set_option linter.unusedSimpArgs false
theorem strs_beq (y x : ByteArray) : (y.toList == x.toList) = decide (y = x) := by
  rw [Lib.toList_data, Lib.toList_data]
  by_cases h : y = x
  · subst h; simp
  · rw [decide_eq_false h, beq_eq_false_iff_ne]; exact fun e => h (ba_ext e)
theorem less_iff (x y : ByteArray) : Op.bytesLess x.toList y.toList = true ↔ x.data.toList < y.data.toList := by
  rw [Proofs.bytesLess_eq, Lib.toList_data, Lib.toList_data]; simp
/-- a slice of entries, opened -/
theorem EntsIn.opened {w : World} {v : Value} {L : List Ent} (h : EntsIn w v L) : ∃ p cap, v = .slice p L.length cap ∧
    ∀ j x, L[j]? = some x → ∃ g, p = some ⟨g, 0, none⟩ ∧ g < w.heap.size ∧ w.cell? ⟨g, j * 2, none⟩ = some (.string x.1) ∧ w.cell? ⟨g, j * 2 + 1, none⟩ = some (.int .i64 x.2) := by
  rcases h with ⟨rfl, rfl⟩ | ⟨g, cap, rfl, hg, hat⟩
  · exact ⟨none, 0, rfl, fun j x hx => by simp at hx⟩
  · exact ⟨_, cap, rfl, fun j x hx => ⟨g, rfl, hg, hat j x hx⟩⟩
theorem own_ents {w : World} {b : Nat} {t : TypeId} {v : Value} {out : List Ent} (h : w.ownsRow b t 2 v out.length (flatE out)) : EntsIn w v out := by
  rcases h.2 with ⟨hv, hx⟩ | ⟨g, cap, cur, hv, hbase, hb, k1, k2, k3, k4⟩
  · refine .inl ⟨?_, hv⟩
    cases out with
    | nil => rfl
    | cons x r => simp at hx
  · exact .inr ⟨g, cap, hv, (Array.getElem?_eq_some_iff.1 hb).1, fun k x hx => by
      obtain ⟨e1, e2⟩ := flatE_get out k x hx
      exact ⟨blk_cell hb (take_get k4 e1), blk_cell hb (take_get k4 e2)⟩⟩
theorem countL_drop {L : List Ent} {j : Nat} {x : Ent} (hx : L[j]? = some x) (k : ByteArray) : countL (L.drop j) k = if x.1 = k then x.2 else countL (L.drop (j + 1)) k := by
  have hlt := (List.getElem?_eq_some_iff.1 hx)
  obtain ⟨hlt, he⟩ := hlt
  rw [List.drop_eq_getElem_cons hlt, he]; rfl
end Go.Proofs.YthidjbobjjoekaaGreat
