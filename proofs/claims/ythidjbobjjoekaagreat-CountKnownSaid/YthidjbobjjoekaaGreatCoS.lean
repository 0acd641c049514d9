/- The document's insertion sort. Conditions: none beyond each theorem's own. -/
import Derived.Test.YthidjbobjjoekaaGreatCoQ
import Derived.Laws.OwnMore
import Derived.BigRegion
namespace Go.Proofs.YthidjbobjjoekaaGreat
open Go.RowKit Go.Lib Go.Sort Go.Shelf
set_option linter.unusedVariables false
set_option linter.unusedSimpArgs false
set_option maxHeartbeats 1000000
open Ieee (infR)
/-- sorted but for what stands at k -/
def Ins (zs : List Nat) (k : Nat) : Prop := ∀ (a b x y : Nat), a < b → zs[a]? = some x → zs[b]? = some y → b ≠ k → rank x ≤ rank y
theorem Ins.push {ys : List Nat} (h : ys.Pairwise fun a b => rank a ≤ rank b) (x : Nat) : Ins (ys ++ [x]) ys.length := by
  intro a b u v hab hu hv hb
  have hbl : b < ys.length := by
    have := (List.getElem?_eq_some_iff.1 hv).1
    simp at this
    omega
  rw [List.getElem?_append_left (by omega)] at hu
  rw [List.getElem?_append_left hbl] at hv
  exact up_get h hab hu hv
theorem Ins.done {zs : List Nat} {k : Nat} (h : Ins zs k) (hk : k = 0 ∨ ∃ x0 x1, zs[k - 1]? = some x0 ∧ zs[k]? = some x1 ∧ rank x0 ≤ rank x1) : zs.Pairwise fun a b => rank a ≤ rank b := by
  rw [List.pairwise_iff_getElem]
  intro a b ha hb hab
  have ea : zs[a]? = some zs[a] := List.getElem?_eq_getElem ha
  have eb : zs[b]? = some zs[b] := List.getElem?_eq_getElem hb
  by_cases hbk : b = k
  · rcases hk with h0 | ⟨x0, x1, e0, e1, hle⟩
    · omega
    · subst hbk
      rw [eb] at e1
      cases e1
      by_cases hak : a = b - 1
      · subst hak
        rw [ea] at e0
        cases e0
        exact hle
      · exact Int.le_trans (h a (b - 1) _ _ (by omega) ea e0 (by omega)) hle
  · exact h a b _ _ hab ea eb hbk
def swp (zs : List Nat) (k x0 x1 : Nat) : List Nat := (zs.set k x0).set (k - 1) x1
theorem swp_perm {zs : List Nat} {k x0 x1 : Nat} (hk : 0 < k) (e0 : zs[k - 1]? = some x0) (e1 : zs[k]? = some x1) : (swp zs k x0 x1).Perm zs := by
  obtain ⟨h0, rfl⟩ := List.getElem?_eq_some_iff.1 e0
  obtain ⟨h1, rfl⟩ := List.getElem?_eq_some_iff.1 e1
  exact List.set_set_perm h1 h0
theorem swp_get {zs : List Nat} {k x0 x1 : Nat} (hk : 0 < k) (e0 : zs[k - 1]? = some x0) (e1 : zs[k]? = some x1) (j : Nat) : (swp zs k x0 x1)[j]? = if j = k - 1 then some x1 else if j = k then some x0 else zs[j]? := by
  obtain ⟨h0, _⟩ := List.getElem?_eq_some_iff.1 e0
  obtain ⟨h1, _⟩ := List.getElem?_eq_some_iff.1 e1
  unfold swp
  rw [List.getElem?_set, List.getElem?_set, List.length_set]
  by_cases a : j = k - 1
  · subst a
    rw [if_pos rfl, if_pos (by omega), if_pos rfl]
  · by_cases b : j = k
    · subst b
      rw [if_neg (by omega), if_pos rfl, if_pos h1, if_neg a, if_pos rfl]
    · rw [if_neg (fun h => a h.symm), if_neg (fun h => b h.symm), if_neg a, if_neg b]
theorem Ins.swap {zs : List Nat} {k x0 x1 : Nat} (h : Ins zs k) (hk : 0 < k) (e0 : zs[k - 1]? = some x0) (e1 : zs[k]? = some x1) (hlt : rank x1 ≤ rank x0) : Ins (swp zs k x0 x1) (k - 1) := by
  intro a b x y hab hx hy hb
  rw [swp_get hk e0 e1] at hx hy
  rw [if_neg hb] at hy
  by_cases hbk : b = k
  · rw [if_pos hbk] at hy
    cases hy
    by_cases hak : a = k - 1
    · rw [if_pos hak] at hx
      cases hx
      exact hlt
    · rw [if_neg hak, if_neg (by omega)] at hx
      exact h a (k - 1) _ _ (by omega) hx e0 (by omega)
  · rw [if_neg hbk] at hy
    by_cases hak : a = k - 1
    · rw [if_pos hak] at hx
      cases hx
      exact h k b _ _ (by omega) e1 hy hbk
    · rw [if_neg hak] at hx
      by_cases hak2 : a = k
      · rw [if_pos hak2] at hx
        cases hx
        exact h (k - 1) b _ _ (by omega) e0 hy hbk
      · rw [if_neg hak2] at hx
        exact h a b _ _ hab hx hy hbk
theorem cells_new1 (w : World) (v : Value) (T : TypeId) : ∀ j u, [v][j]? = some u → (w.alloc (.cells #[v] T)).cell? ((⟨w.heap.size, 0, none⟩ : Addr).add j) = some u := by
  intro j u hj
  match j, hj with
  | 0, hj => simp at hj; subst hj; simp [Addr.add]
/-- a sorted copy under way, in memory -/
structure Own (w0 w : World) (v : Value) (zs : List Nat) : Prop where
  own : w.ownsRow w0.heap.size 23 1 v zs.length (zs.map encF)
  low : Below w0.heap.size w0 w
theorem Own.drewN {w0 w : World} {v : Value} {zs : List Nat} (h : Own w0 w v zs) (q : Nat) : Own w0 (w.drewN q) v zs := ⟨h.own, below_drewN h.low q⟩
theorem Own.at_ {w0 w : World} {g cap : Nat} {zs : List Nat} (h : Own w0 w (.slice (some ⟨g, 0, none⟩) zs.length cap) zs) {j x : Nat} (hx : zs[j]? = some x) : w.cell? ⟨g, j, none⟩ = some (.float .f64 x) ∧ w.frozen? ⟨g, j, none⟩ = false := by
  have hj := (List.getElem?_eq_some_iff.1 hx).1
  refine ⟨?_, h.own.frozenAt j⟩
  rw [h.own.cellAt j (by omega), List.getElem?_map, hx]; rfl
theorem Own.put {w0 w : World} {g cap : Nat} {zs : List Nat} (h : Own w0 w (.slice (some ⟨g, 0, none⟩) zs.length cap) zs) (j x : Nat) : Own w0 (w.setCell ⟨g, j, none⟩ (.float .f64 x)) (.slice (some ⟨g, 0, none⟩) (zs.set j x).length cap) (zs.set j x) := by
  have s := h.own.stored j (.float .f64 x)
  have hg := (h.own.lt g rfl).1
  have e : (zs.set j x).map encF = (zs.map encF).set j (.float .f64 x) := by rw [List.map_set]; rfl
  exact ⟨by rw [List.length_set, e]; exact s.1, h.low.grown s.2 h.low.size (fun k e => by cases e; exact hg)⟩
theorem run_store_flt (P : Program) (w : World) (a : Addr) (m : Mode) (k : FloatKind) (b : Nat) : (store a (.float k b) m).run P w = stored P w a (.float k b) m := run_store P w a _ m rfl
attribute [local go_sem] run_store_flt
end Go.Proofs.YthidjbobjjoekaaGreat
