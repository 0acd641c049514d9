/- The entries of a tally, in order: (*Tally).entries walked, whatever order the map gives. Conditions: none beyond the tally's own. -/
import Derived.Test.YthidjbobjjoekaaGreatTaD
import Derived.Test.YthidjbobjjoekaaGreatSh
import Derived.Shelf.SlSortCmp.NoneTotal
namespace Go.Proofs.YthidjbobjjoekaaGreat
open Go.RowKit Go.Lib Go.Sort Go.Shelf
set_option linter.unusedVariables false
set_option linter.unusedSimpArgs false
theorem cells_new2 (w : World) (a0 a1 : Value) (T : TypeId) : ∀ j u, [a0, a1][j]? = some u → (w.alloc (.cells #[a0, a1] T)).cell? ((⟨w.heap.size, 0, none⟩ : Addr).add j) = some u := by
  intro j u hj
  match j, hj with
  | 0, hj => simp at hj; subst hj; simp [Addr.add]
  | 1, hj => simp at hj; subst hj; simp [Addr.add]
def flatE (l : List Ent) : List Value := l.flatMap encE
theorem flatE_get : ∀ (l : List Ent) (k : Nat) (x : Ent), l[k]? = some x → (flatE l)[k * 2]? = some (.string x.1) ∧ (flatE l)[k * 2 + 1]? = some (.int .i64 x.2)
  | [], k, x, h => by simp at h
  | y :: r, 0, x, h => by
    simp at h
    subst h
    exact ⟨rfl, rfl⟩
  | y :: r, k + 1, x, h => by
    have ih := flatE_get r k x (by simpa using h)
    have e : flatE (y :: r) = Value.string y.1 :: Value.int .i64 y.2 :: flatE r := rfl
    rw [e, show (k + 1) * 2 = k * 2 + 1 + 1 by omega]
    simpa using ih
theorem flatE_snoc (l : List Ent) (x : Ent) : flatE (l ++ [x]) = flatE l ++ [.string x.1, .int .i64 x.2] := by
  unfold flatE; simp [encE]
/-- entries as they lie in an array -/
def EntAt (w : World) (g : Nat) (L : List Ent) : Prop := ∀ k x, L[k]? = some x → w.cell? ⟨g, k * 2, none⟩ = some (.string x.1) ∧ w.cell? ⟨g, k * 2 + 1, none⟩ = some (.int .i64 x.2)
theorem holdsE {w : World} {g : Nat} {L : List Ent} (h : EntAt w g L) (hf : ∀ k, w.frozen? ⟨g, k, none⟩ = false) : HoldsK encE 2 w g 0 L.toArray := by
  intro j hj
  rw [size_flatK] at hj
  have hk : j / 2 < L.length := by simp at hj; omega
  obtain ⟨x, hx⟩ : ∃ x, L[j / 2]? = some x := ⟨_, List.getElem?_eq_getElem hk⟩
  refine ⟨?_, hf _⟩
  rw [get_flatK _ _ _ _ hj]
  have e1 : L.toArray[j / 2]! = x := by
    rw [getElem!_pos _ _ (by simpa using hk)]
    have := List.getElem?_eq_some_iff.1 hx
    obtain ⟨h1, h2⟩ := this
    simpa using h2
  rw [e1]
  obtain ⟨c1, c2⟩ := h _ _ hx
  rcases Nat.mod_two_eq_zero_or_one j with h2 | h2
  · rw [h2, show 0 + j = j / 2 * 2 by omega, c1]; rfl
  · rw [h2, show 0 + j = j / 2 * 2 + 1 by omega, c2]; rfl
theorem entE {w : World} {g : Nat} {L : List Ent} (h : HoldsK encE 2 w g 0 L.toArray) : EntAt w g L := by
  intro k x hx
  obtain ⟨h1, h2⟩ := List.getElem?_eq_some_iff.1 hx
  have e1 : L.toArray[k]! = x := by
    rw [getElem!_pos _ _ (by simpa using h1)]
    simpa using h2
  have c0 := (h.cell (i := k) (c := 0) (by simpa using h1) (by omega)).1
  have c1 := (h.cell (i := k) (c := 1) (by simpa using h1) (by omega)).1
  rw [e1, Nat.zero_add, Nat.add_zero] at c0
  rw [e1, Nat.zero_add] at c1
  exact ⟨c0, c1⟩
theorem grownBy_sortedK {w : World} {g n : Nat} {os : Array Obj} (d : Array Ent) : w.grownBy (sortWorldK encE 2 w g 0 n d os) (some g) := by
  unfold sortWorldK putRowK
  refine ⟨rfl, rfl, rfl, by simp, fun k hk hne => ?_⟩
  rw [heap_grow_old _ _ (by simpa using hk)]
  have : g ≠ k := fun e => hne (by rw [e])
  simp [putRow, mapBlock, Sort.ahead, Array.getElem?_modify, this]
theorem infoE : (Tryz.prog.info? 75).map (fun i => (i.zero, i.size, i.bytes)) = some (some (.agg #[.string ByteArray.empty, .int .i64 0]), 2, 24) := by kernel_rfl
theorem keyS_inv (key : Value) (kl : Lit) (h : keyOf Tryz.prog 9 key = some kl) : ∃ x : ByteArray, key = .string x := by
  cases key <;> simp [keyOf, Tryz.underlying9, mapKey] at h
  exact ⟨_, rfl⟩
theorem elem_inv (v : Value) (y : DataW Unit × List MemPlace) (h : plainElem Tryz.prog 3 v = some y) : ∃ c : Int, v = .int .i64 c := by
  obtain ⟨a, e, _⟩ := plainElem_int_inv Tryz.underlying3 h
  exact ⟨a, e⟩
/-- what entries hands back -/
def EntsBack (w : World) (L : List Ent) (v : Value) (w' : World) : Prop :=
  Below w.heap.size w w' ∧ ((L = [] ∧ v = .slice none 0 0) ∨ ∃ g cap, v = .slice (some ⟨g, 0, none⟩) L.length cap ∧ w.heap.size ≤ g ∧ g < w'.heap.size ∧ EntAt w' g L)
/-- the sort of what was collected -/
theorem sort_entries {w : World} {g cap : Nat} {out L : List Ent} (hp : out.Perm L) (hs : L.Pairwise ltE) (hH : HoldsK encE 2 w g 0 out.toArray) (hg : g < w.heap.size) (hl : out.length ≤ 4096) :
    Calls Tryz.prog 59 #[.slice (some ⟨g, 0, none⟩) out.length cap, .func (.func 60) #[] #[]] w fun e w' => e = .returned (.tuple #[]) ∧ EntAt w' g L ∧ w.grownBy w' (some g) := by
  have eg : ∀ args w, (callFunc 60 args).run Tryz.prog w = .ok (.enter 60 args) w := enters_of Tryz.func60 (by kernel_rfl) rfl
  have hcmp : CmpLays Tryz.prog 60 #[] encE 2 cfE g 0 out.toArray.size w := fun _ _ _ _ x y => closure78 x y _
  have hcon := AnyQ.slices_SortFunc_total Tryz.sortE 2 Tryz.isAgg75 Tryz.sizeOf75 encE (fun _ => rfl) (fun x v hv => by simp [encE] at hv; rcases hv with rfl | rfl <;> rfl) cfE swoE 60 #[] g 0 cap out.toArray w eg hcmp hH hg (by simp; omega) totE
  rw [merge_eq hp hs] at hcon
  have hsz : out.toArray.size = out.length := by simp
  rw [hsz] at hcon
  change Calls Tryz.prog 59 _ _ _ at hcon
  refine hcon.mono fun e w' ⟨he, n, os, hw⟩ => ⟨he, ?_, ?_⟩
  · rw [hw]
    exact entE (holdsK_sortWorldK_c encE 2 w g 0 out.toArray L.toArray n os hH hg (by simp [hp.length_eq]))
  · rw [hw]; exact grownBy_sortedK _
end Go.Proofs.YthidjbobjjoekaaGreat
