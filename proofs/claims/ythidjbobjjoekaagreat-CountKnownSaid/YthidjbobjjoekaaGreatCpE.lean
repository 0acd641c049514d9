/- Words in order: what stands for both hands' row of words in Cosine. No program walked but for the reading of rows. Conditions: those of each theorem. -/
import Derived.Test.YthidjbobjjoekaaGreatCpD
import Derived.Laws.OwnMore
namespace Go.Proofs.YthidjbobjjoekaaGreat
open Go.RowKit Go.Lib Go.Sort Go.Shelf
set_option linter.unusedVariables false
set_option linter.unusedSimpArgs false
set_option maxHeartbeats 1000000
open Ieee (infR)
def ltS (a b : ByteArray) : Prop := a.data.toList < b.data.toList
def leS (a b : ByteArray) : Prop := a.data.toList ≤ b.data.toList
theorem leS_trans {a b c : ByteArray} (h : leS a b) (k : leS b c) : leS a c := List.le_trans h k
theorem leS_of_lt {a b : ByteArray} (h : ltS a b) : leS a b := List.le_of_lt h
theorem leS_not {a b : ByteArray} (h : ¬ ltS a b) : leS b a := List.not_lt.1 h
theorem ltS_of_le {a b : ByteArray} (h : leS a b) (hne : a ≠ b) : ltS a b := by
  rcases lst_tri a.data.toList b.data.toList with h1 | h1 | h1
  · exact h1
  · exact absurd (ba_ext h1) hne
  · exact absurd h1 (List.not_lt.2 h)
theorem up_getS {l : List ByteArray} (h : l.Pairwise fun a b => leS a b) {a b : Nat} {x y : ByteArray} (hab : a < b) (hx : l[a]? = some x) (hy : l[b]? = some y) : leS x y := by
  obtain ⟨ha, rfl⟩ := List.getElem?_eq_some_iff.1 hx
  obtain ⟨hb, rfl⟩ := List.getElem?_eq_some_iff.1 hy
  exact List.pairwise_iff_getElem.1 h a b ha hb hab
/-- all words of two lists, rising -/
structure Words (L M : List Ent) (W : List ByteArray) : Prop where
  srt : W.Pairwise ltS
  mem : ∀ k, k ∈ W ↔ k ∈ keysL L ∨ k ∈ keysL M
theorem ltS_nodup {W : List ByteArray} (h : W.Pairwise ltS) : W.Nodup := h.imp fun {a b} hl e => by subst e; exact List.lt_irrefl _ hl
theorem Words.uniq {L M : List Ent} {W W' : List ByteArray} (h : Words L M W) (k : Words L M W') : W = W' := by
  refine List.Perm.eq_of_pairwise (le := ltS) (fun a b _ _ h1 h2 => absurd (List.lt_trans h1 h2) (List.lt_irrefl _)) h.srt k.srt ((List.perm_ext_iff_of_nodup (ltS_nodup h.srt) (ltS_nodup k.srt)).2 fun x => ?_)
  rw [h.mem, k.mem]
theorem words_of {L M : List Ent} {W : List ByteArray} (h : W.Pairwise leS) (hn : W.Nodup) (hm : ∀ k, k ∈ W ↔ k ∈ keysL L ∨ k ∈ keysL M) : Words L M W :=
  ⟨(h.and hn).imp fun {a b} ⟨h1, h2⟩ => ltS_of_le h1 h2, hm⟩
def sortW (l : List ByteArray) : List ByteArray := l.mergeSort fun a b => decide (a.data.toList ≤ b.data.toList)
theorem sortW_le (l : List ByteArray) : (sortW l).Pairwise leS := by
  have h := List.pairwise_mergeSort (le := fun a b : ByteArray => decide (a.data.toList ≤ b.data.toList)) (fun a b c h k => by simp only [decide_eq_true_eq] at *; exact List.le_trans h k) (fun a b => by simp only [Bool.or_eq_true, decide_eq_true_eq]; exact List.le_total _ _) l
  exact h.imp fun {a b} h => of_decide_eq_true h
theorem words_ex {L M : List Ent} (hn : (keysL L).Nodup) : ∃ W, Words L M W := by
  refine ⟨sortW (keysL (foldP L M)), words_of (sortW_le _) ((List.mergeSort_perm _ _).nodup_iff.2 (foldP_nd hn M)) fun k => ?_⟩
  rw [show k ∈ sortW (keysL (foldP L M)) ↔ k ∈ keysL (foldP L M) from (List.mergeSort_perm _ _).mem_iff]
  have hf : ∀ (M L : List Ent), k ∈ keysL (foldP L M) ↔ k ∈ keysL L ∨ k ∈ keysL M := by
    intro M
    induction M with
    | nil => intro L; simp [foldP, keysL]
    | cons x r ih =>
      intro L
      show k ∈ keysL (foldP (putL L x.1 x.2) r) ↔ _
      rw [ih, keys_put]
      have : keysL (x :: r) = x.1 :: keysL r := rfl
      rw [this, List.mem_cons]
      constructor
      · rintro ((h | h) | h)
        · exact .inr (.inl h)
        · exact .inl h
        · exact .inr (.inr h)
      · rintro (h | h | h)
        · exact .inl (.inr h)
        · exact .inl (.inl h)
        · exact .inr h
  exact hf M L
/-- a sum over words -/
def cosS (L M : List Ent) (W : List ByteArray) : Option Nat := W.foldl (fun s k => opF .add s (opF .mul (some (floatOfInt .f64 (countL L k))) (some (floatOfInt .f64 (countL M k))))) (some 0)
theorem cosS_snoc (L M : List Ent) (W : List ByteArray) (k : ByteArray) : cosS L M (W ++ [k]) = opF .add (cosS L M W) (opF .mul (some (floatOfInt .f64 (countL L k))) (some (floatOfInt .f64 (countL M k)))) := by unfold cosS; rw [List.foldl_append]; rfl
def cosV (L M : List Ent) (W : List ByteArray) : Option Nat := if L.length = 0 ∨ M.length = 0 then none else (opF .quo (cosS L M W) (opF .mul (sqrtF (cosS L L W)) (sqrtF (cosS M M W)))).map zeroV
def encS (k : ByteArray) : Value := .string k
/-- sorted but for what stands at k -/
def InsS (zs : List ByteArray) (k : Nat) : Prop := ∀ (a b : Nat) (x y : ByteArray), a < b → zs[a]? = some x → zs[b]? = some y → b ≠ k → leS x y
theorem InsS.push {ys : List ByteArray} (h : ys.Pairwise fun a b => leS a b) (x : ByteArray) : InsS (ys ++ [x]) ys.length := by
  intro a b u v hab hu hv hb
  have hbl : b < ys.length := by
    have := (List.getElem?_eq_some_iff.1 hv).1
    simp at this
    omega
  rw [List.getElem?_append_left (by omega)] at hu
  rw [List.getElem?_append_left hbl] at hv
  exact up_getS h hab hu hv
theorem InsS.done {zs : List ByteArray} {k : Nat} (h : InsS zs k) (hk : k = 0 ∨ ∃ x0 x1, zs[k - 1]? = some x0 ∧ zs[k]? = some x1 ∧ leS x0 x1) : zs.Pairwise fun a b => leS a b := by
  rw [List.pairwise_iff_getElem]
  intro a b ha hb hab
  have ea : zs[a]? = some zs[a] := List.getElem?_eq_getElem ha
  have eb : zs[b]? = some zs[b] := List.getElem?_eq_getElem hb
  by_cases hbk : b = k
  · rcases hk with h0 | ⟨x0, x1, e0, e1, hle⟩
    · omega
    · subst hbk
      rw [eb] at e1
      cases e1
      by_cases hak : a = b - 1
      · subst hak
        rw [ea] at e0
        cases e0
        exact hle
      · exact leS_trans (h a (b - 1) _ _ (by omega) ea e0 (by omega)) hle
  · exact h a b _ _ hab ea eb hbk
def swpS (zs : List ByteArray) (k : Nat) (x0 x1 : ByteArray) : List ByteArray := (zs.set k x0).set (k - 1) x1
theorem swpS_perm {zs : List ByteArray} {k : Nat} {x0 x1 : ByteArray} (hk : 0 < k) (e0 : zs[k - 1]? = some x0) (e1 : zs[k]? = some x1) : (swpS zs k x0 x1).Perm zs := by
  obtain ⟨h0, rfl⟩ := List.getElem?_eq_some_iff.1 e0
  obtain ⟨h1, rfl⟩ := List.getElem?_eq_some_iff.1 e1
  exact List.set_set_perm h1 h0
theorem swpS_get {zs : List ByteArray} {k : Nat} {x0 x1 : ByteArray} (hk : 0 < k) (e0 : zs[k - 1]? = some x0) (e1 : zs[k]? = some x1) (j : Nat) : (swpS zs k x0 x1)[j]? = if j = k - 1 then some x1 else if j = k then some x0 else zs[j]? := by
  obtain ⟨h0, _⟩ := List.getElem?_eq_some_iff.1 e0
  obtain ⟨h1, _⟩ := List.getElem?_eq_some_iff.1 e1
  unfold swpS
  rw [List.getElem?_set, List.getElem?_set, List.length_set]
  by_cases a : j = k - 1
  · subst a
    rw [if_pos rfl, if_pos (by omega), if_pos rfl]
  · by_cases b : j = k
    · subst b
      rw [if_neg (by omega), if_pos rfl, if_pos h1, if_neg a, if_pos rfl]
    · rw [if_neg (fun h => a h.symm), if_neg (fun h => b h.symm), if_neg a, if_neg b]
theorem InsS.swap {zs : List ByteArray} {k : Nat} {x0 x1 : ByteArray} (h : InsS zs k) (hk : 0 < k) (e0 : zs[k - 1]? = some x0) (e1 : zs[k]? = some x1) (hlt : leS x1 x0) : InsS (swpS zs k x0 x1) (k - 1) := by
  intro a b x y hab hx hy hb
  rw [swpS_get hk e0 e1] at hx hy
  rw [if_neg hb] at hy
  by_cases hbk : b = k
  · rw [if_pos hbk] at hy
    cases hy
    by_cases hak : a = k - 1
    · rw [if_pos hak] at hx
      cases hx
      exact hlt
    · rw [if_neg hak, if_neg (by omega)] at hx
      exact h a (k - 1) _ _ (by omega) hx e0 (by omega)
  · rw [if_neg hbk] at hy
    by_cases hak : a = k - 1
    · rw [if_pos hak] at hx
      cases hx
      exact h k b _ _ (by omega) e1 hy hbk
    · rw [if_neg hak] at hx
      by_cases hak2 : a = k
      · rw [if_pos hak2] at hx
        cases hx
        exact h (k - 1) b _ _ (by omega) e0 hy hbk
      · rw [if_neg hak2] at hx
        exact h a b _ _ hab hx hy hbk
/-- a row of words of one's own, in memory -/
structure OwnS (w0 w : World) (v : Value) (zs : List ByteArray) : Prop where
  own : w.ownsRow w0.heap.size 9 1 v zs.length (zs.map encS)
  low : Below w0.heap.size w0 w
theorem OwnS.drewN {w0 w : World} {v : Value} {zs : List ByteArray} (h : OwnS w0 w v zs) (q : Nat) : OwnS w0 (w.drewN q) v zs := ⟨h.own, below_drewN h.low q⟩
theorem OwnS.at_ {w0 w : World} {g cap : Nat} {zs : List ByteArray} (h : OwnS w0 w (.slice (some ⟨g, 0, none⟩) zs.length cap) zs) {j : Nat} {x : ByteArray} (hx : zs[j]? = some x) : w.cell? ⟨g, j, none⟩ = some (.string x) ∧ w.frozen? ⟨g, j, none⟩ = false := by
  have hj := (List.getElem?_eq_some_iff.1 hx).1
  refine ⟨?_, h.own.frozenAt j⟩
  rw [h.own.cellAt j (by omega), List.getElem?_map, hx]; rfl
theorem OwnS.put {w0 w : World} {g cap : Nat} {zs : List ByteArray} (h : OwnS w0 w (.slice (some ⟨g, 0, none⟩) zs.length cap) zs) (j : Nat) (x : ByteArray) : OwnS w0 (w.setCell ⟨g, j, none⟩ (.string x)) (.slice (some ⟨g, 0, none⟩) (zs.set j x).length cap) (zs.set j x) := by
  have s := h.own.stored j (.string x)
  have hg := (h.own.lt g rfl).1
  have e : (zs.set j x).map encS = (zs.map encS).set j (.string x) := by rw [List.map_set]; rfl
  exact ⟨by rw [List.length_set, e]; exact s.1, h.low.grown s.2 h.low.size (fun k e => by cases e; exact hg)⟩
theorem infoS : (Tryz.prog.info? 9).map (fun i => (i.zero, i.size, i.bytes)) = some (some (.string ByteArray.empty), 1, 16) := by kernel_rfl
end Go.Proofs.YthidjbobjjoekaaGreat
