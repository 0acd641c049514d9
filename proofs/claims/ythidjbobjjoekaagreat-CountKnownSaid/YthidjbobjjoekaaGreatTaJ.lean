/- A tally takes over another one's entries: (*Tally).Merge, where the sum is not too great. Conditions: those of each theorem. -/
import Derived.Test.YthidjbobjjoekaaGreatTaF
import Derived.Test.YthidjbobjjoekaaGreatTaH
import Derived.Test.YthidjbobjjoekaaGreatSh
namespace Go.Proofs.YthidjbobjjoekaaGreat
open Go.RowKit Go.Lib Go.Sort Go.Shelf
set_option linter.unusedVariables false
set_option linter.unusedSimpArgs false
section
variable {w w' : World} {b m : Nat} {L : List Ent}
/-- 'counts[k] += n' and 'total += n', as equations of the operations -/
theorem Tal.push (h : Tal w b m L) (k : ByteArray) (n : Int) (hk : k.size ≤ maxLen) (h1 : 0 < n) (h2 : sumL L + n ≤ 2147483648) (h3 : k ∈ keysL L ∨ L.length < 4096) :
    ∃ w1, (Instr.mapUpdate 68 (.map (some m)) (.string k) (.int .i64 (countL L k + n))).run Tryz.prog w = .ok () w1 ∧ w1.cell? ⟨b, 1, none⟩ = some (.int .i64 (sumL L)) ∧ w1.frozen? ⟨b, 1, none⟩ = false ∧ b < w1.heap.size ∧
      Tal (w1.setCell ⟨b, 1, none⟩ (.int .i64 (sumL L + n))) b m (putL L k n) ∧ But2 b m w (w1.setCell ⟨b, 1, none⟩ (.int .i64 (sumL L + n))) ∧ (w1.setCell ⟨b, 1, none⟩ (.int .i64 (sumL L + n))).heap.size = w.heap.size := by
  have hne := h.ne
  have hE := h.he.put h.nd k n hk h1 h2 h3
  have hS := put_sum h.nd k n
  obtain ⟨k1, k2⟩ := countL_le k h.he.pos
  have hs0 := sumL_pos h.he.pos
  obtain ⟨D, hm, ht⟩ := h.hm
  have hsz := ht.size
  have hlen := h.he.len
  have hkey : keyOf Tryz.prog 9 (.string k) = some (keyL k) := Go.WideMaps.keyOf_string_mk Tryz.underlying9 hk
  have hwf : (Lit.int .i64 (countL L k + n)).wf = true := by simp [Lit.wf, IntKind.min, IntKind.max, IntKind.signed, IntKind.bits]; omega
  obtain ⟨w1, hup, hm1, hg0⟩ := hm.store (t := 68) (e := 3) (val := .int .i64 (countL L k + n)) kS Tryz.underlying68 (by unfold maxLen; omega) hkey (plainElem_int Tryz.underlying3 hwf)
  have hT := ht.put (hm.tidy kS) k n
  have hg1 := hg0.grown
  have hsz1 : w1.heap.size = w.heap.size := by
    obtain ⟨es, clock, es', clock', _, rfl⟩ := hg0
    simp [Go.ChangeMaps.setBlock]
  have hb1 := h.hb.kept hg1 (by intro e; exact hne (by injection e))
  refine ⟨w1, hup, hb1.cell (k := 1) rfl, hb1.froz 1, hb1.lt, ⟨?_, ⟨_, (map_exact hm1).block (Below.heap_setCell w1 ⟨b, 1, none⟩ _ m hne.symm), hT⟩, hE⟩, ⟨hg1.os, hg1.tape, hg1.output, by simpa using hg1.size, ?_⟩, by simpa using hsz1⟩
  · rw [hS]; exact hb1.set 1 _
  · intro j hj h4 h5
    exact (Below.heap_setCell w1 ⟨b, 1, none⟩ _ j h4).trans (hg1.block j hj (by intro e; exact h5 (by injection e)))
end
/-- entries taken over one by one -/
def foldP (L : List Ent) (out : List Ent) : List Ent := out.foldl (fun l e => putL l e.1 e.2) L
theorem foldP_snoc (L out : List Ent) (x : Ent) : foldP L (out ++ [x]) = putL (foldP L out) x.1 x.2 := by unfold foldP; simp
theorem put_nd {L : List Ent} (hn : (keysL L).Nodup) (k : ByteArray) (n : Int) : (keysL (putL L k n)).Nodup := by
  have hp : (keysL (putL L k n)).Perm (k :: keysL (dropL L k)) := (insE_perm _ _).map _
  rw [hp.nodup_iff, List.nodup_cons]
  refine ⟨fun hk => ?_, (hn.sublist ((List.filter_sublist).map _))⟩
  obtain ⟨x, hx, e⟩ := List.mem_map.1 hk
  exact (dropL_mem.1 hx).2 e
theorem foldP_nd {L : List Ent} (hn : (keysL L).Nodup) : ∀ out, (keysL (foldP L out)).Nodup := by
  intro out
  induction out generalizing L with
  | nil => exact hn
  | cons x r ih => exact ih (put_nd hn x.1 x.2)
theorem foldP_sum {L : List Ent} (hn : (keysL L).Nodup) : ∀ out, sumL (foldP L out) = sumL L + sumL out := by
  intro out
  induction out generalizing L with
  | nil => simp [foldP, sumL]
  | cons x r ih =>
    have := ih (put_nd hn x.1 x.2)
    show sumL (foldP (putL L x.1 x.2) r) = _
    rw [this, put_sum hn]
    simp only [sumL]
    omega
theorem foldP_len {L : List Ent} (hn : (keysL L).Nodup) : ∀ out, (foldP L out).length ≤ L.length + out.length := by
  intro out
  induction out generalizing L with
  | nil => simp [foldP]
  | cons x r ih =>
    have := ih (put_nd hn x.1 x.2)
    show (foldP (putL L x.1 x.2) r).length ≤ _
    have h2 := put_len hn x.1 x.2
    simp only [List.length_cons]
    split at h2 <;> omega
theorem nodup_sub : ∀ {l L : List Ent}, l.Nodup → (∀ x ∈ l, x ∈ L) → ∃ r, (l ++ r).Perm L
  | [], L, _, _ => ⟨L, List.Perm.refl _⟩
  | x :: l, L, h, hs => by
    obtain ⟨h1, h2⟩ := List.nodup_cons.1 h
    obtain ⟨A, B, rfl⟩ := List.append_of_mem (hs x (List.mem_cons_self ..))
    obtain ⟨r, hr⟩ := nodup_sub (l := l) (L := A ++ B) h2 fun y hy => by
      have := hs y (List.mem_cons_of_mem _ hy)
      rcases List.mem_append.1 this with h3 | h3
      · exact List.mem_append_left _ h3
      · rcases List.mem_cons.1 h3 with rfl | h3
        · exact absurd hy h1
        · exact List.mem_append_right _ h3
    exact ⟨r, (List.Perm.cons x hr).trans List.perm_middle.symm⟩
theorem Got.mem {D : Dt} {left : Lit → Bool} {out : List Ent} (h : Got D left out) {L : List Ent} (hL : Tly D L) {x : Ent} (hx : x ∈ out) : x ∈ L := by
  have hh : Maps.has D (keyL x.1) = true := Maps.has_true_of_atKey (h.at_ x hx)
  rw [hL.has, decide_eq_true_eq] at hh
  obtain ⟨y, hy, e⟩ := List.mem_map.1 hh
  have h1 := h.at_ x hx (numD 0)
  have h2 := hL.at_ y hy (numD 0)
  rw [e, h1] at h2
  have h3 : x.2 = y.2 := by unfold numD at h2; exact (Lit.int.inj (DataW.lit.inj h2)).2
  have : x = y := Prod.ext e.symm h3
  rw [this]; exact hy
theorem Got.sub {D : Dt} {left : Lit → Bool} {out : List Ent} (h : Got D left out) {L : List Ent} (hL : Tly D L) (hp : ∀ x ∈ L, 0 < x.2) : out.length ≤ L.length ∧ sumL out ≤ sumL L := by
  have hnd : out.Nodup := List.Pairwise.of_map (S := (· ≠ ·)) (fun x : Ent => x.1) (fun a b hab e => hab (by rw [e])) h.nd
  obtain ⟨r, hr⟩ := nodup_sub hnd fun x hx => h.mem hL hx
  have h1 := hr.length_eq
  have h2 := sumL_perm hr
  rw [sumL_append] at h2
  rw [List.length_append] at h1
  have h3 := sumL_pos (L := r) fun x hx => hp x (hr.subset (List.mem_append_right _ hx))
  omega
end Go.Proofs.YthidjbobjjoekaaGreat
