/- Words added one by one, and in two parts: one list of entries. No program walked. -/
import Derived.Test.YthidjbobjjoekaaGreatTaJ
namespace Go.Proofs.YthidjbobjjoekaaGreat
open Go.RowKit Go.Lib Go.Sort Go.Shelf
set_option linter.unusedVariables false
set_option linter.unusedSimpArgs false
theorem mem_keys_pos {L : List Ent} (hn : (keysL L).Nodup) (hp : ∀ x ∈ L, 0 < x.2) (k : ByteArray) : k ∈ keysL L ↔ 0 < countL L k := by
  constructor
  · intro h
    obtain ⟨x, hx, rfl⟩ := List.mem_map.1 h
    rw [countL_mem hn hx]
    exact hp x hx
  · intro h
    by_cases hk : k ∈ keysL L
    · exact hk
    · rw [countL_no hk] at h; omega
theorem ents_ext {L M : List Ent} (h1 : L.Pairwise ltE) (h2 : M.Pairwise ltE) (n1 : (keysL L).Nodup) (n2 : (keysL M).Nodup) (p1 : ∀ x ∈ L, 0 < x.2) (p2 : ∀ x ∈ M, 0 < x.2) (h : ∀ k, countL L k = countL M k) : L = M := by
  have hnd : ∀ {l : List Ent}, (keysL l).Nodup → l.Nodup := fun {l} h => List.Pairwise.of_map (S := (· ≠ ·)) (fun x : Ent => x.1) (fun a b hab e => hab (by rw [e])) h
  have key : ∀ {l m : List Ent}, (keysL l).Nodup → (keysL m).Nodup → (∀ x ∈ l, 0 < x.2) → (∀ x ∈ m, 0 < x.2) → (∀ k, countL l k = countL m k) → ∀ x, x ∈ l → x ∈ m := by
    intro l m a1 a2 a3 a4 a5 x hx
    have e1 := countL_mem a1 hx
    have e2 := a5 x.1
    have hk : x.1 ∈ keysL m := (mem_keys_pos a2 a4 x.1).2 (by rw [← e2, e1]; exact a3 x hx)
    obtain ⟨y, hy, e⟩ := List.mem_map.1 hk
    have e3 := countL_mem a2 hy
    rw [e, ← e2, e1] at e3
    have : x = y := Prod.ext e.symm e3
    rw [this]; exact hy
  exact sorted_eq h1 h2 ((List.perm_ext_iff_of_nodup (hnd n1) (hnd n2)).2 fun x => ⟨key n1 n2 p1 p2 h x, key n2 n1 p2 p1 (fun k => (h k).symm) x⟩)
theorem count_put {L : List Ent} (hn : (keysL L).Nodup) (k : ByteArray) (n : Int) (k' : ByteArray) : countL (putL L k n) k' = if k = k' then countL L k + n else countL L k' := by
  by_cases e : k = k'
  · subst e
    rw [if_pos rfl]
    exact countL_mem (put_nd hn k n) (x := (k, countL L k + n)) (insE_mem.2 (.inl rfl))
  · rw [if_neg e]
    by_cases hk : k' ∈ keysL L
    · obtain ⟨x, hx, rfl⟩ := List.mem_map.1 hk
      rw [countL_mem hn hx]
      exact countL_mem (put_nd hn k n) (insE_mem.2 (.inr (dropL_mem.2 ⟨hx, fun h => e h.symm⟩)))
    · rw [countL_no hk, countL_no]
      rw [keys_put, not_or]
      exact ⟨fun h => e h.symm, hk⟩
theorem countL_cons (x : Ent) (r : List Ent) (k : ByteArray) : countL (x :: r) k = if x.1 = k then x.2 else countL r k := rfl
theorem count_fold {L : List Ent} (hn : (keysL L).Nodup) : ∀ (out : List Ent), (keysL out).Nodup → ∀ k, countL (foldP L out) k = countL L k + countL out k := by
  intro out
  induction out generalizing L with
  | nil => intro _ k; simp [foldP, countL]
  | cons x r ih =>
    intro hout k
    unfold keysL at hout
    rw [List.map_cons, List.nodup_cons] at hout
    show countL (foldP (putL L x.1 x.2) r) k = _
    rw [ih (put_nd hn x.1 x.2) hout.2 k, count_put hn]
    rw [countL_cons]
    by_cases e : x.1 = k
    · rw [if_pos e, if_pos e, e, countL_no (L := r) (k := k) (by rw [← e]; exact hout.1)]
      omega
    · rw [if_neg e, if_neg e]
theorem count_perm {l m : List Ent} (hp : l.Perm m) (hn : (keysL l).Nodup) (k : ByteArray) : countL l k = countL m k := by
  have hm : (keysL m).Nodup := (hp.map (fun x : Ent => x.1)).nodup_iff.1 hn
  by_cases hk : k ∈ keysL l
  · obtain ⟨x, hx, rfl⟩ := List.mem_map.1 hk
    rw [countL_mem hn hx, countL_mem hm (hp.mem_iff.1 hx)]
  · rw [countL_no hk, countL_no]
    exact fun h => hk ((hp.map (fun x : Ent => x.1)).mem_iff.2 h)
/-- how often a word stands in a list -/
def occ : List ByteArray → ByteArray → Int
  | [], _ => 0
  | x :: r, k => (if x = k then 1 else 0) + occ r k
theorem occ_append (k : ByteArray) : ∀ l m : List ByteArray, occ (l ++ m) k = occ l k + occ m k
  | [], m => by simp [occ]
  | x :: r, m => by simp only [List.cons_append, occ, occ_append k r m]; omega
/-- words added one by one -/
def addL (ws : List ByteArray) : List Ent := ws.foldl (fun L w => putL L w 1) []
theorem addL_snoc (ws : List ByteArray) (x : ByteArray) : addL (ws ++ [x]) = putL (addL ws) x 1 := by unfold addL; simp
structure AddOk (ws : List ByteArray) : Prop where
  nd : (keysL (addL ws)).Nodup
  srt : (addL ws).Pairwise ltE
  sum : sumL (addL ws) = ws.length
  len : (addL ws).length ≤ ws.length
  cnt : ∀ k, countL (addL ws) k = occ ws k
  pos : ∀ x ∈ addL ws, 0 < x.2
theorem addOk_rev : ∀ ws : List ByteArray, AddOk ws.reverse
  | [] => ⟨List.nodup_nil, List.Pairwise.nil, rfl, Nat.le_refl _, fun k => rfl, by simp [addL]⟩
  | x :: r => by
    have ih := addOk_rev r
    rw [List.reverse_cons]
    refine ⟨?_, ?_, ?_, ?_, fun k => ?_, fun y hy => ?_⟩
    · rw [addL_snoc]; exact put_nd ih.nd x 1
    · rw [addL_snoc]; exact putL_sorted ih.srt x 1
    · rw [addL_snoc, put_sum ih.nd, ih.sum]; simp
    · rw [addL_snoc]
      have := put_len ih.nd x 1
      have := ih.len
      simp only [List.length_append, List.length_cons, List.length_nil]
      split at * <;> omega
    · rw [addL_snoc, count_put ih.nd, occ_append]
      simp only [occ, Int.add_zero]
      rw [ih.cnt, ih.cnt]
      by_cases e : x = k
      · rw [if_pos e, if_pos e, e]
      · rw [if_neg e, if_neg e]; omega
    · rw [addL_snoc] at hy
      rcases insE_mem.1 hy with rfl | hy
      · have := (countL_le x ih.pos).1
        show 0 < countL (addL r.reverse) x + 1
        omega
      · exact ih.pos y (dropL_mem.1 hy).1
theorem addOk (ws : List ByteArray) : AddOk ws := by
  have := addOk_rev ws.reverse
  rwa [List.reverse_reverse] at this
/-- in two parts, put together -/
theorem add_parts (A B : List ByteArray) (out : List Ent) (hp : out.Perm (addL B)) (hs : (foldP (addL A) out).Pairwise ltE) (hq : ∀ x ∈ foldP (addL A) out, 0 < x.2) : foldP (addL A) out = addL (A ++ B) := by
  have a := addOk A
  have b := addOk B
  have c := addOk (A ++ B)
  have hn : (keysL out).Nodup := (hp.map (fun x : Ent => x.1)).nodup_iff.2 b.nd
  refine ents_ext hs c.srt (foldP_nd a.nd out) c.nd hq c.pos fun k => ?_
  rw [count_fold a.nd out hn, count_perm hp hn, a.cnt, b.cnt, c.cnt, occ_append]
end Go.Proofs.YthidjbobjjoekaaGreat
