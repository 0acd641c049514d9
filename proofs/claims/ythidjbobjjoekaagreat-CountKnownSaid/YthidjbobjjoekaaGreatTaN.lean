/- Entries taken over by other ones: the plain laws of Merge. No program walked. Conditions: those of each theorem. -/
import Derived.Test.YthidjbobjjoekaaGreatTaL
namespace Go.Proofs.YthidjbobjjoekaaGreat
open Go.RowKit Go.Lib Go.Sort Go.Shelf
set_option linter.unusedVariables false
set_option linter.unusedSimpArgs false
/-- the entries whose words are new -/
def newL (L out : List Ent) : List Ent := out.filter (fun x => decide (x.1 ∉ keysL L))
theorem newL_snoc (L out : List Ent) (x : Ent) : newL L (out ++ [x]) = if x.1 ∈ keysL L then newL L out else newL L out ++ [x] := by
  unfold newL
  rw [List.filter_append]
  by_cases h : x.1 ∈ keysL L
  · rw [if_pos h]; simp [List.filter_cons, h]
  · rw [if_neg h]; simp [List.filter_cons, h]
theorem foldP_count {L : List Ent} (hn : (keysL L).Nodup) : ∀ out, (keysL out).Nodup → (foldP L out).length = L.length + (newL L out).length := by
  intro out
  induction out generalizing L with
  | nil => intro _; rfl
  | cons x r ih =>
    intro hd
    unfold keysL at hd
    rw [List.map_cons, List.nodup_cons] at hd
    have h1 := ih (put_nd hn x.1 x.2) hd.2
    have h2 := put_len hn x.1 x.2
    have h3 : newL (putL L x.1 x.2) r = newL L r := by
      unfold newL
      refine List.filter_congr fun y hy => ?_
      have hne : y.1 ≠ x.1 := fun e => hd.1 (by rw [← e]; exact List.mem_map_of_mem hy)
      have : (y.1 ∈ keysL (putL L x.1 x.2)) ↔ y.1 ∈ keysL L := by
        rw [keys_put]; exact ⟨fun h => h.resolve_left hne, .inr⟩
      simp only [this]
    show (foldP (putL L x.1 x.2) r).length = _
    rw [h1, h3, h2]
    unfold newL
    rw [List.filter_cons]
    by_cases h : x.1 ∈ keysL L
    · rw [if_pos h, if_neg (by simp [h])]
    · rw [if_neg h, if_pos (by simp [h])]
      simp only [List.length_cons]
      omega
theorem foldP_sorted {L : List Ent} (h : L.Pairwise ltE) : ∀ out, (foldP L out).Pairwise ltE := by
  intro out
  induction out generalizing L with
  | nil => exact h
  | cons x r ih => exact ih (putL_sorted h x.1 x.2)
theorem putL_pos {L : List Ent} (h : ∀ x ∈ L, 0 < x.2) (k : ByteArray) (n : Int) (hn : 0 < n) : ∀ x ∈ putL L k n, 0 < x.2 := fun x hx => by
  rcases insE_mem.1 hx with rfl | hx
  · have := (countL_le k h).1
    show 0 < countL L k + n
    omega
  · exact h x (dropL_mem.1 hx).1
theorem foldP_pos {L : List Ent} (h : ∀ x ∈ L, 0 < x.2) : ∀ out : List Ent, (∀ x ∈ out, 0 < x.2) → ∀ x ∈ foldP L out, 0 < x.2 := by
  intro out
  induction out generalizing L with
  | nil => intro _; exact h
  | cons x r ih => exact fun hp => ih (putL_pos h x.1 x.2 (hp x (List.mem_cons_self ..))) fun y hy => hp y (List.mem_cons_of_mem _ hy)
theorem foldP_sz {L : List Ent} (h : ∀ x ∈ L, x.1.size ≤ maxLen) : ∀ out : List Ent, (∀ x ∈ out, x.1.size ≤ maxLen) → ∀ x ∈ foldP L out, x.1.size ≤ maxLen := by
  intro out
  induction out generalizing L with
  | nil => intro _; exact h
  | cons x r ih =>
    refine fun hp => ih (fun y hy => ?_) fun y hy => hp y (List.mem_cons_of_mem _ hy)
    rcases insE_mem.1 hy with rfl | hy
    · exact hp x (List.mem_cons_self ..)
    · exact h y (dropL_mem.1 hy).1
theorem perm_keys {l m : List Ent} (hp : l.Perm m) : (keysL l).Perm (keysL m) := hp.map _
theorem foldP_perm {L out M : List Ent} (hs : L.Pairwise ltE) (hn : (keysL L).Nodup) (hL : ∀ x ∈ L, 0 < x.2) (hm : (keysL M).Nodup) (hM : ∀ x ∈ M, 0 < x.2) (hp : out.Perm M) : foldP L out = foldP L M := by
  have hno : (keysL out).Nodup := (perm_keys hp).nodup_iff.2 hm
  refine ents_ext (foldP_sorted hs _) (foldP_sorted hs _) (foldP_nd hn _) (foldP_nd hn _) (foldP_pos hL _ fun x hx => hM x (hp.subset hx)) (foldP_pos hL _ hM) fun k => ?_
  rw [count_fold hn out hno, count_fold hn M hm, count_perm hp hno]
theorem newL_perm {L out M : List Ent} (hp : out.Perm M) : (newL L out).length = (newL L M).length := (hp.filter _).length_eq
theorem fold_up : ∀ (r X : List Ent), (keysL X).Nodup → X.length ≤ (foldP X r).length
  | [], X, _ => Nat.le_refl _
  | x :: r, X, hn => by
    have h1 := fold_up r (putL X x.1 x.2) (put_nd hn x.1 x.2)
    have h2 := put_len hn x.1 x.2
    show X.length ≤ (foldP (putL X x.1 x.2) r).length
    split at h2 <;> omega
theorem foldP_grow {L : List Ent} (hn : (keysL L).Nodup) (out r : List Ent) : (foldP L out).length ≤ (foldP L (out ++ r)).length := by
  have e : foldP L (out ++ r) = foldP (foldP L out) r := by unfold foldP; rw [List.foldl_append]
  rw [e]
  exact fold_up r _ (foldP_nd hn out)
/-- a part that has been gone through: nothing of it is longer than the whole -/
theorem foldP_part {L M out : List Ent} (hs : L.Pairwise ltE) (hn : (keysL L).Nodup) (hL : ∀ x ∈ L, 0 < x.2) (hm : (keysL M).Nodup) (hM : ∀ x ∈ M, 0 < x.2) (ho : out.Nodup) (hsub : ∀ x ∈ out, x ∈ M) : (foldP L out).length ≤ (foldP L M).length := by
  obtain ⟨r, hr⟩ := nodup_sub ho hsub
  rw [← foldP_perm hs hn hL hm hM hr]
  exact foldP_grow hn out r
/-- what Merge answers -/
def mergeE (L M : List Ent) : Int := if 4096 < (foldP L M).length ∨ 2147483648 < sumL L + sumL M then 3 else 0
/-- what Add answers -/
def addE (L : List Ent) (k : ByteArray) (n : Int) : Int := if n < 1 ∨ 2147483648 < n then 2 else if (k ∉ keysL L ∧ 4096 ≤ L.length) ∨ 2147483648 < sumL L + n then 3 else 0
/-- what is there behind Add, behind Merge -/
def addR (L : List Ent) (k : ByteArray) (n : Int) : List Ent := if addE L k n = 0 then putL L k n else L
def mergeR (L M : List Ent) : List Ent := if mergeE L M = 0 then foldP L M else L
end Go.Proofs.YthidjbobjjoekaaGreat
