/- A tally takes over another one's entries: (*Tally).Merge, where the sum is not too great. Conditions: those of each theorem. -/
import Derived.Test.YtmpkfpabejpbkaaGreatDoorJCTaD
import Derived.Test.YtmpkfpabejpbkaaGreatDoorJCQs
namespace Go.Proofs.YtmpkfpabejpbkaaGreatDoor.C
open Go.RowKit Go.Lib Go.Sort Go.Shelf
set_option linter.unusedVariables false
set_option linter.unusedSimpArgs false
section
variable {w w' : World} {b m : Nat} {L : List Ent}
/-- 'counts[k] += n' and 'total += n', as equations of the operations -/
theorem Tal.push (h : Tal w b m L) (k : ByteArray) (n : Int) (hk : k.size ≤ maxLen) (h1 : 0 < n) (h2 : sumL L + n ≤ 2147483648) (h3 : k ∈ keysL L ∨ L.length < 4096) :
    ∃ w1, (Instr.mapUpdate 92 (.map (some m)) (.string k) (.int .i64 (countL L k + n))).run Tryz.prog w = .ok () w1 ∧ w1.cell? ⟨b, 1, none⟩ = some (.int .i64 (sumL L)) ∧ w1.frozen? ⟨b, 1, none⟩ = false ∧ b < w1.heap.size ∧
      Tal (w1.setCell ⟨b, 1, none⟩ (.int .i64 (sumL L + n))) b m (putL L k n) ∧ But2 b m w (w1.setCell ⟨b, 1, none⟩ (.int .i64 (sumL L + n))) ∧ (w1.setCell ⟨b, 1, none⟩ (.int .i64 (sumL L + n))).heap.size = w.heap.size := by
  have hne := h.ne
  have hE := h.he.put h.nd k n hk h1 h2 h3
  have hS := put_sum h.nd k n
  obtain ⟨k1, k2⟩ := countL_le k h.he.pos
  have hs0 := sumL_pos h.he.pos
  obtain ⟨D, hm, ht⟩ := h.hm
  have hsz := ht.size
  have hlen := h.he.len
  have hkey : keyOf Tryz.prog 9 (.string k) = some (keyL k) := Go.WideMaps.keyOf_string_mk Tryz.underlying9 hk
  have hwf : (Lit.int .i64 (countL L k + n)).wf = true := by simp [Lit.wf, IntKind.min, IntKind.max, IntKind.signed, IntKind.bits]; omega
  obtain ⟨w1, hup, hm1, hg0⟩ := hm.store (t := 92) (e := 3) (val := .int .i64 (countL L k + n)) kS Tryz.underlying92 (by unfold maxLen; omega) hkey (plainElem_int Tryz.underlying3 hwf)
  have hT := ht.put (hm.tidy kS) k n
  have hg1 := hg0.grown
  have hsz1 : w1.heap.size = w.heap.size := by
    obtain ⟨es, clock, es', clock', _, rfl⟩ := hg0
    simp [Go.ChangeMaps.setBlock]
  have hb1 := h.hb.kept hg1 (by intro e; exact hne (by injection e))
  refine ⟨w1, hup, hb1.cell (k := 1) rfl, hb1.froz 1, hb1.lt, ⟨?_, ⟨_, (map_exact hm1).block (Below.heap_setCell w1 ⟨b, 1, none⟩ _ m hne.symm), hT⟩, hE⟩, ⟨hg1.os, hg1.tape, hg1.output, by simpa using hg1.size, ?_⟩, by simpa using hsz1⟩
  · rw [hS]; exact hb1.set 1 _
  · intro j hj h4 h5
    exact (Below.heap_setCell w1 ⟨b, 1, none⟩ _ j h4).trans (hg1.block j hj (by intro e; exact h5 (by injection e)))
end
/-- entries taken over one by one -/
def foldP (L : List Ent) (out : List Ent) : List Ent := out.foldl (fun l e => putL l e.1 e.2) L
theorem foldP_snoc (L out : List Ent) (x : Ent) : foldP L (out ++ [x]) = putL (foldP L out) x.1 x.2 := by unfold foldP; simp
theorem put_nd {L : List Ent} (hn : (keysL L).Nodup) (k : ByteArray) (n : Int) : (keysL (putL L k n)).Nodup := by
  have hp : (keysL (putL L k n)).Perm (k :: keysL (dropL L k)) := (insE_perm _ _).map _
  rw [hp.nodup_iff, List.nodup_cons]
  refine ⟨fun hk => ?_, (hn.sublist ((List.filter_sublist).map _))⟩
  obtain ⟨x, hx, e⟩ := List.mem_map.1 hk
  exact (dropL_mem.1 hx).2 e
theorem foldP_nd {L : List Ent} (hn : (keysL L).Nodup) : ∀ out, (keysL (foldP L out)).Nodup := by
  intro out
  induction out generalizing L with
  | nil => exact hn
  | cons x r ih => exact ih (put_nd hn x.1 x.2)
theorem foldP_sum {L : List Ent} (hn : (keysL L).Nodup) : ∀ out, sumL (foldP L out) = sumL L + sumL out := by
  intro out
  induction out generalizing L with
  | nil => simp [foldP, sumL]
  | cons x r ih =>
    have := ih (put_nd hn x.1 x.2)
    show sumL (foldP (putL L x.1 x.2) r) = _
    rw [this, put_sum hn]
    simp only [sumL]
    omega
theorem foldP_len {L : List Ent} (hn : (keysL L).Nodup) : ∀ out, (foldP L out).length ≤ L.length + out.length := by
  intro out
  induction out generalizing L with
  | nil => simp [foldP]
  | cons x r ih =>
    have := ih (put_nd hn x.1 x.2)
    show (foldP (putL L x.1 x.2) r).length ≤ _
    have h2 := put_len hn x.1 x.2
    simp only [List.length_cons]
    split at h2 <;> omega
theorem nodup_sub : ∀ {l L : List Ent}, l.Nodup → (∀ x ∈ l, x ∈ L) → ∃ r, (l ++ r).Perm L
  | [], L, _, _ => ⟨L, List.Perm.refl _⟩
  | x :: l, L, h, hs => by
    obtain ⟨h1, h2⟩ := List.nodup_cons.1 h
    obtain ⟨A, B, rfl⟩ := List.append_of_mem (hs x (List.mem_cons_self ..))
    obtain ⟨r, hr⟩ := nodup_sub (l := l) (L := A ++ B) h2 fun y hy => by
      have := hs y (List.mem_cons_of_mem _ hy)
      rcases List.mem_append.1 this with h3 | h3
      · exact List.mem_append_left _ h3
      · rcases List.mem_cons.1 h3 with rfl | h3
        · exact absurd hy h1
        · exact List.mem_append_right _ h3
    exact ⟨r, (List.Perm.cons x hr).trans List.perm_middle.symm⟩
theorem Got.mem {D : Dt} {left : Lit → Bool} {out : List Ent} (h : Got D left out) {L : List Ent} (hL : Tly D L) {x : Ent} (hx : x ∈ out) : x ∈ L := by
  have hh : Maps.has D (keyL x.1) = true := Maps.has_true_of_atKey (h.at_ x hx)
  rw [hL.has, decide_eq_true_eq] at hh
  obtain ⟨y, hy, e⟩ := List.mem_map.1 hh
  have h1 := h.at_ x hx (numD 0)
  have h2 := hL.at_ y hy (numD 0)
  rw [e, h1] at h2
  have h3 : x.2 = y.2 := by unfold numD at h2; exact (Lit.int.inj (DataW.lit.inj h2)).2
  have : x = y := Prod.ext e.symm h3
  rw [this]; exact hy
theorem Got.sub {D : Dt} {left : Lit → Bool} {out : List Ent} (h : Got D left out) {L : List Ent} (hL : Tly D L) (hp : ∀ x ∈ L, 0 < x.2) : out.length ≤ L.length ∧ sumL out ≤ sumL L := by
  have hnd : out.Nodup := List.Pairwise.of_map (S := (· ≠ ·)) (fun x : Ent => x.1) (fun a b hab e => hab (by rw [e])) h.nd
  obtain ⟨r, hr⟩ := nodup_sub hnd fun x hx => h.mem hL hx
  have h1 := hr.length_eq
  have h2 := sumL_perm hr
  rw [sumL_append] at h2
  rw [List.length_append] at h1
  have h3 := sumL_pos (L := r) fun x hx => hp x (hr.subset (List.mem_append_right _ hx))
  omega
end Go.Proofs.YtmpkfpabejpbkaaGreatDoor.C
/- Words added one by one, and in two parts: one list of entries. No program walked. -/
namespace Go.Proofs.YtmpkfpabejpbkaaGreatDoor.C
open Go.RowKit Go.Lib Go.Sort Go.Shelf
set_option linter.unusedVariables false
set_option linter.unusedSimpArgs false
theorem mem_keys_pos {L : List Ent} (hn : (keysL L).Nodup) (hp : ∀ x ∈ L, 0 < x.2) (k : ByteArray) : k ∈ keysL L ↔ 0 < countL L k := by
  constructor
  · intro h
    obtain ⟨x, hx, rfl⟩ := List.mem_map.1 h
    rw [countL_mem hn hx]
    exact hp x hx
  · intro h
    by_cases hk : k ∈ keysL L
    · exact hk
    · rw [countL_no hk] at h; omega
theorem ents_ext {L M : List Ent} (h1 : L.Pairwise ltE) (h2 : M.Pairwise ltE) (n1 : (keysL L).Nodup) (n2 : (keysL M).Nodup) (p1 : ∀ x ∈ L, 0 < x.2) (p2 : ∀ x ∈ M, 0 < x.2) (h : ∀ k, countL L k = countL M k) : L = M := by
  have hnd : ∀ {l : List Ent}, (keysL l).Nodup → l.Nodup := fun {l} h => List.Pairwise.of_map (S := (· ≠ ·)) (fun x : Ent => x.1) (fun a b hab e => hab (by rw [e])) h
  have key : ∀ {l m : List Ent}, (keysL l).Nodup → (keysL m).Nodup → (∀ x ∈ l, 0 < x.2) → (∀ x ∈ m, 0 < x.2) → (∀ k, countL l k = countL m k) → ∀ x, x ∈ l → x ∈ m := by
    intro l m a1 a2 a3 a4 a5 x hx
    have e1 := countL_mem a1 hx
    have e2 := a5 x.1
    have hk : x.1 ∈ keysL m := (mem_keys_pos a2 a4 x.1).2 (by rw [← e2, e1]; exact a3 x hx)
    obtain ⟨y, hy, e⟩ := List.mem_map.1 hk
    have e3 := countL_mem a2 hy
    rw [e, ← e2, e1] at e3
    have : x = y := Prod.ext e.symm e3
    rw [this]; exact hy
  exact sorted_eq h1 h2 ((List.perm_ext_iff_of_nodup (hnd n1) (hnd n2)).2 fun x => ⟨key n1 n2 p1 p2 h x, key n2 n1 p2 p1 (fun k => (h k).symm) x⟩)
theorem count_put {L : List Ent} (hn : (keysL L).Nodup) (k : ByteArray) (n : Int) (k' : ByteArray) : countL (putL L k n) k' = if k = k' then countL L k + n else countL L k' := by
  by_cases e : k = k'
  · subst e
    rw [if_pos rfl]
    exact countL_mem (put_nd hn k n) (x := (k, countL L k + n)) (insE_mem.2 (.inl rfl))
  · rw [if_neg e]
    by_cases hk : k' ∈ keysL L
    · obtain ⟨x, hx, rfl⟩ := List.mem_map.1 hk
      rw [countL_mem hn hx]
      exact countL_mem (put_nd hn k n) (insE_mem.2 (.inr (dropL_mem.2 ⟨hx, fun h => e h.symm⟩)))
    · rw [countL_no hk, countL_no]
      rw [keys_put, not_or]
      exact ⟨fun h => e h.symm, hk⟩
theorem countL_cons (x : Ent) (r : List Ent) (k : ByteArray) : countL (x :: r) k = if x.1 = k then x.2 else countL r k := rfl
theorem count_fold {L : List Ent} (hn : (keysL L).Nodup) : ∀ (out : List Ent), (keysL out).Nodup → ∀ k, countL (foldP L out) k = countL L k + countL out k := by
  intro out
  induction out generalizing L with
  | nil => intro _ k; simp [foldP, countL]
  | cons x r ih =>
    intro hout k
    unfold keysL at hout
    rw [List.map_cons, List.nodup_cons] at hout
    show countL (foldP (putL L x.1 x.2) r) k = _
    rw [ih (put_nd hn x.1 x.2) hout.2 k, count_put hn]
    rw [countL_cons]
    by_cases e : x.1 = k
    · rw [if_pos e, if_pos e, e, countL_no (L := r) (k := k) (by rw [← e]; exact hout.1)]
      omega
    · rw [if_neg e, if_neg e]
theorem count_perm {l m : List Ent} (hp : l.Perm m) (hn : (keysL l).Nodup) (k : ByteArray) : countL l k = countL m k := by
  have hm : (keysL m).Nodup := (hp.map (fun x : Ent => x.1)).nodup_iff.1 hn
  by_cases hk : k ∈ keysL l
  · obtain ⟨x, hx, rfl⟩ := List.mem_map.1 hk
    rw [countL_mem hn hx, countL_mem hm (hp.mem_iff.1 hx)]
  · rw [countL_no hk, countL_no]
    exact fun h => hk ((hp.map (fun x : Ent => x.1)).mem_iff.2 h)
/-- how often a word stands in a list -/
def occ : List ByteArray → ByteArray → Int
  | [], _ => 0
  | x :: r, k => (if x = k then 1 else 0) + occ r k
theorem occ_append (k : ByteArray) : ∀ l m : List ByteArray, occ (l ++ m) k = occ l k + occ m k
  | [], m => by simp [occ]
  | x :: r, m => by simp only [List.cons_append, occ, occ_append k r m]; omega
/-- words added one by one -/
def addL (ws : List ByteArray) : List Ent := ws.foldl (fun L w => putL L w 1) []
theorem addL_snoc (ws : List ByteArray) (x : ByteArray) : addL (ws ++ [x]) = putL (addL ws) x 1 := by unfold addL; simp
structure AddOk (ws : List ByteArray) : Prop where
  nd : (keysL (addL ws)).Nodup
  srt : (addL ws).Pairwise ltE
  sum : sumL (addL ws) = ws.length
  len : (addL ws).length ≤ ws.length
  cnt : ∀ k, countL (addL ws) k = occ ws k
  pos : ∀ x ∈ addL ws, 0 < x.2
theorem addOk_rev : ∀ ws : List ByteArray, AddOk ws.reverse
  | [] => ⟨List.nodup_nil, List.Pairwise.nil, rfl, Nat.le_refl _, fun k => rfl, by simp [addL]⟩
  | x :: r => by
    have ih := addOk_rev r
    rw [List.reverse_cons]
    refine ⟨?_, ?_, ?_, ?_, fun k => ?_, fun y hy => ?_⟩
    · rw [addL_snoc]; exact put_nd ih.nd x 1
    · rw [addL_snoc]; exact putL_sorted ih.srt x 1
    · rw [addL_snoc, put_sum ih.nd, ih.sum]; simp
    · rw [addL_snoc]
      have := put_len ih.nd x 1
      have := ih.len
      simp only [List.length_append, List.length_cons, List.length_nil]
      split at * <;> omega
    · rw [addL_snoc, count_put ih.nd, occ_append]
      simp only [occ, Int.add_zero]
      rw [ih.cnt, ih.cnt]
      by_cases e : x = k
      · rw [if_pos e, if_pos e, e]
      · rw [if_neg e, if_neg e]; omega
    · rw [addL_snoc] at hy
      rcases insE_mem.1 hy with rfl | hy
      · have := (countL_le x ih.pos).1
        show 0 < countL (addL r.reverse) x + 1
        omega
      · exact ih.pos y (dropL_mem.1 hy).1
theorem addOk (ws : List ByteArray) : AddOk ws := by
  have := addOk_rev ws.reverse
  rwa [List.reverse_reverse] at this
/-- in two parts, put together -/
theorem add_parts (A B : List ByteArray) (out : List Ent) (hp : out.Perm (addL B)) (hs : (foldP (addL A) out).Pairwise ltE) (hq : ∀ x ∈ foldP (addL A) out, 0 < x.2) : foldP (addL A) out = addL (A ++ B) := by
  have a := addOk A
  have b := addOk B
  have c := addOk (A ++ B)
  have hn : (keysL out).Nodup := (hp.map (fun x : Ent => x.1)).nodup_iff.2 b.nd
  refine ents_ext hs c.srt (foldP_nd a.nd out) c.nd hq c.pos fun k => ?_
  rw [count_fold a.nd out hn, count_perm hp hn, a.cnt, b.cnt, c.cnt, occ_append]
end Go.Proofs.YtmpkfpabejpbkaaGreatDoor.C
/- Entries taken over by other ones: the plain laws of Merge. No program walked. Conditions: those of each theorem. -/
namespace Go.Proofs.YtmpkfpabejpbkaaGreatDoor.C
open Go.RowKit Go.Lib Go.Sort Go.Shelf
set_option linter.unusedVariables false
set_option linter.unusedSimpArgs false
/-- the entries whose words are new -/
def newL (L out : List Ent) : List Ent := out.filter (fun x => decide (x.1 ∉ keysL L))
theorem newL_snoc (L out : List Ent) (x : Ent) : newL L (out ++ [x]) = if x.1 ∈ keysL L then newL L out else newL L out ++ [x] := by
  unfold newL
  rw [List.filter_append]
  by_cases h : x.1 ∈ keysL L
  · rw [if_pos h]; simp [List.filter_cons, h]
  · rw [if_neg h]; simp [List.filter_cons, h]
theorem foldP_count {L : List Ent} (hn : (keysL L).Nodup) : ∀ out, (keysL out).Nodup → (foldP L out).length = L.length + (newL L out).length := by
  intro out
  induction out generalizing L with
  | nil => intro _; rfl
  | cons x r ih =>
    intro hd
    unfold keysL at hd
    rw [List.map_cons, List.nodup_cons] at hd
    have h1 := ih (put_nd hn x.1 x.2) hd.2
    have h2 := put_len hn x.1 x.2
    have h3 : newL (putL L x.1 x.2) r = newL L r := by
      unfold newL
      refine List.filter_congr fun y hy => ?_
      have hne : y.1 ≠ x.1 := fun e => hd.1 (by rw [← e]; exact List.mem_map_of_mem hy)
      have : (y.1 ∈ keysL (putL L x.1 x.2)) ↔ y.1 ∈ keysL L := by
        rw [keys_put]; exact ⟨fun h => h.resolve_left hne, .inr⟩
      simp only [this]
    show (foldP (putL L x.1 x.2) r).length = _
    rw [h1, h3, h2]
    unfold newL
    rw [List.filter_cons]
    by_cases h : x.1 ∈ keysL L
    · rw [if_pos h, if_neg (by simp [h])]
    · rw [if_neg h, if_pos (by simp [h])]
      simp only [List.length_cons]
      omega
theorem foldP_sorted {L : List Ent} (h : L.Pairwise ltE) : ∀ out, (foldP L out).Pairwise ltE := by
  intro out
  induction out generalizing L with
  | nil => exact h
  | cons x r ih => exact ih (putL_sorted h x.1 x.2)
theorem putL_pos {L : List Ent} (h : ∀ x ∈ L, 0 < x.2) (k : ByteArray) (n : Int) (hn : 0 < n) : ∀ x ∈ putL L k n, 0 < x.2 := fun x hx => by
  rcases insE_mem.1 hx with rfl | hx
  · have := (countL_le k h).1
    show 0 < countL L k + n
    omega
  · exact h x (dropL_mem.1 hx).1
theorem foldP_pos {L : List Ent} (h : ∀ x ∈ L, 0 < x.2) : ∀ out : List Ent, (∀ x ∈ out, 0 < x.2) → ∀ x ∈ foldP L out, 0 < x.2 := by
  intro out
  induction out generalizing L with
  | nil => intro _; exact h
  | cons x r ih => exact fun hp => ih (putL_pos h x.1 x.2 (hp x (List.mem_cons_self ..))) fun y hy => hp y (List.mem_cons_of_mem _ hy)
theorem foldP_sz {L : List Ent} (h : ∀ x ∈ L, x.1.size ≤ maxLen) : ∀ out : List Ent, (∀ x ∈ out, x.1.size ≤ maxLen) → ∀ x ∈ foldP L out, x.1.size ≤ maxLen := by
  intro out
  induction out generalizing L with
  | nil => intro _; exact h
  | cons x r ih =>
    refine fun hp => ih (fun y hy => ?_) fun y hy => hp y (List.mem_cons_of_mem _ hy)
    rcases insE_mem.1 hy with rfl | hy
    · exact hp x (List.mem_cons_self ..)
    · exact h y (dropL_mem.1 hy).1
theorem perm_keys {l m : List Ent} (hp : l.Perm m) : (keysL l).Perm (keysL m) := hp.map _
theorem foldP_perm {L out M : List Ent} (hs : L.Pairwise ltE) (hn : (keysL L).Nodup) (hL : ∀ x ∈ L, 0 < x.2) (hm : (keysL M).Nodup) (hM : ∀ x ∈ M, 0 < x.2) (hp : out.Perm M) : foldP L out = foldP L M := by
  have hno : (keysL out).Nodup := (perm_keys hp).nodup_iff.2 hm
  refine ents_ext (foldP_sorted hs _) (foldP_sorted hs _) (foldP_nd hn _) (foldP_nd hn _) (foldP_pos hL _ fun x hx => hM x (hp.subset hx)) (foldP_pos hL _ hM) fun k => ?_
  rw [count_fold hn out hno, count_fold hn M hm, count_perm hp hno]
theorem newL_perm {L out M : List Ent} (hp : out.Perm M) : (newL L out).length = (newL L M).length := (hp.filter _).length_eq
theorem fold_up : ∀ (r X : List Ent), (keysL X).Nodup → X.length ≤ (foldP X r).length
  | [], X, _ => Nat.le_refl _
  | x :: r, X, hn => by
    have h1 := fold_up r (putL X x.1 x.2) (put_nd hn x.1 x.2)
    have h2 := put_len hn x.1 x.2
    show X.length ≤ (foldP (putL X x.1 x.2) r).length
    split at h2 <;> omega
theorem foldP_grow {L : List Ent} (hn : (keysL L).Nodup) (out r : List Ent) : (foldP L out).length ≤ (foldP L (out ++ r)).length := by
  have e : foldP L (out ++ r) = foldP (foldP L out) r := by unfold foldP; rw [List.foldl_append]
  rw [e]
  exact fold_up r _ (foldP_nd hn out)
/-- a part that has been gone through: nothing of it is longer than the whole -/
theorem foldP_part {L M out : List Ent} (hs : L.Pairwise ltE) (hn : (keysL L).Nodup) (hL : ∀ x ∈ L, 0 < x.2) (hm : (keysL M).Nodup) (hM : ∀ x ∈ M, 0 < x.2) (ho : out.Nodup) (hsub : ∀ x ∈ out, x ∈ M) : (foldP L out).length ≤ (foldP L M).length := by
  obtain ⟨r, hr⟩ := nodup_sub ho hsub
  rw [← foldP_perm hs hn hL hm hM hr]
  exact foldP_grow hn out r
/-- what Merge answers -/
def mergeE (L M : List Ent) : Int := if 4096 < (foldP L M).length ∨ 2147483648 < sumL L + sumL M then 3 else 0
/-- what Add answers -/
def addE (L : List Ent) (k : ByteArray) (n : Int) : Int := if n < 1 ∨ 2147483648 < n then 2 else if (k ∉ keysL L ∧ 4096 ≤ L.length) ∨ 2147483648 < sumL L + n then 3 else 0
/-- what is there behind Add, behind Merge -/
def addR (L : List Ent) (k : ByteArray) (n : Int) : List Ent := if addE L k n = 0 then putL L k n else L
def mergeR (L M : List Ent) : List Ent := if mergeE L M = 0 then foldP L M else L
end Go.Proofs.YtmpkfpabejpbkaaGreatDoor.C
/- (*Tally).Add of any word and number: what it answers, what is there behind it. Conditions: the tally's own; the word is a string of the machine. -/
namespace Go.Proofs.YtmpkfpabejpbkaaGreatDoor.C
open Go.RowKit Go.Lib Go.Sort Go.Shelf
set_option linter.unusedVariables false
set_option linter.unusedSimpArgs false
theorem But2.refl (b m : Nat) (w : World) : But2 b m w w := ⟨rfl, rfl, rfl, Nat.le_refl _, fun _ _ _ _ => rfl⟩
set_option maxRecDepth 100000 in
set_option maxHeartbeats 1000000 in
theorem add_any {w : World} {b m : Nat} {L : List Ent} (h : Tal w b m L) (k : ByteArray) (n : Int) (hk : k.size ≤ maxLen) :
    Calls Tryz.prog 15 #[.pointer (some ⟨b, 0, none⟩), .string k, .int .i64 n] w fun e w' => e = .returned (.int .i64 (addE L k n)) ∧ Tal w' b m (addR L k n) ∧ But2 b m w w' ∧ w'.heap.size = w.heap.size := by
  by_cases c1 : n < 1 ∨ 2147483648 < n
  · have hE : addE L k n = 2 := if_pos c1
    have hR : addR L k n = L := by unfold addR; rw [hE]; rfl
    rw [hE, hR]
    have hW := hid (show Tal w b m L ∧ But2 b m w w from ⟨h, But2.refl _ _ _⟩)
    clear h hE hR
    rcases c1 with c1 | c1
    · have t1 : decide (n < 1) = true := decide_eq_true c1
      go_enter Tryz.func15, Tryz.ntmps15
      go_wp2_with fail
      go_ret
      exact ⟨rfl, hW.out.1, hW.out.2, rfl⟩
    · have t1 : decide (n < 1) = false := decide_eq_false (by omega)
      have t2 : decide (2147483648 < n) = true := decide_eq_true c1
      go_enter Tryz.func15, Tryz.ntmps15
      go_wp2_with fail
      go_ret
      exact ⟨rfl, hW.out.1, hW.out.2, rfl⟩
  by_cases c2 : (k ∉ keysL L ∧ 4096 ≤ L.length) ∨ 2147483648 < sumL L + n
  case' neg =>
    have hE : addE L k n = 0 := by unfold addE; rw [if_neg c1, if_neg c2]
    have hR : addR L k n = putL L k n := by unfold addR; rw [hE]; rfl
    rw [hE, hR]
    refine add_ok h k n hk (by omega) (by omega) ?_
    by_cases hm : k ∈ keysL L
    · exact .inl hm
    · refine .inr ?_
      rcases Nat.lt_or_ge L.length 4096 with h3 | h3
      · exact h3
      · exact absurd (.inl ⟨hm, h3⟩) c2
  have hE : addE L k n = 3 := by unfold addE; rw [if_neg c1, if_pos c2]
  have hR : addR L k n = L := by unfold addR; rw [hE]; rfl
  rw [hE, hR]
  have hW := hid (show Tal w b m L ∧ But2 b m w w from ⟨h, But2.refl _ _ _⟩)
  have hs0 := sumL_pos h.he.pos
  have ht0 := h.he.tot
  have hlen := h.he.len
  obtain ⟨l1, l2⟩ := h.look k hk
  have c0 := h.hb.cell (k := 0) rfl
  have c1' := h.hb.cell (k := 1) rfl
  have hl : ∀ ty, _ := fun ty => (h.hm.elim fun D hD => by have := hD.1.len (e := 3) Tryz.underlying92 ty; rw [hD.2.size] at this; exact this)
  clear h hE hR
  have t1 : decide (n < 1) = false := decide_eq_false (by omega)
  have t2 : decide (2147483648 < n) = false := decide_eq_false (by omega)
  generalize sumL L = S at *
  generalize L.length = q at *
  by_cases hm : k ∈ keysL L
  · have h4 : decide (k ∈ keysL L) = true := decide_eq_true hm
    have h5 : 2147483648 < S + n := by
      rcases c2 with c2 | c2
      · exact absurd hm c2.1
      · exact c2
    rw [h4] at l2
    clear c2 hm h4
    have t3 : decide (2147483648 < S + n) = true := decide_eq_true h5
    have t4 : IntKind.i64.wrap (S + n) = S + n := IntWalk.i64_in _ (by omega)
    go_enter Tryz.func15, Tryz.ntmps15
    go_wp2_with fail
    go_ret
    exact ⟨rfl, hW.out.1, hW.out.2, rfl⟩
  · have h4 : decide (k ∈ keysL L) = false := decide_eq_false hm
    rw [h4] at l2
    by_cases h6 : 4096 ≤ q
    · clear c2 hm h4
      go_enter Tryz.func15, Tryz.ntmps15
      go_wp2_with fail
      go_ret
      exact ⟨rfl, hW.out.1, hW.out.2, rfl⟩
    · have h5 : 2147483648 < S + n := by
        rcases c2 with c2 | c2
        · exact absurd c2.2 h6
        · exact c2
      clear c2 hm h4
      have t3 : decide (2147483648 < S + n) = true := decide_eq_true h5
      have t4 : IntKind.i64.wrap (S + n) = S + n := IntWalk.i64_in _ (by omega)
      go_enter Tryz.func15, Tryz.ntmps15
      go_wp2_with fail
      go_ret
      exact ⟨rfl, hW.out.1, hW.out.2, rfl⟩
end Go.Proofs.YtmpkfpabejpbkaaGreatDoor.C
