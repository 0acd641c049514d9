/- A tally in memory: New, Len, Total, Count, Add. Conditions: those of each theorem. -/
import Derived.Test.YthidjbobjjoekaaGreatTaC
import Derived.Carry
namespace Go.Proofs.YthidjbobjjoekaaGreat
open Go.RowKit Go.Lib Go.Sort Go.Shelf
set_option linter.unusedVariables false
set_option linter.unusedSimpArgs false
/-- a block of cells, as it lies -/
def Blk (W : World) (B : Nat) (t : TypeId) (c : Array Value) : Prop := W.heap[B]? = some (.cells c t (0, 0))
section
variable {W W' : World} {B : Nat} {t : TypeId} {c : Array Value}
theorem Blk.lt (h : Blk W B t c) : B < W.heap.size := (Array.getElem?_eq_some_iff.1 h).1
theorem Blk.cell (h : Blk W B t c) {k : Nat} {v : Value} (hk : c[k]? = some v) : W.cell? ⟨B, k, none⟩ = some v := blk_cell h hk
theorem Blk.froz (h : Blk W B t c) (k : Nat) : W.frozen? ⟨B, k, none⟩ = false := blk_froz h k
theorem Blk.low (h : Blk W B t c) (hb : Below W.heap.size W W') : Blk W' B t c := (hb.block B h.lt).trans h
theorem Blk.lowN {n : Nat} (h : Blk W B t c) (hb : Below n W W') (hn : B < n) : Blk W' B t c := (hb.block B hn).trans h
theorem Blk.new (W : World) (t : TypeId) (c : Array Value) : Blk (W.alloc (.cells c t)) W.heap.size t c := heap_alloc_new W _
theorem Blk.alloc (h : Blk W B t c) (o : Obj) : Blk (W.alloc o) B t c := h.low ((Below.refl _ _).alloc (Nat.le_refl _) _)
theorem Blk.kept {row : Option Nat} (h : Blk W B t c) (hg : W.grownBy W' row) (hne : some B ≠ row) : Blk W' B t c := (hg.block B h.lt hne).trans h
theorem Blk.other (h : Blk W B t c) {B' k : Nat} (hne : B ≠ B') (u : Value) : Blk (W.setCell ⟨B', k, none⟩ u) B t c :=
  (Below.heap_setCell W ⟨B', k, none⟩ u B hne).trans h
theorem Blk.set (h : Blk W B t c) (k : Nat) (u : Value) : Blk (W.setCell ⟨B, k, none⟩ u) B t (c.setIfInBounds k u) := by
  obtain ⟨hlt, hk⟩ := Array.getElem?_eq_some_iff.1 h
  show (W.heap.modify B _)[B]? = _
  rw [Array.getElem?_eq_getElem (by rw [Array.size_modify]; exact hlt), Array.getElem_modify_self, hk]
  rfl
end
/-- a map, as it lies, of just so many entries -/
abbrev MapAt (w : World) (m : Nat) (D : Dt) : Prop := w.ownsMap Tryz.prog 9 (plainElem Tryz.prog 3) m (Maps.size D) D
theorem map_exact {w : World} {m n : Nat} {D : Dt} (h : w.ownsMap Tryz.prog 9 (plainElem Tryz.prog 3) m n D) : MapAt w m D := by
  obtain ⟨es, clock, hb, F, hs, hD⟩ := h
  refine ⟨es, clock, hb, F, ?_, hD⟩
  rw [hD]
  simp [Maps.size, length_sorted]
theorem MapAt.block {w w' : World} {m : Nat} {D : Dt} (h : MapAt w m D) (he : w'.heap[m]? = w.heap[m]?) : MapAt w' m D := by
  obtain ⟨es, clock, hb, r⟩ := h
  exact ⟨es, clock, he.trans hb, r⟩
theorem kS : Maps.Keyed Tryz.prog 9 := Maps.string_keyed Tryz.underlying9
/-- the entries are in order and no more than may be -/
structure Ents (L : List Ent) : Prop where
  srt : L.Pairwise ltE
  pos : ∀ x ∈ L, 0 < x.2
  tot : sumL L ≤ 2147483648
  len : L.length ≤ 4096
  sz : ∀ x ∈ L, x.1.size ≤ maxLen
/-- a tally in memory -/
structure Tal (w : World) (b m : Nat) (L : List Ent) : Prop where
  hb : Blk w b 70 #[.map (some m), .int .i64 (sumL L)]
  hm : ∃ D, MapAt w m D ∧ Tly D L
  he : Ents L
theorem sumL_pos : ∀ {L : List Ent}, (∀ x ∈ L, 0 < x.2) → 0 ≤ sumL L
  | [], _ => by simp [sumL]
  | x :: r, h => by
    have := sumL_pos (L := r) fun y hy => h y (List.mem_cons_of_mem _ hy)
    have := h x (List.mem_cons_self ..)
    unfold sumL
    omega
theorem countL_le : ∀ {L : List Ent} (k : ByteArray), (∀ x ∈ L, 0 < x.2) → 0 ≤ countL L k ∧ countL L k ≤ sumL L
  | [], _, _ => by simp [sumL, countL]
  | x :: r, k, h => by
    have h1 := countL_le (L := r) k fun y hy => h y (List.mem_cons_of_mem _ hy)
    have h2 := h x (List.mem_cons_self ..)
    unfold sumL countL
    split <;> omega
section
variable {w w' : World} {b m : Nat} {L : List Ent}
theorem Tal.ne (h : Tal w b m L) : b ≠ m := by
  obtain ⟨hb, ⟨D, ⟨es, clock, hm, _⟩, _⟩, _⟩ := h
  rintro rfl
  rw [show w.heap[b]? = _ from hb] at hm
  cases hm
theorem Tal.mlt (h : Tal w b m L) : m < w.heap.size := by
  obtain ⟨hb, ⟨D, hm, _⟩, _⟩ := h
  exact hm.lt
theorem Tal.blt (h : Tal w b m L) : b < w.heap.size := h.hb.lt
theorem Tal.keep (h : Tal w b m L) (e1 : w'.heap[b]? = w.heap[b]?) (e2 : w'.heap[m]? = w.heap[m]?) : Tal w' b m L :=
  ⟨e1.trans h.hb, h.hm.elim fun D hD => ⟨D, hD.1.block e2, hD.2⟩, h.he⟩
theorem Tal.low (h : Tal w b m L) (hb : Below w.heap.size w w') : Tal w' b m L := h.keep (hb.block _ h.blt) (hb.block _ h.mlt)
theorem Tal.lowN {n : Nat} (h : Tal w b m L) (hb : Below n w w') (h1 : b < n) (h2 : m < n) : Tal w' b m L := h.keep (hb.block _ h1) (hb.block _ h2)
theorem new_any (w : World) : Calls Tryz.prog 18 #[] w fun e w' => e = .returned (.pointer (some ⟨w.heap.size + 1, 0, none⟩)) ∧ Tal w' (w.heap.size + 1) w.heap.size [] ∧ Below w.heap.size w w' ∧ w'.heap.size = w.heap.size + 2 := by
  have hmm := @run_makeMap Tryz.prog
  go_enter Tryz.func18, Tryz.ntmps18
  go_wp2
  go_ret
  have hM := (World.ownsMap_made w Tryz.prog 9 (plainElem (H := Unit) Tryz.prog 3)).alloc (.cells #[.map (some w.heap.size), .int .i64 0] 70)
  refine ⟨rfl, ⟨?_, ⟨_, map_exact hM, Tly.empty⟩, ⟨List.Pairwise.nil, by simp, by simp [sumL], by simp, by simp⟩⟩, ((Below.refl _ _).alloc (Nat.le_refl _) _).alloc (by simp) _, by simp⟩
  have := Blk.new (w.alloc (.map #[] 0)) 70 #[.map (some w.heap.size), .int .i64 0]
  rw [World.size_alloc] at this
  exact this
theorem len_any (h : Tal w b m L) : Calls Tryz.prog 27 #[.pointer (some ⟨b, 0, none⟩)] w fun e w' => e = .returned (.int .i64 L.length) ∧ w = w' := by
  obtain ⟨D, hm, ht⟩ := h.hm
  have hl := fun ty => hm.len (e := 3) Tryz.underlying68 ty
  rw [ht.size] at hl
  have c0 := h.hb.cell (k := 0) rfl
  clear hm ht h
  go_enter Tryz.func27, Tryz.ntmps27
  go_wp2
  go_ret
  exact ⟨rfl, rfl⟩
theorem len_nil (w : World) : Calls Tryz.prog 27 #[.pointer none] w fun e w' => e = .returned (.int .i64 0) ∧ w = w' := by
  go_enter Tryz.func27, Tryz.ntmps27
  go_wp2
  go_ret
  exact ⟨rfl, rfl⟩
theorem total_any (h : Tal w b m L) : Calls Tryz.prog 28 #[.pointer (some ⟨b, 0, none⟩)] w fun e w' => e = .returned (.int .i64 (sumL L)) ∧ w = w' := by
  have c0 := h.hb.cell (k := 1) rfl
  clear h
  generalize sumL L = T at c0 ⊢
  go_enter Tryz.func28, Tryz.ntmps28
  go_wp2
  go_ret
  exact ⟨rfl, rfl⟩
/-- what a look-up gives -/
theorem Tal.look (h : Tal w b m L) (k : ByteArray) (hk : k.size ≤ maxLen) :
    (Instr.lookup 68 (.map (some m)) (.string k) false).run Tryz.prog w = .ok (.int .i64 (countL L k)) w ∧
    (Instr.lookup 68 (.map (some m)) (.string k) true).run Tryz.prog w = .ok (.tuple #[.int .i64 (countL L k), .bool (decide (k ∈ keysL L))]) w := by
  obtain ⟨D, hm, ht⟩ := h.hm
  have hkey : keyOf Tryz.prog 9 (.string k) = some (keyL k) := Go.WideMaps.keyOf_string_mk Tryz.underlying9 hk
  constructor
  · obtain ⟨c, hr, ha, _⟩ := hm.lookup_int (t := 68) (e := 3) kS Tryz.underlying68 Tryz.underlying3 (Tryz.zeroValue3 w) hkey
    have := ht.count k
    unfold numD at this
    rw [ha] at this
    have e : c = countL L k := (Lit.int.inj (DataW.lit.inj this)).2
    rw [← e]; exact hr
  · obtain ⟨v, ps, hr, hv⟩ := hm.look_ok (t := 68) (e := 3) kS Tryz.underlying68 (Tryz.zeroValue3 w) (plainElem_int (H := Unit) Tryz.underlying3 (a := 0) (by decide)) hkey
    obtain ⟨c, rfl, hc, _⟩ := plainElem_int_inv Tryz.underlying3 hv
    have h2 := congrArg Prod.fst hc
    have := ht.count k
    unfold numD at this
    rw [this] at h2
    have e : countL L k = c := (Lit.int.inj (DataW.lit.inj h2)).2
    rw [ht.has k, ← e] at hr
    exact hr
theorem count_any (h : Tal w b m L) (k : ByteArray) (hk : k.size ≤ maxLen) : Calls Tryz.prog 29 #[.pointer (some ⟨b, 0, none⟩), .string k] w fun e w' => e = .returned (.int .i64 (countL L k)) ∧ w = w' := by
  have hl := (h.look k hk).1
  have c0 := h.hb.cell (k := 0) rfl
  clear h
  generalize countL L k = T at hl ⊢
  go_enter Tryz.func29, Tryz.ntmps29
  go_wp2
  go_ret
  exact ⟨rfl, rfl⟩
/-- nothing but two blocks has turned; memory may have grown -/
structure But2 (b m : Nat) (w w' : World) : Prop where
  os : w'.os = w.os
  tape : w'.tape = w.tape
  output : w'.output = w.output
  size : w.heap.size ≤ w'.heap.size
  block : ∀ k, k < w.heap.size → k ≠ b → k ≠ m → w'.heap[k]? = w.heap[k]?
theorem But2.below {n : Nat} (h : But2 b m w w') (h1 : n ≤ b) (h2 : n ≤ m) (h3 : n ≤ w.heap.size) : Below n w w' :=
  ⟨h.os, h.tape, h.output, h.size, fun k hk => h.block k (by omega) (by omega) (by omega)⟩
theorem dropL_sum {k : ByteArray} : ∀ {L : List Ent}, (keysL L).Nodup → sumL (dropL L k) + countL L k = sumL L
  | [], _ => rfl
  | y :: r, h => by
    unfold keysL at h
    rw [List.map_cons, List.nodup_cons] at h
    have ih := dropL_sum (k := k) (L := r) h.2
    by_cases e : y.1 = k
    · have hk : k ∉ keysL r := by rw [← e]; exact h.1
      rw [countL_no hk] at ih
      have : dropL (y :: r) k = dropL r k := by unfold dropL; simp [List.filter_cons, e]
      rw [this]
      unfold countL
      rw [if_pos e]
      simp only [sumL]
      omega
    · have : dropL (y :: r) k = y :: dropL r k := by unfold dropL; simp [List.filter_cons, e]
      rw [this]
      unfold countL
      rw [if_neg e]
      simp only [sumL]
      omega
theorem sumL_perm {l l' : List Ent} (h : l.Perm l') : sumL l = sumL l' := by
  induction h with
  | nil => rfl
  | cons x _ ih => simp only [sumL, ih]
  | swap x y l => simp only [sumL]; omega
  | trans _ _ h1 h2 => exact h1.trans h2
theorem put_sum (hn : (keysL L).Nodup) (k : ByteArray) (n : Int) : sumL (putL L k n) = sumL L + n := by
  unfold putL
  rw [sumL_perm (insE_perm _ _)]
  have := dropL_sum (k := k) hn
  simp only [sumL]
  omega
theorem put_len (hn : (keysL L).Nodup) (k : ByteArray) (n : Int) : (putL L k n).length = if k ∈ keysL L then L.length else L.length + 1 := by
  have h1 : (putL L k n).length = (dropL L k).length + 1 := (insE_perm _ _).length_eq
  have h2 := drop_len (k := k) hn
  split at h2 <;> rename_i hk
  · rw [if_pos hk]; omega
  · rw [if_neg hk]; omega
theorem Ents.put (h : Ents L) (hn : (keysL L).Nodup) (k : ByteArray) (n : Int) (hk : k.size ≤ maxLen) (h1 : 0 < n) (h2 : sumL L + n ≤ 2147483648) (h3 : k ∈ keysL L ∨ L.length < 4096) : Ents (putL L k n) where
  srt := putL_sorted h.srt k n
  pos x hx := by
    rcases insE_mem.1 hx with rfl | hx
    · have := (countL_le k h.pos).1
      show 0 < countL L k + n
      omega
    · exact h.pos x (dropL_mem.1 hx).1
  tot := by rw [put_sum hn]; exact h2
  len := by
    rw [put_len hn]
    have := h.len
    split
    · omega
    · rename_i hk; rcases h3 with h3 | h3
      · exact absurd h3 hk
      · omega
  sz x hx := by
    rcases insE_mem.1 hx with rfl | hx
    · exact hk
    · exact h.sz x (dropL_mem.1 hx).1
theorem Tal.nd (h : Tal w b m L) : (keysL L).Nodup := h.hm.elim fun _ h => h.2.nd
set_option maxRecDepth 100000 in
set_option maxHeartbeats 1000000 in
theorem add_ok (h : Tal w b m L) (k : ByteArray) (n : Int) (hk : k.size ≤ maxLen) (h1 : 0 < n) (h2 : sumL L + n ≤ 2147483648) (h3 : k ∈ keysL L ∨ L.length < 4096) :
    Calls Tryz.prog 19 #[.pointer (some ⟨b, 0, none⟩), .string k, .int .i64 n] w fun e w' => e = .returned (.int .i64 0) ∧ Tal w' b m (putL L k n) ∧ But2 b m w w' ∧ w'.heap.size = w.heap.size := by
  have hne := h.ne
  have hE := hid (h.he.put h.nd k n hk h1 h2 h3)
  have hS := hid (put_sum h.nd k n)
  obtain ⟨k1, k2⟩ := countL_le k h.he.pos
  have hs0 := sumL_pos h.he.pos
  have ht0 := h.he.tot
  obtain ⟨l1, l2⟩ := h.look k hk
  obtain ⟨D, hm, ht⟩ := h.hm
  have hl := fun ty => hm.len (e := 3) Tryz.underlying68 ty
  have hsz := ht.size
  have hlen := h.he.len
  have c0 := h.hb.cell (k := 0) rfl
  have c1 := h.hb.cell (k := 1) rfl
  have hkey : keyOf Tryz.prog 9 (.string k) = some (keyL k) := Go.WideMaps.keyOf_string_mk Tryz.underlying9 hk
  have hwf : (Lit.int .i64 (countL L k + n)).wf = true := by simp [Lit.wf, IntKind.min, IntKind.max, IntKind.signed, IntKind.bits]; omega
  obtain ⟨w1, hup, hm1, hg0⟩ := hm.store (t := 68) (e := 3) (val := .int .i64 (countL L k + n)) kS Tryz.underlying68 (by unfold maxLen; omega) hkey (plainElem_int Tryz.underlying3 hwf)
  have hT := hid (ht.put (hm.tidy kS) k n)
  have hg1 := hg0.grown
  have hsz1 : w1.heap.size = w.heap.size := by
    obtain ⟨es, clock, es', clock', _, rfl⟩ := hg0
    simp [Go.ChangeMaps.setBlock]
  have hb1 := h.hb.kept hg1 (by intro e; exact hne (by injection e))
  have d1 := hb1.cell (k := 1) rfl
  have f1 := hb1.froz 1
  have hW : Hid (Tal (w1.setCell ⟨b, 1, none⟩ (.int .i64 (sumL L + n))) b m (putL L k n) ∧ But2 b m w (w1.setCell ⟨b, 1, none⟩ (.int .i64 (sumL L + n))) ∧ (w1.setCell ⟨b, 1, none⟩ (.int .i64 (sumL L + n))).heap.size = w.heap.size) := by
    refine ⟨⟨?_, ⟨_, (map_exact hm1).block (Below.heap_setCell w1 ⟨b, 1, none⟩ _ m hne.symm), hT.out⟩, hE.out⟩, ⟨?_, ?_, ?_, ?_, ?_⟩, ?_⟩
    · rw [hS.out]; exact hb1.set 1 _
    · exact hg1.os
    · exact hg1.tape
    · exact hg1.output
    · simpa using hg1.size
    · intro j hj h4 h5
      exact (Below.heap_setCell w1 ⟨b, 1, none⟩ _ j h4).trans (hg1.block j hj (by intro e; exact h5 (by injection e)))
    · simpa using hsz1
  have hc : Hid (k ∈ keysL L ∨ L.length < 4096) := h3
  clear h3 hm1 hg1 hg0 hsz1 hm ht hE hS hT hb1 h hkey hwf
  generalize countL L k = C at *
  generalize sumL L = S at *
  rw [hsz] at hl
  clear hsz
  rcases hc.out with h3 | h3
  · have h4 : decide (k ∈ keysL L) = true := decide_eq_true h3
    clear h3
    rw [h4] at l2
    go_enter Tryz.func19, Tryz.ntmps19
    go_wp2
    go_ret
    exact ⟨rfl, hW.out⟩
  · by_cases h5 : k ∈ keysL L
    all_goals
      first | (have h4 : decide (k ∈ keysL L) = true := decide_eq_true h5) | (have h4 : decide (k ∈ keysL L) = false := decide_eq_false h5)
      clear h5
      rw [h4] at l2
      go_enter Tryz.func19, Tryz.ntmps19
      go_wp2
      go_ret
      exact ⟨rfl, hW.out⟩
end
end Go.Proofs.YthidjbobjjoekaaGreat
