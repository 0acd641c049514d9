/- A tally in memory: New, Len, Total, Count, Add. Conditions: those of each theorem. -/
import Derived.Test.YtmpkfpabejpbkaaGreatDoorJCTaA
import Derived.Carry
import Derived.Shelf.SlSortCmp.WholeK
import Derived.Test.YtmpkfpabejpbkaaGreatDoorProg
import Derived.Shelf.SlSortCmp.NoneTotal
import Derived.OwnWalk
namespace Go.Proofs.YtmpkfpabejpbkaaGreatDoor.C
open Go.RowKit Go.Lib Go.Sort Go.Shelf
set_option linter.unusedVariables false
set_option linter.unusedSimpArgs false
/-- a block of cells, as it lies -/
def Blk (W : World) (B : Nat) (t : TypeId) (c : Array Value) : Prop := W.heap[B]? = some (.cells c t (0, 0))
section
variable {W W' : World} {B : Nat} {t : TypeId} {c : Array Value}
theorem Blk.lt (h : Blk W B t c) : B < W.heap.size := (Array.getElem?_eq_some_iff.1 h).1
theorem Blk.cell (h : Blk W B t c) {k : Nat} {v : Value} (hk : c[k]? = some v) : W.cell? ⟨B, k, none⟩ = some v := blk_cell h hk
theorem Blk.froz (h : Blk W B t c) (k : Nat) : W.frozen? ⟨B, k, none⟩ = false := blk_froz h k
theorem Blk.low (h : Blk W B t c) (hb : Below W.heap.size W W') : Blk W' B t c := (hb.block B h.lt).trans h
theorem Blk.lowN {n : Nat} (h : Blk W B t c) (hb : Below n W W') (hn : B < n) : Blk W' B t c := (hb.block B hn).trans h
theorem Blk.new (W : World) (t : TypeId) (c : Array Value) : Blk (W.alloc (.cells c t)) W.heap.size t c := heap_alloc_new W _
theorem Blk.alloc (h : Blk W B t c) (o : Obj) : Blk (W.alloc o) B t c := h.low ((Below.refl _ _).alloc (Nat.le_refl _) _)
theorem Blk.kept {row : Option Nat} (h : Blk W B t c) (hg : W.grownBy W' row) (hne : some B ≠ row) : Blk W' B t c := (hg.block B h.lt hne).trans h
theorem Blk.other (h : Blk W B t c) {B' k : Nat} (hne : B ≠ B') (u : Value) : Blk (W.setCell ⟨B', k, none⟩ u) B t c :=
  (Below.heap_setCell W ⟨B', k, none⟩ u B hne).trans h
theorem Blk.set (h : Blk W B t c) (k : Nat) (u : Value) : Blk (W.setCell ⟨B, k, none⟩ u) B t (c.setIfInBounds k u) := by
  obtain ⟨hlt, hk⟩ := Array.getElem?_eq_some_iff.1 h
  show (W.heap.modify B _)[B]? = _
  rw [Array.getElem?_eq_getElem (by rw [Array.size_modify]; exact hlt), Array.getElem_modify_self, hk]
  rfl
end
/-- a map, as it lies, of just so many entries -/
abbrev MapAt (w : World) (m : Nat) (D : Dt) : Prop := w.ownsMap Tryz.prog 9 (plainElem Tryz.prog 3) m (Maps.size D) D
theorem map_exact {w : World} {m n : Nat} {D : Dt} (h : w.ownsMap Tryz.prog 9 (plainElem Tryz.prog 3) m n D) : MapAt w m D := by
  obtain ⟨es, clock, hb, F, hs, hD⟩ := h
  refine ⟨es, clock, hb, F, ?_, hD⟩
  rw [hD]
  simp [Maps.size, length_sorted]
theorem MapAt.block {w w' : World} {m : Nat} {D : Dt} (h : MapAt w m D) (he : w'.heap[m]? = w.heap[m]?) : MapAt w' m D := by
  obtain ⟨es, clock, hb, r⟩ := h
  exact ⟨es, clock, he.trans hb, r⟩
theorem kS : Maps.Keyed Tryz.prog 9 := Maps.string_keyed Tryz.underlying9
/-- the entries are in order and no more than may be -/
structure Ents (L : List Ent) : Prop where
  srt : L.Pairwise ltE
  pos : ∀ x ∈ L, 0 < x.2
  tot : sumL L ≤ 2147483648
  len : L.length ≤ 4096
  sz : ∀ x ∈ L, x.1.size ≤ maxLen
/-- a tally in memory -/
structure Tal (w : World) (b m : Nat) (L : List Ent) : Prop where
  hb : Blk w b 94 #[.map (some m), .int .i64 (sumL L)]
  hm : ∃ D, MapAt w m D ∧ Tly D L
  he : Ents L
theorem sumL_pos : ∀ {L : List Ent}, (∀ x ∈ L, 0 < x.2) → 0 ≤ sumL L
  | [], _ => by simp [sumL]
  | x :: r, h => by
    have := sumL_pos (L := r) fun y hy => h y (List.mem_cons_of_mem _ hy)
    have := h x (List.mem_cons_self ..)
    unfold sumL
    omega
theorem countL_le : ∀ {L : List Ent} (k : ByteArray), (∀ x ∈ L, 0 < x.2) → 0 ≤ countL L k ∧ countL L k ≤ sumL L
  | [], _, _ => by simp [sumL, countL]
  | x :: r, k, h => by
    have h1 := countL_le (L := r) k fun y hy => h y (List.mem_cons_of_mem _ hy)
    have h2 := h x (List.mem_cons_self ..)
    unfold sumL countL
    split <;> omega
section
variable {w w' : World} {b m : Nat} {L : List Ent}
theorem Tal.ne (h : Tal w b m L) : b ≠ m := by
  obtain ⟨hb, ⟨D, ⟨es, clock, hm, _⟩, _⟩, _⟩ := h
  rintro rfl
  rw [show w.heap[b]? = _ from hb] at hm
  cases hm
theorem Tal.mlt (h : Tal w b m L) : m < w.heap.size := by
  obtain ⟨hb, ⟨D, hm, _⟩, _⟩ := h
  exact hm.lt
theorem Tal.blt (h : Tal w b m L) : b < w.heap.size := h.hb.lt
theorem Tal.keep (h : Tal w b m L) (e1 : w'.heap[b]? = w.heap[b]?) (e2 : w'.heap[m]? = w.heap[m]?) : Tal w' b m L :=
  ⟨e1.trans h.hb, h.hm.elim fun D hD => ⟨D, hD.1.block e2, hD.2⟩, h.he⟩
theorem Tal.low (h : Tal w b m L) (hb : Below w.heap.size w w') : Tal w' b m L := h.keep (hb.block _ h.blt) (hb.block _ h.mlt)
theorem Tal.lowN {n : Nat} (h : Tal w b m L) (hb : Below n w w') (h1 : b < n) (h2 : m < n) : Tal w' b m L := h.keep (hb.block _ h1) (hb.block _ h2)
theorem new_any (w : World) : Calls Tryz.prog 14 #[] w fun e w' => e = .returned (.pointer (some ⟨w.heap.size + 1, 0, none⟩)) ∧ Tal w' (w.heap.size + 1) w.heap.size [] ∧ Below w.heap.size w w' ∧ w'.heap.size = w.heap.size + 2 := by
  have hmm := @run_makeMap Tryz.prog
  go_enter Tryz.func14, Tryz.ntmps14
  go_wp2
  go_ret
  have hM := (World.ownsMap_made w Tryz.prog 9 (plainElem (H := Unit) Tryz.prog 3)).alloc (.cells #[.map (some w.heap.size), .int .i64 0] 94)
  refine ⟨rfl, ⟨?_, ⟨_, map_exact hM, Tly.empty⟩, ⟨List.Pairwise.nil, by simp, by simp [sumL], by simp, by simp⟩⟩, ((Below.refl _ _).alloc (Nat.le_refl _) _).alloc (by simp) _, by simp⟩
  have := Blk.new (w.alloc (.map #[] 0)) 94 #[.map (some w.heap.size), .int .i64 0]
  rw [World.size_alloc] at this
  exact this
theorem len_any (h : Tal w b m L) : Calls Tryz.prog 31 #[.pointer (some ⟨b, 0, none⟩)] w fun e w' => e = .returned (.int .i64 L.length) ∧ w = w' := by
  obtain ⟨D, hm, ht⟩ := h.hm
  have hl := fun ty => hm.len (e := 3) Tryz.underlying92 ty
  rw [ht.size] at hl
  have c0 := h.hb.cell (k := 0) rfl
  clear hm ht h
  go_enter Tryz.func31, Tryz.ntmps31
  go_wp2
  go_ret
  exact ⟨rfl, rfl⟩
theorem len_nil (w : World) : Calls Tryz.prog 31 #[.pointer none] w fun e w' => e = .returned (.int .i64 0) ∧ w = w' := by
  go_enter Tryz.func31, Tryz.ntmps31
  go_wp2
  go_ret
  exact ⟨rfl, rfl⟩
theorem total_any (h : Tal w b m L) : Calls Tryz.prog 32 #[.pointer (some ⟨b, 0, none⟩)] w fun e w' => e = .returned (.int .i64 (sumL L)) ∧ w = w' := by
  have c0 := h.hb.cell (k := 1) rfl
  clear h
  generalize sumL L = T at c0 ⊢
  go_enter Tryz.func32, Tryz.ntmps32
  go_wp2
  go_ret
  exact ⟨rfl, rfl⟩
/-- what a look-up gives -/
theorem Tal.look (h : Tal w b m L) (k : ByteArray) (hk : k.size ≤ maxLen) :
    (Instr.lookup 92 (.map (some m)) (.string k) false).run Tryz.prog w = .ok (.int .i64 (countL L k)) w ∧
    (Instr.lookup 92 (.map (some m)) (.string k) true).run Tryz.prog w = .ok (.tuple #[.int .i64 (countL L k), .bool (decide (k ∈ keysL L))]) w := by
  obtain ⟨D, hm, ht⟩ := h.hm
  have hkey : keyOf Tryz.prog 9 (.string k) = some (keyL k) := Go.WideMaps.keyOf_string_mk Tryz.underlying9 hk
  constructor
  · obtain ⟨c, hr, ha, _⟩ := hm.lookup_int (t := 92) (e := 3) kS Tryz.underlying92 Tryz.underlying3 (Tryz.zeroValue3 w) hkey
    have := ht.count k
    unfold numD at this
    rw [ha] at this
    have e : c = countL L k := (Lit.int.inj (DataW.lit.inj this)).2
    rw [← e]; exact hr
  · obtain ⟨v, ps, hr, hv⟩ := hm.look_ok (t := 92) (e := 3) kS Tryz.underlying92 (Tryz.zeroValue3 w) (plainElem_int (H := Unit) Tryz.underlying3 (a := 0) (by decide)) hkey
    obtain ⟨c, rfl, hc, _⟩ := plainElem_int_inv Tryz.underlying3 hv
    have h2 := congrArg Prod.fst hc
    have := ht.count k
    unfold numD at this
    rw [this] at h2
    have e : countL L k = c := (Lit.int.inj (DataW.lit.inj h2)).2
    rw [ht.has k, ← e] at hr
    exact hr
theorem count_any (h : Tal w b m L) (k : ByteArray) (hk : k.size ≤ maxLen) : Calls Tryz.prog 34 #[.pointer (some ⟨b, 0, none⟩), .string k] w fun e w' => e = .returned (.int .i64 (countL L k)) ∧ w = w' := by
  have hl := (h.look k hk).1
  have c0 := h.hb.cell (k := 0) rfl
  clear h
  generalize countL L k = T at hl ⊢
  go_enter Tryz.func34, Tryz.ntmps34
  go_wp2
  go_ret
  exact ⟨rfl, rfl⟩
/-- nothing but two blocks has turned; memory may have grown -/
structure But2 (b m : Nat) (w w' : World) : Prop where
  os : w'.os = w.os
  tape : w'.tape = w.tape
  output : w'.output = w.output
  size : w.heap.size ≤ w'.heap.size
  block : ∀ k, k < w.heap.size → k ≠ b → k ≠ m → w'.heap[k]? = w.heap[k]?
theorem But2.below {n : Nat} (h : But2 b m w w') (h1 : n ≤ b) (h2 : n ≤ m) (h3 : n ≤ w.heap.size) : Below n w w' :=
  ⟨h.os, h.tape, h.output, h.size, fun k hk => h.block k (by omega) (by omega) (by omega)⟩
theorem dropL_sum {k : ByteArray} : ∀ {L : List Ent}, (keysL L).Nodup → sumL (dropL L k) + countL L k = sumL L
  | [], _ => rfl
  | y :: r, h => by
    unfold keysL at h
    rw [List.map_cons, List.nodup_cons] at h
    have ih := dropL_sum (k := k) (L := r) h.2
    by_cases e : y.1 = k
    · have hk : k ∉ keysL r := by rw [← e]; exact h.1
      rw [countL_no hk] at ih
      have : dropL (y :: r) k = dropL r k := by unfold dropL; simp [List.filter_cons, e]
      rw [this]
      unfold countL
      rw [if_pos e]
      simp only [sumL]
      omega
    · have : dropL (y :: r) k = y :: dropL r k := by unfold dropL; simp [List.filter_cons, e]
      rw [this]
      unfold countL
      rw [if_neg e]
      simp only [sumL]
      omega
theorem sumL_perm {l l' : List Ent} (h : l.Perm l') : sumL l = sumL l' := by
  induction h with
  | nil => rfl
  | cons x _ ih => simp only [sumL, ih]
  | swap x y l => simp only [sumL]; omega
  | trans _ _ h1 h2 => exact h1.trans h2
theorem put_sum (hn : (keysL L).Nodup) (k : ByteArray) (n : Int) : sumL (putL L k n) = sumL L + n := by
  unfold putL
  rw [sumL_perm (insE_perm _ _)]
  have := dropL_sum (k := k) hn
  simp only [sumL]
  omega
theorem put_len (hn : (keysL L).Nodup) (k : ByteArray) (n : Int) : (putL L k n).length = if k ∈ keysL L then L.length else L.length + 1 := by
  have h1 : (putL L k n).length = (dropL L k).length + 1 := (insE_perm _ _).length_eq
  have h2 := drop_len (k := k) hn
  split at h2 <;> rename_i hk
  · rw [if_pos hk]; omega
  · rw [if_neg hk]; omega
theorem Ents.put (h : Ents L) (hn : (keysL L).Nodup) (k : ByteArray) (n : Int) (hk : k.size ≤ maxLen) (h1 : 0 < n) (h2 : sumL L + n ≤ 2147483648) (h3 : k ∈ keysL L ∨ L.length < 4096) : Ents (putL L k n) where
  srt := putL_sorted h.srt k n
  pos x hx := by
    rcases insE_mem.1 hx with rfl | hx
    · have := (countL_le k h.pos).1
      show 0 < countL L k + n
      omega
    · exact h.pos x (dropL_mem.1 hx).1
  tot := by rw [put_sum hn]; exact h2
  len := by
    rw [put_len hn]
    have := h.len
    split
    · omega
    · rename_i hk; rcases h3 with h3 | h3
      · exact absurd h3 hk
      · omega
  sz x hx := by
    rcases insE_mem.1 hx with rfl | hx
    · exact hk
    · exact h.sz x (dropL_mem.1 hx).1
theorem Tal.nd (h : Tal w b m L) : (keysL L).Nodup := h.hm.elim fun _ h => h.2.nd
set_option maxRecDepth 100000 in
set_option maxHeartbeats 1000000 in
theorem add_ok (h : Tal w b m L) (k : ByteArray) (n : Int) (hk : k.size ≤ maxLen) (h1 : 0 < n) (h2 : sumL L + n ≤ 2147483648) (h3 : k ∈ keysL L ∨ L.length < 4096) :
    Calls Tryz.prog 15 #[.pointer (some ⟨b, 0, none⟩), .string k, .int .i64 n] w fun e w' => e = .returned (.int .i64 0) ∧ Tal w' b m (putL L k n) ∧ But2 b m w w' ∧ w'.heap.size = w.heap.size := by
  have hne := h.ne
  have hE := hid (h.he.put h.nd k n hk h1 h2 h3)
  have hS := hid (put_sum h.nd k n)
  obtain ⟨k1, k2⟩ := countL_le k h.he.pos
  have hs0 := sumL_pos h.he.pos
  have ht0 := h.he.tot
  obtain ⟨l1, l2⟩ := h.look k hk
  obtain ⟨D, hm, ht⟩ := h.hm
  have hl := fun ty => hm.len (e := 3) Tryz.underlying92 ty
  have hsz := ht.size
  have hlen := h.he.len
  have c0 := h.hb.cell (k := 0) rfl
  have c1 := h.hb.cell (k := 1) rfl
  have hkey : keyOf Tryz.prog 9 (.string k) = some (keyL k) := Go.WideMaps.keyOf_string_mk Tryz.underlying9 hk
  have hwf : (Lit.int .i64 (countL L k + n)).wf = true := by simp [Lit.wf, IntKind.min, IntKind.max, IntKind.signed, IntKind.bits]; omega
  obtain ⟨w1, hup, hm1, hg0⟩ := hm.store (t := 92) (e := 3) (val := .int .i64 (countL L k + n)) kS Tryz.underlying92 (by unfold maxLen; omega) hkey (plainElem_int Tryz.underlying3 hwf)
  have hT := hid (ht.put (hm.tidy kS) k n)
  have hg1 := hg0.grown
  have hsz1 : w1.heap.size = w.heap.size := by
    obtain ⟨es, clock, es', clock', _, rfl⟩ := hg0
    simp [Go.ChangeMaps.setBlock]
  have hb1 := h.hb.kept hg1 (by intro e; exact hne (by injection e))
  have d1 := hb1.cell (k := 1) rfl
  have f1 := hb1.froz 1
  have hW : Hid (Tal (w1.setCell ⟨b, 1, none⟩ (.int .i64 (sumL L + n))) b m (putL L k n) ∧ But2 b m w (w1.setCell ⟨b, 1, none⟩ (.int .i64 (sumL L + n))) ∧ (w1.setCell ⟨b, 1, none⟩ (.int .i64 (sumL L + n))).heap.size = w.heap.size) := by
    refine ⟨⟨?_, ⟨_, (map_exact hm1).block (Below.heap_setCell w1 ⟨b, 1, none⟩ _ m hne.symm), hT.out⟩, hE.out⟩, ⟨?_, ?_, ?_, ?_, ?_⟩, ?_⟩
    · rw [hS.out]; exact hb1.set 1 _
    · exact hg1.os
    · exact hg1.tape
    · exact hg1.output
    · simpa using hg1.size
    · intro j hj h4 h5
      exact (Below.heap_setCell w1 ⟨b, 1, none⟩ _ j h4).trans (hg1.block j hj (by intro e; exact h5 (by injection e)))
    · simpa using hsz1
  have hc : Hid (k ∈ keysL L ∨ L.length < 4096) := h3
  clear h3 hm1 hg1 hg0 hsz1 hm ht hE hS hT hb1 h hkey hwf
  generalize countL L k = C at *
  generalize sumL L = S at *
  rw [hsz] at hl
  clear hsz
  rcases hc.out with h3 | h3
  · have h4 : decide (k ∈ keysL L) = true := decide_eq_true h3
    clear h3
    rw [h4] at l2
    go_enter Tryz.func15, Tryz.ntmps15
    go_wp2
    go_ret
    exact ⟨rfl, hW.out⟩
  · by_cases h5 : k ∈ keysL L
    all_goals
      first | (have h4 : decide (k ∈ keysL L) = true := decide_eq_true h5) | (have h4 : decide (k ∈ keysL L) = false := decide_eq_false h5)
      clear h5
      rw [h4] at l2
      go_enter Tryz.func15, Tryz.ntmps15
      go_wp2
      go_ret
      exact ⟨rfl, hW.out⟩
end
end Go.Proofs.YtmpkfpabejpbkaaGreatDoor.C
/-
  DERIVED: THE SHELF's CONTRACTS AT THIS DUMP, IN PLAIN WORDS (tools/lay-plain.mjs out of 'TryShelf.lean', which tools/lay-shelf.mjs wrote): THE SAME DECLARATIONS UNDER THE SAME NAMES: 'import', 'namespace', 'open', 'def', 'theorem' AND NOTHING ELSE: no command of the shelf's: FOR A HAND-IN. Each laying: the table of numbers ('.._ren') and one theorem, a field a fact of the dump's own or the kernel's comparison; each contract: ONE APPLICATION.
-/
namespace Go.Proofs
open Go.Shelf
def Tryz.sortE_ren : Go.Shelf.Ren := ⟨fun | 6 => 68 | 15 => 85 | 14 => 84 | 28 => 101 | 29 => 102 | 20 => 93 | 21 => 94 | 22 => 95 | 23 => 96 | 24 => 97 | 25 => 98 | 26 => 99 | 27 => 100 | 46 => 109 | 47 => 110 | 48 => 111 | 49 => 112 | 50 => 113 | 57 => 117 | n => n, fun | 22 => 116 | 24 => 119 | 25 => 148 | 3 => 3 | 39 => 98 | 0 => 0 | 53 => 174 | 55 => 90 | 4 => 4 | 46 => 168 | 45 => 167 | 50 => 95 | 5 => 5 | 9 => 9 | 66 => 183 | 70 => 187 | 76 => 189 | 77 => 87 | n => n, fun | n => n⟩
theorem Tryz.sortE : Go.Proofs.SlLaysF0.n6 Tryz.prog Tryz.sortE_ren := {
  mixed := by kernel_rfl
  f6 := ⟨Tryz.f68.name, by decide, Tryz.func68.trans (congrArg some (by kernel_rfl))⟩
  f14 := ⟨Tryz.f84.name, by decide, Tryz.func84.trans (congrArg some (by kernel_rfl))⟩
  f15 := Tryz.func85.trans (congrArg some (by kernel_rfl))
  f20 := ⟨Tryz.f93.name, by decide, Tryz.func93.trans (congrArg some (by kernel_rfl))⟩
  f21 := ⟨Tryz.f94.name, by decide, Tryz.func94.trans (congrArg some (by kernel_rfl))⟩
  f22 := ⟨Tryz.f95.name, by decide, Tryz.func95.trans (congrArg some (by kernel_rfl))⟩
  f23 := ⟨Tryz.f96.name, by decide, Tryz.func96.trans (congrArg some (by kernel_rfl))⟩
  f24 := ⟨Tryz.f97.name, by decide, Tryz.func97.trans (congrArg some (by kernel_rfl))⟩
  f25 := ⟨Tryz.f98.name, by decide, Tryz.func98.trans (congrArg some (by kernel_rfl))⟩
  f26 := ⟨Tryz.f99.name, by decide, Tryz.func99.trans (congrArg some (by kernel_rfl))⟩
  f27 := ⟨Tryz.f100.name, by decide, Tryz.func100.trans (congrArg some (by kernel_rfl))⟩
  f28 := Tryz.func101.trans (congrArg some (by kernel_rfl))
  f29 := Tryz.func102.trans (congrArg some (by kernel_rfl))
  f46 := ⟨Tryz.f109.name, by decide, Tryz.func109.trans (congrArg some (by kernel_rfl))⟩
  f47 := Tryz.func110.trans (congrArg some (by kernel_rfl))
  f48 := Tryz.func111.trans (congrArg some (by kernel_rfl))
  f49 := ⟨Tryz.f112.name, by decide, Tryz.func112.trans (congrArg some (by kernel_rfl))⟩
  f50 := ⟨Tryz.f113.name, by decide, Tryz.func113.trans (congrArg some (by kernel_rfl))⟩
  f57 := ⟨Tryz.f117.name, by decide, Tryz.func117.trans (congrArg some (by kernel_rfl))⟩
  t0 := Tryz.underlying0
  a0 := Tryz.isAgg0
  z0 := Tryz.sizeOf0
  v0 := Tryz.zeroValue0
  t3 := Tryz.underlying3
  a3 := Tryz.isAgg3
  z3 := Tryz.sizeOf3
  v3 := Tryz.zeroValue3
  t4 := Tryz.underlying4
  a4 := Tryz.isAgg4
  z4 := Tryz.sizeOf4
  v4 := Tryz.zeroValue4
  t5 := Tryz.underlying5
  a5 := Tryz.isAgg5
  z5 := Tryz.sizeOf5
  v5 := Tryz.zeroValue5
  t9 := Tryz.underlying9
  a9 := Tryz.isAgg9
  z9 := Tryz.sizeOf9
  v9 := Tryz.zeroValue9
  t22 := Tryz.underlying116
  a22 := Tryz.isAgg116
  z22 := Tryz.sizeOf116
  v22 := Tryz.zeroValue116
  t25 := Tryz.underlying148
  a25 := Tryz.isAgg148
  z25 := Tryz.sizeOf148
  v25 := Tryz.zeroValue148
  t39 := Tryz.underlying98
  a39 := Tryz.isAgg98
  z39 := Tryz.sizeOf98
  v39 := Tryz.zeroValue98
  t45 := Tryz.underlying167
  a45 := Tryz.isAgg167
  z45 := Tryz.sizeOf167
  v45 := Tryz.zeroValue167
  t46 := Tryz.underlying168
  a46 := Tryz.isAgg168
  z46 := Tryz.sizeOf168
  v46 := Tryz.zeroValue168
  t50 := Tryz.underlying95
  a50 := Tryz.isAgg95
  z50 := Tryz.sizeOf95
  v50 := Tryz.zeroValue95
  t53 := Tryz.underlying174
  a53 := Tryz.isAgg174
  z53 := Tryz.sizeOf174
  v53 := Tryz.zeroValue174
  t55 := Tryz.underlying90
  a55 := Tryz.isAgg90
  z55 := Tryz.sizeOf90
  v55 := Tryz.zeroValue90
  t66 := Tryz.underlying183
  a66 := Tryz.isAgg183
  z66 := Tryz.sizeOf183
  v66 := Tryz.zeroValue183
  t70 := Tryz.underlying187
  a70 := Tryz.isAgg187
  z70 := Tryz.sizeOf187
  v70 := Tryz.zeroValue187
  t76 := Tryz.underlying189
  a76 := Tryz.isAgg189
  z76 := Tryz.sizeOf189
  v76 := Tryz.zeroValue189
  t77 := Tryz.underlying87
  a77 := Tryz.isAgg87
  z77 := Tryz.sizeOf87
  v77 := Tryz.zeroValue87 }
end Go.Proofs
/- The entries of a tally, in order: (*Tally).entries walked, whatever order the map gives. Conditions: none beyond the tally's own. -/
namespace Go.Proofs.YtmpkfpabejpbkaaGreatDoor.C
open Go.RowKit Go.Lib Go.Sort Go.Shelf
set_option linter.unusedVariables false
set_option linter.unusedSimpArgs false
theorem cells_new2 (w : World) (a0 a1 : Value) (T : TypeId) : ∀ j u, [a0, a1][j]? = some u → (w.alloc (.cells #[a0, a1] T)).cell? ((⟨w.heap.size, 0, none⟩ : Addr).add j) = some u := by
  intro j u hj
  match j, hj with
  | 0, hj => simp at hj; subst hj; simp [Addr.add]
  | 1, hj => simp at hj; subst hj; simp [Addr.add]
def flatE (l : List Ent) : List Value := l.flatMap encE
theorem flatE_get : ∀ (l : List Ent) (k : Nat) (x : Ent), l[k]? = some x → (flatE l)[k * 2]? = some (.string x.1) ∧ (flatE l)[k * 2 + 1]? = some (.int .i64 x.2)
  | [], k, x, h => by simp at h
  | y :: r, 0, x, h => by
    simp at h
    subst h
    exact ⟨rfl, rfl⟩
  | y :: r, k + 1, x, h => by
    have ih := flatE_get r k x (by simpa using h)
    have e : flatE (y :: r) = Value.string y.1 :: Value.int .i64 y.2 :: flatE r := rfl
    rw [e, show (k + 1) * 2 = k * 2 + 1 + 1 by omega]
    simpa using ih
theorem flatE_snoc (l : List Ent) (x : Ent) : flatE (l ++ [x]) = flatE l ++ [.string x.1, .int .i64 x.2] := by
  unfold flatE; simp [encE]
/-- entries as they lie in an array -/
def EntAt (w : World) (g : Nat) (L : List Ent) : Prop := ∀ k x, L[k]? = some x → w.cell? ⟨g, k * 2, none⟩ = some (.string x.1) ∧ w.cell? ⟨g, k * 2 + 1, none⟩ = some (.int .i64 x.2)
theorem holdsE {w : World} {g : Nat} {L : List Ent} (h : EntAt w g L) (hf : ∀ k, w.frozen? ⟨g, k, none⟩ = false) : HoldsK encE 2 w g 0 L.toArray := by
  intro j hj
  rw [size_flatK] at hj
  have hk : j / 2 < L.length := by simp at hj; omega
  obtain ⟨x, hx⟩ : ∃ x, L[j / 2]? = some x := ⟨_, List.getElem?_eq_getElem hk⟩
  refine ⟨?_, hf _⟩
  rw [get_flatK _ _ _ _ hj]
  have e1 : L.toArray[j / 2]! = x := by
    rw [getElem!_pos _ _ (by simpa using hk)]
    have := List.getElem?_eq_some_iff.1 hx
    obtain ⟨h1, h2⟩ := this
    simpa using h2
  rw [e1]
  obtain ⟨c1, c2⟩ := h _ _ hx
  rcases Nat.mod_two_eq_zero_or_one j with h2 | h2
  · rw [h2, show 0 + j = j / 2 * 2 by omega, c1]; rfl
  · rw [h2, show 0 + j = j / 2 * 2 + 1 by omega, c2]; rfl
theorem entE {w : World} {g : Nat} {L : List Ent} (h : HoldsK encE 2 w g 0 L.toArray) : EntAt w g L := by
  intro k x hx
  obtain ⟨h1, h2⟩ := List.getElem?_eq_some_iff.1 hx
  have e1 : L.toArray[k]! = x := by
    rw [getElem!_pos _ _ (by simpa using h1)]
    simpa using h2
  have c0 := (h.cell (i := k) (c := 0) (by simpa using h1) (by omega)).1
  have c1 := (h.cell (i := k) (c := 1) (by simpa using h1) (by omega)).1
  rw [e1, Nat.zero_add, Nat.add_zero] at c0
  rw [e1, Nat.zero_add] at c1
  exact ⟨c0, c1⟩
theorem grownBy_sortedK {w : World} {g n : Nat} {os : Array Obj} (d : Array Ent) : w.grownBy (sortWorldK encE 2 w g 0 n d os) (some g) := by
  unfold sortWorldK putRowK
  refine ⟨rfl, rfl, rfl, by simp, fun k hk hne => ?_⟩
  rw [heap_grow_old _ _ (by simpa using hk)]
  have : g ≠ k := fun e => hne (by rw [e])
  simp [putRow, mapBlock, Sort.ahead, Array.getElem?_modify, this]
theorem infoE : (Tryz.prog.info? 119).map (fun i => (i.zero, i.size, i.bytes)) = some (some (.agg #[.string ByteArray.empty, .int .i64 0]), 2, 24) := by kernel_rfl
theorem keyS_inv (key : Value) (kl : Lit) (h : keyOf Tryz.prog 9 key = some kl) : ∃ x : ByteArray, key = .string x := by
  cases key <;> simp [keyOf, Tryz.underlying9, mapKey] at h
  exact ⟨_, rfl⟩
theorem elem_inv (v : Value) (y : DataW Unit × List MemPlace) (h : plainElem Tryz.prog 3 v = some y) : ∃ c : Int, v = .int .i64 c := by
  obtain ⟨a, e, _⟩ := plainElem_int_inv Tryz.underlying3 h
  exact ⟨a, e⟩
/-- what entries hands back -/
def EntsBack (w : World) (L : List Ent) (v : Value) (w' : World) : Prop :=
  Below w.heap.size w w' ∧ ((L = [] ∧ v = .slice none 0 0) ∨ ∃ g cap, v = .slice (some ⟨g, 0, none⟩) L.length cap ∧ w.heap.size ≤ g ∧ g < w'.heap.size ∧ EntAt w' g L)
/-- the sort of what was collected -/
theorem sort_entries {w : World} {g cap : Nat} {out L : List Ent} (hp : out.Perm L) (hs : L.Pairwise ltE) (hH : HoldsK encE 2 w g 0 out.toArray) (hg : g < w.heap.size) (hl : out.length ≤ 4096) :
    Calls Tryz.prog 68 #[.slice (some ⟨g, 0, none⟩) out.length cap, .func (.func 69) #[] #[]] w fun e w' => e = .returned (.tuple #[]) ∧ EntAt w' g L ∧ w.grownBy w' (some g) := by
  have eg : ∀ args w, (callFunc 69 args).run Tryz.prog w = .ok (.enter 69 args) w := enters_of Tryz.func69 (by kernel_rfl) rfl
  have hcmp : CmpLays Tryz.prog 69 #[] encE 2 cfE g 0 out.toArray.size w := fun _ _ _ _ x y => closure78 x y _
  have hcon := AnyQ.slices_SortFunc_total Tryz.sortE 2 Tryz.isAgg119 Tryz.sizeOf119 encE (fun _ => rfl) (fun x v hv => by simp [encE] at hv; rcases hv with rfl | rfl <;> rfl) cfE swoE 69 #[] g 0 cap out.toArray w eg hcmp hH hg (by simp; omega) totE
  rw [merge_eq hp hs] at hcon
  have hsz : out.toArray.size = out.length := by simp
  rw [hsz] at hcon
  change Calls Tryz.prog 68 _ _ _ at hcon
  refine hcon.mono fun e w' ⟨he, n, os, hw⟩ => ⟨he, ?_, ?_⟩
  · rw [hw]
    exact entE (holdsK_sortWorldK_c encE 2 w g 0 out.toArray L.toArray n os hH hg (by simp [hp.length_eq]))
  · rw [hw]; exact grownBy_sortedK _
end Go.Proofs.YtmpkfpabejpbkaaGreatDoor.C
/- (*Tally).entries walked. Conditions: none beyond the tally's own. -/
namespace Go.Proofs.YtmpkfpabejpbkaaGreatDoor.C
open Go.RowKit Go.Lib Go.Sort Go.Shelf
set_option linter.unusedVariables false
set_option linter.unusedSimpArgs false
theorem entries_nil (w : World) : Calls Tryz.prog 52 #[.pointer none] w fun e w' => e = .returned (.slice none 0 0) ∧ w = w' := by
  go_enter Tryz.func52, Tryz.ntmps52
  go_wp2
  go_ret
  exact ⟨rfl, rfl⟩
theorem take_get {cur : Array Value} {xs : List Value} {n j : Nat} {u : Value} (h : cur.toList.take n = xs) (hj : xs[j]? = some u) : cur[j]? = some u := by
  rw [← h, List.getElem?_take] at hj
  split at hj
  · rw [← Array.getElem?_toList]; exact hj
  · cases hj
theorem slice_eq {p : Option Addr} {n n' c : Nat} (h : n = n') : Value.slice p n c = Value.slice p n' c := by rw [h]
theorem keyS_is {x : ByteArray} {kl : Lit} (h : keyOf Tryz.prog 9 (.string x) = some kl) : kl = keyL x ∧ x.size ≤ maxLen := by
  simp [keyOf, Tryz.underlying9, mapKey] at h
  obtain ⟨h1, h2⟩ := h
  exact ⟨h2.symm, h1⟩
/-- what holds while the map is gone through -/
structure Col (w wr : World) (m r : Nat) (D : Dt) (L out : List Ent) (left : Lit → Bool) (cnt : Nat) (v : Value) : Prop where
  rg : wr.ranges Tryz.prog 9 (plainElem Tryz.prog 3) m r (Maps.size D) D left cnt
  own : wr.ownsRow (r + 1) 119 2 v out.length (flatE out)
  got : Got D left out
  low : Below w.heap.size w wr
  cnt : out.length + cnt ≤ L.length
  nil : out = [] → v = .slice none 0 0
set_option maxRecDepth 100000 in
set_option maxHeartbeats 2000000 in
theorem entries_any {w : World} {b m : Nat} {L : List Ent} (h : Tal w b m L) :
    Calls Tryz.prog 52 #[.pointer (some ⟨b, 0, none⟩)] w fun e w' => ∃ v, e = .returned v ∧ EntsBack w L v w' := by
  obtain ⟨i0, hi, hz0, hz1, hz2⟩ := info_parts infoE
  obtain ⟨D, hm, ht⟩ := h.hm
  have c0 := h.hb.cell (k := 0) rfl
  have hlen := h.he.len
  have hsrt := hid h.he.srt
  have hml := h.mlt
  have hTl := hid ht
  have hsz := hid ht.size
  clear h ht
  go_enter Tryz.func52, Tryz.ntmps52
  go_wp2_with (first | (at_range; refine wpList_range_own _ rfl _ 92 rfl 9 3 kS Tryz.underlying92 _ m (Maps.size D) _ rfl hm ?_; intro w0 hrg0 hg0 hs0) | fail)
  go_frame
  go_loopw [3] (fun v wr => ∃ out left cnt, Col w wr m w.heap.size D L out left cnt v) (fun _ wr => wr.rangeLeft m w.heap.size)
  case atStart => exact ⟨[], _, _, hrg0, World.ownsRow_nil _ _ _ _, Got.start D, ⟨hg0.os, hg0.tape, hg0.output, hg0.size, fun k hk => hg0.block k hk (by simp)⟩, by rw [hsz.out]; simp, fun _ => rfl⟩
  case round =>
    obtain ⟨out, left, cnt, hC⟩ := hrel
    have hrg := hC.rg
    have HC := hid hC
    clear hC
    go_wp2_with (first | (at_next; refine wpList_next_ranges _ rfl _ rfl 9 kS (plainElem Tryz.prog 3) Value.string (Value.int .i64) keyS_inv elem_inv m w.heap.size (Maps.size D) _ _ _ rfl hrg ?_ ?_) | fail)
    · intro hcn0 hl0
      have hp := HC.out.got.done hl0 hTl.out
      have hplen := hid hp.length_eq
      rcases HC.out.own.2 with ⟨hv, hx⟩ | ⟨g, cap, cur, hv, hbase, hb, k1, k2, k3, k4⟩
      · have ho : out = [] := by
          cases out with
          | nil => rfl
          | cons x r => simp [flatE, encE] at hx
        have hLn : Hid (L = []) := by
          rw [ho] at hp
          exact List.nil_perm.1 hp
        have hlow := hid HC.out.low
        clear hp HC hrg hx hplen
        subst hv
        have hc0 := AnyF.slices_SortFunc_none Tryz.sortE none 0 (.func (.func 69) #[] #[]) wr
        change Calls Tryz.prog 68 _ _ _ at hc0
        have hcon := hid hc0
        clear hc0
        go_wp2_with fail
        with_reducible refine Calls.mono hcon.out ?_
        rintro e w' ⟨rfl, rfl⟩
        go_wp2_with fail
        go_ret
        exact ⟨_, rfl, hlow.out, .inl ⟨hLn.out, rfl⟩⟩
      · subst hv
        have hat : EntAt wr g out := fun k x hx => by
          obtain ⟨e1, e2⟩ := flatE_get out k x hx
          exact ⟨blk_cell hb (take_get k4 e1), blk_cell hb (take_get k4 e2)⟩
        have hcl := HC.out.cnt
        have hcon := hid (sort_entries (cap := cap) hp hsrt.out (holdsE hat (blk_froz hb)) (Array.getElem?_eq_some_iff.1 hb).1 (by omega))
        have hlow := hid HC.out.low
        have hgl : g < wr.heap.size := (Array.getElem?_eq_some_iff.1 hb).1
        clear hp HC hrg hat k1 k2 k3 k4 hb hcn0 hl0 hcl
        go_wp2_with fail
        with_reducible refine Calls.mono hcon.out ?_
        rintro e w2 ⟨rfl, hE2, hg2⟩
        replace hE2 := hid hE2
        replace hg2 := hid hg2
        go_wp2_with fail
        go_ret
        exact ⟨_, rfl, hlow.out.grown hg2.out hlow.out.size (fun k hk => by cases hk; omega), .inr ⟨g, cap, slice_eq hplen.out, by omega, Nat.lt_of_lt_of_le hgl hg2.out.size, hE2.out⟩⟩
    · intro x c kl d ps w1 cnt1 hkey hlx hv hat hrg1 hlt hg1 hs1 hen
      obtain ⟨rfl, hxs⟩ := keyS_is hkey
      obtain ⟨a, ea, eb, hwf⟩ := plainElem_int_inv Tryz.underlying3 hv
      cases ea
      cases eb
      have hrl := hrg.lt
      have hG := hid (HC.out.got.step x c hlx hat)
      have hO := hid (HC.out.own.kept hg1 (.inr fun e => by have := (HC.out.own.lt _ e).1; omega))
      have hOl := hid HC.out.own.lt
      have hLw := hid (HC.out.low.grown hg1 HC.out.low.size (fun k hk => by cases hk; omega))
      have hcl := HC.out.cnt
      have hR := hid hrg1
      have hRo := hid hrg.left_eq
      have hr1 : w.heap.size < w1.heap.size := by omega
      clear HC hrg hrg1 hg1 hs1 hlx hat hkey hv hwf
      go_wp2_with (first | (at_builtin; refine wpList_append_own _ rfl (.tmp 18) (.tmp 22) 116 rfl (w.heap.size + 1) 119 i0 _ 2 24 Tryz.underlying116 hi hz0 hz1 hz2 rfl (by decide) _ _ _ rfl (hO.out.alloc _) ⟨w1.heap.size, 0, none⟩ 1 1 [.string x, .int .i64 c] rfl rfl (cells_new2 _ _ _ _) (by simp [Value.oneCell']) (by unfold maxLen; omega) (by omega) (by simp; omega) ?_; refine stop_here ?_) | fail)
      refine hid ?_
      intro v' w5 hown' hgrow hnil
      have hOw := hid hown'
      have hgr := hid hgrow
      clear hown' hgrow hnil
      have hR5 := hid ((hR.out.alloc (.cells #[.string x, .int .i64 c] 119)).kept hgr.out (fun e => by have := (hOl.out _ e.symm).1; omega) (fun e => by have := (hOl.out _ e.symm).1; omega))
      have hL5 := hid ((hLw.out.alloc hLw.out.size (.cells #[.string x, .int .i64 c] 119)).grown hgr.out (by simp; have := hLw.out.size; omega) (fun k hk => by have := (hOl.out _ hk).1; omega))
      clear hR hLw hgr hO
      go_wp2_with fail
      go_roundw
      case rel => exact ⟨out ++ [(x, c)], _, cnt1, hR5.out, by rw [flatE_snoc, List.length_append]; exact hOw.out, hG.out, hL5.out, by simp; omega, fun e => by simp at e⟩
      case measure => rw [hR5.out.left_eq, hRo.out]; exact hlt
end Go.Proofs.YtmpkfpabejpbkaaGreatDoor.C
