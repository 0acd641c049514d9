/- What the loop of place.New keeps in memory. Conditions: none beyond each theorem's own. -/
import Derived.Test.YtkobfjiadfedlaaPlD
import Derived.Test.YtkobfjiadfedlaaPlN
import Derived.Test.YtkobfjiadfedlaaQe
import Derived.WalkKit
import Derived.WalkSpells
import Derived.WalkLawsBesides
import Derived.Deep.QuietTactic
import Derived.BigQuiet
import Derived.Lib.OthersKept
import Derived.StillTailTactics
namespace Go.Proofs.Ytkobfjiadfedlaa
open Go.RowKit
set_option linter.unusedVariables false
set_option linter.unusedSimpArgs false
attribute [local go_sem] Ext.cell Ext.froz GivesG Gives
theorem Try.info33 : (Try.prog.info? 33).map (fun i => (i.zero, i.size, i.bytes)) = some (some (.agg #[.int .i64 0, .int .i64 0, .int .i64 0, .int .i64 0, .int .i64 0]), 5, 40) := by kernel_rfl
theorem Try.info76 : (Try.prog.info? 76).map (fun i => (i.zero, i.size, i.bytes)) = some (some (.agg #[.int .i64 0, .int .i64 0, .int .i64 0, .int .i64 0]), 4, 32) := by kernel_rfl
theorem iterPos_of {w : World} {k : Nat} {s : ByteArray} {p : Nat} (h : w.heap[k]? = some (.stringIter s p)) : w.iterPos k = p := by simp [World.iterPos, h]
theorem dec_max (s : ByteArray) (pos : Nat) : (Utf8.decode s pos).1 ≤ 2147483647 := by
  unfold Utf8.decode
  dsimp only
  have hh : ∀ k, (s.get! (pos + k)).toNat < 256 := fun k => (s.get! (pos + k)).toNat_lt
  have h0 := hh 0
  have h1 := hh 1
  have h2 := hh 2
  have h3 := hh 3
  repeat' split
  all_goals (try simp only [Utf8.runeError])
  all_goals omega

theorem set_blk {w : World} {b k : Nat} {cs : Array Value} {T : TypeId} {v : Value} (h : w.heap[b]? = some (.cells cs T (0, 0))) : (w.setCell ⟨b, k, none⟩ v).heap[b]? = some (.cells (cs.setIfInBounds k v) T (0, 0)) := by
  simp [World.setCell, Array.getElem?_modify, h]
theorem set_oth {w : World} {b c k : Nat} {v : Value} (h : c ≠ b) : (w.setCell ⟨b, k, none⟩ v).heap[c]? = w.heap[c]? := Below.heap_setCell _ _ _ _ h
theorem blk3 {w : World} {b : Nat} {a0 a1 a2 : Value} {T : TypeId} (h : w.heap[b]? = some (.cells #[a0, a1, a2] T (0, 0))) :
    w.cell? ⟨b, 0, none⟩ = some a0 ∧ w.cell? ⟨b, 1, none⟩ = some a1 ∧ w.cell? ⟨b, 2, none⟩ = some a2 ∧ (∀ k, w.frozen? ⟨b, k, none⟩ = false) ∧ b < w.heap.size :=
  ⟨blk_cell h rfl, blk_cell h rfl, blk_cell h rfl, blk_froz h, (Array.getElem?_eq_some_iff.1 h).1⟩
theorem blk4 {w : World} {b : Nat} {a0 a1 a2 a3 : Value} {T : TypeId} (h : w.heap[b]? = some (.cells #[a0, a1, a2, a3] T (0, 0))) :
    w.cell? ⟨b, 0, none⟩ = some a0 ∧ w.cell? ⟨b, 1, none⟩ = some a1 ∧ w.cell? ⟨b, 2, none⟩ = some a2 ∧ w.cell? ⟨b, 3, none⟩ = some a3 ∧ (∀ k, w.frozen? ⟨b, k, none⟩ = false) ∧ b < w.heap.size :=
  ⟨blk_cell h rfl, blk_cell h rfl, blk_cell h rfl, blk_cell h rfl, blk_froz h, (Array.getElem?_eq_some_iff.1 h).1⟩
theorem blk5 {w : World} {b : Nat} {a0 a1 a2 a3 a4 : Value} {T : TypeId} (h : w.heap[b]? = some (.cells #[a0, a1, a2, a3, a4] T (0, 0))) :
    w.cell? ⟨b, 0, none⟩ = some a0 ∧ w.cell? ⟨b, 1, none⟩ = some a1 ∧ w.cell? ⟨b, 2, none⟩ = some a2 ∧ w.cell? ⟨b, 3, none⟩ = some a3 ∧ w.cell? ⟨b, 4, none⟩ = some a4 ∧ (∀ k, w.frozen? ⟨b, k, none⟩ = false) ∧ b < w.heap.size :=
  ⟨blk_cell h rfl, blk_cell h rfl, blk_cell h rfl, blk_cell h rfl, blk_cell h rfl, blk_froz h, (Array.getElem?_eq_some_iff.1 h).1⟩
/-- the iterator moved on -/
theorem iter_oth {w : World} {k c : Nat} {s : ByteArray} {p : Nat} (h : c ≠ k) : (w.iterAt k s p).heap[c]? = w.heap[c]? := Lib.iterAt_other _ _ _ _ _ h
theorem own_iter {w : World} {base : Nat} {e : TypeId} {size : Nat} {v : Value} {n : Nat} {xs : List Value} (h : w.ownsRow base e size v n xs) {k : Nat} (hk : k < base) (s : ByteArray) (p : Nat) : (w.iterAt k s p).ownsRow base e size v n xs := by
  obtain ⟨h1, h2⟩ := h
  refine ⟨h1, ?_⟩
  rcases h2 with h2 | ⟨g, cap, cur, a, b, c, d⟩
  · exact .inl h2
  · exact .inr ⟨g, cap, cur, a, b, by rw [Lib.iterAt_other _ _ _ _ _ (by omega)]; exact c, d⟩
theorem cells_new5 (w : World) (a0 a1 a2 a3 a4 : Value) (T : TypeId) : ∀ j u, [a0, a1, a2, a3, a4][j]? = some u → (w.alloc (.cells #[a0, a1, a2, a3, a4] T)).drew.cell? ((⟨w.heap.size, 0, none⟩ : Addr).add j) = some u := by
  intro j u hj
  match j, hj with
  | 0, hj => simp at hj; subst hj; simp [Addr.add]
  | 1, hj => simp at hj; subst hj; simp [Addr.add]
  | 2, hj => simp at hj; subst hj; simp [Addr.add]
  | 3, hj => simp at hj; subst hj; simp [Addr.add]
  | 4, hj => simp at hj; subst hj; simp [Addr.add]
  | j + 5, hj => simp at hj
theorem cells_new4 (w : World) (a0 a1 a2 a3 : Value) (T : TypeId) : ∀ j u, [a0, a1, a2, a3][j]? = some u → (w.alloc (.cells #[a0, a1, a2, a3] T)).drew.cell? ((⟨w.heap.size, 0, none⟩ : Addr).add j) = some u := by
  intro j u hj
  match j, hj with
  | 0, hj => simp at hj; subst hj; simp [Addr.add]
  | 1, hj => simp at hj; subst hj; simp [Addr.add]
  | 2, hj => simp at hj; subst hj; simp [Addr.add]
  | 3, hj => simp at hj; subst hj; simp [Addr.add]
  | j + 4, hj => simp at hj
/-- what the loop of New keeps -/
structure Mem (w wr : World) (s : ByteArray) (pos : Nat) (ps : List Pl) (ls : List Ln) (pc lc : Array Value) (v1 v2 : Value) : Prop where
  it : wr.heap[w.heap.size + 1 + 1 + 1]? = some (.stringIter s pos)
  m : wr.heap[w.heap.size]? = some (.cells #[.string s, v1, v2] 74 (0, 0))
  p : wr.heap[w.heap.size + 1]? = some (.cells pc 33 (0, 0))
  ln : wr.heap[w.heap.size + 1 + 1]? = some (.cells lc 76 (0, 0))
  o1 : wr.ownsRow (w.heap.size + 4) 33 5 v1 ps.length (flatP ps)
  o2 : wr.ownsRow (w.heap.size + 4) 76 4 v2 ls.length (flatL ls)
  bel : Below w.heap.size w wr
section
variable {w wr : World} {s : ByteArray} {pos : Nat} {ps : List Pl} {ls : List Ln} {pc lc : Array Value} {v1 v2 : Value}
theorem Mem.lt (h : Mem w wr s pos ps ls pc lc v1 v2) : w.heap.size + 4 ≤ wr.heap.size := by
  have := (Array.getElem?_eq_some_iff.1 h.it).1; omega
theorem Mem.next (h : Mem w wr s pos ps ls pc lc v1 v2) (pos' : Nat) : Mem w (wr.iterAt (w.heap.size + 1 + 1 + 1) s pos') s pos' ps ls pc lc v1 v2 :=
  ⟨Lib.iterAt_heap wr _ s pos pos' h.it, (iter_oth (by omega)).trans h.m, (iter_oth (by omega)).trans h.p, (iter_oth (by omega)).trans h.ln, own_iter h.o1 (by omega) _ _, own_iter h.o2 (by omega) _ _, Lib.below_iterAt h.bel (by omega) s pos'⟩
theorem Mem.setp (h : Mem w wr s pos ps ls pc lc v1 v2) (k : Nat) (x : Value) : Mem w (wr.setCell ⟨w.heap.size + 1, k, none⟩ x) s pos ps ls (pc.setIfInBounds k x) lc v1 v2 :=
  ⟨(set_oth (by omega)).trans h.it, (set_oth (by omega)).trans h.m, set_blk h.p, (set_oth (by omega)).trans h.ln, ownsRow_setCell_below h.o1 (by simp) _, ownsRow_setCell_below h.o2 (by simp) _, h.bel.setCell (by simp) _⟩
theorem Mem.setl (h : Mem w wr s pos ps ls pc lc v1 v2) (k : Nat) (x : Value) : Mem w (wr.setCell ⟨w.heap.size + 1 + 1, k, none⟩ x) s pos ps ls pc (lc.setIfInBounds k x) v1 v2 :=
  ⟨(set_oth (by omega)).trans h.it, (set_oth (by omega)).trans h.m, (set_oth (by omega)).trans h.p, set_blk h.ln, ownsRow_setCell_below h.o1 (by simp) _, ownsRow_setCell_below h.o2 (by simp) _, h.bel.setCell (by simp <;> omega) _⟩
theorem own_type {W : World} {base : Nat} {e : TypeId} {size n : Nat} {v : Value} {xs : List Value} (h : W.ownsRow base e size v n xs) : ∀ k, v.ownBlock = some k → ∃ c, W.heap[k]? = some (.cells c e (0, 0)) := by
  intro k hk
  rcases h.2 with ⟨rfl, _⟩ | ⟨g, cap, cur, rfl, _, hg, _⟩
  · simp [Value.ownBlock] at hk
  · simp [Value.ownBlock] at hk; subst hk; exact ⟨cur, hg⟩
theorem Mem.apart (h : Mem w wr s pos ps ls pc lc v1 v2) : ∀ k, v1.ownBlock = some k → v2.ownBlock ≠ some k := by
  intro k h1 h2
  obtain ⟨c, hc⟩ := own_type h.o1 k h1
  obtain ⟨d, hd⟩ := own_type h.o2 k h2
  rw [hc] at hd
  simp at hd
/-- behind an append to the places, and its store -/
theorem Mem.pushp (h : Mem w wr s pos ps ls pc lc v1 v2) {o : Obj} {W4 : World} {v' : Value} {p : Pl} (hg : (wr.alloc o).drew.grownBy W4 v1.ownBlock) (hown : W4.ownsRow (w.heap.size + 4) 33 5 v' (ps.length + 1) (flatP ps ++ p.cells)) :
    Mem w (W4.setCell ⟨w.heap.size, 1, none⟩ v') s pos (ps ++ [p]) ls pc lc v' v2 ∧ (∀ k, k < w.heap.size + 4 → W4.heap[k]? = wr.heap[k]?) := by
  have hlt := h.lt
  have hb : ∀ k, k < w.heap.size + 4 → W4.heap[k]? = wr.heap[k]? := fun k hk => by
    rw [hg.block k (by simp [World.drew] <;> omega) (fun e => by have := (h.o1.lt k e.symm).1; omega)]
    exact Below.heap_alloc _ _ _ (by omega)
  have ho2 : W4.ownsRow (w.heap.size + 4) 76 4 v2 ls.length (flatL ls) := ((h.o2.alloc o).drew).kept hg (by
    cases e2 : v2.ownBlock with
    | none => exact .inl rfl
    | some k2 => exact .inr fun e1 => h.apart k2 e1.symm e2)
  refine ⟨⟨(set_oth (by omega)).trans ((hb _ (by omega)).trans h.it), set_blk ((hb _ (by omega)).trans h.m), (set_oth (by omega)).trans ((hb _ (by omega)).trans h.p), (set_oth (by omega)).trans ((hb _ (by omega)).trans h.ln), ?_, ownsRow_setCell_below ho2 (by simp <;> omega) _, ?_⟩, hb⟩
  · rw [flatP_snoc, List.length_append]
    exact ownsRow_setCell_below hown (by simp <;> omega) _
  · exact (((h.bel.alloc (by omega) o).drew).grown hg (by simp [World.drew] <;> omega) (fun k hk => by have := (h.o1.lt k hk).1; omega)).setCell (by simp) _
theorem Mem.pushl (h : Mem w wr s pos ps ls pc lc v1 v2) {o : Obj} {W4 : World} {v' : Value} {p : Ln} (hg : (wr.alloc o).drew.grownBy W4 v2.ownBlock) (hown : W4.ownsRow (w.heap.size + 4) 76 4 v' (ls.length + 1) (flatL ls ++ p.cells)) :
    Mem w (W4.setCell ⟨w.heap.size, 2, none⟩ v') s pos ps (ls ++ [p]) pc lc v1 v' ∧ (∀ k, k < w.heap.size + 4 → W4.heap[k]? = wr.heap[k]?) := by
  have hlt := h.lt
  have hb : ∀ k, k < w.heap.size + 4 → W4.heap[k]? = wr.heap[k]? := fun k hk => by
    rw [hg.block k (by simp [World.drew] <;> omega) (fun e => by have := (h.o2.lt k e.symm).1; omega)]
    exact Below.heap_alloc _ _ _ (by omega)
  have ho1 : W4.ownsRow (w.heap.size + 4) 33 5 v1 ps.length (flatP ps) := ((h.o1.alloc o).drew).kept hg (by
    cases e1 : v1.ownBlock with
    | none => exact .inl rfl
    | some k1 => exact .inr fun e2 => h.apart k1 e1 e2.symm)
  refine ⟨⟨(set_oth (by omega)).trans ((hb _ (by omega)).trans h.it), set_blk ((hb _ (by omega)).trans h.m), (set_oth (by omega)).trans ((hb _ (by omega)).trans h.p), (set_oth (by omega)).trans ((hb _ (by omega)).trans h.ln), ownsRow_setCell_below ho1 (by simp <;> omega) _, ?_, ?_⟩, hb⟩
  · rw [flatL_snoc, List.length_append]
    exact ownsRow_setCell_below hown (by simp <;> omega) _
  · exact (((h.bel.alloc (by omega) o).drew).grown hg (by simp [World.drew] <;> omega) (fun k hk => by have := (h.o2.lt k hk).1; omega)).setCell (by simp) _
theorem own_shape {W : World} {base : Nat} {e : TypeId} {size n : Nat} {v : Value} {xs : List Value} (h : W.ownsRow base e size v (n + 1) xs) : ∃ g cap, v = .slice (some ⟨g, 0, none⟩) (n + 1) cap := by
  rcases h.2 with ⟨_, h0⟩ | ⟨g, cap, cur, hv, _⟩
  · omega
  · exact ⟨g, cap, hv⟩
theorem own_some {W : World} {base : Nat} {e : TypeId} {size n : Nat} {v : Value} {xs : List Value} (h : W.ownsRow base e size v n xs) : ∃ g cap, v = .slice g n cap := by
  rcases h.2 with ⟨hv, h0⟩ | ⟨g, cap, cur, hv, _⟩
  · exact ⟨none, 0, by rw [hv, h0]⟩
  · exact ⟨_, cap, hv⟩
end
end Go.Proofs.Ytkobfjiadfedlaa
