/- A poem that is being read, in memory. Conditions: those of each theorem. -/
import Derived.Test.YtmpkfpabejpbkaaGreatDoorWo
import Derived.Test.YtmpkfpabejpbkaaGreatDoorWl
import Derived.Test.YtmpkfpabejpbkaaGreatDoorJPPlT
namespace Go.Proofs.YtmpkfpabejpbkaaGreatDoor
open Go Go.RowKit Go.Lib Go.Shelf
set_option linter.unusedVariables false
set_option linter.unusedSimpArgs false
abbrev Vs.cl (x : Vs) : List Value := [.string x.tx, .int .i64 x.a, .int .i64 x.b, .int .i64 x.c, .int .i64 x.f, .int .i64 x.t]
def flatV (l : List Vs) : List Value := l.flatMap Vs.cl
theorem flatV_snoc (l : List Vs) (x : Vs) : flatV (l ++ [x]) = flatV l ++ x.cl := by simp [flatV]
theorem flatV_get : ∀ (l : List Vs) (k j : Nat) (v : Vs), l[k]? = some v → j < 6 → (flatV l)[k * 6 + j]? = v.cl[j]?
  | [], k, j, v, h, _ => by simp at h
  | x :: r, 0, j, v, h, hj => by
    have : x = v := by simpa using h
    subst this
    show (x.cl ++ flatV r)[0 * 6 + j]? = _
    rw [Nat.zero_mul, Nat.zero_add, List.getElem?_append_left (by simpa using hj)]
  | x :: r, k + 1, j, v, h, hj => by
    show (x.cl ++ flatV r)[(k + 1) * 6 + j]? = _
    rw [List.getElem?_append_right (by simp; omega), show (k + 1) * 6 + j - x.cl.length = k * 6 + j by simp; omega]
    exact flatV_get r k j v (by simpa using h) hj
/-- whole numbers and nothing else -/
def AllI (xs : List Value) : Prop := ∀ (j : Nat) (u : Value), xs[j]? = some u → ∃ q : Int, u = Value.int .i64 q
theorem AllI.app {xs : List Value} (h : AllI xs) (a b : Int) : AllI (xs ++ [.int .i64 a, .int .i64 b]) := by
  intro j u hu
  have hm := List.mem_of_getElem? hu
  rcases List.mem_append.1 hm with hm | hm
  · obtain ⟨i, hi⟩ := List.getElem?_of_mem hm
    exact h i u hi
  · simp at hm
    rcases hm with rfl | rfl
    · exact ⟨_, rfl⟩
    · exact ⟨_, rfl⟩
theorem AllI.set {xs : List Value} (h : AllI xs) (j : Nat) (a : Int) : AllI (xs.set j (.int .i64 a)) := by
  intro i u hu
  rw [List.getElem?_set] at hu
  split at hu
  · split at hu
    · cases hu; exact ⟨_, rfl⟩
    · cases hu
  · exact h i u hu
structure RdS (wB wr : World) (text : ByteArray) (L : List Vs) (m : Nat) (xs : List Value) (tv : ByteArray) (lv sv : Value) : Prop where
  bp : Blk wr wB.heap.size 69 #[.string tv, lv, sv, .string text]
  lo : wr.ownsRow (wB.heap.size + 1) 48 6 lv L.length (flatV L)
  so : wr.ownsRow (wB.heap.size + 1) 46 2 sv m xs
  ai : AllI xs
  ne : ∀ g, lv.ownBlock = some g → sv.ownBlock ≠ some g
  low : Below wB.heap.size wB wr
section
variable {wB wr : World} {text : ByteArray} {L : List Vs} {m : Nat} {xs : List Value} {tv : ByteArray} {lv sv : Value}
theorem RdS.lt (h : RdS wB wr text L m xs tv lv sv) : wB.heap.size < wr.heap.size := h.bp.lt
theorem RdS.below (h : RdS wB wr text L m xs tv lv sv) {W' : World} (hb : Below wr.heap.size wr W') : RdS wB W' text L m xs tv lv sv :=
  ⟨h.bp.low hb, row_keep h.lo (Kept.of_all hb (fun _ => True)) (fun _ _ => trivial), row_keep h.so (Kept.of_all hb (fun _ => True)) (fun _ _ => trivial), h.ai, h.ne, h.low.trans (hb.mono (by have := h.lt; omega))⟩
theorem RdS.drew (h : RdS wB wr text L m xs tv lv sv) (n : Nat) : RdS wB (wr.drewN n) text L m xs tv lv sv := h.below ⟨rfl, rfl, rfl, Nat.le_refl _, fun _ _ => rfl⟩
theorem row_set {W : World} {b : Nat} {e : TypeId} {n : Nat} {v : Value} {k : Nat} {ys : List Value} (h : W.ownsRow b e n v k ys) {B j : Nat} {u : Value} (hB : v.ownBlock ≠ some B) : (W.setCell ⟨B, j, none⟩ u).ownsRow b e n v k ys :=
  row_keep h (Kept.setCell (T := fun k => k ≠ B) W (fun h => h rfl) u) (fun g hg e => hB (e ▸ hg))
theorem RdS.tit (h : RdS wB wr text L m xs tv lv sv) (t' : ByteArray) : RdS wB (wr.setCell ⟨wB.heap.size, 0, none⟩ (.string t')) text L m xs t' lv sv :=
  ⟨h.bp.upd _ _ rfl, row_set h.lo (fun e => by have := (row_lt h.lo _ e).1; omega), row_set h.so (fun e => by have := (row_lt h.so _ e).1; omega), h.ai, h.ne, h.low.setCell (p := ⟨wB.heap.size, 0, none⟩) (Nat.le_refl _) _⟩
/-- behind 'p.stanzas = append(p.stanzas, ..)' -/
theorem RdS.pushs (h : RdS wB wr text L m xs tv lv sv) {W1 W7 : World} {a b : Int} {sv' : Value} (hb : Below wr.heap.size wr W1) (hown : W7.ownsRow (wB.heap.size + 1) 46 2 sv' (m + 1) (xs ++ [.int .i64 a, .int .i64 b])) (hg : W1.grownBy W7 sv.ownBlock)
    (hk : sv'.ownBlock = sv.ownBlock ∨ sv'.ownBlock = some W1.heap.size) :
    Blk W7 wB.heap.size 69 #[.string tv, lv, sv, .string text] ∧ RdS wB (W7.setCell ⟨wB.heap.size, 2, none⟩ sv') text L (m + 1) (xs ++ [.int .i64 a, .int .i64 b]) tv lv sv' := by
  have h1 := h.below hb
  have hsg := fun g hg => row_lt h1.so g hg
  have hlg := fun g hg => row_lt h1.lo g hg
  have hK : Kept (fun k => sv.ownBlock ≠ some k) W1 W7 := Kept.grown hg (fun r hr h => h hr)
  have k1 : Blk W7 wB.heap.size 69 #[.string tv, lv, sv, .string text] := h1.bp.keep hK (fun e => by have := (hsg _ e).1; omega)
  have hl7 : W7.ownsRow (wB.heap.size + 1) 48 6 lv L.length (flatV L) := row_keep h1.lo hK (fun g hgl => h.ne g hgl)
  refine ⟨k1, k1.upd _ _ rfl, row_set hl7 (fun e => by have := (hlg _ e).1; omega), row_set hown (fun e => by have := (row_lt hown _ e).1; omega), h.ai.app a b, ?_, ?_⟩
  · intro g hgl hgs
    rcases hk with hk | hk
    · exact h.ne g hgl (hk ▸ hgs)
    · rw [hk] at hgs
      have := (hlg g hgl).2
      have e := Option.some.inj hgs
      omega
  · exact (h1.low.trans (hK.below (by have := h1.lt; omega) (fun k hk e => by have := (hsg _ e).1; omega))).setCell (p := ⟨wB.heap.size, 2, none⟩) (Nat.le_refl _) _
/-- behind 'p.lines = append(p.lines, ..)' -/
theorem RdS.pushl (h : RdS wB wr text L m xs tv lv sv) {W1 W7 : World} {x : Vs} {lv' : Value} (hb : Below wr.heap.size wr W1) (hown : W7.ownsRow (wB.heap.size + 1) 48 6 lv' (L.length + 1) (flatV L ++ x.cl)) (hg : W1.grownBy W7 lv.ownBlock)
    (hk : lv'.ownBlock = lv.ownBlock ∨ lv'.ownBlock = some W1.heap.size) :
    Blk W7 wB.heap.size 69 #[.string tv, lv, sv, .string text] ∧ RdS wB (W7.setCell ⟨wB.heap.size, 1, none⟩ lv') text (L ++ [x]) m xs tv lv' sv := by
  have h1 := h.below hb
  have hsg := fun g hg => row_lt h1.so g hg
  have hlg := fun g hg => row_lt h1.lo g hg
  have hK : Kept (fun k => lv.ownBlock ≠ some k) W1 W7 := Kept.grown hg (fun r hr h => h hr)
  have k1 : Blk W7 wB.heap.size 69 #[.string tv, lv, sv, .string text] := h1.bp.keep hK (fun e => by have := (hlg _ e).1; omega)
  have hs7 : W7.ownsRow (wB.heap.size + 1) 46 2 sv m xs := row_keep h1.so hK (fun g hgs e => h.ne g e hgs)
  refine ⟨k1, k1.upd _ _ rfl, ?_, row_set hs7 (fun e => by have := (hsg _ e).1; omega), h.ai, ?_, ?_⟩
  · rw [flatV_snoc, List.length_append, List.length_singleton]
    exact row_set hown (fun e => by have := (row_lt hown _ e).1; omega)
  · intro g hgl hgs
    rcases hk with hk | hk
    · exact h.ne g (hk ▸ hgl) hgs
    · rw [hk] at hgl
      have := (hsg g hgs).2
      have e := Option.some.inj hgl
      omega
  · exact (h1.low.trans (hK.below (by have := h1.lt; omega) (fun k hk e => by have := (hlg _ e).1; omega))).setCell (p := ⟨wB.heap.size, 1, none⟩) (Nat.le_refl _) _
/-- the last stanza's cells -/
theorem RdS.last (h : RdS wB wr text L (m + 1) xs tv lv sv) : ∃ g c q0 q1, sv = .slice (some ⟨g, 0, none⟩) (m + 1) c ∧ wB.heap.size + 1 ≤ g ∧ g < wr.heap.size ∧ wr.cell? ⟨g, m * 2, none⟩ = some (.int .i64 q0) ∧ wr.cell? ⟨g, m * 2 + 1, none⟩ = some (.int .i64 q1) ∧ (∀ k, wr.frozen? ⟨g, k, none⟩ = false) ∧
    ∀ n1 : Int, RdS wB (wr.setCell ⟨g, m * 2 + 1, none⟩ (.int .i64 n1)) text L (m + 1) (xs.set (m * 2 + 1) (.int .i64 n1)) tv lv sv := by
  obtain ⟨hl, h2⟩ := h.so
  rcases h2 with ⟨_, h2⟩ | ⟨g, cap, cur, rfl, hb, hc, h3, h4, h5, h6⟩
  · omega
  have hcell : ∀ j, j < (m + 1) * 2 → ∃ q, wr.cell? ⟨g, j, none⟩ = some (.int .i64 q) := by
    intro j hj
    have hx : xs[j]? = cur[j]? := by
      rw [← h6, List.getElem?_take, if_pos hj]; simp
    have hj2 : j < xs.length := by omega
    obtain ⟨q, hq⟩ := h.ai j _ (List.getElem?_eq_getElem hj2)
    refine ⟨q, ?_⟩
    have e : cur[j]? = some (.int .i64 q) := by rw [← hx, List.getElem?_eq_getElem hj2, hq]
    simp [World.cell?, hc, e]
  obtain ⟨q0, c0⟩ := hcell (m * 2) (by omega)
  obtain ⟨q1, c1⟩ := hcell (m * 2 + 1) (by omega)
  have hgl : g < wr.heap.size := at_lt hc
  refine ⟨g, cap, q0, q1, rfl, hb, hgl, c0, c1, fun k => by simp [World.frozen?, hc], fun n1 => ?_⟩
  have hB : Blk wr g 46 cur := hc
  refine ⟨h.bp.other (by omega) _, row_set h.lo (fun e => h.ne g e rfl), ?_, h.ai.set _ _, h.ne, h.low.setCell (p := ⟨g, m * 2 + 1, none⟩) (by show wB.heap.size ≤ g; omega) _⟩
  refine ⟨by rw [List.length_set]; exact hl, .inr ⟨g, cap, _, rfl, hb, hB.set (m * 2 + 1) (.int .i64 n1), h3, h4, by simpa using h5, ?_⟩⟩
  rw [Array.toList_setIfInBounds, List.take_set, h6]
/-- a poem that has been read -/
theorem RdS.poem (h : RdS wB wr text L m xs tv lv sv) : ∃ g a cap, PmAt wr wB.heap.size g a cap L ∧ g < wr.heap.size ∧ wB.heap.size ≤ g := by
  obtain ⟨hl, h2⟩ := h.lo
  rcases h2 with ⟨rfl, h2⟩ | ⟨g, cap, cur, rfl, hb, hc, h3, h4, h5, h6⟩
  · have hL : L = [] := List.length_eq_zero_iff.1 h2
    subst hL
    exact ⟨wB.heap.size, none, 0, ⟨h.bp.cell rfl, .inl rfl, fun k v hv => by simp at hv⟩, h.lt, Nat.le_refl _⟩
  · refine ⟨g, some ⟨g, 0, none⟩, cap, ⟨h.bp.cell rfl, .inr rfl, fun k v hv => ?_⟩, at_lt hc, by omega⟩
    have hk : k < L.length := (List.getElem?_eq_some_iff.1 hv).1
    have key : ∀ j u, j < 6 → v.cl[j]? = some u → wr.cell? ⟨g, k * 6 + j, none⟩ = some u := by
      intro j u hj hu
      have e : cur[k * 6 + j]? = some u := by
        rw [← hu, ← flatV_get L k j v hv hj, ← h6, List.getElem?_take, if_pos (by omega)]; simp
      simp [World.cell?, hc, e]
    exact ⟨key 0 _ (by omega) rfl, key 1 _ (by omega) rfl, key 2 _ (by omega) rfl, key 3 _ (by omega) rfl, key 4 _ (by omega) rfl, key 5 _ (by omega) rfl⟩
end
theorem infoS : (Tryz.prog.info? 46).map (fun i => (i.zero, i.size, i.bytes)) = some (some (.agg #[.int .i64 0, .int .i64 0]), 2, 16) := by kernel_rfl
theorem infoV : (Tryz.prog.info? 48).map (fun i => (i.zero, i.size, i.bytes)) = some (some (.agg #[.string ⟨#[]⟩, .int .i64 0, .int .i64 0, .int .i64 0, .int .i64 0, .int .i64 0]), 6, 56) := by kernel_rfl
end Go.Proofs.YtmpkfpabejpbkaaGreatDoor
