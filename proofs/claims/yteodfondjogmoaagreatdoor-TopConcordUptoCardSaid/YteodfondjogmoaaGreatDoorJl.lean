/- fold.unit's mark; parted. Conditions: those of each theorem. -/
import Derived.Test.YteodfondjogmoaaGreatDoorJj
import Derived.Test.YteodfondjogmoaaGreatDoorTWr
namespace Go.Proofs.YteodfondjogmoaaGreatDoor
open Go Go.RowKit Go.Lib Go.Shelf Go.Maps
set_option linter.unusedVariables false
set_option linter.unusedSimpArgs false
attribute [local go_sem] Oper.semAt_some C.Ext.cell C.Ext.froz
theorem info21 : (Tryz.prog.info? 21).map (fun i => (i.zero, i.size, i.bytes)) = some (some (.int .i32 0), 1, 4) := by kernel_rfl
/-- a unit's marks: two rows of one's own, apart -/
def UM (w : World) (base : Nat) (lo hi : Value) (k : Nat) : Prop := ∃ n m ys zs, n + m ≤ k ∧ w.ownsRow base 21 1 lo n ys ∧ w.ownsRow base 21 1 hi m zs ∧ ∀ g, lo.ownBlock = some g → hi.ownBlock ≠ some g
theorem UM.nil (w : World) (base k : Nat) : UM w base (.slice none 0 0) (.slice none 0 0) k := ⟨0, 0, [], [], Nat.zero_le _, World.ownsRow_nil _ _ _ _, World.ownsRow_nil _ _ _ _, fun g h => by cases h⟩
theorem UM.keep {w w' : World} {base : Nat} {lo hi : Value} {k : Nat} {T : Nat → Prop} (h : UM w base lo hi k) (hK : Kept T w w') (h1 : ∀ g, lo.ownBlock = some g → T g) (h2 : ∀ g, hi.ownBlock = some g → T g) : UM w' base lo hi k := by
  obtain ⟨n, m, ys, zs, a, b, c, d⟩ := h
  exact ⟨n, m, ys, zs, a, row_keep b hK h1, row_keep c hK h2, d⟩
theorem UM.rows {w : World} {base : Nat} {lo hi : Value} {k : Nat} (h : UM w base lo hi k) : (∀ g, lo.ownBlock = some g ∨ hi.ownBlock = some g → base ≤ g ∧ g < w.heap.size ∧ ∃ c, w.heap[g]? = some (.cells c 21 (0, 0))) := by
  obtain ⟨n, m, ys, zs, a, b, c, d⟩ := h
  rintro g (hg | hg)
  · obtain ⟨x, hx⟩ := P.own_type b g hg
    exact ⟨(b.lt g hg).1, (b.lt g hg).2, x, hx⟩
  · obtain ⟨x, hx⟩ := P.own_type c g hg
    exact ⟨(c.lt g hg).1, (c.lt g hg).2, x, hx⟩
theorem UM.one {w : World} {base : Nat} {lo hi : Value} {k : Nat} (h : UM w base lo hi k) : lo.oneCell' = true ∧ hi.oneCell' = true := by
  obtain ⟨n, m, ys, zs, a, b, c, d⟩ := h
  refine ⟨?_, ?_⟩
  · rcases b.2 with ⟨rfl, _⟩ | ⟨g, cap, cur, rfl, _⟩ <;> rfl
  · rcases c.2 with ⟨rfl, _⟩ | ⟨g, cap, cur, rfl, _⟩ <;> rfl
theorem cells_new1 (w : World) (a0 : Value) (T : TypeId) : ∀ j u, [a0][j]? = some u → (w.alloc (.cells #[a0] T)).cell? ((⟨w.heap.size, 0, none⟩ : Addr).add j) = some u := by
  intro j u hj
  match j, hj with
  | 0, hj => simp at hj; subst hj; simp [Addr.add]
/-- what a mark leaves -/
structure MkP (w w' : World) (B o base : Nat) (c : Array Value) (lo hi : Value) (k : Nat) (lo' hi' : Value) : Prop where
  b : w'.heap[B]? = some (.cells ((c.setIfInBounds (o + 3) lo').setIfInBounds (o + 4) hi') 193 (0, 0))
  um : UM w' base lo' hi' (k + 1)
  kept : Kept (fun g => g ≠ B ∧ lo.ownBlock ≠ some g ∧ hi.ownBlock ≠ some g) w w'
  old : ∀ g, lo'.ownBlock = some g ∨ hi'.ownBlock = some g → (lo.ownBlock = some g ∨ hi.ownBlock = some g) ∨ w.heap.size ≤ g
set_option maxHeartbeats 4000000 in
theorem mark122 (w : World) (B o base : Nat) (c : Array Value) (lo hi : Value) (k : Nat) (r : Int) (hB : w.heap[B]? = some (.cells c 193 (0, 0))) (h3 : c[o + 3]? = some lo) (h4 : c[o + 4]? = some hi) (hU : UM w base lo hi k) (hk : k ≤ 4000000) (hbase : base ≤ w.heap.size) :
    Calls Tryz.prog 119 #[.pointer (some ⟨B, o, none⟩), .int .i32 r] w fun e w' => (∃ v, e = .returned v) ∧ ∃ lo' hi', MkP w w' B o base c lo hi k lo' hi' := by
  obtain ⟨i0, hi0, hz0, hz1, hz2⟩ := info_parts info21
  have hL : Hid (∀ w, Calls Tryz.prog 153 #[.int .i32 r] w fun e w' => (∃ b, e = .returned (.bool b)) ∧ w = w') := hid (fun w => R.low156 r w)
  have hBl := at_lt hB
  have hR := hid hU.rows
  obtain ⟨n, m, ys, zs, hnm, hlo, hhi, hap⟩ := hU
  have hBk : Blk w B 193 c := hB
  have e3 := hBk.cell h3
  have e4 := hBk.cell h4
  have z3 := hBk.froz (o + 3)
  have z4 := hBk.froz (o + 4)
  have nlo : lo.ownBlock ≠ some B := fun e => by
    obtain ⟨_, _, x, hx⟩ := hR.out B (.inl e)
    rw [hB] at hx; cases hx
  have nhi : hi.ownBlock ≠ some B := fun e => by
    obtain ⟨_, _, x, hx⟩ := hR.out B (.inr e)
    rw [hB] at hx; cases hx
  have Nlo := hid nlo
  have Nhi := hid nhi
  have Lo := hid hlo
  have Hi := hid hhi
  have Ap := hid hap
  have BK := hid hBk
  have H34 := hid (And.intro h3 h4)
  clear hlo hhi hap hBk hB nlo nhi h3 h4
  go_enter Tryz.func119, Tryz.ntmps119
  go_wp2_with fail
  with_reducible refine Calls.mono (hL.out _) ?_
  rintro e w' ⟨⟨b, rfl⟩, rfl⟩
  cases b with
  | true =>
    go_wp2_with (at_builtin; refine stop_appW rfl ?_)
    refine hid ?_
    refine wpList_append_own_at _ rfl _ _ 191 rfl base 21 i0 _ 1 4 Tryz.underlying191 hi0 hz0 hz1 hz2 rfl (by decide) _ _ _ rfl (Lo.out.alloc _) ⟨w.heap.size, 0, none⟩ 1 1 [.int .i32 r] rfl rfl (cells_new1 _ _ _) (by simp [Value.oneCell']) (by unfold maxLen; omega) (by omega) (by rw [World.size_alloc]; omega) ?_
    intro v' W7 hown' hgrow _ hblk
    have hK7 : Kept (fun g => lo.ownBlock ≠ some g) w W7 := (Kept.alloc _ w _).trans (Kept.grown hgrow (fun r hr h => h hr))
    have B7 : Blk W7 B 193 c := BK.out.keep hK7 Nlo.out
    have s3 := B7.cell H34.out.1
    have y3 := B7.froz (o + 3)
    have hsz : w.heap.size < W7.heap.size := by have := hgrow.size; rw [World.size_alloc] at this; omega
    have hv1 : v'.oneCell' = true := by rcases hown'.2 with ⟨rfl, _⟩ | ⟨g, cap, cur, rfl, _⟩ <;> rfl
    obtain ⟨gv, cv, rfl⟩ := ownsRow_succ hown'
    have HK7 := hid hK7
    have HB7 := hid B7
    have HO := hid hown'
    have HBL := hid hblk
    clear hown' hgrow hblk hK7 B7 e3 e4 z3 z4
    go_wp2_with fail
    go_end0
    refine ⟨⟨_, rfl⟩, .slice (some ⟨gv, 0, none⟩) (n + 1) cv, hi, ?_⟩
    have hset : Kept (fun g => g ≠ B) W7 (W7.setCell ⟨B, o + 3, none⟩ (.slice (some ⟨gv, 0, none⟩) (n + 1) cv)) := Kept.setCell W7 (fun h => h rfl) _
    have hnew : ∀ g, Value.ownBlock (.slice (some ⟨gv, 0, none⟩) (n + 1) cv) = some g → lo.ownBlock = some g ∨ w.heap.size < g := fun g hg => by
      rcases HBL.out with h | h
      · exact .inl (h ▸ hg)
      · rw [h] at hg
        have e := Option.some.inj hg
        rw [World.size_alloc] at e
        exact .inr (by omega)
    have hne : ∀ g, Value.ownBlock (.slice (some ⟨gv, 0, none⟩) (n + 1) cv) = some g → g ≠ B := fun g hg e => by
      rcases hnew g hg with h | h
      · exact Nlo.out (e ▸ h)
      · omega
    refine ⟨?_, ⟨n + 1, m, _, zs, by omega, row_keep HO.out hset hne, row_keep (row_keep Hi.out HK7.out (fun g hg e => Ap.out g e hg)) hset (fun g hg e => Nhi.out (e ▸ hg)), fun g hg hh => ?_⟩, ?_, ?_⟩
    · have hb := HB7.out.set (o + 3) (.slice (some ⟨gv, 0, none⟩) (n + 1) cv)
      have e4 : (c.setIfInBounds (o + 3) (.slice (some ⟨gv, 0, none⟩) (n + 1) cv)).setIfInBounds (o + 4) hi = c.setIfInBounds (o + 3) (.slice (some ⟨gv, 0, none⟩) (n + 1) cv) := by
        apply Array.ext_getElem?
        intro j
        rw [Array.getElem?_setIfInBounds]
        split
        · next e => subst e; rw [Array.getElem?_setIfInBounds_ne (by omega), H34.out.2]; simp [(Array.getElem?_eq_some_iff.1 H34.out.2).1]
        · rfl
      rw [e4]
      exact hb
    · rcases hnew g hg with h | h
      · exact Ap.out g h hh
      · have := (hR.out g (.inr hh)).2.1; omega
    · exact (HK7.out.mono (fun g _ h => h.2.1)).trans (hset.mono (fun g _ h => h.1))
    · rintro g (hg | hg)
      · rcases hnew g hg with h | h
        · exact .inl (.inl h)
        · exact .inr (by omega)
      · exact .inl (.inr hg)
  | false =>
    go_wp2_with (at_builtin; refine stop_appW rfl ?_)
    refine hid ?_
    refine wpList_append_own_at _ rfl _ _ 191 rfl base 21 i0 _ 1 4 Tryz.underlying191 hi0 hz0 hz1 hz2 rfl (by decide) _ _ _ rfl (Hi.out.alloc _) ⟨w.heap.size, 0, none⟩ 1 1 [.int .i32 r] rfl rfl (cells_new1 _ _ _) (by simp [Value.oneCell']) (by unfold maxLen; omega) (by omega) (by rw [World.size_alloc]; omega) ?_
    intro v' W7 hown' hgrow _ hblk
    have hK7 : Kept (fun g => hi.ownBlock ≠ some g) w W7 := (Kept.alloc _ w _).trans (Kept.grown hgrow (fun r hr h => h hr))
    have B7 : Blk W7 B 193 c := BK.out.keep hK7 Nhi.out
    have s4 := B7.cell H34.out.2
    have y4 := B7.froz (o + 4)
    have hsz : w.heap.size < W7.heap.size := by have := hgrow.size; rw [World.size_alloc] at this; omega
    obtain ⟨gv, cv, rfl⟩ := ownsRow_succ hown'
    have HK7 := hid hK7
    have HB7 := hid B7
    have HO := hid hown'
    have HBL := hid hblk
    clear hown' hgrow hblk hK7 B7 e3 e4 z3 z4
    go_wp2_with fail
    go_end0
    refine ⟨⟨_, rfl⟩, lo, .slice (some ⟨gv, 0, none⟩) (m + 1) cv, ?_⟩
    have hset : Kept (fun g => g ≠ B) W7 (W7.setCell ⟨B, o + 4, none⟩ (.slice (some ⟨gv, 0, none⟩) (m + 1) cv)) := Kept.setCell W7 (fun h => h rfl) _
    have hnew : ∀ g, Value.ownBlock (.slice (some ⟨gv, 0, none⟩) (m + 1) cv) = some g → hi.ownBlock = some g ∨ w.heap.size < g := fun g hg => by
      rcases HBL.out with h | h
      · exact .inl (h ▸ hg)
      · rw [h] at hg
        have e := Option.some.inj hg
        rw [World.size_alloc] at e
        exact .inr (by omega)
    have hne : ∀ g, Value.ownBlock (.slice (some ⟨gv, 0, none⟩) (m + 1) cv) = some g → g ≠ B := fun g hg e => by
      rcases hnew g hg with h | h
      · exact Nhi.out (e ▸ h)
      · omega
    refine ⟨?_, ⟨n, m + 1, ys, _, by omega, row_keep (row_keep Lo.out HK7.out (fun g hg e => Ap.out g hg e)) hset (fun g hg e => Nlo.out (e ▸ hg)), row_keep HO.out hset hne, fun g hg hh => ?_⟩, ?_, ?_⟩
    · have hb := HB7.out.set (o + 4) (.slice (some ⟨gv, 0, none⟩) (m + 1) cv)
      have e4 : c.setIfInBounds (o + 3) lo = c := by
        apply Array.ext_getElem?
        intro j
        rw [Array.getElem?_setIfInBounds]
        split
        · next e => subst e; rw [H34.out.1]; simp [(Array.getElem?_eq_some_iff.1 H34.out.1).1]
        · rfl
      rw [e4]
      exact hb
    · rcases hnew g hh with h | h
      · exact Ap.out g hg h
      · have := (hR.out g (.inl hg)).2.1; omega
    · exact (HK7.out.mono (fun g _ h => h.2.2)).trans (hset.mono (fun g _ h => h.1))
    · rintro g (hg | hg)
      · exact .inl (.inl hg)
      · rcases hnew g hg with h | h
        · exact .inl (.inr h)
        · exact .inr (by omega)
end Go.Proofs.YteodfondjogmoaaGreatDoor
/- fold.parted. Conditions: those of each theorem. -/
namespace Go.Proofs.YteodfondjogmoaaGreatDoor
open Go Go.RowKit Go.Lib Go.Shelf Go.Maps
set_option linter.unusedVariables false
set_option linter.unusedSimpArgs false
attribute [local go_sem] Oper.semAt_some C.Ext.cell C.Ext.froz
theorem row_base {w : World} {b b' : Nat} {e : TypeId} {m : Nat} {v : Value} {n : Nat} {xs : List Value} (h : w.ownsRow b e m v n xs) (hb : b' ≤ b) : w.ownsRow b' e m v n xs := by
  obtain ⟨h1, h2⟩ := h
  refine ⟨h1, ?_⟩
  rcases h2 with h2 | ⟨g, cap, cur, a, c, r⟩
  · exact .inl h2
  · exact .inr ⟨g, cap, cur, a, by omega, r⟩
def AllR (ms : List Value) : Prop := ∀ (j : Nat) (u : Value), ms[j]? = some u → ∃ q : Int, u = .int .i32 q
/-- a row of runes that begins with a known one -/
def PtR (w : World) (base f h : Nat) (v : Value) : Prop := ∃ n ms, n ≤ f ∧ w.ownsRow base 21 1 v (n + 1) (.int .i32 h :: ms) ∧ AllR ms
theorem PtR.keep {w w' : World} {base f h : Nat} {v : Value} (hp : PtR w base f h v) (hb : Below w.heap.size w w') : PtR w' base f h v := by
  obtain ⟨n, ms, a, b, c⟩ := hp
  exact ⟨n, ms, a, row_keep b (Kept.of_all hb (fun _ => True)) (fun _ _ => trivial), c⟩
/-- the worlds of 'append(parted(..), ..)' -/
def PtH (w2 : World) (f h : Nat) (k : Int) (x : List (Option Value)) (w : World) : Prop := Below w2.heap.size w2 w ∧ (∀ u, x[0]? = some (some u) → PtR w w2.heap.size f h u) ∧ (∀ u, x[1]? = some (some u) → ∃ g, u = .slice (some ⟨g, 0, none⟩) 1 1 ∧ w2.heap.size ≤ g ∧ Blk w g 21 #[.int .i32 k])
theorem PtH.cls (w2 : World) (f h : Nat) (k : Int) : C.ClsE w2 (PtH w2 f h k) := by
  refine ⟨fun x w hx => hx.1, fun x w w' hx hb => ⟨hx.1.trans (hb.mono hx.1.size), fun u hu => (hx.2.1 u hu).keep hb, fun u hu => ?_⟩⟩
  obtain ⟨g, a, b, c⟩ := hx.2.2 u hu
  exact ⟨g, a, b, c.low hb⟩
theorem PtH.start (w2 : World) (f h : Nat) (k : Int) : PtH w2 f h k [none, none] w2.drew := ⟨(Below.refl _ _).drew, fun u hu => by simp at hu, fun u hu => by simp at hu⟩
set_option maxRecDepth 100000 in
theorem split_bd : (splitT.all fun x => decide (x.2.1 ≤ 1114111 ∧ x.2.2 ≤ 1114111)) = true := by decide +kernel
theorem split_le {r : Nat} {q : Nat × Nat} (h : splitN r = some q) : q.1 ≤ 1114111 ∧ q.2 ≤ 1114111 := by
  unfold splitN at h
  rw [Option.map_eq_some_iff] at h
  obtain ⟨x, hx, rfl⟩ := h
  exact of_decide_eq_true (List.all_eq_true.1 split_bd x (List.mem_of_find?_eq_some hx))
def PtP (f h : Nat) (w : World) (e : Ending) (w' : World) : Prop := (∃ v, e = .returned v ∧ PtR w' w.heap.size f h v) ∧ Below w.heap.size w w'
theorem parted_none (f r : Nat) (hr : r ≤ 1114111) (hn : splitN r = none) (w : World) (m : Nat) (hT : TbAt w m) : Calls Tryz.prog 120 #[.map (some m), .int .i32 r] w (PtP f r w) := by
  obtain ⟨b, k, hrun, hq⟩ := hT.look hr
  rw [hn] at hrun
  have hrun : (Instr.lookup 195 (.map (some m)) (.int .i32 r) true).run Tryz.prog w = .ok (.tuple #[.agg #[.int .i32 b, .int .i32 k], .bool false]) w := hrun
  clear hT hq
  go_enter Tryz.func120, Tryz.ntmps120
  go_wp2_with fail
  go_ret
  refine ⟨⟨_, rfl, 0, [], Nat.zero_le _, ⟨rfl, .inr ⟨_, 1, #[.int .i32 r], rfl, ?_, ?_, Nat.le_refl _, by unfold maxLen; omega, rfl, rfl⟩⟩, fun j u h => by simp at h⟩, ((Below.refl _ w).alloc (Nat.le_refl _) _).alloc (by simp) _⟩
  · simp
  · have := Blk.new (w.alloc (.cells #[.int .i32 b, .int .i32 k] 239)) 21 #[.int .i32 r]
    rw [World.size_alloc] at this
    exact this
set_option maxHeartbeats 4000000 in
theorem parted_some (f r b k : Nat) (hf : f ≤ 10) (h : Nat) (hr : r ≤ 1114111) (hn : splitN r = some (b, k)) (w : World) (m : Nat) (hT : TbAt w m)
    (ih : ∀ W, TbAt W m → Calls Tryz.prog 120 #[.map (some m), .int .i32 b] W (PtP f h W)) : Calls Tryz.prog 120 #[.map (some m), .int .i32 r] w (PtP (f + 1) h w) := by
  obtain ⟨i0, hi0, hz0, hz1, hz2⟩ := info_parts info21
  obtain ⟨b', k', hrun, hq⟩ := hT.look hr
  rw [hn] at hrun hq
  have hq := hq _ rfl
  obtain ⟨rfl, rfl⟩ : b = b' ∧ k = k' := by simpa using hq
  have hrun : (Instr.lookup 195 (.map (some m)) (.int .i32 r) true).run Tryz.prog w = .ok (.tuple #[.agg #[.int .i32 b, .int .i32 k], .bool true]) w := hrun
  obtain ⟨w2, hw2⟩ : ∃ w2, w.alloc (.cells #[.int .i32 b, .int .i32 k] 239) = w2 := ⟨_, rfl⟩
  have k2 : Blk w2 w.heap.size 239 #[.int .i32 b, .int .i32 k] := by rw [← hw2]; exact Blk.new _ _ _
  have hb2 : Below w.heap.size w w2 := by rw [← hw2]; exact (Below.refl _ w).alloc (Nat.le_refl _) _
  have hs2 : w2.heap.size = w.heap.size + 1 := by rw [← hw2]; exact World.size_alloc _ _
  have hT2 : TbAt w2 m := hT.low hb2
  have HT := hid hT2
  have IH := hid ih
  have HB := hid hb2
  have c0 := k2.cell (k := 0) rfl
  have c1 := k2.cell (k := 1) rfl
  clear hT hT2 hq hn ih k2 hb2
  go_enter Tryz.func120, Tryz.ntmps120
  go_wp2_with fail
  try rw [show w.alloc (.cells #[.int .i32 b, .int .i32 k] 239) = w2 from hw2]
  clear hw2 hrun
  have hCl := PtH.cls w2 f h k
  have h00 := PtH.start w2 f h k
  refine C.eff_tail 7 [(3, some 20), (6, some 23)] (PtH w2 f h k) (fun g args u => ∃ g n cap, u = .slice (some ⟨g, 0, none⟩) (n + 1) cap ∧ n ≤ f) (by kernel_rfl) (by kernel_rfl) (by kernel_rfl) rfl h00 ?_
  simp only [List.take_succ_cons, List.take_zero, List.drop_succ_cons, List.drop_zero]
  iterate 3 (refine C.ge_step hCl (by kernel_rfl) (C.wit0 h00 (by kernel_rfl)) (fun K hK => ?_); go_simp; refine ⟨hK _ ?_⟩; clear hK K)
  refine C.ge_call (f := 120) (args := #[.map (some m), .int .i32 b]) (C.wit0 h00 (by kernel_rfl)) rfl (fun x w' _ _ => by go_simp) ⟨_, 0, 0, 0, rfl, Nat.zero_le _⟩ (fun x w' hf hx => ?_) (.inr ⟨0, by kernel_rfl⟩) ?_
  · refine (IH.out w' (HT.out.keep (Kept.of_below hx.1 (T := fun k => k < w2.heap.size) (fun _ _ h => h)) (by obtain ⟨n, D, h1, _⟩ := HT.out; exact h1.lt))).mono ?_
    rintro e w'' ⟨⟨v, rfl, hv⟩, hb⟩
    obtain ⟨n, ms, a1, a2, a3⟩ := hv
    obtain ⟨gv, cv, rfl⟩ := ownsRow_succ a2
    have e1 : C.nxE [(3, some 20), (6, some 23)] 3 x (.slice (some ⟨gv, 0, none⟩) (n + 1) cv) = x.set 0 (some (.slice (some ⟨gv, 0, none⟩) (n + 1) cv)) := rfl
    have hup := hCl.up _ _ _ hx hb
    refine ⟨_, rfl, ⟨_, _, _, rfl, a1⟩, ?_⟩
    rw [e1]
    refine ⟨hup.1, fun u hu => ?_, fun u hu => hup.2.2 u (by rw [List.getElem?_set_ne (by omega)] at hu; exact hu)⟩
    have hl : 0 < x.length := by rw [hf.1]; exact Nat.succ_pos _
    rw [List.getElem?_set_self hl] at hu
    obtain rfl := (Option.some.inj (Option.some.inj hu))
    exact ⟨n, ms, a1, row_base a2 hx.1.size, a3⟩
  rintro u ⟨g, n, cap, rfl, hnf⟩
  iterate 2 (refine C.ge_step hCl (by kernel_rfl) (C.wit0 h00 (by kernel_rfl)) (fun K hK => ?_); go_simp; refine ⟨hK _ ?_⟩; clear hK K)
  refine C.ge_eff (m := 1) (by kernel_rfl) rfl (C.wit0 h00 (by kernel_rfl)) (fun u => ∃ g, u = .slice (some ⟨g, 0, none⟩) 1 1) ?_ ?_
  · intro x w' hf hx0 hx
    refine ⟨.slice (some ⟨w'.heap.size, 0, none⟩) 1 1, w'.alloc (.cells #[.int .i32 k] 21), .inl ?_, ⟨_, rfl⟩, ?_⟩
    · go_simp
    · have hup := hCl.up _ _ _ hx ((Below.refl _ w').alloc (Nat.le_refl _) (.cells #[.int .i32 k] 21))
      refine ⟨hup.1, fun u hu => hup.2.1 u (by rw [List.getElem?_set_ne (by omega)] at hu; exact hu), fun u hu => ?_⟩
      have hl : 1 < x.length := by rw [hf.1]; exact Nat.le_refl _
      rw [List.getElem?_set_self hl] at hu
      obtain rfl := (Option.some.inj (Option.some.inj hu))
      exact ⟨_, rfl, hx.1.size, Blk.new _ _ _⟩
  rintro u ⟨g2, rfl⟩
  refine C.ge_nil ?_
  intro w3 hw3
  obtain ⟨hb3, h1, h2⟩ := hw3
  obtain ⟨n', ms, a1, a2, a3⟩ := h1 _ rfl
  obtain ⟨gv, cv, e1⟩ := ownsRow_succ a2
  have e1 : (Value.slice (some ⟨g, 0, none⟩) (n + 1) cap) = .slice (some ⟨gv, 0, none⟩) (n' + 1) cv := e1
  obtain ⟨rfl, rfl, rfl⟩ : g = gv ∧ n = n' ∧ cap = cv := by simpa using e1
  obtain ⟨g3, e3, e4, e5⟩ := h2 _ rfl
  obtain rfl : g2 = g3 := by
    have e3 : (Value.slice (some ⟨g2, 0, none⟩) 1 1) = .slice (some ⟨g3, 0, none⟩) 1 1 := e3
    simpa using e3
  have hnw : ∀ j u, [Value.int .i32 k][j]? = some u → w3.cell? ((⟨g2, 0, none⟩ : Addr).add j) = some u := by
    intro j u hj
    match j, hj with
    | 0, hj => simp at hj; subst hj; exact e5.cell (k := 0) rfl
  clear e1 h1 h2 e3 hCl h00 IH HT
  refine wpList_append_own_at _ rfl _ _ 191 rfl w2.heap.size 21 i0 _ 1 4 Tryz.underlying191 hi0 hz0 hz1 hz2 rfl (by decide) _ (n + 1) _ rfl a2 ⟨g2, 0, none⟩ 1 1 [.int .i32 k] rfl rfl hnw (by simp [Value.oneCell']) (by unfold maxLen; omega) (by omega) hb3.size ?_
  intro v' W7 hown' hgrow _ hblk
  have hbel : Below w2.heap.size w3 W7 := (Kept.grown (T := fun k => k < w2.heap.size) hgrow (fun q hq hlt => by have := (a2.lt q hq).1; omega)).below hb3.size (fun k hk => hk)
  have HO := hid hown'
  have HF := hid (HB.out.trans ((hb3.trans hbel).mono (by omega)))
  clear hown' hgrow hblk
  go_wp2_with fail
  go_ret
  refine ⟨⟨_, rfl, n + 1, ms ++ [.int .i32 k], by omega, row_base (by simpa using HO.out) (by omega), ?_⟩, HF.out⟩
  intro j u hj
  have hm := List.mem_of_getElem? hj
  rcases List.mem_append.1 hm with hm | hm
  · obtain ⟨i, hi⟩ := List.getElem?_of_mem hm
    exact a3 i u hi
  · rw [List.mem_singleton.1 hm]; exact ⟨_, rfl⟩
theorem parted_any : ∀ (f : Nat), f ≤ 10 → ∀ (r : Nat), r ≤ 1114111 → (splitN (partN f r).1).isNone = true → ∀ (w : World) (m : Nat), TbAt w m → Calls Tryz.prog 120 #[.map (some m), .int .i32 r] w (PtP f (partN f r).1 w)
  | 0, _, r, hr, hd, w, m, hT => parted_none 0 r hr (Option.isNone_iff_eq_none.1 hd) w m hT
  | f + 1, hf, r, hr, hd, w, m, hT => by
    cases hs : splitN r with
    | none =>
      have e : (partN (f + 1) r).1 = r := by unfold partN; rw [hs]
      rw [e]
      exact parted_none (f + 1) r hr hs w m hT
    | some q =>
      obtain ⟨b, k⟩ := q
      have e : (partN (f + 1) r).1 = (partN f b).1 := by rw [show partN (f + 1) r = (match splitN r with | some (b, m) => ((partN f b).1, (partN f b).2 ++ [m]) | none => (r, [])) from rfl, hs]
      rw [e] at hd ⊢
      exact parted_some f r b k (by omega) _ hr hs w m hT (fun W hW => parted_any f (by omega) b (split_le hs).1 hd W m hW)
/-- fold.parted: the rune's head comes first -/
theorem part_ends (r : Nat) : (splitN (partN 4 r).1).isNone = true := by
  cases hs : splitN r with
  | none =>
    have e : (partN 4 r).1 = r := by unfold partN; rw [hs]
    rw [e, hs]; rfl
  | some q =>
    unfold splitN at hs
    rw [Option.map_eq_some_iff] at hs
    obtain ⟨x, hx, _⟩ := hs
    have h1 := List.find?_some hx
    rw [beq_iff_eq] at h1
    rw [← h1]
    exact List.all_eq_true.1 part_done x (List.mem_of_find?_eq_some hx)
theorem parted123 (r : Nat) (hr : r ≤ 1114111) (w : World) (m : Nat) (hT : TbAt w m) : Calls Tryz.prog 120 #[.map (some m), .int .i32 r] w (PtP 4 (headN r) w) := parted_any 4 (by omega) r hr (part_ends r) w m hT
end Go.Proofs.YteodfondjogmoaaGreatDoor
/- fold.units: what the loop over a text's pieces keeps in memory. Conditions: those of each theorem. -/
namespace Go.Proofs.YteodfondjogmoaaGreatDoor
open Go Go.RowKit Go.Lib Go.Shelf Go.Maps
set_option linter.unusedVariables false
set_option linter.unusedSimpArgs false
/-- a unit's first cells in a row -/
def UnX (xs : List Value) (k : Nat) (u : FU) : Prop := xs[k * 5]? = some (.int .i64 u.p) ∧ xs[k * 5 + 1]? = some (.int .u8 u.br) ∧ xs[k * 5 + 2]? = some (.int .i32 u.base) ∧ ∃ a b, xs[k * 5 + 3]? = some a ∧ xs[k * 5 + 4]? = some b ∧ a.oneCell' = true ∧ b.oneCell' = true
/-- what the loop keeps: N the text's block, M the table's, M + 1 the row's; k bounds the last unit's marks -/
structure UnI (w W : World) (N M m : Nat) (s : ByteArray) (S : Nat → Prop) (l : List FU) (k : Nat) (lv : Value) (xs : List Value) (lo hi : Value) : Prop where
  kS : Blk W N 9 #[.string s]
  kM : Blk W M 195 #[.map (some m)]
  kL : Blk W (M + 1) 143 #[lv]
  own : W.ownsRow (M + 3) 193 5 lv l.length xs
  rel : ∀ i u, l[i]? = some u → UnX xs i u
  bs : ∀ u ∈ l, BaseOk u.base
  um : UM W (M + 3) lo hi k
  lst : ∀ i, l.length = i + 1 → xs[i * 5 + 3]? = some lo ∧ xs[i * 5 + 4]? = some hi
  nS : ∀ g, (lv.ownBlock = some g ∨ lo.ownBlock = some g ∨ hi.ownBlock = some g) → ¬ S g
  tb : TbAt W m
  lt : N < M ∧ m < M ∧ M + 3 ≤ W.heap.size
  low : Below N w W
section
variable {w W W' : World} {N M m : Nat} {s : ByteArray} {S S' : Nat → Prop} {l : List FU} {k : Nat} {lv : Value} {xs : List Value} {lo hi : Value}
theorem UnI.below (h : UnI w W N M m s S l k lv xs lo hi) : ∀ g, (lv.ownBlock = some g ∨ lo.ownBlock = some g ∨ hi.ownBlock = some g) → M + 3 ≤ g ∧ g < W.heap.size := by
  rintro g (hg | hg | hg)
  · exact h.own.lt g hg
  · have := h.um.rows g (.inl hg); exact ⟨this.1, this.2.1⟩
  · have := h.um.rows g (.inr hg); exact ⟨this.1, this.2.1⟩
/-- over whatever keeps the blocks of T -/
theorem UnI.keep {T : Nat → Prop} (h : UnI w W N M m s S l k lv xs lo hi) (hK : Kept T W W') (h0 : ∀ g, g < M + 3 → T g) (h1 : ∀ g, (lv.ownBlock = some g ∨ lo.ownBlock = some g ∨ hi.ownBlock = some g) → T g) (hS : ∀ g, (lv.ownBlock = some g ∨ lo.ownBlock = some g ∨ hi.ownBlock = some g) → ¬ S' g) : UnI w W' N M m s S' l k lv xs lo hi := by
  have hlt := h.lt
  exact ⟨h.kS.keep hK (h0 _ (by omega)), h.kM.keep hK (h0 _ (by omega)), h.kL.keep hK (h0 _ (by omega)), row_keep h.own hK (fun g hg => h1 g (.inl hg)), h.rel, h.bs,
    h.um.keep hK (fun g hg => h1 g (.inr (.inl hg))) (fun g hg => h1 g (.inr (.inr hg))), h.lst, hS, h.tb.keep hK (h0 _ (by omega)), by have := hK.size; omega, h.low.trans (hK.below (by omega) (fun k hk => h0 k (by omega)))⟩
theorem UnI.free (h : UnI w W N M m s S l k lv xs lo hi) {B : Nat} (hB : M + 3 ≤ B) (hS : ∀ g, S g → B ≤ g ∧ g < W.heap.size) (hK : Kept (fun g => ¬ S g) W W') (hS' : ∀ g, S' g → S g ∨ (W.heap.size ≤ g ∧ g < W'.heap.size)) : UnI w W' N M m s S' l k lv xs lo hi :=
  h.keep hK (fun g hg hs => by have := (hS g hs).1; omega) h.nS (fun g hg hs => (hS' g hs).elim (h.nS g hg) (fun e => by have := (h.below g hg).2; omega))
theorem UnI.up (h : UnI w W N M m s S l k lv xs lo hi) (hb : Below W.heap.size W W') : UnI w W' N M m s S l k lv xs lo hi := h.keep (Kept.of_all hb (fun _ => True)) (fun _ _ => trivial) (fun _ _ => trivial) h.nS
theorem UM.mono {w : World} {base : Nat} {lo hi : Value} {k k' : Nat} (h : UM w base lo hi k) (hk : k ≤ k') : UM w base lo hi k' := by
  obtain ⟨n, m, ys, zs, a, b⟩ := h
  exact ⟨n, m, ys, zs, by omega, b⟩
theorem UnI.mono (h : UnI w W N M m s S l k lv xs lo hi) {k' : Nat} (hk : k ≤ k') : UnI w W N M m s S l k' lv xs lo hi := { h with um := h.um.mono hk }
theorem get_app_lt {α : Type} {a b : List α} {i : Nat} {x : α} (h : a[i]? = some x) : (a ++ b)[i]? = some x := by
  rw [List.getElem?_append_left (List.getElem?_eq_some_iff.1 h).1]; exact h
/-- behind 'l = append(l, u)': the row and its cell have turned -/
theorem UnI.push (h : UnI w W N M m s S l k lv xs lo hi) {W1 W7 : World} {lv' lo' hi' : Value} {u : FU} {k' : Nat} (hb : Kept (fun g => g < W.heap.size) W W1) (hown : W7.ownsRow (M + 3) 193 5 lv' (l.length + 1) (xs ++ [.int .i64 u.p, .int .u8 u.br, .int .i32 u.base, lo', hi'])) (hg : W1.grownBy W7 lv.ownBlock)
    (hk : lv'.ownBlock = lv.ownBlock ∨ lv'.ownBlock = some W1.heap.size) (hu : BaseOk u.base) (hum : UM W1 (M + 3) lo' hi' k') (hun : ∀ g, lo'.ownBlock = some g ∨ hi'.ownBlock = some g → W.heap.size ≤ g) (hSW : ∀ g, S g → g < W.heap.size) :
    UnI w (W7.setCell ⟨M + 1, 0, none⟩ lv') N M m s S (l ++ [u]) k' lv' (xs ++ [.int .i64 u.p, .int .u8 u.br, .int .i32 u.base, lo', hi']) lo' hi' := by
  have hlt := h.lt
  have hWs := hb.size
  have hxl : xs.length = l.length * 5 := h.own.1
  have hK : Kept (fun g => g < W.heap.size ∧ lv.ownBlock ≠ some g ∧ g ≠ M + 1) W (W7.setCell ⟨M + 1, 0, none⟩ lv') := (hb.mono (fun g _ h => h.1)).trans ((Kept.grown (T := fun g => g < W.heap.size ∧ lv.ownBlock ≠ some g ∧ g ≠ M + 1) hg (fun r hr h => h.2.1 hr)).trans (Kept.setCell W7 (fun h => h.2.2 rfl) _))
  have hL : ∀ g, lv.ownBlock = some g → M + 3 ≤ g := fun g hg => (h.own.lt g hg).1
  have hL' : ∀ g, lv'.ownBlock = some g → M + 3 ≤ g := fun g hg => (hown.lt g hg).1
  have t0 : ∀ g, g < M + 3 → g ≠ M + 1 → (g < W.heap.size ∧ lv.ownBlock ≠ some g ∧ g ≠ M + 1) := fun g hg hne => ⟨by omega, fun e => by have := hL g e; omega, hne⟩
  have kL7 : Blk W7 (M + 1) 143 #[lv] := (h.kL.keep hb (by omega)).keep (Kept.grown (T := fun g => g = M + 1) hg (fun r hr e => by have := hL r hr; omega)) rfl
  have one : ∀ v : Value, (∃ g, v.ownBlock = some g) ∨ True := fun _ => .inr trivial
  have hum7 : UM (W7.setCell ⟨M + 1, 0, none⟩ lv') (M + 3) lo' hi' k' := by
    have hT : ∀ g, lo'.ownBlock = some g ∨ hi'.ownBlock = some g → lv.ownBlock ≠ some g ∧ g ≠ M + 1 := fun g hg => by
      have := hun g hg
      exact ⟨fun e => by have := (h.own.lt g e).2; omega, by omega⟩
    exact hum.keep ((Kept.grown (T := fun g => lv.ownBlock ≠ some g ∧ g ≠ M + 1) hg (fun r hr h => h.1 hr)).trans (Kept.setCell W7 (fun h => h.2 rfl) _)) (fun g hg => hT g (.inl hg)) (fun g hg => hT g (.inr hg))
  have honec := hum.one
  refine ⟨h.kS.keep hK (t0 _ (by omega) (by omega)), h.kM.keep hK (t0 _ (by omega) (by omega)), kL7.upd _ _ rfl, ?_, ?_, ?_, hum7, ?_, ?_, h.tb.keep hK (t0 _ (by omega) (by omega)), ?_, ?_⟩
  · rw [List.length_append, List.length_singleton]
    exact row_keep hown (Kept.setCell (T := fun g => g ≠ M + 1) W7 (fun h => h rfl) _) (fun g hg e => by have := hL' g hg; omega)
  · intro i v hv
    rcases Nat.lt_or_ge i l.length with hi | hi
    · rw [List.getElem?_append_left hi] at hv
      obtain ⟨a1, a2, a3, a, b, a4, a5, a6⟩ := h.rel i v hv
      exact ⟨get_app_lt a1, get_app_lt a2, get_app_lt a3, a, b, get_app_lt a4, get_app_lt a5, a6⟩
    · rw [List.getElem?_append_right hi] at hv
      have hi0 : i = l.length := by
        have := (List.getElem?_eq_some_iff.1 hv).1
        simp at this
        omega
      subst hi0
      rw [Nat.sub_self] at hv
      obtain rfl : u = v := by simpa using hv
      have e : ∀ j, (xs ++ [Value.int .i64 u.p, .int .u8 u.br, .int .i32 u.base, lo', hi'])[l.length * 5 + j]? = [Value.int .i64 u.p, .int .u8 u.br, .int .i32 u.base, lo', hi'][j]? := fun j => by
        rw [List.getElem?_append_right (by omega), hxl]
        congr 1
        omega
      exact ⟨e 0, e 1, e 2, lo', hi', e 3, e 4, honec⟩
  · intro v hv
    rcases List.mem_append.1 hv with hv | hv
    · exact h.bs v hv
    · rw [List.mem_singleton.1 hv]; exact hu
  · intro i hi
    rw [List.length_append, List.length_singleton] at hi
    obtain rfl : l.length = i := by omega
    have e : ∀ j, (xs ++ [Value.int .i64 u.p, .int .u8 u.br, .int .i32 u.base, lo', hi'])[l.length * 5 + j]? = [Value.int .i64 u.p, .int .u8 u.br, .int .i32 u.base, lo', hi'][j]? := fun j => by
      rw [List.getElem?_append_right (by omega), hxl]
      congr 1
      omega
    exact ⟨e 3, e 4⟩
  · rintro g (hg | hg | hg) hs
    · rcases hk with e | e
      · exact h.nS g (.inl (e ▸ hg)) hs
      · rw [e] at hg
        have := Option.some.inj hg
        have := hSW g hs
        omega
    · have := hun g (.inl hg); have := hSW g hs; omega
    · have := hun g (.inr hg); have := hSW g hs; omega
  · have := hK.size; omega
  · exact h.low.trans (hK.below (by omega) (fun g hg => t0 g (by omega) (by omega)))
/-- the last unit's block, and what a mark there leaves -/
theorem UnI.last (h : UnI w W N M m s S l k lv xs lo hi) {i : Nat} (hl : l.length = i + 1) : ∃ g cap cur, lv = .slice (some ⟨g, 0, none⟩) (i + 1) cap ∧ M + 3 ≤ g ∧ g < W.heap.size ∧ W.heap[g]? = some (.cells cur 193 (0, 0)) ∧ cur[i * 5 + 3]? = some lo ∧ cur[i * 5 + 4]? = some hi ∧
    ∀ W' lo' hi', MkP W W' g (i * 5) (M + 3) cur lo hi k lo' hi' → (∀ g, S g → g < W.heap.size) → ∃ xs', UnI w W' N M m s S l (k + 1) lv xs' lo' hi' := by
  obtain ⟨hx, h2⟩ := h.own
  have hlt := h.lt
  rcases h2 with ⟨_, h2⟩ | ⟨g, cap, cur, rfl, hb, hc, h3, h4, h5, h6⟩
  · omega
  have hcur : ∀ j v, j < l.length * 5 → xs[j]? = some v → cur[j]? = some v := fun j v hj hv => by
    rw [← h6, List.getElem?_take, if_pos hj] at hv
    simpa using hv
  obtain ⟨e3, e4⟩ := h.lst i hl
  have hg := at_lt hc
  refine ⟨g, cap, cur, by rw [hl], hb, hg, hc, hcur _ _ (by omega) e3, hcur _ _ (by omega) e4, ?_⟩
  intro W' lo' hi' hM hSW
  have hone := hM.um.one
  have hgr := h.um.rows
  have hT0 : ∀ q, q < M + 3 → (q ≠ g ∧ lo.ownBlock ≠ some q ∧ hi.ownBlock ≠ some q) := fun q hq => ⟨by omega, fun e => by have := (hgr q (.inl e)).1; omega, fun e => by have := (hgr q (.inr e)).1; omega⟩
  refine ⟨(xs.set (i * 5 + 3) lo').set (i * 5 + 4) hi', h.kS.keep hM.kept (hT0 _ (by omega)), h.kM.keep hM.kept (hT0 _ (by omega)), h.kL.keep hM.kept (hT0 _ (by omega)), ?_, ?_, h.bs, hM.um, ?_, ?_, h.tb.keep hM.kept (hT0 _ (by omega)), by have := hM.kept.size; omega, h.low.trans (hM.kept.below (by omega) (fun q hq => hT0 q (by omega)))⟩
  · refine ⟨by rw [List.length_set, List.length_set]; exact hx, .inr ⟨g, cap, _, rfl, hb, hM.b, h3, h4, by simpa using h5, ?_⟩⟩
    rw [Array.toList_setIfInBounds, Array.toList_setIfInBounds, List.take_set, List.take_set, h6]
  · intro j u hu
    have hj := (List.getElem?_eq_some_iff.1 hu).1
    obtain ⟨a1, a2, a3, a, b, a4, a5, a6, a7⟩ := h.rel j u hu
    have hne : ∀ q v, q ≠ i * 5 + 3 → q ≠ i * 5 + 4 → xs[q]? = some v → ((xs.set (i * 5 + 3) lo').set (i * 5 + 4) hi')[q]? = some v := fun q v n1 n2 hv => by
      rw [List.getElem?_set_ne (by omega), List.getElem?_set_ne (by omega)]; exact hv
    have b3 := (List.getElem?_eq_some_iff.1 a4).1
    have b4 := (List.getElem?_eq_some_iff.1 a5).1
    by_cases hji : j = i
    · subst hji
      refine ⟨hne _ _ (by omega) (by omega) a1, hne _ _ (by omega) (by omega) a2, hne _ _ (by omega) (by omega) a3, lo', hi', ?_, ?_, hone⟩
      · rw [List.getElem?_set_ne (by omega), List.getElem?_set_self b3]
      · rw [List.getElem?_set_self (by rw [List.length_set]; exact b4)]
    · exact ⟨hne _ _ (by omega) (by omega) a1, hne _ _ (by omega) (by omega) a2, hne _ _ (by omega) (by omega) a3, a, b, hne _ _ (by omega) (by omega) a4, hne _ _ (by omega) (by omega) a5, a6, a7⟩
  · intro j hj
    obtain rfl : j = i := by omega
    have b3 := (List.getElem?_eq_some_iff.1 e3).1
    have b4 := (List.getElem?_eq_some_iff.1 e4).1
    refine ⟨?_, ?_⟩
    · rw [List.getElem?_set_ne (by omega), List.getElem?_set_self b3]
    · rw [List.getElem?_set_self (by rw [List.length_set]; exact b4)]
  · rintro q (hq | hq | hq) hs
    · exact h.nS q (.inl hq) hs
    · rcases hM.old q (.inl hq) with e | e
      · exact h.nS q (.inr e) hs
      · have := hSW q hs; omega
    · rcases hM.old q (.inr hq) with e | e
      · exact h.nS q (.inr e) hs
      · have := hSW q hs; omega
end
theorem info193 : (Tryz.prog.info? 193).map (fun i => (i.zero, i.size, i.bytes)) = some (some (.agg #[.int .i64 0, .int .u8 0, .int .i32 0, .slice none 0 0, .slice none 0 0]), 5, 64) := by kernel_rfl
end Go.Proofs.YteodfondjogmoaaGreatDoor
