/- The document's Count, its order and its put, over entries in memory. Conditions: those of each theorem. -/
import Derived.Test.YtmpkfpabejpbkaaGreatDoorJCQs
import Derived.Test.YtmpkfpabejpbkaaGreatDoorCQx
import Derived.OwnWalk
namespace Go.Proofs.YtmpkfpabejpbkaaGreatDoor.C
open Go.RowKit Go.Lib Go.Sort Go.Shelf
set_option linter.unusedVariables false
set_option linter.unusedSimpArgs false
theorem strs_beq (y x : ByteArray) : (y.toList == x.toList) = decide (y = x) := by
  rw [Lib.toList_data, Lib.toList_data]
  by_cases h : y = x
  · subst h; simp
  · rw [decide_eq_false h, beq_eq_false_iff_ne]; exact fun e => h (ba_ext e)
theorem less_iff (x y : ByteArray) : Op.bytesLess x.toList y.toList = true ↔ x.data.toList < y.data.toList := by
  rw [Proofs.bytesLess_eq, Lib.toList_data, Lib.toList_data]; simp
/-- a slice of entries, opened -/
theorem EntsIn.opened {w : World} {v : Value} {L : List Ent} (h : EntsIn w v L) : ∃ p cap, v = .slice p L.length cap ∧
    ∀ j x, L[j]? = some x → ∃ g, p = some ⟨g, 0, none⟩ ∧ g < w.heap.size ∧ w.cell? ⟨g, j * 2, none⟩ = some (.string x.1) ∧ w.cell? ⟨g, j * 2 + 1, none⟩ = some (.int .i64 x.2) := by
  rcases h with ⟨rfl, rfl⟩ | ⟨g, cap, rfl, hg, hat⟩
  · exact ⟨none, 0, rfl, fun j x hx => by simp at hx⟩
  · exact ⟨_, cap, rfl, fun j x hx => ⟨g, rfl, hg, hat j x hx⟩⟩
theorem own_ents {w : World} {b : Nat} {t : TypeId} {v : Value} {out : List Ent} (h : w.ownsRow b t 2 v out.length (flatE out)) : EntsIn w v out := by
  rcases h.2 with ⟨hv, hx⟩ | ⟨g, cap, cur, hv, hbase, hb, k1, k2, k3, k4⟩
  · refine .inl ⟨?_, hv⟩
    cases out with
    | nil => rfl
    | cons x r => simp at hx
  · exact .inr ⟨g, cap, hv, (Array.getElem?_eq_some_iff.1 hb).1, fun k x hx => by
      obtain ⟨e1, e2⟩ := flatE_get out k x hx
      exact ⟨blk_cell hb (take_get k4 e1), blk_cell hb (take_get k4 e2)⟩⟩
theorem countL_drop {L : List Ent} {j : Nat} {x : Ent} (hx : L[j]? = some x) (k : ByteArray) : countL (L.drop j) k = if x.1 = k then x.2 else countL (L.drop (j + 1)) k := by
  have hlt := (List.getElem?_eq_some_iff.1 hx)
  obtain ⟨hlt, he⟩ := hlt
  rw [List.drop_eq_getElem_cons hlt, he]; rfl
set_option maxHeartbeats 1000000 in
theorem rcount_any {w : World} {v : Value} {L : List Ent} (h : EntsIn w v L) (k : ByteArray) (hlen : L.length ≤ 9000) : Calls Tryz.prog 28 #[v, .string k] w fun e w' => e = .returned (.int .i64 (countL L k)) ∧ w = w' := by
  obtain ⟨p, cap, rfl, hat⟩ := h.opened
  have HA := hid hat
  have hsb := hid (fun y => strs_beq y k)
  clear hat h
  go_enter Tryz.func28, Tryz.ntmps28
  go_wp2_with fail
  go_loop [5] (fun i => ∃ j : Nat, j ≤ L.length ∧ i = .int .i64 j ∧ Hid (countL L k = countL (L.drop j) k)) (fun i => L.length - (intOf i).toNat)
  case atStart => exact ⟨0, Nat.zero_le _, rfl, by rw [List.drop_zero]; exact hid rfl⟩
  case round =>
    obtain ⟨j, hj, rfl, hc⟩ := hrel
    by_cases hlt : j < L.length
    · obtain ⟨x, hx⟩ : ∃ x, L[j]? = some x := ⟨_, List.getElem?_eq_getElem hlt⟩
      obtain ⟨g, rfl, hg, q0, q1⟩ := HA.out j x hx
      have hd := hid (countL_drop hx k)
      have hki : (j : Int) < L.length := by omega
      have hb := hsb.out x.1
      clear hx
      by_cases hk : x.1 = k
      · rw [decide_eq_true hk] at hb
        have hR : Hid (x.2 = countL L k) := by rw [hc.out, hd.out, if_pos hk]; exact hid rfl
        clear hk hc hd
        generalize x.2 = X at *
        go_wp2_with fail
        go_ret
        exact ⟨ret_int hR.out, rfl⟩
      · rw [decide_eq_false hk] at hb
        have hR : Hid (countL L k = countL (L.drop (j + 1)) k) := by rw [hc.out, hd.out, if_neg hk]; exact hid rfl
        clear hk hc hd
        go_wp2_with fail
        go_round
        case rel => exact ⟨j + 1, by omega, by go_num, hR⟩
        case measure => simp [intOf]; omega
    · obtain rfl : j = L.length := by omega
      have h0 : Hid (0 = countL L k) := by rw [hc.out, List.drop_length]; exact hid rfl
      clear hc
      go_wp2_with fail
      go_ret
      exact ⟨ret_int h0.out, rfl⟩
set_option maxHeartbeats 1000000 in
theorem before_any (x y : Ent) (w : World) : Calls Tryz.prog 50 #[.agg #[.string x.1, .int .i64 x.2], .agg #[.string y.1, .int .i64 y.2]] w fun e w' => e = .returned (.bool (decide (ltE x y))) ∧ Below w.heap.size w w' := by
  have hcs : (decide (y.2 < x.2) = true ∧ decide (ltE x y) = true) ∨ (decide (y.2 < x.2) = false ∧ (x.2 == y.2) = false ∧ decide (ltE x y) = false) ∨ (decide (y.2 < x.2) = false ∧ (x.2 == y.2) = true ∧ Op.bytesLess x.1.toList y.1.toList = decide (ltE x y)) := by
    by_cases h1 : y.2 < x.2
    · exact .inl ⟨decide_eq_true h1, decide_eq_true (.inl h1)⟩
    · by_cases h2 : x.2 = y.2
      · refine .inr (.inr ⟨decide_eq_false h1, by rw [beq_iff_eq]; exact h2, ?_⟩)
        have := less_iff x.1 y.1
        by_cases h3 : x.1.data.toList < y.1.data.toList
        · rw [this.2 h3, decide_eq_true (.inr ⟨h2.symm, h3⟩)]
        · rw [decide_eq_false (fun h => h.elim h1 fun h => h3 h.2)]
          exact Bool.eq_false_iff.2 fun h => h3 (this.1 h)
      · refine .inr (.inl ⟨decide_eq_false h1, by rw [beq_eq_false_iff_ne]; exact h2, decide_eq_false fun h => h.elim h1 fun h => h2 h.1.symm⟩)
  obtain ⟨x1, x2⟩ := x
  obtain ⟨y1, y2⟩ := y
  dsimp only at hcs ⊢
  generalize decide (ltE (x1, x2) (y1, y2)) = B at *
  have n0 := cell_new w #[.string x1, .int .i64 x2] 79 w.heap.size 0 rfl (.string x1) rfl
  have n1 := cell_new w #[.string x1, .int .i64 x2] 79 w.heap.size 1 rfl (.int .i64 x2) rfl
  rcases hcs with ⟨t1, rfl⟩ | ⟨t1, t2, rfl⟩ | ⟨t1, t2, t3⟩
  · go_enter Tryz.func50, Tryz.ntmps50
    go_wp2_with fail
    go_ret
    exact ⟨rfl, ((Below.refl _ _).alloc (Nat.le_refl _) _).alloc (by simp) _⟩
  · go_enter Tryz.func50, Tryz.ntmps50
    go_wp2_with fail
    go_ret
    exact ⟨rfl, ((Below.refl _ _).alloc (Nat.le_refl _) _).alloc (by simp) _⟩
  · go_enter Tryz.func50, Tryz.ntmps50
    go_wp2_with fail
    go_ret
    exact ⟨rfl, ((Below.refl _ _).alloc (Nat.le_refl _) _).alloc (by simp) _⟩
end Go.Proofs.YtmpkfpabejpbkaaGreatDoor.C
/- The document's put walked: a word's count, so many more, in order. Conditions: those of each theorem. -/
namespace Go.Proofs.YtmpkfpabejpbkaaGreatDoor.C
open Go.RowKit Go.Lib Go.Sort Go.Shelf
set_option linter.unusedVariables false
set_option linter.unusedSimpArgs false
theorem insE_none {x : Ent} : ∀ {l : List Ent} (r : List Ent), (∀ y ∈ l, ¬ ltE x y) → insE x (l ++ r) = l ++ insE x r
  | [], r, _ => rfl
  | y :: l, r, h => by
    show insE x (y :: (l ++ r)) = y :: (l ++ insE x r)
    rw [← insE_none r fun z hz => h z (List.mem_cons_of_mem _ hz)]
    show (if ltE x y then _ else _) = _
    rw [if_neg (h y (List.mem_cons_self ..))]
theorem insE_some {x : Ent} : ∀ {l : List Ent} (r : List Ent), (∃ y ∈ l, ltE x y) → insE x (l ++ r) = insE x l ++ r
  | [], r, h => by obtain ⟨y, hy, _⟩ := h; simp at hy
  | y :: l, r, h => by
    show insE x (y :: (l ++ r)) = insE x (y :: l) ++ r
    show (if ltE x y then _ else _) = (if ltE x y then _ else _) ++ r
    by_cases hxy : ltE x y
    · rw [if_pos hxy, if_pos hxy]; rfl
    · rw [if_neg hxy, if_neg hxy]
      rw [insE_some r]
      · rfl
      · obtain ⟨z, hz, hlt⟩ := h
        rcases List.mem_cons.1 hz with rfl | hz
        · exact absurd hlt hxy
        · exact ⟨z, hz, hlt⟩
/-- has it been put down already? what is there so far -/
def putT (x : Ent) (l : List Ent) : Bool := l.any fun y => decide (ltE x y)
def putO (x : Ent) (l : List Ent) : List Ent := if putT x l = true then insE x l else l
theorem putT_true {x : Ent} {l : List Ent} (h : putT x l = true) : ∃ y ∈ l, ltE x y := by
  unfold putT at h
  obtain ⟨y, hy, h⟩ := List.any_eq_true.1 h
  exact ⟨y, hy, of_decide_eq_true h⟩
theorem putT_false {x : Ent} {l : List Ent} (h : putT x l = false) : ∀ y ∈ l, ¬ ltE x y := fun y hy hlt => by
  unfold putT at h
  have := List.any_eq_false.1 h y hy
  exact this (decide_eq_true hlt)
theorem putT_snoc (x y : Ent) (l : List Ent) : putT x (l ++ [y]) = (putT x l || decide (ltE x y)) := by unfold putT; simp
theorem put_done {x y : Ent} {l : List Ent} (h : putT x l = true) : putT x (l ++ [y]) = true ∧ putO x (l ++ [y]) = putO x l ++ [y] := by
  have h1 : putT x (l ++ [y]) = true := by rw [putT_snoc, h]; rfl
  refine ⟨h1, ?_⟩
  unfold putO
  rw [if_pos h1, if_pos h]
  exact insE_some [y] (putT_true h)
theorem put_now {x y : Ent} {l : List Ent} (h : putT x l = false) (hlt : ltE x y) : putT x (l ++ [y]) = true ∧ putO x (l ++ [y]) = putO x l ++ [x] ++ [y] := by
  have h1 : putT x (l ++ [y]) = true := by rw [putT_snoc, decide_eq_true hlt, Bool.or_true]
  refine ⟨h1, ?_⟩
  unfold putO
  rw [if_pos h1, if_neg (by rw [h]; decide), insE_none [y] (putT_false h)]
  show l ++ (if ltE x y then _ else _) = _
  rw [if_pos hlt]; simp
theorem put_not {x y : Ent} {l : List Ent} (h : putT x l = false) (hlt : ¬ ltE x y) : putT x (l ++ [y]) = false ∧ putO x (l ++ [y]) = putO x l ++ [y] := by
  have h1 : putT x (l ++ [y]) = false := by rw [putT_snoc, decide_eq_false hlt, h]; rfl
  refine ⟨h1, ?_⟩
  unfold putO
  rw [if_neg (by rw [h1]; decide), if_neg (by rw [h]; decide)]
theorem put_end {x : Ent} {l : List Ent} : (putT x l = true → insE x l = putO x l) ∧ (putT x l = false → insE x l = putO x l ++ [x]) := by
  refine ⟨fun h => by unfold putO; rw [if_pos h], fun h => ?_⟩
  have := insE_none (x := x) [] (putT_false h)
  rw [List.append_nil] at this
  unfold putO
  rw [if_neg (by rw [h]; decide), this]
  rfl
theorem dropL_snoc {L : List Ent} {j : Nat} {y : Ent} (hy : L[j]? = some y) (k : ByteArray) : dropL (L.take (j + 1)) k = if y.1 = k then dropL (L.take j) k else dropL (L.take j) k ++ [y] := by
  rw [take_snoc L j y hy]
  unfold dropL
  rw [List.filter_append]
  by_cases h : y.1 = k
  · rw [if_pos h]; simp [List.filter_cons, h]
  · rw [if_neg h]; simp [List.filter_cons, h]
attribute [local go_sem] Ext.cell Ext.froz
theorem infoR : (Tryz.prog.info? 57).map (fun i => (i.zero, i.size, i.bytes)) = some (some (.agg #[.string ByteArray.empty, .int .i64 0]), 2, 24) := by
  kernel_rfl
/-- what holds while the list is gone through -/
structure Put (w wr : World) (x : Ent) (l : List Ent) (v : Value) : Prop where
  own : wr.ownsRow (w.heap.size + 1) 57 2 v (putO x l).length (flatE (putO x l))
  low : Below w.heap.size w wr
  blk : Blk wr w.heap.size 57 #[.string x.1, .int .i64 x.2]
/-- one entry more -/
theorem Put.more {w wr w5 : World} {x : Ent} {out : List Ent} {v : Value} (hlow : Below w.heap.size w wr) (hblk : Blk wr w.heap.size 57 #[.string x.1, .int .i64 x.2]) (hown : wr.ownsRow (w.heap.size + 1) 57 2 v out.length (flatE out))
    (y : Ent) (hg : (wr.alloc (.cells #[.string y.1, .int .i64 y.2] 57)).grownBy w5 v.ownBlock) : Below w.heap.size w w5 ∧ Blk w5 w.heap.size 57 #[.string x.1, .int .i64 x.2] :=
  ⟨(hlow.alloc hlow.size _).grown hg (by simp; have := hlow.size; omega) (fun k hk => by have := (hown.lt k hk).1; omega),
   (hblk.alloc _).kept hg (fun e => by have := (hown.lt _ e.symm).1; omega)⟩
set_option maxRecDepth 100000 in
set_option maxHeartbeats 4000000 in
theorem rput_any {w : World} {v : Value} {L : List Ent} (h : EntsIn w v L) (k : ByteArray) (n : Int) (hlen : L.length ≤ 9000) (hb : -4611686018427387904 ≤ countL L k + n ∧ countL L k + n ≤ 4611686018427387904) :
    Calls Tryz.prog 30 #[v, .string k, .int .i64 n] w fun e w' => ∃ u, e = .returned u ∧ EntsIn w' u (putL L k n) ∧ Below w.heap.size w w' ∧ ∀ g, u.ownBlock = some g → w.heap.size ≤ g := by
  obtain ⟨i0, hi, hz0, hz1, hz2⟩ := info_parts infoR
  have hC := hid (rcount_any h k hlen)
  obtain ⟨p, cap, rfl, hat⟩ := h.opened
  have HA := hid hat
  have hsb := hid (fun y => strs_beq y k)
  have hPut : Hid (putL L k n = insE (k, countL L k + n) (dropL (L.take L.length) k)) := by rw [List.take_length]; exact hid rfl
  have hDl : Hid (∀ j, (dropL (L.take j) k).length ≤ 9000) := fun j => Nat.le_trans (List.length_filter_le _ _) (by rw [List.length_take]; omega)
  clear hat h
  go_enter Tryz.func30, Tryz.ntmps30
  go_wp2_with fail
  with_reducible refine Calls.mono hC.out ?_
  rintro e w' ⟨rfl, rfl⟩
  clear hC
  generalize countL L k = C at *
  have hw : IntKind.i64.wrap (C + n) = C + n := IntWalk.i64_in _ (by omega)
  go_wp2_with fail
  go_loopw [7, 9, 10] (fun o t i wr => ∃ j : Nat, j ≤ L.length ∧ i = .int .i64 j ∧ t = .bool (putT (k, C + n) (dropL (L.take j) k)) ∧ Put w wr (k, C + n) (dropL (L.take j) k) o) (fun _ _ i _ => L.length - (intOf i).toNat)
  case atStart => exact ⟨0, Nat.zero_le _, rfl, rfl, World.ownsRow_nil _ _ _ _, (Below.refl _ _).alloc (Nat.le_refl _) _, Blk.new _ _ _⟩
  case round =>
    obtain ⟨j, hj, rfl, rfl, hP⟩ := hrel
    have hO := hid hP.own
    have hLw := hid hP.low
    have hBk := hid hP.blk
    have hDj := hDl.out j
    have hol : (putO (k, C + n) (dropL (L.take j) k)).length ≤ 9001 := by
      unfold putO
      split
      · rw [(insE_perm _ _).length_eq]; simp only [List.length_cons]; omega
      · omega
    clear hP
    by_cases hlt : j < L.length
    · obtain ⟨y, hy⟩ : ∃ y, L[j]? = some y := ⟨_, List.getElem?_eq_getElem hlt⟩
      obtain ⟨g, rfl, hg, q0, q1⟩ := HA.out j y hy
      have hd := hid (dropL_snoc hy k)
      have hki : (j : Int) < L.length := by omega
      have hbq := hsb.out y.1
      have e := hLw.out.block g hg
      have W0 := hid q0
      have W1 := hid q1
      replace q0 := (World.cell?_of_block (a := ⟨g, j * 2, none⟩) e).trans q0
      replace q1 := (World.cell?_of_block (a := ⟨g, j * 2 + 1, none⟩) e).trans q1
      have x0 := hBk.out.cell (k := 0) (v := .string k) rfl
      have x1 := hBk.out.cell (k := 1) (v := .int .i64 (C + n)) rfl
      clear hy e
      by_cases hk : y.1 = k
      · rw [decide_eq_true hk] at hbq
        rw [if_pos hk] at hd
        clear hk
        go_wp2_with fail
        go_roundw
        case rel => exact ⟨j + 1, by omega, by go_num, by rw [hd.out], by rw [hd.out]; exact ⟨hO.out, hLw.out, hBk.out⟩⟩
        case measure => simp [intOf]; omega
      · rw [decide_eq_false hk] at hbq
        rw [if_neg hk] at hd
        clear hk
        generalize hOut : putO (k, C + n) (dropL (L.take j) k) = out at *
        have hOu := hid hOut
        clear hOut
        cases hT : putT (k, C + n) (dropL (L.take j) k)
        · -- not yet put down
          have hB := hid (before_any (k, C + n) y)
          by_cases hlt2 : ltE (k, C + n) y
          · -- here
            obtain ⟨hT1, hO1⟩ := put_now hT hlt2
            replace hT1 := hid hT1
            replace hO1 := hid hO1
            rw [hOu.out] at hO1
            rw [decide_eq_true hlt2] at hB
            clear hT hlt2
            go_wp2_with fail
            refine ext_allB (by kernel_rfl) (by kernel_rfl) ?_
            repeat (refine bq_step (fun K hK => ?_); go_simp; first | (refine ⟨hK _ ?_⟩; clear hK K) | (refine ⟨?_⟩; apply Exists.intro; refine ⟨fun x => ?_, hK _ ?_⟩; (with_reducible exact Ext.call (hB.out _)); clear hK K))
            refine bq_nil ?_
            rintro _ ⟨z, rfl⟩
            have hg0 : wr.grownBy z.w none := grownNone z.h
            have hO2 := hid (hO.out.kept hg0 (Classical.em _))
            have hL2 := hid (hLw.out.trans (z.h.mono hLw.out.size))
            have hB2 := hid (hBk.out.low z.h)
            have hx0 := hB2.out.cell (k := 0) (v := .string k) rfl
            have hx1 := hB2.out.cell (k := 1) (v := .int .i64 (C + n)) rfl
            have gz : g < wr.heap.size := by have := hLw.out.size; omega
            have Q0 := hid ((World.cell?_of_block (a := ⟨g, j * 2, none⟩) (z.h.block g gz)).trans q0)
            have Q1 := hid ((World.cell?_of_block (a := ⟨g, j * 2 + 1, none⟩) (z.h.block g gz)).trans q1)
            have sz := z.h.size
            have sB := hB2.out.lt
            clear hg0 hO hLw hBk q0 q1 gz x0 x1
            generalize z.w = wq at *
            go_wp2_with (first | (at_builtin; refine wpList_append_own _ rfl (.tmp 41) (.tmp 43) 32 rfl (w.heap.size + 1) 57 i0 _ 2 24 Tryz.underlying32 hi hz0 hz1 hz2 rfl (by decide) _ _ _ rfl (hO2.out.alloc _) ⟨wq.heap.size, 0, none⟩ 1 1 [.string k, .int .i64 (C + n)] rfl rfl (cells_new2 _ _ _ _) (by simp [Value.oneCell']) (by unfold maxLen; omega) (by omega) (by simp; omega) ?_; refine stop_here ?_) | fail)
            refine hid ?_
            intro v' w5 hown' hgrow hnil
            obtain ⟨l5, b5⟩ := Put.more (x := (k, C + n)) hL2.out hB2.out hO2.out (k, C + n) hgrow
            have hO5 : Hid (w5.ownsRow (w.heap.size + 1) 57 2 v' (out ++ [(k, C + n)]).length (flatE (out ++ [(k, C + n)]))) := by rw [flatE_snoc, List.length_append]; exact hid hown'
            have HL5 := hid l5
            have HB5 := hid b5
            have s5 : w5.heap.size ≥ wq.heap.size := by have := hgrow.size; simp at this; omega
            have e5 := l5.block g hg
            replace q0 := hid ((World.cell?_of_block (a := ⟨g, j * 2, none⟩) e5).trans W0.out)
            replace q1 := hid ((World.cell?_of_block (a := ⟨g, j * 2 + 1, none⟩) e5).trans W1.out)
            clear hown' hgrow hnil l5 b5 e5 hx0 hx1 hO2 hL2 hB2 Q0 Q1
            have q0' := q0.out
            have q1' := q1.out
            have hol2 : (out ++ [(k, C + n)]).length ≤ 9002 := by simp; omega
            generalize hO6 : out ++ [(k, C + n)] = out2 at *
            replace hO6 := hid hO6
            go_wp2_with (first | (at_builtin; refine wpList_append_own _ rfl (.tmp 45) (.tmp 50) 32 rfl (w.heap.size + 1) 57 i0 _ 2 24 Tryz.underlying32 hi hz0 hz1 hz2 rfl (by decide) _ _ _ rfl (hO5.out.alloc _) ⟨w5.heap.size, 0, none⟩ 1 1 [.string y.1, .int .i64 y.2] rfl rfl (cells_new2 _ _ _ _) (by simp [Value.oneCell']) (by unfold maxLen; omega) (by omega) (by simp; omega) ?_; refine stop_here ?_) | fail)
            refine hid ?_
            intro v6 w6 hown' hgrow hnil
            obtain ⟨l5, b5⟩ := Put.more (x := (k, C + n)) HL5.out HB5.out hO5.out y hgrow
            have hO7 : Hid (w6.ownsRow (w.heap.size + 1) 57 2 v6 (out2 ++ [y]).length (flatE (out2 ++ [y]))) := by rw [flatE_snoc, List.length_append]; exact hid hown'
            have HL6 := hid l5
            have HB6 := hid b5
            clear hown' hgrow hnil l5 b5 q0' q1'
            go_wp2_with fail
            go_roundw
            case rel => exact ⟨j + 1, by omega, by go_num, by rw [hd.out, hT1.out], by rw [hd.out]; exact ⟨by rw [hO1.out]; exact hO7.out, HL6.out, HB6.out⟩⟩
            case measure => simp [intOf]; omega
          · -- not here
            obtain ⟨hT1, hO1⟩ := put_not hT hlt2
            replace hT1 := hid hT1
            replace hO1 := hid hO1
            rw [hOu.out] at hO1
            rw [decide_eq_false hlt2] at hB
            clear hT hlt2
            go_wp2_with fail
            refine ext_allB (by kernel_rfl) (by kernel_rfl) ?_
            repeat (refine bq_step (fun K hK => ?_); go_simp; first | (refine ⟨hK _ ?_⟩; clear hK K) | (refine ⟨?_⟩; apply Exists.intro; refine ⟨fun x => ?_, hK _ ?_⟩; (with_reducible exact Ext.call (hB.out _)); clear hK K))
            refine bq_nil ?_
            rintro _ ⟨z, rfl⟩
            have hg0 : wr.grownBy z.w none := grownNone z.h
            have hO2 := hid (hO.out.kept hg0 (Classical.em _))
            have hL2 := hid (hLw.out.trans (z.h.mono hLw.out.size))
            have hB2 := hid (hBk.out.low z.h)
            have hx0 := hB2.out.cell (k := 0) (v := .string k) rfl
            have hx1 := hB2.out.cell (k := 1) (v := .int .i64 (C + n)) rfl
            have gz : g < wr.heap.size := by have := hLw.out.size; omega
            have Q0 := hid ((World.cell?_of_block (a := ⟨g, j * 2, none⟩) (z.h.block g gz)).trans q0)
            have Q1 := hid ((World.cell?_of_block (a := ⟨g, j * 2 + 1, none⟩) (z.h.block g gz)).trans q1)
            have sz := z.h.size
            have sB := hB2.out.lt
            clear hg0 hO hLw hBk q0 q1 gz x0 x1
            generalize z.w = wq at *
            have q0' := Q0.out
            have q1' := Q1.out
            go_wp2_with (first | (at_builtin; refine wpList_append_own _ rfl (.tmp 45) (.tmp 50) 32 rfl (w.heap.size + 1) 57 i0 _ 2 24 Tryz.underlying32 hi hz0 hz1 hz2 rfl (by decide) _ _ _ rfl (hO2.out.alloc _) ⟨wq.heap.size, 0, none⟩ 1 1 [.string y.1, .int .i64 y.2] rfl rfl (cells_new2 _ _ _ _) (by simp [Value.oneCell']) (by unfold maxLen; omega) (by omega) (by simp; omega) ?_; refine stop_here ?_) | fail)
            refine hid ?_
            intro v6 w6 hown' hgrow hnil
            obtain ⟨l5, b5⟩ := Put.more (x := (k, C + n)) hL2.out hB2.out hO2.out y hgrow
            have hO7 : Hid (w6.ownsRow (w.heap.size + 1) 57 2 v6 (out ++ [y]).length (flatE (out ++ [y]))) := by rw [flatE_snoc, List.length_append]; exact hid hown'
            have HL6 := hid l5
            have HB6 := hid b5
            clear hown' hgrow hnil l5 b5 q0' q1' hO2 hL2 hB2 hx0 hx1
            go_wp2_with fail
            go_roundw
            case rel => exact ⟨j + 1, by omega, by go_num, by rw [hd.out, hT1.out], by rw [hd.out]; exact ⟨by rw [hO1.out]; exact hO7.out, HL6.out, HB6.out⟩⟩
            case measure => simp [intOf]; omega
        · -- put down already
          obtain ⟨hT1, hO1⟩ := put_done (y := y) hT
          replace hT1 := hid hT1
          replace hO1 := hid hO1
          rw [hOu.out] at hO1
          clear hT
          go_wp2_with fail
          refine ext_allB (by kernel_rfl) (by kernel_rfl) ?_
          repeat (refine bq_step (fun K hK => ?_); go_simp; refine ⟨hK _ ?_⟩; clear hK K)
          refine bq_nil ?_
          rintro _ ⟨z, rfl⟩
          have hg0 : wr.grownBy z.w none := grownNone z.h
          have hO2 := hid (hO.out.kept hg0 (Classical.em _))
          have hL2 := hid (hLw.out.trans (z.h.mono hLw.out.size))
          have hB2 := hid (hBk.out.low z.h)
          have hx0 := hB2.out.cell (k := 0) (v := .string k) rfl
          have hx1 := hB2.out.cell (k := 1) (v := .int .i64 (C + n)) rfl
          have gz : g < wr.heap.size := by have := hLw.out.size; omega
          have Q0 := hid ((World.cell?_of_block (a := ⟨g, j * 2, none⟩) (z.h.block g gz)).trans q0)
          have Q1 := hid ((World.cell?_of_block (a := ⟨g, j * 2 + 1, none⟩) (z.h.block g gz)).trans q1)
          have sz := z.h.size
          have sB := hB2.out.lt
          clear hg0 hO hLw hBk q0 q1 gz x0 x1
          generalize z.w = wq at *
          have q0' := Q0.out
          have q1' := Q1.out
          go_wp2_with (first | (at_builtin; refine wpList_append_own _ rfl (.tmp 45) (.tmp 50) 32 rfl (w.heap.size + 1) 57 i0 _ 2 24 Tryz.underlying32 hi hz0 hz1 hz2 rfl (by decide) _ _ _ rfl (hO2.out.alloc _) ⟨wq.heap.size, 0, none⟩ 1 1 [.string y.1, .int .i64 y.2] rfl rfl (cells_new2 _ _ _ _) (by simp [Value.oneCell']) (by unfold maxLen; omega) (by omega) (by simp; omega) ?_; refine stop_here ?_) | fail)
          refine hid ?_
          intro v6 w6 hown' hgrow hnil
          obtain ⟨l5, b5⟩ := Put.more (x := (k, C + n)) hL2.out hB2.out hO2.out y hgrow
          have hO7 : Hid (w6.ownsRow (w.heap.size + 1) 57 2 v6 (out ++ [y]).length (flatE (out ++ [y]))) := by rw [flatE_snoc, List.length_append]; exact hid hown'
          have HL6 := hid l5
          have HB6 := hid b5
          clear hown' hgrow hnil l5 b5 q0' q1' hO2 hL2 hB2 hx0 hx1
          go_wp2_with fail
          go_roundw
          case rel => exact ⟨j + 1, by omega, by go_num, by rw [hd.out, hT1.out], by rw [hd.out]; exact ⟨by rw [hO1.out]; exact hO7.out, HL6.out, HB6.out⟩⟩
          case measure => simp [intOf]; omega
    · obtain rfl : j = L.length := by omega
      obtain ⟨e1, e2⟩ := put_end (x := (k, C + n)) (l := dropL (L.take L.length) k)
      have x0 := hBk.out.cell (k := 0) (v := .string k) rfl
      have x1 := hBk.out.cell (k := 1) (v := .int .i64 (C + n)) rfl
      have sB := hBk.out.lt
      generalize hOut : putO (k, C + n) (dropL (L.take L.length) k) = out at *
      cases hT : putT (k, C + n) (dropL (L.take L.length) k)
      · have hR : Hid (putL L k n = out ++ [(k, C + n)]) := by rw [hPut.out, e2 hT]; exact hid rfl
        clear e1 e2 hT hOut hPut
        go_wp2_with (first | (at_builtin; refine wpList_append_own _ rfl (.tmp 54) (.tmp 56) 32 rfl (w.heap.size + 1) 57 i0 _ 2 24 Tryz.underlying32 hi hz0 hz1 hz2 rfl (by decide) _ _ _ rfl (hO.out.alloc _) ⟨wr.heap.size, 0, none⟩ 1 1 [.string k, .int .i64 (C + n)] rfl rfl (cells_new2 _ _ _ _) (by simp [Value.oneCell']) (by unfold maxLen; omega) (by omega) (by simp; omega) ?_; refine stop_here ?_) | fail)
        refine hid ?_
        intro v6 w6 hown' hgrow hnil
        obtain ⟨l5, b5⟩ := Put.more (x := (k, C + n)) hLw.out hBk.out hO.out (k, C + n) hgrow
        have hO7 : Hid (w6.ownsRow (w.heap.size + 1) 57 2 v6 (out ++ [(k, C + n)]).length (flatE (out ++ [(k, C + n)]))) := by rw [flatE_snoc, List.length_append]; exact hid hown'
        have HL6 := hid l5
        clear hown' hgrow hnil l5 b5
        go_wp2_with fail
        go_ret
        exact ⟨_, rfl, by rw [hR.out]; exact own_ents hO7.out, HL6.out, fun g hg => by have := (hO7.out.lt g hg).1; omega⟩
      · have hR : Hid (putL L k n = out) := by rw [hPut.out, e1 hT]; exact hid rfl
        clear e1 e2 hT hOut hPut
        go_wp2_with fail
        go_ret
        exact ⟨_, rfl, by rw [hR.out]; exact own_ents hO.out, hLw.out, fun g hg => by have := (hO.out.lt g hg).1; omega⟩
end Go.Proofs.YtmpkfpabejpbkaaGreatDoor.C
