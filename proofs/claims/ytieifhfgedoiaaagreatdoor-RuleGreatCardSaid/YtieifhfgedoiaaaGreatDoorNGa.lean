/- The document's phones: all rows, in some order. Conditions: those of each theorem. -/
import Derived.Test.YtieifhfgedoiaaaGreatDoorNSpB
import Derived.Test.YtieifhfgedoiaaaGreatDoorNQp
import Derived.Test.YtieifhfgedoiaaaGreatDoorNQa
import Derived.Laws.NewBlocks
import Derived.Great.Walk
import Derived.Test.YtieifhfgedoiaaaGreatDoorNRgP
import Derived.Test.YtieifhfgedoiaaaGreatDoorNPhG
namespace Go.Proofs.YtieifhfgedoiaaaGreatDoor
open Go.RowKit Go.Lib
set_option linter.unusedVariables false
set_option linter.unusedSimpArgs false
attribute [local go_sem] ExtS.cell ExtS.froz upE_value upE_skip upE_enter Ext.cell Ext.froz
theorem vowel_any (r h b : Int) (ro : Bool) (w : World) : Calls Tryz.prog 99 #[.int .i32 r, .int .i64 h, .int .i64 b, .bool ro] w fun e w' => e = .returned (.agg #[.int .i32 r, .bool true, .int .i64 h, .int .i64 b, .bool ro, .int .i64 0, .int .i64 0, .bool false]) ∧ Below w.heap.size w w' := by
 go_enter Tryz.func99, Tryz.ntmps99
 go_wp2_with fail
 refine bodyPost_ret_by (v := .agg #[.int .i32 r, .bool true, .int .i64 h, .int .i64 b, .bool ro, .int .i64 0, .int .i64 0, .bool false]) (by simp [results, Tryz.results99, go_sem]) rfl ⟨rfl, ?_⟩
 repeat (first | exact (Below.refl _ _).alloc (Nat.le_refl _) _ | refine Below.setCell ?_ (Nat.le_refl _) _)
theorem conso_any (r p m : Int) (vo : Bool) (w : World) : Calls Tryz.prog 100 #[.int .i32 r, .int .i64 p, .int .i64 m, .bool vo] w fun e w' => e = .returned (.agg #[.int .i32 r, .bool false, .int .i64 0, .int .i64 0, .bool false, .int .i64 p, .int .i64 m, .bool vo]) ∧ Below w.heap.size w w' := by
 go_enter Tryz.func100, Tryz.ntmps100
 go_wp2_with fail
 refine bodyPost_ret_by (v := .agg #[.int .i32 r, .bool false, .int .i64 0, .int .i64 0, .bool false, .int .i64 p, .int .i64 m, .bool vo]) (by simp [results, Tryz.results100, go_sem]) rfl ⟨rfl, ?_⟩
 repeat (first | exact (Below.refl _ _).alloc (Nat.le_refl _) _ | refine Below.setCell ?_ (Nat.le_refl _) _)
def putL (A : List Value) (k : Nat) : List Value → List Value
 | [] => A
 | c :: r => putL (A.set k c) (k + 1) r
theorem putL_right (a : List Value) : ∀ (cs b : List Value) (i : Nat), putL (a ++ b) (a.length + i) cs = a ++ putL b i cs
 | [], b, i => rfl
 | c :: r, b, i => by
  show putL ((a ++ b).set (a.length + i) c) (a.length + (i + 1)) r = a ++ putL (b.set i c) (i + 1) r
  rw [List.set_append_right _ _ (Nat.le_add_right _ _), Nat.add_sub_cancel_left]
  exact putL_right a r _ _
theorem putL_key (b : List Value) : ∀ (cs zs p : List Value), cs.length = zs.length → putL (p ++ (zs ++ b)) p.length cs = p ++ (cs ++ b)
 | [], [], p, h => rfl
 | [], y :: ys, p, h => by simp at h
 | c :: r, [], p, h => by simp at h
 | c :: r, y :: ys, p, h => by
  show putL ((p ++ (y :: (ys ++ b))).set p.length c) (p.length + 1) r = _
  rw [List.set_append_right _ _ (Nat.le_refl _), Nat.sub_self, List.set_cons_zero]
  have := putL_key b r ys (p ++ [c]) (by simpa using h)
  rw [List.length_append, List.length_singleton] at this
  rw [show p ++ c :: (ys ++ b) = p ++ [c] ++ (ys ++ b) by simp, this]
  simp
theorem flatE_putL {α : Type} (f : α → List Value) (k : Nat) (hk : ∀ x, (f x).length = k) : ∀ (L : List α) (j : Nat) (x : α), j < L.length → putL (flatE f L) (j * k) (f x) = flatE f (L.set j x)
 | [], j, x, h => by simp at h
 | y :: L, 0, x, h => by
  have := putL_key (flatE f L) (f x) (f y) [] (by rw [hk, hk])
  simpa [flatE] using this
 | y :: L, j + 1, x, h => by
  have ih := flatE_putL f k hk L j x (by simpa using h)
  have := putL_right (f y) (f x) (flatE f L) (j * k)
  rw [hk] at this
  rw [show (j + 1) * k = k + j * k by rw [Nat.add_mul, Nat.one_mul]; omega]
  show putL (f y ++ flatE f L) _ _ = f y ++ flatE f (L.set j x)
  rw [this, ih]
def put8 (w : World) (B k : Nat) (x : Row) : World := ((((((((w.setCell ⟨B, k, none⟩ (.int .i32 x.r)).setCell ⟨B, k + 1, none⟩ (.bool x.t.vowel)).setCell ⟨B, k + 2, none⟩ (.int .i64 x.t.height)).setCell ⟨B, k + 3, none⟩ (.int .i64 x.t.back)).setCell ⟨B, k + 4, none⟩ (.bool x.t.round)).setCell ⟨B, k + 5, none⟩ (.int .i64 x.t.place)).setCell ⟨B, k + 6, none⟩ (.int .i64 x.t.manner)).setCell ⟨B, k + 7, none⟩ (.bool x.t.voiced))
theorem Blk.put8 {w : World} {B : Nat} {L : List Row} (h : Blk w B 171 (flatE Row.cells L).toArray) {j : Nat} (hj : j < L.length) (x : Row) : Blk (put8 w B (j * 8) x) B 171 (flatE Row.cells (L.set j x)).toArray := by
 rw [← flatE_putL Row.cells 8 (fun _ => rfl) L j x hj]
 have := (((((((h.set (j * 8) (.int .i32 x.r)).set (j * 8 + 1) (.bool x.t.vowel)).set (j * 8 + 2) (.int .i64 x.t.height)).set (j * 8 + 3) (.int .i64 x.t.back)).set (j * 8 + 4) (.bool x.t.round)).set (j * 8 + 5) (.int .i64 x.t.place)).set (j * 8 + 6) (.int .i64 x.t.manner)).set (j * 8 + 7) (.bool x.t.voiced)
 simp only [List.setIfInBounds_toArray] at this
 exact this
theorem below_put8 {w W : World} {B : Nat} (h : Below w.heap.size w W) (hB : w.heap.size ≤ B) (k : Nat) (x : Row) : Below w.heap.size w (put8 W B k x) :=
 Below.setCell (Below.setCell (Below.setCell (Below.setCell (Below.setCell (Below.setCell (Below.setCell (Below.setCell h (p := ⟨B, k, none⟩) hB _) (p := ⟨B, k + 1, none⟩) hB _) (p := ⟨B, k + 2, none⟩) hB _) (p := ⟨B, k + 3, none⟩) hB _) (p := ⟨B, k + 4, none⟩) hB _) (p := ⟨B, k + 5, none⟩) hB _) (p := ⟨B, k + 6, none⟩) hB _) (p := ⟨B, k + 7, none⟩) hB _
theorem row8 {w : World} {B : Nat} {L : List Row} (h : Blk w B 171 (flatE Row.cells L).toArray) {j r he ba pl ma : Nat} {vo ro vi : Bool} (hx : L[j]? = some ⟨r, ⟨vo, he, ba, ro, pl, ma, vi⟩⟩) :
  w.cell? ⟨B, j * 8, none⟩ = some (.int .i32 r) ∧ w.cell? ⟨B, j * 8 + 1, none⟩ = some (.bool vo) ∧ w.cell? ⟨B, j * 8 + 2, none⟩ = some (.int .i64 he) ∧ w.cell? ⟨B, j * 8 + 3, none⟩ = some (.int .i64 ba) ∧
  w.cell? ⟨B, j * 8 + 4, none⟩ = some (.bool ro) ∧ w.cell? ⟨B, j * 8 + 5, none⟩ = some (.int .i64 pl) ∧ w.cell? ⟨B, j * 8 + 6, none⟩ = some (.int .i64 ma) ∧ w.cell? ⟨B, j * 8 + 7, none⟩ = some (.bool vi) ∧ ∀ k, w.frozen? ⟨B, k, none⟩ = false := by
 have hg := fun i u hu => h.cell (k := j * 8 + i) (by rw [List.getElem?_toArray]; exact flatE_get Row.cells 8 (fun _ => rfl) L j _ hx i u hu)
 exact ⟨hg 0 _ rfl, hg 1 _ rfl, hg 2 _ rfl, hg 3 _ rfl, hg 4 _ rfl, hg 5 _ rfl, hg 6 _ rfl, hg 7 _ rfl, h.froz⟩
structure Rw (w W : World) (B : Nat) (L : List Row) : Prop where
 k : Blk W B 171 (flatE Row.cells L).toArray
 p : L.Perm rows0
 g : w.heap.size ≤ B
 b : Below w.heap.size w W
theorem Rw.len {w W : World} {B : Nat} {L : List Row} (h : Rw w W B L) : L.length = 38 := h.p.length_eq
theorem Rw.swap {w W : World} {B : Nat} {L : List Row} (h : Rw w W B L) {j : Nat} {x0 x1 : Row} (e0 : L[j]? = some x0) (e1 : L[j + 1]? = some x1) : Rw w (put8 (put8 W B ((j + 1) * 8) x0) B (j * 8) x1) B ((L.set (j + 1) x0).set j x1) := by
 obtain ⟨h0, rfl⟩ := List.getElem?_eq_some_iff.1 e0
 obtain ⟨h1, rfl⟩ := List.getElem?_eq_some_iff.1 e1
 exact ⟨(h.k.put8 h1 _).put8 (by rw [List.length_set]; exact h0) _, (List.set_set_perm h1 h0).trans h.p, h.g, below_put8 (below_put8 h.b h.g _ _) h.g _ _⟩
theorem Rw.low {w W W' : World} {B : Nat} {L : List Row} (h : Rw w W B L) (hb : Below W.heap.size W W') : Rw w W' B L := ⟨h.k.low hb, h.p, h.g, bnext h.b hb⟩
structure Rh (w W : World) (B : Nat) (L : List Row) : Prop where
 k : Blk W B 171 (flatE Row.cells L).toArray
 g : w.heap.size ≤ B
 b : Below w.heap.size w W
theorem Rw.half {w W : World} {B : Nat} {L : List Row} (h : Rw w W B L) : Rh w W B L := ⟨h.k, h.g, h.b⟩
theorem Rh.low {w W W' : World} {B : Nat} {L : List Row} (h : Rh w W B L) (hb : Below W.heap.size W W') : Rh w W' B L := ⟨h.k.low hb, h.g, bnext h.b hb⟩
theorem Rh.put {w W : World} {B : Nat} {L : List Row} (h : Rh w W B L) {j : Nat} (hj : j < L.length) (x : Row) : Rh w (put8 W B (j * 8) x) B (L.set j x) := ⟨h.k.put8 hj x, h.g, below_put8 h.b h.g _ _⟩
theorem put8_but {S : List Nat} {w W : World} {B : Nat} (h : ButS S w W) (hB : B ∈ S) (k : Nat) (x : Row) : ButS S w (put8 W B k x) :=
 (((((((h.set hB k _).set hB (k + 1) _).set hB (k + 2) _).set hB (k + 3) _).set hB (k + 4) _).set hB (k + 5) _).set hB (k + 6) _).set hB (k + 7) _
set_option maxRecDepth 100000 in
set_option maxHeartbeats 8000000 in
theorem rows107 (w : World) : Calls Tryz.prog 91 #[] w fun e w' => ∃ B L, e = .returned (.slice (some ⟨B, 0, none⟩) 38 38) ∧ Rw w w' B L := by
 have HB := hid (Below.refl w.heap.size w)
 go_enter Tryz.func91, Tryz.ntmps91
 go_wp2_with (first | (go_at_call 99; (with_reducible refine Calls.mono (vowel_any _ _ _ _ _) ?_); rintro e w1 ⟨rfl, hb1⟩; replace HB := hid (bnext HB.out hb1); clear hb1) | (go_at_call 100; (with_reducible refine Calls.mono (conso_any _ _ _ _ _) ?_); rintro e w1 ⟨rfl, hb1⟩; replace HB := hid (bnext HB.out hb1); clear hb1) | (refine Great.wpList_buildSliceTo rfl 165 171 38 _ rfl _ rfl _ rfl Tryz.underlying165 (flatE Row.cells rows0).toArray (by kernel_rfl) ?_))
 have HK : Hid (Rw w (w1.alloc (.cells (flatE Row.cells rows0).toArray 171)) w1.heap.size rows0) := hid ⟨Blk.new _ _ _, .refl _, HB.out.size, HB.out.alloc HB.out.size _⟩
 clear HB
 generalize w1.alloc (.cells (flatE Row.cells rows0).toArray 171) = W0 at *
 generalize w1.heap.size = B at *
 go_loopw [2] (fun v wr => ∃ (i : Nat) (L : List Row), i ≤ 38 ∧ v = .int .i64 i ∧ Hid (Rw w wr B L)) (fun v _ => 38 - (RowKit.intOf v).toNat)
 case atStart => exact ⟨0, _, by omega, rfl, HK⟩
 case round =>
  obtain ⟨i, L, hi, rfl, hR⟩ := hrel
  clear HK
  have hw1 : IntKind.i64.wrap ((i : Int) + 1) = (i : Int) + 1 := Wi64 (by omega)
  by_cases hlt : i < 38
  ·have q1 := dT (show (i : Int) < 38 by omega)
   go_wp2_with fail
   go_loopw [3] (fun v wr2 => ∃ (k : Nat) (L : List Row), k ≤ i ∧ v = .int .i64 k ∧ Hid (Rw w wr2 B L)) (fun v _ => (RowKit.intOf v).toNat)
   case atStart => exact ⟨i, L, Nat.le_refl _, rfl, hR⟩
   case round =>
    obtain ⟨k, L2, hk, rfl, hR2⟩ := hrel
    clear hR
    cases k with
    | zero =>
     have q2 : decide ((0 : Int) < ((0 : Nat) : Int)) = false := by decide
     go_wp2_with fail
     refine region_plan [] (.quiet 0 (.quiet 1 (.quiet 2 (.quiet 3 (.quiet 4 (.quiet 5 (.quiet 6 (.quiet 7 (.quiet 8 (.quiet 9 (.quiet 10 (.quiet 11 (.quiet 12 (.quiet 13 (.quiet 14 (.quiet 15 .done)))))))))))))))) (by kernel_rfl) (by kernel_rfl) ?_
     repeat (apply p_quiet; (case hi => rfl); intro K hK; go_simp; (refine ⟨hK _ ?_⟩; clear hK K))
     apply p_done
     intro W6 hb6
     have hR6 := hid (hR2.out.low hb6)
     clear hb6 hR2
     go_wp2_with fail
     go_roundw
     case rel => exact ⟨i + 1, L2, by omega, by go_num, hR6⟩
     case measure => simp [RowKit.intOf]; omega
    | succ j =>
     have hlen := hR2.out.len
     obtain ⟨⟨r0, ⟨vo0, he0, ba0, ro0, pl0, ma0, vi0⟩⟩, e0⟩ : ∃ y, L2[j]? = some y := ⟨_, List.getElem?_eq_getElem (by omega)⟩
     obtain ⟨⟨r1, ⟨vo1, he1, ba1, ro1, pl1, ma1, vi1⟩⟩, e1⟩ : ∃ y, L2[j + 1]? = some y := ⟨_, List.getElem?_eq_getElem (by omega)⟩
     obtain ⟨a0, a1, a2, a3, a4, a5, a6, a7, _⟩ := row8 hR2.out.k e0
     obtain ⟨b0, b1, b2, b3, b4, b5, b6, b7, bf⟩ := row8 hR2.out.k e1
     have HE0 := hid e0
     have HE1 := hid e1
     have ec : ((j + 1 : Nat) : Int) = (j : Int) + 1 := by omega
     have q2 := dT (show (0 : Int) < (j : Int) + 1 by omega)
     have q3 := dT (show (j : Int) + 1 < 38 by omega)
     have q4 := dT (show (j : Int) < 38 by omega)
     have q5 : (j : Int) + 1 < 38 := by omega
     have q6 : (j : Int) < 38 := by omega
     have q9 : (j : Int) < 37 := by omega
     have q10 : j < 37 := by omega
     have q11 : j < 38 := by omega
     have q12 : j + 1 < 38 := by omega
     have q14 : (0 : Int) ≤ (j : Int) + 1 := by omega
     have q13 : decide ((j : Int) < 37) = true := decide_eq_true q9
     have hw2 : IntKind.i64.wrap (j : Int) = (j : Int) := Wi64 (by omega)
     have hw3 : IntKind.i64.wrap ((j : Int) + 1 - 1) = (j : Int) := by rw [show (j : Int) + 1 - 1 = j by omega]; exact hw2
     rw [ec]
     clear e0 e1 hlen ec
     by_cases hr : r1 < r0
     ·have q7 := dT (show (r1 : Int) < r0 by omega)
      have q8 : decide (r1 < r0) = true := decide_eq_true hr
      go_wp2_with fail
      refine region_plan [] (.quiet 0 (.quiet 1 (.quiet 2 (.quiet 3 (.quiet 4 (.quiet 5 (.quiet 6 (.quiet 7 (.quiet 8 (.quiet 9 (.quiet 10 (.quiet 11 (.quiet 12 (.quiet 13 (.quiet 14 (.quiet 15 .done)))))))))))))))) (by kernel_rfl) (by kernel_rfl) ?_
      repeat (apply p_quiet; (case hi => rfl); intro K hK; go_simp; (refine ⟨hK _ ?_⟩; clear hK K))
      apply p_done
      intro W6 hb6
      have hR6 := hid (hR2.out.low hb6)
      clear hb6 hR2 a0 a1 a2 a3 a4 a5 a6 a7 b0 b1 b2 b3 b4 b5 b6 b7 bf q7 q8
      obtain ⟨a0, a1, a2, a3, a4, a5, a6, a7, _⟩ := row8 hR6.out.k HE0.out
      obtain ⟨b0, b1, b2, b3, b4, b5, b6, b7, bf⟩ := row8 hR6.out.k HE1.out
      go_wp2_with fail
      have HBS := hid (ButS.refl [B] W6)
      have hRh := hid hR6.out.half
      have HS1 := hid (List.getElem?_eq_some_iff.1 HE1.out).1
      have HS2 : Hid (j < (L2.set (j + 1) ⟨r0, ⟨vo0, he0, ba0, ro0, pl0, ma0, vi0⟩⟩).length) := hid (by rw [List.length_set]; exact (List.getElem?_eq_some_iff.1 HE0.out).1)
      have HF0 : Hid ((L2.set (j + 1) ⟨r0, ⟨vo0, he0, ba0, ro0, pl0, ma0, vi0⟩⟩)[j]? = some ⟨r0, ⟨vo0, he0, ba0, ro0, pl0, ma0, vi0⟩⟩) := hid (by rw [List.getElem?_set_ne (by omega)]; exact HE0.out)
      have HF1 : Hid ((L2.set (j + 1) ⟨r0, ⟨vo0, he0, ba0, ro0, pl0, ma0, vi0⟩⟩)[j + 1]? = some ⟨r0, ⟨vo0, he0, ba0, ro0, pl0, ma0, vi0⟩⟩) := hid (by rw [List.getElem?_set_self HS1.out])
      have HS3 := hid (hR6.out.swap HE0.out HE1.out).p
      clear a0 a1 a2 a3 a4 a5 a6 a7 b0 b1 b2 b3 b4 b5 b6 b7 bf hR6
      refine region_plan [B] (.quiet 0 (.quiet 1 (.quiet 2 (.quiet 3 (.quiet 4 (.quiet 5 (.quiet 6 (.quiet 7 (.quiet 8 (.quiet 10 (.quiet 11 (.quiet 12 (.two 9 (.one 13 (.quiet 14 (.one 15 (.quiet 16 (.one 17 .done))))) 13 (.one 9 (.quiet 14 (.one 15 (.quiet 16 (.one 17 .done)))))))))))))))))) (by kernel_rfl) (by kernel_rfl) ?_
      repeat (apply p_quiet; (case hi => rfl); intro K hK; go_simp; (refine ⟨hK _ ?_⟩; clear hK K))
      refine p_two ?_ ?_
      ·skip
       apply p_one
       case hi => rfl
       intro W8 hb8 K hK
       replace hRh := hid (hRh.out.low hb8)
       replace HBS := hid (HBS.out.low hb8)
       clear hb8
       obtain ⟨a0, a1, a2, a3, a4, a5, a6, a7, _⟩ := row8 hRh.out.k HE0.out
       obtain ⟨b0, b1, b2, b3, b4, b5, b6, b7, bf⟩ := row8 hRh.out.k HE1.out
       go_wp2_with fail
       refine hK _ _ HBS.out ?_
       clear hK K a0 a1 a2 a3 a4 a5 a6 a7 b0 b1 b2 b3 b4 b5 b6 b7 bf
       apply p_one
       case hi => rfl
       intro W9 hb9 K hK
       replace hRh := hid (hRh.out.low hb9)
       replace HBS := hid (HBS.out.low hb9)
       clear hb9
       obtain ⟨a0, a1, a2, a3, a4, a5, a6, a7, _⟩ := row8 hRh.out.k HE0.out
       obtain ⟨b0, b1, b2, b3, b4, b5, b6, b7, bf⟩ := row8 hRh.out.k HE1.out
       go_wp2_with fail
       refine hK _ _ HBS.out ?_
       clear hK K a0 a1 a2 a3 a4 a5 a6 a7 b0 b1 b2 b3 b4 b5 b6 b7 bf
       repeat (apply p_quiet; (case hi => rfl); intro K hK; go_simp; (refine ⟨hK _ ?_⟩; clear hK K))
       apply p_one
       case hi => rfl
       intro W10 hb10 K hK
       replace hRh := hid (hRh.out.low hb10)
       replace HBS := hid (HBS.out.low hb10)
       clear hb10
       obtain ⟨a0, a1, a2, a3, a4, a5, a6, a7, _⟩ := row8 hRh.out.k HE0.out
       obtain ⟨b0, b1, b2, b3, b4, b5, b6, b7, bf⟩ := row8 hRh.out.k HE1.out
       go_wp2_with fail
       refine hK _ _ (put8_but HBS.out (by simp) ((j + 1) * 8) ⟨r0, ⟨vo0, he0, ba0, ro0, pl0, ma0, vi0⟩⟩) ?_
       generalize hW11 : ((((((((W10.setCell ⟨B, (j + 1) * 8, none⟩ (.int .i32 r0)).setCell ⟨B, (j + 1) * 8 + 1, none⟩ (.bool vo0)).setCell ⟨B, (j + 1) * 8 + 2, none⟩ (.int .i64 he0)).setCell ⟨B, (j + 1) * 8 + 3, none⟩ (.int .i64 ba0)).setCell ⟨B, (j + 1) * 8 + 4, none⟩ (.bool ro0)).setCell ⟨B, (j + 1) * 8 + 5, none⟩ (.int .i64 pl0)).setCell ⟨B, (j + 1) * 8 + 6, none⟩ (.int .i64 ma0)).setCell ⟨B, (j + 1) * 8 + 7, none⟩ (.bool vi0)) = W11
       replace hRh := hid (show Rh w W11 B _ by rw [← hW11]; exact hRh.out.put (j := j + 1) HS1.out ⟨r0, ⟨vo0, he0, ba0, ro0, pl0, ma0, vi0⟩⟩)
       replace HBS := hid (show ButS [B] W6 W11 by rw [← hW11]; exact put8_but HBS.out (by simp) ((j + 1) * 8) ⟨r0, ⟨vo0, he0, ba0, ro0, pl0, ma0, vi0⟩⟩)
       clear hK K hW11 a0 a1 a2 a3 a4 a5 a6 a7 b0 b1 b2 b3 b4 b5 b6 b7 bf
       repeat (apply p_quiet; (case hi => rfl); intro K hK; go_simp; (refine ⟨hK _ ?_⟩; clear hK K))
       apply p_one
       case hi => rfl
       intro W12 hb12 K hK
       replace hRh := hid (hRh.out.low hb12)
       replace HBS := hid (HBS.out.low hb12)
       clear hb12
       obtain ⟨a0, a1, a2, a3, a4, a5, a6, a7, _⟩ := row8 hRh.out.k HF0.out
       obtain ⟨b0, b1, b2, b3, b4, b5, b6, b7, bf⟩ := row8 hRh.out.k HF1.out
       go_wp2_with fail
       refine hK _ _ (put8_but HBS.out (by simp) (j * 8) ⟨r1, ⟨vo1, he1, ba1, ro1, pl1, ma1, vi1⟩⟩) ?_
       generalize hW13 : ((((((((W12.setCell ⟨B, j * 8, none⟩ (.int .i32 r1)).setCell ⟨B, j * 8 + 1, none⟩ (.bool vo1)).setCell ⟨B, j * 8 + 2, none⟩ (.int .i64 he1)).setCell ⟨B, j * 8 + 3, none⟩ (.int .i64 ba1)).setCell ⟨B, j * 8 + 4, none⟩ (.bool ro1)).setCell ⟨B, j * 8 + 5, none⟩ (.int .i64 pl1)).setCell ⟨B, j * 8 + 6, none⟩ (.int .i64 ma1)).setCell ⟨B, j * 8 + 7, none⟩ (.bool vi1)) = W13
       replace hRh := hid (show Rh w W13 B _ by rw [← hW13]; exact hRh.out.put (j := j) HS2.out ⟨r1, ⟨vo1, he1, ba1, ro1, pl1, ma1, vi1⟩⟩)
       replace HBS := hid (show ButS [B] W6 W13 by rw [← hW13]; exact put8_but HBS.out (by simp) (j * 8) ⟨r1, ⟨vo1, he1, ba1, ro1, pl1, ma1, vi1⟩⟩)
       clear hK K hW13 a0 a1 a2 a3 a4 a5 a6 a7 b0 b1 b2 b3 b4 b5 b6 b7 bf
       apply p_done
       intro W14 hb14
       replace hRh := hid (hRh.out.low hb14)
       clear hb14
       go_wp2_with fail
       go_roundw
       case rel => exact ⟨j, _, by omega, by go_num, hid ⟨hRh.out.k, HS3.out, hRh.out.g, hRh.out.b⟩⟩
       case measure => simp [RowKit.intOf]
      ·skip
       apply p_one
       case hi => rfl
       intro W8 hb8 K hK
       replace hRh := hid (hRh.out.low hb8)
       replace HBS := hid (HBS.out.low hb8)
       clear hb8
       obtain ⟨a0, a1, a2, a3, a4, a5, a6, a7, _⟩ := row8 hRh.out.k HE0.out
       obtain ⟨b0, b1, b2, b3, b4, b5, b6, b7, bf⟩ := row8 hRh.out.k HE1.out
       go_wp2_with fail
       refine hK _ _ HBS.out ?_
       clear hK K a0 a1 a2 a3 a4 a5 a6 a7 b0 b1 b2 b3 b4 b5 b6 b7 bf
       apply p_one
       case hi => rfl
       intro W9 hb9 K hK
       replace hRh := hid (hRh.out.low hb9)
       replace HBS := hid (HBS.out.low hb9)
       clear hb9
       obtain ⟨a0, a1, a2, a3, a4, a5, a6, a7, _⟩ := row8 hRh.out.k HE0.out
       obtain ⟨b0, b1, b2, b3, b4, b5, b6, b7, bf⟩ := row8 hRh.out.k HE1.out
       go_wp2_with fail
       refine hK _ _ HBS.out ?_
       clear hK K a0 a1 a2 a3 a4 a5 a6 a7 b0 b1 b2 b3 b4 b5 b6 b7 bf
       repeat (apply p_quiet; (case hi => rfl); intro K hK; go_simp; (refine ⟨hK _ ?_⟩; clear hK K))
       apply p_one
       case hi => rfl
       intro W10 hb10 K hK
       replace hRh := hid (hRh.out.low hb10)
       replace HBS := hid (HBS.out.low hb10)
       clear hb10
       obtain ⟨a0, a1, a2, a3, a4, a5, a6, a7, _⟩ := row8 hRh.out.k HE0.out
       obtain ⟨b0, b1, b2, b3, b4, b5, b6, b7, bf⟩ := row8 hRh.out.k HE1.out
       go_wp2_with fail
       refine hK _ _ (put8_but HBS.out (by simp) ((j + 1) * 8) ⟨r0, ⟨vo0, he0, ba0, ro0, pl0, ma0, vi0⟩⟩) ?_
       generalize hW11 : ((((((((W10.setCell ⟨B, (j + 1) * 8, none⟩ (.int .i32 r0)).setCell ⟨B, (j + 1) * 8 + 1, none⟩ (.bool vo0)).setCell ⟨B, (j + 1) * 8 + 2, none⟩ (.int .i64 he0)).setCell ⟨B, (j + 1) * 8 + 3, none⟩ (.int .i64 ba0)).setCell ⟨B, (j + 1) * 8 + 4, none⟩ (.bool ro0)).setCell ⟨B, (j + 1) * 8 + 5, none⟩ (.int .i64 pl0)).setCell ⟨B, (j + 1) * 8 + 6, none⟩ (.int .i64 ma0)).setCell ⟨B, (j + 1) * 8 + 7, none⟩ (.bool vi0)) = W11
       replace hRh := hid (show Rh w W11 B _ by rw [← hW11]; exact hRh.out.put (j := j + 1) HS1.out ⟨r0, ⟨vo0, he0, ba0, ro0, pl0, ma0, vi0⟩⟩)
       replace HBS := hid (show ButS [B] W6 W11 by rw [← hW11]; exact put8_but HBS.out (by simp) ((j + 1) * 8) ⟨r0, ⟨vo0, he0, ba0, ro0, pl0, ma0, vi0⟩⟩)
       clear hK K hW11 a0 a1 a2 a3 a4 a5 a6 a7 b0 b1 b2 b3 b4 b5 b6 b7 bf
       repeat (apply p_quiet; (case hi => rfl); intro K hK; go_simp; (refine ⟨hK _ ?_⟩; clear hK K))
       apply p_one
       case hi => rfl
       intro W12 hb12 K hK
       replace hRh := hid (hRh.out.low hb12)
       replace HBS := hid (HBS.out.low hb12)
       clear hb12
       obtain ⟨a0, a1, a2, a3, a4, a5, a6, a7, _⟩ := row8 hRh.out.k HF0.out
       obtain ⟨b0, b1, b2, b3, b4, b5, b6, b7, bf⟩ := row8 hRh.out.k HF1.out
       go_wp2_with fail
       refine hK _ _ (put8_but HBS.out (by simp) (j * 8) ⟨r1, ⟨vo1, he1, ba1, ro1, pl1, ma1, vi1⟩⟩) ?_
       generalize hW13 : ((((((((W12.setCell ⟨B, j * 8, none⟩ (.int .i32 r1)).setCell ⟨B, j * 8 + 1, none⟩ (.bool vo1)).setCell ⟨B, j * 8 + 2, none⟩ (.int .i64 he1)).setCell ⟨B, j * 8 + 3, none⟩ (.int .i64 ba1)).setCell ⟨B, j * 8 + 4, none⟩ (.bool ro1)).setCell ⟨B, j * 8 + 5, none⟩ (.int .i64 pl1)).setCell ⟨B, j * 8 + 6, none⟩ (.int .i64 ma1)).setCell ⟨B, j * 8 + 7, none⟩ (.bool vi1)) = W13
       replace hRh := hid (show Rh w W13 B _ by rw [← hW13]; exact hRh.out.put (j := j) HS2.out ⟨r1, ⟨vo1, he1, ba1, ro1, pl1, ma1, vi1⟩⟩)
       replace HBS := hid (show ButS [B] W6 W13 by rw [← hW13]; exact put8_but HBS.out (by simp) (j * 8) ⟨r1, ⟨vo1, he1, ba1, ro1, pl1, ma1, vi1⟩⟩)
       clear hK K hW13 a0 a1 a2 a3 a4 a5 a6 a7 b0 b1 b2 b3 b4 b5 b6 b7 bf
       apply p_done
       intro W14 hb14
       replace hRh := hid (hRh.out.low hb14)
       clear hb14
       go_wp2_with fail
       go_roundw
       case rel => exact ⟨j, _, by omega, by go_num, hid ⟨hRh.out.k, HS3.out, hRh.out.g, hRh.out.b⟩⟩
       case measure => simp [RowKit.intOf]
     ·have q7 := dF (show ¬ ((r1 : Int) < r0) by omega)
      have q8 : decide (r1 < r0) = false := decide_eq_false hr
      go_wp2_with fail
      refine region_plan [] (.quiet 0 (.quiet 1 (.quiet 2 (.quiet 3 (.quiet 4 (.quiet 5 (.quiet 6 (.quiet 7 (.quiet 8 (.quiet 9 (.quiet 10 (.quiet 11 (.quiet 12 (.quiet 13 (.quiet 14 (.quiet 15 .done)))))))))))))))) (by kernel_rfl) (by kernel_rfl) ?_
      repeat (apply p_quiet; (case hi => rfl); intro K hK; go_simp; (refine ⟨hK _ ?_⟩; clear hK K))
      apply p_done
      intro W6 hb6
      have hR6 := hid (hR2.out.low hb6)
      clear hb6 hR2 a0 a1 a2 a3 a4 a5 a6 a7 b0 b1 b2 b3 b4 b5 b6 b7 bf
      go_wp2_with fail
      go_roundw
      case rel => exact ⟨i + 1, L2, by omega, by go_num, hR6⟩
      case measure => simp [RowKit.intOf]; omega
  ·obtain rfl : i = 38 := by omega
   have q1 : decide (((38 : Nat) : Int) < 38) = false := by decide
   go_wp2_with fail
   go_ret
   exact ⟨B, L, rfl, hR.out⟩
end Go.Proofs.YtieifhfgedoiaaaGreatDoor
/- The document's phones: what a rune says, a phone's text, whether something is one. Conditions: those of each theorem. -/
namespace Go.Proofs.YtieifhfgedoiaaaGreatDoor
open Go.RowKit Go.Lib
set_option linter.unusedVariables false
set_option linter.unusedSimpArgs false
attribute [local go_sem] ExtS.cell ExtS.froz upE_value upE_skip upE_enter Ext.cell Ext.froz
theorem below_set7 {n : Nat} {w W : World} {B : Nat} (h : Below n w W) (hB : n ≤ B) (v0 v1 v2 v3 v4 v5 v6 : Value) : Below n w (((((((W.setCell ⟨B, 0, none⟩ v0).setCell ⟨B, 1, none⟩ v1).setCell ⟨B, 2, none⟩ v2).setCell ⟨B, 3, none⟩ v3).setCell ⟨B, 4, none⟩ v4).setCell ⟨B, 5, none⟩ v5).setCell ⟨B, 6, none⟩ v6) :=
 below_set (below_set (below_set (below_put4 h hB _ _ _ _) hB 4 _) hB 5 _) hB 6 _
theorem take_no {L : List Row} {k r : Nat} {x : Row} (h : ∀ x ∈ L.take k, x.r ≠ r) (hx : L[k]? = some x) (hr : x.r ≠ r) : ∀ x ∈ L.take (k + 1), x.r ≠ r := by
 rw [List.take_add_one, hx]
 intro y hy
 rcases List.mem_append.1 hy with hy | hy
 ·exact h y hy
 ·simp at hy; subst hy; exact hr
theorem tr_found {L : List Row} (hL : L.Perm rows0) {k : Nat} {r : Nat} {t : Tr} (hx : L[k]? = some ⟨r, t⟩) : trOf r = some t := (trOf_mem r t).2 (hL.mem_iff.1 (List.mem_of_getElem? hx))
theorem tr_lost {L : List Row} (hL : L.Perm rows0) {r : Nat} (h : ∀ x ∈ L, x.r ≠ r) : trOf r = none := by
 cases ht : trOf r with
 | none => rfl
 | some t => exact absurd rfl (h _ (hL.mem_iff.2 ((trOf_mem r t).1 ht)))
set_option maxRecDepth 100000 in
set_option maxHeartbeats 4000000 in
theorem of117 (r : Nat) (w : World) : Calls Tryz.prog 101 #[.int .i32 r] w fun e w' => e = .returned (.tuple #[((trOf r).getD Tr.none).val, .bool (trOf r).isSome]) ∧ Below w.heap.size w w' := by
 have h0 := hid rows107
 go_enter Tryz.func101, Tryz.ntmps101
 go_wp2_with (go_at_call 91; (with_reducible refine Calls.mono (h0.out _) ?_); rintro e w2 ⟨B, L, rfl, hR⟩)
 have K0 := hid ((Blk.new w 169 #[.bool false, .int .i64 0, .int .i64 0, .bool false, .int .i64 0, .int .i64 0, .bool false]).low hR.b)
 have HB := hid (((Below.refl w.heap.size w).alloc (Nat.le_refl _) (.cells #[.bool false, .int .i64 0, .int .i64 0, .bool false, .int .i64 0, .int .i64 0, .bool false] 169)).trans (hR.b.mono (by simp)))
 have hBR : B ≠ w.heap.size := by have := hR.g; simp at this; omega
 have HR := hid hR
 clear hR h0
 obtain ⟨R0, hR0⟩ : ∃ R0, w.heap.size = R0 := ⟨_, rfl⟩
 rw [hR0] at K0 hBR
 try simp only [hR0]
 have hR0b := hR0
 go_loopw [5] (fun v wr => ∃ k : Nat, k ≤ 38 ∧ v = .int .i64 k ∧ wr = w2 ∧ Hid (∀ x ∈ L.take k, x.r ≠ r)) (fun v _ => 38 - (RowKit.intOf v).toNat)
 case atStart => exact ⟨0, by omega, rfl, rfl, hid (by simp)⟩
 case round =>
  obtain ⟨k, hk, rfl, rfl, hT⟩ := hrel
  have hw1 : IntKind.i64.wrap ((k : Int) + 1) = (k : Int) + 1 := Wi64 (by omega)
  have hlen := HR.out.len
  obtain ⟨d0, d1, d2, d3, d4, d5, d6, df⟩ := K0.out.c7
  by_cases hlt : k < 38
  ·obtain ⟨⟨rk, ⟨vo, he, ba, ro, pl, ma, vi⟩⟩, hx⟩ : ∃ y, L[k]? = some y := ⟨_, List.getElem?_eq_getElem (by omega)⟩
   obtain ⟨a0, a1, a2, a3, a4, a5, a6, a7, af⟩ := row8 HR.out.k hx
   have hX := hid hx
   have q1 := dT (show (k : Int) < 38 by omega)
   have q2 : (k : Int) < 38 := by omega
   clear hx
   by_cases hr : rk = r
   ·subst hr
    have hE := hid (tr_found HR.out.p hX.out)
    go_wp2_with fail
    rw [hE.out]
    refine bodyPost_ret_by (v := .tuple #[.agg #[.bool vo, .int .i64 he, .int .i64 ba, .bool ro, .int .i64 pl, .int .i64 ma, .bool vi], .bool true]) (by simp [results, Tryz.results101, go_sem, d0, d1, d2, d3, d4, d5, d6, df]) rfl ⟨rfl, ?_⟩
    subst hR0
    exact below_set7 HB.out (Nat.le_refl _) _ _ _ _ _ _ _
   ·have q3 : ((rk : Int) == (r : Int)) = false := beq_false_of (by omega)
    go_wp2_with fail
    go_roundw
    case rel => exact ⟨k + 1, by omega, by go_num, trivial, hid (take_no hT.out hX.out hr)⟩
    case measure => simp [RowKit.intOf]; omega
  ·obtain rfl : k = 38 := by omega
   have hE : Hid (trOf r = none) := by rw [tr_lost HR.out.p (r := r) (by have := hT.out; rw [List.take_of_length_le (by omega)] at this; exact this)]; exact hid rfl
   have q1 : decide (((38 : Nat) : Int) < 38) = false := by decide
   go_wp2_with fail
   rw [hE.out]
   refine bodyPost_ret_by (v := .tuple #[.agg #[.bool false, .int .i64 0, .int .i64 0, .bool false, .int .i64 0, .int .i64 0, .bool false], .bool false]) (by simp [results, Tryz.results101, go_sem, d0, d1, d2, d3, d4, d5, d6, df]) rfl ⟨rfl, ?_⟩
   subst hR0
   exact below_set7 HB.out (Nat.le_refl _) _ _ _ _ _ _ _
theorem stB_at {s t : ByteArray} {p : Nat} (h : p + t.size ≤ s.size) : ((s.extract p (p + t.size)).toList == t.toList) = stB s p t.toList := by
 unfold stB
 rw [len_list, decide_eq_true h, Bool.true_and]
theorem stB_far {s t : ByteArray} {p : Nat} (h : ¬ p + t.size ≤ s.size) : false = stB s p t.toList := by
 unfold stB
 rw [len_list, decide_eq_false h, Bool.false_and]
theorem begins110 (s t : ByteArray) (p : Nat) (hp : p ≤ s.size) (hs : s.size ≤ 100000000) (ht : t.size ≤ 100) (w : World) : Calls Tryz.prog 94 #[.string s, .int .i64 p, .string t] w fun e w' => e = .returned (.bool (stB s p t.toList)) ∧ w = w' := by
 have hw1 : IntKind.i64.wrap ((s.size : Int) - p) = (s.size : Int) - p := Wi64 (by omega)
 have hw2 : IntKind.i64.wrap ((p : Int) + t.size) = (p : Int) + t.size := Wi64 (by omega)
 by_cases h : p + t.size ≤ s.size
 ·have q1 := dT (show (t.size : Int) ≤ (s.size : Int) - p by omega)
  have q2 : (p : Int) + t.size ≤ s.size := by omega
  have q3 : (0 : Int) ≤ (p : Int) + t.size := by omega
  have q4 : (p : Int) ≤ (p : Int) + t.size := by omega
  rw [← stB_at h]
  go_enter Tryz.func94, Tryz.ntmps94
  go_wp2_with fail
  go_ret
  exact ⟨rfl, rfl⟩
 ·have q1 := dF (show ¬ ((t.size : Int) ≤ (s.size : Int) - p) by omega)
  rw [← stB_far h]
  go_enter Tryz.func94, Tryz.ntmps94
  go_wp2_with fail
  go_ret
  exact ⟨rfl, rfl⟩
end Go.Proofs.YtieifhfgedoiaaaGreatDoor
/- The document's phones: a phone's text, whether something is one. Conditions: those of each theorem. -/
namespace Go.Proofs.YtieifhfgedoiaaaGreatDoor
open Go.RowKit Go.Lib
set_option linter.unusedVariables false
set_option linter.unusedSimpArgs false
attribute [local go_sem] ExtS.cell ExtS.froz upE_value upE_skip upE_enter Ext.cell Ext.froz
theorem toList_app (a b : ByteArray) : (a ++ b).toList = a.toList ++ b.toList := by rw [toList_data, toList_data, toList_data]; simp
theorem enc_le (r : Int) : (Utf8.encode r).size ≤ 4 := by
 unfold Utf8.encode
 dsimp only
 repeat' split
 all_goals (show _ ≤ 4; simp [ByteArray.size])
set_option maxHeartbeats 4000000 in
theorem text_00 (r : Nat) (E : ByteArray) (hE : Utf8.encode (r : Int) = E) (hz : E.size ≤ 4) (w : World) : Calls Tryz.prog 92 #[.agg #[.int .i32 r, .bool false, .int .i32 0]] w fun e w' => e = .returned (.string (E)) ∧ Below w.heap.size w w' := by
 go_enter Tryz.func92, Tryz.ntmps92
 go_wp2_with fail
 go_ret
 exact ⟨rfl, (Below.refl _ _).alloc (Nat.le_refl _) _⟩
set_option maxHeartbeats 4000000 in
theorem text_01 (r : Nat) (E : ByteArray) (hE : Utf8.encode (r : Int) = E) (hz : E.size ≤ 4) (g : Nat) (hg : g ≠ 0) (G : ByteArray) (hG : Utf8.encode (g : Int) = G) (hy : G.size ≤ 4) (w : World) : Calls Tryz.prog 92 #[.agg #[.int .i32 r, .bool false, .int .i32 g]] w fun e w' => e = .returned (.string (E ++ (G ++ ⟨#[204, 175]⟩))) ∧ Below w.heap.size w w' := by
 have p4 : ¬ (G.size + 2 > 9223372036854775807) := by omega
 have p5 : ¬ (E.size + (G.size + 2) > 9223372036854775807) := by omega
 have q1 : ((g : Int) != 0) = true := bne_true_of (by omega)
 go_enter Tryz.func92, Tryz.ntmps92
 go_wp2_with fail
 go_ret
 exact ⟨rfl, (Below.refl _ _).alloc (Nat.le_refl _) _⟩
set_option maxHeartbeats 4000000 in
theorem text_10 (r : Nat) (E : ByteArray) (hE : Utf8.encode (r : Int) = E) (hz : E.size ≤ 4) (w : World) : Calls Tryz.prog 92 #[.agg #[.int .i32 r, .bool true, .int .i32 0]] w fun e w' => e = .returned (.string (E ++ ⟨#[203, 144]⟩)) ∧ Below w.heap.size w w' := by
 have p2 : ¬ (E.size + 2 > 9223372036854775807) := by omega
 go_enter Tryz.func92, Tryz.ntmps92
 go_wp2_with fail
 go_ret
 exact ⟨rfl, (Below.refl _ _).alloc (Nat.le_refl _) _⟩
set_option maxHeartbeats 4000000 in
theorem text_11 (r : Nat) (E : ByteArray) (hE : Utf8.encode (r : Int) = E) (hz : E.size ≤ 4) (g : Nat) (hg : g ≠ 0) (G : ByteArray) (hG : Utf8.encode (g : Int) = G) (hy : G.size ≤ 4) (w : World) : Calls Tryz.prog 92 #[.agg #[.int .i32 r, .bool true, .int .i32 g]] w fun e w' => e = .returned (.string (E ++ ⟨#[203, 144]⟩ ++ (G ++ ⟨#[204, 175]⟩))) ∧ Below w.heap.size w w' := by
 have p2 : ¬ (E.size + 2 > 9223372036854775807) := by omega
 have p4 : ¬ (G.size + 2 > 9223372036854775807) := by omega
 have p5 : ¬ (E.size + 2 + (G.size + 2) > 9223372036854775807) := by omega
 have q1 : ((g : Int) != 0) = true := bne_true_of (by omega)
 go_enter Tryz.func92, Tryz.ntmps92
 go_wp2_with fail
 go_ret
 exact ⟨rfl, (Below.refl _ _).alloc (Nat.le_refl _) _⟩
theorem t203 : (⟨#[203, 144]⟩ : ByteArray).toList = [203, 144] := by rw [toList_data]
theorem t204 : (⟨#[204, 175]⟩ : ByteArray).toList = [204, 175] := by rw [toList_data]
theorem tl_00 (E : ByteArray) (h : E.size ≤ 4) : E.toList = E.toList ++ ((if false then ([203, 144] : List UInt8) else []) ++ []) ∧ E.size ≤ 20 := ⟨by simp, by omega⟩
theorem tl_10 (E : ByteArray) (h : E.size ≤ 4) : (E ++ ⟨#[203, 144]⟩ : ByteArray).toList = E.toList ++ ((if true then ([203, 144] : List UInt8) else []) ++ []) ∧ (E ++ ⟨#[203, 144]⟩ : ByteArray).size ≤ 20 :=
 ⟨by rw [toList_app, t203]; simp, by rw [ByteArray.size_append']; show E.size + 2 ≤ 20; omega⟩
theorem tl_01 (E G : ByteArray) (h : E.size ≤ 4) (h' : G.size ≤ 4) : (E ++ (G ++ ⟨#[204, 175]⟩) : ByteArray).toList = E.toList ++ ((if false then ([203, 144] : List UInt8) else []) ++ (G.toList ++ [204, 175])) ∧ (E ++ (G ++ ⟨#[204, 175]⟩) : ByteArray).size ≤ 20 :=
 ⟨by rw [toList_app, toList_app, t204]; simp, by rw [ByteArray.size_append', ByteArray.size_append']; show E.size + (G.size + 2) ≤ 20; omega⟩
theorem tl_11 (E G : ByteArray) (h : E.size ≤ 4) (h' : G.size ≤ 4) : (E ++ ⟨#[203, 144]⟩ ++ (G ++ ⟨#[204, 175]⟩) : ByteArray).toList = E.toList ++ ((if true then ([203, 144] : List UInt8) else []) ++ (G.toList ++ [204, 175])) ∧ (E ++ ⟨#[203, 144]⟩ ++ (G ++ ⟨#[204, 175]⟩) : ByteArray).size ≤ 20 :=
 ⟨by rw [toList_app, toList_app, toList_app, t203, t204]; simp, by rw [ByteArray.size_append', ByteArray.size_append', ByteArray.size_append']; show E.size + 2 + (G.size + 2) ≤ 20; omega⟩
theorem text108 (r g : Nat) (l : Bool) (w : World) : Calls Tryz.prog 92 #[.agg #[.int .i32 r, .bool l, .int .i32 g]] w fun e w' => (∃ t : ByteArray, e = .returned (.string t) ∧ t.toList = txtL ⟨r, l, g⟩ ∧ t.size ≤ 20) ∧ Below w.heap.size w w' := by
 have hrl := enc_le r
 have hgl := enc_le g
 unfold txtL
 dsimp only
 by_cases hg : g = 0
 ·subst hg
  rw [if_pos rfl]
  cases l
  ·refine (text_00 r _ rfl hrl w).mono ?_
   rintro e w' ⟨rfl, hb⟩
   exact ⟨⟨_, rfl, tl_00 _ hrl⟩, hb⟩
  ·refine (text_10 r _ rfl hrl w).mono ?_
   rintro e w' ⟨rfl, hb⟩
   exact ⟨⟨_, rfl, tl_10 _ hrl⟩, hb⟩
 ·rw [if_neg hg]
  cases l
  ·refine (text_01 r _ rfl hrl g hg _ rfl hgl w).mono ?_
   rintro e w' ⟨rfl, hb⟩
   exact ⟨⟨_, rfl, tl_01 _ _ hrl hgl⟩, hb⟩
  ·refine (text_11 r _ rfl hrl g hg _ rfl hgl w).mono ?_
   rintro e w' ⟨rfl, hb⟩
   exact ⟨⟨_, rfl, tl_11 _ _ hrl hgl⟩, hb⟩
set_option maxHeartbeats 4000000 in
theorem is109 (r g : Nat) (l : Bool) (hg : g = 0 ∨ g = 105 ∨ g = 117) (w : World) : Calls Tryz.prog 93 #[.agg #[.int .i32 r, .bool l, .int .i32 g]] w fun e w' => e = .returned (.bool (isPh ⟨r, l, g⟩)) ∧ Below w.heap.size w w' := by
 have hO := hid (of117 r)
 unfold isPh
 dsimp only
 cases ht : trOf r with
 | none =>
  rw [ht] at hO
  simp only [Option.getD, Tr.val, Tr.none, Option.isSome] at hO
  go_enter Tryz.func93, Tryz.ntmps93
  go_wp2_with (go_at_call 101; (with_reducible refine Calls.mono (hO.out _) ?_); rintro e w1 ⟨rfl, hb1⟩; have HB := hid (((Below.refl w.heap.size w).alloc (Nat.le_refl _) (.cells #[.int .i32 r, .bool l, .int .i32 g] 60)).trans (hb1.mono (by simp))); clear hb1)
  go_ret
  exact ⟨rfl, HB.out.alloc HB.out.size _⟩
 | some t =>
  obtain ⟨vo, he, ba, ro, pl, ma, vi⟩ := t
  rw [ht] at hO
  simp only [Option.getD, Tr.val, Option.isSome] at hO
  cases vo <;> rcases hg with rfl | rfl | rfl
  ·go_enter Tryz.func93, Tryz.ntmps93
   go_wp2_with (go_at_call 101; (with_reducible refine Calls.mono (hO.out _) ?_); rintro e w1 ⟨rfl, hb1⟩; have K := hid ((Blk.new w 60 #[.int .i32 r, .bool l, .int .i32 0]).low hb1); have HB := hid (((Below.refl w.heap.size w).alloc (Nat.le_refl _) (.cells #[.int .i32 r, .bool l, .int .i32 0] 60)).trans (hb1.mono (by simp))); have hlt := K.out.lt; have hne : w.heap.size ≠ w1.heap.size := (by omega); have hne' := Ne.symm hne; obtain ⟨k0, k1, k2, kf⟩ := K.out.c3; clear hb1)
   go_ret
   refine ⟨rfl, ?_⟩
   exact HB.out.alloc HB.out.size _
  ·go_enter Tryz.func93, Tryz.ntmps93
   go_wp2_with (go_at_call 101; (with_reducible refine Calls.mono (hO.out _) ?_); rintro e w1 ⟨rfl, hb1⟩; have K := hid ((Blk.new w 60 #[.int .i32 r, .bool l, .int .i32 105]).low hb1); have HB := hid (((Below.refl w.heap.size w).alloc (Nat.le_refl _) (.cells #[.int .i32 r, .bool l, .int .i32 105] 60)).trans (hb1.mono (by simp))); have hlt := K.out.lt; have hne : w.heap.size ≠ w1.heap.size := (by omega); have hne' := Ne.symm hne; obtain ⟨k0, k1, k2, kf⟩ := K.out.c3; clear hb1)
   go_ret
   refine ⟨rfl, ?_⟩
   exact HB.out.alloc HB.out.size _
  ·go_enter Tryz.func93, Tryz.ntmps93
   go_wp2_with (go_at_call 101; (with_reducible refine Calls.mono (hO.out _) ?_); rintro e w1 ⟨rfl, hb1⟩; have K := hid ((Blk.new w 60 #[.int .i32 r, .bool l, .int .i32 117]).low hb1); have HB := hid (((Below.refl w.heap.size w).alloc (Nat.le_refl _) (.cells #[.int .i32 r, .bool l, .int .i32 117] 60)).trans (hb1.mono (by simp))); have hlt := K.out.lt; have hne : w.heap.size ≠ w1.heap.size := (by omega); have hne' := Ne.symm hne; obtain ⟨k0, k1, k2, kf⟩ := K.out.c3; clear hb1)
   go_ret
   refine ⟨rfl, ?_⟩
   exact HB.out.alloc HB.out.size _
  ·go_enter Tryz.func93, Tryz.ntmps93
   go_wp2_with (go_at_call 101; (with_reducible refine Calls.mono (hO.out _) ?_); rintro e w1 ⟨rfl, hb1⟩; have K := hid ((Blk.new w 60 #[.int .i32 r, .bool l, .int .i32 0]).low hb1); have HB := hid (((Below.refl w.heap.size w).alloc (Nat.le_refl _) (.cells #[.int .i32 r, .bool l, .int .i32 0] 60)).trans (hb1.mono (by simp))); have hlt := K.out.lt; have hne : w.heap.size ≠ w1.heap.size := (by omega); have hne' := Ne.symm hne; obtain ⟨k0, k1, k2, kf⟩ := K.out.c3; clear hb1)
   go_ret
   refine ⟨rfl, ?_⟩
   exact HB.out.alloc HB.out.size _
  ·go_enter Tryz.func93, Tryz.ntmps93
   go_wp2_with (go_at_call 101; (with_reducible refine Calls.mono (hO.out _) ?_); rintro e w1 ⟨rfl, hb1⟩; have K := hid ((Blk.new w 60 #[.int .i32 r, .bool l, .int .i32 105]).low hb1); have HB := hid (((Below.refl w.heap.size w).alloc (Nat.le_refl _) (.cells #[.int .i32 r, .bool l, .int .i32 105] 60)).trans (hb1.mono (by simp))); have hlt := K.out.lt; have hne : w.heap.size ≠ w1.heap.size := (by omega); have hne' := Ne.symm hne; obtain ⟨k0, k1, k2, kf⟩ := K.out.c3; clear hb1)
   go_ret
   refine ⟨rfl, ?_⟩
   exact HB.out.alloc HB.out.size _
  ·go_enter Tryz.func93, Tryz.ntmps93
   go_wp2_with (go_at_call 101; (with_reducible refine Calls.mono (hO.out _) ?_); rintro e w1 ⟨rfl, hb1⟩; have K := hid ((Blk.new w 60 #[.int .i32 r, .bool l, .int .i32 117]).low hb1); have HB := hid (((Below.refl w.heap.size w).alloc (Nat.le_refl _) (.cells #[.int .i32 r, .bool l, .int .i32 117] 60)).trans (hb1.mono (by simp))); have hlt := K.out.lt; have hne : w.heap.size ≠ w1.heap.size := (by omega); have hne' := Ne.symm hne; obtain ⟨k0, k1, k2, kf⟩ := K.out.c3; clear hb1)
   go_ret
   refine ⟨rfl, ?_⟩
   exact HB.out.alloc HB.out.size _
end Go.Proofs.YtieifhfgedoiaaaGreatDoor
/- The document's phones: the longest phone at a place. Conditions: those of each theorem. -/
namespace Go.Proofs.YtieifhfgedoiaaaGreatDoor
open Go.RowKit Go.Lib
set_option linter.unusedVariables false
set_option linter.unusedSimpArgs false
attribute [local go_sem] ExtS.cell ExtS.froz upE_value upE_skip upE_enter Ext.cell Ext.froz
def nextP (s : ByteArray) (a : Nat) : Ph × Nat := match phAt s a with | some x => x | none => (⟨0, false, 0⟩, 0)
structure Nx (w W : World) (R4 B6 G9 B : Nat) (L : List Row) (x : Ph) : Prop where
 r : Blk W R4 60 #[.int .i32 0, .bool false, .int .i32 0]
 p : Blk W B6 60 #[.int .i32 x.r, .bool x.long, .int .i32 x.glide]
 g : Blk W G9 167 #[.int .i32 0, .int .i32 105, .int .i32 117]
 l : Blk W B 171 (flatE Row.cells L).toArray
 b : Below w.heap.size w W
 n : w.heap.size ≤ B6 ∧ w.heap.size ≤ R4 ∧ R4 ≠ B6
section
variable {w W W' : World} {R4 B6 G9 B : Nat} {L : List Row} {x : Ph}
theorem Nx.low (h : Nx w W R4 B6 G9 B L x) (hb : Below W.heap.size W W') : Nx w W' R4 B6 G9 B L x := ⟨h.r.low hb, h.p.low hb, h.g.low hb, h.l.low hb, bnext h.b hb, h.n⟩
theorem Nx.put (h : Nx w W R4 B6 G9 B L x) (y : Ph) : Nx w (((W.setCell ⟨B6, 0, none⟩ (.int .i32 y.r)).setCell ⟨B6, 1, none⟩ (.bool y.long)).setCell ⟨B6, 2, none⟩ (.int .i32 y.glide)) R4 B6 G9 B L y := by
 have n1 : R4 ≠ B6 := h.n.2.2
 have n2 : G9 ≠ B6 := blk_ne h.g h.p (by decide)
 have n3 : B ≠ B6 := blk_ne h.l h.p (by decide)
 exact ⟨((h.r.other n1 _).other n1 _).other n1 _, ((h.p.set 0 _).set 1 _).set 2 _, ((h.g.other n2 _).other n2 _).other n2 _, ((h.l.other n3 _).other n3 _).other n3 _, below_put3 h.b h.n.1 _ _ _, h.n⟩
end
theorem six_take (r k : Nat) (s : ByteArray) (a : Nat) (b0 : Ph × Nat) : ((List.range (k + 1)).map (candK r)).foldl (tryP s a) b0 = tryP s a (((List.range k).map (candK r)).foldl (tryP s a) b0) (candK r k) := by
 rw [List.range_succ, List.map_append, List.foldl_append]
 rfl
theorem take_more {L : List Row} {i : Nat} {x : Row} (hx : L[i]? = some x) (s : ByteArray) (a : Nat) (b0 : Ph × Nat) : ((L.take (i + 1)).flatMap fun x => six x.r).foldl (tryP s a) b0 = (six x.r).foldl (tryP s a) (((L.take i).flatMap fun x => six x.r).foldl (tryP s a) b0) := by
 rw [List.take_add_one, hx, List.flatMap_append, List.foldl_append]
 simp
theorem try_no1 {s : ByteArray} {a : Nat} {b : Ph × Nat} {p : Ph} (h : isPh p = false) : tryP s a b p = b := by unfold tryP; rw [h]; simp
theorem try_no2 {s : ByteArray} {a : Nat} {b : Ph × Nat} {p : Ph} (h : stB s a (txtL p) = false) : tryP s a b p = b := by unfold tryP; rw [h]; simp
theorem try_no3 {s : ByteArray} {a : Nat} {b : Ph × Nat} {p : Ph} (h : ¬ b.2 < (txtL p).length) : tryP s a b p = b := by unfold tryP; rw [decide_eq_false h]; simp
theorem try_yes {s : ByteArray} {a : Nat} {b : Ph × Nat} {p : Ph} (h1 : isPh p = true) (h2 : stB s a (txtL p) = true) (h3 : b.2 < (txtL p).length) : tryP s a b p = (p, (txtL p).length) := by unfold tryP; rw [h1, h2, decide_eq_true h3]; rfl
theorem glide_cases (k : Nat) : glideN k = 0 ∨ glideN k = 105 ∨ glideN k = 117 := by
 unfold glideN
 split
 ·exact .inl rfl
 ·split
  ·exact .inr (.inl rfl)
  ·exact .inr (.inr rfl)
theorem glide_at (k : Nat) : (#[Value.int .i32 0, .int .i32 105, .int .i32 117] : Array Value)[k % 3]? = some (.int .i32 (glideN k)) := by
 have h : k % 3 < 3 := Nat.mod_lt _ (by omega)
 unfold glideN
 generalize k % 3 = m at *
 match m, h with
 | 0, _ => rfl
 | 1, _ => rfl
 | 2, _ => rfl
set_option maxRecDepth 100000 in
set_option maxHeartbeats 8000000 in
theorem next96 (s : ByteArray) (a : Nat) (ha : a < s.size) (hs : s.size ≤ 100000000) (w : World) : Calls Tryz.prog 79 #[.string s, .int .i64 a] w fun e w' => e = .returned (.tuple #[(nextP s a).1.val, .int .i64 (nextP s a).2]) ∧ Below w.heap.size w w' := by
 have hRows := hid rows107
 go_enter Tryz.func79, Tryz.ntmps79
 go_wp2_with (go_at_call 91; (with_reducible refine Calls.mono (hRows.out _) ?_); rintro e w2 ⟨B, L, rfl, hR⟩)
 have hN0 : Hid (Nx w (w2.alloc (.cells #[.int .i32 0, .int .i32 105, .int .i32 117] 167)) w.heap.size (w.heap.size + 1) w2.heap.size B L ⟨0, false, 0⟩) := by
  have hb1 : Below w.heap.size w (w.alloc (.cells #[.int .i32 0, .bool false, .int .i32 0] 60)) := (Below.refl _ w).alloc (Nat.le_refl _) _
  have hb2 := hb1.alloc hb1.size (.cells #[.int .i32 0, .bool false, .int .i32 0] 60)
  have hR0 := (Blk.new w 60 #[.int .i32 0, .bool false, .int .i32 0]).alloc (.cells #[.int .i32 0, .bool false, .int .i32 0] 60)
  have hP0 := Blk.new (w.alloc (.cells #[.int .i32 0, .bool false, .int .i32 0] 60)) 60 #[.int .i32 0, .bool false, .int .i32 0]
  rw [World.size_alloc] at hP0
  have hb3 : Below w.heap.size w w2 := hb2.trans (hR.b.mono hb2.size)
  exact hid ⟨(hR0.low hR.b).alloc _, (hP0.low hR.b).alloc _, Blk.new _ _ _, hR.k.alloc _, hb3.alloc hb3.size _, by omega⟩
 have HP := hid hR.p
 have hlen := hR.len
 clear hR hRows
 generalize w2.alloc (.cells #[.int .i32 0, .int .i32 105, .int .i32 117] 167) = W0 at *
 generalize w2.heap.size = G9 at *
 generalize w.heap.size + 1 = B6 at *
 have hT := hid (fun r g l => text108 r g l)
 have hI := hid (fun r g l hg => is109 r g l hg)
 go_loopw [7, 10] (fun v7 v10 wr => ∃ (i : Nat) (b : Ph × Nat), i ≤ 38 ∧ v10 = .int .i64 i ∧ v7 = .int .i64 b.2 ∧ Hid (Nx w wr w.heap.size B6 G9 B L b.1) ∧ Hid (((L.take i).flatMap fun x => six x.r).foldl (tryP s a) (⟨0, false, 0⟩, 0) = b)) (fun _ v _ => 38 - (RowKit.intOf v).toNat)
 case atStart => exact ⟨0, (⟨0, false, 0⟩, 0), by omega, rfl, rfl, hN0, hid rfl⟩
 case round =>
  obtain ⟨i, b, hi, rfl, rfl, hN, hB⟩ := hrel
  clear hN0
  have hw1 : IntKind.i64.wrap ((i : Int) + 1) = (i : Int) + 1 := Wi64 (by omega)
  by_cases hlt : i < 38
  ·obtain ⟨x, hx⟩ : ∃ y, L[i]? = some y := ⟨_, List.getElem?_eq_getElem (by omega)⟩
   have hX := hid hx
   have q1 := dT (show (i : Int) < 38 by omega)
   have q2 : (i : Int) < 38 := by omega
   clear hx
   go_wp2_with fail
   go_loopw [7, 11] (fun v7 v11 wr2 => ∃ (k : Nat) (b2 : Ph × Nat), k ≤ 6 ∧ v11 = .int .i64 k ∧ v7 = .int .i64 b2.2 ∧ Hid (Nx w wr2 w.heap.size B6 G9 B L b2.1) ∧ Hid (((List.range k).map (candK x.r)).foldl (tryP s a) b = b2)) (fun _ v _ => 6 - (RowKit.intOf v).toNat)
   case atStart => exact ⟨0, b, by omega, rfl, rfl, hN, hid rfl⟩
   case round =>
    obtain ⟨k, ⟨⟨br, bl, bg⟩, bw⟩, hk, rfl, rfl, hN2, hB2⟩ := hrel
    clear hN
    have hw2 : IntKind.i64.wrap ((k : Int) + 1) = (k : Int) + 1 := Wi64 (by omega)
    by_cases hk6 : k < 6
    ·have q3 := dT (show (k : Int) < 6 by omega)
     have q4 : (k : Int) < 6 := by omega
     obtain ⟨r, ⟨vo, he, ba, ro, pl, ma, vi⟩⟩ := x
     obtain ⟨a0, _, _, _, _, _, _, _, af⟩ := row8 hN2.out.l hX.out
     have g1 := hN2.out.g.cell (glide_at k)
     have gf := hN2.out.g.froz
     have hs1 := hid (six_take r k s a b)
     rw [hB2.out] at hs1
     obtain ⟨ck, hck⟩ : ∃ ck, candK r k = ck := ⟨_, rfl⟩
     rw [hck] at hs1
     unfold candK at hck
     have hgc := glide_cases k
     generalize hgl : glideN k = gl at *
     generalize hlo : decide (3 ≤ k) = lo at *
     have q5 : decide ((3 : Int) ≤ (k : Int)) = lo := by rw [← hlo]; exact decide_eq_decide.2 (by omega)
     have q6 : Int.tmod (k : Int) 3 = ((k % 3 : Nat) : Int) := rfl
     have q7 : k % 3 < 3 := Nat.mod_lt _ (by omega)
     generalize k % 3 = km at *
     have q8 : (km : Int) < 3 := by omega
     have q9 : decide ((km : Int) < 3) = true := decide_eq_true q8
     have q10 : IntKind.i64.wrap (km : Int) = km := Wi64 (by omega)
     clear hgl hlo
     subst hck
     go_wp2_with fail
     refine region_plan [] (.quiet 0 (.quiet 1 (.quiet 2 (.quiet 3 (.quiet 4 (.quiet 5 (.quiet 6 (.quiet 7 (.quiet 8 (.quiet 9 (.quiet 10 (.quiet 11 (.one 12 (.one 13 .done)))))))))))))) (by kernel_rfl) (by kernel_rfl) ?_
     repeat (apply p_quiet; (case hi => rfl); intro K hK; go_simp; (refine ⟨hK _ ?_⟩; clear hK K))
     apply p_one
     case hi => rfl
     intro W3 hb3 K hK
     go_wp2_with fail
     refine hK _ _ (.of (hb3.alloc hb3.size _)) ?_
     clear hK K
     have hBw := hid (hb3.alloc hb3.size (.cells #[.int .i32 0, .bool false, .int .i32 0] 60))
     have KT := hid (Blk.new W3 60 #[.int .i32 0, .bool false, .int .i32 0])
     have hTg : wr.heap.size ≤ W3.heap.size := hb3.size
     clear hb3 a0 af g1 gf
     generalize W3.alloc (.cells #[.int .i32 0, .bool false, .int .i32 0] 60) = W4 at *
     generalize W3.heap.size = T at *
     apply p_one
     case hi => rfl
     intro W5 hb5 K hK
     replace KT := hid (KT.out.low hb5)
     replace hBw := hid (bnext hBw.out hb5)
     clear hb5
     obtain ⟨t0, t1, t2, tf⟩ := KT.out.c3
     go_wp2_with fail
     refine hK _ _ (.of (below_put3 hBw.out hTg _ _ _)) ?_
     replace KT := hid (((KT.out.set 0 (.int .i32 r)).set 1 (.bool lo)).set 2 (.int .i32 gl))
     replace hBw := hid (below_put3 hBw.out hTg (.int .i32 r) (.bool lo) (.int .i32 gl))
     clear hK K t0 t1 t2 tf
     generalize ((W5.setCell ⟨T, 0, none⟩ (.int .i32 r)).setCell ⟨T, 1, none⟩ (.bool lo)).setCell ⟨T, 2, none⟩ (.int .i32 gl) = W6 at *
     apply p_done
     intro W7 hb7
     replace KT : Hid (Blk W7 T 60 #[.int .i32 r, .bool lo, .int .i32 gl]) := hid (KT.out.low hb7)
     replace hBw := hid (bnext hBw.out hb7)
     have hN7 := hid (hN2.out.low hBw.out)
     clear hb7 hBw hN2 hTg
     obtain ⟨t0, t1, t2, tf⟩ := KT.out.c3
     go_wp2_with fail
     go_at_call 92
     with_reducible refine Calls.mono (hT.out r gl lo _) ?_
     rintro e w8 ⟨⟨t, rfl, ht, htz⟩, hb8⟩
     replace KT := hid (KT.out.low hb8)
     have hN8 := hid (hN7.out.low hb8)
     clear hb8 hN7 t0 t1 t2 tf
     obtain ⟨t0, t1, t2, tf⟩ := KT.out.c3
     have hbg := hid (fun w => begins110 s t a (by omega) hs (by omega) w)
     rw [ht] at hbg
     have hlt := len_list t
     rw [ht] at hlt
     have hiI := hid (fun w => hI.out r gl lo hgc w)
     cases hi : isPh ⟨r, lo, gl⟩ with
     | false =>
      rw [hi] at hiI
      go_wp2_with fail
      go_at_call 93
      with_reducible refine Calls.mono (hiI.out _) ?_
      rintro e w9 ⟨rfl, hb9⟩
      have hN9 := hid (hN8.out.low hb9)
      clear hb9 hN8 t0 t1 t2 tf KT
      have hE := hid (try_no1 (s := s) (a := a) (b := (⟨br, bl, bg⟩, bw)) hi)
      go_wp2_with fail
      go_roundw
      case rel => exact ⟨k + 1, (⟨br, bl, bg⟩, bw), by omega, by go_num, rfl, hN9, by rw [hs1.out, hE.out]; exact hid rfl⟩
      case measure => simp [RowKit.intOf]; omega
     | true =>
      rw [hi] at hiI
      cases hb : stB s a (txtL ⟨r, lo, gl⟩) with
      | false =>
       rw [hb] at hbg
       go_wp2_with fail
       go_at_call 93
       with_reducible refine Calls.mono (hiI.out _) ?_
       rintro e w9 ⟨rfl, hb9⟩
       have hN9 := hid (hN8.out.low hb9)
       clear hb9 hN8 t0 t1 t2 tf KT
       go_wp2_with fail
       go_at_call 94
       with_reducible refine Calls.mono (hbg.out _) ?_
       rintro e w10 ⟨rfl, rfl⟩
       skip
       have hE := hid (try_no2 (b := (⟨br, bl, bg⟩, bw)) hb)
       go_wp2_with fail
       go_roundw
       case rel => exact ⟨k + 1, (⟨br, bl, bg⟩, bw), by omega, by go_num, rfl, hN9, by rw [hs1.out, hE.out]; exact hid rfl⟩
       case measure => simp [RowKit.intOf]; omega
      | true =>
       rw [hb] at hbg
       by_cases hw : bw < (txtL ⟨r, lo, gl⟩).length
       ·have q11 := dT (show (bw : Int) < t.size by omega)
        have q12 := dT (show bw < t.size by omega)
        go_wp2_with fail
        go_at_call 93
        with_reducible refine Calls.mono (hiI.out _) ?_
        rintro e w9 ⟨rfl, hb9⟩
        have hN9 := hid (hN8.out.low hb9)
        replace KT := hid (KT.out.low hb9)
        clear hb9 hN8 t0 t1 t2 tf
        obtain ⟨t0, t1, t2, tf⟩ := KT.out.c3
        obtain ⟨p0, p1, p2, pf⟩ := hN9.out.p.c3
        go_wp2_with fail
        go_at_call 94
        with_reducible refine Calls.mono (hbg.out _) ?_
        rintro e w10 ⟨rfl, rfl⟩
        skip
        have hE := hid (try_yes (s := s) (a := a) (b := (⟨br, bl, bg⟩, bw)) hi hb hw)
        have hN10 := hid (hN9.out.put ⟨r, lo, gl⟩)
        go_wp2_with fail
        go_roundw
        case rel => exact ⟨k + 1, (⟨r, lo, gl⟩, t.size), by omega, by go_num, rfl, hN10, by rw [hs1.out, hE.out, hlt]; exact hid rfl⟩
        case measure => simp [RowKit.intOf]; omega
       ·have q11 := dF (show ¬ ((bw : Int) < t.size) by omega)
        have q12 := dF (show ¬ (bw < t.size) by omega)
        go_wp2_with fail
        go_at_call 93
        with_reducible refine Calls.mono (hiI.out _) ?_
        rintro e w9 ⟨rfl, hb9⟩
        have hN9 := hid (hN8.out.low hb9)
        clear hb9 hN8 t0 t1 t2 tf KT
        go_wp2_with fail
        go_at_call 94
        with_reducible refine Calls.mono (hbg.out _) ?_
        rintro e w10 ⟨rfl, rfl⟩
        skip
        have hE := hid (try_no3 (s := s) (a := a) (b := (⟨br, bl, bg⟩, bw)) hw)
        go_wp2_with fail
        go_roundw
        case rel => exact ⟨k + 1, (⟨br, bl, bg⟩, bw), by omega, by go_num, rfl, hN9, by rw [hs1.out, hE.out]; exact hid rfl⟩
        case measure => simp [RowKit.intOf]; omega
    ·obtain rfl : k = 6 := by omega
     have q3 : decide (((6 : Nat) : Int) < 6) = false := by decide
     have hE : Hid (((L.take (i + 1)).flatMap fun x => six x.r).foldl (tryP s a) (⟨0, false, 0⟩, 0) = (⟨br, bl, bg⟩, bw)) := hid (by rw [take_more hX.out, hB.out]; exact hB2.out)
     go_wp2_with fail
     go_roundw
     case rel => exact ⟨i + 1, (⟨br, bl, bg⟩, bw), by omega, by go_num, rfl, hN2, hE⟩
     case measure => simp [RowKit.intOf]; omega
  ·obtain rfl : i = 38 := by omega
   have q1 : decide (((38 : Nat) : Int) < 38) = false := by decide
   have hE : Hid (nextP s a = b) := hid (by
    have h1 := hB.out
    rw [List.take_of_length_le (by omega)] at h1
    have h2 : nextP s a = tryL s a L := by rw [next_plain HP.out ha]; unfold nextP; cases phAt s a <;> rfl
    rw [h2]
    exact h1)
   obtain ⟨⟨br, bl, bg⟩, bw⟩ := b
   obtain ⟨p0, p1, p2, pf⟩ := hN.out.p.c3
   obtain ⟨r0, r1, r2, rf⟩ := hN.out.r.c3
   have hb9 := hid (below_put3 hN.out.b (Nat.le_refl _) (.int .i32 br) (.bool bl) (.int .i32 bg))
   go_wp2_with fail
   rw [hE.out]
   exact bodyPost_ret_by (v := .tuple #[.agg #[.int .i32 br, .bool bl, .int .i32 bg], .int .i64 bw]) (by simp [results, Tryz.results79, go_sem, r0, r1, r2, rf]) rfl ⟨rfl, hb9.out⟩
end Go.Proofs.YtieifhfgedoiaaaGreatDoor
