/- The phones' table: a map from runes to traits. Conditions: those of each theorem. -/
import Derived.Test.YtieifhfgedoiaaaGreatDoorNPhB
import Derived.Test.YtieifhfgedoiaaaGreatDoorNMr
namespace Go.Proofs.YtieifhfgedoiaaaGreatDoor
open Go.RowKit Go.Lib
open Go.ChangeMaps
set_option linter.unusedVariables false
set_option linter.unusedSimpArgs false
attribute [local go_sem] ExtS.cell ExtS.froz upE_value upE_skip upE_enter
def KR (v : Value) : Prop := ∃ r : Nat, r ≤ 1114111 ∧ v = .int .i32 r
theorem keysR : KeySet Tryz.prog 21 KR := (keySet_of (Maps.int_keyed Tryz.underlying21)).sub (by
 rintro v ⟨c, hc, rfl⟩
 have hw : (Lit.int .i32 c).wf = true := by simp [Lit.wf, IntKind.min, IntKind.max, IntKind.signed, IntKind.bits]; omega
 exact ⟨_, Maps.keyOf_int_mk Tryz.underlying21 hw⟩)
def TabF (l : List Row) (f : Value → Option Value) : Prop := ∀ r : Nat, f (.int .i32 r) = (trIn l.reverse r).map Tr.val
structure Tab (w : World) (m : Nat) (l : List Row) : Prop where
 e : ∃ f, MapF KR w m l.length f ∧ TabF l f
theorem Tab.low {w w' : World} {m : Nat} {l : List Row} (h : Tab w m l) (hb : Below w.heap.size w w') : Tab w' m l := by
 obtain ⟨f, h1, h2⟩ := h.e
 exact ⟨f, h1.low hb, h2⟩
theorem Tab.made (w : World) : Tab (w.alloc (.map #[] 0)) w.heap.size [] := ⟨_, MapF.made KR w, fun r => rfl⟩
theorem Tab.put {w : World} {m : Nat} {l : List Row} (h : Tab w m l) (x : Row) (hx : x.r ≤ 1114111) :
  ∃ o1 : Obj, (Instr.mapUpdate 160 (.map (some m)) (.int .i32 x.r) x.t.val).run Tryz.prog w = .ok () (setBlock w m o1) ∧ ∀ w3 : World, w3.heap[m]? = some o1 → Tab w3 m (l ++ [x]) := by
 obtain ⟨f, h1, h2⟩ := h.e
 obtain ⟨o1, e1, e2⟩ := h1.put keysR Tryz.underlying160 ⟨x.r, hx, rfl⟩ x.t.val
 refine ⟨o1, e1, fun w3 hw3 => ⟨_, by rw [List.length_append]; exact e2 w3 hw3, fun r => ?_⟩⟩
 unfold trIn
 rw [List.reverse_append, List.reverse_singleton, List.singleton_append, List.find?_cons]
 by_cases hr : x.r = r
 ·subst hr
  rw [updF_same]
  simp
 ·rw [updF_ne _ _ (fun e => by injection e with _ e; omega), h2 r]
  have : (x.r == r) = false := by simpa using hr
  rw [this]; rfl
theorem trIn_mem : ∀ (l : List Row), (l.map (·.r)).Nodup → ∀ r t, trIn l r = some t ↔ (⟨r, t⟩ : Row) ∈ l
 | [], _, r, t => by simp [trIn]
 | x :: l, h, r, t => by
  rw [List.map_cons, List.nodup_cons] at h
  have ih := trIn_mem l h.2 r t
  unfold trIn at ih ⊢
  rw [List.find?_cons]
  by_cases hr : x.r = r
  ·have h1 : (x.r == r) = true := by simpa using hr
   rw [h1]
   constructor
   ·intro e
    have : x.t = t := by simpa using e
    subst hr this
    exact List.mem_cons_self ..
   ·intro hm
    rcases List.mem_cons.1 hm with e | hm
    ·subst e; rfl
    ·exact absurd (List.mem_map.2 ⟨_, hm, hr.symm⟩) h.1
  ·have h1 : (x.r == r) = false := by simpa using hr
   rw [h1]
   dsimp only
   rw [ih]
   constructor
   ·exact List.mem_cons_of_mem _
   ·intro hm
    rcases List.mem_cons.1 hm with e | hm
    ·subst e; exact absurd rfl hr
    ·exact hm
theorem trIn_eq {l l' : List Row} (h : (l.map (·.r)).Nodup) (h' : (l'.map (·.r)).Nodup) (hm : ∀ x, x ∈ l ↔ x ∈ l') (r : Nat) : trIn l r = trIn l' r := by
 apply Option.ext
 intro t
 rw [trIn_mem l h, trIn_mem l' h', hm]
theorem rowsS_le : ∀ x ∈ rowsS, x.r ≤ 1114111 := by decide +kernel
theorem tab_look {w : World} {m : Nat} (h : Tab w m rowsS) (r : Nat) (hr : r ≤ 1114111) :
  (Instr.lookup 160 (.map (some m)) (.int .i32 r) true).run Tryz.prog w = .ok (.tuple #[((trOf r).getD Tr.none).val, .bool (trOf r).isSome]) w := by
 obtain ⟨f, h1, h2⟩ := h.e
 have hz : (zeroValue 169).run Tryz.prog w = .ok Tr.none.val w := by kernel_rfl
 have := h1.look keysR Tryz.underlying160 hz (key := .int .i32 r) ⟨r, hr, rfl⟩ true
 have hs : trIn rowsS.reverse r = trOf r := trIn_eq (by decide +kernel) (by decide +kernel) (fun x => ⟨fun hx => rowsS_perm.2.2 x (by simpa using hx), fun hx => by simpa using rowsS_perm.2.1 x hx⟩) r
 rw [h2 r, hs] at this
 rw [this]
 cases trOf r <;> rfl
set_option maxHeartbeats 2000000 in
theorem table_any (w : World) : Calls Tryz.prog 85 #[] w fun e w' => ∃ m, e = .returned (.map (some m)) ∧ Tab w' m rowsS ∧ w.heap.size ≤ m ∧ Below w.heap.size w w' := by
 have h1 := hid rows_any
 have hmm := @run_makeMap Tryz.prog
 go_enter Tryz.func85, Tryz.ntmps85
 go_wp2_with (go_at_call 97; (with_reducible refine Calls.mono (h1.out _) ?_); rintro e w1 ⟨vv, rfl, hO1, hB1⟩; obtain ⟨g, cap, hv⟩ := own_block (m := 37) hO1; have hv' : vv = .slice (some ⟨g, 0, none⟩) 38 cap := hv; clear hv; subst hv'; have HO := hid hO1; have HT := hid ((Tab.made w).low hB1); have HB := hid (((Below.refl _ w).alloc (Nat.le_refl _) (.map #[] 0)).trans (hB1.mono (by simp))); have hg := hid (own_ge hO1 (g := g) rfl); clear hO1 hB1 h1)
 go_loopw [7] (fun i wr => ∃ k : Nat, k ≤ 38 ∧ i = .int .i64 k ∧ Hid (Tab wr w.heap.size (rowsS.take k)) ∧ Hid (wr.ownsRow (w.heap.size + 1) 185 8 (.slice (some ⟨g, 0, none⟩) 38 cap) 38 (flatE Row.cells rowsS)) ∧ Hid (Below w.heap.size w wr)) (fun i _ => 38 - (intOf i).toNat)
 case atStart => exact ⟨0, by omega, rfl, HT, by have := HO.out; rw [World.size_alloc] at this; exact this, HB⟩
 case round =>
  obtain ⟨k, hk, rfl, hT, hO, hB⟩ := hrel
  clear HO HT HB
  by_cases hlt : k < 38
  ·obtain ⟨xx, hx⟩ : ∃ xx, rowsS[k]? = some xx := ⟨_, List.getElem?_eq_getElem (show k < rowsS.length by rw [rowsS_perm.1]; exact hlt)⟩
   have hXX := hid hx
   have hxr : xx.r ≤ 1114111 := rowsS_le xx (List.mem_of_getElem? hx)
   have hts : Hid (rowsS.take (k + 1) = rowsS.take k ++ [xx]) := by
    rw [List.take_add_one, hx]; exact hid rfl
   have q1 := dT (show (k : Int) < 38 by omega)
   clear hx
   have vx0 := own_cell (j := k * 8) hO.out (flatE_get Row.cells 8 (fun _ => rfl) rowsS k xx hXX.out 0 _ rfl)
   have vx1 := own_cell (j := k * 8 + 1) hO.out (flatE_get Row.cells 8 (fun _ => rfl) rowsS k xx hXX.out 1 _ rfl)
   have vx2 := own_cell (j := k * 8 + 2) hO.out (flatE_get Row.cells 8 (fun _ => rfl) rowsS k xx hXX.out 2 _ rfl)
   have vx3 := own_cell (j := k * 8 + 3) hO.out (flatE_get Row.cells 8 (fun _ => rfl) rowsS k xx hXX.out 3 _ rfl)
   have vx4 := own_cell (j := k * 8 + 4) hO.out (flatE_get Row.cells 8 (fun _ => rfl) rowsS k xx hXX.out 4 _ rfl)
   have vx5 := own_cell (j := k * 8 + 5) hO.out (flatE_get Row.cells 8 (fun _ => rfl) rowsS k xx hXX.out 5 _ rfl)
   have vx6 := own_cell (j := k * 8 + 6) hO.out (flatE_get Row.cells 8 (fun _ => rfl) rowsS k xx hXX.out 6 _ rfl)
   have vx7 := own_cell (j := k * 8 + 7) hO.out (flatE_get Row.cells 8 (fun _ => rfl) rowsS k xx hXX.out 7 _ rfl)
   have hT2 := hid (hT.out.low ((Below.refl _ wr).alloc (Nat.le_refl _) (.cells #[.int .i32 xx.r, .bool xx.t.vowel, .int .i64 xx.t.height, .int .i64 xx.t.back, .bool xx.t.round, .int .i64 xx.t.place, .int .i64 xx.t.manner, .bool xx.t.voiced] 185)))
   obtain ⟨o1, hE, hN⟩ := hT2.out.put xx hxr
   simp only [Tr.val] at hE
   have HN := hid hN
   clear hN
   have hw1 : IntKind.i64.wrap ((k : Int) + 1) = (k : Int) + 1 := Wi64 (by omega)
   go_wp2_with fail
   go_roundw
   case rel => exact ⟨k + 1, by omega, by go_num, by rw [hts.out]; exact HN.out _ (setBlk_at hT2.out.e.choose_spec.1.lt o1), own_but (hO.out.alloc _) (setBlk_but _ _ _) (fun b hb => by rw [List.mem_singleton] at hb; omega), ((ButS.of (S := []) (hB.out.alloc hB.out.size _)).later (setBlk_but _ _ _) (fun b hb => by rw [List.mem_singleton] at hb; exact .inl (by omega))).below' (by simp)⟩
   case measure => simp [intOf]; omega
  ·obtain rfl : k = 38 := by omega
   have q1 : decide (((38 : Nat) : Int) < 38) = false := by decide
   go_wp2_with fail
   go_ret
   exact ⟨_, rfl, by have := hT.out; rw [List.take_of_length_le (by rw [rowsS_perm.1]; omega)] at this; exact this, Nat.le_refl _, hB.out⟩
end Go.Proofs.YtieifhfgedoiaaaGreatDoor
