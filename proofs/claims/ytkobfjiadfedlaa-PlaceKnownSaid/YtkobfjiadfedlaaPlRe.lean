/- The document's answers Rune, Byte, Unit, Line, walked. Conditions: the text has at most 65536 bytes. -/
import Derived.Test.YtkobfjiadfedlaaPlRd
namespace Go.Proofs.Ytkobfjiadfedlaa
open Go.RowKit
set_option linter.unusedVariables false
set_option linter.unusedSimpArgs false
attribute [local go_sem] Ext.cell Ext.froz
theorem flatP_get2 : ∀ (l : List Pl) (k : Nat) (p : Pl) (i : Nat), l[k]? = some p → i < 5 → (flatP l)[k * 5 + i]? = p.cells[i]?
  | [], k, p, i, h, _ => by simp at h
  | q :: l, 0, p, i, h, hi => by
    simp at h; subst h
    simp only [flatP, List.flatMap_cons, Nat.zero_mul, Nat.zero_add]
    rw [List.getElem?_append_left (by simp [Pl.cells]; omega)]
  | q :: l, k + 1, p, i, h, hi => by
    simp at h
    have := flatP_get2 l k p i h hi
    simp only [flatP, List.flatMap_cons] at *
    rw [List.getElem?_append_right (by simp [Pl.cells]; omega), ← this]
    congr 1
    simp [Pl.cells]; omega
theorem places_at (s : ByteArray) (w : World) (hs : s.size ≤ 65536) :
    Calls Try.prog 24 #[.string s] w fun e w' => ∃ g cap, e = .returned (.slice (some ⟨g, 0, none⟩) (plOf s).length cap) ∧ w.heap.size ≤ g ∧ (∀ k p, (plOf s)[k]? = some p → PlAt w' g k p) ∧ Below w.heap.size w w' := by
  refine Calls.mono (places_own s w hs) ?_
  rintro e w' ⟨v, rfl, ho, hb⟩
  obtain ⟨g, cap, rfl, hg, hc⟩ := own_at3 ho (by rw [plOf_len]; omega)
  refine ⟨g, cap, rfl, (ho.lt g rfl).1, fun k p hp => ?_, hb⟩
  have f := fun i hi => flatP_get2 _ k p i hp hi
  exact ⟨hc _ _ (f 0 (by omega)), hc _ _ (f 1 (by omega)), hc _ _ (f 2 (by omega)), hc _ _ (f 3 (by omega)), hc _ _ (f 4 (by omega))⟩
theorem PlAt.low {w w' : World} {g k N : Nat} {p : Pl} (h : PlAt w g k p) (hb : Below N w w') (hg : g < N) : PlAt w' g k p := by
  obtain ⟨a, b, c, d, e⟩ := h
  exact ⟨(hb.cell (p := ⟨g, k * 5, none⟩) hg).trans a, (hb.cell (p := ⟨g, k * 5 + 1, none⟩) hg).trans b, (hb.cell (p := ⟨g, k * 5 + 2, none⟩) hg).trans c, (hb.cell (p := ⟨g, k * 5 + 3, none⟩) hg).trans d, (hb.cell (p := ⟨g, k * 5 + 4, none⟩) hg).trans e⟩
abbrev zeroP : Value := .agg #[.int .i64 0, .int .i64 0, .int .i64 0, .int .i64 0, .int .i64 0]
theorem set5r {W : World} {B : Nat} {t : TypeId} {a0 a1 a2 a3 a4 : Value} (h : Blk W B t #[a0, a1, a2, a3, a4]) (b0 b1 b2 b3 b4 : Value) :
    Blk (((((W.setCell ⟨B, 0, none⟩ b0).setCell ⟨B, 1, none⟩ b1).setCell ⟨B, 2, none⟩ b2).setCell ⟨B, 3, none⟩ b3).setCell ⟨B, 4, none⟩ b4) B t #[b0, b1, b2, b3, b4] := ((((h.set 0 b0).set 1 b1).set 2 b2).set 3 b3).set 4 b4
theorem low5r {n : Nat} {V W : World} {B : Nat} (h : Below n V W) (hn : n ≤ B) (b0 b1 b2 b3 b4 : Value) :
    Below n V (((((W.setCell ⟨B, 0, none⟩ b0).setCell ⟨B, 1, none⟩ b1).setCell ⟨B, 2, none⟩ b2).setCell ⟨B, 3, none⟩ b3).setCell ⟨B, 4, none⟩ b4) :=
  ((((h.setCell (p := ⟨B, 0, none⟩) hn b0).setCell (p := ⟨B, 1, none⟩) hn b1).setCell (p := ⟨B, 2, none⟩) hn b2).setCell (p := ⟨B, 3, none⟩) hn b3).setCell (p := ⟨B, 4, none⟩) hn b4
set_option maxRecDepth 100000 in
set_option maxHeartbeats 2000000 in
theorem ref_rune (s : ByteArray) (k : Int) (w : World) (hs : s.size ≤ 65536) {p : Pl} (h0 : 0 ≤ k) (hp : (plOf s)[k.toNat]? = some p) :
    Calls Try.prog 28 #[.string s, .int .i64 k] w fun e w' => e = .returned (.tuple #[plV p, .bool true]) ∧ Below w.heap.size w w' := by
  obtain ⟨j, rfl⟩ := Int.eq_ofNat_of_zero_le h0
  rw [Int.toNat_natCast] at hp
  have hlt := (List.getElem?_eq_some_iff.1 hp).1
  have hln := hid (plOf_small s hs).1
  go_enter Try.func28, Try.ntmps28
  go_wp2_with fail
  obtain ⟨wa, hA0⟩ : ∃ wa, w.alloc (.cells #[.int .i64 0, .int .i64 0, .int .i64 0, .int .i64 0, .int .i64 0] 33) = wa := ⟨_, rfl⟩
  have k4 : Blk wa w.heap.size 33 #[.int .i64 0, .int .i64 0, .int .i64 0, .int .i64 0, .int .i64 0] := hA0 ▸ Blk.new w _ _
  have ba : Below w.heap.size w wa := hA0 ▸ (Below.refl _ _).alloc (Nat.le_refl _) _
  rw [hA0]
  clear hA0
  have hP := hid (places_at s wa hs)
  with_reducible refine Calls.mono hP.out ?_
  rintro e w1 ⟨g, cap, rfl, hg, hA, hb1⟩
  obtain ⟨a0, a1, a2, a3, a4⟩ := hA j p hp
  replace k4 := k4.low hb1
  replace ba := ba.trans (hb1.mono ba.size)
  obtain ⟨n, hn⟩ : ∃ n, (plOf s).length = n := ⟨_, rfl⟩
  simp only [hn]
  rw [hn] at hlt hln
  have t1 : ((j : Nat) : Int).toNat = j := Int.toNat_natCast j
  have t2 : (j : Int) < n := by omega
  have cb0 := k4.cell (k := 0) rfl
  have cb1 := k4.cell (k := 1) rfl
  have cb2 := k4.cell (k := 2) rfl
  have cb3 := k4.cell (k := 3) rfl
  have cb4 := k4.cell (k := 4) rfl
  have nb := k4.lt
  have fb := k4.froz
  clear hP hA hb1 hn hp
  go_wp2
  have hF := set5r k4 (.int .i64 p.b) (.int .i64 p.r) (.int .i64 p.u) (.int .i64 p.l) (.int .i64 p.c)
  have d0 := hF.cell (k := 0) rfl
  have d1 := hF.cell (k := 1) rfl
  have d2 := hF.cell (k := 2) rfl
  have d3 := hF.cell (k := 3) rfl
  have d4 := hF.cell (k := 4) rfl
  exact bodyPost_ret (v := .tuple #[plV p, .bool true]) (by simp [results, Try.results28, go_sem, d0, d1, d2, d3, d4]) rfl ⟨rfl, low5r ba (Nat.le_refl _) _ _ _ _ _⟩
set_option maxRecDepth 100000 in
set_option maxHeartbeats 2000000 in
theorem ref_rune_bad (s : ByteArray) (k : Int) (w : World) (hs : s.size ≤ 65536) (hk : k < 0 ∨ ((plOf s).length : Int) ≤ k) :
    Calls Try.prog 28 #[.string s, .int .i64 k] w fun e w' => e = .returned (.tuple #[zeroP, .bool false]) ∧ Below w.heap.size w w' := by
  go_enter Try.func28, Try.ntmps28
  go_wp2_with fail
  obtain ⟨wa, hA0⟩ : ∃ wa, w.alloc (.cells #[.int .i64 0, .int .i64 0, .int .i64 0, .int .i64 0, .int .i64 0] 33) = wa := ⟨_, rfl⟩
  have k4 : Blk wa w.heap.size 33 #[.int .i64 0, .int .i64 0, .int .i64 0, .int .i64 0, .int .i64 0] := hA0 ▸ Blk.new w _ _
  have ba : Below w.heap.size w wa := hA0 ▸ (Below.refl _ _).alloc (Nat.le_refl _) _
  rw [hA0]
  clear hA0
  have hP := hid (places_at s wa hs)
  with_reducible refine Calls.mono hP.out ?_
  rintro e w1 ⟨g, cap, rfl, hg, hA, hb1⟩
  replace k4 := k4.low hb1
  replace ba := ba.trans (hb1.mono ba.size)
  obtain ⟨n, hn⟩ : ∃ n, (plOf s).length = n := ⟨_, rfl⟩
  simp only [hn]
  rw [hn] at hk
  have cb0 := k4.cell (k := 0) rfl
  have cb1 := k4.cell (k := 1) rfl
  have cb2 := k4.cell (k := 2) rfl
  have cb3 := k4.cell (k := 3) rfl
  have cb4 := k4.cell (k := 4) rfl
  have nb := k4.lt
  have fb := k4.froz
  have hF := set5r k4 (.int .i64 0) (.int .i64 0) (.int .i64 0) (.int .i64 0) (.int .i64 0)
  have d0 := hid (hF.cell (k := 0) rfl)
  have d1 := hid (hF.cell (k := 1) rfl)
  have d2 := hid (hF.cell (k := 2) rfl)
  have d3 := hid (hF.cell (k := 3) rfl)
  have d4 := hid (hF.cell (k := 4) rfl)
  clear hP hA hb1 hn hF
  by_cases h0 : k < 0
  · have h1 : decide (k < 0) = true := decide_eq_true h0
    clear hk
    go_wp2
    exact bodyPost_ret (v := .tuple #[zeroP, .bool false]) (by simp [results, Try.results28, go_sem, d0.out, d1.out, d2.out, d3.out, d4.out]) rfl ⟨rfl, low5r ba (Nat.le_refl _) _ _ _ _ _⟩
  · have h1 : decide (k < 0) = false := decide_eq_false h0
    have h2 : (n : Int) ≤ k := by omega
    have h3 : decide ((n : Int) ≤ k) = true := decide_eq_true h2
    clear hk
    go_wp2
    exact bodyPost_ret (v := .tuple #[zeroP, .bool false]) (by simp [results, Try.results28, go_sem, d0.out, d1.out, d2.out, d3.out, d4.out]) rfl ⟨rfl, low5r ba (Nat.le_refl _) _ _ _ _ _⟩
set_option maxRecDepth 100000 in
set_option maxHeartbeats 2000000 in
theorem ref_byte_bad (s : ByteArray) (k : Int) (w : World) (hk : k < 0 ∨ (s.size : Int) < k) :
    Calls Try.prog 27 #[.string s, .int .i64 k] w fun e w' => e = .returned (.tuple #[zeroP, .int .i64 0, .bool false]) ∧ Below w.heap.size w w' := by
  go_enter Try.func27, Try.ntmps27
  have k4 := Blk.new w 33 #[.int .i64 0, .int .i64 0, .int .i64 0, .int .i64 0, .int .i64 0]
  have ba : Below w.heap.size w (w.alloc (.cells #[.int .i64 0, .int .i64 0, .int .i64 0, .int .i64 0, .int .i64 0] 33)) := (Below.refl _ _).alloc (Nat.le_refl _) _
  replace ba := hid ba
  clear k4
  by_cases h0 : k < 0
  · have h1 : decide (k < 0) = true := decide_eq_true h0
    clear hk
    go_wp2
    exact bodyPost_ret (v := .tuple #[zeroP, .int .i64 0, .bool false]) (by simp [results, Try.results27, go_sem]) rfl ⟨rfl, ba.out⟩
  · have h1 : decide (k < 0) = false := decide_eq_false h0
    have h2 : (s.size : Int) < k := by omega
    have h3 : decide ((s.size : Int) < k) = true := decide_eq_true h2
    clear hk
    go_wp2
    exact bodyPost_ret (v := .tuple #[zeroP, .int .i64 0, .bool false]) (by simp [results, Try.results27, go_sem]) rfl ⟨rfl, ba.out⟩
set_option maxRecDepth 100000 in
set_option maxHeartbeats 4000000 in
theorem ref_byte (s : ByteArray) (k : Int) (w : World) (hs : s.size ≤ 65536) (h0 : 0 ≤ k) (h1 : k ≤ s.size) {j : Nat} {p : Pl} (hat : At s Pl.b k j p) :
    Calls Try.prog 27 #[.string s, .int .i64 k] w fun e w' => e = .returned (.tuple #[plV p, .int .i64 (k - (Pl.b p : Nat)), .bool true]) ∧ Below w.heap.size w w' := by
  have hbd := pl_bd s hs hat.get
  have hlast := last_get s
  have hlt := (List.getElem?_eq_some_iff.1 hat.get).1
  have hln := hid (plOf_small s hs).1
  have hd0 : decide (k < 0) = false := decide_eq_false (by omega)
  have hd1 : decide ((s.size : Int) < k) = false := decide_eq_false (by omega)
  have hsz : (s.size : Int) ≤ 65536 := by omega
  go_enter Try.func27, Try.ntmps27
  go_wp2_with fail
  obtain ⟨wa, hA0⟩ : ∃ wa, w.alloc (.cells #[.int .i64 0, .int .i64 0, .int .i64 0, .int .i64 0, .int .i64 0] 33) = wa := ⟨_, rfl⟩
  have k4 : Blk wa w.heap.size 33 #[.int .i64 0, .int .i64 0, .int .i64 0, .int .i64 0, .int .i64 0] := hA0 ▸ Blk.new w _ _
  have ba : Below w.heap.size w wa := hA0 ▸ (Below.refl _ _).alloc (Nat.le_refl _) _
  rw [hA0]
  clear hA0
  have k4a := k4.lt
  have hP := hid (places_at s wa hs)
  with_reducible refine Calls.mono hP.out ?_
  rintro e w1 ⟨g, cap, rfl, hg, hA, hb1⟩
  replace k4 := k4.low hb1
  replace ba := ba.trans (hb1.mono ba.size)
  have hAt := hid hat
  have hAA := hid hA
  obtain ⟨m, hm⟩ : ∃ m, (fin s).ps.length = m := ⟨_, rfl⟩
  have hn : (plOf s).length = m + 1 := by rw [plOf_len, hm]
  have hmh := hid hm
  have hnh := hid hn
  have y0 := hA m (lastP s) (by rw [← hm]; exact hlast)
  simp only [hn]
  have hjm : j ≤ m := by rw [hn] at hlt; omega
  have hm6 : m ≤ 65536 := by have := hln.out; rw [hn] at this; omega
  have t1 : IntKind.i64.wrap (m : Int) = m := IntWalk.i64_in _ (by omega)
  have t2 : (0 : Int) ≤ m := by omega
  have t3 : ((m : Nat) : Int) < (m : Int) + 1 := by omega
  have t4 : ((m : Nat) : Int).toNat = m := by omega
  have hga : w.heap.size < g := by have := k4a; omega
  clear hP hA hb1 hat hlt hm hn hlast
  go_wp2_with fail
  clear y0
  go_loop [8] (fun i => ∃ q : Nat, i = .int .i64 q ∧ j ≤ q ∧ q ≤ m) (fun i => (intOf i).toNat)
  case atStart => exact ⟨m, rfl, hjm, Nat.le_refl _⟩
  case round =>
    obtain ⟨q, rfl, h1, h2⟩ := hrel
    obtain ⟨x, hx⟩ : ∃ x, (plOf s)[q]? = some x := ⟨_, List.getElem?_eq_getElem (by rw [hnh.out]; omega)⟩
    have r2 : (0 : Int) ≤ q := by omega
    have r3 : (q : Int) < (m : Int) + 1 := by omega
    have r4 : ((q : Nat) : Int).toNat = q := by omega
    rcases Nat.lt_or_eq_of_le h1 with h1 | h1
    · have hh := hAt.out.hi q x hx h1
      have a0 := (hAA.out q x hx).1
      obtain ⟨q1, rfl⟩ : ∃ q1, q = q1 + 1 := ⟨q - 1, by omega⟩
      have r5 : IntKind.i64.wrap (q1 : Int) = q1 := IntWalk.i64_in _ (by omega)
      have hd : decide (k < (Pl.b x : Nat)) = true := decide_eq_true hh
      clear hx t1 t2 t3 t4
      go_wp2_with fail
      go_round
      case rel => exact ⟨q1, by go_num, by omega, by omega⟩
      case measure => simp [intOf]
    · subst h1
      have hh := hAt.out.lo j x hx (Nat.le_refl _)
      obtain rfl : x = p := by have := hAt.out.get; rw [hx] at this; exact Option.some.inj this
      obtain ⟨a0, a1, a2, a3, a4⟩ := hAA.out j x hx
      have hd : decide (k < (Pl.b x : Nat)) = false := decide_eq_false (by omega)
      have hw : IntKind.i64.wrap (k - (Pl.b x : Nat)) = k - (Pl.b x : Nat) := IntWalk.i64_in _ (by omega)
      have cb0 := k4.cell (k := 0) rfl
      have cb1 := k4.cell (k := 1) rfl
      have cb2 := k4.cell (k := 2) rfl
      have cb3 := k4.cell (k := 3) rfl
      have cb4 := k4.cell (k := 4) rfl
      have nb := k4.lt
      have fb := k4.froz
      clear hx t1 t2 t3 t4
      go_wp2_with fail
      have hne : ¬ w.heap.size = g := by omega
      have hne2 : ¬ g = w.heap.size := by omega
      go_region
      all_goals go_wp2
      all_goals try rw [Exit.noGoto_ret]
      all_goals exact bodyPost_ret (v := .tuple #[plV x, .int .i64 (k - (Pl.b x : Nat)), .bool true]) (by simp [results, Try.results27, go_sem, *]) rfl ⟨rfl, (low5r ba (Nat.le_refl _) _ _ _ _ _).drew⟩
set_option maxRecDepth 100000 in
set_option maxHeartbeats 4000000 in
theorem ref_unit (s : ByteArray) (k : Int) (w : World) (hs : s.size ≤ 65536) (h0 : 0 ≤ k) (h1 : k ≤ (lastP s).u) {j : Nat} {p : Pl} (hat : At s Pl.u k j p) :
    Calls Try.prog 29 #[.string s, .int .i64 k] w fun e w' => e = .returned (.tuple #[plV p, .int .i64 (k - (Pl.u p : Nat)), .bool true]) ∧ Below w.heap.size w w' := by
  have hbd := pl_bd s hs hat.get
  have hlast := last_get s
  have hlt := (List.getElem?_eq_some_iff.1 hat.get).1
  have hln := hid (plOf_small s hs).1
  have hbl := (pl_bd s hs hlast).2.1.2
  have hd0 : decide (k < 0) = false := decide_eq_false (by omega)
  have hd1 : decide (((lastP s).u : Int) < k) = false := decide_eq_false (by omega)
  go_enter Try.func29, Try.ntmps29
  go_wp2_with fail
  obtain ⟨wa, hA0⟩ : ∃ wa, w.alloc (.cells #[.int .i64 0, .int .i64 0, .int .i64 0, .int .i64 0, .int .i64 0] 33) = wa := ⟨_, rfl⟩
  have k4 : Blk wa w.heap.size 33 #[.int .i64 0, .int .i64 0, .int .i64 0, .int .i64 0, .int .i64 0] := hA0 ▸ Blk.new w _ _
  have ba : Below w.heap.size w wa := hA0 ▸ (Below.refl _ _).alloc (Nat.le_refl _) _
  rw [hA0]
  clear hA0
  have k4a := k4.lt
  have hP := hid (places_at s wa hs)
  with_reducible refine Calls.mono hP.out ?_
  rintro e w1 ⟨g, cap, rfl, hg, hA, hb1⟩
  replace k4 := k4.low hb1
  replace ba := ba.trans (hb1.mono ba.size)
  have hAt := hid hat
  have hAA := hid hA
  obtain ⟨m, hm⟩ : ∃ m, (fin s).ps.length = m := ⟨_, rfl⟩
  have hn : (plOf s).length = m + 1 := by rw [plOf_len, hm]
  have hmh := hid hm
  have hnh := hid hn
  have y0 := hA m (lastP s) (by rw [← hm]; exact hlast)
  simp only [hn]
  have hjm : j ≤ m := by rw [hn] at hlt; omega
  have hm6 : m ≤ 65536 := by have := hln.out; rw [hn] at this; omega
  have t1 : IntKind.i64.wrap (m : Int) = m := IntWalk.i64_in _ (by omega)
  have t2 : (0 : Int) ≤ m := by omega
  have t3 : ((m : Nat) : Int) < (m : Int) + 1 := by omega
  have t4 : ((m : Nat) : Int).toNat = m := by omega
  have hga : w.heap.size < g := by have := k4a; omega
  clear hP hA hb1 hat hlt hm hn hlast
  obtain ⟨_, _, y2, _⟩ := y0
  go_wp2_with fail
  clear y2
  go_loop [8] (fun i => ∃ q : Nat, i = .int .i64 q ∧ j ≤ q ∧ q ≤ m) (fun i => (intOf i).toNat)
  case atStart => exact ⟨m, rfl, hjm, Nat.le_refl _⟩
  case round =>
    obtain ⟨q, rfl, h1, h2⟩ := hrel
    obtain ⟨x, hx⟩ : ∃ x, (plOf s)[q]? = some x := ⟨_, List.getElem?_eq_getElem (by rw [hnh.out]; omega)⟩
    have r2 : (0 : Int) ≤ q := by omega
    have r3 : (q : Int) < (m : Int) + 1 := by omega
    have r4 : ((q : Nat) : Int).toNat = q := by omega
    rcases Nat.lt_or_eq_of_le h1 with h1 | h1
    · have hh := hAt.out.hi q x hx h1
      have a0 := (hAA.out q x hx).2.2.1
      obtain ⟨q1, rfl⟩ : ∃ q1, q = q1 + 1 := ⟨q - 1, by omega⟩
      have r5 : IntKind.i64.wrap (q1 : Int) = q1 := IntWalk.i64_in _ (by omega)
      have hd : decide (k < (Pl.u x : Nat)) = true := decide_eq_true hh
      clear hx t1 t2 t3 t4
      go_wp2_with fail
      go_round
      case rel => exact ⟨q1, by go_num, by omega, by omega⟩
      case measure => simp [intOf]
    · subst h1
      have hh := hAt.out.lo j x hx (Nat.le_refl _)
      obtain rfl : x = p := by have := hAt.out.get; rw [hx] at this; exact Option.some.inj this
      obtain ⟨a0, a1, a2, a3, a4⟩ := hAA.out j x hx
      have hd : decide (k < (Pl.u x : Nat)) = false := decide_eq_false (by omega)
      have hw : IntKind.i64.wrap (k - (Pl.u x : Nat)) = k - (Pl.u x : Nat) := IntWalk.i64_in _ (by omega)
      have cb0 := k4.cell (k := 0) rfl
      have cb1 := k4.cell (k := 1) rfl
      have cb2 := k4.cell (k := 2) rfl
      have cb3 := k4.cell (k := 3) rfl
      have cb4 := k4.cell (k := 4) rfl
      have nb := k4.lt
      have fb := k4.froz
      clear hx t1 t2 t3 t4
      go_wp2_with fail
      have hne : ¬ w.heap.size = g := by omega
      have hne2 : ¬ g = w.heap.size := by omega
      go_region
      all_goals go_wp2
      all_goals try rw [Exit.noGoto_ret]
      all_goals exact bodyPost_ret (v := .tuple #[plV x, .int .i64 (k - (Pl.u x : Nat)), .bool true]) (by simp [results, Try.results29, go_sem, *]) rfl ⟨rfl, (low5r ba (Nat.le_refl _) _ _ _ _ _).drew⟩
end Go.Proofs.Ytkobfjiadfedlaa
