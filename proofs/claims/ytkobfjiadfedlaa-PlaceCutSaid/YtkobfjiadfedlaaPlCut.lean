/- PlaceCut, walked: a text that is cut at a boundary. Conditions: none but the length that a string may have, and what an int may be. -/
import Derived.Test.YtkobfjiadfedlaaPlEc
import Derived.Test.YtkobfjiadfedlaaPlU
import Derived.Test.YtkobfjiadfedlaaQs
import Derived.WalkSpells
import Derived.WalkLawsBesides
import Derived.Deep.QuietTactic
import Derived.BigQuiet
import Derived.Deep.DeepCutAuto
namespace Go.Proofs.Ytkobfjiadfedlaa
open Go.RowKit Go.Shelf
set_option linter.unusedVariables false
set_option linter.unusedSimpArgs false
attribute [local go_sem] Oper.semAt_some
attribute [local go_sem] Ext.cell Ext.froz
theorem mp_rune {w : World} {b : Nat} {s : ByteArray} (h : MapOf w b s) (hs : s.size ≤ 65536) (k : Int) (h0 : 0 ≤ k) {p : Pl} (hp : (plOf s)[k.toNat]? = some p) :
    Calls Try.prog 18 #[.pointer (some ⟨b, 0, none⟩), .int .i64 k] w fun e w' => e = .returned (.tuple #[plV p, .int .i64 0]) ∧ Below w.heap.size w w' := by
  have hz := plOf_small s hs
  obtain ⟨pb, pc, lb, lc, h⟩ := h
  exact rune_ok h (by omega) (by omega) k h0 p hp
theorem mp_rune_bad {w : World} {b : Nat} {s : ByteArray} (h : MapOf w b s) (hs : s.size ≤ 65536) (k : Int) (h0 : k < 0 ∨ ((plOf s).length : Int) ≤ k) :
    Calls Try.prog 18 #[.pointer (some ⟨b, 0, none⟩), .int .i64 k] w fun e w' => e = .returned (.tuple #[.agg #[.int .i64 0, .int .i64 0, .int .i64 0, .int .i64 0, .int .i64 0], .int .i64 5]) ∧ Below w.heap.size w w' := by
  have hz := plOf_small s hs
  obtain ⟨pb, pc, lb, lc, h⟩ := h
  exact rune_bad h (by omega) (by omega) k h0
set_option maxRecDepth 100000 in
set_option maxHeartbeats 4000000 in
theorem cut_bad (s : ByteArray) (k : Int) (w : World) (hs : s.size ≤ 65536) (hk : k < 0 ∨ ((plOf s).length : Int) ≤ k) :
    Calls Try.prog 6 #[.string s, .int .i64 k] w fun e w' => e = .returned (.bool true) ∧ Below w.heap.size w w' := by
  go_enter Try.func6, Try.ntmps6
  go_wp2_with fail
  obtain ⟨wa, hA⟩ : ∃ wa, w.alloc (.cells #[.bool false] 4) = wa := ⟨_, rfl⟩
  have k4 : Blk wa w.heap.size 4 #[.bool false] := hA ▸ Blk.new w _ _
  have ba : Below w.heap.size w wa := hA ▸ (Below.refl _ _).alloc (Nat.le_refl _) _
  rw [hA]
  clear hA
  have hW := hid (works_any wa)
  with_reducible refine Calls.mono hW.out ?_
  rintro e w1 ⟨rfl, hb1⟩
  replace k4 := k4.low hb1
  replace ba := ba.trans (hb1.mono ba.size)
  clear hb1 hW
  go_wp2_with fail
  have hN := hid (new_map s w1 hs)
  with_reducible refine Calls.mono hN.out ?_
  rintro e w2 ⟨b, rfl, hm, hb2⟩
  replace k4 := k4.low hb2
  replace ba := ba.trans (hb2.mono ba.size)
  have hM := hid hm
  clear hb2 hN hm
  go_wp2_with fail
  obtain ⟨N0, hN0⟩ : ∃ N0, w2.heap.size = N0 := ⟨_, rfl⟩
  obtain ⟨w3, hA⟩ : ∃ w3, w2.alloc (.cells #[.pointer (some ⟨b, 0, none⟩)] 23) = w3 := ⟨_, rfl⟩
  have k5 : Blk w3 N0 23 #[.pointer (some ⟨b, 0, none⟩)] := by rw [← hA, ← hN0]; exact Blk.new w2 _ _
  have hb3 : Below w2.heap.size w2 w3 := hA ▸ (Below.refl _ _).alloc (Nat.le_refl _) _
  have nw : w.heap.size < N0 := hN0 ▸ k4.lt
  replace k4 := k4.low hb3
  have hM3 := hid (hM.out.below hb3)
  replace ba := ba.trans (hb3.mono ba.size)
  have h23 : Below N0 w2 w3 := hN0 ▸ hb3
  have hsz : w3.heap.size = N0 + 1 := by rw [← hA, ← hN0]; simp
  simp only [hN0]
  rw [hA]
  clear hA hb3
  have c5 := k5.cell (k := 0) rfl
  have hR := hid (mp_rune_bad hM3.out hs k hk)
  clear hk
  with_reducible refine Calls.mono hR.out ?_
  rintro e w4 ⟨rfl, hb4⟩
  replace k4 := k4.low hb4
  replace ba := ba.trans (hb4.mono ba.size)
  clear hb4 hR c5
  go_wp2_with fail
  generalize hA : World.alloc _ _ = w5
  have hb5 : Below w4.heap.size w4 w5 := hA ▸ (Below.refl _ _).alloc (Nat.le_refl _) _
  replace k4 := k4.low hb5
  replace ba := ba.trans (hb5.mono ba.size)
  clear hb5 hA
  have hW := hid (works_any w5)
  with_reducible refine Calls.mono hW.out ?_
  rintro e w6 ⟨rfl, hb6⟩
  replace k4 := k4.low hb6
  replace ba := ba.trans (hb6.mono ba.size)
  clear hb6 hW
  have c2 := k4.cell (k := 0) rfl
  have n2 := k4.lt
  have f2 := k4.froz 0
  go_wp2_with fail
  try rw [Exit.noGoto_ret]
  have hcc : (w6.setCell ⟨w.heap.size, 0, none⟩ (.bool true)).cell? ⟨w.heap.size, 0, none⟩ = some (.bool true) := World.cell?_setCell_same' _ _ _ (by rw [c2]; rfl)
  exact bodyPost_ret (v := .bool true) (by simp [results, Try.results6, go_sem, hcc]) rfl ⟨rfl, ba.setCell (p := ⟨w.heap.size, 0, none⟩) (Nat.le_refl _) _⟩
set_option maxRecDepth 100000 in
set_option maxHeartbeats 4000000 in
theorem cut_within (s : ByteArray) (k : Int) (w : World) (hs : s.size ≤ 65536) (hk : 0 ≤ k) {p : Pl} (hp : (plOf s)[k.toNat]? = some p) (hin : 0 < p.b ∧ p.b < s.size ∧ s[p.b - 1]! = 13 ∧ s[p.b]! = 10) :
    Calls Try.prog 6 #[.string s, .int .i64 k] w fun e w' => e = .returned (.bool true) ∧ Below w.heap.size w w' := by
  obtain ⟨i1, i2, i3, i4⟩ := hin
  rw [getElem!_pos s _ i2] at i4
  rw [getElem!_pos s _ (show p.b - 1 < s.size by omega)] at i3
  go_enter Try.func6, Try.ntmps6
  go_wp2_with fail
  obtain ⟨wa, hA⟩ : ∃ wa, w.alloc (.cells #[.bool false] 4) = wa := ⟨_, rfl⟩
  have k4 : Blk wa w.heap.size 4 #[.bool false] := hA ▸ Blk.new w _ _
  have ba : Below w.heap.size w wa := hA ▸ (Below.refl _ _).alloc (Nat.le_refl _) _
  rw [hA]
  clear hA
  have hW := hid (works_any wa)
  with_reducible refine Calls.mono hW.out ?_
  rintro e w1 ⟨rfl, hb1⟩
  replace k4 := k4.low hb1
  replace ba := ba.trans (hb1.mono ba.size)
  clear hb1 hW
  go_wp2_with fail
  have hN := hid (new_map s w1 hs)
  with_reducible refine Calls.mono hN.out ?_
  rintro e w2 ⟨b, rfl, hm, hb2⟩
  replace k4 := k4.low hb2
  replace ba := ba.trans (hb2.mono ba.size)
  have hM := hid hm
  clear hb2 hN hm
  go_wp2_with fail
  obtain ⟨N0, hN0⟩ : ∃ N0, w2.heap.size = N0 := ⟨_, rfl⟩
  obtain ⟨w3, hA⟩ : ∃ w3, w2.alloc (.cells #[.pointer (some ⟨b, 0, none⟩)] 23) = w3 := ⟨_, rfl⟩
  have k5 : Blk w3 N0 23 #[.pointer (some ⟨b, 0, none⟩)] := by rw [← hA, ← hN0]; exact Blk.new w2 _ _
  have hb3 : Below w2.heap.size w2 w3 := hA ▸ (Below.refl _ _).alloc (Nat.le_refl _) _
  have nw : w.heap.size < N0 := hN0 ▸ k4.lt
  replace k4 := k4.low hb3
  have hM3 := hid (hM.out.below hb3)
  replace ba := ba.trans (hb3.mono ba.size)
  have h23 : Below N0 w2 w3 := hN0 ▸ hb3
  have hsz : w3.heap.size = N0 + 1 := by rw [← hA, ← hN0]; simp
  simp only [hN0]
  rw [hA]
  clear hA hb3
  have c5 := k5.cell (k := 0) rfl
  have hR := hid (mp_rune hM3.out hs k hk hp)
  clear hk hp
  with_reducible refine Calls.mono hR.out ?_
  rintro e w4 ⟨rfl, hb4⟩
  replace k4 := k4.low hb4
  replace ba := ba.trans (hb4.mono ba.size)
  clear hb4 hR c5
  have j1 : IntKind.i64.wrap ((p.b : Int) - 1) = (p.b : Int) - 1 := IntWalk.i64_in _ (by omega)
  have j2 : ((p.b : Int) - 1).toNat = p.b - 1 := by omega
  have j3 : (((s[p.b - 1]'(by omega)).toNat : Int) == 13) = true := by rw [beq_iff_eq, i3]; rfl
  have j4 : (((s[p.b]'i2).toNat : Int) == 10) = true := by rw [beq_iff_eq, i4]; rfl
  have j5 : (0 : Int) < p.b := by omega
  have j6 : (p.b : Int) < s.size := by omega
  have j7 : (1 : Int) ≤ p.b := by omega
  clear i3 i4
  go_wp2_with fail
  generalize hA : World.alloc _ _ = w5
  have hb5 : Below w4.heap.size w4 w5 := hA ▸ (Below.refl _ _).alloc (Nat.le_refl _) _
  replace k4 := k4.low hb5
  replace ba := ba.trans (hb5.mono ba.size)
  clear hb5 hA
  have hW := hid (works_any w5)
  with_reducible refine Calls.mono hW.out ?_
  rintro e w6 ⟨rfl, hb6⟩
  replace k4 := k4.low hb6
  replace ba := ba.trans (hb6.mono ba.size)
  clear hb6 hW
  have c2 := k4.cell (k := 0) rfl
  have n2 := k4.lt
  have f2 := k4.froz 0
  go_wp2_with fail
  try rw [Exit.noGoto_ret]
  have hcc : (w6.setCell ⟨w.heap.size, 0, none⟩ (.bool true)).cell? ⟨w.heap.size, 0, none⟩ = some (.bool true) := World.cell?_setCell_same' _ _ _ (by rw [c2]; rfl)
  exact bodyPost_ret (v := .bool true) (by simp [results, Try.results6, go_sem, hcc]) rfl ⟨rfl, ba.setCell (p := ⟨w.heap.size, 0, none⟩) (Nat.le_refl _) _⟩
set_option maxRecDepth 100000 in
set_option maxHeartbeats 8000000 in
theorem cut_main (s : ByteArray) (k : Int) (w : World) (hs : s.size ≤ 65536) (hk : 0 ≤ k) {p : Pl} (hp : (plOf s)[k.toNat]? = some p) (hin : ¬ (0 < p.b ∧ p.b < s.size ∧ s[p.b - 1]! = 13 ∧ s[p.b]! = 10)) :
    Calls Try.prog 6 #[.string s, .int .i64 k] w fun e w' => e = .returned (.bool true) ∧ Below w.heap.size w w' := by
  refine (callsIn_wide (n := 9)).1 ?_
  refine callsIn_of_wp_marks Try.func6 rfl trivial ?_ rfl
  simp only [Try.ntmps6, List.size_toArray, List.length_cons, List.length_nil, Nat.reduceAdd, Nat.reduceSub, Array.replicate_succ, Array.replicate_zero, List.push_toArray, List.append_toArray, List.nil_append, List.cons_append]
  refine wpIn_wide.2 ?_
  go_wp2_with fail
  obtain ⟨wa, hA⟩ : ∃ wa, w.alloc (.cells #[.bool false] 4) = wa := ⟨_, rfl⟩
  have k4 : Blk wa w.heap.size 4 #[.bool false] := hA ▸ Blk.new w _ _
  have ba : Below w.heap.size w wa := hA ▸ (Below.refl _ _).alloc (Nat.le_refl _) _
  rw [hA]
  clear hA
  have hW := hid (works_any wa)
  with_reducible refine Calls.mono hW.out ?_
  rintro e w1 ⟨rfl, hb1⟩
  replace k4 := k4.low hb1
  replace ba := ba.trans (hb1.mono ba.size)
  clear hb1 hW
  go_wp2_with fail
  have hN := hid (new_map s w1 hs)
  with_reducible refine Calls.mono hN.out ?_
  rintro e w2 ⟨b, rfl, hm, hb2⟩
  replace k4 := k4.low hb2
  replace ba := ba.trans (hb2.mono ba.size)
  have hM := hid hm
  clear hb2 hN hm
  go_wp2_with fail
  obtain ⟨N0, hN0⟩ : ∃ N0, w2.heap.size = N0 := ⟨_, rfl⟩
  obtain ⟨w3, hA⟩ : ∃ w3, w2.alloc (.cells #[.pointer (some ⟨b, 0, none⟩)] 23) = w3 := ⟨_, rfl⟩
  have k5 : Blk w3 N0 23 #[.pointer (some ⟨b, 0, none⟩)] := by rw [← hA, ← hN0]; exact Blk.new w2 _ _
  have hb3 : Below w2.heap.size w2 w3 := hA ▸ (Below.refl _ _).alloc (Nat.le_refl _) _
  have nw : w.heap.size < N0 := hN0 ▸ k4.lt
  replace k4 := k4.low hb3
  have hM3 := hid (hM.out.below hb3)
  replace ba := ba.trans (hb3.mono ba.size)
  have h23 : Below N0 w2 w3 := hN0 ▸ hb3
  have hsz : w3.heap.size = N0 + 1 := by rw [← hA, ← hN0]; simp
  simp only [hN0]
  rw [hA]
  clear hA hb3
  have c5 := k5.cell (k := 0) rfl
  have hR := hid (mp_rune hM3.out hs k hk hp)
  have hbd := pl_bd s hs hp
  have hpb : p.b ≤ s.size := hbd.2.2.2.2.2
  have hcutp := hid (cut_at s hp)
  have hi : Hid (k.toNat = p.r) := (plOf_r s hp).symm
  with_reducible refine Calls.mono hR.out ?_
  rintro e w4 ⟨rfl, hb4⟩
  replace k4 := k4.low hb4
  replace k5 := k5.low hb4
  replace ba := ba.trans (hb4.mono ba.size)
  have h24 : Below N0 w2 w4 := h23.trans (hb4.mono (by omega))
  have hN7 := hb4.size
  clear hb4 hR c5 hM3 h23 hp hk
  go_upto_region 7 with fail
  obtain ⟨N7, hN7'⟩ : ∃ N7, w4.heap.size = N7 := ⟨_, rfl⟩
  obtain ⟨w5, hA⟩ : ∃ w5, w4.alloc (.cells (plC p) 33) = w5 := ⟨_, rfl⟩
  have k7 : Blk w5 N7 33 (plC p) := by rw [← hA, ← hN7']; exact Blk.new w4 _ _
  have hb5 : Below w4.heap.size w4 w5 := hA ▸ (Below.refl _ _).alloc (Nat.le_refl _) _
  replace k4 := k4.low hb5
  replace k5 := k5.low hb5
  replace ba := ba.trans (hb5.mono ba.size)
  have h25 : Below N0 w2 w5 := h24.trans (hb5.mono (by omega))
  simp only [hN7']
  rw [hA]
  clear hA hb5 h24
  have c70 := k7.cell (k := 0) rfl
  have n7 := k7.lt
  go_cut [61] from 33 to 61 (fun v wc => v = .bool false ∧ wc = w5)
  case first =>
    have j1 : 0 < p.b → IntKind.i64.wrap ((p.b : Int) - 1) = (p.b : Int) - 1 := fun h => IntWalk.i64_in _ (by omega)
    have j2 : ((p.b : Int) - 1).toNat = p.b - 1 := by omega
    by_cases q1 : 0 < p.b
    · have j5 : (0 : Int) < p.b := by omega
      have j7 : (1 : Int) ≤ p.b := by omega
      replace j1 := j1 q1
      by_cases q2 : p.b < s.size
      · have j6 : (p.b : Int) < s.size := by omega
        by_cases q3 : s[p.b - 1]! = 13
        · have q4 : ¬ s[p.b]! = 10 := fun h => hin ⟨q1, q2, q3, h⟩
          rw [getElem!_pos s _ q2] at q4
          rw [getElem!_pos s _ (show p.b - 1 < s.size by omega)] at q3
          have j3 : (((s[p.b - 1]'(by omega)).toNat : Int) == 13) = true := by rw [beq_iff_eq, q3]; rfl
          have j4 : (((s[p.b]'q2).toNat : Int) == 10) = false := by
            rw [beq_eq_false_iff_ne]; intro h; apply q4; apply UInt8.toNat_inj.1; show _ = 10; omega
          clear q3 q4 hin
          go_wp2_with fail
          go_meet
          exact ⟨rfl, rfl⟩
        · rw [getElem!_pos s _ (show p.b - 1 < s.size by omega)] at q3
          have j3 : (((s[p.b - 1]'(by omega)).toNat : Int) == 13) = false := by
            rw [beq_eq_false_iff_ne]; intro h; apply q3; apply UInt8.toNat_inj.1; show _ = 13; omega
          clear q3 hin
          go_wp2_with fail
          go_meet
          exact ⟨rfl, rfl⟩
      · have j6 : ¬ (p.b : Int) < s.size := by omega
        have j8 : decide (p.b < s.size) = false := decide_eq_false q2
        clear hin
        go_wp2_with fail
        go_meet
        exact ⟨rfl, rfl⟩
    · have j5 : ¬ (0 : Int) < p.b := by omega
      have j8 : decide (0 < p.b) = false := decide_eq_false q1
      clear hin j1
      go_wp2_with fail
      go_meet
      exact ⟨rfl, rfl⟩
  case rest =>
    obtain ⟨rfl, hwc⟩ := hcut
    subst hwc
    go_wp2_with fail
    clear c70 n7
    obtain ⟨S, hS⟩ : ∃ S, s.extract p.b s.size = S := ⟨_, rfl⟩
    have hS2 : S.size ≤ 65536 := by rw [← hS, ext_size s p.b hpb]; omega
    rw [hS] at hcutp ⊢
    clear hS
    have hN := hid (new_map S wc hS2)
    with_reducible refine Calls.mono hN.out ?_
    rintro e w6 ⟨b2, rfl, hm2, hb6⟩
    replace k4 := k4.low hb6
    replace k5 := k5.low hb6
    replace k7 := k7.low hb6
    replace ba := ba.trans (hb6.mono ba.size)
    have h26 : Below N0 w2 w6 := h25.trans (hb6.mono (by have := h25.size; omega))
    have hM2 := hid hm2
    clear hb6 hN hm2 h25
    go_wp2_with fail
    have hE := hid ((callsIn_wide (n := 8)).1 (each_in Fence.wide 8 trivial rfl b2 w6))
    with_reducible refine Calls.mono hE.out ?_
    rintro e w7 ⟨rfl, hw7⟩
    clear hE
    have hb7 : Below w6.heap.size w6 w7 := hw7 ▸ (Below.refl _ _).alloc (Nat.le_refl _) _
    have k8 : Blk w7 w6.heap.size 23 #[.pointer (some ⟨b2, 0, none⟩)] := by rw [hw7]; exact Blk.new w6 _ _
    replace k4 := k4.low hb7
    replace k5 := k5.low hb7
    replace k7 := k7.low hb7
    replace ba := ba.trans (hb7.mono ba.size)
    have h27 : Below N0 w2 w7 := h26.trans (hb7.mono (by have := h26.size; omega))
    have hM27 := hid (hM2.out.below hb7)
    have hM7 := hid (hM.out.below (hN0 ▸ h27))
    clear hw7 hb7 h26 hM2
    obtain ⟨N8, hN8⟩ : ∃ N8, w6.heap.size = N8 := ⟨_, rfl⟩
    rw [hN8] at k8
    simp only [hN8]
    clear hN8
    go_wp2_with fail
    refine (wpIn_wide (n := 9)).1 ?_
    refine name_act ?_
    intro T D hT hD
    refine rangeFunc_next (F := Fence.wide) (α := Pl) rfl (by omega) (gf := 36) (lb := #[.pointer (some ⟨N8, 0, none⟩)]) (by subst hT; rfl) trivial (enters_of Try.func36 (by kernel_rfl) rfl)
      (each_next Fence.wide 8 trivial rfl (by omega) N8 b2 w7.heap.size S hS2 w7 k8.lt (Nat.le_refl _) (k8.cell rfl) hM27.out.at) (Nat.le_refl _) (Below.refl _ _) (fun _ => rfl)
      (fun pre W => Below w7.heap.size w7 W)
      (fun _ _ _ => False)
      (ownFrom_below (Nat.le_refl _) (Nat.le_refl _))
      (fun _ => ownFrom_pure _ _)
      (Below.refl _ _)
      (fun x a' W => ∃ Bx, w7.heap.size ≤ Bx ∧ Blk W Bx 33 (plC x) ∧ a' = { tmps := (T.setIfInBounds 75 (plV x)).setIfInBounds 9 (.pointer (some ⟨Bx, 0, none⟩)), defers := [] })
      (fun x a' _ X Y row hs hg hr => by obtain ⟨Bx, h1, h2, h3⟩ := hs; exact ⟨Bx, h1, blk_own Bx 33 (fun (_ : Unit) => plC x) () X Y row h2 hg (fun r e => (hr r e).2), h3⟩)
      ?assign ?body ?done ?stop
    case assign =>
      rintro l pre x W K hB hpre hK
      subst hT hD
      gi_wp2
      have hsW := hB.size
      refine hK _ _ ((KeepsOthers.alloc _ _).from _) ((Below.refl _ W).alloc (by omega) _) (hB.alloc (by omega) _) ⟨W.heap.size, by omega, Blk.new W 33 _, ?_⟩
      rfl
    case body =>
      rintro l pre q a' W hl hr hnext hB ⟨Bx, hBx, kx, rfl⟩
      have e1 := prefix_get hnext
      have hqr := plOf_r S e1
      obtain ⟨r, hr1, hsh⟩ := hcutp.out.1 _ q e1
      rw [hi.out, ← hqr] at hr1
      have hq := pl_bd S hS2 e1
      have hr2 := pl_bd s hs hr1
      have hshh := hid hsh
      clear hsh
      have hMW := hid (hM7.out.below hB)
      replace k5 := k5.lowN hB k5.lt
      replace k7 := k7.lowN hB k7.lt
      have y1 : IntKind.i64.wrap ((p.r : Int) + q.r) = (p.r : Int) + q.r := IntWalk.i64_in _ (by omega)
      have y2 : ((p.r : Int) + q.r).toNat = p.r + q.r := by omega
      have y3 : (0 : Int) ≤ (p.r : Int) + q.r := by omega
      have hC := hid (mp_rune hMW.out hs ((p.r : Int) + q.r) y3 (p := r) (by rw [y2]; exact hr1))
      have c5 := k5.cell (k := 0) rfl
      have nx := kx.lt
      have cx0 := kx.cell (k := 0) rfl
      have cx1 := kx.cell (k := 1) rfl
      have cx2 := kx.cell (k := 2) rfl
      have cx3 := kx.cell (k := 3) rfl
      have cx4 := kx.cell (k := 4) rfl
      have np := k7.lt
      have cp0 := k7.cell (k := 0) rfl
      have cp1 := k7.cell (k := 1) rfl
      have cp2 := k7.cell (k := 2) rfl
      have cp3 := k7.cell (k := 3) rfl
      have cp4 := k7.cell (k := 4) rfl
      subst hT hD
      dsimp only
      simp only [List.setIfInBounds_toArray, List.set_cons_succ, List.set_cons_zero]
      clear hnext hl hr hr1 e1 hBx hqr y2
      gi_wp2_with fail
      refine ⟨trivial, ?_⟩
      clear c5
      clear nx cx0 cx1 cx2 cx3 cx4 np cp0 cp1 cp2 cp3 cp4
      with_reducible refine (CallsIn.inRound l (callsIn_wide.2 hC.out)).mono ?_
      rintro e w8 ⟨rfl, hb8⟩
      replace k7 := k7.low hb8
      replace kx := kx.low hb8
      rename_i K1 hK1 K0 hK0
      have HK1 := hid hK1
      clear hK1
      clear hC
      gi_wp2_with fail
      obtain ⟨w9, hA⟩ : ∃ w9, w8.alloc (.cells (plC r) 33) = w9 := ⟨_, rfl⟩
      have hb9 : Below w8.heap.size w8 w9 := hA ▸ (Below.refl _ _).alloc (Nat.le_refl _) _
      have kr : Blk w9 w8.heap.size 33 (plC r) := hA ▸ Blk.new w8 _ _
      rw [hA]
      replace k7 := k7.low hb9
      replace kx := kx.low hb9
      have hBW9 : Below W.heap.size W w9 := hb8.trans (hb9.mono hb8.size)
      clear hA hb9 hb8
      refine HK1.out _ _ ?_
      clear HK1
      try dsimp only [List.append]
      have nx := kx.lt
      have cx0 := kx.cell (k := 0) rfl
      have cx1 := kx.cell (k := 1) rfl
      have cx2 := kx.cell (k := 2) rfl
      have cx3 := kx.cell (k := 3) rfl
      have cx4 := kx.cell (k := 4) rfl
      have np := k7.lt
      have cp0 := k7.cell (k := 0) rfl
      have cp1 := k7.cell (k := 1) rfl
      have cp2 := k7.cell (k := 2) rfl
      have cp3 := k7.cell (k := 3) rfl
      have cp4 := k7.cell (k := 4) rfl
      have nr := kr.lt
      have cr0 := kr.cell (k := 0) rfl
      have cr1 := kr.cell (k := 1) rfl
      have cr2 := kr.cell (k := 2) rfl
      have cr3 := kr.cell (k := 3) rfl
      have cr4 := kr.cell (k := 4) rfl
      have z1 : IntKind.i64.wrap ((p.b : Int) + q.b) = (p.b : Int) + q.b := IntWalk.i64_in _ (by omega)
      have z2 : IntKind.i64.wrap ((p.u : Int) + q.u) = (p.u : Int) + q.u := IntWalk.i64_in _ (by omega)
      have z3 : IntKind.i64.wrap ((p.l : Int) + q.l) = (p.l : Int) + q.l := IntWalk.i64_in _ (by omega)
      have z4 : IntKind.i64.wrap ((p.c : Int) + q.c) = (p.c : Int) + q.c := IntWalk.i64_in _ (by omega)
      obtain ⟨s1, s2, s3, s4, s5, s6⟩ := hshh.out
      have z5 : ((r.b : Int) != (p.b : Int) + q.b) = false := by rw [bne_eq_false_iff_eq]; omega
      have z6 : ((r.u : Int) != (p.u : Int) + q.u) = false := by rw [bne_eq_false_iff_eq]; omega
      have z7 : ((r.l : Int) != (p.l : Int) + q.l) = false := by rw [bne_eq_false_iff_eq]; omega
      have hend : Hid (KeepsFrom w7.heap.size W w9 ∧ Below w7.heap.size W w9 ∧ Below w7.heap.size w7 w9) := ⟨kf_of hBW9, hBW9.mono hB.size, hB.trans (hBW9.mono hB.size)⟩
      clear hBW9 y1 y3 k5 k7 kx kr
      rcases Nat.eq_zero_or_pos q.l with hl | hl
      · have z8 : decide (0 < q.l) = false := decide_eq_false (by omega)
        have z9 : ((q.l : Int) == 0) = true := by rw [beq_iff_eq]; omega
        have z10 : ((r.c : Int) != (p.c : Int) + q.c) = false := by rw [bne_eq_false_iff_eq]; have := s6 hl; omega
        clear s1 s2 s3 s4 s5 s6 hq hr2 hl hbd
        gi_wp2_with fail
        exact hend.out
      · have z8 : decide (0 < q.l) = true := decide_eq_true hl
        have z9 : ((q.l : Int) == 0) = false := by rw [beq_eq_false_iff_ne]; omega
        have z10 : ((r.c : Int) != (q.c : Int)) = false := by rw [bne_eq_false_iff_eq]; have := s5 hl; omega
        clear s1 s2 s3 s4 s5 s6 hq hr2 hl hbd
        gi_wp2_with fail
        exact hend.out
    case done =>
      rintro Dk W hDk hB hK
      have hsW := hB.size
      have hMW := hid (hM7.out.below hB)
      have hMS := hid (hM27.out.below hB)
      have hes := hcutp.out.2
      have hls := last_r s
      have hlS := last_r S
      have hb1 := pl_bd s hs (last_get s)
      have hb2 := pl_bd S hS2 (last_get S)
      have hE1 : Hid (∀ x : Ext W, Calls Try.prog 21 #[.pointer (some ⟨b, 0, none⟩)] x.w fun e w' => e = .returned (plV (lastP s)) ∧ Below x.w.heap.size x.w w') := fun x => own_end (hMW.out.below x.h) hs
      have hE2 : Hid (∀ x : Ext W, Calls Try.prog 21 #[.pointer (some ⟨b2, 0, none⟩)] x.w fun e w' => e = .returned (plV (lastP S)) ∧ Below x.w.heap.size x.w w') := fun x => own_end (hMS.out.below x.h) hS2
      have hWk : Hid (∀ x : Ext W, Calls Try.prog 12 #[] x.w fun e w' => e = .returned (.bool true) ∧ Below x.w.heap.size x.w w') := fun x => works_any x.w
      generalize lastP s = eS at *
      generalize lastP S = eT at *
      have hf1 : ∀ w : World, (Instr.field 33 (plV eS) 1).run Try.prog w = .ok (.int .i64 eS.r) w := fun _ => by kernel_rfl
      have hf2 : ∀ w : World, (Instr.field 33 (plV eT) 1).run Try.prog w = .ok (.int .i64 eT.r) w := fun _ => by kernel_rfl
      have z1 : IntKind.i64.wrap ((eT.r : Int) + p.r) = (eT.r : Int) + p.r := IntWalk.i64_in _ (by omega)
      have z2 : ((eT.r : Int) + p.r == (eS.r : Int)) = true := by rw [beq_iff_eq]; have := hi.out; omega
      replace k4 := k4.lowN hB k4.lt
      replace k5 := k5.lowN hB k5.lt
      replace k7 := k7.lowN hB k7.lt
      have c5 := k5.cell (k := 0) rfl
      have c71 := k7.cell (k := 1) rfl
      have n7 := k7.lt
      subst hT hD
      clear hes hls hlS hb1 hb2 hbd
      go_wp2_with fail
      refine ext_tailB 13 (by kernel_rfl) (by kernel_rfl) ?_
      simp only [List.take_succ_cons, List.take_zero, List.drop_succ_cons, List.drop_zero]
      iterate 1 (refine bq_step (fun K hK => ?_); go_simp; refine ⟨hK _ ?_⟩; clear hK K)
      refine bq_step (fun K hK => ?_)
      go_simp
      refine ⟨?_⟩
      apply Exists.intro
      refine ⟨fun x => ?_, hK _ ?_⟩
      · with_reducible exact Ext.call (hE2.out _)
      clear hK K
      iterate 5 (refine bq_step (fun K hK => ?_); go_simp; refine ⟨hK _ ?_⟩; clear hK K)
      refine bq_step (fun K hK => ?_)
      go_simp
      refine ⟨?_⟩
      apply Exists.intro
      refine ⟨fun x => ?_, hK _ ?_⟩
      · with_reducible exact Ext.call (hE1.out _)
      clear hK K
      iterate 3 (refine bq_step (fun K hK => ?_); go_simp; refine ⟨hK _ ?_⟩; clear hK K)
      refine bq_step (fun K hK => ?_)
      go_simp
      refine ⟨?_⟩
      apply Exists.intro
      refine ⟨fun x => ?_, hK _ ?_⟩
      · with_reducible exact Ext.call (hWk.out _)
      clear hK K
      iterate 1 (refine bq_step (fun K hK => ?_); go_simp; refine ⟨hK _ ?_⟩; clear hK K)
      refine bq_nil ?_
      rintro _ ⟨x, rfl⟩
      have k2x := k4.low x.h
      have hKx := (x.h.block Dk (Array.getElem?_eq_some_iff.1 hK).1).trans hK
      have c2x := k2x.cell (k := 0) rfl
      have n2x := k2x.lt
      have f2x := k2x.froz 0
      go_wp2_with fail
      have hK2 : (x.w.setCell ⟨w.heap.size, 0, none⟩ (.bool true)).heap[Dk]? = some (.deferred (some [])) := (KeepsOthers.setCell _ _ _).same Dk _ hKx rfl
      refine ⟨by simp, .inl ⟨_, _, rfl, run_takeDeferred hK2, ?_⟩⟩
      have hcc : ((x.w.setCell ⟨w.heap.size, 0, none⟩ (.bool true)).putObj Dk (.deferred none)).cell? ⟨w.heap.size, 0, none⟩ = some (.bool true) :=
        cell_kept (World.cell?_setCell_same' _ _ _ (by rw [c2x]; rfl)) (grownBy_putObj' _ Dk (.deferred none)) (fun r e => by cases e; exact ⟨_, hK2, rfl⟩)
      have hs4 := ba.size
      have q0 : Below w.heap.size w x.w := ba.trans ((hB.mono hs4).trans (x.h.mono (by omega)))
      have q1 : Below w.heap.size w (x.w.setCell ⟨w.heap.size, 0, none⟩ (.bool true)) := q0.setCell (p := ⟨w.heap.size, 0, none⟩) (Nat.le_refl _) _
      have hFin : Below w.heap.size w ((x.w.setCell ⟨w.heap.size, 0, none⟩ (.bool true)).putObj Dk (.deferred none)) :=
        q1.trans (belowK_b (w := w7) hs4 _ _ _ _ hDk hK2 rfl rfl)
      clear hE1 hE2 hWk
      exact ⟨_, by simp [results, Try.results6, go_sem, hcc], rfl, hFin⟩
    case stop =>
      rintro Dk c pre W hDk hpre h _
      exact h.elim
set_option maxRecDepth 100000 in
set_option maxHeartbeats 4000000 in
theorem cut_long (s : ByteArray) (k : Int) (w : World) (hs : 65536 < s.size) (hm : s.size ≤ maxLen) :
    Calls Try.prog 6 #[.string s, .int .i64 k] w fun e w' => e = .returned (.bool true) ∧ Below w.heap.size w w' := by
  have d0 : decide ((65536:Int) < s.size) = true := decide_eq_true (by omega)
  go_enter Try.func6, Try.ntmps6
  go_wp2_with fail
  obtain ⟨wa, hA⟩ : ∃ wa, w.alloc (.cells #[.bool false] 4) = wa := ⟨_, rfl⟩
  have k2 : Blk wa w.heap.size 4 #[.bool false] := hA ▸ Blk.new w _ _
  have ba : Below w.heap.size w wa := hA ▸ (Below.refl _ _).alloc (Nat.le_refl _) _
  rw [hA]
  clear hA
  have hW := hid (works_any wa)
  with_reducible refine Calls.mono hW.out ?_
  rintro e w1 ⟨rfl, hb1⟩
  replace k2 := k2.low hb1
  replace ba := ba.trans (hb1.mono ba.size)
  clear hb1 hW
  go_wp2_with fail
  have hN := hid (new_long s w1 hs hm)
  with_reducible refine Calls.mono hN.out ?_
  rintro e w2 ⟨rfl, hb2⟩
  replace k2 := k2.low hb2
  replace ba := ba.trans (hb2.mono ba.size)
  clear hb2 hN
  go_wp2_with fail
  generalize hA : World.alloc _ _ = w3
  have hb3 : Below w2.heap.size w2 w3 := hA ▸ (Below.refl _ _).alloc (Nat.le_refl _) _
  replace k2 := k2.low hb3
  replace ba := ba.trans (hb3.mono ba.size)
  clear hb3 hA
  have hW := hid (works_any w3)
  with_reducible refine Calls.mono hW.out ?_
  rintro e w4 ⟨rfl, hb4⟩
  replace k2 := k2.low hb4
  replace ba := ba.trans (hb4.mono ba.size)
  clear hb4 hW
  have c2 := k2.cell (k := 0) rfl
  have n2 := k2.lt
  have f2 := k2.froz 0
  go_wp2_with fail
  try rw [Exit.noGoto_ret]
  have hcc : (w4.setCell ⟨w.heap.size, 0, none⟩ (.bool true)).cell? ⟨w.heap.size, 0, none⟩ = some (.bool true) := World.cell?_setCell_same' _ _ _ (by rw [c2]; rfl)
  exact bodyPost_ret (v := .bool true) (by simp [results, Try.results6, go_sem, hcc]) rfl ⟨rfl, ba.setCell (p := ⟨w.heap.size, 0, none⟩) (Nat.le_refl _) _⟩
theorem cut_walk (s : ByteArray) (k : Int) (w : World) (hm : s.size ≤ maxLen) :
    Calls Try.prog 6 #[.string s, .int .i64 k] w fun e w' => e = .returned (.bool true) ∧ Below w.heap.size w w' := by
  by_cases hs : s.size ≤ 65536
  · by_cases hk : 0 ≤ k ∧ k < (plOf s).length
    · obtain ⟨p, hp⟩ : ∃ p, (plOf s)[k.toNat]? = some p := ⟨_, List.getElem?_eq_getElem (by omega)⟩
      by_cases hin : 0 < p.b ∧ p.b < s.size ∧ s[p.b - 1]! = 13 ∧ s[p.b]! = 10
      · exact cut_within s k w hs hk.1 hp hin
      · exact cut_main s k w hs hk.1 hp hin
    · exact cut_bad s k w hs (by omega)
  · exact cut_long s k w (by omega) hm
end Go.Proofs.Ytkobfjiadfedlaa
