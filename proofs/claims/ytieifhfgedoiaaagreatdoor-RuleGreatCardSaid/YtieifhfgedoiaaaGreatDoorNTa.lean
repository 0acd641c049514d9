/- A word's pieces: the program's hand. Conditions: those of each theorem. -/
import Derived.Test.YtieifhfgedoiaaaGreatDoorNTb
import Derived.Test.YtieifhfgedoiaaaGreatDoorNQu
import Derived.Test.YtieifhfgedoiaaaGreatDoorNSc
import Derived.Test.YtieifhfgedoiaaaGreatDoorNPhD
import Derived.Test.YtieifhfgedoiaaaGreatDoorNFa
import Derived.Test.YtieifhfgedoiaaaGreatDoorNFb
import Derived.Test.YtieifhfgedoiaaaGreatDoorNLfE
namespace Go.Proofs.YtieifhfgedoiaaaGreatDoor
open Go.RowKit Go.Lib
set_option linter.unusedVariables false
set_option linter.unusedSimpArgs false
attribute [local go_sem] ExtS.cell ExtS.froz upE_value upE_skip upE_enter Ext.cell Ext.froz
structure WAt (w : World) (base : Nat) (v1 v2 : Value) (s : ByteArray) : Prop where
 u : w.ownsRow base 110 3 v1 (wordL s).length (flatE One.cells (wordL s))
 a : w.ownsRow base 3 1 v2 (atL s).length ((atL s).map fun (q : Nat) => Value.int .i64 (q : Int))
theorem WAt.low {w w' : World} {base : Nat} {v1 v2 : Value} {s : ByteArray} (h : WAt w base v1 v2 s) (hb : Below w.heap.size w w') : WAt w' base v1 v2 s := ⟨own_low h.u hb, own_low h.a hb⟩
theorem pre_fffd {s : ByteArray} {p : Nat} (hp : p < s.size) (hr : rnN s p = 65533) : stB (s.extract p s.size) 0 [239, 191, 189] = !isBr s p := by
 have h := dec_at s p hp
 unfold isBr brB
 have hw : wdN s p = (Utf8.decode s p).2 := rfl
 have hr' : (Utf8.decode s p).1 = 65533 := hr
 rw [hr, hw]
 cases hd : Utf8.decode s p with
 | mk r w =>
  rw [hd] at h hr'
  dsimp only at hr'
  subst hr'
  show (decide (0 + 3 ≤ (s.extract p s.size).size) && ((s.extract p s.size).extract 0 (0 + 3)).toList == [239, 191, 189]) = !decide (65533 = 65533 ∧ w = 1)
  cases h with
  | rune _ _ h1 h2 h3 h4 h5 h6 h7 => exact absurd rfl h1
  | lost h1 h2 =>
   have e1 : (s.extract p s.size).extract 0 (0 + 3) = s.extract p (p + 3) := by
    rw [ext_ext]; show s.extract (p + 0) (min (p + 3) s.size) = _; rw [Nat.add_zero, Nat.min_eq_left h1]
   have e0 : decide (0 + 3 ≤ (s.extract p s.size).size) = true := decide_eq_true (by rw [ByteArray.size_extract]; show 3 ≤ _; omega)
   rw [e1, e0, show ((s.extract p (p + 3)).toList == [239, 191, 189]) = true from h2]; rfl
  | broken h0 h1 =>
   rcases h1 with h1 | ⟨h1, h2⟩
   ·have e0 : decide (0 + 3 ≤ (s.extract p s.size).size) = false := decide_eq_false (by rw [ByteArray.size_extract]; show ¬ 3 ≤ _; omega)
    rw [e0]; rfl
   ·have e1 : (s.extract p s.size).extract 0 (0 + 3) = s.extract p (p + 3) := by
     rw [ext_ext]; show s.extract (p + 0) (min (p + 3) s.size) = _; rw [Nat.add_zero, Nat.min_eq_left h1]
    rw [e1, show ((s.extract p (p + 3)).toList == [239, 191, 189]) = false from h2, Bool.and_false]; rfl
theorem low_nat (r : Nat) (hr : r ≤ 1114111) : ∃ L : Nat, lowI (r : Int) = L ∧ L ≤ 1114111 := by
 have : 0 ≤ lowI (r : Int) ∧ lowI (r : Int) ≤ 1114111 := by
  unfold lowI
  by_cases hg : GreatP (r : Int)
  ·have h2 := hg
   unfold GreatP at h2
   rw [if_neg (fun h => h hg)]
   (repeat' split) <;> omega
  ·rw [if_pos hg]; omega
 exact ⟨(lowI (r : Int)).toNat, by omega, by omega⟩
theorem word_bd {s : ByteArray} {p : Nat} (hp : p < s.size) : OneB (wordAt s p) := by
 unfold wordAt OneB
 cases isBr s p
 ·obtain ⟨L, h1, h2⟩ := low_nat (rnN s p) (rn_bd hp)
  simp only [Bool.false_eq_true, if_false, h1]
  exact ⟨by omega, by decide⟩
 ·simp only [if_true]
  exact ⟨by decide, by unfold byteN; have := UInt8.toNat_lt (s.get! p); omega⟩
structure Wo (w wr : World) (s : ByteArray) (pos : Nat) (ps : List Nat) (v1 v2 : Value) : Prop where
 it : wr.heap[w.heap.size + 2]? = some (.stringIter s pos)
 t : Blk wr (w.heap.size + 1) 80 #[v1, v2]
 r : Blk wr w.heap.size 80 #[.slice none 0 0, .slice none 0 0]
 u : wr.ownsRow (w.heap.size + 3) 110 3 v1 ps.length (flatE One.cells (ps.map (wordAt s)))
 a : wr.ownsRow (w.heap.size + 3) 3 1 v2 ps.length (ps.map fun (q : Nat) => Value.int .i64 (q : Int))
 bel : Below w.heap.size w wr
theorem Wo.next {w wr : World} {s : ByteArray} {pos : Nat} {ps : List Nat} {v1 v2 : Value} (h : Wo w wr s pos ps v1 v2) (p : Nat) : Wo w (wr.iterAt (w.heap.size + 2) s p) s p ps v1 v2 :=
 ⟨Lib.iterAt_heap _ _ _ _ _ h.it, (Lib.iterAt_other _ _ _ _ _ (by omega)).trans h.t, (Lib.iterAt_other _ _ _ _ _ (by omega)).trans h.r, own_iter h.u (by omega) _ _, own_iter h.a (by omega) _ _, Lib.below_iterAt h.bel (by omega) _ _⟩
theorem Wo.low {w wr wz : World} {s : ByteArray} {pos : Nat} {ps : List Nat} {v1 v2 : Value} (h : Wo w wr s pos ps v1 v2) (hb : Below wr.heap.size wr wz) : Wo w wz s pos ps v1 v2 :=
 ⟨(hb.block _ (at_lt h.it)).trans h.it, h.t.low hb, h.r.low hb, own_low h.u hb, own_low h.a hb, h.bel.trans (hb.mono h.bel.size)⟩
theorem Wo.set {w wr : World} {s : ByteArray} {pos : Nat} {ps : List Nat} {v1 v2 : Value} (h : Wo w wr s pos ps v1 v2) {A : Nat} (hA : w.heap.size + 3 ≤ A) (h1 : ∀ g, v1.ownBlock = some g → g ≠ A) (h2 : ∀ g, v2.ownBlock = some g → g ≠ A) (k : Nat) (u : Value) : Wo w (wr.setCell ⟨A, k, none⟩ u) s pos ps v1 v2 :=
 ⟨(set_oth (by omega)).trans h.it, h.t.other (by omega) u, h.r.other (by omega) u, own_other h.u h1 k u, own_other h.a h2 k u, below_set h.bel (by omega) _ _⟩
theorem own_gr {w w' : World} {base n size : Nat} {e : TypeId} {v : Value} {xs : List Value} (h : w.ownsRow base e size v n xs) {row : Option Nat} (hg : w.grownBy w' row) (hb : ∀ g, row = some g → ∃ t a, t ≠ e ∧ Blk w g t a) : w'.ownsRow base e size v n xs :=
 own_butT h ((ButS.refl row.toList w).grownS hg (fun k hk => by subst hk; simp)) (fun B hm => by rw [Option.mem_toList] at hm; exact hb _ hm)
structure Wp (w w0 wr : World) (So : List Nat) (s : ByteArray) (pos : Nat) (v1 v2 a1 a2 : Value) (m1 m2 : Nat) (xs1 xs2 : List Value) : Prop where
 it : wr.heap[w.heap.size + 2]? = some (.stringIter s pos)
 t : Blk wr (w.heap.size + 1) 80 #[v1, v2]
 r : Blk wr w.heap.size 80 #[.slice none 0 0, .slice none 0 0]
 u : wr.ownsRow (w.heap.size + 3) 110 3 a1 m1 xs1
 a : wr.ownsRow (w.heap.size + 3) 3 1 a2 m2 xs2
 bel : Below w.heap.size w wr
 but : ButS So w0 wr
section
variable {w w0 wr wz : World} {So : List Nat} {s : ByteArray} {pos : Nat} {v1 v2 a1 a2 : Value} {m1 m2 : Nat} {xs1 xs2 : List Value}
theorem Wp.low (h : Wp w w0 wr So s pos v1 v2 a1 a2 m1 m2 xs1 xs2) (hb : Below wr.heap.size wr wz) : Wp w w0 wz So s pos v1 v2 a1 a2 m1 m2 xs1 xs2 :=
 ⟨(hb.block _ (at_lt h.it)).trans h.it, h.t.low hb, h.r.low hb, own_low h.u hb, own_low h.a hb, h.bel.trans (hb.mono h.bel.size), h.but.low hb⟩
theorem Wp.grow1 (h : Wp w w0 wr So s pos v1 v2 a1 a2 m1 m2 xs1 xs2) {b1 : Value} {n1 : Nat} {ys : List Value} (ho : wz.ownsRow (w.heap.size + 3) 110 3 b1 n1 ys) (hg : wr.grownBy wz a1.ownBlock) (hS : ∀ k, a1.ownBlock = some k → k ∈ So) : Wp w w0 wz So s pos v1 v2 b1 a2 n1 m2 ys xs2 :=
 ⟨(hg.block _ (at_lt h.it) (fun e => by have := (own_ge h.u e.symm).1; omega)).trans h.it, h.t.kept hg (fun e => by have := (own_ge h.u e.symm).1; omega), h.r.kept hg (fun e => by have := (own_ge h.u e.symm).1; omega), ho,
  own_gr h.a hg (fun g hg' => by obtain ⟨c, hc⟩ := own_blk h.u hg'; exact ⟨110, c, by decide, hc⟩), h.bel.grown hg h.bel.size (fun k hk => by have := (own_ge h.u hk).1; omega), h.but.grownS hg hS⟩
theorem Wp.grow2 (h : Wp w w0 wr So s pos v1 v2 a1 a2 m1 m2 xs1 xs2) {b2 : Value} {n2 : Nat} {ys : List Value} (ho : wz.ownsRow (w.heap.size + 3) 3 1 b2 n2 ys) (hg : wr.grownBy wz a2.ownBlock) (hS : ∀ k, a2.ownBlock = some k → k ∈ So) : Wp w w0 wz So s pos v1 v2 a1 b2 m1 n2 xs1 ys :=
 ⟨(hg.block _ (at_lt h.it) (fun e => by have := (own_ge h.a e.symm).1; omega)).trans h.it, h.t.kept hg (fun e => by have := (own_ge h.a e.symm).1; omega), h.r.kept hg (fun e => by have := (own_ge h.a e.symm).1; omega),
  own_gr h.u hg (fun g hg' => by obtain ⟨c, hc⟩ := own_blk h.a hg'; exact ⟨3, c, by decide, hc⟩), ho, h.bel.grown hg h.bel.size (fun k hk => by have := (own_ge h.a hk).1; omega), h.but.grownS hg hS⟩
end
theorem Wp.done {w w0 wr : World} {So : List Nat} {s : ByteArray} {pos : Nat} {v1 v2 a1 a2 : Value} {ps : List Nat} (h : Wp w w0 wr So s pos v1 v2 a1 a2 ps.length ps.length (flatE One.cells (ps.map (wordAt s))) (ps.map fun (q : Nat) => Value.int .i64 (q : Int))) :
  Wo w ((wr.setCell ⟨w.heap.size + 1, 0, none⟩ a1).setCell ⟨w.heap.size + 1, 1, none⟩ a2) s pos ps a1 a2 :=
 ⟨(set_oth (by omega)).trans ((set_oth (by omega)).trans h.it), (h.t.set 0 a1).set 1 a2, (h.r.other (by omega) _).other (by omega) _, own_set (own_set h.u (by omega) _ _) (by omega) _ _, own_set (own_set h.a (by omega) _ _) (by omega) _ _, below_set (below_set h.bel (by omega) _ _) (by omega) _ _⟩
theorem info3 : (Tryz.prog.info? 3).map (fun i => (i.zero, i.size, i.bytes)) = some (some (.int .i64 0), 1, 8) := by kernel_rfl
set_option maxRecDepth 100000 in
set_option maxHeartbeats 8000000 in
theorem of37 (s : ByteArray) (w : World) (hs : s.size ≤ 100000000) :
  Calls Tryz.prog 29 #[.string s] w fun e w' => (∃ v1 v2, e = .returned (.agg #[v1, v2]) ∧ WAt w' w.heap.size v1 v2 s) ∧ Below w.heap.size w w' := by
 obtain ⟨i0, hi, hz0, hz1, hz2⟩ := info_parts info115
 obtain ⟨j0, hj, hy0, hy1, hy2⟩ := info_parts info3
 go_enter Tryz.func29, Tryz.ntmps29
 go_wp2_with fail
 go_loopw [] (fun wr => ∃ (pos : Nat) (ps : List Nat) (v1 v2 : Value), Hid (Wo w wr s pos ps v1 v2) ∧ Hid (posL s 0 = ps ++ posL s pos) ∧ pos ≤ s.size ∧ ps.length ≤ pos) (fun wr => s.size - wr.iterPos (w.heap.size + 2))
 case atStart =>
  obtain ⟨Wa, hWa⟩ : ∃ Wa, w.alloc (.cells #[.slice none 0 0, .slice none 0 0] 80) = Wa := ⟨_, rfl⟩
  obtain ⟨Wb, hWb⟩ : ∃ Wb, Wa.alloc (.cells #[.slice none 0 0, .slice none 0 0] 80) = Wb := ⟨_, rfl⟩
  have sa : Wa.heap.size = w.heap.size + 1 := by rw [← hWa]; simp
  have sb : Wb.heap.size = w.heap.size + 2 := by rw [← hWb]; simp [sa]
  have hb0 : Below w.heap.size w Wa := by rw [← hWa]; exact (Below.refl _ _).alloc (Nat.le_refl _) _
  have hb1 : Below w.heap.size w Wb := by rw [← hWb]; exact hb0.alloc hb0.size _
  have k1 : Blk Wb (w.heap.size + 1) 80 #[.slice none 0 0, .slice none 0 0] := by rw [← sa, ← hWb]; exact Blk.new _ _ _
  have k0 : Blk Wb w.heap.size 80 #[.slice none 0 0, .slice none 0 0] := by rw [← hWb, ← hWa]; exact (Blk.new _ _ _).alloc _
  have i1 : (Wb.alloc (.stringIter s 0)).heap[w.heap.size + 2]? = some (.stringIter s 0) := by rw [← sb]; exact heap_alloc_new _ _
  rw [hWa, hWb]
  exact ⟨0, [], .slice none 0 0, .slice none 0 0, ⟨i1, k1.alloc _, k0.alloc _, World.ownsRow_nil _ _ _ _, World.ownsRow_nil _ _ _ _, hb1.alloc hb1.size _⟩, rfl, Nat.zero_le _, Nat.le_refl _⟩
 case round =>
  obtain ⟨pos, ps, v1, v2, hP, hL, hps, hln⟩ := hrel
  have hpos0 := hid (iterPos_of hP.out.it)
  have hIlt : w.heap.size + 2 < wr.heap.size := at_lt hP.out.it
  by_cases hp : pos < s.size
  ·have hnx : ∀ ty, (Instr.next (.pointer (some ⟨w.heap.size + 2, 0, none⟩)) true ty).run Tryz.prog wr = _ := fun ty => Lib.run_next_any_at wr (w.heap.size + 2) s pos ty hP.out.it hp
   change ∀ ty, (Instr.next (.pointer (some ⟨w.heap.size + 2, 0, none⟩)) true ty).run Tryz.prog wr = .ok (.tuple #[.bool true, .int .i64 pos, .int .i32 (rnN s pos)]) (wr.iterAt (w.heap.size + 2) s (pos + wdN s pos)) at hnx
   have hwd := wdN_pos hp
   have hP1 := hid (hP.out.next (pos + wdN s pos))
   have hL2 : Hid (posL s 0 = (ps ++ [pos]) ++ posL s (pos + wdN s pos)) := by rw [hL.out, posL_more hp, List.append_assoc]; exact hid rfl
   obtain ⟨W1, hW1⟩ : ∃ W1, wr.iterAt (w.heap.size + 2) s (pos + wdN s pos) = W1 := ⟨_, rfl⟩
   rw [hW1] at hnx hP1
   have hmeas : Hid (1 ≤ wdN s pos ∧ pos < s.size) := ⟨hwd.1, hp⟩
   have hle : pos + wdN s pos ≤ s.size := hwd.2.2
   have hrb := rn_bd hp
   obtain ⟨L, hLo, hL9⟩ := low_nat (rnN s pos) hrb
   have hC := hid (fun W => lower54 (rnN s pos) (by omega) (by omega) W)
   rw [hLo] at hC
   have HLo := hid hLo
   have hpre := hid (pre_fffd hp)
   have hA : Hid (w.heap.size + 3 ≤ W1.heap.size) := by have := at_lt hP1.out.it; exact hid (by omega)
   have hwle : w.heap.size ≤ W1.heap.size := hP1.out.bel.size
   clear hW1 hP hL hLo hwd
   have hbA : Below W1.heap.size W1 (W1.alloc (.cells #[.int .i32 L, .bool false, .int .u8 0] 110)) := (Below.refl _ _).alloc (Nat.le_refl _) _
   have hP2 := hid (hP1.out.low hbA)
   have KA := hid (Blk.new W1 110 #[.int .i32 L, .bool false, .int .u8 0])
   clear hbA
   go_upto_region 6 with (go_at_call 9; (with_reducible refine Calls.mono (hC.out _) ?_); rintro e w1 ⟨rfl, rfl⟩)
   have hg1 := hid (fun g (hg : v1.ownBlock = some g) => Nat.ne_of_lt (own_ge hP1.out.u hg).2)
   have hg2 := hid (fun g (hg : v2.ownBlock = some g) => Nat.ne_of_lt (own_ge hP1.out.a hg).2)
   obtain ⟨A, hAe⟩ : ∃ A, W1.heap.size = A := ⟨_, rfl⟩
   rw [hAe] at KA hA hg1 hg2
   simp only [hAe]
   clear hAe
   generalize W1.alloc (.cells #[.int .i32 L, .bool false, .int .u8 0] 110) = W2 at *
   obtain ⟨br, hbr⟩ : ∃ br, isBr s pos = br := ⟨_, rfl⟩
   rw [hbr] at hpre
   go_cut [24] (fun v wd => v = .bool br ∧ wd = W2)
   case first =>
    by_cases hr : rnN s pos = 65533
    ·have hpr := hpre.out hr
     have hH := hid (fun W => hasPrefix_any (s.extract pos s.size) ⟨#[239, 191, 189]⟩ (by rw [ByteArray.size_extract]; omega) (by decide) W)
     rw [show (⟨#[239, 191, 189]⟩ : ByteArray).data.toList = [239, 191, 189] from rfl, hpr] at hH
     have qr : (((rnN s pos : Nat) : Int) == 65533) = true := beq_true_of (by omega)
     have qs : (pos : Int) ≤ s.size := by omega
     clear hpr hr
     go_wp2_with (go_at_call 48; (with_reducible refine Calls.mono (hH.out _) ?_); rintro e w1 ⟨rfl, rfl⟩)
     go_meet
     first | exact ⟨rfl, rfl⟩ | exact ⟨rfl, trivial⟩ | exact ⟨by cases br <;> rfl, rfl⟩ | exact ⟨by cases br <;> rfl, trivial⟩
    ·have qr : (((rnN s pos : Nat) : Int) == 65533) = false := beq_false_of (by omega)
     have hbf : br = false := by rw [← hbr]; unfold isBr brB; exact decide_eq_false fun h => hr h.1
     subst hbf
     go_wp2_with fail
     go_meet
     first | exact ⟨rfl, rfl⟩ | exact ⟨rfl, trivial⟩
   case rest =>
    obtain ⟨rfl, rfl⟩ := hcut
    go_upto_if 24 with fail
    go_cut [] (fun wd => Hid (Wo w wd s (pos + wdN s pos) ps v1 v2) ∧ Hid (Blk wd A 110 (wordAt s pos).cells.toArray))
    case first =>
     have hw0 : wordAt s pos = if br then ⟨0, true, byteN s pos⟩ else ⟨L, false, 0⟩ := by unfold wordAt; rw [hbr, HLo.out]; rfl
     cases br with
     | false =>
      rw [if_neg (by decide)] at hw0
      go_wp2_with fail
      go_meet
      exact ⟨hP2, by rw [hw0]; exact KA⟩
     | true =>
      rw [if_pos rfl] at hw0
      have b0 := KA.out.cell (k := 0) rfl
      have b1 := KA.out.cell (k := 1) rfl
      have b2 := KA.out.cell (k := 2) rfl
      have bf := KA.out.froz
      have hge := get_eqN s pos hp
      have q1 : (pos : Int) < s.size := by omega
      have q0 : (0 : Int) ≤ pos := by omega
      go_wp2_with fail
      go_meet
      rw [← hge]
      refine ⟨((hP2.out.set hA.out hg1.out hg2.out _ _).set hA.out hg1.out hg2.out _ _).set hA.out hg1.out hg2.out _ _, ?_⟩
      rw [hw0]
      exact ((KA.out.set 0 _).set 1 _).set 2 _
    case rest =>
     obtain ⟨hP3, KB⟩ := hcut
     obtain ⟨m, hm⟩ : ∃ m, ps.length = m := ⟨_, rfl⟩
     obtain ⟨p1, c1, rfl⟩ := own_shape hP3.out.u
     obtain ⟨p2, c2, rfl⟩ := own_shape hP3.out.a
     have hwb := hid (word_bd hp)
     obtain ⟨o, ho⟩ : ∃ o, wordAt s pos = o := ⟨_, rfl⟩
     rw [ho] at KB
     have t0 := hP3.out.t.cell (k := 0) rfl
     have t1 := hP3.out.t.cell (k := 1) rfl
     have tf := hP3.out.t.froz
     rw [hm] at t0 t1 hln
     unfold One.cells at KB
     have b0 := KB.out.cell (k := 0) rfl
     have b1 := KB.out.cell (k := 1) rfl
     have b2 := KB.out.cell (k := 2) rfl
     have bf := KB.out.froz
     obtain ⟨So, hSo⟩ : ∃ So, rowS (.slice p1 m c1) ++ rowS (.slice p2 m c2) = So := ⟨_, rfl⟩
     have sT : w.heap.size + 1 ∉ So := fun h => by
      rw [← hSo, ← hm] at h
      rcases List.mem_append.1 h with h | h
      ·have := (own_ge hP3.out.u (rowS_mem h)).1; omega
      ·have := (own_ge hP3.out.a (rowS_mem h)).1; omega
     have sA : A ∉ So := fun h => by
      rw [← hSo, ← hm] at h
      rcases List.mem_append.1 h with h | h
      ·exact hg1.out _ (rowS_mem h) rfl
      ·exact hg2.out _ (rowS_mem h) rfl
     go_wp2_with fail
     have hS1 := hid (show ∀ k, (Value.slice p1 m c1).ownBlock = some k → k ∈ So from fun k hk => by rw [← hSo]; exact List.mem_append_left _ (mem_rowS hk))
     have hS2 := hid (show ∀ k, (Value.slice p2 m c2).ownBlock = some k → k ∈ So from fun k hk => by rw [← hSo]; exact List.mem_append_right _ (mem_rowS hk))
     have Ho := hid ho
     have hps1 := hid (show (ps ++ [pos]).length = m + 1 by rw [List.length_append, hm]; rfl)
     have P : Hid (Wp w wc wc So s (pos + wdN s pos) (.slice p1 m c1) (.slice p2 m c2) (.slice p1 m c1) (.slice p2 m c2) m m (flatE One.cells (ps.map (wordAt s))) (ps.map fun (q : Nat) => Value.int .i64 (q : Int))) := by
      have := hP3.out
      rw [hm] at this
      exact hid ⟨this.it, this.t, this.r, by rw [← hm]; exact hP3.out.u, by rw [← hm]; exact hP3.out.a, this.bel, ButS.refl _ _⟩
     have hmH := hid hm
     clear hSo ho hnx hpre KA hP2 hP1 hC HLo
     refine region_planT So 11 (.quiet 0 (.quiet 1 (.quiet 2 (.quiet 5 (.quiet 6 (.quiet 7 (.two 3 (.two 4 (.quiet 10 (.one 8 (.one 9 .done))) 8 (.one 4 (.quiet 10 (.one 9 .done)))) 8 (.one 3 (.one 4 (.quiet 10 (.one 9 .done))))))))))) (by kernel_rfl) (by kernel_rfl) ?_
     repeat (apply p_quiet; (case hi => rfl); intro K hK; go_simp; (refine ⟨hK _ ?_⟩; clear hK K))
     clear t0 t1 tf b0 b1 b2 bf sT sA hP3 KB hwb hg1 hg2
     refine p_two ?_ ?_
     ·skip
      apply p_one
      case hi => rfl
      intro Wx hbx K hK
      replace P := hid (P.out.low hbx)
      go_wp2_with fail
      have hbA : Below Wx.heap.size Wx (Wx.alloc (.cells #[.int .i32 o.r, .bool o.br, .int .u8 o.b] 110)) := (Below.refl _ _).alloc (Nat.le_refl _) _
      have KU := hid (Blk.new Wx 110 #[.int .i32 o.r, .bool o.br, .int .u8 o.b])
      replace P := hid (P.out.low hbA)
      refine hK _ _ P.out.but ?_
      clear hK K hbx hbA
      generalize Wx.alloc (.cells #[.int .i32 o.r, .bool o.br, .int .u8 o.b] 110) = Wy at *
      generalize Wx.heap.size = BU at *
      refine p_two ?_ ?_
      ·skip
       apply p_one
       case hi => rfl
       intro Wx hbx K hK
       replace P := hid (P.out.low hbx)
       replace KU := hid (KU.out.low hbx)
       clear hbx
       have hit := hid (at_lt P.out.it)
       refine wpList_append_own _ rfl (.tmp 30) (.tmp 32) 77 rfl (w.heap.size + 3) 110 i0 _ 3 8 Tryz.underlying77 hi hz0 hz1 hz2 rfl (by decide) _ _ _ rfl P.out.u ⟨BU, 0, none⟩ 1 1 [.int .i32 o.r, .bool o.br, .int .u8 o.b] rfl rfl (blk_list KU.out) (by simp [Value.oneCell']) (by unfold maxLen; omega) (by omega) (by have := hit.out; omega) ?_
       intro vu w5 hown hgrow hnil
       have hown2 : w5.ownsRow (w.heap.size + 3) 110 3 vu (m + 1) (flatE One.cells ((ps ++ [pos]).map (wordAt s))) := by rw [List.map_append, List.map_singleton, flatE_snoc, Ho.out]; exact hown
       replace P := hid (P.out.grow1 hown2 hgrow hS1.out)
       clear hown hown2 hgrow hnil hit KU
       obtain ⟨pu, cu, rfl⟩ := own_shape P.out.u
       refine ⟨rfl, hK _ _ P.out.but ?_⟩
       clear hK K
       repeat (apply p_quiet; (case hi => rfl); intro K hK; go_simp; (refine ⟨hK _ ?_⟩; clear hK K))
       apply p_one
       case hi => rfl
       intro Wx hbx K hK
       replace P := hid (P.out.low hbx)
       go_wp2_with fail
       have hbA : Below Wx.heap.size Wx (Wx.alloc (.cells #[.int .i64 pos] 3)) := (Below.refl _ _).alloc (Nat.le_refl _) _
       have KV := hid (Blk.new Wx 3 #[.int .i64 pos])
       replace P := hid (P.out.low hbA)
       refine hK _ _ P.out.but ?_
       clear hK K hbx hbA
       generalize Wx.alloc (.cells #[.int .i64 pos] 3) = Wy at *
       generalize Wx.heap.size = BV at *
       apply p_one
       case hi => rfl
       intro Wx hbx K hK
       replace P := hid (P.out.low hbx)
       replace KV := hid (KV.out.low hbx)
       clear hbx
       have hit := hid (at_lt P.out.it)
       refine wpList_append_own _ rfl (.tmp 35) (.tmp 37) 78 rfl (w.heap.size + 3) 3 j0 _ 1 8 Tryz.underlying78 hj hy0 hy1 hy2 rfl (by decide) _ _ _ rfl P.out.a ⟨BV, 0, none⟩ 1 1 [.int .i64 pos] rfl rfl (blk_list KV.out) (by simp [Value.oneCell']) (by unfold maxLen; omega) (by omega) (by have := hit.out; omega) ?_
       intro va w5 hown hgrow hnil
       have hown2 : w5.ownsRow (w.heap.size + 3) 3 1 va (m + 1) ((ps ++ [pos]).map fun (q : Nat) => Value.int .i64 (q : Int)) := by rw [List.map_append]; exact hown
       replace P := hid (P.out.grow2 hown2 hgrow hS2.out)
       clear hown hown2 hgrow hnil hit KV
       obtain ⟨pa, ca, rfl⟩ := own_shape P.out.a
       refine ⟨rfl, hK _ _ P.out.but ?_⟩
       clear hK K
       refine p_doneT ?_
       intro W9 hb9
       replace P := hid (P.out.low hb9)
       clear hb9
       have hD := hid (Wp.done (ps := ps ++ [pos]) (by rw [hps1.out]; exact P.out))
       have z0 := P.out.t.cell (k := 0) rfl
       have z1 := P.out.t.cell (k := 1) rfl
       have zf := P.out.t.froz
       skip
       go_wp2_with fail
       go_roundw
       case rel => exact ⟨pos + wdN s pos, ps ++ [pos], _, _, hD, hL2, hle, by rw [hps1.out]; have := hmeas.out.1; omega⟩
       case measure =>
        have h1 := iterPos_of hD.out.it
        have h2 := hpos0.out
        have h3 := hmeas.out
        omega
      ·skip
       apply p_one
       case hi => rfl
       intro Wx hbx K hK
       replace P := hid (P.out.low hbx)
       replace KU := hid (KU.out.low hbx)
       go_wp2_with fail
       have hbA : Below Wx.heap.size Wx (Wx.alloc (.cells #[.int .i64 pos] 3)) := (Below.refl _ _).alloc (Nat.le_refl _) _
       have KV := hid (Blk.new Wx 3 #[.int .i64 pos])
       replace P := hid (P.out.low hbA)
       replace KU := hid (KU.out.low hbA)
       refine hK _ _ P.out.but ?_
       clear hK K hbx hbA
       generalize Wx.alloc (.cells #[.int .i64 pos] 3) = Wy at *
       generalize Wx.heap.size = BV at *
       apply p_one
       case hi => rfl
       intro Wx hbx K hK
       replace P := hid (P.out.low hbx)
       replace KU := hid (KU.out.low hbx)
       replace KV := hid (KV.out.low hbx)
       clear hbx
       have hit := hid (at_lt P.out.it)
       refine wpList_append_own _ rfl (.tmp 30) (.tmp 32) 77 rfl (w.heap.size + 3) 110 i0 _ 3 8 Tryz.underlying77 hi hz0 hz1 hz2 rfl (by decide) _ _ _ rfl P.out.u ⟨BU, 0, none⟩ 1 1 [.int .i32 o.r, .bool o.br, .int .u8 o.b] rfl rfl (blk_list KU.out) (by simp [Value.oneCell']) (by unfold maxLen; omega) (by omega) (by have := hit.out; omega) ?_
       intro vu w5 hown hgrow hnil
       have hown2 : w5.ownsRow (w.heap.size + 3) 110 3 vu (m + 1) (flatE One.cells ((ps ++ [pos]).map (wordAt s))) := by rw [List.map_append, List.map_singleton, flatE_snoc, Ho.out]; exact hown
       replace KV := hid (KV.out.kept hgrow (fun e => by obtain ⟨c, hc⟩ := own_blk P.out.u e.symm; exact absurd rfl (blk_ne KV.out hc (by decide))))
       replace P := hid (P.out.grow1 hown2 hgrow hS1.out)
       clear hown hown2 hgrow hnil hit KU
       obtain ⟨pu, cu, rfl⟩ := own_shape P.out.u
       refine ⟨rfl, hK _ _ P.out.but ?_⟩
       clear hK K
       repeat (apply p_quiet; (case hi => rfl); intro K hK; go_simp; (refine ⟨hK _ ?_⟩; clear hK K))
       apply p_one
       case hi => rfl
       intro Wx hbx K hK
       replace P := hid (P.out.low hbx)
       replace KV := hid (KV.out.low hbx)
       clear hbx
       have hit := hid (at_lt P.out.it)
       refine wpList_append_own _ rfl (.tmp 35) (.tmp 37) 78 rfl (w.heap.size + 3) 3 j0 _ 1 8 Tryz.underlying78 hj hy0 hy1 hy2 rfl (by decide) _ _ _ rfl P.out.a ⟨BV, 0, none⟩ 1 1 [.int .i64 pos] rfl rfl (blk_list KV.out) (by simp [Value.oneCell']) (by unfold maxLen; omega) (by omega) (by have := hit.out; omega) ?_
       intro va w5 hown hgrow hnil
       have hown2 : w5.ownsRow (w.heap.size + 3) 3 1 va (m + 1) ((ps ++ [pos]).map fun (q : Nat) => Value.int .i64 (q : Int)) := by rw [List.map_append]; exact hown
       replace P := hid (P.out.grow2 hown2 hgrow hS2.out)
       clear hown hown2 hgrow hnil hit KV
       obtain ⟨pa, ca, rfl⟩ := own_shape P.out.a
       refine ⟨rfl, hK _ _ P.out.but ?_⟩
       clear hK K
       refine p_doneT ?_
       intro W9 hb9
       replace P := hid (P.out.low hb9)
       clear hb9
       have hD := hid (Wp.done (ps := ps ++ [pos]) (by rw [hps1.out]; exact P.out))
       have z0 := P.out.t.cell (k := 0) rfl
       have z1 := P.out.t.cell (k := 1) rfl
       have zf := P.out.t.froz
       skip
       go_wp2_with fail
       go_roundw
       case rel => exact ⟨pos + wdN s pos, ps ++ [pos], _, _, hD, hL2, hle, by rw [hps1.out]; have := hmeas.out.1; omega⟩
       case measure =>
        have h1 := iterPos_of hD.out.it
        have h2 := hpos0.out
        have h3 := hmeas.out
        omega
     ·skip
      apply p_one
      case hi => rfl
      intro Wx hbx K hK
      replace P := hid (P.out.low hbx)
      go_wp2_with fail
      have hbA : Below Wx.heap.size Wx (Wx.alloc (.cells #[.int .i64 pos] 3)) := (Below.refl _ _).alloc (Nat.le_refl _) _
      have KV := hid (Blk.new Wx 3 #[.int .i64 pos])
      replace P := hid (P.out.low hbA)
      refine hK _ _ P.out.but ?_
      clear hK K hbx hbA
      generalize Wx.alloc (.cells #[.int .i64 pos] 3) = Wy at *
      generalize Wx.heap.size = BV at *
      apply p_one
      case hi => rfl
      intro Wx hbx K hK
      replace P := hid (P.out.low hbx)
      replace KV := hid (KV.out.low hbx)
      go_wp2_with fail
      have hbA : Below Wx.heap.size Wx (Wx.alloc (.cells #[.int .i32 o.r, .bool o.br, .int .u8 o.b] 110)) := (Below.refl _ _).alloc (Nat.le_refl _) _
      have KU := hid (Blk.new Wx 110 #[.int .i32 o.r, .bool o.br, .int .u8 o.b])
      replace P := hid (P.out.low hbA)
      replace KV := hid (KV.out.low hbA)
      refine hK _ _ P.out.but ?_
      clear hK K hbx hbA
      generalize Wx.alloc (.cells #[.int .i32 o.r, .bool o.br, .int .u8 o.b] 110) = Wy at *
      generalize Wx.heap.size = BU at *
      apply p_one
      case hi => rfl
      intro Wx hbx K hK
      replace P := hid (P.out.low hbx)
      replace KU := hid (KU.out.low hbx)
      replace KV := hid (KV.out.low hbx)
      clear hbx
      have hit := hid (at_lt P.out.it)
      refine wpList_append_own _ rfl (.tmp 30) (.tmp 32) 77 rfl (w.heap.size + 3) 110 i0 _ 3 8 Tryz.underlying77 hi hz0 hz1 hz2 rfl (by decide) _ _ _ rfl P.out.u ⟨BU, 0, none⟩ 1 1 [.int .i32 o.r, .bool o.br, .int .u8 o.b] rfl rfl (blk_list KU.out) (by simp [Value.oneCell']) (by unfold maxLen; omega) (by omega) (by have := hit.out; omega) ?_
      intro vu w5 hown hgrow hnil
      have hown2 : w5.ownsRow (w.heap.size + 3) 110 3 vu (m + 1) (flatE One.cells ((ps ++ [pos]).map (wordAt s))) := by rw [List.map_append, List.map_singleton, flatE_snoc, Ho.out]; exact hown
      replace KV := hid (KV.out.kept hgrow (fun e => by obtain ⟨c, hc⟩ := own_blk P.out.u e.symm; exact absurd rfl (blk_ne KV.out hc (by decide))))
      replace P := hid (P.out.grow1 hown2 hgrow hS1.out)
      clear hown hown2 hgrow hnil hit KU
      obtain ⟨pu, cu, rfl⟩ := own_shape P.out.u
      refine ⟨rfl, hK _ _ P.out.but ?_⟩
      clear hK K
      repeat (apply p_quiet; (case hi => rfl); intro K hK; go_simp; (refine ⟨hK _ ?_⟩; clear hK K))
      apply p_one
      case hi => rfl
      intro Wx hbx K hK
      replace P := hid (P.out.low hbx)
      replace KV := hid (KV.out.low hbx)
      clear hbx
      have hit := hid (at_lt P.out.it)
      refine wpList_append_own _ rfl (.tmp 35) (.tmp 37) 78 rfl (w.heap.size + 3) 3 j0 _ 1 8 Tryz.underlying78 hj hy0 hy1 hy2 rfl (by decide) _ _ _ rfl P.out.a ⟨BV, 0, none⟩ 1 1 [.int .i64 pos] rfl rfl (blk_list KV.out) (by simp [Value.oneCell']) (by unfold maxLen; omega) (by omega) (by have := hit.out; omega) ?_
      intro va w5 hown hgrow hnil
      have hown2 : w5.ownsRow (w.heap.size + 3) 3 1 va (m + 1) ((ps ++ [pos]).map fun (q : Nat) => Value.int .i64 (q : Int)) := by rw [List.map_append]; exact hown
      replace P := hid (P.out.grow2 hown2 hgrow hS2.out)
      clear hown hown2 hgrow hnil hit KV
      obtain ⟨pa, ca, rfl⟩ := own_shape P.out.a
      refine ⟨rfl, hK _ _ P.out.but ?_⟩
      clear hK K
      refine p_doneT ?_
      intro W9 hb9
      replace P := hid (P.out.low hb9)
      clear hb9
      have hD := hid (Wp.done (ps := ps ++ [pos]) (by rw [hps1.out]; exact P.out))
      have z0 := P.out.t.cell (k := 0) rfl
      have z1 := P.out.t.cell (k := 1) rfl
      have zf := P.out.t.froz
      skip
      go_wp2_with fail
      go_roundw
      case rel => exact ⟨pos + wdN s pos, ps ++ [pos], _, _, hD, hL2, hle, by rw [hps1.out]; have := hmeas.out.1; omega⟩
      case measure =>
       have h1 := iterPos_of hD.out.it
       have h2 := hpos0.out
       have h3 := hmeas.out
       omega
  ·obtain rfl : pos = s.size := by omega
   have hnx : ∀ ty, (Instr.next (.pointer (some ⟨w.heap.size + 2, 0, none⟩)) true ty).run Tryz.prog wr = _ := fun ty => Lib.run_next_end_at wr (w.heap.size + 2) s s.size ty hP.out.it hp
   have hLs : Hid (posL s 0 = ps) := by rw [hL.out, posL_end hp, List.append_nil]; exact hid rfl
   obtain ⟨m, hm⟩ : ∃ m, ps.length = m := ⟨_, rfl⟩
   obtain ⟨p1, c1, rfl⟩ := own_shape hP.out.u
   obtain ⟨p2, c2, rfl⟩ := own_shape hP.out.a
   rw [hm] at hP
   have P : Hid (Wp w wr wr (rowS (.slice p2 m c2)) s s.size (.slice p1 m c1) (.slice p2 m c2) (.slice p1 m c1) (.slice p2 m c2) m m (flatE One.cells (ps.map (wordAt s))) (ps.map fun (q : Nat) => Value.int .i64 (q : Int))) := by
    have := hP.out
    exact hid ⟨this.it, this.t, this.r, by have := hP.out.u; rw [hm] at this; exact this, by have := hP.out.a; rw [hm] at this; exact this, this.bel, ButS.refl _ _⟩
   have hm1 : m ≤ 100000000 := by omega
   have hmH := hid hm
   clear hP hL hpos0 hm
   have hbA : Below wr.heap.size wr (wr.alloc (.cells #[.int .i64 s.size] 3)) := (Below.refl _ _).alloc (Nat.le_refl _) _
   have t0 := P.out.t.cell (k := 0) rfl
   have t1 := P.out.t.cell (k := 1) rfl
   have tf := P.out.t.froz
   have KV := hid (Blk.new wr 3 #[.int .i64 s.size])
   have P2 := hid (P.out.low hbA)
   go_wp2_with (at_builtin; refine stop_here ?_)
   clear t0 t1 tf hbA P hnx
   generalize wr.alloc (.cells #[.int .i64 s.size] 3) = W2 at *
   generalize wr.heap.size = BV at *
   have hit := hid (at_lt P2.out.it)
   refine wpList_append_own _ rfl (.tmp 42) (.tmp 45) 78 rfl (w.heap.size + 3) 3 j0 _ 1 8 Tryz.underlying78 hj hy0 hy1 hy2 rfl (by decide) _ _ _ rfl P2.out.a ⟨BV, 0, none⟩ 1 1 [.int .i64 s.size] rfl rfl (blk_list KV.out) (by simp [Value.oneCell']) (by unfold maxLen; omega) (by omega) (by have := hit.out; omega) ?_
   intro va w5 hown hgrow hnil
   have hown2 : w5.ownsRow (w.heap.size + 3) 3 1 va (m + 1) ((atL s).map fun (q : Nat) => Value.int .i64 (q : Int)) := by unfold atL; rw [hLs.out, List.map_append]; exact hown
   have P5 := hid (P2.out.grow2 hown2 hgrow (fun k hk => mem_rowS hk))
   clear hown hown2 hgrow hnil hit KV P2
   obtain ⟨pa, ca, rfl⟩ := own_shape P5.out.a
   have t0 := P5.out.t.cell (k := 0) rfl
   have t1 := P5.out.t.cell (k := 1) rfl
   have tf := P5.out.t.froz
   have r0 := P5.out.r.cell (k := 0) rfl
   have r1 := P5.out.r.cell (k := 1) rfl
   have rf := P5.out.r.froz
   go_wp2_with fail
   have hk := ((P5.out.r.other (B' := w.heap.size + 1) (k := 1) (by omega) (.slice pa (m + 1) ca)).set 0 (.slice p1 m c1)).set 1 (.slice pa (m + 1) ca)
   have hu := own_mono (own_set (own_set (own_set P5.out.u (B := w.heap.size + 1) (by omega) 1 (.slice pa (m + 1) ca)) (B := w.heap.size) (by omega) 0 (.slice p1 m c1)) (B := w.heap.size) (by omega) 1 (.slice pa (m + 1) ca)) (show w.heap.size ≤ w.heap.size + 3 by omega)
   have ha := own_mono (own_set (own_set (own_set P5.out.a (B := w.heap.size + 1) (by omega) 1 (.slice pa (m + 1) ca)) (B := w.heap.size) (by omega) 0 (.slice p1 m c1)) (B := w.heap.size) (by omega) 1 (.slice pa (m + 1) ca)) (show w.heap.size ≤ w.heap.size + 3 by omega)
   have hbel := below_set (below_set (below_set P5.out.bel (b := w.heap.size + 1) (by omega) 1 (.slice pa (m + 1) ca)) (b := w.heap.size) (Nat.le_refl _) 0 (.slice p1 m c1)) (b := w.heap.size) (Nat.le_refl _) 1 (.slice pa (m + 1) ca)
   have hwl : wordL s = ps.map (wordAt s) := by unfold wordL; rw [hLs.out]
   refine bodyPost_ret_by (v := .agg #[.slice p1 m c1, .slice pa (m + 1) ca]) (by simp [results, Tryz.results29, asAddr, run_loadVar_row _ w.heap.size 80 80 #[.slice p1 m c1, .slice pa (m + 1) ca] (0, 0) _ hk Tryz.underlying80 rfl (by kernel_rfl)]) rfl ?_
   refine ⟨⟨_, _, rfl, ?_, ?_⟩, hbel⟩
   ·rw [hwl, List.length_map, hmH.out]; exact hu
   ·rw [atL_len, hwl, List.length_map, hmH.out]; exact ha
end Go.Proofs.YtieifhfgedoiaaaGreatDoor
/- A word's pieces: the document's hand. Conditions: those of each theorem. -/
namespace Go.Proofs.YtieifhfgedoiaaaGreatDoor
open Go.RowKit Go.Lib
set_option linter.unusedVariables false
set_option linter.unusedSimpArgs false
attribute [local go_sem] ExtS.cell ExtS.froz upE_value upE_skip upE_enter Ext.cell Ext.froz
theorem posL_lt {s : ByteArray} : ∀ (k p : Nat), s.size - p = k → ∀ q ∈ posL s p, q < s.size := by
 intro k
 induction k using Nat.strongRecOn with
 | ind k ih =>
  intro p hk q hq
  by_cases hp : p < s.size
  ·rw [posL_more hp] at hq
   have hw := wdN_pos hp
   rcases List.mem_cons.1 hq with rfl | h
   ·exact hp
   ·exact ih _ (by omega) _ rfl q h
  ·rw [posL_end hp] at hq; cases hq
end Go.Proofs.YtieifhfgedoiaaaGreatDoor
