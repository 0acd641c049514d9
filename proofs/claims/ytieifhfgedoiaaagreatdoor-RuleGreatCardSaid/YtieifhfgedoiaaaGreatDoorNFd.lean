/- rules as the document reads them. Conditions: those of each theorem. -/
import Derived.Test.YtieifhfgedoiaaaGreatDoorNFc
import Derived.Test.YtieifhfgedoiaaaGreatDoorNFa
import Derived.Test.YtieifhfgedoiaaaGreatDoorNSa
namespace Go.Proofs.YtieifhfgedoiaaaGreatDoor
open Go.RowKit Go.Lib
set_option linter.unusedVariables false
set_option linter.unusedSimpArgs false
attribute [local go_sem] ExtS.cell ExtS.froz upE_value upE_skip upE_enter Ext.cell Ext.froz
structure DVal (w : World) (base : Nat) (c : Array Value) (x : Rs) : Prop where
 ex : ∃ (Vc : Nat → Value) (v : Value), c.size = 79 ∧
  (∀ i, i < 26 → c[i]? = some (.bool (x.said i)) ∧ c[26 + i]? = some (.string (x.ln i)) ∧ c[52 + i]? = some (Vc i) ∧ w.ownsRow base 138 3 (Vc i) (x.pcs i).length (flatE One.cells (x.pcs i))) ∧
  c[78]? = some v ∧ DRows w base v x.rules
theorem DAt.val {w : World} {X base : Nat} {x : Rs} (h : DAt w X base x) : ∃ c, Blk w X 31 c ∧ DVal w base c x := by
 obtain ⟨c, Vc, v, h1, h2, h3, h4, h5⟩ := h.ex
 exact ⟨c, h1, ⟨Vc, v, h2, h3, h4, h5⟩⟩
theorem DVal.low {w w' : World} {base : Nat} {c : Array Value} {x : Rs} (h : DVal w base c x) (hb : Below w.heap.size w w') : DVal w' base c x := by
 obtain ⟨Vc, v, h2, h3, h4, h5⟩ := h.ex
 exact ⟨Vc, v, h2, fun i hi => ⟨(h3 i hi).1, (h3 i hi).2.1, (h3 i hi).2.2.1, own_low (h3 i hi).2.2.2 hb⟩, h4, h5.low hb⟩
theorem DVal.but {w w' : World} {base : Nat} {c : Array Value} {x : Rs} {S : List Nat} (h : DVal w base c x) (hb : ButS S w w') (hS : Free S w) : DVal w' base c x := by
 obtain ⟨Vc, v, h2, h3, h4, h5⟩ := h.ex
 exact ⟨Vc, v, h2, fun i hi => ⟨(h3 i hi).1, (h3 i hi).2.1, (h3 i hi).2.2.1, own_butT (h3 i hi).2.2.2 hb (fun B hB => by obtain ⟨t, a, ht, k⟩ := hS B hB; exact ⟨t, a, ht.2.1, k⟩)⟩, h4, h5.but hb hS⟩
theorem DRows.mono {w : World} {b b' : Nat} {v : Value} {L : List Rl} (h : DRows w b v L) (hb : b' ≤ b) : DRows w b' v L := by
 obtain ⟨Vs, h1, h2, h3⟩ := h
 exact ⟨Vs, h1, own_mono h2 hb, fun y hy => (h3 y hy).mono hb⟩
theorem DVal.mono {w : World} {b b' : Nat} {c : Array Value} {x : Rs} (h : DVal w b c x) (hb : b' ≤ b) : DVal w b' c x := by
 obtain ⟨Vc, v, h2, h3, h4, h5⟩ := h.ex
 exact ⟨Vc, v, h2, fun i hi => ⟨(h3 i hi).1, (h3 i hi).2.1, (h3 i hi).2.2.1, own_mono (h3 i hi).2.2.2 hb⟩, h4, h5.mono hb⟩
def zero31 : Array Value := (List.replicate 26 (Value.bool false) ++ List.replicate 26 (Value.string ⟨#[]⟩) ++ List.replicate 27 (Value.slice none 0 0)).toArray
theorem zero31_eq : Tryz.zeroCells31 = zero31 := by kernel_rfl
theorem zero31_at (i : Nat) (h : i < 26) : zero31[i]? = some (.bool false) ∧ zero31[26 + i]? = some (.string ⟨#[]⟩) ∧ zero31[52 + i]? = some (.slice none 0 0) := by
 unfold zero31
 rw [List.getElem?_toArray, List.getElem?_toArray, List.getElem?_toArray]
 refine ⟨?_, ?_, ?_⟩
 ·rw [List.getElem?_append_left (by simp; omega), List.getElem?_append_left (by simp; omega), List.getElem?_replicate, if_pos h]
 ·rw [List.getElem?_append_left (by simp; omega), List.getElem?_append_right (by simp), List.length_replicate, List.getElem?_replicate, if_pos (by omega)]
 ·rw [List.getElem?_append_right (by simp), List.length_append, List.length_replicate, List.length_replicate, List.getElem?_replicate, if_pos (by omega)]
theorem DAt.zero {w : World} {X base : Nat} (h : Blk w X 31 zero31) : DAt w X base Rs.empty :=
 ⟨zero31, fun _ => .slice none 0 0, .slice none 0 0, h, rfl, fun i hi => ⟨(zero31_at i hi).1, (zero31_at i hi).2.1, (zero31_at i hi).2.2, World.ownsRow_nil _ _ _ _⟩, rfl, DRows.nil _ _⟩
def RdPost (w w' : World) (o : Out) (e : Ending) : Prop :=
 match o with
 | .ok y => ∃ c, e = .returned (.tuple #[.agg c, .int .i64 0, .int .i64 0]) ∧ DVal w' w.heap.size c y ∧ y.rules.length ≤ 256
 | .bad er q => er ≠ 0 ∧ ∃ c : Array Value, e = .returned (.tuple #[.agg c, .int .i64 er, .int .i64 q]) ∧ c.size = 79 ∧ c.all (·.oneCell') = true
theorem lineR_le {x : Rs} {s : ByteArray} {e : Int} {q : Nat} (h : lineR x s = .bad e q) : q ≤ s.size := by
 unfold lineR at h
 split at h
 ·cases h
 ·split at h
  ·rename_i hc
   exact clsR_le (by have := (of_decide_eq_true hc).1; omega) h
  ·exact ruleR_le h
theorem DVal.one {w : World} {base : Nat} {c : Array Value} {x : Rs} (h : DVal w base c x) : c.size = 79 ∧ c.all (·.oneCell') = true := by
 obtain ⟨Vc, v, h2, h3, h4, h5⟩ := h.ex
 refine ⟨h2, ?_⟩
 rw [Array.all_eq_true]
 intro i hi
 have key : ∀ u, c[i]? = some u → c[i] = u := fun u hu => by rw [Array.getElem?_eq_getElem hi] at hu; exact Option.some.inj hu
 by_cases a : i < 26
 ·rw [key _ (h3 i a).1]; rfl
 ·by_cases b : i < 52
  ·rw [key (.string (x.ln (i - 26))) (by have := (h3 (i - 26) (by omega)).2.1; rwa [show 26 + (i - 26) = i by omega] at this)]; rfl
  ·by_cases d : i < 78
   ·obtain ⟨_, _, g3, g4⟩ := h3 (i - 52) (by omega)
    obtain ⟨p, cap, e⟩ := own_shape g4
    rw [key (Vc (i - 52)) (by rwa [show 52 + (i - 52) = i by omega] at g3), e]; rfl
   ·obtain ⟨Vs, _, g, _⟩ := h5
    obtain ⟨p, cap, e⟩ := own_shape g
    rw [key v (by rwa [show 78 = i by omega] at h4), e]; rfl
theorem setRow_but (w : World) (g : Nat) (cs : Array Value) : ButS [g] w (w.setRow g cs) :=
 ⟨rfl, rfl, rfl, by simp, fun k hk hS => by
  show (w.heap.modify g _)[k]? = w.heap[k]?
  rw [Array.getElem?_modify, if_neg (fun e => hS (by rw [e]; simp))]⟩
set_option maxRecDepth 100000 in
set_option maxHeartbeats 8000000 in
theorem dread33 (s : ByteArray) (hs : s.size ≤ 65536) (w : World) : Calls Tryz.prog 16 #[.string s] w fun e w' => RdPost w w' (linesR Rs.empty 0 (linesB s)) e ∧ Below w.heap.size w w' := by
 have q1 := dF (show ¬ ((65536 : Int) < s.size) by omega)
 have q2 := dF (show ¬ (65536 < s.size) by omega)
 rw [linesB_eq]
 go_enter Tryz.func16, Tryz.ntmps16
 go_wp2_with (refine wpList_store_row rfl 31 _ _ rfl (w.heap.size + 1) Tryz.zeroCells31 rfl rfl 31 Tryz.zeroCells31 (by rw [← World.size_alloc w (.cells Tryz.zeroCells31 31)]; exact heap_alloc_new _ _) (by kernel_rfl) rfl (by kernel_rfl) ?_)
 have hA1 : Below w.heap.size w (w.alloc (.cells Tryz.zeroCells31 31)) := (Below.refl _ w).alloc (Nat.le_refl _) _
 have hSt : Hid (DAt (((w.alloc (.cells Tryz.zeroCells31 31)).alloc (.cells Tryz.zeroCells31 31)).setRow (w.heap.size + 1) Tryz.zeroCells31) (w.heap.size + 1) (w.heap.size + 1) Rs.empty ∧ Blk (((w.alloc (.cells Tryz.zeroCells31 31)).alloc (.cells Tryz.zeroCells31 31)).setRow (w.heap.size + 1) Tryz.zeroCells31) w.heap.size 31 zero31 ∧ Below w.heap.size w (((w.alloc (.cells Tryz.zeroCells31 31)).alloc (.cells Tryz.zeroCells31 31)).setRow (w.heap.size + 1) Tryz.zeroCells31)) := by
  have hk := Blk.new (w.alloc (.cells Tryz.zeroCells31 31)) 31 Tryz.zeroCells31
  rw [World.size_alloc] at hk
  have hk0 := (Blk.new w 31 Tryz.zeroCells31).alloc (.cells Tryz.zeroCells31 31)
  have hB := setRow_but ((w.alloc (.cells Tryz.zeroCells31 31)).alloc (.cells Tryz.zeroCells31 31)) (w.heap.size + 1) Tryz.zeroCells31
  have hk2 := setRow_heap _ (w.heap.size + 1) Tryz.zeroCells31 Tryz.zeroCells31 31 _ hk
  rw [zero31_eq] at *
  refine hid ⟨DAt.zero hk2, hB.blk hk0 (by simp), ?_⟩
  exact (hA1.alloc hA1.size _).trans (hB.below (fun k hk => by rw [List.mem_singleton] at hk; omega) (by simp; omega))
 clear hA1
 generalize ((w.alloc (.cells Tryz.zeroCells31 31)).alloc (.cells Tryz.zeroCells31 31)).setRow (w.heap.size + 1) Tryz.zeroCells31 = W0 at *
 obtain ⟨X, hX⟩ : ∃ X, w.heap.size + 1 = X := ⟨_, rfl⟩
 rw [hX] at hSt
 simp only [hX]
 have HXn := hid hX
 have hXg : w.heap.size < X := by omega
 have hXl : X ≤ w.heap.size + 1 := by omega
 clear hX
 go_loopw [6, 7] (fun v6 v7 wr => ∃ (a i : Nat) (y : Rs), v6 = .int .i64 a ∧ v7 = .int .i64 i ∧ a ≤ i ∧ i ≤ s.size + 1 ∧ y.rules.length ≤ 256 ∧ Hid (DAt wr X X y) ∧ Hid (Blk wr w.heap.size 31 zero31) ∧ Hid (Below w.heap.size w wr) ∧ Hid (linesR Rs.empty 0 (cutL s 0 0) = if i ≤ s.size then linesR y a (cutL s a i) else .ok y)) (fun _ v _ => s.size + 1 - (RowKit.intOf v).toNat)
 case atStart => exact ⟨0, 0, Rs.empty, rfl, rfl, Nat.le_refl _, by omega, by show 0 ≤ 256; omega, hid hSt.out.1, hid hSt.out.2.1, hid hSt.out.2.2, by rw [if_pos (Nat.zero_le _)]; exact hid rfl⟩
 case round =>
  obtain ⟨a, i, y, rfl, rfl, hai, his, hyl, hD, hZ, hB, hE⟩ := hrel
  clear hSt
  have hw1 : IntKind.i64.wrap ((i : Int) + 1) = (i : Int) + 1 := Wi64 (by omega)
  by_cases hle : i ≤ s.size
  ·have t1 := dT (show (i : Int) ≤ s.size by omega)
   have t2 : decide (i ≤ s.size) = true := decide_eq_true hle
   by_cases hgo : i < s.size ∧ byteN s i ≠ 10
   ·have hbi := get_eqN s i hgo.1
    have t3 := dT (show (i : Int) < s.size by omega)
    have t4 : decide (i < s.size) = true := decide_eq_true hgo.1
    have t5 : (((s[i]'hgo.1).toNat : Int) != 10) = true := bne_true_of (by have := hgo.2; omega)
    have t6 : (i : Int) < s.size := by omega
    have hE2 : Hid (linesR Rs.empty 0 (cutL s 0 0) = if i + 1 ≤ s.size then linesR y a (cutL s a (i + 1)) else .ok y) := by rw [hE.out, if_pos hle, cutL_go hgo.1 hgo.2, if_pos (by omega)]; exact hid rfl
    have t7 := hgo.1
    clear hbi
    go_wp2_with fail
    go_roundw
    case rel => exact ⟨a, i + 1, y, rfl, by go_num, by omega, by omega, hyl, hD, hZ, hB, hE2⟩
    case measure => simp [RowKit.intOf]; omega
   ·have hline : Hid (linesR Rs.empty 0 (cutL s 0 0) = match lineR y (s.extract a i) with
     | .ok y' => if i + 1 ≤ s.size then linesR y' (i + 1) (cutL s (i + 1) (i + 1)) else .ok y'
     | .bad e q => .bad e (a + q)) := by
     rw [hE.out, if_pos hle]
     have hts : (s.extract a i).size = i - a := by rw [ByteArray.size_extract]; omega
     by_cases h1 : i < s.size
     ·have h2 : byteN s i = 10 := Classical.byContradiction fun h => hgo ⟨h1, h⟩
      have h3 : i + 1 ≤ s.size := by omega
      rw [cutL_nl h1 h2]
      simp only [h3, if_true]
      show Hid ((match lineR y (s.extract a i) with | .ok y' => linesR y' (a + (s.extract a i).size + 1) (cutL s (i + 1) (i + 1)) | .bad e q => .bad e (a + q)) = _)
      rw [hts, show a + (i - a) + 1 = i + 1 by omega]
      cases lineR y (s.extract a i) <;> exact hid rfl
     ·have h3 : ¬ i + 1 ≤ s.size := by omega
      have h4 : i = s.size := by omega
      rw [cutL_end h1]
      simp only [h3, if_false]
      rw [← h4]
      show Hid ((match lineR y (s.extract a i) with | .ok y' => linesR y' (a + (s.extract a i).size + 1) [] | .bad e q => .bad e (a + q)) = _)
      cases lineR y (s.extract a i) <;> exact hid rfl
    obtain ⟨t, ht⟩ : ∃ t, s.extract a i = t := ⟨_, rfl⟩
    rw [ht] at hline
    have hts : t.size ≤ 100000000 := by rw [← ht, ByteArray.size_extract]; omega
    have hT := hid ht
    have t7 : (a : Int) ≤ i := by omega
    have t8 : (i : Int) ≤ s.size := by omega
    have hPc := hid (fun W => pieces_own t W hts)
    clear hE ht
    go_upto_region 8 with fail
    go_cut [30] (fun v wd => v = .bool false ∧ wd = wr)
    case first =>
     by_cases h1 : i < s.size
     ·have h2 : byteN s i = 10 := Classical.byContradiction fun h => hgo ⟨h1, h⟩
      have hbi := get_eqN s i h1
      have t3 := dT (show (i : Int) < s.size by omega)
      have t4 : decide (i < s.size) = true := decide_eq_true h1
      have t5 : (((s[i]'h1).toNat : Int) != 10) = false := bne_false_of (by omega)
      have t6 : (i : Int) < s.size := by omega
      clear h2 hbi hgo
      go_wp2_with fail
      go_meet
      exact ⟨rfl, rfl⟩
     ·have t3 := dF (show ¬ ((i : Int) < s.size) by omega)
      have t4 : decide (i < s.size) = false := decide_eq_false h1
      clear hgo
      go_wp2_with fail
      go_meet
      exact ⟨rfl, rfl⟩
    case rest =>
     obtain ⟨rfl, rfl⟩ := hcut
     clear hgo
     go_wp2_with fail
     simp only [hT.out]
     go_at_call 26
     with_reducible refine Calls.mono (hPc.out _) ?_
     rintro e w2 ⟨lv, rfl, hO, hb2⟩
     skip
     obtain ⟨pl, cl, rfl⟩ := own_shape hO
     have hB2 := hid (bnext hB.out hb2)
     have hD2 := hid (hD.out.low hb2)
     have hZ2 := hid (hZ.out.low hb2)
     have hO2 := hid hO
     clear hO hb2 hPc
     have hXw2 : X < w2.heap.size := by obtain ⟨c, hc, _⟩ := hD2.out.blk; exact hc.lt
     go_upto_region 11 with fail
     have hbA : Below w2.heap.size w2 (w2.alloc (.cells #[.string t, .slice pl (posL t 0).length cl, .int .i64 0, .int .i64 0, .int .i64 0, .pointer (some ⟨X, 0, none⟩)] 76)) := (Below.refl _ _).alloc (Nat.le_refl _) _
     have HLn := hid (show Ln (w2.alloc (.cells #[.string t, .slice pl (posL t 0).length cl, .int .i64 0, .int .i64 0, .int .i64 0, .pointer (some ⟨X, 0, none⟩)] 76)) w2.heap.size t (.slice pl (posL t 0).length cl) 0 0 0 (.pointer (some ⟨X, 0, none⟩)) from ⟨Blk.new _ _ _, _, hO2.out.alloc _⟩)
     have hD3 := hid (hD2.out.low hbA)
     have hZ3 := hid (hZ2.out.low hbA)
     have hB3 := hid (hB2.out.alloc hB2.out.size (.cells #[.string t, .slice pl (posL t 0).length cl, .int .i64 0, .int .i64 0, .int .i64 0, .pointer (some ⟨X, 0, none⟩)] 76))
     have hRX : X ≤ w2.heap.size := by omega
     have hRg : w.heap.size < w2.heap.size := by omega
     clear hbA hD2 hZ2 hB2 hO2 hD hZ hB
     generalize hlv : Value.slice pl (posL t 0).length cl = lv at *
     generalize w2.alloc (.cells #[.string t, lv, .int .i64 0, .int .i64 0, .int .i64 0, .pointer (some ⟨X, 0, none⟩)] 76) = W3 at *
     generalize w2.heap.size = R at *
     clear hlv
     go_cut [56] (fun v wd => v = .bool (isC t) ∧ wd = W3)
     case first =>
      by_cases h1 : 1 < t.size
      ·have u1 := dT (show (1 : Int) < t.size by omega)
       have u2 : decide (1 < t.size) = true := decide_eq_true h1
       have h0 : 0 < t.size := by omega
       have b0 := get_eqN t 0 h0
       have b1 := get_eqN t 1 h1
       obtain ⟨x0, hx0⟩ : ∃ x0, (t[0]'h0).toNat = x0 := ⟨_, rfl⟩
       obtain ⟨x1, hx1⟩ : ∃ x1, (t[1]'h1).toNat = x1 := ⟨_, rfl⟩
       rw [hx0] at b0
       rw [hx1] at b1
       have u3 : (1 : Int) < t.size := by omega
       have u4 : (0 : Int) < t.size := by omega
       by_cases ha : 65 ≤ x0
       ·have u5 := dT (show (65 : Int) ≤ x0 by omega)
        by_cases hb : x0 ≤ 90
        ·have u6 := dT (show (x0 : Int) ≤ 90 by omega)
         by_cases hc : x1 = 32
         ·have hv : Hid (isC t = true) := by unfold isC; rw [b0, b1]; exact hid (decide_eq_true ⟨h1, ha, hb, hc⟩)
          have u7 : ((x1 : Int) == 32) = true := beq_true_of (by omega)
          clear b0 b1 hc
          go_wp2_with fail
          go_meet
          rw [hv.out]
          exact ⟨rfl, rfl⟩
         ·have hv : Hid (isC t = false) := by unfold isC; rw [b0, b1]; exact hid (decide_eq_false (fun h => hc h.2.2.2))
          have u7 : ((x1 : Int) == 32) = false := beq_false_of (by omega)
          clear b0 b1
          go_wp2_with fail
          go_meet
          rw [hv.out]
          exact ⟨rfl, rfl⟩
        ·have hv : Hid (isC t = false) := by unfold isC; rw [b0]; exact hid (decide_eq_false (fun h => hb h.2.2.1))
         have u6 := dF (show ¬ ((x0 : Int) ≤ 90) by omega)
         clear b0 b1
         go_wp2_with fail
         go_meet
         rw [hv.out]
         exact ⟨rfl, rfl⟩
       ·have hv : Hid (isC t = false) := by unfold isC; rw [b0]; exact hid (decide_eq_false (fun h => ha h.2.1))
        have u5 := dF (show ¬ ((65 : Int) ≤ x0) by omega)
        clear b0 b1
        go_wp2_with fail
        go_meet
        rw [hv.out]
        exact ⟨rfl, rfl⟩
      ·have hv : Hid (isC t = false) := by unfold isC; exact hid (decide_eq_false (fun h => h1 h.1))
       have u1 := dF (show ¬ ((1 : Int) < t.size) by omega)
       have u2 : decide (1 < t.size) = false := decide_eq_false h1
       go_wp2_with fail
       go_meet
       rw [hv.out]
       exact ⟨rfl, rfl⟩
     case rest =>
      obtain ⟨rfl, hwd⟩ := hcut
      replace hwd := hwd.symm
      subst hwd
      go_upto_if 56 with fail
      go_cut [] (fun wd => Hid (DPost wd X R X t lv (lineR y t)) ∧ Hid (Below X W3 wd))
      case first =>
       cases hC : isC t with
       | true =>
        obtain ⟨h1, h2, h3⟩ := isC_spec hC
        obtain ⟨g1, g2, g3⟩ := of_decide_eq_true h2
        have hE5 := hid (lineR_C (x := y) (t := t) (by omega) (by unfold byteN at *; omega) hC)
        have hCl := hid (lclass_any HLn.out hD3.out hC hts hRX (Nat.le_refl _))
        go_wp2_with fail
        go_at_call 27
        with_reducible refine Calls.mono (hCl.out) ?_
        rintro e w4 ⟨rfl, hP4, hb4⟩
        have HP4 := hid hP4
        have HB4 := hid hb4
        clear hP4 hb4
        go_wp2_with fail
        go_meet
        rw [hE5.out]
        exact ⟨HP4, HB4⟩
       | false =>
        by_cases h0 : 0 < t.size
        ·have b0 := get_eqN t 0 h0
         have u1 := dT (show (0 : Int) < t.size by omega)
         have u2 : decide (0 < t.size) = true := decide_eq_true h0
         have u3 : (0 : Int) < t.size := by omega
         obtain ⟨x0, hx0⟩ : ∃ x0, (t[0]'h0).toNat = x0 := ⟨_, rfl⟩
         rw [hx0] at b0
         by_cases h59 : x0 = 59
         ·have u4 : ((x0 : Int) != 59) = false := bne_false_of (by omega)
          have hE5 : Hid (lineR y t = .ok y) := by unfold lineR; rw [if_pos (.inr (by rw [b0]; exact h59))]; exact hid rfl
          clear b0 h59
          go_wp2_with fail
          go_meet
          rw [hE5.out]
          exact ⟨hid ⟨⟨_, HLn.out⟩, hD3.out⟩, hid (Below.refl _ _)⟩
         ·have u4 : ((x0 : Int) != 59) = true := bne_true_of (by omega)
          have hE5 := hid (lineR_R (x := y) (t := t) (by omega) (by rw [b0]; exact h59) hC)
          have hCl := hid (lrule_any HLn.out hD3.out hyl hts hRX (Nat.le_refl _))
          clear b0
          go_wp2_with fail
          go_at_call 28
          with_reducible refine Calls.mono (hCl.out) ?_
          rintro e w4 ⟨rfl, hP4, hb4⟩
          have HP4 := hid hP4
          have HB4 := hid hb4
          clear hP4 hb4
          go_wp2_with fail
          go_meet
          rw [hE5.out]
          exact ⟨HP4, HB4⟩
        ·have u1 := dF (show ¬ ((0 : Int) < t.size) by omega)
         have u2 : decide (0 < t.size) = false := decide_eq_false h0
         have hE5 : Hid (lineR y t = .ok y) := by unfold lineR; rw [if_pos (.inl (by omega))]; exact hid rfl
         go_wp2_with fail
         go_meet
         rw [hE5.out]
         exact ⟨hid ⟨⟨_, HLn.out⟩, hD3.out⟩, hid (Below.refl _ _)⟩
      case rest =>
       obtain ⟨HP, HB⟩ := hcut
       have hZ4 : Hid (Blk wc w.heap.size 31 zero31) := hid (hZ3.out.lowN HB.out hXg)
       have hBw : Hid (Below w.heap.size w wc) := hid (hB3.out.trans (HB.out.mono (by omega)))
       cases hl : lineR y t with
       | ok y' =>
        rw [hl] at HP hline
        obtain ⟨⟨k, hL⟩, hDn⟩ := HP.out
        have hyl' := lineR_len hl hyl
        obtain ⟨c0, c1, c2, c3, c4, c5, cf⟩ := hL.c6
        have hDn' := hid hDn
        have hE9 : Hid (linesR Rs.empty 0 (cutL s 0 0) = if i + 1 ≤ s.size then linesR y' (i + 1) (cutL s (i + 1) (i + 1)) else .ok y') := hline
        clear hL hDn
        go_wp2_with fail
        go_roundw
        case rel => exact ⟨i + 1, i + 1, y', by go_num, by go_num, Nat.le_refl _, by omega, hyl', hDn', hZ4, hBw, hE9⟩
        case measure => simp [RowKit.intOf]; omega
       | bad e q =>
        rw [hl] at HP hline
        obtain ⟨he, k, hL⟩ := HP.out
        have HL9 := hid hL
        obtain ⟨c0, c1, c2, c3, c4, c5, cf⟩ := hL.c6
        have u1 : (e != 0) = true := bne_true_of he
        have hE9 : Hid (linesR Rs.empty 0 (cutL s 0 0) = .bad e (a + q)) := hline
        have hL9lt := hid HL9.out.b.lt
        have hq9 : Hid (q ≤ 65536) := hid (by
         have hb9 : q ≤ t.size := lineR_le hl
         have : t.size ≤ 65536 := by rw [← hT.out, ByteArray.size_extract]; omega
         omega)
        clear hL
        have hRl := hL9lt.out
        have hw5 : IntKind.i64.wrap ((a : Int) + q) = (a : Int) + q := IntWalk.i64_in _ (by have := hq9.out; omega)
        have nRZ : w.heap.size ≠ R := by omega
        have nRZ' : R ∉ [w.heap.size] := by simp; omega
        go_wp2_with fail
        refine region_plan [w.heap.size] (.quiet 0 (.quiet 1 (.quiet 2 (.quiet 3 (.quiet 4 (.quiet 5 (.quiet 6 (.one 7 (.quiet 8 (.quiet 9 .done)))))))))) (by kernel_rfl) (by kernel_rfl) ?_
        repeat (apply p_quiet; (case hi => rfl); intro K hK; go_simp; (refine ⟨hK _ ?_⟩; clear hK K))
        apply p_one
        case hi => rfl
        intro W5 hb5 K hK
        have hZ5 := hid (hZ4.out.low hb5)
        have hBR := hid (setRow_but W5 w.heap.size Tryz.zeroCells31)
        refine wpList_store_row rfl 31 _ _ rfl w.heap.size Tryz.zeroCells31 rfl rfl 31 zero31 hZ5.out (by kernel_rfl) (by rw [zero31_eq]) (by kernel_rfl) ?_
        refine ⟨rfl, hK _ _ ((ButS.of hb5).trans hBR.out) ?_⟩
        have hk2 := hid (setRow_heap W5 w.heap.size zero31 Tryz.zeroCells31 31 _ hZ5.out)
        have hB6 := hid ((bnext hBw.out hb5).trans (hBR.out.below (fun k hk => by rw [List.mem_singleton] at hk; omega) (bnext hBw.out hb5).size))
        clear hK K hb5
        generalize W5.setRow w.heap.size Tryz.zeroCells31 = W6 at *
        repeat (apply p_quiet; (case hi => rfl); intro K hK; go_simp; (refine ⟨hK _ ?_⟩; clear hK K))
        apply p_done
        intro W7 hb7
        have hk3 : W7.heap[w.heap.size]? = some (.cells Tryz.zeroCells31 31 (0, 0)) := (show Blk W6 w.heap.size 31 Tryz.zeroCells31 from hk2.out).low hb7
        have hB7 := hid (bnext hB6.out hb7)
        go_wp2_with fail
        refine bodyPost_ret_by (v := .tuple #[.agg Tryz.zeroCells31, .int .i64 e, .int .i64 ((a : Int) + q)]) (by simp [results, Tryz.results16, asAddr, run_loadVar_row _ w.heap.size 31 31 Tryz.zeroCells31 (0, 0) _ hk3 Tryz.underlying31 rfl (by kernel_rfl)]) rfl ?_
        rw [hE9.out]
        have hcast : ((a + q : Nat) : Int) = (a : Int) + q := by omega
        exact ⟨⟨he, _, by rw [hcast], by kernel_rfl, by kernel_rfl⟩, hB7.out⟩
  ·obtain rfl : i = s.size + 1 := by omega
   have t1 := dF (show ¬ (((s.size + 1 : Nat) : Int) ≤ s.size) by omega)
   have hE2 : Hid (linesR Rs.empty 0 (cutL s 0 0) = .ok y) := by rw [hE.out, if_neg hle]; exact hid rfl
   obtain ⟨c, hc, hv⟩ := hD.out.val
   have hcs := hv.one
   have HC := hid hc
   have HV := hid hv
   have hBR := hid (setRow_but wr w.heap.size c)
   have hi31 : (Tryz.prog.info? 31).map (·.size) = some c.size := by rw [hcs.1]; kernel_rfl
   have hk2 := hid (setRow_heap wr w.heap.size zero31 c 31 _ hZ.out)
   clear hc hv
   go_wp2_with (first | (refine wpList_load_row rfl 31 _ rfl X rfl 31 c (0, 0) _ HC.out Tryz.underlying31 rfl hi31 ?_) | (refine wpList_store_row rfl 31 _ _ rfl w.heap.size c rfl rfl 31 zero31 hZ.out hi31 (by rw [hcs.1]; rfl) hcs.2 ?_))
   refine bodyPost_ret_by (v := .tuple #[.agg c, .int .i64 0, .int .i64 0]) (by simp [results, Tryz.results16, asAddr, run_loadVar_row _ w.heap.size 31 31 c (0, 0) _ hk2.out Tryz.underlying31 rfl hi31]) rfl ?_
   rw [hE2.out]
   refine ⟨⟨c, rfl, ?_, hyl⟩, hB.out.trans (hBR.out.below (fun k hk => by rw [List.mem_singleton] at hk; omega) hB.out.size)⟩
   exact (HV.out.but hBR.out (Free.one hZ.out ⟨by decide, by decide, by decide, by decide⟩)).mono (by omega)
end Go.Proofs.YtieifhfgedoiaaaGreatDoor
/- What the laws ask next: the rules of a text in both hands. Conditions: those of each theorem. -/
namespace Go.Proofs.YtieifhfgedoiaaaGreatDoor
open Go.RowKit Go.Lib
set_option linter.unusedVariables false
set_option linter.unusedSimpArgs false
attribute [local go_sem] ExtS.cell ExtS.froz upE_value upE_skip upE_enter Ext.cell Ext.froz
def BothPost (w w' : World) (o : Out) (e : Ending) : Prop :=
 match o with
 | .ok y => ∃ X c, e = .returned (.tuple #[.pointer (some ⟨X, 0, none⟩), .agg c, .bool true, .bool true]) ∧ PAt w' X w.heap.size y ∧ DVal w' w.heap.size c y ∧ y.rules.length ≤ 256
 | .bad er q => ∃ c : Array Value, e = .returned (.tuple #[.pointer none, .agg c, .bool false, .bool true]) ∧ c.size = 79 ∧ c.all (·.oneCell') = true
set_option maxRecDepth 100000 in
set_option maxHeartbeats 8000000 in
theorem read13 (s : ByteArray) (hs : s.size ≤ 65536) (w : World) (m : Int) (hm : w.cell? ⟨0, 0, none⟩ = some (.int .i64 m)) :
  Calls Tryz.prog 6 #[.string s] w fun e w' => BothPost w w' (linesR Rs.empty 0 (linesB s)) e ∧ Below w.heap.size w w' := by
 have h0 : 0 < w.heap.size := World.block_lt_of_cell? w _ hm
 have hD := hid (fun W => dread33 s hs W)
 have hR := hid (fun W (hb : Below w.heap.size w W) => read_text s W hs m (by rw [hb.cell (p := ⟨0, 0, none⟩) h0]; exact hm))
 have K3 := hid (Blk.new w 31 Tryz.zeroCells31)
 have hb1 := hid ((Below.refl w.heap.size w).alloc (Nat.le_refl _) (.cells Tryz.zeroCells31 31))
 clear hm
 obtain ⟨o, ho⟩ : ∃ o, linesR Rs.empty 0 (linesB s) = o := ⟨_, rfl⟩
 rw [ho] at hD hR ⊢
 clear ho
 go_enter Tryz.func6, Tryz.ntmps6
 go_wp2_with fail
 obtain ⟨N, hN⟩ : ∃ N, w.heap.size = N := ⟨_, rfl⟩
 rw [hN] at K3
 simp only [hN]
 have HN := hid hN
 have hNl : N ≤ w.heap.size := Nat.le_of_eq hN.symm
 have hNg : w.heap.size ≤ N := Nat.le_of_eq hN
 clear hN
 generalize w.alloc (.cells Tryz.zeroCells31 31) = W1 at *
 have hW1 : N < W1.heap.size := K3.out.lt
 cases o with
 | ok y =>
  go_at_call 16
  with_reducible refine Calls.mono (hD.out _) ?_
  rintro e w2 ⟨hP, hb2⟩
  skip
  obtain ⟨c, rfl, hV, hyl⟩ := hP
  have hV1 := hV.one
  have hi31 : (Tryz.prog.info? 31).map (·.size) = some c.size := by rw [hV1.1]; kernel_rfl
  have hb2H := hid hb2
  have hVH := hid hV
  clear hV hb2
  go_wp2_with (refine wpList_store_row rfl 31 _ _ rfl w2.heap.size c rfl rfl 31 Tryz.zeroCells31 (heap_alloc_new _ _) hi31 (by rw [hV1.1]; kernel_rfl) hV1.2 ?_)
  have hBR := hid (setRow_but (w2.alloc (.cells Tryz.zeroCells31 31)) w2.heap.size c)
  have hk2 := hid (setRow_heap _ w2.heap.size Tryz.zeroCells31 c 31 _ (heap_alloc_new w2 (.cells Tryz.zeroCells31 31)))
  have hbA : Below w2.heap.size w2 (w2.alloc (.cells Tryz.zeroCells31 31)) := (Below.refl _ _).alloc (Nat.le_refl _) _
  have hB3 := hid (hbA.trans (hBR.out.below (fun k hk => by rw [List.mem_singleton] at hk; omega) hbA.size))
  have hb3 := hid (bnext (bnext hb1.out hb2H.out) hB3.out)
  have K33 := hid ((K3.out.low hb2H.out).low hB3.out)
  have hV3 := hid ((hVH.out.low hB3.out).mono hb1.out.size)
  have hN2 : N < w2.heap.size := Nat.lt_of_lt_of_le hW1 hb2H.out.size
  clear hbA hBR hB3 hb2H hVH K3 hb1 hD
  generalize (w2.alloc (.cells Tryz.zeroCells31 31)).setRow w2.heap.size c = W3 at *
  obtain ⟨T, hT⟩ : ∃ T, w2.heap.size = T := ⟨_, rfl⟩
  rw [hT] at hk2 hN2
  simp only [hT]
  clear hT
  have hW3 : T < W3.heap.size := (show Blk W3 T 31 c from hk2.out).lt
  go_at_call 14
  with_reducible refine Calls.mono (hR.out _ hb3.out) ?_
  rintro e w4 ⟨⟨X, rfl, hP⟩, hb4⟩
  skip
  have hP4 := hid (show PAt w4 X w.heap.size y from by
   obtain ⟨mc, ml, v, k, h1, Vs, h2, h3, h5⟩ := hP
   exact ⟨mc, ml, v, k, h1, Vs, h2, own_mono h3 hb3.out.size, fun y hy => (h5 y hy).mono hb3.out.size⟩)
  have hb4H := hid (bnext hb3.out hb4)
  have K34 := hid (K33.out.low hb4)
  have hk4 := hid ((show Blk W3 T 31 c from hk2.out).low hb4)
  have hV4 := hid (hV3.out.low hb4)
  have hR4 := hb4.size
  clear hP hb4 hb3 K33 hk2 hV3 hR
  go_wp2_with fail
  have hbA : Below w4.heap.size w4 (w4.alloc (.cells #[.int .i64 0, .int .i64 0] 44)) := (Below.refl _ _).alloc (Nat.le_refl _) _
  have hkE := hid (Blk.new w4 44 #[.int .i64 0, .int .i64 0])
  have hP5 := hid (hP4.out.low hbA)
  have hb5 := hid (bnext hb4H.out hbA)
  have K35 := hid (K34.out.low hbA)
  have hk5 := hid (hk4.out.low hbA)
  have hV5 := hid (hV4.out.low hbA)
  clear hP4 hb4H K34 hk4 hV4 hbA
  generalize w4.alloc (.cells #[.int .i64 0, .int .i64 0] 44) = W5 at *
  generalize w4.heap.size = R at *
  have e0 : W5.cell? ⟨R, 0, none⟩ = some (.int .i64 0) := hkE.out.cell rfl
  have e1 : W5.cell? ⟨R, 1, none⟩ = some (.int .i64 0) := hkE.out.cell rfl
  have ef := hkE.out.froz
  have nR : N ≠ R := by omega
  have nR' : R ∉ [N] := by simp; omega
  refine region_plan [N] (.quiet 0 (.quiet 2 (.quiet 3 (.quiet 4 (.quiet 5 (.quiet 6 (.quiet 7 (.quiet 8 (.quiet 9 (.quiet 10 (.quiet 11 (.quiet 12 (.quiet 13 (.quiet 14 (.one 1 (.one 15 (.quiet 16 (.quiet 17 .done)))))))))))))))))) (by kernel_rfl) (by kernel_rfl) ?_
  repeat (apply p_quiet; (case hi => rfl); intro K hK; go_simp; (refine ⟨hK _ ?_⟩; clear hK K))
  apply p_one
  case hi => rfl
  intro W6 hb6 K hK
  have hk6 := hid (hk5.out.low hb6)
  refine wpList_load_row rfl 31 _ rfl T rfl 31 c (0, 0) _ hk6.out Tryz.underlying31 rfl hi31 ?_
  refine ⟨rfl, hK _ _ (ButS.of hb6) ?_⟩
  have hQ6 : Hid (ButS [N] W5 W6) := hid (ButS.of hb6)
  have hP6 := hid (hP5.out.low hb6)
  have hb6H := hid (bnext hb5.out hb6)
  have K36 := hid (K35.out.low hb6)
  have hV6 := hid (hV5.out.low hb6)
  clear hP5 hb5 K35 hk5 hV5 hk6 hb6 hK K hkE e0 e1 ef
  apply p_one
  case hi => rfl
  intro W7 hb7 K hK
  have K37 := hid (K36.out.low hb7)
  have hP7 := hid (hP6.out.low hb7)
  have hb7H := hid (bnext hb6H.out hb7)
  have hV7 := hid (hV6.out.low hb7)
  have hBR := hid (setRow_but W7 N c)
  have hk8 := hid (setRow_heap W7 N Tryz.zeroCells31 c 31 _ K37.out)
  refine wpList_store_row rfl 31 _ _ rfl N c rfl rfl 31 Tryz.zeroCells31 K37.out hi31 (by rw [hV1.1]; kernel_rfl) hV1.2 ?_
  refine ⟨rfl, hK _ _ (hQ6.out.trans ((ButS.of hb7).trans hBR.out)) ?_⟩
  clear hQ6
  have hV8 := hid (hV7.out.but hBR.out (Free.one K37.out ⟨by decide, by decide, by decide, by decide⟩))
  have hP8 := hid (show PAt (W7.setRow N c) X w.heap.size y from by
   obtain ⟨mc, ml, v, k, h1, h2⟩ := hP7.out
   have hB : ∀ B ∈ [N], ∃ t a, Blk W7 B t a := fun B hB => by rw [List.mem_singleton] at hB; subst hB; exact ⟨_, _, K37.out⟩
   refine ⟨mc, ml, v, k, h1.but hBR.out (fun hm => ?_) hB, h2.butT hBR.out (fun B hB => by rw [List.mem_singleton] at hB; subst hB; exact ⟨_, _, ⟨by decide, by decide, by decide, by decide⟩, K37.out⟩)⟩
   rw [List.mem_singleton] at hm
   subst hm
   have h3 := h1.b
   have h4 := (show W7.heap[X]? = some (.cells Tryz.zeroCells31 31 (0, 0)) from K37.out).symm.trans h3
   cases h4)
  have hb8H := hid (hb7H.out.trans (hBR.out.below (fun k hk => by rw [List.mem_singleton] at hk; omega) hb7H.out.size))
  clear K37 hP7 hb7H hV7 hBR hP6 hb6H K36 hV6 hb7 hK K
  generalize W7.setRow N c = W8 at *
  repeat (apply p_quiet; (case hi => rfl); intro K hK; go_simp; (refine ⟨hK _ ?_⟩; clear hK K))
  apply p_done
  intro W9 hb9
  have hk9 := (show Blk W8 N 31 c from hk8.out).low hb9
  have hP9 := hid (hP8.out.low hb9)
  have hV9 := hid (hV8.out.low hb9)
  have hb9H := hid (bnext hb8H.out hb9)
  go_wp2_with fail
  refine bodyPost_ret_by (v := .tuple #[.pointer (some ⟨X, 0, none⟩), .agg c, .bool true, .bool true]) (by simp [results, Tryz.results6, asAddr, run_loadVar_row _ N 31 31 c (0, 0) _ hk9 Tryz.underlying31 rfl hi31]) rfl ?_
  exact ⟨⟨X, c, rfl, hP9.out, hV9.out, hyl⟩, hb9H.out⟩
 | bad er q =>
  go_at_call 16
  with_reducible refine Calls.mono (hD.out _) ?_
  rintro e w2 ⟨hP, hb2⟩
  skip
  obtain ⟨he, c, rfl, hV1⟩ := hP
  have hi31 : (Tryz.prog.info? 31).map (·.size) = some c.size := by rw [hV1.1]; kernel_rfl
  have u1 : (er != 0) = true := bne_true_of he
  have hb2H := hid hb2
  clear hb2
  go_wp2_with (refine wpList_store_row rfl 31 _ _ rfl w2.heap.size c rfl rfl 31 Tryz.zeroCells31 (heap_alloc_new _ _) hi31 (by rw [hV1.1]; kernel_rfl) hV1.2 ?_)
  have hBR := hid (setRow_but (w2.alloc (.cells Tryz.zeroCells31 31)) w2.heap.size c)
  have hk2 := hid (setRow_heap _ w2.heap.size Tryz.zeroCells31 c 31 _ (heap_alloc_new w2 (.cells Tryz.zeroCells31 31)))
  have hbA : Below w2.heap.size w2 (w2.alloc (.cells Tryz.zeroCells31 31)) := (Below.refl _ _).alloc (Nat.le_refl _) _
  have hB3 := hid (hbA.trans (hBR.out.below (fun k hk => by rw [List.mem_singleton] at hk; omega) hbA.size))
  have hb3 := hid (bnext (bnext hb1.out hb2H.out) hB3.out)
  have K33 := hid ((K3.out.low hb2H.out).low hB3.out)
  have hN2 : N < w2.heap.size := Nat.lt_of_lt_of_le hW1 hb2H.out.size
  clear hbA hBR hB3 hb2H K3 hb1 hD
  generalize (w2.alloc (.cells Tryz.zeroCells31 31)).setRow w2.heap.size c = W3 at *
  obtain ⟨T, hT⟩ : ∃ T, w2.heap.size = T := ⟨_, rfl⟩
  rw [hT] at hk2 hN2
  simp only [hT]
  clear hT
  have hW3 : T < W3.heap.size := (show Blk W3 T 31 c from hk2.out).lt
  go_at_call 14
  with_reducible refine Calls.mono (hR.out _ hb3.out) ?_
  rintro e w4 ⟨rfl, hb4⟩
  skip
  have hb4H := hid (bnext hb3.out hb4)
  have K34 := hid (K33.out.low hb4)
  have hk4 := hid ((show Blk W3 T 31 c from hk2.out).low hb4)
  have hR4 := hb4.size
  clear hb4 hb3 K33 hk2 hR
  go_wp2_with fail
  have hbA : Below w4.heap.size w4 (w4.alloc (.cells #[.int .i64 er, .int .i64 q] 44)) := (Below.refl _ _).alloc (Nat.le_refl _) _
  have hkE := hid (Blk.new w4 44 #[.int .i64 er, .int .i64 q])
  have hb5 := hid (bnext hb4H.out hbA)
  have K35 := hid (K34.out.low hbA)
  have hk5 := hid (hk4.out.low hbA)
  clear hb4H K34 hk4 hbA
  generalize w4.alloc (.cells #[.int .i64 er, .int .i64 q] 44) = W5 at *
  generalize w4.heap.size = R at *
  have e0 : W5.cell? ⟨R, 0, none⟩ = some (.int .i64 er) := hkE.out.cell rfl
  have e1 : W5.cell? ⟨R, 1, none⟩ = some (.int .i64 q) := hkE.out.cell rfl
  have ef := hkE.out.froz
  have nR : N ≠ R := by omega
  have nR' : R ∉ [N] := by simp; omega
  refine region_plan [N] (.quiet 1 (.quiet 2 (.quiet 3 (.quiet 4 (.quiet 5 (.quiet 6 (.quiet 7 (.quiet 8 (.quiet 9 (.quiet 10 (.quiet 11 (.quiet 12 (.quiet 13 (.quiet 14 (.quiet 15 (.one 0 (.one 16 (.quiet 17 (.quiet 18 .done))))))))))))))))))) (by kernel_rfl) (by kernel_rfl) ?_
  repeat (apply p_quiet; (case hi => rfl); intro K hK; go_simp; (refine ⟨hK _ ?_⟩; clear hK K))
  apply p_one
  case hi => rfl
  intro W6 hb6 K hK
  have hk6 := hid (hk5.out.low hb6)
  refine wpList_load_row rfl 31 _ rfl T rfl 31 c (0, 0) _ hk6.out Tryz.underlying31 rfl hi31 ?_
  refine ⟨rfl, hK _ _ (ButS.of hb6) ?_⟩
  have hQ6 : Hid (ButS [N] W5 W6) := hid (ButS.of hb6)
  have hb6H := hid (bnext hb5.out hb6)
  have K36 := hid (K35.out.low hb6)
  clear hb5 K35 hk5 hk6 hb6 hK K hkE e0 e1 ef
  apply p_one
  case hi => rfl
  intro W7 hb7 K hK
  have K37 := hid (K36.out.low hb7)
  have hb7H := hid (bnext hb6H.out hb7)
  have hBR := hid (setRow_but W7 N c)
  have hk8 := hid (setRow_heap W7 N Tryz.zeroCells31 c 31 _ K37.out)
  refine wpList_store_row rfl 31 _ _ rfl N c rfl rfl 31 Tryz.zeroCells31 K37.out hi31 (by rw [hV1.1]; kernel_rfl) hV1.2 ?_
  refine ⟨rfl, hK _ _ (hQ6.out.trans ((ButS.of hb7).trans hBR.out)) ?_⟩
  have hb8H := hid (hb7H.out.trans (hBR.out.below (fun k hk => by rw [List.mem_singleton] at hk; omega) hb7H.out.size))
  clear hQ6 K37 hb7H hBR hb6H K36 hb7 hK K
  generalize W7.setRow N c = W8 at *
  repeat (apply p_quiet; (case hi => rfl); intro K hK; go_simp; (refine ⟨hK _ ?_⟩; clear hK K))
  apply p_done
  intro W9 hb9
  have hk9 := (show Blk W8 N 31 c from hk8.out).low hb9
  have hb9H := hid (bnext hb8H.out hb9)
  go_wp2_with fail
  refine bodyPost_ret_by (v := .tuple #[.pointer none, .agg c, .bool false, .bool true]) (by simp [results, Tryz.results6, asAddr, run_loadVar_row _ N 31 31 c (0, 0) _ hk9 Tryz.underlying31 rfl hi31]) rfl ?_
  exact ⟨⟨c, rfl, hV1⟩, hb9H.out⟩
end Go.Proofs.YtieifhfgedoiaaaGreatDoor
