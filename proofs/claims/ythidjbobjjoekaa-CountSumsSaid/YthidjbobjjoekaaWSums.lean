/- CountSums walked: words added at once or one by one, at most 2000. Conditions: the words lie in memory as a slice of strings. -/
import Derived.Test.YthidjbobjjoekaaTaM
namespace Go.Proofs.Ythidjbobjjoekaa
open Go.RowKit Go.Lib Go.Sort Go.Shelf
set_option linter.unusedVariables false
set_option linter.unusedSimpArgs false
attribute [local go_sem] Oper.semAt_some
attribute [local go_sem] Ext.cell Ext.froz
def lastW (l : List Ent) : ByteArray := match l.getLast? with | some x => x.1 | none => ⟨#[]⟩
def lastN (l : List Ent) : Int := match l.getLast? with | some x => x.2 | none => 0
theorem lastW_snoc (l : List Ent) (x : Ent) : lastW (l ++ [x]) = x.1 := by unfold lastW; simp
theorem lastN_snoc (l : List Ent) (x : Ent) : lastN (l ++ [x]) = x.2 := by unfold lastN; simp
theorem occ_take {ws : List ByteArray} {j : Nat} {y : ByteArray} (hy : ws[j]? = some y) (k : ByteArray) : occ (ws.take (j + 1)) k = occ (ws.take j) k + (if y = k then 1 else 0) := by
  rw [take_snoc ws j y hy, occ_append]; simp [occ]
theorem occ_bd (k : ByteArray) : ∀ l : List ByteArray, 0 ≤ occ l k ∧ occ l k ≤ l.length
  | [] => by simp [occ]
  | x :: r => by
    have := occ_bd k r
    simp only [occ, List.length_cons]
    split <;> omega
theorem ltE_tests {y x : Ent} (h : ltE y x) : decide (y.2 < x.2) = false ∧ ((x.2 == y.2) = false ∨ (x.2 == y.2) = true ∧ (Op.bytesLess x.1.toList y.1.toList || x.1.toList == y.1.toList) = false) := by
  rcases h with h | ⟨h1, h2⟩
  · exact ⟨decide_eq_false (by omega), .inl (by rw [beq_eq_false_iff_ne]; omega)⟩
  · refine ⟨decide_eq_false (by omega), .inr ⟨by rw [beq_iff_eq]; exact h1, ?_⟩⟩
    rw [Proofs.bytesLess_eq, Lib.toList_data, Lib.toList_data]
    have a1 : ¬ x.1.data.toList < y.1.data.toList := fun h => List.lt_irrefl _ (List.lt_trans h2 h)
    have a2 : ¬ x.1.data.toList = y.1.data.toList := fun h => by rw [h] at h2; exact List.lt_irrefl _ h2
    simp only [decide_eq_false a1, Bool.false_or, beq_eq_false_iff_ne]
    exact a2
theorem pair_of {L : List Ent} (h : L.Pairwise ltE) {pre : List Ent} {y x : Ent} (hp : pre ++ [y] ++ [x] <+: L) : ltE y x := by
  have h1 := h.sublist hp.sublist
  rw [List.append_assoc, List.pairwise_append] at h1
  have h2 := h1.2.1
  simp at h2
  exact h2
theorem str_beq (y x : ByteArray) : (y.toList == x.toList) = decide (y = x) := by
  rw [Lib.toList_data, Lib.toList_data]
  by_cases h : y = x
  · subst h; simp
  · rw [decide_eq_false h, beq_eq_false_iff_ne]; exact fun e => h (ba_ext e)
/-- the three tallies after k words -/
structure Three (w5 wr : World) (b1 m1 b2 m2 b3 m3 : Nat) (ws : List ByteArray) (c k : Nat) : Prop where
  t1 : Tal wr b1 m1 (addL (ws.take k))
  t2 : Tal wr b2 m2 (addL (ws.take (min k c)))
  t3 : Tal wr b3 m3 (addL ((ws.take k).drop c))
  bt : ButS [b1, m1, b2, m2, b3, m3] w5 wr
set_option maxRecDepth 100000 in
set_option maxHeartbeats 8000000 in
theorem sums_main (w : World) (p : Option Addr) (cp : Nat) (ws : List ByteArray) (cut : Int) (hl : ws.length ≤ 2000) (hW : WordsIn w p ws) :
    Calls Try.prog 4 #[.slice p ws.length cp, .int .i64 cut] w fun e w' => e = .returned (.bool true) ∧ Below w.heap.size w w' := by
  have HW := hid works_any
  have HV := hid hW
  have HAdd := hid addOk
  clear hW
  refine (callsIn_wide (n := 9)).1 ?_
  refine callsIn_of_wp_marks Try.func4 rfl trivial ?_ rfl
  simp only [Try.ntmps4, List.size_toArray, List.length_cons, List.length_nil, Nat.reduceAdd, Nat.reduceSub, Array.replicate_succ, Array.replicate_zero, List.push_toArray, List.append_toArray, List.nil_append, List.cons_append]
  refine wpIn_wide.2 ?_
  obtain ⟨n, hn⟩ : ∃ n, ws.length = n := ⟨_, rfl⟩
  rw [hn] at hl ⊢
  replace hn := hid hn
  have d0 : decide ((2000 : Int) < n) = false := decide_eq_false (by omega)
  have d1 : decide (2000 < n) = false := decide_eq_false (by omega)
  go_wp2_with fail
  obtain ⟨wa, hA⟩ : ∃ wa, (w.alloc (.cells #[.slice p n cp] 27)).alloc (.cells #[.bool false] 4) = wa := ⟨_, rfl⟩
  have k1 : Blk wa w.heap.size 27 #[.slice p n cp] := hA ▸ (Blk.new w _ _).alloc _
  have k2 : Blk wa (w.heap.size + 1) 4 #[.bool false] := by
    rw [← hA]; have := Blk.new (w.alloc (.cells #[.slice p n cp] 27)) 4 #[.bool false]
    rw [World.size_alloc] at this
    exact this
  have ba : Below w.heap.size w wa := hA ▸ ((Below.refl _ _).alloc (Nat.le_refl _) _).alloc (by simp) _
  rw [hA]
  clear hA
  with_reducible refine Calls.mono (HW.out _) ?_
  rintro e w1 ⟨rfl, hb1⟩
  replace k1 := k1.low hb1
  replace k2 := k2.low hb1
  replace ba := ba.trans (hb1.mono ba.size)
  have c1 := k1.cell (k := 0) rfl
  have hlo := k2.lt
  clear hb1
  go_wp2_with fail
  have hN := hid new_any
  with_reducible refine Calls.mono (hN.out _) ?_
  rintro e w2 ⟨rfl, ht1, hb2, hs2⟩
  replace k1 := k1.low hb2
  replace k2 := k2.low hb2
  replace ba := ba.trans (hb2.mono ba.size)
  have s12 : w1.heap.size + 2 ≤ w2.heap.size := Nat.le_of_eq hs2.symm
  have T1 := hid ht1
  clear hb2 ht1 hs2
  generalize w1.heap.size = N1 at *
  clear c1
  go_wp2_with fail
  with_reducible refine Calls.mono (hN.out _) ?_
  rintro e w3 ⟨rfl, ht2, hb3, hs3⟩
  replace k1 := k1.low hb3
  replace k2 := k2.low hb3
  replace ba := ba.trans (hb3.mono ba.size)
  have s23 : w2.heap.size + 2 ≤ w3.heap.size := Nat.le_of_eq hs3.symm
  have T2 := hid ht2
  replace T1 := hid (T1.out.low hb3)
  clear hb3 ht2 hs3
  generalize w2.heap.size = N2 at *
  go_wp2_with fail
  with_reducible refine Calls.mono (hN.out _) ?_
  rintro e w4 ⟨rfl, ht3, hb4, hs4⟩
  replace k1 := k1.low hb4
  replace k2 := k2.low hb4
  replace ba := ba.trans (hb4.mono ba.size)
  have s34 : w3.heap.size + 2 ≤ w4.heap.size := Nat.le_of_eq hs4.symm
  have T3 := hid ht3
  replace T1 := hid (T1.out.low hb4)
  replace T2 := hid (T2.out.low hb4)
  clear hb4 ht3 hs4
  generalize w3.heap.size = N3 at *
  have n1 := k1.lt
  have c1 := k1.cell (k := 0) rfl
  go_wp2_with fail
  obtain ⟨w5, hA⟩ : ∃ w5, (w4.alloc (.cells #[.pointer (some ⟨N1 + 1, 0, none⟩)] 28)).alloc (.cells #[.pointer (some ⟨N2 + 1, 0, none⟩)] 28) = w5 := ⟨_, rfl⟩
  have hb5 : Below w4.heap.size w4 w5 := hA ▸ ((Below.refl _ _).alloc (Nat.le_refl _) _).alloc (by simp) _
  have k5 : Blk w5 w4.heap.size 28 #[.pointer (some ⟨N1 + 1, 0, none⟩)] := hA ▸ (Blk.new w4 _ _).alloc _
  have k6 : Blk w5 (w4.heap.size + 1) 28 #[.pointer (some ⟨N2 + 1, 0, none⟩)] := by
    rw [← hA]; have := Blk.new (w4.alloc (.cells #[.pointer (some ⟨N1 + 1, 0, none⟩)] 28)) 28 #[.pointer (some ⟨N2 + 1, 0, none⟩)]
    rw [World.size_alloc] at this
    exact this
  rw [hA]
  clear hA c1 n1
  replace k1 := k1.low hb5
  replace k2 := k2.low hb5
  replace ba := ba.trans (hb5.mono ba.size)
  replace T1 := hid (T1.out.low hb5)
  replace T2 := hid (T2.out.low hb5)
  replace T3 := hid (T3.out.low hb5)
  clear hb5
  have hlt5 := k6.lt
  obtain ⟨N4, hN4⟩ : ∃ N4, w4.heap.size = N4 := ⟨_, rfl⟩
  rw [hN4] at k5 k6 s34 hlt5 ⊢
  clear hN4 hN
  obtain ⟨c, hc⟩ : ∃ c, cut.toNat = c := ⟨_, rfl⟩
  have hcut1 : Hid (∀ k : Nat, (k : Int) < cut ↔ k < c) := fun k => by omega
  clear hc
  go_loopw [30] (fun i wr => ∃ k : Nat, k ≤ n ∧ i = .int .i64 k ∧ Three w5 wr (N1 + 1) N1 (N2 + 1) N2 (N3 + 1) N3 ws c k) (fun i _ => n - (intOf i).toNat)
  case atStart => exact ⟨0, Nat.zero_le _, rfl, T1.out, by simpa [addL] using T2.out, by simpa [addL] using T3.out, ButS.refl _ _⟩
  case round =>
    obtain ⟨k, hk, rfl, hT⟩ := hrel
    by_cases hlt : k < n
    · obtain ⟨x, hx⟩ : ∃ x, ws[k]? = some x := ⟨_, List.getElem?_eq_getElem (by rw [hn.out]; exact hlt)⟩
      obtain ⟨g, off, rfl, hg, hcell⟩ := HV.out.at_ k x hx
      have hxs := hid (HV.out.sz x (List.mem_of_getElem? hx))
      have hsn := hid (take_snoc ws k x hx)
      have q1 := hT.bt.blk k5 (by simp; omega)
      have q2 := hT.bt.blk k6 (by simp; omega)
      have q1c := q1.cell (k := 0) (v := .pointer (some ⟨N1 + 1, 0, none⟩)) rfl
      have q0 : wr.cell? ⟨g, off + k, none⟩ = some (.string x) := by
        have e1 : wr.heap[g]? = w.heap[g]? := (hT.bt.block g (by simp; omega)).trans (ba.block g hg)
        exact (World.cell?_of_block (a := ⟨g, off + k, none⟩) e1).trans hcell
      have hki : (k : Int) < n := by omega
      have a1 := HAdd.out (ws.take k)
      have l1 : (ws.take k).length ≤ 2000 := by rw [List.length_take]; omega
      have z1 := a1.sum
      have z2 := a1.len
      have hA1 := hid (add_ok hT.t1 x 1 hxs.out (by decide) (by omega) (.inr (by omega)))
      have hT0 := hid hT
      have hx0 := hid hx
      clear a1 l1 z1 z2 hT hx hcell hg q1
      go_wp2_with fail
      with_reducible refine Calls.mono hA1.out ?_
      rintro e w6 ⟨rfl, hT6, hB6, hs6⟩
      replace hT6 := hid hT6
      replace hB6 := hid hB6
      replace hs6 := hid hs6
      clear hA1
      have q6 := (((ButS.refl [N1 + 1, N1, N2 + 1, N2, N3 + 1, N3] wr).push hB6.out hs6.out (by simp) (by simp)).blk q2 (by simp; omega))
      have q6c := q6.cell (k := 0) (v := .pointer (some ⟨N2 + 1, 0, none⟩)) rfl
      clear q2 q6
      by_cases hkc : k < c
      · have t1 : (k : Int) < cut := (hcut1.out k).2 hkc
        have t2 : decide ((k : Int) < cut) = true := decide_eq_true t1
        have t3 : decide (cut ≤ (k : Int)) = false := decide_eq_false (by omega)
        have hT26 := hT0.out.t2.other hB6.out (by omega) (by omega) (by omega) (by omega)
        have a1 := HAdd.out (ws.take (min k c))
        have l1 : (ws.take (min k c)).length ≤ 2000 := by rw [List.length_take]; omega
        have z1 := a1.sum
        have z2 := a1.len
        have hA2 := hid (add_ok hT26 x 1 hxs.out (by decide) (by omega) (.inr (by omega)))
        clear a1 l1 z1 z2 hT26
        go_wp2_with fail
        with_reducible refine Calls.mono hA2.out ?_
        rintro e w7 ⟨rfl, hT7, hB7, hs7⟩
        have hfin : Hid (Three w5 w7 (N1 + 1) N1 (N2 + 1) N2 (N3 + 1) N3 ws c (k + 1)) := by
          obtain ⟨e1, e2⟩ := take_cut1 hx0.out hkc
          refine ⟨?_, ?_, ?_, (hT0.out.bt.push hB6.out hs6.out (by simp) (by simp)).push hB7 hs7 (by simp) (by simp)⟩
          · rw [hsn.out, addL_snoc]; exact hT6.out.other hB7 (by omega) (by omega) (by omega) (by omega)
          · rw [e1, addL_snoc]; exact hT7
          · rw [e2]; exact (hT0.out.t3.other hB6.out (by omega) (by omega) (by omega) (by omega)).other hB7 (by omega) (by omega) (by omega) (by omega)
        clear hA2 hT7 hB7 hs7 hT0 hB6 hT6 hs6 q0 q1c q6c
        go_wp2_with fail
        go_roundw
        case rel => exact ⟨k + 1, by omega, by go_num, hfin.out⟩
        case measure => simp [intOf]; omega
      · have t1 : ¬ (k : Int) < cut := fun h => hkc ((hcut1.out k).1 h)
        have t2 : decide ((k : Int) < cut) = false := decide_eq_false t1
        have t3 : decide (cut ≤ (k : Int)) = true := decide_eq_true (by omega)
        have hT26 := hT0.out.t3.other hB6.out (by omega) (by omega) (by omega) (by omega)
        have a1 := HAdd.out ((ws.take k).drop c)
        have l1 : ((ws.take k).drop c).length ≤ 2000 := by rw [List.length_drop, List.length_take]; omega
        have z1 := a1.sum
        have z2 := a1.len
        have hA2 := hid (add_ok hT26 x 1 hxs.out (by decide) (by omega) (.inr (by omega)))
        clear a1 l1 z1 z2 hT26
        go_wp2_with fail
        with_reducible refine Calls.mono hA2.out ?_
        rintro e w7 ⟨rfl, hT7, hB7, hs7⟩
        have hfin : Hid (Three w5 w7 (N1 + 1) N1 (N2 + 1) N2 (N3 + 1) N3 ws c (k + 1)) := by
          obtain ⟨e1, e2⟩ := take_cut2 hx0.out (Nat.le_of_not_lt hkc)
          refine ⟨?_, ?_, ?_, (hT0.out.bt.push hB6.out hs6.out (by simp) (by simp)).push hB7 hs7 (by simp) (by simp)⟩
          · rw [hsn.out, addL_snoc]; exact hT6.out.other hB7 (by omega) (by omega) (by omega) (by omega)
          · rw [e1]; exact (hT0.out.t2.other hB6.out (by omega) (by omega) (by omega) (by omega)).other hB7 (by omega) (by omega) (by omega) (by omega)
          · rw [e2, addL_snoc]; exact hT7
        clear hA2 hT7 hB7 hs7 hT0 hB6 hT6 hs6 q0 q1c q6c
        go_wp2_with fail
        go_roundw
        case rel => exact ⟨k + 1, by omega, by go_num, hfin.out⟩
        case measure => simp [intOf]; omega
    · obtain rfl : k = n := by omega
      have hlen := hn.out
      have e1 : ws.take k = ws := by rw [← hlen, List.take_length]
      have e2 : ws.take (min k c) = ws.take c := by
        rcases Nat.le_total c k with h | h
        · rw [Nat.min_eq_right h]
        · rw [Nat.min_eq_left h, List.take_of_length_le (by omega), List.take_of_length_le (by omega)]
      have hT1 := hT.t1
      have hT2 := hT.t2
      have hT3 := hT.t3
      rw [e1] at hT1 hT3
      rw [e2] at hT2
      have q1 := hT.bt.blk k1 (by simp; omega)
      have q2 := hT.bt.blk k2 (by simp; omega)
      have q5 := hT.bt.blk k5 (by simp; omega)
      have q6 := hT.bt.blk k6 (by simp; omega)
      have hBr : Below w.heap.size w wr := ba.trans ⟨hT.bt.os, hT.bt.tape, hT.bt.output, Nat.le_of_eq hT.bt.size.symm, fun j hj => hT.bt.block j (by simp; omega)⟩
      have hszr := hT.bt.size
      have hwr5 : N4 + 1 < wr.heap.size := q6.lt
      clear hT e1 e2 k1 k2 k5 k6 hlt5 T1 T2 T3 ba
      have aA := HAdd.out (ws.take c)
      have aB := HAdd.out (ws.drop c)
      have aW := HAdd.out ws
      have lA : (ws.take c).length + (ws.drop c).length = k := by rw [← List.length_append, List.take_append_drop, hlen]
      have zA1 := aA.sum
      have zA2 := aA.len
      have zB1 := aB.sum
      have zB2 := aB.len
      have hM := hid (fun q : Nat => merge_ok (show Tal (wr.drewN q) (N2 + 1) N2 _ from hT2.keep rfl rfl) (show Tal (wr.drewN q) (N3 + 1) N3 _ from hT3.keep rfl rfl) ⟨by omega, by omega⟩ (by omega) (by omega))
      have c6 := q6.cell (k := 0) (v := .pointer (some ⟨N2 + 1, 0, none⟩)) rfl
      have Hq1 := hid q1
      have Hq2 := hid q2
      have Hq5 := hid q5
      have Hq6 := hid q6
      have HT1 := hid hT1
      have HBr := hid hBr
      clear q1 q2 q5 q6 hT1 hT2 hT3 hBr aA aB lA zA1 zA2 zB1 zB2 hszr
      go_wp2_with fail
      refine region_callB 2 24 _ (by kernel_rfl) (by kernel_rfl) rfl ?_
      simp only [List.take_succ_cons, List.take_zero, List.drop_succ_cons, List.drop_zero]
      iterate 2 (refine bq_step (fun K hK => ?_); go_simp; refine ⟨hK _ ?_⟩; clear hK K)
      refine bq_nil ?_
      rintro _ ⟨q, rfl⟩
      go_wp2_with fail
      with_reducible refine Calls.mono (hM.out _) ?_
      rintro e w7 ⟨rfl, ⟨out, hp, hT7⟩, hB7⟩
      have hW8 : foldP (addL (ws.take c)) out = addL ws := by
        have := add_parts (ws.take c) (ws.drop c) out hp hT7.he.srt hT7.he.pos
        rwa [List.take_append_drop] at this
      rw [hW8] at hT7
      have hT17 : Tal w7 (N1 + 1) N1 (addL ws) := (show Tal (wr.drewN q) (N1 + 1) N1 (addL ws) from HT1.out.keep rfl rfl).other hB7 (by omega) (by omega) (by omega) (by omega)
      have kb : ∀ {j : Nat} {t : TypeId} {cc : Array Value}, Blk wr j t cc → j ≠ N2 + 1 → j ≠ N2 → Blk w7 j t cc := fun h h1 h2 => (hB7.block _ h.lt h1 h2).trans h
      have q1 := kb Hq1.out (by omega) (by omega)
      have q2 := kb Hq2.out (by omega) (by omega)
      have q5 := kb Hq5.out (by omega) (by omega)
      have q6 := kb Hq6.out (by omega) (by omega)
      have hbw : Below w.heap.size w w7 := HBr.out.trans ((show Below w.heap.size wr (wr.drewN q) from ⟨rfl, rfl, rfl, Nat.le_refl _, fun _ _ => rfl⟩).trans (hB7.below (by omega) (by omega) (by have := HBr.out.size; exact this)))
      have hsum := aW.sum
      rw [hlen] at hsum
      have hL1 := hid (fun n => quiet_flip (w := w7) (n := n) (len_any (hT17.keep (w' := w7.drewN n) rfl rfl)))
      have hL2 := hid (fun n => quiet_flip (w := w7) (n := n) (len_any (hT7.keep (w' := w7.drewN n) rfl rfl)))
      have hS1 := hid (fun n => quiet_flip (w := w7) (n := n) (total_any (hT17.keep (w' := w7.drewN n) rfl rfl)))
      have hS2 := hid (fun n => quiet_flip (w := w7) (n := n) (total_any (hT7.keep (w' := w7.drewN n) rfl rfl)))
      rw [hsum] at hS1 hS2
      have d1 := q1.cell (k := 0) (v := .slice p k cp) rfl
      have d5 := q5.cell (k := 0) (v := .pointer (some ⟨N1 + 1, 0, none⟩)) rfl
      have d6 := q6.cell (k := 0) (v := .pointer (some ⟨N2 + 1, 0, none⟩)) rfl
      clear hM hp hW8 hB7 Hq1 Hq2 Hq5 Hq6 HT1 HBr c6 kb hwr5
      replace hT7 := hid hT7
      replace hT17 := hid hT17
      replace q1 := hid q1
      replace q2 := hid q2
      replace q5 := hid q5
      replace q6 := hid q6
      replace hbw := hid hbw
      replace hsum := hid hsum
      replace aW := hid aW
      replace hlen := hid hlen
      go_wp2_with fail
      refine Later.draws ?_
      simp only [List.take_succ_cons, List.take_zero, List.drop_succ_cons, List.drop_zero]
      refine bq_step (fun K hK => ?_); go_simp; refine ⟨hK _ ?_⟩; clear hK K
      refine bq_step (fun K hK => ?_); go_simp; refine ⟨hK _ ?_⟩; clear hK K
      refine bq_step (fun K hK => ?_); go_simp; refine ⟨hK _ ?_⟩; clear hK K
      refine bq_step (fun K hK => ?_); go_simp; refine ⟨?_⟩; apply Exists.intro; refine ⟨fun x => ?_, hK _ ?_⟩
      · with_reducible exact hL1.out _
      clear hK K
      refine bq_step (fun K hK => ?_); go_simp; refine ⟨hK _ ?_⟩; clear hK K
      refine bq_step (fun K hK => ?_); go_simp; refine ⟨?_⟩; apply Exists.intro; refine ⟨fun x => ?_, hK _ ?_⟩
      · with_reducible exact hL2.out _
      clear hK K
      refine bq_step (fun K hK => ?_); go_simp; refine ⟨hK _ ?_⟩; clear hK K
      refine bq_step (fun K hK => ?_); go_simp; refine ⟨hK _ ?_⟩; clear hK K
      refine bq_step (fun K hK => ?_); go_simp; refine ⟨hK _ ?_⟩; clear hK K
      refine bq_step (fun K hK => ?_); go_simp; refine ⟨hK _ ?_⟩; clear hK K
      refine bq_step (fun K hK => ?_); go_simp; refine ⟨?_⟩; apply Exists.intro; refine ⟨fun x => ?_, hK _ ?_⟩
      · with_reducible exact hS1.out _
      clear hK K
      refine bq_step (fun K hK => ?_); go_simp; refine ⟨hK _ ?_⟩; clear hK K
      refine bq_step (fun K hK => ?_); go_simp; refine ⟨hK _ ?_⟩; clear hK K
      refine bq_step (fun K hK => ?_); go_simp; refine ⟨hK _ ?_⟩; clear hK K
      refine bq_step (fun K hK => ?_); go_simp; refine ⟨hK _ ?_⟩; clear hK K
      refine bq_step (fun K hK => ?_); go_simp; refine ⟨hK _ ?_⟩; clear hK K
      refine bq_step (fun K hK => ?_); go_simp; refine ⟨hK _ ?_⟩; clear hK K
      refine bq_step (fun K hK => ?_); go_simp; refine ⟨?_⟩; apply Exists.intro; refine ⟨fun x => ?_, hK _ ?_⟩
      · with_reducible exact hS2.out _
      clear hK K
      refine bq_step (fun K hK => ?_); go_simp; refine ⟨hK _ ?_⟩; clear hK K
      refine bq_step (fun K hK => ?_); go_simp; refine ⟨hK _ ?_⟩; clear hK K
      refine bq_step (fun K hK => ?_); go_simp; refine ⟨hK _ ?_⟩; clear hK K
      refine bq_nil ?_
      rintro _ ⟨q2', rfl⟩
      have Q1 := hid (show Blk (w7.drewN q2') _ _ _ from q1.out)
      have Q2 := hid (show Blk (w7.drewN q2') _ _ _ from q2.out)
      have Q5 := hid (show Blk (w7.drewN q2') _ _ _ from q5.out)
      have Q6 := hid (show Blk (w7.drewN q2') _ _ _ from q6.out)
      have T1 := hid (show Tal (w7.drewN q2') (N1 + 1) N1 (addL ws) from hT17.out.keep rfl rfl)
      have T2 := hid (show Tal (w7.drewN q2') (N2 + 1) N2 (addL ws) from hT7.out.keep rfl rfl)
      have BW := hid (show Below w.heap.size w (w7.drewN q2') from ⟨hbw.out.os, hbw.out.tape, hbw.out.output, hbw.out.size, hbw.out.block⟩)
      clear hL1 hL2 hS1 hS2 d1 d5 d6 q1 q2 q5 q6 hT7 hT17 hbw
      generalize w7.drewN q2' = w8 at *
      have d5 := Q5.out.cell (k := 0) (v := .pointer (some ⟨N1 + 1, 0, none⟩)) rfl
      have n5 := Q5.out.lt
      have n5a : N4 < w8.heap.size + 1 := by omega
      have n5b : N4 < w8.heap.size + 1 + 1 := by omega
      have n5c : N4 < w8.heap.size + 1 + 1 + 1 := by omega
      go_wp2_with fail
      obtain ⟨M, hMs⟩ : ∃ M, w8.heap.size = M := ⟨_, rfl⟩
      obtain ⟨w9, hA⟩ : ∃ w9, (((w8.alloc (.cells #[.string ⟨#[]⟩] 9)).alloc (.cells #[.int .i64 0] 3)).alloc (.cells #[.int .i64 0] 3)).alloc (.cells #[.int .i64 0] 3) = w9 := ⟨_, rfl⟩
      have b9 : Below M w8 w9 := by rw [← hMs]; exact hA ▸ ((((Below.refl _ _).alloc (Nat.le_refl _) _).alloc (by simp) _).alloc (by simp; omega) _).alloc (by simp; omega) _
      have x10 : Blk w9 M 9 #[.string ⟨#[]⟩] := by rw [← hMs]; exact hA ▸ (((Blk.new w8 _ _).alloc _).alloc _).alloc _
      have x11 : Blk w9 (M + 1) 3 #[.int .i64 0] := by
        rw [← hMs, ← hA]; have := Blk.new (w8.alloc (.cells #[.string ⟨#[]⟩] 9)) 3 #[.int .i64 0]
        rw [World.size_alloc] at this
        exact (this.alloc _).alloc _
      have x12 : Blk w9 (M + 1 + 1) 3 #[.int .i64 0] := by
        rw [← hMs, ← hA]; have := Blk.new ((w8.alloc (.cells #[.string ⟨#[]⟩] 9)).alloc (.cells #[.int .i64 0] 3)) 3 #[.int .i64 0]
        rw [World.size_alloc, World.size_alloc] at this
        exact this.alloc _
      have x13 : Blk w9 (M + 1 + 1 + 1) 3 #[.int .i64 0] := by
        rw [← hMs, ← hA]; have := Blk.new (((w8.alloc (.cells #[.string ⟨#[]⟩] 9)).alloc (.cells #[.int .i64 0] 3)).alloc (.cells #[.int .i64 0] 3)) 3 #[.int .i64 0]
        rw [World.size_alloc, World.size_alloc, World.size_alloc] at this
        exact this
      have s9 : w9.heap.size = M + 4 := by rw [← hA, ← hMs]; simp
      have hNM : N4 + 1 < M := by rw [← hMs]; exact Q6.out.lt
      rw [hMs, hA]
      replace s9 := hid s9
      clear hA d5 n5 n5a n5b n5c
      have hEa := hid ((callsIn_wide (n := 8)).1 (tal_each_in Fence.wide 8 trivial rfl (N1 + 1) w9))
      with_reducible refine Calls.mono hEa.out ?_
      rintro e w10 ⟨rfl, hw10⟩
      clear hEa
      have k7 : Blk w10 (M + 4) 28 #[.pointer (some ⟨N1 + 1, 0, none⟩)] := by
        rw [hw10, ← s9.out]; exact Blk.new w9 _ _
      have b10 : Below M w8 w10 := by
        rw [hw10]; exact b9.alloc (by rw [s9.out]; omega) _
      have hsz10 : M + 4 < w10.heap.size ∧ w10.heap.size ≤ M + 5 := by rw [hw10]; simp [s9.out]
      replace x10 : Blk w10 M 9 #[.string ⟨#[]⟩] := by rw [hw10]; exact x10.alloc _
      replace x11 : Blk w10 (M + 1) 3 #[.int .i64 0] := by rw [hw10]; exact x11.alloc _
      replace x12 : Blk w10 (M + 1 + 1) 3 #[.int .i64 0] := by rw [hw10]; exact x12.alloc _
      replace x13 : Blk w10 (M + 1 + 1 + 1) 3 #[.int .i64 0] := by rw [hw10]; exact x13.alloc _
      have Y1 := hid (Q1.out.lowN b10 (by omega))
      have Y2 := hid (Q2.out.lowN b10 (by omega))
      have Y5 := hid (Q5.out.lowN b10 (by omega))
      have Y6 := hid (Q6.out.lowN b10 (by omega))
      have T1' := hid (T1.out.lowN b10 (by omega) (by omega))
      have T2' := hid (T2.out.lowN b10 (by omega) (by omega))
      have B10 := hid (BW.out.trans (b10.mono (by omega)))
      clear hw10 b9 b10 Q1 Q2 Q5 Q6 T1 T2 BW hMs
      rw [s9.out]
      go_wp2_with fail
      refine (wpIn_wide (n := 9)).1 ?_
      refine name_act ?_
      intro T D hTT hD
      refine rangeFunc_own (F := Fence.wide) (α := Ent) rfl (by omega) (gf := 59) (lb := #[.pointer (some ⟨M + 4, 0, none⟩)]) (by subst hTT; rfl) trivial (enters_of Try.func59 (by kernel_rfl) rfl)
        (tal_next 8 (by omega) (M + 4) (N1 + 1) N1 M (addL ws) w10 (by omega) (by omega) (k7.cell rfl) T1'.out) (by omega) (Below.refl _ _) (fun _ => rfl)
        (fun pre W => Blk W M 9 #[.string (lastW pre)] ∧ Blk W (M + 1) 3 #[.int .i64 (lastN pre)] ∧ Blk W (M + 1 + 1) 3 #[.int .i64 pre.length] ∧ Blk W (M + 1 + 1 + 1) 3 #[.int .i64 (sumL pre)] ∧ Below M w10 W)
        (fun _ _ _ => False)
        (OwnFrom.and (Own.from (blk_own _ _ (fun pre : List Ent => #[.string (lastW pre)])) _) (OwnFrom.and (Own.from (blk_own _ _ (fun pre : List Ent => #[.int .i64 (lastN pre)])) _) (OwnFrom.and (Own.from (blk_own _ _ (fun pre : List Ent => #[.int .i64 pre.length])) _) (OwnFrom.and (Own.from (blk_own _ _ (fun pre : List Ent => #[.int .i64 (sumL pre)])) _) (ownFrom_below (by omega) (by omega))))))
        (fun _ => ownFrom_pure _ _)
        ⟨x10, x11, x12, x13, Below.refl _ _⟩
        (fun x a' W => a' = { tmps := (((T.setIfInBounds 87 (.string x.1)).setIfInBounds 88 (.int .i64 x.2)).setIfInBounds 14 (.string x.1)).setIfInBounds 15 (.int .i64 x.2), defers := [] })
        (fun x a' _ X Y row hs hg hr => hs)
        ?assign ?body ?done ?stop
      case assign =>
        rintro l pre x W K ⟨kn, kn2, kn3, kn4, hB⟩ hpre hK
        subst hTT hD
        gi_wp2
        exact hK _ _ (KeepsFrom.refl _ _) (KB.refl _ _ _) ⟨kn, kn2, kn3, kn4, hB⟩ rfl
      case body =>
        rintro l pre x a' W hl hr hnext ⟨kn, kn2, kn3, kn4, hB⟩ rfl
        have hsW := hB.size
        have e1 := prefix_get hnext
        have hxm := List.mem_of_getElem? e1
        have hTW1 := T1'.out.lowN hB (by omega) (by omega)
        have hTW2 := T2'.out.lowN hB (by omega) (by omega)
        have hxsz := hTW1.he.sz x hxm
        have hC1 := hid (count_any hTW1 x.1 hxsz)
        have hC2 := hid (count_any hTW2 x.1 hxsz)
        rw [countL_mem hTW1.nd hxm] at hC1 hC2
        have hocc : Hid (occ ws x.1 = x.2) := by
          have := aW.out.cnt x.1
          rw [countL_mem aW.out.nd hxm] at this
          exact this.symm
        have hpos := hTW1.he.pos x hxm
        have hsn : sumL pre + x.2 ≤ 2000 := by
          have h1 := (List.prefix_iff_eq_take.1 hnext)
          have h2 := (sumL_take (addL ws) hTW1.he.pos (pre ++ [x]).length).2
          rw [← h1, sumL_app, hsum.out] at h2
          omega
        have hps : 0 ≤ sumL pre := by
          have h1 := (List.prefix_iff_eq_take.1 ((List.prefix_append pre [x]).trans hnext))
          have h2 := (sumL_take (addL ws) hTW1.he.pos pre.length).1
          rw [← h1] at h2
          exact h2
        have hpl : pre.length ≤ 2000 := by
          have h1 := (List.getElem?_eq_some_iff.1 e1).1
          have h2 := aW.out.len
          rw [hlen.out] at h2
          omega
        have htest : Hid (pre = [] ∨ ∃ y, pre ≠ [] ∧ lastW pre = y.1 ∧ lastN pre = y.2 ∧ ltE y x) := by
          rcases List.eq_nil_or_concat pre with h | ⟨q, y, h⟩
          · exact .inl h
          · refine .inr ⟨y, by rw [h]; simp, ?_, ?_, ?_⟩
            · rw [h, List.concat_eq_append, lastW_snoc]
            · rw [h, List.concat_eq_append, lastN_snoc]
            · rw [h, List.concat_eq_append] at hnext
              exact pair_of aW.out.srt hnext
        obtain ⟨E, hE⟩ : ∃ E, (((W.setCell ⟨M, 0, none⟩ (.string x.1)).setCell ⟨M + 1, 0, none⟩ (.int .i64 x.2)).setCell ⟨M + 1 + 1, 0, none⟩ (.int .i64 ((pre.length : Int) + 1))).setCell ⟨M + 1 + 1 + 1, 0, none⟩ (.int .i64 (sumL pre + x.2)) = E := ⟨_, rfl⟩
        have hend : Hid (KeepsFrom w10.heap.size W E ∧ KB M (w10.heap.size + 2) W E ∧ (Blk E M 9 #[.string (lastW (pre ++ [x]))] ∧ Blk E (M + 1) 3 #[.int .i64 (lastN (pre ++ [x]))] ∧ Blk E (M + 1 + 1) 3 #[.int .i64 (pre ++ [x]).length] ∧ Blk E (M + 1 + 1 + 1) 3 #[.int .i64 (sumL (pre ++ [x]))] ∧ Below M w10 E)) := by
          have q : Below M W E := by
            rw [← hE]
            exact ((((Below.refl _ _).setCell (p := ⟨M, 0, none⟩) (Nat.le_refl _) _).setCell (p := ⟨M + 1, 0, none⟩) (by show M ≤ M + 1; omega) _).setCell (p := ⟨M + 1 + 1, 0, none⟩) (by show M ≤ M + 1 + 1; omega) _).setCell (p := ⟨M + 1 + 1 + 1, 0, none⟩) (by show M ≤ M + 1 + 1 + 1; omega) _
          have el : (((pre ++ [x]).length : Nat) : Int) = (pre.length : Int) + 1 := by simp
          refine ⟨?_, ⟨q, fun k hk hk2 => ?_⟩, ?_, ?_, ?_, ?_, hB.trans q⟩
          · rw [← hE]
            exact ((((KeepsOthers.setCell _ _ _).trans (KeepsOthers.setCell _ _ _)).trans (KeepsOthers.setCell _ _ _)).trans (KeepsOthers.setCell _ _ _)).from _
          · rw [← hE]
            rw [Below.heap_setCell _ ⟨M + 1 + 1 + 1, 0, none⟩ _ k (by show k ≠ M + 1 + 1 + 1; omega), Below.heap_setCell _ ⟨M + 1 + 1, 0, none⟩ _ k (by show k ≠ M + 1 + 1; omega), Below.heap_setCell _ ⟨M + 1, 0, none⟩ _ k (by show k ≠ M + 1; omega), Below.heap_setCell _ ⟨M, 0, none⟩ _ k (by show k ≠ M; omega)]
          · rw [← hE, lastW_snoc]
            exact ((((kn.set 0 _).other (by omega) _).other (by omega) _).other (by omega) _)
          · rw [← hE, lastN_snoc]
            exact ((((kn2.other (by omega) _).set 0 _).other (by omega) _).other (by omega) _)
          · rw [← hE, el]
            exact ((((kn3.other (by omega) _).other (by omega) _).set 0 _).other (by omega) _)
          · rw [← hE, sumL_app]
            exact ((((kn4.other (by omega) _).other (by omega) _).other (by omega) _).set 0 _)
        have c1 := (Y1.out.lowN hB (by omega)).cell (k := 0) (v := .slice p k cp) rfl
        have c5 := (Y5.out.lowN hB (by omega)).cell (k := 0) (v := .pointer (some ⟨N1 + 1, 0, none⟩)) rfl
        have c6 := (Y6.out.lowN hB (by omega)).cell (k := 0) (v := .pointer (some ⟨N2 + 1, 0, none⟩)) rfl
        have z0 := kn.cell (k := 0) (v := .string (lastW pre)) rfl
        have z1 := kn2.cell (k := 0) (v := .int .i64 (lastN pre)) rfl
        have z2 := kn3.cell (k := 0) (v := .int .i64 pre.length) rfl
        have z3 := kn4.cell (k := 0) (v := .int .i64 (sumL pre)) rfl
        have f0 := kn.froz 0
        have f1 := kn2.froz 0
        have f2 := kn3.froz 0
        have f3 := kn4.froz 0
        have m0 := kn.lt
        have m1 := kn2.lt
        have m2 := kn3.lt
        have m3 := kn4.lt
        have hwd : Hid (∀ j y, ws[j]? = some y → ∃ g off, p = some ⟨g, off, none⟩ ∧ W.cell? ⟨g, off + j, none⟩ = some (.string y)) := fun j y hy => by
          obtain ⟨g, off, h1, h2, h3⟩ := HV.out.at_ j y hy
          have e : W.heap[g]? = w.heap[g]? := (hB.block g (by omega)).trans (B10.out.block g h2)
          exact ⟨g, off, h1, (World.cell?_of_block (a := ⟨g, off + j, none⟩) e).trans h3⟩
        replace hE := hid hE
        obtain ⟨x1, x2⟩ := x
        dsimp only at hC1 hC2 hocc hpos hsn hE htest
        clear kn kn2 kn3 kn4 hB hnext e1 hxm hTW1 hTW2 hr hl hxsz hsW Y1 Y2 Y5 Y6
        subst hTT hD
        dsimp only
        simp only [List.setIfInBounds_toArray, List.set_cons_succ, List.set_cons_zero]
        have hT3 : Hid ((decide ((0 : Int) < (pre.length : Int)) = false ∧ decide (0 < pre.length) = false) ∨ (decide ((0 : Int) < (pre.length : Int)) = true ∧ decide (0 < pre.length) = true) ∧ decide (lastN pre < x2) = false ∧
            ((x2 == lastN pre) = false ∨ (x2 == lastN pre) = true ∧ (Op.bytesLess x1.toList (lastW pre).toList || x1.toList == (lastW pre).toList) = false)) := by
          rcases htest.out with h | ⟨y, h1, h2, h3, h4⟩
          · subst h; exact .inl ⟨rfl, rfl⟩
          · have hl0 : 0 < pre.length := List.length_pos_iff.2 h1
            obtain ⟨t1, t2⟩ := ltE_tests h4
            rw [h2, h3]
            exact .inr ⟨⟨decide_eq_true (by omega), decide_eq_true hl0⟩, t1, t2⟩
        clear htest
        generalize pre.length = kk at *
        generalize lastW pre = lw at *
        generalize lastN pre = ln at *
        generalize sumL pre = sp at *
        rcases hT3.out with ⟨t1, t2⟩ | ⟨⟨t1, t2⟩, t3, t4 | ⟨t4, t5⟩⟩
        all_goals
          clear hT3
          gi_wp2_with fail
          refine ⟨trivial, ?_⟩
          with_reducible refine (CallsIn.inRound l (callsIn_wide.2 hC2.out)).mono ?_
          rintro e W2 ⟨rfl, rfl⟩
          gi_wp2_with fail
          refine ⟨trivial, ?_⟩
          with_reducible refine (CallsIn.inRound l (callsIn_wide.2 hC1.out)).mono ?_
          rintro e W2 ⟨rfl, rfl⟩
          gi_wp2_with fail
          gi_loopw [16, 122] (fun o i wr => wr = W ∧ ∃ j : Nat, j ≤ k ∧ i = .int .i64 j ∧ o = .int .i64 (occ (ws.take j) x1)) (fun _ i _ => k - (intOf i).toNat)
          case atStart => exact ⟨rfl, 0, Nat.zero_le _, rfl, rfl⟩
          case round =>
            obtain ⟨rfl, j, hj, rfl, rfl⟩ := hrel
            by_cases hjk : j < k
            · obtain ⟨y, hy⟩ : ∃ y, ws[j]? = some y := ⟨_, List.getElem?_eq_getElem (by rw [hlen.out]; exact hjk)⟩
              obtain ⟨g, off, rfl, hcy⟩ := hwd.out j y hy
              have hoc := hid (occ_take hy x1)
              obtain ⟨o1, o2⟩ := occ_bd x1 (ws.take j)
              have o3 : (ws.take j).length ≤ 2000 := by rw [List.length_take]; omega
              have hjI : (j : Int) < k := by omega
              have hsb := hid (str_beq y x1)
              clear hy
              generalize occ (ws.take j) x1 = oj at *
              by_cases hyx : y = x1
              · have hb1 : (y.toList == x1.toList) = true := by rw [hsb.out]; exact decide_eq_true hyx
                gi_wp2_with fail
                go_roundw
                case rel => exact ⟨trivial, j + 1, by omega, by go_num, int_eq (by rw [hoc.out, if_pos hyx])⟩
                case measure => simp [intOf]; omega
              · have hb1 : (y.toList == x1.toList) = false := by rw [hsb.out]; exact decide_eq_false hyx
                gi_wp2_with fail
                go_roundw
                case rel => exact ⟨trivial, j + 1, by omega, by go_num, int_eq (by rw [hoc.out, if_neg hyx]; omega)⟩
                case measure => simp [intOf]; omega
            · obtain rfl : j = k := by omega
              have ht : ws.take j = ws := by rw [← hlen.out, List.take_length]
              have hq : (occ (ws.take j) x1 != x2) = false := by rw [ht, hocc.out]; simp
              have hq2 : (occ ws x1 != x2) = false := by rw [hocc.out]; simp
              clear ht hwd
              gi_wp2_with fail
              rw [hE.out]
              exact hend.out
      case done =>
        rintro Dk W hDk ⟨kn, kn2, kn3, kn4, hB⟩ hK
        have hsW := hB.size
        have hTW1 := hid (T1'.out.lowN hB (by omega) (by omega))
        have k2b := hid (Y2.out.lowN hB (by omega))
        have c1 := (Y1.out.lowN hB (by omega)).cell (k := 0) (v := .slice p k cp) rfl
        have c5 := (Y5.out.lowN hB (by omega)).cell (k := 0) (v := .pointer (some ⟨N1 + 1, 0, none⟩)) rfl
        have z2 := kn3.cell (k := 0) (v := .int .i64 (addL ws).length) rfl
        have z3 := kn4.cell (k := 0) (v := .int .i64 (sumL (addL ws))) rfl
        rw [hsum.out] at z3
        have hL : Hid (∀ x : Ext W, Calls Try.prog 18 #[.pointer (some ⟨N1 + 1, 0, none⟩)] x.w fun e w' => e = .returned (.int .i64 (addL ws).length) ∧ Below x.w.heap.size x.w w') := fun x => (len_any (hTW1.out.low x.h)).mono fun _ _ ⟨he, hw⟩ => ⟨he, hw ▸ Below.refl _ _⟩
        have hWk : Hid (∀ x : Ext W, Calls Try.prog 9 #[] x.w fun e w' => e = .returned (.bool true) ∧ Below x.w.heap.size x.w w') := fun x => works_any x.w
        have HB := hid hB
        have HK := hid hK
        clear kn kn2 kn3 kn4 hB hK Y1 Y2 Y5 Y6 T1' T2' k7 x10 x11 x12 x13
        generalize (addL ws).length = ln at *
        subst hTT hD
        go_wp2_with fail
        refine ext_tailB 13 (by kernel_rfl) (by kernel_rfl) ?_
        simp only [List.take_succ_cons, List.take_zero, List.drop_succ_cons, List.drop_zero]
        refine bq_step (fun K hK => ?_); go_simp; refine ⟨hK _ ?_⟩; clear hK K
        refine bq_step (fun K hK => ?_); go_simp; refine ⟨hK _ ?_⟩; clear hK K
        refine bq_step (fun K hK => ?_); go_simp; refine ⟨?_⟩; apply Exists.intro; refine ⟨fun x => ?_, hK _ ?_⟩
        · with_reducible exact Ext.call (hL.out _)
        clear hK K
        refine bq_step (fun K hK => ?_); go_simp; refine ⟨hK _ ?_⟩; clear hK K
        refine bq_step (fun K hK => ?_); go_simp; refine ⟨hK _ ?_⟩; clear hK K
        refine bq_step (fun K hK => ?_); go_simp; refine ⟨hK _ ?_⟩; clear hK K
        refine bq_step (fun K hK => ?_); go_simp; refine ⟨hK _ ?_⟩; clear hK K
        refine bq_step (fun K hK => ?_); go_simp; refine ⟨hK _ ?_⟩; clear hK K
        refine bq_step (fun K hK => ?_); go_simp; refine ⟨hK _ ?_⟩; clear hK K
        refine bq_step (fun K hK => ?_); go_simp; refine ⟨hK _ ?_⟩; clear hK K
        refine bq_step (fun K hK => ?_); go_simp; refine ⟨hK _ ?_⟩; clear hK K
        refine bq_step (fun K hK => ?_); go_simp; refine ⟨?_⟩; apply Exists.intro; refine ⟨fun x => ?_, hK _ ?_⟩
        · with_reducible exact Ext.call (hWk.out _)
        clear hK K
        refine bq_step (fun K hK => ?_); go_simp; refine ⟨hK _ ?_⟩; clear hK K
        refine bq_nil ?_
        rintro _ ⟨x, rfl⟩
        have k2x := hid (k2b.out.low x.h)
        have hKx := hid ((x.h.block Dk (Array.getElem?_eq_some_iff.1 HK.out).1).trans HK.out)
        have c2x := k2x.out.cell (k := 0) (v := .bool false) rfl
        have n2x := k2x.out.lt
        have f2x := k2x.out.froz 0
        have hcx := hid c2x
        go_wp2_with fail
        have hK2 : (x.w.setCell ⟨w.heap.size + 1, 0, none⟩ (.bool true)).heap[Dk]? = some (.deferred (some [])) := (KeepsOthers.setCell _ _ _).same Dk _ hKx.out rfl
        refine ⟨by simp, .inl ⟨_, _, rfl, run_takeDeferred hK2, ?_⟩⟩
        have hcc : ((x.w.setCell ⟨w.heap.size + 1, 0, none⟩ (.bool true)).putObj Dk (.deferred none)).cell? ⟨w.heap.size + 1, 0, none⟩ = some (.bool true) :=
          cell_kept (World.cell?_setCell_same' _ _ _ (by rw [hcx.out]; rfl)) (grownBy_putObj' _ Dk (.deferred none)) (fun r e => by cases e; exact ⟨_, hK2, rfl⟩)
        have q0 : Below w.heap.size w x.w := B10.out.trans ((HB.out.mono (by omega)).trans (x.h.mono (by omega)))
        have q1 : Below w.heap.size w (x.w.setCell ⟨w.heap.size + 1, 0, none⟩ (.bool true)) := q0.setCell (p := ⟨w.heap.size + 1, 0, none⟩) (Nat.le_succ _) _
        have hFin : Below w.heap.size w ((x.w.setCell ⟨w.heap.size + 1, 0, none⟩ (.bool true)).putObj Dk (.deferred none)) :=
          q1.trans (belowK_b (w := w10) (by omega) _ _ _ _ hDk hK2 rfl rfl)
        clear hL hWk
        exact ⟨_, by simp [results, Try.results4, go_sem, hcc], rfl, hFin⟩
      case stop =>
        rintro Dk c pre W hDk hpre h _
        exact h.elim
end Go.Proofs.Ythidjbobjjoekaa
