/- Concord's places, Count, Places. Conditions: those of each theorem. -/
import Derived.Test.YteodfondjogmoaaGreatDoorTCj
import Derived.Test.YteodfondjogmoaaGreatDoorJm
import Derived.Test.YteodfondjogmoaaGreatDoorJe
import Derived.Shelf.SlIter.Nil
import Derived.Shelf.SortM.Plain
import Derived.Shelf.SortM.SortNone
import Derived.Test.YteodfondjogmoaaGreatDoorProg
import Derived.Lib.SliceRun
namespace Go.Proofs.YteodfondjogmoaaGreatDoor
open Go Go.RowKit Go.Lib Go.Shelf Go.Maps
set_option linter.unusedVariables false
set_option linter.unusedSimpArgs false
attribute [local go_sem] Oper.semAt_some C.Ext.cell C.Ext.froz
theorem fold_size (s : ByteArray) (hs : s.size ≤ 1100000) : (foldB s).size ≤ 13200000 := by
  have h1 := congrArg List.length (fu_fine s)
  have h2 := wrL_len (fuL s (posL s 0))
  have h3 := fuL_len s (posL s 0)
  have h4 := posL_len s _ 0 rfl
  have e : (foldB s).data.toList.length = (foldB s).size := rfl
  omega
def hwI (E : List En) (i : Nat) : Hw := ((E[i]?).map (·.h)).getD ⟨0, 0, 0, 0, 0, 0⟩
def plsL (E : List En) (κ : ByteArray) : List Hw := (grp E κ).map (hwI E)
theorem hwI_get {E : List En} {i : Nat} {e : En} (h : E[i]? = some e) : hwI E i = e.h := by unfold hwI; rw [h]; rfl
section
variable {w : World} {c : Cc} {rs : List PmR} {E : List En} {ks : List ByteArray}
set_option maxHeartbeats 4000000 in
theorem places56 (h : CcAt w c rs E ks) (s : ByteArray) (hs : s.size ≤ 1100000) :
    Calls Tryz.prog 53 #[.pointer (some ⟨c.cb, 0, none⟩), .string s] w fun x w' => (∃ v, x = .returned v ∧ GrV w' c.base (grp E (foldB s)) v) ∧ Below w.heap.size w w' := by
  have hF := hid (fun W => fold40 s hs W)
  have c4 := h.c4
  have H := hid h
  clear h
  go_enter Tryz.func53, Tryz.ntmps53
  go_wp2_with fail
  refine C.ext_tailB 6 (by kernel_rfl) (by kernel_rfl) ?_
  simp only [List.take_succ_cons, List.take_zero, List.drop_succ_cons, List.drop_zero]
  iterate 5 (refine C.bq_step (fun K hK => ?_); go_simp; refine ⟨hK _ ?_⟩; clear hK K)
  refine C.bq_step (fun K hK => ?_)
  go_simp
  refine ⟨⟨.string (foldB s), fun a => (hF.out a.w).mono ?_, hK _ ?_⟩⟩
  · rintro e w2 ⟨rfl, hb⟩
    exact ⟨rfl, ⟨w2, a.h.trans (hb.mono a.h.size)⟩, rfl⟩
  clear hK K
  refine C.bq_nil ?_
  rintro _ ⟨xx, rfl⟩
  have hxx := xx.h
  have hX := H.out.low hxx
  have hfz := fold_size s hs
  obtain ⟨v, hrun, hv, _⟩ := hX.gr.look (by have := hX.lE; unfold maxLen; omega) (foldB s) (by unfold maxLen; omega)
  refine lookup_run rfl _ _ _ _ rfl rfl rfl hrun ?_
  have HV := hid hv
  have HX := hid hxx
  clear hrun hv hX hxx c4
  go_wp2_with fail
  go_ret
  exact ⟨⟨v, rfl, HV.out⟩, HX.out⟩
theorem grv_sl {w : World} {b : Nat} {l : List Nat} {v : Value} (h : GrV w b l v) : ∃ a g cap, v = .slice a l.length cap ∧ (l = [] ∨ a = some ⟨g, 0, none⟩) ∧ ∀ (j i : Nat), l[j]? = some i → g < w.heap.size ∧ w.cell? ⟨g, j, none⟩ = some (.int .i64 i) := by
  have h1 := h.1
  rw [List.length_map] at h1
  rcases own_at h1 with ⟨h2, h3⟩ | ⟨g, cap, h2, _, hg, h4⟩
  · have e := List.length_eq_zero_iff.1 h2
    subst e
    exact ⟨none, 0, 0, h3, .inl rfl, fun j i hi => by simp at hi⟩
  · refine ⟨_, g, cap, h2, .inr rfl, fun j i hi => ⟨hg, h4 _ _ ?_⟩⟩
    simp [hi]
theorem count25 (h : CcAt w c rs E ks) (s : ByteArray) (hs : s.size ≤ 1100000) :
    Calls Tryz.prog 24 #[.pointer (some ⟨c.cb, 0, none⟩), .string s] w fun x w' => x = .returned (.int .i64 (grp E (foldB s)).length) ∧ Below w.heap.size w w' := by
  have hP := hid (places56 h s hs)
  go_enter Tryz.func24, Tryz.ntmps24
  go_wp2_with fail
  with_reducible refine Calls.mono hP.out ?_
  rintro e w2 ⟨⟨v, rfl, hv⟩, hb⟩
  obtain ⟨a, g, cap, rfl, _, _⟩ := grv_sl hv
  go_wp2_with fail
  go_ret
  exact ⟨rfl, hb⟩
theorem info39 : (Tryz.prog.info? 39).map (fun i => (i.zero, i.size, i.bytes)) = some (some (.agg #[.int .i64 0, .int .i64 0, .int .i64 0, .int .i64 0, .int .i64 0, .int .i64 0]), 6, 48) := by kernel_rfl
set_option maxHeartbeats 4000000 in
theorem places26 (h : CcAt w c rs E ks) (s : ByteArray) (hs : s.size ≤ 1100000) :
    Calls Tryz.prog 25 #[.pointer (some ⟨c.cb, 0, none⟩), .string s] w fun x w' => (∃ v, x = .returned v ∧ w'.ownsRow w.heap.size 39 6 v (plsL E (foldB s)).length ((plsL E (foldB s)).flatMap Hw.cl)) ∧ Below w.heap.size w w' := by
  obtain ⟨j0, hj, gz0, gz1, gz2⟩ := info_parts info39
  have hP := hid (places56 h s hs)
  have H := hid h
  clear h
  go_enter Tryz.func25, Tryz.ntmps25
  go_wp2_with fail
  with_reducible refine Calls.mono hP.out ?_
  rintro e w2 ⟨⟨v, rfl, hv⟩, hb⟩
  obtain ⟨a, g, cap, rfl, hag, hcell⟩ := grv_sl hv
  have hl : (plsL E (foldB s)).length = (grp E (foldB s)).length := List.length_map _
  have hgl : (grp E (foldB s)).length ≤ 32768 := by rw [grp_len]; exact Nat.le_trans List.countP_le_length H.out.lE
  have hmem := hid (fun i => @grp_mem E (foldB s) i)
  have hpl : Hid (∀ k, (plsL E (foldB s)).take k = ((grp E (foldB s)).take k).map (hwI E)) := hid (fun k => by unfold plsL; rw [List.map_take])
  have hpe : Hid (plsL E (foldB s) = (grp E (foldB s)).map (hwI E)) := hid rfl
  generalize hPl : plsL E (foldB s) = Pl at *
  generalize hG : grp E (foldB s) = G at *
  obtain ⟨n, hn⟩ : ∃ n, G.length = n := ⟨_, rfl⟩
  rw [hn] at hl hgl ⊢
  have HN := hid hn
  have HPl := hid hPl
  have HL := hid hl
  have hcell0 := hid hcell
  have HB := hid hb
  have H2 := hid (H.out.low hb)
  have hHA := H2.out.hs.ha
  have HAG := hid hag
  obtain ⟨N, hNN⟩ : ∃ N, N = w.heap.size := ⟨_, rfl⟩
  have hN2 : N ≤ w2.heap.size := by rw [hNN]; exact hb.size
  have HNN := hid hNN
  obtain ⟨M, hMM⟩ : ∃ M, M = w2.heap.size := ⟨_, rfl⟩
  rw [← hMM] at hN2
  have HMM := hid hMM
  clear hMM hn hl hPl hG hcell hv hNN hb hag hP
  go_wp2_with fail
  go_loopw [5, 12] (fun bv i wr => ∃ k : Nat, k ≤ n ∧ i = .int .i64 k ∧ Hid (wr.ownsRow M 39 6 bv k ((Pl.take k).flatMap Hw.cl)) ∧ Hid (Kept (fun q => q < w2.heap.size ) w2 wr)) (fun bv i wr => n - (RowKit.intOf i).toNat)
  case atStart => exact ⟨0, Nat.zero_le _, rfl, hid (World.ownsRow_nil _ _ _ _), hid (Kept.refl _ _)⟩
  case round =>
    obtain ⟨k, hk, rfl, hO, hB⟩ := hrel
    by_cases hp : k < n
    · obtain ⟨i, hi⟩ : ∃ i, G[k]? = some i := ⟨_, List.getElem?_eq_getElem (by rw [HN.out]; exact hp)⟩
      obtain ⟨e, he, hek⟩ := hmem.out i (List.mem_of_getElem? hi)
      obtain ⟨hg0, q9⟩ := hcell0.out k i hi
      have ha : a = some ⟨g, 0, none⟩ := HAG.out.resolve_left (fun e0 => by rw [e0] at hi; cases hi)
      have hha : c.ha = some ⟨c.hg, 0, none⟩ := hHA.resolve_left (fun e0 => by rw [List.map_eq_nil_iff.1 e0] at he; cases he)
      have hBw := hB.out.below (Nat.le_refl _) (fun _ h => h)
      have hr := (H2.out.hs.row i e.h (by rw [List.getElem?_map, he]; rfl)).low hBw
      have q9 := lowc q9 hBw
      have c1 := lowc H2.out.c1 hBw
      rw [hha] at c1
      have hEi := (List.getElem?_eq_some_iff.1 he).1
      have hiI : (i : Int) < E.length := by omega
      have hkI : (k : Int) < n := by omega
      have hT : Hid ((Pl.take (k + 1)).flatMap Hw.cl = (Pl.take k).flatMap Hw.cl ++ e.h.cl) := hid (by
        have e1 : Pl[k]? = some e.h := by rw [hpe.out, List.getElem?_map, hi]; exact congrArg some (hwI_get he)
        rw [List.take_add_one, e1, Option.toList_some, List.flatMap_append, List.flatMap_cons, List.flatMap_nil, List.append_nil])
      have hsw : M ≤ wr.heap.size := by rw [HMM.out]; exact hBw.size
      have hMM2 := HMM
      obtain ⟨⟨hp0, hl0, hw0, hn0, hf0, ht0⟩, ek⟩ := e
      obtain ⟨q0, q1, q2, q3, q4, q5⟩ := hr
      dsimp only at q0 q1 q2 q3 q4 q5 hT
      subst ha
      clear hBw hha he hi hek
      go_wp2_with (at_builtin; refine stop_appW rfl ?_)
      refine hid ?_
      refine wpList_append_own_at _ rfl _ _ 59 rfl M 39 j0 _ 6 48 Tryz.underlying59 hj gz0 gz1 gz2 rfl (by decide) _ k _ rfl (hO.out.alloc _) ⟨wr.heap.size, 0, none⟩ 1 1 [.int .i64 hp0, .int .i64 hl0, .int .i64 hw0, .int .i64 hn0, .int .i64 hf0, .int .i64 ht0] rfl rfl (cells_new6 _ _ _ _ _ _ _ _) (by simp [Value.oneCell']) (by unfold maxLen; omega) (by omega) (by rw [World.size_alloc]; omega) ?_
      intro v' w6 hown hgrow _ _
      have hO6 : Hid (w6.ownsRow M 39 6 v' (k + 1) ((Pl.take (k + 1)).flatMap Hw.cl)) := hid (by rw [hT.out]; exact hown)
      have hK6 : Hid (Kept (fun q => q < w2.heap.size) w2 w6) := hid ((hB.out.trans (Kept.alloc _ wr _)).trans (Kept.grown hgrow (fun r hr h => by have := (hO.out.lt r hr).1; rw [HMM.out] at this; omega)))
      clear hown hgrow hO hB q0 q1 q2 q3 q4 q5 q9 c1
      go_wp2_with fail
      go_roundw
      case rel => exact ⟨k + 1, by omega, by go_num, hO6, hK6⟩
      case measure => simp [RowKit.intOf]; omega
    · obtain rfl : k = n := by omega
      have hO2 := hO.out
      rw [List.take_of_length_le (by rw [HL.out]; exact Nat.le_refl _)] at hO2
      have HO2 := hid hO2
      have HF := hid ((hB.out.below (Nat.le_refl _) (fun _ h => h)))
      clear hO hO2 hB
      go_wp2_with fail
      go_ret
      exact ⟨⟨_, rfl, by rw [← HNN.out, HPl.out, HL.out]; exact row_base HO2.out hN2⟩, HB.out.trans (HF.out.mono (by rw [← HNN.out, ← HMM.out]; exact hN2))⟩
end
end Go.Proofs.YteodfondjogmoaaGreatDoor
/- Concord.Words: the keys, rising, each with how often it stands. Conditions: those of each theorem. -/
namespace Go.Proofs.YteodfondjogmoaaGreatDoor
open Go Go.RowKit Go.Lib Go.Shelf Go.Maps
set_option linter.unusedVariables false
set_option linter.unusedSimpArgs false
attribute [local go_sem] Oper.semAt_some C.Ext.cell C.Ext.froz
def wordsK (E : List En) (ks : List ByteArray) : List (ByteArray × Nat) := ks.map fun κ => (κ, (grp E κ).length)
section
variable {w0 : World} {c : Cc} {rs : List PmR} {E : List En} {ks : List ByteArray}
theorem CcAt.ksize (h : CcAt w0 c rs E ks) {κ : ByteArray} (hκ : κ ∈ ks) : κ.size ≤ 13200000 ∧ foldB κ = κ := by
  obtain ⟨e, he, rfl⟩ := h.kk.one κ hκ
  obtain ⟨i, hi⟩ := List.getElem?_of_mem he
  obtain ⟨r, v, hK⟩ := h.know hi
  refine ⟨?_, hK.k.kk⟩
  rw [hK.k.ky]
  refine fold_size _ ?_
  have h1 := hK.k.ok.sz
  have h2 : (r.d.src.extract e.h.f.toNat e.h.t.toNat).size ≤ r.d.src.size := by rw [ByteArray.size_extract]; omega
  omega
set_option maxHeartbeats 4000000 in
theorem words55 (h : CcAt w0 c rs E ks) (l xb : Nat) (J Jx : List (ByteArray × Nat) → (Nat → Prop) → World → Prop) (W : World) (hJ : Free W.heap.size J) (hX : Free W.heap.size Jx)
    (hY : ∀ pre S x W1, J pre S W1 → W.heap.size ≤ W1.heap.size → (∀ k, S k → W.heap.size ≤ k ∧ k < W1.heap.size) → pre ++ [x] <+: wordsK E ks → YieldAt Fence.wide 8 Tryz.prog l #[.string x.1, .int .i64 x.2] W1 fun e W' =>
      Kept (fun k => (k < w0.heap.size ∨ k = xb) ∨ S k) W1 W' ∧ ((e = .returned (.bool true) ∧ J (pre ++ [x]) S W') ∨ (e = .returned (.bool false) ∧ Jx (pre ++ [x]) S W')))
    (hW0 : Below w0.heap.size w0 W) (hc : W.cell? ⟨xb, 0, none⟩ = some (.pointer (some ⟨c.cb, 0, none⟩))) (h0 : J [] none' W) :
    CallsIn Fence.wide 9 Tryz.prog 52 #[.func (.yield l) #[] #[], .pointer (some ⟨xb, 0, none⟩)] W fun e W' => (∃ v, e = .returned v) ∧ (J (wordsK E ks) none' W' ∨ (∃ pre, pre <+: wordsK E ks ∧ Jx pre none' W')) := by
  have hxb : xb < W.heap.size := World.block_lt_of_cell? W _ hc
  have H := hid h
  have HJ := hid hJ
  have HX := hid hX
  have HY := hid hY
  have H0 := hid h0
  have HW0 := hid hW0
  have HCx := hid hc
  have c3 := lowc h.c3 hW0
  obtain ⟨n, hn⟩ : ∃ n, ks.length = n := ⟨_, rfl⟩
  have hn9 : n ≤ 32768 := by
    rw [← hn]
    have h1 := sum_grp ks h.kk.nd E h.kk.all
    have h2 := h.lE
    have h3 : ∀ l : List ByteArray, (∀ κ ∈ l, ∃ e ∈ E, e.k = κ) → l.length ≤ (l.map fun κ => (grp E κ).length).sum := by
      intro l
      induction l with
      | nil => intro _; exact Nat.le_refl _
      | cons x r ih =>
        intro hl
        rw [List.map_cons, List.sum_cons, List.length_cons]
        have := ih (fun κ hκ => hl κ (by simp [hκ]))
        obtain ⟨e, he, hk⟩ := hl x (by simp)
        have h5 : 0 < (grp E x).length := by
          rw [grp_len]
          exact List.countP_pos_iff.2 ⟨e, he, by simp [hk]⟩
        omega
    have := h3 ks h.kk.one
    omega
  clear hJ hX hY h0 h hW0
  refine callsIn_of_wp Tryz.func52 rfl trivial ?_ rfl
  simp only [Tryz.ntmps52, List.size_toArray, List.length_cons, List.length_nil, Nat.reduceAdd, Nat.reduceSub, Array.replicate_succ, Array.replicate_zero, List.push_toArray, List.append_toArray, List.nil_append, List.cons_append]
  rw [hn] at c3
  have HN := hid hn
  clear hn
  gi_wp2_with fail
  clear hc c3
  gi_loopw [12] (fun i wr => ∃ k : Nat, k ≤ n ∧ i = .int .i64 k ∧ Hid (J ((wordsK E ks).take k) none' wr) ∧ Hid (Below w0.heap.size w0 wr) ∧ Hid (wr.cell? ⟨xb, 0, none⟩ = some (.pointer (some ⟨c.cb, 0, none⟩))) ∧ W.heap.size ≤ wr.heap.size) (fun i wr => n - (RowKit.intOf i).toNat)
  case atStart => exact ⟨0, Nat.zero_le _, rfl, H0, HW0, HCx, Nat.le_refl _⟩
  case round =>
    obtain ⟨k, hk, rfl, hJs, hBw, hxc, hIl⟩ := hrel
    by_cases hp : k < n
    · obtain ⟨κ, hκ⟩ : ∃ κ, ks[k]? = some κ := ⟨_, List.getElem?_eq_getElem (by rw [HN.out]; exact hp)⟩
      have hm := List.mem_of_getElem? hκ
      have hCw := H.out.low hBw.out
      have hks := hCw.ksize hm
      have hka : c.ka = some ⟨c.kg, 0, none⟩ := H.out.kp.resolve_left (fun e => by rw [e] at hm; cases hm)
      have hkr := hCw.kr k κ hκ
      obtain ⟨v, hrun, hv, _⟩ := hCw.gr.look (by have := hCw.lE; unfold maxLen; omega) κ (by unfold maxLen; omega)
      obtain ⟨ga, gg, gc, rfl, _, _⟩ := grv_sl hv
      have c4 := hCw.c4
      have hx0 := hxc.out
      have hT : Hid ((wordsK E ks).take (k + 1) = (wordsK E ks).take k ++ [(κ, (grp E κ).length)]) := hid (by
        have e1 : (wordsK E ks)[k]? = some (κ, (grp E κ).length) := by unfold wordsK; rw [List.getElem?_map, hκ]; rfl
        rw [List.take_add_one, e1, Option.toList_some])
      have hpre : Hid ((wordsK E ks).take k ++ [(κ, (grp E κ).length)] <+: wordsK E ks) := hid (hT.out ▸ List.take_prefix _ _)
      have hkI : (k : Int) < n := by omega
      obtain ⟨fn, tmps, assign, body, hy, hRd2⟩ := HY.out _ none' (κ, (grp E κ).length) wr hJs.out hIl (fun k h => h.elim) hpre.out
      dsimp only at hy
      have HRd := hid hRd2
      clear hCw hv hJs hRd2 hκ hm hks
      rw [hka]
      gi_wp2_with fail
      refine (RoundIn.wide HRd.out).mono ?_
      rintro e W3 ⟨hk3, (⟨rfl, hJ3⟩ | ⟨rfl, hJx3⟩)⟩
      · have GB := hid (hBw.out.trans (hk3.below hBw.out.size (fun k hk => .inl (.inl hk))))
        have GC := hid (hk3.cell hxc.out (.inl (.inr rfl)))
        have GS : W.heap.size ≤ W3.heap.size := Nat.le_trans hIl hk3.size
        have GJ : Hid (J ((wordsK E ks).take (k + 1)) none' W3) := hid (by rw [hT.out]; exact hJ3)
        clear hk3 hJ3 hy hx0 hkr c4 hrun
        gi_wp2_with fail
        go_roundw
        case rel => exact ⟨k + 1, by omega, by go_num, GJ, GB, GC, GS⟩
        case measure => simp [RowKit.intOf]; omega
      · have GX := hid hJx3
        clear hk3 hJx3 hy hx0 hkr c4 hrun
        gi_wp2_with fail
        refine bodyPost_ret (results_none rfl _ _ _) rfl ?_
        exact ⟨⟨_, rfl⟩, .inr ⟨_, hpre.out, GX.out⟩⟩
    · obtain rfl : k = n := by omega
      have hJ9 : Hid (J (wordsK E ks) none' wr) := hid (by
        have := hJs.out
        rw [List.take_of_length_le (by unfold wordsK; rw [List.length_map, HN.out]; exact Nat.le_refl _)] at this
        exact this)
      clear hJs
      gi_wp2_with fail
      go_end0
      exact ⟨⟨_, rfl⟩, .inl hJ9.out⟩
theorem words_seq2 (h : CcAt w0 c rs E ks) (xb : Nat) (w : World) (hW0 : Below w0.heap.size w0 w) (hc : w.cell? ⟨xb, 0, none⟩ = some (.pointer (some ⟨c.cb, 0, none⟩))) :
    SeqS Fence.wide 9 Tryz.prog 52 #[.pointer (some ⟨xb, 0, none⟩)] (fun x => #[.string x.1, .int .i64 x.2]) (fun k => k < w0.heap.size ∨ k = xb) (wordsK E ks) w := fun l J Jx W hW hJ hX hY h0 =>
  words55 h l xb J Jx W hJ hX hY (hW0.trans (hW.mono hW0.size)) (lowc hc hW) h0
end
/-- Concord.Words: an iterator, over a block of its own -/
theorem words23 (cb : Nat) (w : World) : Calls Tryz.prog 22 #[.pointer (some ⟨cb, 0, none⟩)] w fun x w' => x = .returned (.func (.func 52) #[] #[.pointer (some ⟨w.heap.size, 0, none⟩)]) ∧ w' = w.alloc (.cells #[.pointer (some ⟨cb, 0, none⟩)] 27) := by
  go_enter Tryz.func22, Tryz.ntmps22
  go_wp2_with fail
  go_ret
  exact ⟨rfl, rfl⟩
end Go.Proofs.YteodfondjogmoaaGreatDoor
/-
  DERIVED: THE SHELF's CONTRACTS AT THIS DUMP, IN PLAIN WORDS (tools/lay-plain.mjs out of 'TryShelf.lean', which tools/lay-shelf.mjs wrote): THE SAME DECLARATIONS UNDER THE SAME NAMES: 'import', 'namespace', 'open', 'def', 'theorem' AND NOTHING ELSE: no command of the shelf's: FOR A HAND-IN. Each laying: the table of numbers ('.._ren') and one theorem, a field a fact of the dump's own or the kernel's comparison; each contract: ONE APPLICATION.
-/
namespace Go.Proofs
open Go.Shelf
def Tryz.keysA_ren : Go.Shelf.Ren := ⟨fun | 7 => 96 | 10 => 136 | n => n, fun | 23 => 105 | 26 => 9 | 3 => 49 | 28 => 67 | 0 => 0 | 27 => 66 | 33 => 123 | 4 => 4 | n => n, fun | n => n⟩
theorem Tryz.keysA : Go.Proofs.SlLaysZ.n7 Tryz.prog Tryz.keysA_ren := {
  mixed := by kernel_rfl
  f7 := ⟨Tryz.f96.name, by decide, Tryz.func96.trans (congrArg some (by kernel_rfl))⟩
  f10 := ⟨Tryz.f136.name, by decide, Tryz.func136.trans (congrArg some (by kernel_rfl))⟩
  t0 := Tryz.underlying0
  a0 := Tryz.isAgg0
  z0 := Tryz.sizeOf0
  v0 := Tryz.zeroValue0
  t4 := Tryz.underlying4
  a4 := Tryz.isAgg4
  z4 := Tryz.sizeOf4
  v4 := Tryz.zeroValue4
  t23 := Tryz.underlying105
  a23 := Tryz.isAgg105
  z23 := Tryz.sizeOf105
  v23 := Tryz.zeroValue105
  t26 := Tryz.underlying9
  a26 := Tryz.isAgg9
  z26 := Tryz.sizeOf9
  v26 := Tryz.zeroValue9
  t27 := Tryz.underlying66
  a27 := Tryz.isAgg66
  z27 := Tryz.sizeOf66
  v27 := Tryz.zeroValue66
  t28 := Tryz.underlying67
  a28 := Tryz.isAgg67
  z28 := Tryz.sizeOf67
  v28 := Tryz.zeroValue67
  t33 := Tryz.underlying123
  a33 := Tryz.isAgg123
  z33 := Tryz.sizeOf123
  v33 := Tryz.zeroValue123 }
def Tryz.sortedA_ren : Go.Shelf.Ren := ⟨fun | 6 => 95 | 8 => 134 | 9 => 135 | 11 => 175 | 13 => 177 | 12 => 176 | 23 => 211 | 24 => 212 | 14 => 202 | 15 => 203 | 16 => 204 | 17 => 205 | 18 => 206 | 19 => 207 | 20 => 208 | 21 => 209 | 22 => 210 | 25 => 221 | 26 => 222 | 27 => 223 | 28 => 224 | 29 => 225 | 30 => 226 | 31 => 231 | n => n, fun | 26 => 9 | 28 => 67 | 24 => 22 | 0 => 0 | 3 => 3 | 37 => 187 | 48 => 300 | 50 => 302 | 4 => 4 | 40 => 295 | 39 => 294 | 45 => 138 | 5 => 5 | 9 => 9 | 51 => 311 | 55 => 315 | 57 => 324 | 58 => 52 | 33 => 123 | n => n, fun | n => n⟩
theorem Tryz.sortedA : Go.Proofs.SlLaysZ.n6 Tryz.prog Tryz.sortedA_ren := {
  mixed := by kernel_rfl
  f6 := ⟨Tryz.f95.name, by decide, Tryz.func95.trans (congrArg some (by kernel_rfl))⟩
  f8 := ⟨Tryz.f134.name, by decide, Tryz.func134.trans (congrArg some (by kernel_rfl))⟩
  f11 := ⟨Tryz.f175.name, by decide, Tryz.func175.trans (congrArg some (by kernel_rfl))⟩
  t0 := Tryz.underlying0
  a0 := Tryz.isAgg0
  z0 := Tryz.sizeOf0
  v0 := Tryz.zeroValue0
  t24 := Tryz.underlying22
  a24 := Tryz.isAgg22
  z24 := Tryz.sizeOf22
  v24 := Tryz.zeroValue22
  t26 := Tryz.underlying9
  a26 := Tryz.isAgg9
  z26 := Tryz.sizeOf9
  v26 := Tryz.zeroValue9
  t28 := Tryz.underlying67
  a28 := Tryz.isAgg67
  z28 := Tryz.sizeOf67
  v28 := Tryz.zeroValue67
  i26 := by kernel_rfl }
def Tryz.sortA_ren : Go.Shelf.Ren := ⟨fun | 6 => 135 | 8 => 177 | 9 => 176 | 19 => 211 | 20 => 212 | 21 => 202 | 22 => 203 | 23 => 204 | 24 => 205 | 25 => 206 | 26 => 207 | 27 => 208 | 28 => 209 | 29 => 210 | 36 => 221 | 31 => 222 | 32 => 223 | 37 => 224 | 38 => 225 | 39 => 226 | 41 => 231 | n => n, fun | 27 => 22 | 29 => 9 | 3 => 3 | 32 => 187 | 26 => 22 | 0 => 0 | 44 => 300 | 46 => 302 | 4 => 4 | 36 => 295 | 35 => 294 | 41 => 138 | 5 => 5 | 9 => 9 | 53 => 311 | 57 => 315 | 63 => 324 | 64 => 52 | n => n, fun | n => n⟩
theorem Tryz.sortA : Go.Proofs.SlLaysM.n6 Tryz.prog Tryz.sortA_ren := {
  mixed := by kernel_rfl
  f6 := ⟨Tryz.f135.name, by decide, Tryz.func135.trans (congrArg some (by kernel_rfl))⟩
  f8 := Tryz.func177.trans (congrArg some (by kernel_rfl))
  f9 := ⟨Tryz.f176.name, by decide, Tryz.func176.trans (congrArg some (by kernel_rfl))⟩
  f19 := Tryz.func211.trans (congrArg some (by kernel_rfl))
  f20 := Tryz.func212.trans (congrArg some (by kernel_rfl))
  f21 := ⟨Tryz.f202.name, by decide, Tryz.func202.trans (congrArg some (by kernel_rfl))⟩
  f22 := ⟨Tryz.f203.name, by decide, Tryz.func203.trans (congrArg some (by kernel_rfl))⟩
  f23 := ⟨Tryz.f204.name, by decide, Tryz.func204.trans (congrArg some (by kernel_rfl))⟩
  f24 := ⟨Tryz.f205.name, by decide, Tryz.func205.trans (congrArg some (by kernel_rfl))⟩
  f25 := ⟨Tryz.f206.name, by decide, Tryz.func206.trans (congrArg some (by kernel_rfl))⟩
  f26 := ⟨Tryz.f207.name, by decide, Tryz.func207.trans (congrArg some (by kernel_rfl))⟩
  f27 := ⟨Tryz.f208.name, by decide, Tryz.func208.trans (congrArg some (by kernel_rfl))⟩
  f28 := ⟨Tryz.f209.name, by decide, Tryz.func209.trans (congrArg some (by kernel_rfl))⟩
  f29 := ⟨Tryz.f210.name, by decide, Tryz.func210.trans (congrArg some (by kernel_rfl))⟩
  f31 := Tryz.func222.trans (congrArg some (by kernel_rfl))
  f32 := Tryz.func223.trans (congrArg some (by kernel_rfl))
  f36 := ⟨Tryz.f221.name, by decide, Tryz.func221.trans (congrArg some (by kernel_rfl))⟩
  f37 := ⟨Tryz.f224.name, by decide, Tryz.func224.trans (congrArg some (by kernel_rfl))⟩
  f38 := ⟨Tryz.f225.name, by decide, Tryz.func225.trans (congrArg some (by kernel_rfl))⟩
  f39 := ⟨Tryz.f226.name, by decide, Tryz.func226.trans (congrArg some (by kernel_rfl))⟩
  f41 := ⟨Tryz.f231.name, by decide, Tryz.func231.trans (congrArg some (by kernel_rfl))⟩
  t0 := Tryz.underlying0
  a0 := Tryz.isAgg0
  z0 := Tryz.sizeOf0
  v0 := Tryz.zeroValue0
  t3 := Tryz.underlying3
  a3 := Tryz.isAgg3
  z3 := Tryz.sizeOf3
  v3 := Tryz.zeroValue3
  t4 := Tryz.underlying4
  a4 := Tryz.isAgg4
  z4 := Tryz.sizeOf4
  v4 := Tryz.zeroValue4
  t5 := Tryz.underlying5
  a5 := Tryz.isAgg5
  z5 := Tryz.sizeOf5
  v5 := Tryz.zeroValue5
  t9 := Tryz.underlying9
  a9 := Tryz.isAgg9
  z9 := Tryz.sizeOf9
  v9 := Tryz.zeroValue9
  t26 := Tryz.underlying22
  a26 := Tryz.isAgg22
  z26 := Tryz.sizeOf22
  v26 := Tryz.zeroValue22
  t27 := Tryz.underlying22
  a27 := Tryz.isAgg22
  z27 := Tryz.sizeOf22
  v27 := Tryz.zeroValue22
  t29 := Tryz.underlying9
  a29 := Tryz.isAgg9
  z29 := Tryz.sizeOf9
  v29 := Tryz.zeroValue9
  t32 := Tryz.underlying187
  a32 := Tryz.isAgg187
  z32 := Tryz.sizeOf187
  v32 := Tryz.zeroValue187
  t35 := Tryz.underlying294
  a35 := Tryz.isAgg294
  z35 := Tryz.sizeOf294
  v35 := Tryz.zeroValue294
  t36 := Tryz.underlying295
  a36 := Tryz.isAgg295
  z36 := Tryz.sizeOf295
  v36 := Tryz.zeroValue295
  t41 := Tryz.underlying138
  a41 := Tryz.isAgg138
  z41 := Tryz.sizeOf138
  v41 := Tryz.zeroValue138
  t44 := Tryz.underlying300
  a44 := Tryz.isAgg300
  z44 := Tryz.sizeOf300
  v44 := Tryz.zeroValue300
  t46 := Tryz.underlying302
  a46 := Tryz.isAgg302
  z46 := Tryz.sizeOf302
  v46 := Tryz.zeroValue302
  t53 := Tryz.underlying311
  a53 := Tryz.isAgg311
  z53 := Tryz.sizeOf311
  v53 := Tryz.zeroValue311
  t57 := Tryz.underlying315
  a57 := Tryz.isAgg315
  z57 := Tryz.sizeOf315
  v57 := Tryz.zeroValue315
  t63 := Tryz.underlying324
  a63 := Tryz.isAgg324
  z63 := Tryz.sizeOf324
  v63 := Tryz.zeroValue324
  t64 := Tryz.underlying52
  a64 := Tryz.isAgg52
  z64 := Tryz.sizeOf52
  v64 := Tryz.zeroValue52 }
end Go.Proofs
/- What concord.New leans on: slices.Contains, slices.Clone, slices.Sorted(maps.Keys(..)). Conditions: those of each theorem. -/
namespace Go.Proofs.YteodfondjogmoaaGreatDoor
open Go Go.RowKit Go.Lib Go.Shelf Go.Maps Go.Sort
set_option linter.unusedVariables false
set_option linter.unusedSimpArgs false
attribute [local go_sem] Oper.semAt_some C.Ext.cell C.Ext.froz Option.isNone_some
theorem run_equalIn_nil_l (W : World) (d b : Nat) : (Op.equalIn (d + 1) 94 (.pointer none) (.pointer (some ⟨b, 0, none⟩))).run Tryz.prog W = .ok false W := by
  simp [Op.equalIn, run_underlying Tryz.underlying94]
theorem run_equal_nil_l (W : World) (b : Nat) : (Op.equal 94 (.pointer none) (.pointer (some ⟨b, 0, none⟩))).run Tryz.prog W = .ok false W := run_equalIn_nil_l W 9999 b
set_option maxRecDepth 100000 in
theorem index136 (w : World) (a : Option Addr) (g cap : Nat) (rs : List PmR) (h : PsAt w a g rs) (hl : rs.length ≤ 100000) : Calls Tryz.prog 133 #[.slice a rs.length cap, .pointer none] w fun e w' => e = .returned (.int .i64 (-1)) ∧ w' = w := by
  obtain ⟨n, hn⟩ : ∃ n, rs.length = n := ⟨_, rfl⟩
  rw [hn] at hl ⊢
  have H := hid h
  have HN := hid hn
  clear h hn
  go_enter Tryz.func133, Tryz.ntmps133
  go_wp2_with fail
  go_loop [8] (fun i => ∃ k : Nat, k ≤ n ∧ i = .int .i64 k) (fun i => n - (RowKit.intOf i).toNat)
  case atStart => exact ⟨0, Nat.zero_le _, rfl⟩
  case round =>
    obtain ⟨k, hk, rfl⟩ := hrel
    by_cases hp : k < n
    · obtain ⟨r, hr⟩ : ∃ r, rs[k]? = some r := ⟨_, List.getElem?_eq_getElem (by rw [HN.out]; exact hp)⟩
      have ha : a = some ⟨g, 0, none⟩ := H.out.ha.resolve_left (fun e => by rw [e] at hr; cases hr)
      have hc := (H.out.row k r hr).1
      have hkI : (k : Int) < n := by omega
      subst ha
      have hbn : ∀ W, (binOp .eql 94 (.pointer none) (.pointer (some ⟨r.pb, 0, none⟩))).run Tryz.prog W = .ok (.bool false) W := fun W => by
        have h := run_equal_nil_l W r.pb
        simp only [binOp]
        simp [h]
      clear hr
      go_wp2_with fail
      go_round
      case rel => exact ⟨k + 1, by omega, by go_num⟩
      case measure => simp [RowKit.intOf]; omega
    · obtain rfl : k = n := by omega
      go_wp2_with fail
      go_ret
      exact ⟨rfl, rfl⟩
theorem contains96 (w : World) (a : Option Addr) (g cap : Nat) (rs : List PmR) (h : PsAt w a g rs) (hl : rs.length ≤ 100000) : Calls Tryz.prog 93 #[.slice a rs.length cap, .pointer none] w fun e w' => e = .returned (.bool false) ∧ w' = w := by
  have hI := hid (index136 w a g cap rs h hl)
  go_enter Tryz.func93, Tryz.ntmps93
  go_wp2_with fail
  with_reducible refine Calls.mono hI.out ?_
  rintro e w' ⟨rfl, rfl⟩
  go_wp2_with fail
  go_ret
  exact ⟨rfl, rfl⟩
theorem info94 : (Tryz.prog.info? 94).map (fun i => (i.zero, i.size, i.bytes)) = some (some (.pointer none), 1, 8) := by kernel_rfl
def pmV (r : PmR) : Value := .pointer (some ⟨r.pb, 0, none⟩)
theorem ps_of_own {w : World} {b : Nat} {v : Value} {rs : List PmR} (h : w.ownsRow b 94 1 v rs.length (rs.map pmV)) (hr : ∀ r ∈ rs, PmOk w r) : ∃ a g cap, v = .slice a rs.length cap ∧ PsAt w a g rs ∧ ((rs = [] ∧ a = none) ∨ a = some ⟨g, 0, none⟩) := by
  rcases own_at h with ⟨h1, h2⟩ | ⟨g, cap, h1, _, _, h4⟩
  · have e := List.length_eq_zero_iff.1 h1
    subst e
    exact ⟨none, 0, 0, h2, ⟨.inl rfl, fun k x hx => by cases hx⟩, .inl ⟨rfl, rfl⟩⟩
  · exact ⟨_, g, cap, h1, ⟨.inr rfl, fun k r hk => ⟨h4 k _ (by rw [List.getElem?_map, hk]; rfl), hr r (List.mem_of_getElem? hk)⟩⟩, .inr rfl⟩
set_option maxHeartbeats 2000000 in
theorem clone97 (w : World) (a : Option Addr) (g cap : Nat) (rs : List PmR) (h : PsAt w a g rs) (hn : (rs = [] ∧ a = none) ∨ a = some ⟨g, 0, none⟩) (hl : rs.length ≤ 100000) :
    Calls Tryz.prog 94 #[.slice a rs.length cap] w fun e w' => (∃ v, e = .returned v ∧ w'.ownsRow w.heap.size 94 1 v rs.length (rs.map pmV)) ∧ Below w.heap.size w w' := by
  obtain ⟨i0, hi, hz0, hz1, hz2⟩ := info_parts info94
  rcases hn with ⟨rfl, rfl⟩ | rfl
  · have hnil : ∀ W, (binOp .eql 93 (.slice none 0 cap) (.slice none 0 0)).run Tryz.prog W = .ok (.bool true) W := fun W => by simpa using Lib.run_eql_slice_nil W 93 94 none 0 cap 0 0 Tryz.underlying93
    rw [List.length_nil]
    go_enter Tryz.func94, Tryz.ntmps94
    go_wp2_with fail
    go_ret
    exact ⟨⟨_, rfl, World.ownsRow_nil _ _ _ _⟩, Below.refl _ _⟩
  · have hnil : ∀ W, (binOp .eql 93 (.slice (some ⟨g, 0, none⟩) rs.length cap) (.slice none 0 0)).run Tryz.prog W = .ok (.bool false) W := fun W => by simpa using Lib.run_eql_slice_nil W 93 94 (some ⟨g, 0, none⟩) rs.length cap 0 0 Tryz.underlying93
    have hown : (w.alloc (.cells #[] 94)).ownsRow w.heap.size 94 1 (.slice (some ⟨w.heap.size, 0, none⟩) 0 0) 0 [] := ⟨rfl, .inr ⟨w.heap.size, 0, #[], rfl, Nat.le_refl _, heap_alloc_new w _, Nat.le_refl _, Nat.zero_le _, rfl, rfl⟩⟩
    have hnews : ∀ j u, (rs.map pmV)[j]? = some u → (w.alloc (.cells #[] 94)).cell? ((⟨g, 0, none⟩ : Addr).add j) = some u := fun j u hu => by
      rw [List.getElem?_map] at hu
      cases hx : rs[j]? with
      | none => rw [hx] at hu; cases hu
      | some r =>
        rw [hx] at hu
        obtain rfl : pmV r = u := by simpa using hu
        have hc := lowc (h.row j r hx).1 ((Below.refl _ w).alloc (Nat.le_refl _) (.cells #[] 94))
        show (w.alloc (.cells #[] 94)).cell? (({ block := g, off := 0 } : Addr).add j) = some (pmV r)
        by_cases hj : j = 0
        · subst hj; simpa [Addr.add, pmV] using hc
        · simpa [Addr.add, hj, pmV] using hc
    have hO := hid hown
    have hNw := hid hnews
    clear hown hnews h
    go_enter Tryz.func94, Tryz.ntmps94
    go_wp2_with (first | (at_builtin; refine wpList_append_own _ rfl (.tmp 5) (.tmp 6) 93 rfl w.heap.size 94 i0 _ 1 8 Tryz.underlying93 hi hz0 hz1 hz2 rfl (by decide) _ 0 [] rfl hO.out ⟨g, 0, none⟩ rs.length cap (rs.map pmV) rfl (by simp) hNw.out (by intro u hu; obtain ⟨x, _, rfl⟩ := List.mem_map.1 hu; rfl) (by unfold maxLen; omega) (by omega) (by simp) ?_; refine R.stop_here ?_) | fail)
    refine hid ?_
    intro v' w5 hown' hgrow hn
    have hB := hid (Below.grown (Below.alloc (Below.refl w.heap.size w) (Nat.le_refl _) (.cells #[] 94)) hgrow (by simp) (fun k e => by cases e; exact Nat.le_refl _))
    have hW := hid hown'
    clear hown' hgrow hn hO hNw
    go_wp2_with fail
    go_ret
    exact ⟨⟨v', rfl, by simpa using hW.out⟩, hB.out⟩
theorem Tryz_sortsA (m : Nat) : AnyZ.SortsIn Tryz.prog Tryz.sortedA_ren Fence.wide m :=
  ⟨fun blk off cap ss W hH hblk hsz => callsIn_wide.2 (AnyM.slices_Sort_string Tryz.sortA blk off cap ss W hH hblk hsz),
   fun p cap W => callsIn_wide.2 (AnyM.slices_Sort_string_none Tryz.sortA p cap W)⟩
theorem keys99 (W : World) (mb : Nat) : Calls Tryz.prog 96 #[.map (some mb)] W fun e w' => e = .returned (.func (.func 136) #[] #[.pointer (some ⟨W.heap.size, 0, none⟩)]) ∧ w' = W.alloc (.cells #[.map (some mb)] 105) :=
  (callsIn_wide (n := 5)).1 (AnyZ.keys_in Tryz.keysA Fence.wide 5 trivial rfl (some mb) W)
/-- the keys, rising, in a new slice -/
theorem sorted98 {W : World} {mb base : Nat} {No : Nat → Prop} {E : List En} (h : GrAt W mb base No E) (hE : E.length ≤ 32768) :
    Calls Tryz.prog 95 #[.func (.func 136) #[] #[.pointer (some ⟨W.heap.size, 0, none⟩)]] (W.alloc (.cells #[.map (some mb)] 105)) fun e w' => ∃ (v : Value) (ks : List ByteArray), e = .returned v ∧ KsOk E ks ∧ w'.ownsRow (W.heap.size + 1) 9 1 v ks.length (ks.map .string) ∧ Below (W.heap.size + 1) (W.alloc (.cells #[.map (some mb)] 105)) w' := by
  obtain ⟨D, R, hown, hG⟩ := h.keys
  have hlt := hown.lt
  have hsz : Maps.size D ≤ 32768 := Nat.le_trans hown.size_le hE
  have hseq : SeqGives Fence.wide 2 Tryz.prog 136 #[.pointer (some ⟨W.heap.size, 0, none⟩)] encStr (fun ss => ss.Perm (strKeys D)) (Maps.size D) (W.alloc (.cells #[.map (some mb)] 105)) :=
    AnyZ.keys_gives (ρ := Tryz.keysA_ren) { Tryz.keysA with } Fence.wide _ trivial rfl (by omega) W.heap.size mb E.length D _ (by simp) (by simp) (by
      obtain ⟨es, clock, hb, Ft, hs, hD⟩ := hown
      exact ⟨es, clock, (Below.heap_alloc _ _ mb hlt).trans hb, Ft, hs, hD⟩)
  have cS := AnyZ.sorted_in Tryz.sortedA Fence.wide 5 trivial trivial trivial trivial rfl (by omega) (Tryz_sortsA _) (enters_of Tryz.func135 (by kernel_rfl) rfl) 136 #[.pointer (some ⟨W.heap.size, 0, none⟩)] trivial (enters_of Tryz.func136 (by kernel_rfl) rfl) _ _ (by unfold maxLen; omega) (by omega) _ hseq
  change CallsIn _ _ Tryz.prog 95 _ _ _ at cS
  refine ((callsIn_wide (n := 5)).1 cS).mono ?_
  rintro e w' ⟨v, ss, rfl, hp, hrow, hnil, hb⟩
  rw [World.size_alloc] at hrow hb
  refine ⟨v, (ss.mergeSort fun x y => decide (x ≤ y)).map baL, rfl, ks_ok hown hG hp, ?_, hb⟩
  have e1 : ((ss.mergeSort fun x y => decide (x ≤ y)).map baL).length = ss.length := by rw [List.length_map, (List.mergeSort_perm _ _).length_eq]
  have e2 : ((ss.mergeSort fun x y => decide (x ≤ y)).map baL).map Value.string = (ss.mergeSort fun x y => decide (x ≤ y)).map encStr := by rw [List.map_map]; rfl
  rw [e1, e2]
  exact hrow
end Go.Proofs.YteodfondjogmoaaGreatDoor
