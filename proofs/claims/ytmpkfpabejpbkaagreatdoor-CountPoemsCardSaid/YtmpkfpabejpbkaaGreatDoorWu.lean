/- CountPoems answers true of any text and any way. Conditions: those of the theorem. -/
import Derived.Test.YtmpkfpabejpbkaaGreatDoorJCTaI
namespace Go.Proofs.YtmpkfpabejpbkaaGreatDoor
open Go Go.RowKit Go.Lib Go.Shelf
set_option linter.unusedVariables false
set_option linter.unusedSimpArgs false
attribute [local go_sem] Oper.semAt_some C.Ext.cell C.Ext.froz
set_option maxRecDepth 100000 in
set_option maxHeartbeats 16000000 in
theorem poems3 (s : ByteArray) (way : Int) (hm : s.size ≤ maxLen) (w : World) :
    Calls Tryz.prog 3 #[.string s, .int .i64 way] w fun e w' => e = .returned (.bool true) ∧ Below w.heap.size w w' := by
  have hWk := hid C.works_any
  have hRd := hid (fun W => (by
    by_cases hs : s.size ≤ 65536
    · exact read5 s W hs
    · exact read5_long s W (by omega) hm : Calls Tryz.prog 5 #[.string s] W (ReadPost W)))
  refine (callsIn_wide (n := 9)).1 ?_
  refine callsIn_of_wp_marks Tryz.func3 rfl trivial ?_ rfl
  simp only [Tryz.ntmps3, List.size_toArray, List.length_cons, List.length_nil, Nat.reduceAdd, Nat.reduceSub, Array.replicate_succ, Array.replicate_zero, List.push_toArray, List.append_toArray, List.nil_append, List.cons_append]
  obtain ⟨N, hNN⟩ : ∃ N, N = w.heap.size := ⟨_, rfl⟩
  have k0 : Blk ((w.alloc (.cells #[.int .i64 way] 3)).alloc (.cells #[.bool false] 4)) N 3 #[.int .i64 way] := by rw [hNN]; exact (Blk.new w 3 #[.int .i64 way]).alloc _
  have k1 : Blk ((w.alloc (.cells #[.int .i64 way] 3)).alloc (.cells #[.bool false] 4)) (N + 1) 4 #[.bool false] := by
    have := Blk.new (w.alloc (.cells #[.int .i64 way] 3)) 4 #[.bool false]
    rw [World.size_alloc, ← hNN] at this; exact this
  have hb0 : Below N w ((w.alloc (.cells #[.int .i64 way] 3)).alloc (.cells #[.bool false] 4)) := by rw [hNN]; exact ((Below.refl _ w).alloc (Nat.le_refl _) _).alloc (by simp) _
  have K0 := hid k0
  have K1 := hid k1
  have HB0 := hid hb0
  clear k0 k1 hb0
  gi_wp2_with fail
  refine ⟨trivial, ?_⟩
  with_reducible refine CallsIn.mono (callsIn_wide.2 (hWk.out _)) ?_
  rintro e w1 ⟨rfl, hb1⟩
  have K01 := hid (K0.out.low hb1)
  have K11 := hid (K1.out.low hb1)
  have HB1 := hid (HB0.out.trans (hb1.mono (by simp; omega)))
  clear hb1 K0 K1 HB0
  rw [← hNN]
  have HNN := hid hNN
  clear hNN
  gi_wp2_with fail
  refine ⟨trivial, ?_⟩
  with_reducible refine CallsIn.mono (callsIn_wide.2 (hRd.out _)) ?_
  rintro e w2 ⟨hb2, hcase⟩
  have K02 := hid (K01.out.low hb2)
  have K12 := hid (K11.out.low hb2)
  have HB2 := hid (HB1.out.trans (hb2.mono (by have := K01.out.lt; omega)))
  have hN1 : N + 1 < w1.heap.size := K11.out.lt
  have hN2 : N + 1 < w2.heap.size := K12.out.lt
  clear hb2 K01 K11 HB1 hRd
  rcases hcase with ⟨q, rfl⟩ | ⟨pb, g, a, cap, L, rfl, hPm, hL, hLs, hpb0, hg0, hpbl, hgl⟩
  · -- the text is no poem
    have c1 := ((K12.out.alloc (.cells #[.pointer none] 23)).alloc (.cells #[.int .i64 3, .int .i64 q] 26))
    have hb3 : Below N w ((w2.alloc (.cells #[.pointer none] 23)).alloc (.cells #[.int .i64 3, .int .i64 q] 26)) := (HB2.out.alloc (by omega) _).alloc (by simp; omega) _
    have C1 := hid c1
    have HB3 := hid hb3
    clear c1 hb3
    gi_wp2_with fail
    refine ⟨trivial, ?_⟩
    with_reducible refine CallsIn.mono (callsIn_wide.2 (hWk.out _)) ?_
    rintro e w3 ⟨rfl, hb3⟩
    have k3 := C1.out.low hb3
    have c11 := k3.cell (k := 0) rfl
    have z1 := k3.froz 0
    have HB4 := hid (HB3.out.trans (hb3.mono (by simp; omega)))
    have C3 := hid k3
    clear k3 hb3 C1 HB3
    have y := (C3.out.upd 0 (.bool true) rfl).cell (k := 0) rfl
    gi_wp2_with fail
    refine ⟨.bool true, (by simp [results, Tryz.results3, go_sem, y]), rfl, ?_⟩
    rw [← HNN.out]
    exact HB4.out.setCell (p := ⟨N + 1, 0, none⟩) (by show N ≤ N + 1; omega) _
  · -- the text is a poem
    have hL2 : L.length ≤ 70000 := by omega
    have HLs := hid (fun v hv => Nat.le_trans (hLs v hv) (by omega) : ∀ v ∈ L, v.tx.size ≤ 100000)
    obtain ⟨P0, hP0⟩ : ∃ P0, P0 = w2.heap.size := ⟨_, rfl⟩
    have hb3 : Below w2.heap.size w2 ((w2.alloc (.cells #[.pointer (some ⟨pb, 0, none⟩)] 23)).alloc (.cells #[.int .i64 0, .int .i64 0] 26)) := ((Below.refl _ w2).alloc (Nat.le_refl _) _).alloc (by simp) _
    have kp : Blk ((w2.alloc (.cells #[.pointer (some ⟨pb, 0, none⟩)] 23)).alloc (.cells #[.int .i64 0, .int .i64 0] 26)) P0 23 #[.pointer (some ⟨pb, 0, none⟩)] := by rw [hP0]; exact (Blk.new w2 23 _).alloc _
    have hPm3 := hPm.low hb3
    have k03 := K02.out.low hb3
    have k13 := K12.out.low hb3
    have hB3 := HB2.out.trans (hb3.mono (by omega))
    have hOf := hid (of6 of_ok L hL2 HLs.out pb g cap a _ hPm3 (by rw [World.size_alloc, World.size_alloc]; omega))
    have hpo : pb < P0 ∧ g < P0 := by omega
    have hpbN : N + 1 < pb ∧ N + 1 < g := by omega
    have hs3 : ((w2.alloc (.cells #[.pointer (some ⟨pb, 0, none⟩)] 23)).alloc (.cells #[.int .i64 0, .int .i64 0] 26)).heap.size = P0 + 2 := by simp [hP0]
    have hN2' : N + 1 < P0 := by omega
    have KP := hid kp
    have HPm := hid hPm3
    have K03 := hid k03
    have K13 := hid k13
    have HB3 := hid hB3
    have HS3 := hid hs3
    clear hPm hb3 kp hPm3 k03 k13 hB3 hLs K02 K12 HB2 hpb0 hg0 hs3
    gi_wp2_with fail
    refine ⟨trivial, ?_⟩
    with_reducible refine CallsIn.mono (callsIn_wide.2 hOf.out) ?_
    rintro e w3 ⟨hb4, hres⟩
    rw [HS3.out] at hb4 hres
    have hs4 : P0 + 2 ≤ w3.heap.size := by have := hb4.size; rw [HS3.out] at this; exact this
    have lw : ∀ {B : Nat} {t : TypeId} {c : Array Value}, Blk _ B t c → Blk w3 B t c := fun h => h.low (by rw [HS3.out]; exact hb4)
    have KP4 := hid (lw KP.out)
    have K04 := hid (lw K03.out)
    have K14 := hid (lw K13.out)
    have HPm4 := hid (HPm.out.low (by rw [HS3.out]; exact hb4))
    have HB4 := hid (HB3.out.trans (hb4.mono (by omega)))
    have HPT := hid hP0
    clear hb4 lw KP K03 K13 HPm HB3 hOf HS3 hP0
    obtain ⟨ws, hws⟩ : ∃ ws, ws = pW (eachL 0 L) := ⟨_, rfl⟩
    rw [← hws] at hres
    have HWS := hid hws
    have hwz := hid (hws ▸ pW_size HLs.out : ∀ x ∈ ws, x.2.size ≤ 100000)
    clear hws
    rw [← HPT.out]
    have hP0l : P0 < w3.heap.size := by omega
    cases hra : runA [] (txW ws) with
    | bad er =>
      rw [hra] at hres
      obtain rfl := hres
      obtain ⟨T0, hT0⟩ : ∃ T0, T0 = w3.heap.size := ⟨_, rfl⟩
      have cp : (((w3.alloc (.cells #[.pointer none] 29)).alloc (.cells #[.int .i64 er] 24)).alloc (.cells #[.slice none 0 0] 32)).cell? ⟨P0, 0, none⟩ = some (.pointer (some ⟨pb, 0, none⟩)) := (((KP4.out.alloc _).alloc _).alloc _).cell rfl
      have hP7 := hid (fun W => pwords7 (some ⟨pb, 0, none⟩) W)
      gi_wp2_with fail
      refine ⟨trivial, ?_⟩
      with_reducible refine CallsIn.mono (callsIn_wide.2 (hP7.out _)) ?_
      rintro e w4 ⟨rfl, hw4⟩
      simp only [World.size_alloc, Nat.add_assoc, Nat.reduceAdd]
      rw [← hT0]
      have hM : w4.heap.size = T0 + 4 := by rw [hw4]; simp [hT0]
      have hK4 : Kept (fun _ => True) w3 w4 := by rw [hw4]; exact (((Kept.alloc _ _ _).trans (Kept.alloc _ _ _)).trans (Kept.alloc _ _ _)).trans (Kept.alloc _ _ _)
      have bt : Blk w4 T0 29 #[.pointer none] := by rw [hw4, hT0]; exact (((Blk.new w3 29 #[.pointer none]).alloc _).alloc _).alloc _
      have bf : Blk w4 (T0 + 1) 24 #[.int .i64 er] := by
        have := ((Blk.new (w3.alloc (.cells #[.pointer none] 29)) 24 #[.int .i64 er]).alloc (.cells #[.slice none 0 0] 32)).alloc (.cells #[.pointer (some ⟨pb, 0, none⟩)] 23)
        rw [World.size_alloc, ← hT0] at this
        rw [hw4]; exact this
      have bl : Blk w4 (T0 + 2) 32 #[.slice none 0 0] := by
        have := (Blk.new ((w3.alloc (.cells #[.pointer none] 29)).alloc (.cells #[.int .i64 er] 24)) 32 #[.slice none 0 0]).alloc (.cells #[.pointer (some ⟨pb, 0, none⟩)] 23)
        simp only [World.size_alloc, ← hT0, Nat.add_assoc, Nat.reduceAdd] at this
        rw [hw4]; exact this
      have bq : Blk w4 (T0 + 3) 23 #[.pointer (some ⟨pb, 0, none⟩)] := by
        have := Blk.new (((w3.alloc (.cells #[.pointer none] 29)).alloc (.cells #[.int .i64 er] 24)).alloc (.cells #[.slice none 0 0] 32)) 23 #[.pointer (some ⟨pb, 0, none⟩)]
        simp only [World.size_alloc, ← hT0, Nat.add_assoc, Nat.reduceAdd] at this
        rw [hw4]; exact this
      have BT := hid bt
      have BF := hid bf
      have BL := hid bl
      have BQ := hid bq
      have B0 := hid (K04.out.keep hK4 trivial)
      have B1 := hid (K14.out.keep hK4 trivial)
      have BP := hid (KP4.out.keep hK4 trivial)
      have BPm := hid (HPm4.out.keep hK4 trivial trivial)
      have HB5 := hid (HB4.out.trans (hK4.below (by omega) (fun _ _ => trivial)))
      have hT0' : P0 + 2 ≤ T0 := by omega
      clear hw4 hT0 bt bf bl bq K04 K14 KP4 HPm4 HB4 cp hK4
      gi_wp2_with fail
      refine name_actZ ?_
      intro Tm D hTm hD
      have hseq := (pwords_seq of_ok L hL2 HLs.out pb g cap a (T0 + 3) w4 (BQ.out.cell (k := 0) rfl) BPm.out (by omega)).wide 8
      rw [← HWS.out] at hseq
      refine rangeFunc_s (F := Fence.wide) (α := Nat × ByteArray) rfl (by omega) (gf := 26) (lb := #[.pointer (some ⟨T0 + 3, 0, none⟩)]) (by subst hTm; rfl) trivial (enters_of Tryz.func26 (by kernel_rfl) rfl)
        hseq (fun k hk => by rcases hk with h | h | h <;> omega) (Below.refl _ _) (fun _ => rfl)
        (fun pre S W => ∃ Lp v, runA [] (txW pre) = .ok Lp ∧ LiOk Lp ∧ Blk W (T0 + 2) 32 #[v] ∧ C.EntsIn W v Lp ∧ (∀ g, v.ownBlock = some g → T0 + 4 ≤ g ∧ ¬ S g) ∧ T0 + 4 ≤ W.heap.size ∧ Kept (fun k => k < T0 + 4 ∧ k ≠ T0 + 2) w4 W)
        (fun c _ _ W => c = .ret ∧ Blk W (N + 1) 4 #[.bool true] ∧ T0 + 4 ≤ W.heap.size ∧ Below N w W)
        ?hI ?hIx ⟨[], _, rfl, LiOk.nil, BL.out, .inl ⟨rfl, rfl⟩, (fun g h => by cases h), by omega, Kept.refl _ _⟩
        (fun pre S x a' W => (∃ Lp v, runA [] (txW pre) = .ok Lp ∧ LiOk Lp ∧ Blk W (T0 + 2) 32 #[v] ∧ C.EntsIn W v Lp ∧ (∀ g, v.ownBlock = some g → T0 + 4 ≤ g ∧ ¬ S g) ∧ T0 + 4 ≤ W.heap.size ∧ Kept (fun k => k < T0 + 4 ∧ k ≠ T0 + 2) w4 W) ∧ a' = { tmps := ((Tm.setIfInBounds 37 (.int .i64 x.1)).setIfInBounds 38 (.string x.2)).setIfInBounds 11 (.string x.2), defers := [] })
        ?hAx ?assign ?body ?done ?stop
      case hI =>
        intro pre S S' X Y ⟨Lp, v, h0, h1, h2, h3, h4, h5, h6⟩ hS hK hS'
        have nb : ∀ k, k < T0 + 4 → ¬ S k := fun k h hs => by have := (hS k hs).1; omega
        exact ⟨Lp, v, h0, h1, h2.keep hK (nb _ (by omega)), ents_keep h3 hK (fun g hg => (h4 g hg).2), (fun g hg => ⟨(h4 g hg).1, fun hs => (hS' g hs).elim (h4 g hg).2 (fun h => by have := ents_lt h3 g hg; omega)⟩), by have := hK.size; omega, h6.trans (hK.mono (fun k _ h => nb k h.1))⟩
      case hIx =>
        intro c pre S S' X Y ⟨h0, h1, h2, h3⟩ hS hK hS'
        have nb : ∀ k, k < T0 + 4 → ¬ S k := fun k h hs => by have := (hS k hs).1; omega
        exact ⟨h0, h1.keep hK (nb _ (by omega)), by have := hK.size; omega, h3.trans (hK.below (by omega) (fun k hk => nb k (by omega)))⟩
      case hAx =>
        intro pre S x a' X lb o ⟨⟨Lp, v, h0, h1, h2, h3, h4, h5, h6⟩, h7⟩ hSl hS
        have hlb := (hS _ hSl).1
        have hK : Kept (fun k => k ≠ lb) X (X.putObj lb o) := Kept.putObj X (fun h => h rfl) o
        exact ⟨⟨Lp, v, h0, h1, h2.put (by omega) _, ents_keep h3 hK (fun g hg e => (h4 g hg).2 (e ▸ hSl)), h4, by simp [World.putObj]; omega, h6.trans (hK.mono (fun k _ h => by have := h.1; show k ≠ lb; omega))⟩, h7⟩
      case assign =>
        rintro l' pre S x W5 K hI5 hW5 hS5 hpre hK
        subst hTm hD
        have H := hK _ _ (Kept.refl _ _) ⟨hI5, rfl⟩
        clear hK hI5
        dsimp only at H
        simp only [List.setIfInBounds_toArray, List.set_cons_succ, List.set_cons_zero] at H
        gi_wp2
        exact H
      case body =>
        rintro l' pre S x a' W5 hSl ⟨rec, hrec⟩ hW5 hS5 hpre ⟨⟨Lp, v, h0, h1, h2, h3, h4, h5, h6⟩, rfl⟩
        have hxz := hwz.out x (hpre.subset (by simp))
        obtain ⟨vp, vc, rfl, -⟩ := h3.opened
        have hA := hid (C.radd_any h3 h1.e h1.nd x.2 1)
        have hE : Hid (runA [] (txW (pre ++ [x])) = if C.addE Lp x.2 1 = 0 then .ok (C.addR Lp x.2 1) else .bad (C.addE Lp x.2 1)) := hid (by
          unfold txW; rw [List.map_append]; exact runA_snoc h0)
        have hAll : Hid (∀ e, runA [] (txW (pre ++ [x])) = .bad e → runA [] (txW ws) = .bad e) := hid (fun e he => by
          obtain ⟨q, hq⟩ := hpre
          rw [← hq]
          unfold txW at he ⊢
          rw [List.map_append (l₁ := pre ++ [x])]
          exact runA_bad he)
        have hLi : Hid (C.addE Lp x.2 1 = 0 → LiOk (C.addR Lp x.2 1)) := hid (h1.add (by unfold maxLen; omega))
        have d2 := h2.cell (k := 0) rfl
        have H2 := hid h2
        have H4 := hid h4
        have H6 := hid h6
        have hfix : ∀ {B : Nat} {t : TypeId} {c : Array Value}, Blk w4 B t c → B < T0 + 4 → B ≠ T0 + 2 → Blk W5 B t c := fun hb h8 h9 => hb.keep h6 ⟨h8, h9⟩
        have F1 := hid (hfix B1.out (by omega) (by omega))
        have FT := hid (hfix BT.out (by omega) (by omega))
        have FF := hid (hfix BF.out (by omega) (by omega))
        have hS5l : Hid (∀ k, S k → k < W5.heap.size) := hid (fun k hk => (hS5 k hk).2)
        have n2 : Hid (∀ j, j < T0 + 3 → P0 ≤ j ∨ j ≤ N + 1 → N ≤ j → ¬ ((j = T0 + 3 ∨ j = pb ∨ j = g) ∨ S j) ∨ j = pb ∨ j = g) := hid (fun j h1 h2 h3 => by
          by_cases hq : j = pb ∨ j = g
          · exact .inr hq
          · refine .inl (fun h => ?_)
            rcases h with h | h
            · rcases h with h | h
              · omega
              · exact hq h
            · have := (hS5 _ h).1; omega)
        clear hfix
        subst hTm hD
        dsimp only
        simp only [List.setIfInBounds_toArray, List.set_cons_succ, List.set_cons_zero]
        obtain ⟨xi, xw⟩ := x
        dsimp only at hA hE hxz hLi
        clear h0 h1 h2 h3 h4 h6 hseq hrec hSl
        gi_wp2_with fail
        refine ⟨trivial, ?_⟩
        with_reducible refine (CallsIn.inRound l' (callsIn_wide.2 hA.out)).mono ?_
        rintro e W6 ⟨u, rfl, hu, hb6, hfr⟩
        have hs6 := hb6.size
        obtain ⟨up, uc, rfl, -⟩ := hu.opened
        have D2 := hid (H2.out.low hb6)
        have D1 := hid (F1.out.low hb6)
        have DT := hid (FT.out.low hb6)
        have DF := hid (FF.out.low hb6)
        have d2 := D2.out.cell (k := 0) rfl
        have z2 := D2.out.froz 0
        have dt := DT.out.cell (k := 0) rfl
        have df := DF.out.cell (k := 0) rfl
        have d1 := D1.out.cell (k := 0) rfl
        have z1 := D1.out.froz 0
        try dsimp only at d2 dt df d1
        have hub : Hid (∀ g, Value.ownBlock (.slice up (C.addR Lp xw 1).length uc) = some g → T0 + 4 ≤ g ∧ ¬ S g) := hid (fun g hg => by
          rcases hfr with h | h
          · rw [h] at hg; exact H4.out g hg
          · have := h g hg; exact ⟨by omega, fun hs => by have := hS5l.out g hs; omega⟩)
        have HU := hid hu
        have HB6 := hid hb6
        have hnl : Hid (¬ ((T0 + 2 = T0 + 3 ∨ T0 + 2 = pb ∨ T0 + 2 = g) ∨ S (T0 + 2))) := hid (fun h => h.elim (fun h => by rcases h with h | h | h <;> omega) (fun h => by have := (hS5 _ h).1; omega))
        clear hu hb6 hfr hA H2 F1 FT FF
        by_cases h7 : C.addE Lp xw 1 = 0
        · have hv := hid (hE.out.trans (if_pos h7))
          have hLr := hid (hLi.out h7)
          rw [h7]
          clear h7 hE hLi hAll
          generalize C.addR Lp xw 1 = Lr at *
          gi_wp2_with fail
          exact ⟨(Kept.of_all HB6.out _).trans (Kept.setCell _ (by exact hnl.out) _), Lr, _, hv.out, hLr.out, D2.out.upd _ _ rfl, ents_keep HU.out (Kept.setCell (T := fun k => k ≠ T0 + 2) W6 (fun h => h rfl) _) (fun g hg e => by have := (hub.out g hg).1; omega), hub.out, by simp [World.setCell]; omega, (H6.out.trans (Kept.of_all HB6.out _)).trans (Kept.setCell (T := fun k => k < T0 + 4 ∧ k ≠ T0 + 2) W6 (fun h => h.2 rfl) _)⟩
        · have hv := hid (hAll.out _ (hE.out.trans (if_neg h7)))
          have her : C.addE Lp xw 1 = er := by have := hv.out; rw [hra] at this; injection this with h; exact h.symm
          rw [her] at h7 ⊢
          have e1 : (er != 0) = true := by simpa using h7
          clear her hE hLi hAll hv
          gi_wp2_with fail
          refine ⟨trivial, ?_⟩
          with_reducible refine (CallsIn.inRound l' (callsIn_wide.2 (hWk.out _))).mono ?_
          rintro e W8 ⟨rfl, hb8⟩
          have D18 := (D1.out.other (B' := T0 + 2) (k := 0) (by omega) (.slice up (C.addR Lp xw 1).length uc)).low hb8
          have dd1 := D18.cell (k := 0) rfl
          have zz1 := D18.froz 0
          have hs8 := hb8.size
          have hs8' : W6.heap.size ≤ W8.heap.size := by simpa [World.setCell] using hs8
          have DD := hid D18
          have HB8 := hid hb8
          have n11 : Hid (¬ ((N + 1 = T0 + 3 ∨ N + 1 = pb ∨ N + 1 = g) ∨ S (N + 1))) := hid (fun h => h.elim (fun h => by rcases h with h | h | h <;> omega) (fun h => by have := (hS5 _ h).1; omega))
          clear D18 hb8 hs8
          gi_wp2_with fail
          refine ⟨(((Kept.of_all HB6.out _).trans (Kept.setCell _ (by exact hnl.out) _)).trans (Kept.of_all HB8.out _)).trans (Kept.setCell _ (by exact n11.out) _), rfl, DD.out.upd _ _ rfl, by simp [World.setCell]; omega, ?_⟩
          have hKn : Kept (fun k => k < T0 + 4 ∧ k ≠ T0 + 2) w4 W8 := ((H6.out.trans (Kept.of_all HB6.out _)).trans (Kept.setCell (T := fun k => k < T0 + 4 ∧ k ≠ T0 + 2) W6 (fun h => h.2 rfl) _)).trans (Kept.of_all HB8.out _)
          exact (HB5.out.trans (hKn.below (by omega) (fun k hk => by constructor <;> omega))).setCell (p := ⟨N + 1, 0, none⟩) (by show N ≤ N + 1; omega) _
      case done =>
        rintro Dk W9 hDk ⟨Lp, v, h0, h1⟩ hK
        rw [hra] at h0
        cases h0
      case stop =>
        rintro Dk c pre W9 hDk hpre ⟨rfl, h1, h2, h3⟩ hK
        have hK0 := hid hK
        have hDl := at_lt hK
        have y := (h1.put (l := Dk) (by omega) (.deferred none)).cell (k := 0) rfl
        have H3 := hid h3
        subst hTm hD
        clear h1 h3 hK hseq
        gi_wp2_with fail
        refine ⟨by simp, .inl ⟨_, _, rfl, run_takeDeferred hK0.out, ?_⟩⟩
        refine ⟨.bool true, (by simp [results, Tryz.results3, go_sem, y]), rfl, ?_⟩
        rw [← HNN.out]
        exact H3.out.trans ((Kept.putObj (T := fun k => k < N) W9 (by show ¬ (Dk < N); omega) _).below (by omega) (fun k hk => hk))
    | ok Lf =>
      rw [hra] at hres
      obtain ⟨tb, tm, rfl, hT, htb, htm⟩ := hres
      obtain ⟨T0, hT0⟩ : ∃ T0, T0 = w3.heap.size := ⟨_, rfl⟩
      have cp : (((w3.alloc (.cells #[.pointer (some ⟨tb, 0, none⟩)] 29)).alloc (.cells #[.int .i64 0] 24)).alloc (.cells #[.slice none 0 0] 32)).cell? ⟨P0, 0, none⟩ = some (.pointer (some ⟨pb, 0, none⟩)) := (((KP4.out.alloc _).alloc _).alloc _).cell rfl
      have hP7 := hid (fun W => pwords7 (some ⟨pb, 0, none⟩) W)
      gi_wp2_with fail
      refine ⟨trivial, ?_⟩
      with_reducible refine CallsIn.mono (callsIn_wide.2 (hP7.out _)) ?_
      rintro e w4 ⟨rfl, hw4⟩
      simp only [World.size_alloc, Nat.add_assoc, Nat.reduceAdd]
      rw [← hT0]
      have hM : w4.heap.size = T0 + 4 := by rw [hw4]; simp [hT0]
      have hK4 : Kept (fun _ => True) w3 w4 := by rw [hw4]; exact (((Kept.alloc _ _ _).trans (Kept.alloc _ _ _)).trans (Kept.alloc _ _ _)).trans (Kept.alloc _ _ _)
      have bt : Blk w4 T0 29 #[.pointer (some ⟨tb, 0, none⟩)] := by rw [hw4, hT0]; exact (((Blk.new w3 29 #[.pointer (some ⟨tb, 0, none⟩)]).alloc _).alloc _).alloc _
      have bf : Blk w4 (T0 + 1) 24 #[.int .i64 0] := by
        have := ((Blk.new (w3.alloc (.cells #[.pointer (some ⟨tb, 0, none⟩)] 29)) 24 #[.int .i64 0]).alloc (.cells #[.slice none 0 0] 32)).alloc (.cells #[.pointer (some ⟨pb, 0, none⟩)] 23)
        rw [World.size_alloc, ← hT0] at this
        rw [hw4]; exact this
      have bl : Blk w4 (T0 + 2) 32 #[.slice none 0 0] := by
        have := (Blk.new ((w3.alloc (.cells #[.pointer (some ⟨tb, 0, none⟩)] 29)).alloc (.cells #[.int .i64 0] 24)) 32 #[.slice none 0 0]).alloc (.cells #[.pointer (some ⟨pb, 0, none⟩)] 23)
        simp only [World.size_alloc, ← hT0, Nat.add_assoc, Nat.reduceAdd] at this
        rw [hw4]; exact this
      have bq : Blk w4 (T0 + 3) 23 #[.pointer (some ⟨pb, 0, none⟩)] := by
        have := Blk.new (((w3.alloc (.cells #[.pointer (some ⟨tb, 0, none⟩)] 29)).alloc (.cells #[.int .i64 0] 24)).alloc (.cells #[.slice none 0 0] 32)) 23 #[.pointer (some ⟨pb, 0, none⟩)]
        simp only [World.size_alloc, ← hT0, Nat.add_assoc, Nat.reduceAdd] at this
        rw [hw4]; exact this
      have BT := hid bt
      have BF := hid bf
      have BL := hid bl
      have BQ := hid bq
      have B0 := hid (K04.out.keep hK4 trivial)
      have B1 := hid (K14.out.keep hK4 trivial)
      have BP := hid (KP4.out.keep hK4 trivial)
      have BPm := hid (HPm4.out.keep hK4 trivial trivial)
      have HB5 := hid (HB4.out.trans (hK4.below (by omega) (fun _ _ => trivial)))
      have hT0' : P0 + 2 ≤ T0 := by omega
      have BTl := hid (tal_keep hT hK4 trivial trivial hT.blt hT.mlt)
      have htl : tb < T0 ∧ tm < T0 := by have := hT.blt; have := hT.mlt; omega
      clear hT
      clear hw4 hT0 bt bf bl bq K04 K14 KP4 HPm4 HB4 cp hK4
      gi_wp2_with fail
      refine name_actZ ?_
      intro Tm D hTm hD
      have hseq := (pwords_seq of_ok L hL2 HLs.out pb g cap a (T0 + 3) w4 (BQ.out.cell (k := 0) rfl) BPm.out (by omega)).wide 8
      rw [← HWS.out] at hseq
      refine rangeFunc_s (F := Fence.wide) (α := Nat × ByteArray) rfl (by omega) (gf := 26) (lb := #[.pointer (some ⟨T0 + 3, 0, none⟩)]) (by subst hTm; rfl) trivial (enters_of Tryz.func26 (by kernel_rfl) rfl)
        hseq (fun k hk => by rcases hk with h | h | h <;> omega) (Below.refl _ _) (fun _ => rfl)
        (fun pre S W => ∃ Lp v, runA [] (txW pre) = .ok Lp ∧ LiOk Lp ∧ Blk W (T0 + 2) 32 #[v] ∧ C.EntsIn W v Lp ∧ (∀ g, v.ownBlock = some g → T0 + 4 ≤ g ∧ ¬ S g) ∧ T0 + 4 ≤ W.heap.size ∧ Kept (fun k => k < T0 + 4 ∧ k ≠ T0 + 2) w4 W)
        (fun _ _ _ _ => False)
        ?hI ?hIx ⟨[], _, rfl, LiOk.nil, BL.out, .inl ⟨rfl, rfl⟩, (fun g h => by cases h), by omega, Kept.refl _ _⟩
        (fun pre S x a' W => (∃ Lp v, runA [] (txW pre) = .ok Lp ∧ LiOk Lp ∧ Blk W (T0 + 2) 32 #[v] ∧ C.EntsIn W v Lp ∧ (∀ g, v.ownBlock = some g → T0 + 4 ≤ g ∧ ¬ S g) ∧ T0 + 4 ≤ W.heap.size ∧ Kept (fun k => k < T0 + 4 ∧ k ≠ T0 + 2) w4 W) ∧ a' = { tmps := ((Tm.setIfInBounds 37 (.int .i64 x.1)).setIfInBounds 38 (.string x.2)).setIfInBounds 11 (.string x.2), defers := [] })
        ?hAx ?assign ?body ?done ?stop
      case hI =>
        intro pre S S' X Y ⟨Lp, v, h0, h1, h2, h3, h4, h5, h6⟩ hS hK hS'
        have nb : ∀ k, k < T0 + 4 → ¬ S k := fun k h hs => by have := (hS k hs).1; omega
        exact ⟨Lp, v, h0, h1, h2.keep hK (nb _ (by omega)), ents_keep h3 hK (fun g hg => (h4 g hg).2), (fun g hg => ⟨(h4 g hg).1, fun hs => (hS' g hs).elim (h4 g hg).2 (fun h => by have := ents_lt h3 g hg; omega)⟩), by have := hK.size; omega, h6.trans (hK.mono (fun k _ h => nb k h.1))⟩
      case hIx =>
        exact fun c _ _ _ _ _ h _ _ _ => h
      case hAx =>
        intro pre S x a' X lb o ⟨⟨Lp, v, h0, h1, h2, h3, h4, h5, h6⟩, h7⟩ hSl hS
        have hlb := (hS _ hSl).1
        have hK : Kept (fun k => k ≠ lb) X (X.putObj lb o) := Kept.putObj X (fun h => h rfl) o
        exact ⟨⟨Lp, v, h0, h1, h2.put (by omega) _, ents_keep h3 hK (fun g hg e => (h4 g hg).2 (e ▸ hSl)), h4, by simp [World.putObj]; omega, h6.trans (hK.mono (fun k _ h => by have := h.1; show k ≠ lb; omega))⟩, h7⟩
      case assign =>
        rintro l' pre S x W5 K hI5 hW5 hS5 hpre hK
        subst hTm hD
        have H := hK _ _ (Kept.refl _ _) ⟨hI5, rfl⟩
        clear hK hI5
        dsimp only at H
        simp only [List.setIfInBounds_toArray, List.set_cons_succ, List.set_cons_zero] at H
        gi_wp2
        exact H
      case body =>
        rintro l' pre S x a' W5 hSl ⟨rec, hrec⟩ hW5 hS5 hpre ⟨⟨Lp, v, h0, h1, h2, h3, h4, h5, h6⟩, rfl⟩
        have hxz := hwz.out x (hpre.subset (by simp))
        obtain ⟨vp, vc, rfl, -⟩ := h3.opened
        have hA := hid (C.radd_any h3 h1.e h1.nd x.2 1)
        have hE : Hid (runA [] (txW (pre ++ [x])) = if C.addE Lp x.2 1 = 0 then .ok (C.addR Lp x.2 1) else .bad (C.addE Lp x.2 1)) := hid (by
          unfold txW; rw [List.map_append]; exact runA_snoc h0)
        have hAll : Hid (∀ e, runA [] (txW (pre ++ [x])) = .bad e → runA [] (txW ws) = .bad e) := hid (fun e he => by
          obtain ⟨q, hq⟩ := hpre
          rw [← hq]
          unfold txW at he ⊢
          rw [List.map_append (l₁ := pre ++ [x])]
          exact runA_bad he)
        have hLi : Hid (C.addE Lp x.2 1 = 0 → LiOk (C.addR Lp x.2 1)) := hid (h1.add (by unfold maxLen; omega))
        have d2 := h2.cell (k := 0) rfl
        have H2 := hid h2
        have H4 := hid h4
        have H6 := hid h6
        have hfix : ∀ {B : Nat} {t : TypeId} {c : Array Value}, Blk w4 B t c → B < T0 + 4 → B ≠ T0 + 2 → Blk W5 B t c := fun hb h8 h9 => hb.keep h6 ⟨h8, h9⟩
        have F1 := hid (hfix B1.out (by omega) (by omega))
        have FT := hid (hfix BT.out (by omega) (by omega))
        have FF := hid (hfix BF.out (by omega) (by omega))
        have hS5l : Hid (∀ k, S k → k < W5.heap.size) := hid (fun k hk => (hS5 k hk).2)
        have n2 : Hid (∀ j, j < T0 + 3 → P0 ≤ j ∨ j ≤ N + 1 → N ≤ j → ¬ ((j = T0 + 3 ∨ j = pb ∨ j = g) ∨ S j) ∨ j = pb ∨ j = g) := hid (fun j h1 h2 h3 => by
          by_cases hq : j = pb ∨ j = g
          · exact .inr hq
          · refine .inl (fun h => ?_)
            rcases h with h | h
            · rcases h with h | h
              · omega
              · exact hq h
            · have := (hS5 _ h).1; omega)
        clear hfix
        subst hTm hD
        dsimp only
        simp only [List.setIfInBounds_toArray, List.set_cons_succ, List.set_cons_zero]
        obtain ⟨xi, xw⟩ := x
        dsimp only at hA hE hxz hLi
        clear h0 h1 h2 h3 h4 h6 hseq hrec hSl
        gi_wp2_with fail
        refine ⟨trivial, ?_⟩
        with_reducible refine (CallsIn.inRound l' (callsIn_wide.2 hA.out)).mono ?_
        rintro e W6 ⟨u, rfl, hu, hb6, hfr⟩
        have hs6 := hb6.size
        obtain ⟨up, uc, rfl, -⟩ := hu.opened
        have D2 := hid (H2.out.low hb6)
        have D1 := hid (F1.out.low hb6)
        have DT := hid (FT.out.low hb6)
        have DF := hid (FF.out.low hb6)
        have d2 := D2.out.cell (k := 0) rfl
        have z2 := D2.out.froz 0
        have dt := DT.out.cell (k := 0) rfl
        have df := DF.out.cell (k := 0) rfl
        have d1 := D1.out.cell (k := 0) rfl
        have z1 := D1.out.froz 0
        try dsimp only at d2 dt df d1
        have hub : Hid (∀ g, Value.ownBlock (.slice up (C.addR Lp xw 1).length uc) = some g → T0 + 4 ≤ g ∧ ¬ S g) := hid (fun g hg => by
          rcases hfr with h | h
          · rw [h] at hg; exact H4.out g hg
          · have := h g hg; exact ⟨by omega, fun hs => by have := hS5l.out g hs; omega⟩)
        have HU := hid hu
        have HB6 := hid hb6
        have hnl : Hid (¬ ((T0 + 2 = T0 + 3 ∨ T0 + 2 = pb ∨ T0 + 2 = g) ∨ S (T0 + 2))) := hid (fun h => h.elim (fun h => by rcases h with h | h | h <;> omega) (fun h => by have := (hS5 _ h).1; omega))
        clear hu hb6 hfr hA H2 F1 FT FF
        by_cases h7 : C.addE Lp xw 1 = 0
        · have hv := hid (hE.out.trans (if_pos h7))
          have hLr := hid (hLi.out h7)
          rw [h7]
          clear h7 hE hLi hAll
          generalize C.addR Lp xw 1 = Lr at *
          gi_wp2_with fail
          exact ⟨(Kept.of_all HB6.out _).trans (Kept.setCell _ (by exact hnl.out) _), Lr, _, hv.out, hLr.out, D2.out.upd _ _ rfl, ents_keep HU.out (Kept.setCell (T := fun k => k ≠ T0 + 2) W6 (fun h => h rfl) _) (fun g hg e => by have := (hub.out g hg).1; omega), hub.out, by simp [World.setCell]; omega, (H6.out.trans (Kept.of_all HB6.out _)).trans (Kept.setCell (T := fun k => k < T0 + 4 ∧ k ≠ T0 + 2) W6 (fun h => h.2 rfl) _)⟩
        · exact absurd (hAll.out _ (hE.out.trans (if_neg h7))) (by rw [hra]; intro h; cases h)
      case done =>
        rintro Dk W9 hDk ⟨Lp, v, h0, h1, h2, h3, h4, h5, h6⟩ hK
        obtain rfl : Lp = Lf := by rw [hra] at h0; injection h0 with h; exact h.symm
        obtain ⟨vp, vc, rfl, -⟩ := h3.opened
        have hDl := at_lt hK
        have hT9 := tal_keep BTl.out h6 (by constructor <;> omega) (by constructor <;> omega) BTl.out.blt BTl.out.mlt
        have hIs := hid (C.is_any hT9 h3)
        have hfix : ∀ {B : Nat} {t : TypeId} {c : Array Value}, Blk w4 B t c → B < T0 + 4 → B ≠ T0 + 2 → Blk W9 B t c := fun hb h8 h9 => hb.keep h6 ⟨h8, h9⟩
        have F0 := hid (hfix B0.out (by omega) (by omega))
        have F1 := hid (hfix B1.out (by omega) (by omega))
        have FP := hid (hfix BP.out (by omega) (by omega))
        have FT := hid (hfix BT.out (by omega) (by omega))
        have FF := hid (hfix BF.out (by omega) (by omega))
        have FPm := hid (BPm.out.keep h6 (by constructor <;> omega) (by constructor <;> omega))
        have HB9 := hid (HB5.out.trans (h6.below (by omega) (fun k hk => by constructor <;> omega)))
        have H2 := hid h2
        have hK0 := hid hK
        have df := FF.out.cell (k := 0) rfl
        have dt := FT.out.cell (k := 0) rfl
        have d2 := h2.cell (k := 0) rfl
        try dsimp only at df dt d2
        subst hTm hD
        clear h0 h1 h2 h3 h4 h6 hT9 hK hseq hfix B0 B1 BP BT BF BL BQ BPm BTl HB5
        gi_wp2_with fail
        refine ⟨trivial, ?_⟩
        with_reducible refine CallsIn.mono (callsIn_wide.2 hIs.out) ?_
        rintro e WA ⟨rfl, hbA⟩
        have hsA := hbA.size
        have G0 := hid (F0.out.low hbA)
        have G1 := hid (F1.out.low hbA)
        have GP := hid (FP.out.low hbA)
        have GF := hid (FF.out.low hbA)
        have GPm := hid (FPm.out.low hbA)
        have GB := hid (HB9.out.trans (hbA.mono (by omega)))
        have GK := hid ((hbA.block Dk hDl).trans hK0.out)
        have c0 := G0.out.cell (k := 0) rfl
        have cp := GP.out.cell (k := 0) rfl
        have cf := GF.out.cell (k := 0) rfl
        have zf := GF.out.froz 0
        try dsimp only at c0 cp cf
        have hDlA : Dk < WA.heap.size := by omega
        clear hbA hIs F0 F1 FP FT FF FPm HB9 H2 hK0 df dt d2
        by_cases hw : 1 ≤ way ∧ way ≤ 3
        · have hlen := hid (len10 of_ok way hw L hL2 HLs.out pb g cap a WA GPm.out (by omega))
          have w1 : decide (way < 1) = false := decide_eq_false (by omega)
          have w2' : decide (3 < way) = false := decide_eq_false (by omega)
          have w3' : ¬ way < 1 := by omega
          have w4' : ¬ 3 < way := by omega
          gi_wp2_with fail
          refine ⟨trivial, ?_⟩
          with_reducible refine CallsIn.mono (callsIn_wide.2 hlen.out) ?_
          rintro e WB ⟨hbB, gv, rfl, hgot⟩
          have hsB := hbB.size
          obtain ⟨gp, gc, rfl⟩ : ∃ p c, gv = .slice p L.length c := by
            rcases hgot.2 with ⟨h1, h2⟩ | ⟨g', cap', cur, h1, _⟩
            · exact ⟨none, 0, by rw [h1, h2]⟩
            · exact ⟨_, _, h1⟩
          have E0 := hid (G0.out.low hbB)
          have E1 := hid (G1.out.low hbB)
          have EP := hid (GP.out.low hbB)
          have EF := hid (GF.out.low hbB)
          have EPm := hid (GPm.out.low hbB)
          have EB := hid (GB.out.trans (hbB.mono (by omega)))
          have EK := hid ((hbB.block Dk hDlA).trans GK.out)
          have EG := hid hgot
          have c0 := E0.out.cell (k := 0) rfl
          have cf := EF.out.cell (k := 0) rfl
          have zf := EF.out.froz 0
          have cpz : ((WB.setCell ⟨T0 + 1, 0, none⟩ (.int .i64 0)).alloc (.cells #[.slice none 0 0] 39)).cell? ⟨P0, 0, none⟩ = some (.pointer (some ⟨pb, 0, none⟩)) := ((EP.out.other (by omega) _).alloc _).cell rfl
          try dsimp only at c0 cf
          have hP11 := hid (fun W => each11 (some ⟨pb, 0, none⟩) W)
          clear hbB hlen hgot G0 G1 GP GF GPm GB GK cp
          gi_wp2_with fail
          refine ⟨trivial, ?_⟩
          with_reducible refine CallsIn.mono (callsIn_wide.2 (hP11.out _)) ?_
          rintro e wC ⟨rfl, hwC⟩
          obtain ⟨Q0, hQ0⟩ : ∃ Q0, Q0 = WB.heap.size := ⟨_, rfl⟩
          have hsQ : (WB.setCell ⟨T0 + 1, 0, none⟩ (.int .i64 0)).heap.size = Q0 := by simp [World.setCell, hQ0]
          have hMC : wC.heap.size = Q0 + 2 := by rw [hwC]; simp [World.setCell, hQ0]
          have hKC : Kept (fun k => k ≠ T0 + 1) WB wC := by rw [hwC]; exact ((Kept.setCell WB (fun h => h rfl) _).trans (Kept.alloc _ _ _)).trans (Kept.alloc _ _ _)
          have bw : Blk wC Q0 39 #[.slice none 0 0] := by
            have := (Blk.new (WB.setCell ⟨T0 + 1, 0, none⟩ (.int .i64 0)) 39 #[.slice none 0 0]).alloc (.cells #[.pointer (some ⟨pb, 0, none⟩)] 23)
            rw [hsQ] at this
            rw [hwC]; exact this
          have bq : Blk wC (Q0 + 1) 23 #[.pointer (some ⟨pb, 0, none⟩)] := by
            have := Blk.new ((WB.setCell ⟨T0 + 1, 0, none⟩ (.int .i64 0)).alloc (.cells #[.slice none 0 0] 39)) 23 #[.pointer (some ⟨pb, 0, none⟩)]
            rw [World.size_alloc, hsQ] at this
            rw [hwC]; exact this
          have C0 := hid (E0.out.keep hKC (by omega))
          have C1 := hid (E1.out.keep hKC (by omega))
          have CP := hid (EP.out.keep hKC (by omega))
          have CF : Hid (Blk wC (T0 + 1) 24 #[.int .i64 0]) := hid (by rw [hwC]; exact ((EF.out.upd 0 (.int .i64 0) rfl).alloc _).alloc _)
          have CPm := hid (EPm.out.keep hKC (by omega) (by omega))
          have CB := hid (EB.out.trans (hKC.below (by omega) (fun k hk => by omega)))
          have CK := hid (hKC.obj EK.out (by omega))
          have CG := hid (row_keep EG.out hKC (fun g hg => by have := (row_lt EG.out g hg).1; omega))
          have CGl := hid (fun g hg => (row_lt EG.out g hg).2 : ∀ g, Value.ownBlock (.slice gp L.length gc) = some g → g < WB.heap.size)
          have BW := hid bw
          have BQ2 := hid bq
          simp only [World.size_alloc, hsQ, Nat.add_assoc, Nat.reduceAdd]
          have HQ := hid hQ0
          have hQT : T0 + 4 ≤ Q0 := by omega
          have hQD : Dk < Q0 := by omega
          rw [← hQ0] at CGl ⊢
          clear hwC bw bq E0 E1 EP EF EPm EB EK EG hKC hQ0 hsQ cpz c0 cf zf hP11
          gi_wp2_with fail
          refine name_actZ ?_
          intro Tm2 D2 hTm2 hD2
          have hseq2 := (each_seq L hL2 pb g cap a (Q0 + 1) wC (BQ2.out.cell (k := 0) rfl) CPm.out).wide 8
          refine rangeFunc_s (F := Fence.wide) (α := Nat × Vs) rfl (by omega) (gf := 37) (lb := #[.pointer (some ⟨Q0 + 1, 0, none⟩)]) (by subst hTm2; rfl) trivial (enters_of Tryz.func37 (by kernel_rfl) rfl)
            hseq2 (fun k hk => by rcases hk with h | h | h <;> omega) (Below.refl _ _) (fun _ => rfl)
            (fun pre S W => ∃ v, Blk W Q0 39 #[v] ∧ W.ownsRow (Q0 + 2) 50 1 v pre.length (lensV way pre) ∧ (∀ g, v.ownBlock = some g → ¬ S g) ∧ Q0 + 2 ≤ W.heap.size ∧ Kept (fun k => k < Q0 + 2 ∧ k ≠ Q0) wC W)
            (fun _ _ _ _ => False)
            ?hI2 (fun c _ _ _ _ _ h _ _ _ => h) ⟨_, BW.out, World.ownsRow_nil _ _ _ _, (fun g h => by cases h), by omega, Kept.refl _ _⟩
            (fun pre S x a' W => ∃ Bi Bv v, wC.heap.size ≤ Bi ∧ Bi < Bv ∧ ¬ S Bi ∧ ¬ S Bv ∧ Blk W Bi 3 #[.int .i64 x.1] ∧ Blk W Bv 48 x.2.cells ∧ Blk W Q0 39 #[v] ∧ W.ownsRow (Q0 + 2) 50 1 v pre.length (lensV way pre) ∧ (∀ g, v.ownBlock = some g → ¬ S g) ∧ Q0 + 2 ≤ W.heap.size ∧ Kept (fun k => k < Q0 + 2 ∧ k ≠ Q0) wC W ∧ a' = { tmps := (((Tm2.setIfInBounds 89 (.int .i64 x.1)).setIfInBounds 90 x.2.v).setIfInBounds 15 (.pointer (some ⟨Bi, 0, none⟩))).setIfInBounds 16 (.pointer (some ⟨Bv, 0, none⟩)), defers := [] })
            ?hAx2 ?assign2 ?body2 ?done2 (fun Dk c pre W9 hDk hpre h hK => h.elim)
          case hI2 =>
            intro pre S S' X Y ⟨v, h1, h2, h3, h4, h5⟩ hS hK hS'
            have nb : ∀ k, k < Q0 + 2 → ¬ S k := fun k h hs => by have := (hS k hs).1; omega
            exact ⟨v, h1.keep hK (nb _ (by omega)), row_keep h2 hK h3, (fun g hg hs => (hS' g hs).elim (h3 g hg) (fun h => by have := (row_lt h2 g hg).2; omega)), by have := hK.size; omega, h5.trans (hK.mono (fun k _ h => nb k h.1))⟩
          case hAx2 =>
            intro pre S x a' X lb o ⟨Bi, Bv, v, g1, g1', g2, g2', g3, g3', h1, h2, h3, h4, h5, g8⟩ hSl hS
            have hlb := (hS _ hSl).1
            have hK : Kept (fun k => k ≠ lb) X (X.putObj lb o) := Kept.putObj X (fun h => h rfl) o
            exact ⟨Bi, Bv, v, g1, g1', g2, g2', g3.put (fun e => g2 (e ▸ hSl)) _, g3'.put (fun e => g2' (e ▸ hSl)) _, h1.put (by omega) _, row_keep h2 hK (fun g hg e => h3 g hg (e ▸ hSl)), h3, by simp [World.putObj]; omega, h5.trans (hK.mono (fun k _ h => by have := h.1; show k ≠ lb; omega)), g8⟩
          case assign2 =>
            rintro l' pre S x W5 K ⟨v, h1, h2, h3, h4, h5⟩ hW5 hS5 hpre hK
            subst hTm2 hD2
            have hB1 := (Blk.new W5 3 #[.int .i64 x.1]).alloc (.cells x.2.cells 48)
            have hB2 := Blk.new (W5.alloc (.cells #[.int .i64 x.1] 3)) 48 x.2.cells
            rw [World.size_alloc] at hB2
            have kA : ∀ T, Kept T W5 ((W5.alloc (.cells #[.int .i64 x.1] 3)).alloc (.cells x.2.cells 48)) := fun T => (Kept.alloc T W5 _).trans (Kept.alloc T _ _)
            have H := hK _ _ (kA _) ⟨W5.heap.size, W5.heap.size + 1, v, by omega, by omega, (fun h => by have := (hS5 _ h).2; omega), (fun h => by have := (hS5 _ h).2; omega), hB1, hB2, (h1.alloc _).alloc _, (h2.alloc _).alloc _, h3, by simp only [World.size_alloc]; omega, h5.trans (kA _), rfl⟩
            clear hK kA hB1 hB2 h1 h2 h3 h5
            obtain ⟨xi, tx, va, vb, vc, vf, vt⟩ := x
            dsimp only at H
            simp only [List.setIfInBounds_toArray, List.set_cons_succ, List.set_cons_zero] at H
            gi_wp2
            exact H
          case body2 =>
            rintro l' pre S x a' W5 hSl ⟨rec, hrec⟩ hW5 hS5 hpre ⟨Bi, Bv, v, g1, g1', g2, g2', kx, kv, h1, h2, h3, h4, h5, rfl⟩
            have hxm : x.2 ∈ L := eachL_mem L 0 x (hpre.subset (by simp))
            have hxi : Hid (L[x.1]? = some x.2) := hid (by have := (eachL_ix L 0 x (hpre.subset (by simp))).1; simpa using this)
            have hts := HLs.out x.2 hxm
            have hlen : pre.length < 70000 := by
              have h := hpre.length_le
              rw [List.length_append, List.length_singleton, eachL_len] at h
              omega
            have hln := lenN_le way x.2 hts
            have hE : Hid (lensV way (pre ++ [x]) = lensV way pre ++ [fltN (lenN way x.2)] ∧ (pre ++ [x]).length = pre.length + 1) := hid ⟨by unfold lensV; simp, by simp⟩
            have hcw : Hid ((ws.filter fun y => decide (y.1 = x.1)).length = (wordsL x.2.tx).length) := hid (by
              obtain ⟨q1, q2⟩ := List.getElem?_eq_some_iff.1 hxi.out
              rw [HWS.out, cnt_words, dif_pos ⟨Nat.zero_le _, by simpa using q1⟩]
              simp only [Nat.sub_zero, q2])
            have hb6 := h1.lt
            obtain ⟨xi, tx, va, vb, vc, vf, vt⟩ := x
            dsimp only at kx kv hts hcw hxi
            obtain ⟨m, hm⟩ : ∃ m, lenN way ⟨tx, va, vb, vc, vf, vt⟩ = m := ⟨_, rfl⟩
            dsimp only at hE hln
            rw [hm] at hE hln
            have HM := hid hm
            have ci := kx.cell (k := 0) rfl
            have ct := kv.cell (k := 0) rfl
            try dsimp only at ci ct
            have wc := ((C0.out.keep h5 (by constructor <;> omega)).alloc (.cells #[.int .i64 tx.size] 3)).cell (k := 0) rfl
            have pc0 := ((CP.out.keep h5 (by constructor <;> omega)).alloc (.cells #[.int .i64 tx.size] 3)).cell (k := 0) rfl
            have ct1 := (kv.alloc (.cells #[.int .i64 tx.size] 3)).cell (k := 0) rfl
            try dsimp only at ct1 wc pc0
            have KX := hid kx
            have K1 := hid h1
            have H2 := hid h2
            have H3 := hid h3
            have H5 := hid h5
            have HS5 := hid hS5
            have PM5 := hid (CPm.out.keep h5 (by constructor <;> omega) (by constructor <;> omega))
            have KP5 := hid (CP.out.keep h5 (by constructor <;> omega))
            have hbx := kx.lt
            have hsh : ∃ p c, v = .slice p pre.length c := by
              rcases h2.2 with ⟨h1, h2⟩ | ⟨g', cap', cur, h1, _⟩
              · exact ⟨none, 0, by rw [h1, h2]⟩
              · exact ⟨_, _, h1⟩
            obtain ⟨p, c, rfl⟩ := hsh
            obtain ⟨i0, hi, hz0, hz1, hz2⟩ := info_parts infoF
            have n1 : Hid (¬ ((Q0 = Q0 + 1 ∨ Q0 = pb ∨ Q0 = g) ∨ S Q0)) := hid (fun h => h.elim (fun h => by rcases h with h | h | h <;> omega) (fun h => by have := (HS5.out _ h).1; omega))
            have hRow : Hid (∀ g', Value.ownBlock (.slice p pre.length c) = some g' → ¬ ((g' = Q0 + 1 ∨ g' = pb ∨ g' = g) ∨ S g')) := hid (fun g' hg' h => h.elim (fun h => by have := (row_lt H2.out g' hg').1; rcases h with h | h | h <;> omega) (H3.out g' hg'))
            have hnb : Hid (Value.ownBlock (.slice p pre.length c) ≠ some Q0) := hid (fun h => by have := (row_lt H2.out _ h).1; omega)
            have hw3 : way = 1 ∨ way = 2 ∨ way = 3 := by omega
            -- what is left behind the line's length
            have fin : Hid (∀ (W6 W7 : World) (tmp : Obj) (p' : Option Addr) (c' : Nat), Below W5.heap.size W5 W6 → W7.ownsRow (Q0 + 2) 50 1 (.slice p' (pre.length + 1) c') (pre.length + 1) (lensV way pre ++ [fltN m]) → (W6.alloc tmp).grownBy W7 (Value.ownBlock (.slice p pre.length c)) →
                (Value.ownBlock (.slice p' (pre.length + 1) c') = Value.ownBlock (.slice p pre.length c) ∨ Value.ownBlock (.slice p' (pre.length + 1) c') = some (W6.alloc tmp).heap.size) →
                W7.cell? ⟨Q0, 0, none⟩ = some (.slice p pre.length c) ∧ W7.frozen? ⟨Q0, 0, none⟩ = false ∧
                (Kept (fun k => (k = Q0 + 1 ∨ k = pb ∨ k = g) ∨ S k) W5 (W7.setCell ⟨Q0, 0, none⟩ (.slice p' (pre.length + 1) c')) ∧ ∃ v, Blk (W7.setCell ⟨Q0, 0, none⟩ (.slice p' (pre.length + 1) c')) Q0 39 #[v] ∧
                  (W7.setCell ⟨Q0, 0, none⟩ (.slice p' (pre.length + 1) c')).ownsRow (Q0 + 2) 50 1 v (pre.length + 1) (lensV way pre ++ [fltN m]) ∧ (∀ g, v.ownBlock = some g → ¬ S g) ∧ Q0 + 2 ≤ (W7.setCell ⟨Q0, 0, none⟩ (.slice p' (pre.length + 1) c')).heap.size ∧ Kept (fun k => k < Q0 + 2 ∧ k ≠ Q0) wC (W7.setCell ⟨Q0, 0, none⟩ (.slice p' (pre.length + 1) c')))) := hid (fun W6 W7 tmp p' c' hb hown hgr hbk => by
              have hs6 := hb.size
              have hs7 := hgr.size
              rw [World.size_alloc] at hs7
              have hKt : ∀ T : Nat → Prop, (∀ r, Value.ownBlock (.slice p pre.length c) = some r → ¬ T r) → Kept T W5 W7 := fun T hT => ((Kept.of_all hb T).trans (Kept.alloc T W6 tmp)).trans (Kept.grown hgr hT)
              have k1 : Blk W7 Q0 39 #[.slice p pre.length c] := K1.out.keep (hKt (fun k => k = Q0) (fun r hr e => hnb.out (e ▸ hr))) rfl
              have hbl : ∀ g', Value.ownBlock (.slice p' (pre.length + 1) c') = some g' → g' ≠ Q0 := fun g' hg' => by have := (row_lt hown g' hg').1; omega
              refine ⟨k1.cell rfl, k1.froz 0, (hKt _ (fun r hr => hRow.out r hr)).trans (Kept.setCell _ (by exact n1.out) _), _, k1.upd _ _ rfl, row_keep hown (Kept.setCell (T := fun k => k ≠ Q0) W7 (fun h => h rfl) _) (fun g' hg' => hbl g' hg'), ?_, by simp [World.setCell]; omega, ?_⟩
              · intro g' hg' hs
                rcases hbk with h | h
                · exact H3.out g' (h ▸ hg') hs
                · rw [h] at hg'
                  have := (HS5.out _ hs).2
                  have e := Option.some.inj hg'
                  rw [World.size_alloc] at e
                  omega
              · exact (H5.out.trans (hKt (fun k => k < Q0 + 2 ∧ k ≠ Q0) (fun r hr h => by have := (row_lt H2.out r hr).1; have := h.1; omega))).trans (Kept.setCell (T := fun k => k < Q0 + 2 ∧ k ≠ Q0) W7 (fun h => h.2 rfl) _))
            have kf := (K1.out.alloc (.cells #[.int .i64 tx.size] 3)).cell (k := 0) rfl
            have zf := (K1.out.alloc (.cells #[.int .i64 tx.size] 3)).froz 0
            try dsimp only at kf
            have hgP : Hid (pb < W5.heap.size ∧ g < W5.heap.size) := hid (by omega)
            subst hTm2 hD2
            dsimp only
            simp only [List.setIfInBounds_toArray, List.set_cons_succ, List.set_cons_zero]
            have hrec' := hid hrec
            clear kx kv h1 h2 h3 h5 hm hseq2 hrec hpre hSl hxm hS5 g2 g2'
            rcases hw3 with rfl | rfl | rfl
            · have hv : m = tx.size := by have := HM.out; unfold lenN at this; simpa using this.symm
              subst hv
              clear pc0 hrec' hcw hxi
              gi_wp2_with (gi_at_builtin; refine stop_app rfl ?_)
              refine hid ?_
              refine wpListIn_append_own_at _ rfl _ _ 39 rfl (Q0 + 2) 50 i0 _ 1 8 Tryz.underlying39 hi hz0 hz1 hz2 rfl (by decide) _ _ _ rfl ((H2.out.alloc _).alloc _) ⟨W5.heap.size + 1, 0, none⟩ 1 1 [fltN tx.size] rfl rfl (by have h := cell_one_new (W5.alloc (.cells #[.int .i64 tx.size] 3)) (fltN tx.size) 50; rw [World.size_alloc] at h; exact h) (by simp [fltN, Value.oneCell']) (by unfold maxLen; omega) (by omega) (by rw [World.size_alloc, World.size_alloc]; omega) ?_
              intro v' W7 hown' hgrow _ hblk
              obtain ⟨g', cap', rfl⟩ := ownsRow_succ hown'
              obtain ⟨f1, f2, f3⟩ := fin.out (W5.alloc (.cells #[.int .i64 tx.size] 3)) W7 _ _ _ ((Below.refl _ W5).alloc (Nat.le_refl _) _) hown' hgrow hblk
              have F3 := hid f3
              clear f3 hown' hgrow hblk
              gi_wp2_with fail
              show _ ∧ ∃ v, _ ∧ World.ownsRow _ _ _ _ v (pre ++ [(xi, (⟨tx, va, vb, vc, vf, vt⟩ : Vs))]).length (lensV _ (pre ++ [(xi, (⟨tx, va, vb, vc, vf, vt⟩ : Vs))])) ∧ _
              rw [hE.out.1, hE.out.2]
              exact F3.out
            · have hv : m = (posL tx 0).length := by have := HM.out; unfold lenN at this; simpa using this.symm
              subst hv
              obtain ⟨W6, cc, hcv, hb6'⟩ := conv_runes tx (by omega) (W5.alloc (.cells #[.int .i64 tx.size] 3))
              have bn := (Blk.new W5 3 #[.int .i64 tx.size]).low hb6'
              have bnc := bn.cell (k := 0) rfl
              have bnz := bn.froz 0
              try dsimp only at bnc
              have hb7 : Below W5.heap.size W5 (W6.setCell ⟨W5.heap.size, 0, none⟩ (.int .i64 (posL tx 0).length)) := (((Below.refl _ W5).alloc (Nat.le_refl _) _).trans (hb6'.mono (by simp))).setCell (p := ⟨W5.heap.size, 0, none⟩) (Nat.le_refl _) _
              have HB7 := hid hb7
              have hs7 := hb7.size
              have BN7 := hid (bn.upd 0 (.int .i64 (posL tx 0).length) rfl)
              have kf7 := (K1.out.low hb7).cell (k := 0) rfl
              have zf7 := (K1.out.low hb7).froz 0
              have R7 := hid (row_keep H2.out (Kept.of_all hb7 (fun _ => True)) (fun _ _ => trivial))
              clear hb7 hb6' bn pc0 hrec' hcw hxi
              gi_wp2_with (gi_at_builtin; refine stop_app rfl ?_)
              refine hid ?_
              refine wpListIn_append_own_at _ rfl _ _ 39 rfl (Q0 + 2) 50 i0 _ 1 8 Tryz.underlying39 hi hz0 hz1 hz2 rfl (by decide) _ _ _ rfl (R7.out.alloc _) ⟨W6.heap.size, 0, none⟩ 1 1 [fltN (posL tx 0).length] rfl rfl (by have h := cell_one_new (W6.setCell ⟨W5.heap.size, 0, none⟩ (.int .i64 (posL tx 0).length)) (fltN (posL tx 0).length) 50; rw [show (W6.setCell ⟨W5.heap.size, 0, none⟩ (.int .i64 (posL tx 0).length)).heap.size = W6.heap.size from by simp [World.setCell]] at h; exact h) (by simp [fltN, Value.oneCell']) (by unfold maxLen; omega) (by omega) (by rw [World.size_alloc]; omega) ?_
              intro v' W7 hown' hgrow _ hblk
              obtain ⟨g', cap', rfl⟩ := ownsRow_succ hown'
              obtain ⟨f1, f2, f3⟩ := fin.out (W6.setCell ⟨W5.heap.size, 0, none⟩ (.int .i64 (posL tx 0).length)) W7 _ _ _ HB7.out hown' hgrow hblk
              have F3 := hid f3
              clear f3 hown' hgrow hblk
              gi_wp2_with fail
              show _ ∧ ∃ v, _ ∧ World.ownsRow _ _ _ _ v (pre ++ [(xi, (⟨tx, va, vb, vc, vf, vt⟩ : Vs))]).length (lensV _ (pre ++ [(xi, (⟨tx, va, vb, vc, vf, vt⟩ : Vs))])) ∧ _
              rw [hE.out.1, hE.out.2]
              exact F3.out
            · have hv : m = (wordsL tx).length := by have := HM.out; unfold lenN at this; simpa using this.symm
              subst hv
              have hP7 := hid (fun W => pwords7 (some ⟨pb, 0, none⟩) W)
              have bn1 : Blk (W5.alloc (.cells #[.int .i64 0] 3)) W5.heap.size 3 #[.int .i64 0] := Blk.new W5 3 #[.int .i64 0]
              have pc1 := (KP5.out.alloc (.cells #[.int .i64 0] 3)).cell (k := 0) rfl
              have hsz : (W5.alloc (.cells #[.int .i64 0] 3)).heap.size = W5.heap.size + 1 := by simp [World.setCell]
              have hb5 : Below W5.heap.size W5 (W5.alloc (.cells #[.int .i64 0] 3)) := (Below.refl _ W5).alloc (Nat.le_refl _) _
              have zn := (Blk.new W5 3 #[.int .i64 tx.size]).froz 0
              have HB5' := hid hb5
              have BN1 := hid bn1
              have HSZ := hid hsz
              try dsimp only at pc1
              clear kf zf pc0 hb5 bn1 hsz
              gi_wp2_with fail
              refine ⟨trivial, ?_⟩
              with_reducible refine (CallsIn.inRound l' (callsIn_wide.2 (hP7.out _))).mono ?_
              rintro e W6 ⟨rfl, hw6⟩
              try rw [HSZ.out]
              have hs6 : W6.heap.size = W5.heap.size + 2 := by rw [hw6, World.size_alloc, HSZ.out]
              have BN6 : Hid (Blk W6 W5.heap.size 3 #[.int .i64 0]) := hid (by rw [hw6]; exact BN1.out.alloc _)
              have KS6 : Hid (Blk W6 (W5.heap.size + 1) 23 #[.pointer (some ⟨pb, 0, none⟩)]) := hid (by
                have h := Blk.new (W5.alloc (.cells #[.int .i64 0] 3)) 23 #[.pointer (some ⟨pb, 0, none⟩)]
                rw [HSZ.out] at h
                rw [hw6]; exact h)
              have HB6 : Hid (Below W5.heap.size W5 W6) := hid (by rw [hw6]; exact HB5'.out.alloc (by rw [HSZ.out]; omega) _)
              have PM6 := hid (PM5.out.low HB6.out)
              have HR6 : Hid (W6.heap[l']? = some (.loop rec)) := hid ((HB6.out.block l' (Array.getElem?_eq_some_iff.1 hrec'.out).1).trans hrec'.out)
              clear hw6 HB5' BN1 HSZ pc1 zn hP7 hrec'
              gi_wp2_with fail
              refine name_actZ ?_
              intro Tm3 D3 hTm3 hD3
              have hseq3 := SeqS.inRound l' ((pwords_seq of_ok L hL2 HLs.out pb g cap a (W5.heap.size + 1) W6 (KS6.out.cell (k := 0) rfl) PM6.out (by have := hgP.out; omega)).wide 6)
              rw [← HWS.out] at hseq3
              refine rangeFunc_sN (F := Fence.wide.inRound l') (n := 9 - 1 - 1) (α := Nat × ByteArray) (l₀ := l') (r₀ := rec) rfl HR6.out (by omega) (gf := 26) (lb := #[.pointer (some ⟨W5.heap.size + 1, 0, none⟩)]) (by subst hTm3; rfl) trivial (enters_of Tryz.func26 (by kernel_rfl) rfl)
                hseq3 (fun k hk => by have := hgP.out; rcases hk with h | h | h <;> omega) (Below.refl _ _) (fun _ => rfl)
                (fun qs S' X => Blk X W5.heap.size 3 #[.int .i64 ((qs.filter fun y => decide (y.1 = xi)).length : Nat)] ∧ W5.heap.size + 2 ≤ X.heap.size ∧ Below W5.heap.size W5 X)
                (fun _ _ _ _ => False)
                ?hI3 (fun c _ _ _ _ _ h _ _ _ => h) ⟨BN6.out, by omega, HB6.out⟩
                (fun qs S' y a' X => (Blk X W5.heap.size 3 #[.int .i64 ((qs.filter fun y => decide (y.1 = xi)).length : Nat)] ∧ W5.heap.size + 2 ≤ X.heap.size ∧ Below W5.heap.size W5 X) ∧ a' = { tmps := ((Tm3.setIfInBounds 105 (.int .i64 y.1)).setIfInBounds 106 (.string y.2)).setIfInBounds 18 (.int .i64 y.1), defers := [] })
                ?hAx3 ?assign3 ?body3 ?done3 (fun c qs W9 hW9 hpre2 h => h.elim)
              case hI3 =>
                intro qs S' S'' X Y ⟨h1, h2, h3⟩ hS hK hS'
                have nb : ∀ k, k < W5.heap.size + 1 → ¬ S' k := fun k h hs => by have := (hS k hs).1; omega
                exact ⟨h1.keep hK (nb _ (by omega)), by have := hK.size; omega, h3.trans (hK.below (by omega) (fun k hk => nb k (by omega)))⟩
              case hAx3 =>
                intro qs S' y a' X lb o ⟨⟨h1, h2, h3⟩, h4⟩ hSl hS
                have hlb := (hS _ hSl).1
                exact ⟨⟨h1.put (by omega) _, by simp [World.putObj]; omega, h3.trans ((Kept.putObj (T := fun k => k < W5.heap.size) X (by show ¬ (lb < W5.heap.size); omega) o).below (by omega) (fun k hk => hk))⟩, h4⟩
              case assign3 =>
                rintro l2 qs S' y X K hJ hX7 hS7 hpre2 hK
                subst hTm3 hD3
                have H := hK _ _ (Kept.refl _ _) ⟨hJ, rfl⟩
                clear hK hJ
                obtain ⟨yi, yw⟩ := y
                dsimp only at H
                simp only [List.setIfInBounds_toArray, List.set_cons_succ, List.set_cons_zero] at H
                gi_wp2
                exact H
              case body3 =>
                rintro l2 qs S' y a' X hSl2' ⟨rec2, hrec2⟩ hX7 hS7 hpre2 ⟨⟨h1, h2, h3⟩, rfl⟩
                have hcl := (hpre2.filter (fun y => decide (y.1 = xi))).length_le
                rw [hcw.out] at hcl
                rw [List.filter_append, List.length_append] at hcl
                obtain ⟨yi, yw⟩ := y
                obtain ⟨nq, hnq⟩ : ∃ nq, nq = (qs.filter fun y => decide (y.1 = xi)).length := ⟨_, rfl⟩
                have hcn : Hid (((qs ++ [(yi, yw)]).filter fun y => decide (y.1 = xi)).length = nq + if yi = xi then 1 else 0) := hid (by
                  rw [List.filter_append, List.length_append, ← hnq]
                  by_cases he : yi = xi
                  · simp [he]
                  · simp [he])
                rw [← hnq] at h1 hcl
                have hcl' : nq ≤ 300000 := by omega
                have ci3 := (KX.out.low h3).cell (k := 0) rfl
                have cn3 := h1.cell (k := 0) rfl
                have zn3 := h1.froz 0
                try dsimp only at ci3 cn3
                have nbn : Hid (¬ ((W5.heap.size = W5.heap.size + 1 ∨ W5.heap.size = pb ∨ W5.heap.size = g) ∨ S' W5.heap.size)) := hid (fun h => h.elim (fun h => by have := hgP.out; rcases h with h | h | h <;> omega) (fun h => by have := (hS7 _ h).1; omega))
                have H1 := hid h1
                have H33 := hid h3
                subst hTm3 hD3
                dsimp only
                simp only [List.setIfInBounds_toArray, List.set_cons_succ, List.set_cons_zero]
                clear h1 h3 hnq hcl hpre2 hS7 hrec2 hSl2' hseq3
                by_cases he : yi = xi
                · subst he
                  gi_wp2_with fail
                  refine ⟨Kept.setCell _ (by exact nbn.out) _, ?_, by simp [World.setCell]; omega, H33.out.setCell (p := ⟨W5.heap.size, 0, none⟩) (Nat.le_refl _) _⟩
                  rw [hcn.out]
                  exact H1.out.upd _ _ (by simp)
                · have hei : ¬ ((yi : Int) = xi) := by omega
                  have hef : ((yi : Int) == xi) = false := by simpa using hei
                  gi_wp2_with fail
                  refine ⟨Kept.refl _ _, ?_, by omega, H33.out⟩
                  rw [hcn.out]
                  simpa [he] using H1.out
              case done3 =>
                rintro W9 hW9 ⟨h1, h2, h3⟩
                rw [hcw.out] at h1
                have cn9 := h1.cell (k := 0) rfl
                have kf9 := (K1.out.low h3).cell (k := 0) rfl
                try dsimp only at cn9 kf9
                have R9 := hid (row_keep H2.out (Kept.of_all h3 (fun _ => True)) (fun _ _ => trivial))
                have H39 := hid h3
                subst hTm3 hD3
                clear h1 h3 hseq3
                gi_wp2_with (gi_at_builtin; refine stop_app rfl ?_)
                refine hid ?_
                refine wpListIn_append_own_at _ rfl _ _ 39 rfl (Q0 + 2) 50 i0 _ 1 8 Tryz.underlying39 hi hz0 hz1 hz2 rfl (by decide) _ _ _ rfl (R9.out.alloc _) ⟨W9.heap.size, 0, none⟩ 1 1 [fltN (wordsL tx).length] rfl rfl (cell_one_new _ _ _) (by simp [fltN, Value.oneCell']) (by unfold maxLen; omega) (by omega) (by rw [World.size_alloc]; omega) ?_
                intro v' W7 hown' hgrow _ hblk
                obtain ⟨g', cap', rfl⟩ := ownsRow_succ hown'
                obtain ⟨f1, f2, f3⟩ := fin.out W9 W7 _ _ _ H39.out hown' hgrow hblk
                have F3 := hid f3
                clear f3 hown' hgrow hblk
                gi_wp2_with fail
                show _ ∧ ∃ v, _ ∧ World.ownsRow _ _ _ _ v (pre ++ [(xi, (⟨tx, va, vb, vc, vf, vt⟩ : Vs))]).length (lensV _ (pre ++ [(xi, (⟨tx, va, vb, vc, vf, vt⟩ : Vs))])) ∧ _
                rw [hE.out.1, hE.out.2]
                exact F3.out
          case done2 =>
            rintro Dk2 W9 hDk2 ⟨v, h1, h2, h3, h4, h5⟩ hK2
            have hDl2 := at_lt hK2
            rw [eachL_len] at h2
            have hsh : ∃ p c, v = .slice p L.length c := by
              rcases h2.2 with ⟨h1, h2⟩ | ⟨g', cap', cur, h1, _⟩
              · exact ⟨none, 0, by rw [h1, h2]⟩
              · exact ⟨_, _, h1⟩
            obtain ⟨p, c, rfl⟩ := hsh
            have G9 := row_keep CG.out h5 (fun g' hg' => by have := CGl g' hg'; constructor <;> omega)
            rw [lensV_map] at h2 G9
            have hEq := C.equal_floats W9 gp p gc c _ (floats_row G9) (floats_row h2) (by rw [List.length_map, eachL_len]; omega)
            rw [List.length_map, eachL_len] at hEq
            have HEq := hid hEq
            have F1 := hid (C1.out.keep h5 (by constructor <;> omega))
            have FF := hid (CF.out.keep h5 (by constructor <;> omega))
            have HK1 := hid (h5.obj CK.out (by constructor <;> omega))
            have HK2 := hid hK2
            have FB := hid (CB.out.trans (h5.below (by omega) (fun k hk => by constructor <;> omega)))
            have cw := h1.cell (k := 0) rfl
            have cf9 := FF.out.cell (k := 0) rfl
            have hsz9 : Q0 + 2 ≤ W9.heap.size := h4
            try dsimp only at cw cf9
            subst hTm2 hD2
            clear h1 h2 h3 h5 hK2 G9 hEq hseq2
            gi_wp2_with fail
            refine ⟨trivial, ?_⟩
            with_reducible refine CallsIn.mono (callsIn_wide.2 HEq.out) ?_
            rintro e W10 ⟨rfl, rfl⟩
            gi_wp2_with fail
            refine ⟨trivial, ?_⟩
            with_reducible refine CallsIn.mono (callsIn_wide.2 (hWk.out _)) ?_
            rintro e W11 ⟨rfl, hb11⟩
            have hs11 := hb11.size
            have K11 := hid (F1.out.low hb11)
            have c11 := K11.out.cell (k := 0) rfl
            have z11 := K11.out.froz 0
            have B11 := hid (FB.out.trans (hb11.mono (by omega)))
            have D11 := hid ((hb11.block Dk (by omega)).trans HK1.out)
            have E11 := hid ((hb11.block Dk2 hDl2).trans HK2.out)
            clear hb11 cw cf9
            gi_wp2_with fail
            have hDne : Dk ≠ Dk2 := by omega
            have hq1 : (W11.setCell ⟨N + 1, 0, none⟩ (.bool true)).heap[Dk2]? = some (.deferred (some [])) := (Below.heap_setCell _ _ _ _ (by show Dk2 ≠ N + 1; omega)).trans E11.out
            have hq2 : ((W11.setCell ⟨N + 1, 0, none⟩ (.bool true)).putObj Dk2 (.deferred none)).heap[Dk]? = some (.deferred (some [])) := (World.putObj_heap_other hDne).trans ((Below.heap_setCell _ _ _ _ (by show Dk ≠ N + 1; omega)).trans D11.out)
            have y := (((K11.out.upd 0 (.bool true) rfl).put (l := Dk2) (by omega) (.deferred none)).put (l := Dk) (by omega) (.deferred none)).cell (k := 0) rfl
            refine ⟨by simp, .inl ⟨_, _, rfl, run_takeDeferred hq1, ?_⟩⟩
            refine ⟨by simp, .inl ⟨_, _, rfl, run_takeDeferred hq2, ?_⟩⟩
            refine ⟨.bool true, (by simp [results, Tryz.results3, go_sem, y]), rfl, ?_⟩
            rw [← HNN.out]
            refine ((B11.out.setCell (p := ⟨N + 1, 0, none⟩) (by show N ≤ N + 1; omega) _).trans ((Kept.putObj (T := fun k => k < N) _ (by show ¬ (Dk2 < N); omega) _).below (by simp [World.setCell]; omega) (fun k hk => hk))).trans ((Kept.putObj (T := fun k => k < N) _ (by show ¬ (Dk < N); omega) _).below (by simp [World.setCell, World.putObj]; omega) (fun k hk => hk))
        · have hbad := hid (len10_bad way (by omega) pb WA)
          gi_wp2_with fail
          refine ⟨trivial, ?_⟩
          with_reducible refine CallsIn.mono (callsIn_wide.2 hbad.out) ?_
          rintro e WB ⟨rfl, hbB⟩
          have hsB := hbB.size
          have E0 := hid (G0.out.low hbB)
          have E1 := hid (G1.out.low hbB)
          have EF := hid (GF.out.low hbB)
          have EB := hid (GB.out.trans (hbB.mono (by omega)))
          have EK := hid ((hbB.block Dk hDlA).trans GK.out)
          have c0 := E0.out.cell (k := 0) rfl
          have cf := EF.out.cell (k := 0) rfl
          have zf := EF.out.froz 0
          try dsimp only at c0 cf
          clear hbB hbad G0 G1 GP GF GPm GB GK cp
          have hw2 : (decide (way < 1) = true) ∨ (decide (way < 1) = false ∧ decide (3 < way) = true) := by
            by_cases h : way < 1
            · exact .inl (decide_eq_true h)
            · exact .inr ⟨decide_eq_false h, decide_eq_true (by omega)⟩
          have hw3 : (way < 1) ∨ (¬ way < 1 ∧ 3 < way) := by omega
          rcases hw3 with hw3 | hw3
          all_goals
            gi_wp2_with fail
            refine ⟨trivial, ?_⟩
            with_reducible refine CallsIn.mono (callsIn_wide.2 (hWk.out _)) ?_
            rintro e WC ⟨rfl, hbC⟩
            have E1' := hid ((E1.out.other (B' := T0 + 1) (k := 0) (by omega) (.int .i64 2)).low hbC)
            have hsC := hbC.size
            have hsC' : WB.heap.size ≤ WC.heap.size := by simpa [World.setCell] using hsC
            have y1 := E1'.out.cell (k := 0) rfl
            have z1 := E1'.out.froz 0
            have EK' : WC.heap[Dk]? = some (.deferred (some [])) := (hbC.block Dk (by simp [World.setCell]; omega)).trans ((Below.heap_setCell _ _ _ _ (by show Dk ≠ T0 + 1; omega)).trans EK.out)
            have EB' := hid ((EB.out.setCell (p := ⟨T0 + 1, 0, none⟩) (by show N ≤ T0 + 1; omega) (.int .i64 2)).trans (hbC.mono (by simp [World.setCell]; omega)))
            have HEK := hid EK'
            clear hbC EK' hsC
            gi_wp2_with fail
            have hK1 : (WC.setCell ⟨N + 1, 0, none⟩ (.bool true)).heap[Dk]? = some (.deferred (some [])) := (Below.heap_setCell _ _ _ _ (by show Dk ≠ N + 1; omega)).trans HEK.out
            have y := ((E1'.out.upd 0 (.bool true) rfl).put (l := Dk) (by omega) (.deferred none)).cell (k := 0) rfl
            refine ⟨by simp, .inl ⟨_, _, rfl, run_takeDeferred hK1, ?_⟩⟩
            refine ⟨.bool true, (by simp [results, Tryz.results3, go_sem, y]), rfl, ?_⟩
            rw [← HNN.out]
            exact (EB'.out.setCell (p := ⟨N + 1, 0, none⟩) (by show N ≤ N + 1; omega) _).trans ((Kept.putObj (T := fun k => k < N) _ (by show ¬ (Dk < N); omega) _).below (by simp [World.setCell]; omega) (fun k hk => hk))
      case stop =>
        exact fun Dk c pre W9 hDk hpre h hK => h.elim
end Go.Proofs.YtmpkfpabejpbkaaGreatDoor
