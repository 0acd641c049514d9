/- What a rule says. Conditions: those of each theorem. -/
import Derived.Test.YtieifhfgedoiaaaGreatDoorNPhG
namespace Go.Proofs.YtieifhfgedoiaaaGreatDoor
open Go.RowKit Go.Lib
open Go.ChangeMaps
set_option linter.unusedVariables false
set_option linter.unusedSimpArgs false
attribute [local go_sem] ExtS.cell ExtS.froz upE_value upE_skip upE_enter Ext.cell Ext.froz
def shP (a : Nat) (x : Ph × Nat) : Ph × Nat := (x.1, a + x.2)
theorem phsR_ext (s : ByteArray) (a : Nat) (ha : a ≤ s.size) : ∀ (k p : Nat) (acc : List (Ph × Nat)), s.size - a - p = k →
  phsR s (a + p) (acc.map (shP a)) = ((phsR (s.extract a s.size) p acc).1.map (shP a), a + (phsR (s.extract a s.size) p acc).2) := by
 intro k
 induction k using Nat.strongRecOn with
 | ind k ih =>
  intro p acc hk
  have hz := ext_size s a
  by_cases hp : p < (s.extract a s.size).size
  ·have hp' : a + p < s.size := by omega
   cases hph : phAt (s.extract a s.size) p with
   | none =>
    have h' := hph
    rw [phAt_ext s a p ha] at h'
    rw [phsR_no hp hph, phsR_no hp' h']
   | some z =>
    obtain ⟨x, n⟩ := z
    have h' := hph
    rw [phAt_ext s a p ha] at h'
    have hn := phAt_pos hp hph
    rw [phsR_more hp hph, phsR_more hp' h']
    have := ih (s.size - a - (p + n)) (by omega) (p + n) (acc ++ [(x, p)]) rfl
    rw [List.map_append] at this
    rw [Nat.add_assoc]
    exact this
  ·rw [phsR_end hp, phsR_end (by omega)]
theorem phR_ext (s : ByteArray) (a : Nat) (ha : a ≤ s.size) : phR s a = match phR (s.extract a s.size) 0 with
  | .ok l q => .ok l (a + q)
  | .bad e q => .bad e (a + q) := by
 have h := phsR_ext s a ha _ 0 [] rfl
 rw [Nat.add_zero] at h
 have h' : phsR s a [] = ((phsR (s.extract a s.size) 0 []).1.map (shP a), a + (phsR (s.extract a s.size) 0 []).2) := h
 unfold phR
 rw [h']
 generalize phsR (s.extract a s.size) 0 [] = r
 obtain ⟨l, e⟩ := r
 dsimp only
 rw [List.getElem?_map]
 cases l[128]? with
 | some x => rfl
 | none =>
  dsimp only [Option.map]
  rw [ext_size]
  by_cases he : e < s.size - a
  ·rw [if_pos he, if_pos (by omega)]
  ·rw [if_neg he, if_neg (by omega), List.map_map]; rfl
theorem phR_ne {s : ByteArray} {p : Nat} {e : Int} {q : Nat} (h : phR s p = .bad e q) : e ≠ 0 := by
 unfold phR at h
 dsimp only at h
 split at h
 ·injection h with h1 h2; omega
 ·split at h
  ·injection h with h1 h2; omega
  ·cases h
theorem phsR_le (s : ByteArray) : ∀ (k p : Nat) (acc : List (Ph × Nat)), s.size - p = k → p ≤ s.size → (∀ x ∈ acc, x.2 ≤ s.size) → (phsR s p acc).2 ≤ s.size ∧ ∀ x ∈ (phsR s p acc).1, x.2 ≤ s.size := by
 intro k
 induction k using Nat.strongRecOn with
 | ind k ih =>
  intro p acc hk hp ha
  by_cases hlt : p < s.size
  ·cases hph : phAt s p with
   | none => rw [phsR_no hlt hph]; exact ⟨hp, ha⟩
   | some z =>
    obtain ⟨x, n⟩ := z
    have hn := phAt_pos hlt hph
    rw [phsR_more hlt hph]
    refine ih (s.size - (p + n)) (by omega) (p + n) _ rfl hn.2 (fun y hy => ?_)
    rcases List.mem_append.1 hy with hy | hy
    ·exact ha y hy
    ·rw [List.mem_singleton] at hy; subst hy; exact hp
  ·rw [phsR_end hlt]; exact ⟨hp, ha⟩
theorem phR_le {s : ByteArray} {e : Int} {q : Nat} (h : phR s 0 = .bad e q) : q ≤ s.size := by
 have hl := phsR_le s _ 0 [] rfl (Nat.zero_le _) (by simp)
 unfold phR at h
 dsimp only at h
 split at h
 ·rename_i x hx
  injection h with h1 h2
  subst h2
  exact hl.2 x (List.mem_of_getElem? hx)
 ·split at h
  ·injection h with h1 h2; subst h2; exact hl.1
  ·cases h
theorem own_ne {w : World} {base n size B : Nat} {e t : TypeId} {v : Value} {xs : List Value} {a : Array Value} (h : w.ownsRow base e size v n xs) {g : Nat} (hg : v.ownBlock = some g) (hB : Blk w B t a) (hn : t ≠ e) : g ≠ B := by
 rintro rfl
 rcases h.2 with ⟨hv, _⟩ | ⟨g', cap, cur, hv, _, hc, _⟩
 ·rw [hv] at hg; cases hg
 ·rw [hv] at hg
  injection hg with hg
  subst hg
  unfold Blk at hB
  rw [hB] at hc
  injection hc with hc
  injection hc with h1 h2
  exact hn h2
theorem own_old {w : World} {base n size U : Nat} {e : TypeId} {v : Value} {xs : List Value} (h : w.ownsRow base e size v n xs) {g : Nat} (hg : v.ownBlock = some g) (hU : U < base) : g ≠ U := by
 have := (own_ge h hg).1
 omega
def SaysPost (w w' : World) (R U : Nat) (s : ByteArray) (c0 c1 c2 c3 c4 c5 : Value) (r : Res (List Ph)) (b : Bool) : Prop :=
 match r with
 | .ok l q => b = true ∧ (∃ p, Rd w' R s p 0 0) ∧ (∃ v, Blk w' U 86 #[c0, c1, c2, c3, c4, c5, v] ∧ w'.ownsRow w.heap.size 60 3 v l.length (flatE Ph.cells l)) ∧ ButS [R, U] w w'
 | .bad e q => b = false ∧ (∃ p, Rd w' R s p e q) ∧ ButS [R, U] w w'
theorem two_mono {R U : Nat} {w w' : World} (h : ButS [R] w w') : ButS [R, U] w w' := h.mono (fun k hk _ => by rw [List.mem_singleton] at hk; subst hk; simp)
theorem ButS.nil {S : List Nat} {w w' : World} (h : Below w.heap.size w w') : ButS S w w' := .of h
set_option maxRecDepth 100000 in
set_option maxHeartbeats 4000000 in
theorem phones_any {w : World} {R U X : Nat} {s : ByteArray} {p : Nat} {c0 c1 c2 c3 c4 c5 : Value} (h : Rd w R s p 0 0) (hU : Blk w U 86 #[c0, c1, c2, c3, c4, c5, .slice none 0 0]) (hp : p ≤ s.size) (hs : s.size ≤ 100000000) :
  Calls Tryz.prog 59 #[.pointer (some ⟨X, 0, none⟩), .pointer (some ⟨R, 0, none⟩), .pointer (some ⟨U, 0, none⟩)] w fun e w' => ∃ b, e = .returned (.bool b) ∧ SaysPost w w' R U s c0 c1 c2 c3 c4 c5 (saysR s p) b := by
 have hH := hid h
 have hUU := hid hU
 have nRU : R ≠ U := blk_ne h.b hU (by decide)
 have c0' := h.c0
 have c1' := h.c1
 clear hU
 by_cases hpe : p = s.size
 ·have t1 : ((p : Int) == (s.size : Int)) = true := beq_true_of (by omega)
  have t2 : (p == s.size) = true := by simpa using hpe
  have hE : Hid (saysR s p = .ok [] p) := by unfold saysR; rw [if_pos hpe]; exact hid rfl
  clear h hpe
  go_enter Tryz.func59, Tryz.ntmps59
  go_wp2_with fail
  refine region_plan [] (.quiet 0 (.quiet 1 (.quiet 2 (.quiet 3 (.quiet 4 (.quiet 5 (.quiet 6 (.quiet 7 (.quiet 8 (.quiet 9 .done)))))))))) (by kernel_rfl) (by kernel_rfl) ?_
  repeat (apply p_quiet; (case hi => rfl); intro K hK; go_simp; (refine ⟨hK _ ?_⟩; clear hK K))
  apply p_done
  intro W1 hb1
  go_wp2_with fail
  go_ret
  exact ⟨_, rfl, by rw [hE.out]; exact ⟨rfl, ⟨_, hH.out.low hb1⟩, ⟨_, hUU.out.low hb1, World.ownsRow_nil _ _ _ _⟩, .nil hb1⟩⟩
 ·have t1 : ((p : Int) == (s.size : Int)) = false := beq_false_of (by omega)
  have t2 : (p == s.size) = false := by simpa using hpe
  have hplt : p < s.size := by omega
  cases hb : isB s p 32
  ·have hE : Hid (saysR s p = .bad 90 p) := by unfold saysR; rw [if_neg hpe, mustR_no hb]; exact hid rfl
   have hM := hid (fun w' (h : Rd w' R s p 0 0) => must_no1 h 32 hb (by omega))
   clear h hpe hb
   go_enter Tryz.func59, Tryz.ntmps59
   go_wp2_with fail
   refine region_plan [] (.quiet 0 (.quiet 1 (.quiet 2 (.quiet 3 (.quiet 4 (.quiet 5 (.quiet 6 (.quiet 7 (.quiet 8 (.quiet 9 .done)))))))))) (by kernel_rfl) (by kernel_rfl) ?_
   repeat (apply p_quiet; (case hi => rfl); intro K hK; go_simp; (refine ⟨hK _ ?_⟩; clear hK K))
   apply p_done
   intro W1 hb1
   have hR1 := hid (hH.out.low hb1)
   have hB1 := hid hb1
   clear hb1 c0' c1'
   go_wp2_with (go_at_call 39; (with_reducible refine Calls.mono (hM.out _ hR1.out) ?_); rintro e w2 ⟨rfl, hR2, hB2⟩; have HR2 := hid hR2; have HB2 := hid hB2; clear hR2 hB2)
   go_ret
   exact ⟨_, rfl, by rw [hE.out]; exact ⟨rfl, ⟨_, HR2.out⟩, two_mono ((ButS.nil hB1.out).trans HB2.out)⟩⟩
  ·have hM := hid (fun w' (h : Rd w' R s p 0 0) => must_yes1 h 32 hb (by omega))
   have hE0 : Hid (saysR s p = if p + 1 = s.size then .bad 90 (p + 1) else phR s (p + 1)) := by unfold saysR; rw [if_neg hpe, mustR_yes hb]; exact hid rfl
   clear h hpe hb
   obtain ⟨p1, hp1⟩ : ∃ p1, p + 1 = p1 := ⟨_, rfl⟩
   rw [hp1] at hM hE0
   have hp1s : p1 ≤ s.size := by omega
   clear hp1
   go_enter Tryz.func59, Tryz.ntmps59
   go_wp2_with fail
   refine region_plan [] (.quiet 0 (.quiet 1 (.quiet 2 (.quiet 3 (.quiet 4 (.quiet 5 (.quiet 6 (.quiet 7 (.quiet 8 (.quiet 9 .done)))))))))) (by kernel_rfl) (by kernel_rfl) ?_
   repeat (apply p_quiet; (case hi => rfl); intro K hK; go_simp; (refine ⟨hK _ ?_⟩; clear hK K))
   apply p_done
   intro W1 hb1
   have hR1 := hid (hH.out.low hb1)
   have hB1 := hid hb1
   have hU1 := hid (hUU.out.low hb1)
   clear hb1 c0' c1' t1 t2
   go_wp2_with (go_at_call 39; (with_reducible refine Calls.mono (hM.out _ hR1.out) ?_); rintro e w2 ⟨rfl, hR2, hB2⟩; have HR2 := hid hR2; have HB2 := hid ((ButS.nil hB1.out (S := [R])).trans hB2); have HU2 := hid (hB2.blk hU1.out (by rw [List.mem_singleton]; exact nRU.symm)); clear hR2 hB2 hR1 hB1 hU1 hM)
   have c0' := HR2.out.c0
   have c1' := HR2.out.c1
   by_cases hpe : p1 = s.size
   ·have t1 : ((p1 : Int) == (s.size : Int)) = true := beq_true_of (by omega)
    have t2 : (p1 == s.size) = true := by simpa using hpe
    have hE : Hid (saysR s p = .bad 90 p1) := by rw [hE0.out, if_pos hpe]; exact hid rfl
    clear hpe
    refine region_plan [] (.quiet 0 (.quiet 1 (.quiet 2 (.quiet 3 (.quiet 4 (.quiet 5 (.quiet 6 (.quiet 7 (.quiet 8 (.quiet 9 .done)))))))))) (by kernel_rfl) (by kernel_rfl) ?_
    repeat (apply p_quiet; (case hi => rfl); intro K hK; go_simp; (refine ⟨hK _ ?_⟩; clear hK K))
    apply p_done
    intro W1 hb1
    have HR3 := hid (HR2.out.low hb1)
    have HB3 := hid (HB2.out.low hb1)
    have hF := hid (fail_new HR3.out 90 p1)
    clear hb1 c0' c1'
    have c0' := HR3.out.c0
    have c1' := HR3.out.c1
    go_wp2_with (go_at_call 38; (with_reducible refine Calls.mono hF.out ?_); rintro e w4 ⟨rfl, hR4, hB4⟩; have HR4 := hid hR4; have HB4 := hid hB4; clear hR4 hB4)
    go_ret
    exact ⟨_, rfl, by rw [hE.out]; exact ⟨rfl, ⟨_, HR4.out⟩, two_mono (HB3.out.trans HB4.out)⟩⟩
   ·have t1 : ((p1 : Int) == (s.size : Int)) = false := beq_false_of (by omega)
    have t2 : (p1 == s.size) = false := by simpa using hpe
    have hE1 : Hid (saysR s p = match phR (s.extract p1 s.size) 0 with
      | .ok l q => .ok l (p1 + q)
      | .bad e q => .bad e (p1 + q)) := by rw [hE0.out, if_neg hpe, phR_ext s p1 hp1s]; exact hid rfl
    clear hpe hE0
    refine region_plan [] (.quiet 0 (.quiet 1 (.quiet 2 (.quiet 3 (.quiet 4 (.quiet 5 (.quiet 6 (.quiet 7 (.quiet 8 (.quiet 9 .done)))))))))) (by kernel_rfl) (by kernel_rfl) ?_
    repeat (apply p_quiet; (case hi => rfl); intro K hK; go_simp; (refine ⟨hK _ ?_⟩; clear hK K))
    apply p_done
    intro W1 hb1
    have hsz : Hid (w.heap.size ≤ W1.heap.size) := hid (Nat.le_trans HB2.out.size hb1.size)
    have hUlt : Hid (U < w.heap.size) := hid hUU.out.lt
    replace HR2 := hid (HR2.out.low hb1)
    replace HB2 := hid (HB2.out.low hb1)
    replace HU2 := hid (HU2.out.low hb1)
    clear hb1 c0' c1' t1 t2
    go_wp2_with fail
    have c0' := HR2.out.c0
    have c1' := HR2.out.c1
    have hle : p1 ≤ s.size := hp1s
    have hP := hid (fun w' => phread_any (s.extract p1 s.size) w' (by rw [ext_size]; omega))
    cases hr : phR (s.extract p1 s.size) 0 with
    | ok l q' =>
     have hE : Hid (saysR s p = .ok l (p1 + q')) := by rw [hE1.out, hr]; exact hid rfl
     simp only [hr, ReadPost] at hP
     clear hr hE1
     refine region_plan [] (.quiet 0 (.quiet 1 (.quiet 2 (.quiet 3 (.quiet 4 (.quiet 5 (.quiet 6 (.quiet 7 (.quiet 8 (.two 9 (.quiet 10 (.quiet 11 (.quiet 12 (.one 13 (.quiet 14 (.one 15 .done)))))) 13 (.one 9 (.quiet 10 (.quiet 11 (.quiet 12 (.quiet 14 (.one 15 .done)))))))))))))))) (by kernel_rfl) (by kernel_rfl) ?_
     repeat (apply p_quiet; (case hi => rfl); intro K hK; go_simp; (refine ⟨hK _ ?_⟩; clear hK K))
     refine p_two ?_ ?_
     ·apply p_one
      case hi => rfl
      intro W2 hb2 K hK
      go_wp2_with (go_at_call 75; (with_reducible refine Calls.mono (hP.out _) ?_); rintro e w3 ⟨⟨v, rfl, hO⟩, hb3⟩)
      have hO3 := hid (own_mono hO (Nat.le_trans hsz.out hb2.size))
      obtain ⟨pv, cv, rfl⟩ := own_shape hO
      clear hO
      have hb13 := hid (bnext hb2 hb3)
      have hb13s := hid hb13.out.size
      clear hb2 hb3
      refine hK _ _ (.of hb13.out) ?_
      clear hK K
      repeat (apply p_quiet; (case hi => rfl); intro K hK; go_simp; (refine ⟨hK _ ?_⟩; clear hK K))
      apply p_one
      case hi => rfl
      intro W4 hb4 K hK
      replace hO3 := hid (own_low (own_low hO3.out hb4) ((Below.refl _ _).alloc (Nat.le_refl _) (.cells #[.int .i64 0, .int .i64 0] 44)))
      go_wp2_with fail
      refine hK _ _ (.of ((bnext hb13.out hb4).alloc (bnext hb13.out hb4).size _)) ?_
      clear hK K
      replace hb13 := hid ((bnext hb13.out hb4).alloc (bnext hb13.out hb4).size (.cells #[.int .i64 0, .int .i64 0] 44))
      have K8 := hid (Blk.new W4 44 #[.int .i64 0, .int .i64 0])
      have hB8 : Hid (W1.heap.size ≤ W4.heap.size) := hid (Nat.le_trans hb13s.out hb4.size)
      clear hb4
      generalize W4.alloc (.cells #[.int .i64 0, .int .i64 0] 44) = W5 at *
      generalize W4.heap.size = B8 at *
      repeat (apply p_quiet; (case hi => rfl); intro K hK; go_simp; (refine ⟨hK _ ?_⟩; clear hK K))
      apply p_one
      case hi => rfl
      intro W6 hb6 K hK
      replace K8 := hid (K8.out.low hb6)
      replace hb13 := hid (bnext hb13.out hb6)
      replace hO3 := hid (own_low hO3.out hb6)
      have K8b := K8
      obtain ⟨g0, g1, gf⟩ := K8.out.c2
      go_wp2_with fail
      clear g0 g1 gf
      have hb15 := hid (below_set (below_set hb13.out hB8.out 0 (.int .i64 0)) hB8.out 1 (.int .i64 0))
      refine hK _ _ (.of hb15.out) ?_
      clear hK K
      replace K8 : Hid (Blk _ B8 44 #[.int .i64 0, .int .i64 0]) := hid ((K8.out.set 0 (.int .i64 0)).set 1 (.int .i64 0))
      replace hO3 := hid (own_other (own_other hO3.out (B := B8) (fun g hg => own_ne hO3.out hg K8b.out (by decide)) 0 (.int .i64 0)) (B := B8) (fun g hg => own_ne hO3.out hg K8b.out (by decide)) 1 (.int .i64 0))
      generalize (W6.setCell ⟨B8, 0, none⟩ (.int .i64 0)).setCell ⟨B8, 1, none⟩ (.int .i64 0) = W7 at *
      apply p_done
      intro W8 hb8
      replace hb15 := hid (bnext hb15.out hb8)
      replace K8 := hid (K8.out.low hb8)
      replace hO3 := hid (own_low hO3.out hb8)
      have HR8 := hid (HR2.out.low hb15.out)
      have HB8 := hid (HB2.out.low hb15.out)
      have HU8 := hid (HU2.out.low hb15.out)
      clear hb8 hb13
      clear c0' c1'
      obtain ⟨g0, g1, gf⟩ := K8.out.c2
      obtain ⟨u0, u1, u2, u3, u4, u5, u6, uf⟩ := HU8.out.c7
      go_wp2_with fail
      go_ret
      exact ⟨_, rfl, by rw [hE.out]; exact ⟨rfl, ⟨_, ⟨HR8.out.b.other nRU (k := 6) _⟩⟩, ⟨_, HU8.out.set 6 _, own_other hO3.out (fun g hg => own_old hO3.out hg hUlt.out) 6 _⟩, (two_mono HB8.out).set (by simp) 6 _⟩⟩
     ·apply p_one
      case hi => rfl
      intro W4 hb4 K hK
      go_wp2_with fail
      refine hK _ _ (.of (hb4.alloc hb4.size _)) ?_
      clear hK K
      have hb13 := hid (hb4.alloc hb4.size (.cells #[.int .i64 0, .int .i64 0] 44))
      have K8 := hid (Blk.new W4 44 #[.int .i64 0, .int .i64 0])
      have hB8 : Hid (W1.heap.size ≤ W4.heap.size) := hid hb4.size
      clear hb4
      generalize W4.alloc (.cells #[.int .i64 0, .int .i64 0] 44) = W5 at *
      generalize W4.heap.size = B8 at *
      apply p_one
      case hi => rfl
      intro W2 hb2 K hK
      go_wp2_with (go_at_call 75; (with_reducible refine Calls.mono (hP.out _) ?_); rintro e w3 ⟨⟨v, rfl, hO⟩, hb3⟩)
      have hO3 := hid (own_mono hO (Nat.le_trans hsz.out (Nat.le_trans hb13.out.size hb2.size)))
      obtain ⟨pv, cv, rfl⟩ := own_shape hO
      clear hO
      replace K8 := hid ((K8.out.low hb2).low hb3)
      replace hb13 := hid (bnext hb13.out (bnext hb2 hb3))
      clear hb2 hb3
      refine hK _ _ (.of hb13.out) ?_
      clear hK K
      repeat (apply p_quiet; (case hi => rfl); intro K hK; go_simp; (refine ⟨hK _ ?_⟩; clear hK K))
      apply p_one
      case hi => rfl
      intro W6 hb6 K hK
      replace K8 := hid (K8.out.low hb6)
      replace hb13 := hid (bnext hb13.out hb6)
      replace hO3 := hid (own_low hO3.out hb6)
      have K8b := K8
      obtain ⟨g0, g1, gf⟩ := K8.out.c2
      go_wp2_with fail
      clear g0 g1 gf
      have hb15 := hid (below_set (below_set hb13.out hB8.out 0 (.int .i64 0)) hB8.out 1 (.int .i64 0))
      refine hK _ _ (.of hb15.out) ?_
      clear hK K
      replace K8 : Hid (Blk _ B8 44 #[.int .i64 0, .int .i64 0]) := hid ((K8.out.set 0 (.int .i64 0)).set 1 (.int .i64 0))
      replace hO3 := hid (own_other (own_other hO3.out (B := B8) (fun g hg => own_ne hO3.out hg K8b.out (by decide)) 0 (.int .i64 0)) (B := B8) (fun g hg => own_ne hO3.out hg K8b.out (by decide)) 1 (.int .i64 0))
      generalize (W6.setCell ⟨B8, 0, none⟩ (.int .i64 0)).setCell ⟨B8, 1, none⟩ (.int .i64 0) = W7 at *
      apply p_done
      intro W8 hb8
      replace hb15 := hid (bnext hb15.out hb8)
      replace K8 := hid (K8.out.low hb8)
      replace hO3 := hid (own_low hO3.out hb8)
      have HR8 := hid (HR2.out.low hb15.out)
      have HB8 := hid (HB2.out.low hb15.out)
      have HU8 := hid (HU2.out.low hb15.out)
      clear hb8 hb13
      clear c0' c1'
      obtain ⟨g0, g1, gf⟩ := K8.out.c2
      obtain ⟨u0, u1, u2, u3, u4, u5, u6, uf⟩ := HU8.out.c7
      go_wp2_with fail
      go_ret
      exact ⟨_, rfl, by rw [hE.out]; exact ⟨rfl, ⟨_, ⟨HR8.out.b.other nRU (k := 6) _⟩⟩, ⟨_, HU8.out.set 6 _, own_other hO3.out (fun g hg => own_old hO3.out hg hUlt.out) 6 _⟩, (two_mono HB8.out).set (by simp) 6 _⟩⟩
    | bad er q' =>
     have hE : Hid (saysR s p = .bad er (p1 + q')) := by rw [hE1.out, hr]; exact hid rfl
     simp only [hr, ReadPost] at hP
     have her := hid (phR_ne hr)
     have t3 : (er != 0) = true := bne_true_of her.out
     have hw2 : IntKind.i64.wrap ((p1 : Int) + q') = (p1 : Int) + q' := IntWalk.i64_in _ (by have := phR_le hr; rw [ext_size] at this; omega)
     clear hr hE1
     refine region_plan [] (.quiet 0 (.quiet 1 (.quiet 2 (.quiet 3 (.quiet 4 (.quiet 5 (.quiet 6 (.quiet 7 (.quiet 8 (.two 9 (.quiet 10 (.quiet 11 (.quiet 12 (.one 13 (.quiet 14 (.one 15 .done)))))) 13 (.one 9 (.quiet 10 (.quiet 11 (.quiet 12 (.quiet 14 (.one 15 .done)))))))))))))))) (by kernel_rfl) (by kernel_rfl) ?_
     repeat (apply p_quiet; (case hi => rfl); intro K hK; go_simp; (refine ⟨hK _ ?_⟩; clear hK K))
     refine p_two ?_ ?_
     ·apply p_one
      case hi => rfl
      intro W2 hb2 K hK
      go_wp2_with (go_at_call 75; (with_reducible refine Calls.mono (hP.out _) ?_); rintro e w3 ⟨rfl, hb3⟩)
      have hb13 := hid (bnext hb2 hb3)
      have hb13s := hid hb13.out.size
      clear hb2 hb3
      refine hK _ _ (.of hb13.out) ?_
      clear hK K
      repeat (apply p_quiet; (case hi => rfl); intro K hK; go_simp; (refine ⟨hK _ ?_⟩; clear hK K))
      apply p_one
      case hi => rfl
      intro W4 hb4 K hK
      go_wp2_with fail
      refine hK _ _ (.of ((bnext hb13.out hb4).alloc (bnext hb13.out hb4).size _)) ?_
      clear hK K
      replace hb13 := hid ((bnext hb13.out hb4).alloc (bnext hb13.out hb4).size (.cells #[.int .i64 0, .int .i64 0] 44))
      have K8 := hid (Blk.new W4 44 #[.int .i64 0, .int .i64 0])
      have hB8 : Hid (W1.heap.size ≤ W4.heap.size) := hid (Nat.le_trans hb13s.out hb4.size)
      clear hb4
      generalize W4.alloc (.cells #[.int .i64 0, .int .i64 0] 44) = W5 at *
      generalize W4.heap.size = B8 at *
      repeat (apply p_quiet; (case hi => rfl); intro K hK; go_simp; (refine ⟨hK _ ?_⟩; clear hK K))
      apply p_one
      case hi => rfl
      intro W6 hb6 K hK
      replace K8 := hid (K8.out.low hb6)
      replace hb13 := hid (bnext hb13.out hb6)
      obtain ⟨g0, g1, gf⟩ := K8.out.c2
      go_wp2_with fail
      clear g0 g1 gf
      have hb15 := hid (below_set (below_set hb13.out hB8.out 0 (.int .i64 er)) hB8.out 1 (.int .i64 q'))
      refine hK _ _ (.of hb15.out) ?_
      clear hK K
      replace K8 : Hid (Blk _ B8 44 #[.int .i64 er, .int .i64 q']) := hid ((K8.out.set 0 (.int .i64 er)).set 1 (.int .i64 q'))
      generalize (W6.setCell ⟨B8, 0, none⟩ (.int .i64 er)).setCell ⟨B8, 1, none⟩ (.int .i64 q') = W7 at *
      apply p_done
      intro W8 hb8
      replace hb15 := hid (bnext hb15.out hb8)
      replace K8 := hid (K8.out.low hb8)
      have HR8 := hid (HR2.out.low hb15.out)
      have HB8 := hid (HB2.out.low hb15.out)
      have HU8 := hid (HU2.out.low hb15.out)
      clear hb8 hb13
      clear c0' c1'
      obtain ⟨g0, g1, gf⟩ := K8.out.c2
      have c0' := HR8.out.c0
      have c1' := HR8.out.c1
      go_wp2_with fail
      refine ext_tailB 10 (by kernel_rfl) (by kernel_rfl) ?_
      simp only [List.take_succ_cons, List.take_zero, List.drop_succ_cons, List.drop_zero]
      repeat (refine bq_step (fun K hK => ?_); go_simp; (refine ⟨hK _ ?_⟩; clear hK K))
      refine bq_nil ?_
      rintro _ ⟨y, rfl⟩
      have HRy := hid (HR8.out.low y.h)
      have HBy := hid (HB8.out.low y.h)
      have hF := hid (fail_new HRy.out er ((p1 : Int) + q'))
      go_wp2_with (go_at_call 38; (with_reducible refine Calls.mono hF.out ?_); rintro e w4 ⟨rfl, hR4, hB4⟩; have HR4 := hid hR4; have HB4 := hid hB4; clear hR4 hB4)
      go_ret
      exact ⟨_, rfl, by rw [hE.out]; exact ⟨rfl, ⟨_, HR4.out⟩, two_mono (HBy.out.trans HB4.out)⟩⟩
     ·apply p_one
      case hi => rfl
      intro W4 hb4 K hK
      go_wp2_with fail
      refine hK _ _ (.of (hb4.alloc hb4.size _)) ?_
      clear hK K
      have hb13 := hid (hb4.alloc hb4.size (.cells #[.int .i64 0, .int .i64 0] 44))
      have K8 := hid (Blk.new W4 44 #[.int .i64 0, .int .i64 0])
      have hB8 : Hid (W1.heap.size ≤ W4.heap.size) := hid hb4.size
      clear hb4
      generalize W4.alloc (.cells #[.int .i64 0, .int .i64 0] 44) = W5 at *
      generalize W4.heap.size = B8 at *
      apply p_one
      case hi => rfl
      intro W2 hb2 K hK
      go_wp2_with (go_at_call 75; (with_reducible refine Calls.mono (hP.out _) ?_); rintro e w3 ⟨rfl, hb3⟩)
      replace K8 := hid ((K8.out.low hb2).low hb3)
      replace hb13 := hid (bnext hb13.out (bnext hb2 hb3))
      clear hb2 hb3
      refine hK _ _ (.of hb13.out) ?_
      clear hK K
      repeat (apply p_quiet; (case hi => rfl); intro K hK; go_simp; (refine ⟨hK _ ?_⟩; clear hK K))
      apply p_one
      case hi => rfl
      intro W6 hb6 K hK
      replace K8 := hid (K8.out.low hb6)
      replace hb13 := hid (bnext hb13.out hb6)
      obtain ⟨g0, g1, gf⟩ := K8.out.c2
      go_wp2_with fail
      clear g0 g1 gf
      have hb15 := hid (below_set (below_set hb13.out hB8.out 0 (.int .i64 er)) hB8.out 1 (.int .i64 q'))
      refine hK _ _ (.of hb15.out) ?_
      clear hK K
      replace K8 : Hid (Blk _ B8 44 #[.int .i64 er, .int .i64 q']) := hid ((K8.out.set 0 (.int .i64 er)).set 1 (.int .i64 q'))
      generalize (W6.setCell ⟨B8, 0, none⟩ (.int .i64 er)).setCell ⟨B8, 1, none⟩ (.int .i64 q') = W7 at *
      apply p_done
      intro W8 hb8
      replace hb15 := hid (bnext hb15.out hb8)
      replace K8 := hid (K8.out.low hb8)
      have HR8 := hid (HR2.out.low hb15.out)
      have HB8 := hid (HB2.out.low hb15.out)
      have HU8 := hid (HU2.out.low hb15.out)
      clear hb8 hb13
      clear c0' c1'
      obtain ⟨g0, g1, gf⟩ := K8.out.c2
      have c0' := HR8.out.c0
      have c1' := HR8.out.c1
      go_wp2_with fail
      refine ext_tailB 10 (by kernel_rfl) (by kernel_rfl) ?_
      simp only [List.take_succ_cons, List.take_zero, List.drop_succ_cons, List.drop_zero]
      repeat (refine bq_step (fun K hK => ?_); go_simp; (refine ⟨hK _ ?_⟩; clear hK K))
      refine bq_nil ?_
      rintro _ ⟨y, rfl⟩
      have HRy := hid (HR8.out.low y.h)
      have HBy := hid (HB8.out.low y.h)
      have hF := hid (fail_new HRy.out er ((p1 : Int) + q'))
      go_wp2_with (go_at_call 38; (with_reducible refine Calls.mono hF.out ?_); rintro e w4 ⟨rfl, hR4, hB4⟩; have HR4 := hid hR4; have HB4 := hid hB4; clear hR4 hB4)
      go_ret
      exact ⟨_, rfl, by rw [hE.out]; exact ⟨rfl, ⟨_, HR4.out⟩, two_mono (HBy.out.trans HB4.out)⟩⟩
end Go.Proofs.YtieifhfgedoiaaaGreatDoor
/- A rule's line. Conditions: those of each theorem. -/
namespace Go.Proofs.YtieifhfgedoiaaaGreatDoor
open Go.RowKit Go.Lib
open Go.ChangeMaps
set_option linter.unusedVariables false
set_option linter.unusedSimpArgs false
attribute [local go_sem] ExtS.cell ExtS.froz upE_value upE_skip upE_enter Ext.cell Ext.froz
structure RlV where
 l : Value
 r : Value
 b : Value
 p : Value
def Rl.cells (u : Rl) (V : RlV) : List Value := [.string u.line, V.l, V.r, V.b, .bool u.begins, .bool u.ends, V.p]
structure RlOk (w : World) (base : Nat) (u : Rl) (V : RlV) : Prop where
 l : w.ownsRow base 146 4 V.l u.left.length (flatE Item.cells u.left)
 r : w.ownsRow base 146 4 V.r u.right.length (flatE Item.cells u.right)
 b : w.ownsRow base 110 3 V.b u.body.length (flatE One.cells u.body)
 p : w.ownsRow base 60 3 V.p u.phones.length (flatE Ph.cells u.phones)
theorem RlOk.low {w w' : World} {base : Nat} {u : Rl} {V : RlV} (h : RlOk w base u V) (hb : Below w.heap.size w w') : RlOk w' base u V := ⟨own_low h.l hb, own_low h.r hb, own_low h.b hb, own_low h.p hb⟩
theorem own_butT {w w' : World} {base n size : Nat} {e : TypeId} {v : Value} {xs : List Value} {S : List Nat} (h : w.ownsRow base e size v n xs) (hb : ButS S w w') (hS : ∀ B ∈ S, ∃ t a, t ≠ e ∧ Blk w B t a) : w'.ownsRow base e size v n xs := by
 refine ⟨h.1, ?_⟩
 rcases h.2 with hh | ⟨g, cap, cur, h1, h2, h3, h4⟩
 ·exact .inl hh
 ·refine .inr ⟨g, cap, cur, h1, h2, (hb.block g (Array.getElem?_eq_some_iff.1 h3).1 fun hg => ?_).trans h3, h4⟩
  obtain ⟨t, a, ht, hB⟩ := hS g hg
  exact own_ne h (v := v) (by rw [h1]; rfl) hB ht rfl
theorem Cls.butT {w w' : World} {X : Nat} {said : Nat → Bool} {S : List Nat} (h : Cls w X said) (hb : ButS S w w') (hS : ∀ B ∈ S, ∃ t a, t ≠ 65 ∧ Blk w B t a) : Cls w' X said := by
 obtain ⟨mc, ml, v, n, f, h1, h2, h3⟩ := h
 refine ⟨mc, ml, v, n, f, hb.blk h1 (fun hX => ?_), h2.but hb (fun hm => ?_), h3⟩
 ·obtain ⟨t, a, ht, hB⟩ := hS X hX
  exact blk_ne h1 hB (Ne.symm ht) rfl
 ·obtain ⟨t, a, ht, hB⟩ := hS mc hm
  exact mapF_ne h2 hB rfl
theorem items_ok {w : World} {R X : Nat} {s : ByteArray} {p1 q : Nat} {said : Nat → Bool} {l : List Item} (h : Rd w R s p1 0 0) (hC : Cls w X said) (hs : s.size ≤ 140737488355328) (hp : p1 ≤ 140737488355329) (hr : itemsR said s p1 [] = .ok l q) :
  Calls Tryz.prog 57 #[.pointer (some ⟨X, 0, none⟩), .pointer (some ⟨R, 0, none⟩)] w fun x w' => ∃ p n c, x = .returned (.tuple #[.slice p n c, .bool true]) ∧ w'.ownsRow w.heap.size 146 4 (.slice p n c) l.length (flatE Item.cells l) ∧ Rd w' R s q 0 0 ∧ ButS [R] w w' := by
 refine (items_any h hC hs hp).mono ?_
 rintro e w' ⟨v, b, rfl, hP⟩
 rw [hr] at hP
 obtain ⟨rfl, h1, h2, h3, _⟩ := hP
 obtain ⟨pp, cap, rfl⟩ := own_shape h1
 exact ⟨_, _, _, rfl, h1, h2, h3⟩
theorem items_bad {w : World} {R X : Nat} {s : ByteArray} {p1 q : Nat} {said : Nat → Bool} {er : Int} (h : Rd w R s p1 0 0) (hC : Cls w X said) (hs : s.size ≤ 140737488355328) (hp : p1 ≤ 140737488355329) (hr : itemsR said s p1 [] = .bad er q) :
  Calls Tryz.prog 57 #[.pointer (some ⟨X, 0, none⟩), .pointer (some ⟨R, 0, none⟩)] w fun x w' => x = .returned (.tuple #[.slice none 0 0, .bool false]) ∧ (∃ p, Rd w' R s p er q) ∧ ButS [R] w w' := by
 refine (items_any h hC hs hp).mono ?_
 rintro e w' ⟨v, b, rfl, hP⟩
 rw [hr] at hP
 obtain ⟨rfl, rfl, h2, h3⟩ := hP
 exact ⟨rfl, h2, h3⟩
theorem body_ok {w : World} {R : Nat} {s : ByteArray} {p1 q : Nat} {l : List One} (h : Rd w R s p1 0 0) (hs : s.size ≤ 140737488355328) (hp : p1 ≤ 140737488355328) (hr : bodyR s p1 = .ok l q) :
  Calls Tryz.prog 58 #[.pointer (some ⟨R, 0, none⟩)] w fun x w' => ∃ p n c, x = .returned (.tuple #[.slice p n c, .bool true]) ∧ w'.ownsRow w.heap.size 110 3 (.slice p n c) l.length (flatE One.cells l) ∧ Rd w' R s q 0 0 ∧ ButS [R] w w' := by
 refine (body_any h hs hp).mono ?_
 rintro e w' ⟨v, b, rfl, hP⟩
 rw [hr] at hP
 obtain ⟨rfl, h1, h2, h3, _⟩ := hP
 obtain ⟨pp, cap, rfl⟩ := own_shape h1
 exact ⟨_, _, _, rfl, h1, h2, h3⟩
theorem body_bad {w : World} {R : Nat} {s : ByteArray} {p1 q : Nat} {er : Int} (h : Rd w R s p1 0 0) (hs : s.size ≤ 140737488355328) (hp : p1 ≤ 140737488355328) (hr : bodyR s p1 = .bad er q) :
  Calls Tryz.prog 58 #[.pointer (some ⟨R, 0, none⟩)] w fun x w' => x = .returned (.tuple #[.slice none 0 0, .bool false]) ∧ (∃ p, Rd w' R s p er q) ∧ ButS [R] w w' := by
 refine (body_any h hs hp).mono ?_
 rintro e w' ⟨v, b, rfl, hP⟩
 rw [hr] at hP
 obtain ⟨rfl, rfl, h2, h3⟩ := hP
 exact ⟨rfl, h2, h3⟩
theorem says_ok {w : World} {R U X : Nat} {s : ByteArray} {p q : Nat} {c0 c1 c2 c3 c4 c5 : Value} {l : List Ph} (h : Rd w R s p 0 0) (hU : Blk w U 86 #[c0, c1, c2, c3, c4, c5, .slice none 0 0]) (hp : p ≤ s.size) (hs : s.size ≤ 100000000) (hr : saysR s p = .ok l q) :
  Calls Tryz.prog 59 #[.pointer (some ⟨X, 0, none⟩), .pointer (some ⟨R, 0, none⟩), .pointer (some ⟨U, 0, none⟩)] w fun e w' => e = .returned (.bool true) ∧ (∃ p, Rd w' R s p 0 0) ∧ (∃ v, Blk w' U 86 #[c0, c1, c2, c3, c4, c5, v] ∧ w'.ownsRow w.heap.size 60 3 v l.length (flatE Ph.cells l)) ∧ ButS [R, U] w w' := by
 refine (phones_any (X := X) h hU hp hs).mono ?_
 rintro e w' ⟨b, rfl, hP⟩
 rw [hr] at hP
 obtain ⟨rfl, h1, h2, h3⟩ := hP
 exact ⟨rfl, h1, h2, h3⟩
theorem says_bad {w : World} {R U X : Nat} {s : ByteArray} {p q : Nat} {c0 c1 c2 c3 c4 c5 : Value} {er : Int} (h : Rd w R s p 0 0) (hU : Blk w U 86 #[c0, c1, c2, c3, c4, c5, .slice none 0 0]) (hp : p ≤ s.size) (hs : s.size ≤ 100000000) (hr : saysR s p = .bad er q) :
  Calls Tryz.prog 59 #[.pointer (some ⟨X, 0, none⟩), .pointer (some ⟨R, 0, none⟩), .pointer (some ⟨U, 0, none⟩)] w fun e w' => e = .returned (.bool false) ∧ (∃ p, Rd w' R s p er q) ∧ ButS [R, U] w w' := by
 refine (phones_any (X := X) h hU hp hs).mono ?_
 rintro e w' ⟨b, rfl, hP⟩
 rw [hr] at hP
 obtain ⟨rfl, h1, h3⟩ := hP
 exact ⟨rfl, h1, h3⟩
def PartsPost (w w' : World) (R U : Nat) (s : ByteArray) (r : Res Rl) (b : Bool) : Prop :=
 match r with
 | .ok u q => b = true ∧ (∃ p, Rd w' R s p 0 0) ∧ (∃ V, Blk w' U 86 (u.cells V).toArray ∧ RlOk w' w.heap.size u V) ∧ ButS [R, U] w w'
 | .bad e q => b = false ∧ (∃ p, Rd w' R s p e q) ∧ ButS [R, U] w w'
theorem itemsR_le {said : Nat → Bool} {s : ByteArray} : ∀ (k p : Nat) (acc l : List Item) (q : Nat), s.size - p = k → itemsR said s p acc = .ok l q → p ≤ s.size → q ≤ s.size := by
 intro k
 induction k using Nat.strongRecOn with
 | ind k ih =>
  intro p acc l q hk h hp
  cases hn : nameB s p
  ·cases hl : plB s p
   ·rw [itemsR_end hn hl] at h; injection h with _ h; omega
   ·have hw := wdN_pos (plB_lt hl)
    by_cases h64 : acc.length = 64
    ·rw [itemsR_long hn hl h64] at h; cases h
    ·rw [itemsR_more hn hl h64] at h
     exact ih _ (by have := plB_lt hl; omega) _ _ _ _ rfl h hw.2.2
  ·have hlt := (of_decide_eq_true hn).1
   cases hs : said (byteN s p - 65)
   ·rw [itemsR_unsaid hn hs] at h; cases h
   ·by_cases h64 : acc.length = 64
    ·rw [itemsR_nlong hn hs h64] at h; cases h
    ·rw [itemsR_name hn hs h64] at h
     exact ih _ (by omega) _ _ _ _ rfl h (by omega)
theorem piecesR_le {s : ByteArray} : ∀ (k p : Nat) (acc l : List One) (q : Nat), s.size - p = k → piecesR s p acc = .ok l q → p ≤ s.size → q ≤ s.size := by
 intro k
 induction k using Nat.strongRecOn with
 | ind k ih =>
  intro p acc l q hk h hp
  cases hl : plB s p
  ·rw [piecesR_no hl] at h
   split at h
   ·cases h
   ·injection h with _ h; omega
  ·have hw := wdN_pos (plB_lt hl)
   by_cases h64 : acc.length = 64
   ·rw [piecesR_long hl h64] at h; cases h
   ·rw [piecesR_more hl h64] at h
    exact ih _ (by have := plB_lt hl; omega) _ _ _ _ rfl h hw.2.2
theorem isB_lt {s : ByteArray} {p c : Nat} (h : isB s p c = true) : p < s.size := (of_decide_eq_true h).1
theorem bodyR_le {s : ByteArray} {p q : Nat} {l : List One} (h : bodyR s p = .ok l q) : q ≤ s.size := by
 unfold bodyR at h
 cases hb : isB s p 40
 ·rw [mustR_no hb] at h; cases h
 ·rw [mustR_yes hb] at h
  change (piecesR s (p + 1) []).bind _ = _ at h
  cases hp : piecesR s (p + 1) [] with
  | bad e q => rw [hp] at h; cases h
  | ok l' q' =>
   rw [hp] at h
   change (mustR s q' 41).bind _ = _ at h
   cases hc : isB s q' 41
   ·rw [mustR_no hc] at h; cases h
   ·rw [mustR_yes hc] at h
    have := isB_lt hc
    injection h with _ h
    omega
theorem hashR_le {s : ByteArray} {p : Nat} (hp : p ≤ s.size) : (hashR s p).2 ≤ s.size := by
 unfold hashR
 cases hb : isB s p 35
 ·exact hp
 ·exact isB_lt hb
def endR (s : ByteArray) (p : Nat) : Res (List Ph) := (mustL s [32, 62] (hashR s p).2).bind fun _ q => saysR s q
theorem partsR_eq (said : Nat → Bool) (s : ByteArray) : partsR said s = (itemsR said s (hashR s 0).2 []).bind fun l p => (bodyR s p).bind fun u p => (itemsR said s p []).bind fun r p => (endR s p).bind fun x q => .ok ⟨s, (hashR s 0).1, l, u, r, (hashR s p).1, x⟩ q := by
 unfold partsR endR
 congr 1; funext l p; congr 1; funext u p; congr 1; funext r p
 simp only [mustL]
 cases h1 : isB s (hashR s p).2 32
 ·have e : isB s (hashR s p).2 (32 : UInt8).toNat = false := h1
  rw [mustR_no h1, mustR_no e]; rfl
 ·have e : isB s (hashR s p).2 (32 : UInt8).toNat = true := h1
  rw [mustR_yes h1, mustR_yes e]
  show (mustR s _ 62).bind _ = (((mustR s _ (62 : UInt8).toNat).bind _).bind _).bind _
  cases h2 : isB s ((hashR s p).2 + 1) 62
  ·have e : isB s ((hashR s p).2 + 1) (62 : UInt8).toNat = false := h2
   rw [mustR_no h2, mustR_no e]; rfl
  ·have e : isB s ((hashR s p).2 + 1) (62 : UInt8).toNat = true := h2
   rw [mustR_yes h2, mustR_yes e]
   show (saysR s _).bind _ = (Res.bind (Res.bind (Res.ok () _) _) _).bind _
   rfl
end Go.Proofs.YtieifhfgedoiaaaGreatDoor
