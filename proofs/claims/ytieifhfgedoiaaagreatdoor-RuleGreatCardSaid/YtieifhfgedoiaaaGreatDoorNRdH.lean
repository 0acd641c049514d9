/- A left, or a right: the items of a context. Conditions: those of each theorem. -/
import Derived.Test.YtieifhfgedoiaaaGreatDoorNSpB
import Derived.Test.YtieifhfgedoiaaaGreatDoorNMm
namespace Go.Proofs.YtieifhfgedoiaaaGreatDoor
open Go.RowKit Go.Lib
set_option linter.unusedVariables false
set_option linter.unusedSimpArgs false
attribute [local go_sem] ExtS.cell ExtS.froz upE_value upE_skip upE_enter
def Cls (w : World) (X : Nat) (said : Nat → Bool) : Prop :=
 ∃ (mc : Nat) (ml : Value) (v : Value) (n : Nat) (f : Value → Option Value), Blk w X 65 #[.map (some mc), ml, v] ∧ MapF KB w mc n f ∧ ∀ c : Nat, 65 ≤ c → c ≤ 90 → (f (.int .u8 c)).isSome = said (c - 65)
theorem Cls.low {w w' : World} {X : Nat} {said : Nat → Bool} (h : Cls w X said) (hb : Below w.heap.size w w') : Cls w' X said := by
 obtain ⟨mc, ml, v, n, f, h1, h2, h3⟩ := h
 exact ⟨mc, ml, v, n, f, h1.low hb, h2.low hb, h3⟩
theorem blk_ne {w : World} {A B : Nat} {t u : TypeId} {a b : Array Value} (h : Blk w A t a) (k : Blk w B u b) (hn : t ≠ u) : A ≠ B := by
 rintro rfl
 unfold Blk at h k
 rw [h] at k
 injection k with k
 injection k with k1 k2
 exact hn k2
theorem mapF_ne {w : World} {A B : Nat} {u : TypeId} {b : Array Value} {KS : Value → Prop} {n : Nat} {f : Value → Option Value} (h : MapF KS w A n f) (k : Blk w B u b) : A ≠ B := by
 rintro rfl
 obtain ⟨es, c, hb, _⟩ := h
 unfold Blk at k
 rw [hb] at k
 cases k
theorem Cls.but {w w' : World} {X R : Nat} {said : Nat → Bool} {s : ByteArray} {p : Nat} {e q : Int} (h : Cls w X said) (hR : Rd w R s p e q) (hb : ButS [R] w w') : Cls w' X said := by
 obtain ⟨mc, ml, v, n, f, h1, h2, h3⟩ := h
 exact ⟨mc, ml, v, n, f, hb.blk h1 (by rw [List.mem_singleton]; exact blk_ne h1 hR.b (by decide)), h2.but hb (by rw [List.mem_singleton]; exact mapF_ne h2 hR.b), h3⟩
section
variable {said : Nat → Bool} {s : ByteArray} {p : Nat} {l : List Item}
theorem itemsR_end (h : nameB s p = false) (h' : plB s p = false) : itemsR said s p l = .ok l p := by
 rw [itemsR, dif_neg (by rw [h]; simp), dif_neg (by rw [h']; simp)]
theorem itemsR_more (h : nameB s p = false) (h' : plB s p = true) (hl : l.length ≠ 64) : itemsR said s p l = itemsR said s (p + wdN s p) (l ++ [⟨0, oneAt s p⟩]) := by
 rw [itemsR, dif_neg (by rw [h]; simp), dif_pos h', if_neg hl]
theorem itemsR_long (h : nameB s p = false) (h' : plB s p = true) (hl : l.length = 64) : itemsR said s p l = .bad 3 p := by
 rw [itemsR, dif_neg (by rw [h]; simp), dif_pos h', if_pos hl]
theorem itemsR_unsaid (h : nameB s p = true) (h' : said (byteN s p - 65) = false) : itemsR said s p l = .bad 92 p := by
 rw [itemsR, dif_pos h, if_pos h']
theorem itemsR_nlong (h : nameB s p = true) (h' : said (byteN s p - 65) = true) (hl : l.length = 64) : itemsR said s p l = .bad 3 p := by
 rw [itemsR, dif_pos h, if_neg (by rw [h']; simp), if_pos hl]
theorem itemsR_name (h : nameB s p = true) (h' : said (byteN s p - 65) = true) (hl : l.length ≠ 64) : itemsR said s p l = itemsR said s (p + 1) (l ++ [⟨byteN s p, One.none⟩]) := by
 rw [itemsR, dif_pos h, if_neg (by rw [h']; simp), if_neg hl]
end
theorem kind_great (r : Int) (h1 : 65 ≤ r) (h2 : r ≤ 90) : lowI r ≠ r := by
 have hg : GreatP r := .inl ⟨h1, h2⟩
 unfold lowI
 rw [if_neg (by simpa using hg), if_neg (by omega), if_neg (by omega), if_neg (by omega), if_neg (by omega), if_neg (by omega), if_neg (by omega), if_neg (by omega), if_pos (by omega)]
 omega
theorem name_pl {s : ByteArray} {p : Nat} (h : nameB s p = true) : plB s p = false := by
 obtain ⟨hp, h1, h2⟩ := of_decide_eq_true h
 have hd := dec_ascii hp (by omega)
 unfold plB
 refine decide_eq_false fun hh => ?_
 rcases hh.2 with h3 | h3
 ·unfold isBr brB rnN wdN at h3
  rw [hd] at h3
  have := of_decide_eq_true h3
  omega
 ·unfold rnN at h3
  rw [hd] at h3
  have := (of_decide_eq_true h3).2
  exact kind_great _ (by show (65 : Int) ≤ ((s.get! p).toNat : Nat); omega) (by show (((s.get! p).toNat : Nat) : Int) ≤ 90; omega) this
theorem zero132 (w : World) : (zeroValue 106).run Tryz.prog w = .ok (.map none) w := by kernel_rfl
theorem get_eqN (s : ByteArray) (p : Nat) (hp : p < s.size) : byteN s p = (s[p]).toNat := by unfold byteN; rw [get_eq s p hp]
theorem blk_new2 {w w' : World} {o : Obj} {T : TypeId} {c : Array Value} (hb : Below ((w.alloc o).alloc (.cells c T)).heap.size ((w.alloc o).alloc (.cells c T)) w') : Blk w' (w.heap.size + 1) T c ∧ Below w.heap.size w w' := by
 have h1 := (Blk.new (w.alloc o) T c).low hb
 rw [World.size_alloc] at h1
 refine ⟨h1, (((Below.refl w.heap.size w).alloc (Nat.le_refl _) o).alloc (by simp) _).trans (hb.mono (by simp; omega))⟩
theorem ButS.setNew {S : List Nat} {a b : World} (h : ButS S a b) {B : Nat} (hn : a.heap.size ≤ B) (k : Nat) (u : Value) : ButS S a (b.setCell ⟨B, k, none⟩ u) :=
 ⟨h.os, h.tape, h.output, by simpa [World.setCell] using h.size, fun i hi hS => (Below.heap_setCell _ _ _ _ (by show i ≠ B; omega)).trans (h.block i hi hS)⟩
theorem own_other {w : World} {base : Nat} {e : TypeId} {size n : Nat} {v : Value} {xs : List Value} (h : w.ownsRow base e size v n xs) {B : Nat} (hB : ∀ g, v.ownBlock = some g → g ≠ B) (k : Nat) (u : Value) : (w.setCell ⟨B, k, none⟩ u).ownsRow base e size v n xs := by
 refine ⟨h.1, ?_⟩
 rcases h.2 with hh | ⟨g, cap, cur, h1, h2, h3, h4⟩
 ·exact .inl hh
 ·refine .inr ⟨g, cap, cur, h1, h2, (Below.heap_setCell w ⟨B, k, none⟩ u g (hB g (by rw [h1]; rfl))).trans h3, h4⟩
set_option maxRecDepth 100000 in
set_option maxHeartbeats 4000000 in
theorem items_any {w : World} {R X : Nat} {s : ByteArray} {p1 : Nat} {said : Nat → Bool} (h : Rd w R s p1 0 0) (hC : Cls w X said) (hs : s.size ≤ 140737488355328) (hp : p1 ≤ 140737488355329) :
  Calls Tryz.prog 57 #[.pointer (some ⟨X, 0, none⟩), .pointer (some ⟨R, 0, none⟩)] w fun x w' => ∃ v b, x = .returned (.tuple #[v, .bool b]) ∧ RowPost w w' R s 146 4 Item.cells (itemsR said s p1 []) v b := by
 obtain ⟨i0, hi, hz0, hz1, hz2⟩ := info_parts info117
 have hlt := h.lt
 have hH := hid h
 have HC := hid (fun w' (hb : ButS [R] w w') => hC.but h hb)
 clear h hC
 go_enter Tryz.func57, Tryz.ntmps57
 go_wp2_with fail
 go_loopw [6] (fun v wr => ∃ (q : Nat) (l : List Item), Hid (Rd wr R s q 0 0) ∧ Hid (ButS [R] w wr) ∧ Hid (wr.ownsRow w.heap.size 146 4 v l.length (flatE Item.cells l)) ∧ l.length ≤ 64 ∧ q ≤ s.size + 1 + p1 ∧ Hid (itemsR said s p1 [] = itemsR said s q l)) (fun v _ => match v with | .slice _ n _ => 65 - n | _ => 0)
 case atStart => exact ⟨p1, [], hH, ButS.refl _ _, World.ownsRow_nil _ _ _ _, Nat.zero_le _, by omega, rfl⟩
 case round =>
  obtain ⟨q, l, hR, hB, hO, hl, hq, hS⟩ := hrel
  obtain ⟨pp, cap, rfl⟩ := own_shape hO.out
  obtain ⟨n, hn⟩ : ∃ n, l.length = n := ⟨_, rfl⟩
  rw [hn] at hO hl
  rw [hn]
  replace hn := hid hn
  have hP := hid (plain_any hR.out hs)
  cases hnm : nameB s q
  ·have hN := hid (fun w' (h : Rd w' R s q 0 0) => name_any h)
   rw [hnm] at hN
   cases hpl : plB s q
   ·obtain ⟨e1, e2⟩ := plU_no hpl
    simp only [e1, e2] at hP
    simp only [One.val, One.none] at hP
    have hE : Hid (itemsR said s p1 [] = .ok l q) := by rw [hS.out, itemsR_end hnm hpl]; exact hid rfl
    clear e1 e2 hpl hnm
    go_wp2_with (first | (go_at_call 40; (with_reducible refine Calls.mono hP.out ?_); rintro e w2 ⟨rfl, hb2⟩; have HR2 := hid (hR.out.low hb2); have HB2 := hid (hB.out.low hb2); have HO2 := hid (own_low hO.out hb2); clear hP hb2; have hN2 := hid (fun o1 o2 => hN.out _ ((HR2.out.alloc o1).alloc o2))) | (go_at_call 24; (with_reducible refine Calls.mono (hN2.out _ _) ?_); rintro e w3 ⟨rfl, hb3⟩; have HR3 := hid (((HR2.out.alloc _).alloc _).low hb3); have HB3 := hid (((HB2.out.alloc _).alloc _).low hb3); have HO3 := hid (own_low ((HO2.out.alloc _).alloc _) hb3); have c0 := HR3.out.c0; have c1 := HR3.out.c1; have fr := HR3.out.fr; clear hN hN2 hb3))
    exact bodyPost_ret (v := .tuple #[.slice pp n cap, .bool true]) (by simp [results, Tryz.results57, go_sem]) rfl ⟨_, _, rfl, by rw [hE.out]; exact ⟨rfl, by rw [hn.out]; exact HO3.out, HR3.out, HB3.out, by rw [hn.out]; exact hl⟩⟩
   ·obtain ⟨e1, e2⟩ := plU_yes hpl
    simp only [e1, e2] at hP
    obtain ⟨ur, ub, uc, hu⟩ : ∃ ur ub uc, oneAt s q = ⟨ur, ub, uc⟩ := ⟨_, _, _, rfl⟩
    have hwd := wdN_pos (plB_lt hpl)
    have hqs := plB_lt hpl
    simp only [hu] at hP
    simp only [One.val] at hP
    clear e1 e2
    have tw : ((wdN s q : Int) == 0) = false := beq_false_of (by omega)
    by_cases h64 : n = 64
    ·subst h64
     have hE : Hid (itemsR said s p1 [] = .bad 3 q) := by rw [hS.out, itemsR_long hnm hpl hn.out]; exact hid rfl
     clear hpl hu hwd hqs hnm
     go_wp2_with (first | (go_at_call 40; (with_reducible refine Calls.mono hP.out ?_); rintro e w2 ⟨rfl, hb2⟩; have HR2 := hid (hR.out.low hb2); have HB2 := hid (hB.out.low hb2); have HO2 := hid (own_low hO.out hb2); clear hP hb2; have hN2 := hid (fun o1 o2 => hN.out _ ((HR2.out.alloc o1).alloc o2))) | (go_at_call 24; (with_reducible refine Calls.mono (hN2.out _ _) ?_); rintro e w3 ⟨rfl, hb3⟩; have HR3 := hid (((HR2.out.alloc _).alloc _).low hb3); have HB3 := hid (((HB2.out.alloc _).alloc _).low hb3); have HO3 := hid (own_low ((HO2.out.alloc _).alloc _) hb3); have c0 := HR3.out.c0; have c1 := HR3.out.c1; have fr := HR3.out.fr; clear hN hN2 hb3; have hF := hid (fail_new HR3.out 3 q)) | (go_at_call 38; (with_reducible refine Calls.mono hF.out ?_); rintro e w4 ⟨rfl, hR4, hB4⟩; have HR4 := hid hR4; have HB4 := hid hB4; clear hR4 hB4))
     exact bodyPost_ret (v := .tuple #[.slice none 0 0, .bool false]) (by simp [results, Tryz.results57, go_sem]) rfl ⟨_, _, rfl, by rw [hE.out]; exact ⟨rfl, rfl, ⟨_, HR4.out⟩, HB3.out.trans HB4.out⟩⟩
    ·have t1 : ((n : Int) == 64) = false := beq_false_of (by omega)
     have l64 : n < 64 := by omega
     clear h64
     have hE : Hid (itemsR said s p1 [] = itemsR said s (q + wdN s q) (l ++ [⟨0, ⟨ur, ub, uc⟩⟩])) := by rw [hS.out, itemsR_more hnm hpl (by rw [hn.out]; omega), hu]; exact hid rfl
     have hw1 : IntKind.i64.wrap ((q : Int) + wdN s q) = (q : Int) + wdN s q := Wi64 (by omega)
     have hq2 : q + wdN s q ≤ s.size := hwd.2.2
     obtain ⟨z, hz⟩ : ∃ z, wdN s q = z := ⟨_, rfl⟩
     simp only [hz] at hE tw hw1 hq2 hP
     clear hpl hu hwd hz hnm
     go_wp2_with (first | (go_at_call 40; (with_reducible refine Calls.mono hP.out ?_); rintro e w2 ⟨rfl, hb2⟩; have HR2 := hid (hR.out.low hb2); have HB2 := hid (hB.out.low hb2); have HO2 := hid (own_low hO.out hb2); clear hP hb2; have hN2 := hid (fun o1 o2 => hN.out _ ((HR2.out.alloc o1).alloc o2))) | (go_at_call 24; (with_reducible refine Calls.mono (hN2.out _ _) ?_); rintro e w3 ⟨rfl, hb3⟩; have HR3 := hid (((HR2.out.alloc _).alloc _).low hb3); have HB3 := hid (((HB2.out.alloc _).alloc _).low hb3); have HO3 := hid (own_low ((HO2.out.alloc _).alloc _) hb3); obtain ⟨k3, hb3'⟩ := blk_new2 hb3; obtain ⟨d0, d1, d2, d3, df⟩ := k3.c4; have hs3 := hid HB3.out.size; have c0 := HR3.out.c0; have c1 := HR3.out.c1; have fr := HR3.out.fr; clear hN hN2 hb3 hb3' k3) | (at_builtin; refine wpList_append_own _ rfl (.tmp 61) (.tmp 63) 84 rfl w.heap.size 146 i0 _ 4 12 Tryz.underlying84 hi hz0 hz1 hz2 rfl (by decide) _ _ _ rfl (HO3.out.alloc _) ⟨w3.heap.size, 0, none⟩ 1 1 [.int .u8 0, .int .i32 ur, .bool ub, .int .u8 uc] rfl rfl (cells_new4 _ _ _ _ _ _) (by simp [Value.oneCell']) (by unfold maxLen; omega) (by omega) (by have := hs3.out; simp <;> omega) ?_; refine stop_here ?_))
     refine hid ?_
     intro v' w5 hown' hgrow hnil
     have hO5 : Hid (w5.ownsRow w.heap.size 146 4 v' (n + 1) (flatE Item.cells (l ++ [⟨0, ⟨ur, ub, uc⟩⟩]))) := by rw [flatE_snoc]; exact hid hown'
     have hne : some R ≠ (Value.slice pp n cap).ownBlock := fun e => by have := (own_ge HO3.out e.symm).1; omega
     have HR5 := hid ((HR3.out.alloc _).kept hgrow hne)
     have HB5 := hid ((HB3.out.alloc _).grown hgrow (fun k hk => (own_ge HO3.out hk).1))
     clear hown' hgrow hnil c0 c1 fr hne d0 d1 d2 d3 df
     have c0 := HR5.out.c0
     have c1 := HR5.out.c1
     have fr := HR5.out.fr
     obtain ⟨pp5, cap5, rfl⟩ := own_shape hO5.out
     go_wp2_with fail
     go_roundw
     case rel => exact ⟨q + z, l ++ [⟨0, ⟨ur, ub, uc⟩⟩], HR5.out.go _, HB5.out.set (List.mem_singleton.2 rfl) 1 _, by rw [List.length_append, hn.out]; exact own_set hO5.out hlt 1 _, by rw [List.length_append, hn.out]; simp <;> omega, by omega, hE⟩
     case measure => simp <;> omega
  ·have hN := hid (fun w' (h : Rd w' R s q 0 0) => name_any h)
   rw [hnm] at hN
   obtain ⟨e1, e2⟩ := plU_no (name_pl hnm)
   simp only [e1, e2] at hP
   simp only [One.val, One.none] at hP
   obtain ⟨hqs, hb1, hb9⟩ := of_decide_eq_true hnm
   have hcb := get_eqN s q hqs
   have hIb := hid hcb
   have hcl := hid hb1
   have hch := hid hb9
   clear e1 e2 hb1 hb9 hcb
   have q1 := dT (show (q : Int) < s.size by omega)
   go_wp2_with (first | (go_at_call 40; (with_reducible refine Calls.mono hP.out ?_); rintro e w2 ⟨rfl, hb2⟩; have HR2 := hid (hR.out.low hb2); have HB2 := hid (hB.out.low hb2); have HO2 := hid (own_low hO.out hb2); clear hP hb2; have hN2 := hid (fun o1 o2 => hN.out _ ((HR2.out.alloc o1).alloc o2))) | (go_at_call 24; (with_reducible refine Calls.mono (hN2.out _ _) ?_); rintro e w3 ⟨rfl, hb3⟩; have HR3 := hid (((HR2.out.alloc _).alloc _).low hb3); have HB3 := hid (((HB2.out.alloc _).alloc _).low hb3); have HO3 := hid (own_low ((HO2.out.alloc _).alloc _) hb3); obtain ⟨k3, hb3'⟩ := blk_new2 hb3; have K3 := hid k3; have c0 := HR3.out.c0; have c1 := HR3.out.c1; have fr := HR3.out.fr; clear hN hN2 hb3 hb3' k3))
   have hs2 := hid (Nat.le_succ_of_le HB2.out.size)
   obtain ⟨B9, hB9⟩ : ∃ b, w2.heap.size + 1 = b := ⟨_, rfl⟩
   rw [hB9] at K3
   simp only [hB9]
   have nR : R ≠ B9 := blk_ne HR3.out.b K3.out (by decide)
   have hg9 : Hid (∀ g, (Value.slice pp n cap).ownBlock = some g → g ≠ B9) := hid (fun g hg => by have := (own_ge HO2.out hg).2; omega)
   have hwB : Hid (w.heap.size ≤ B9) := hid (hB9 ▸ hs2.out)
   clear hB9 hs2
   -- the name goes into the item
   refine region_plan [B9] (.quiet 0 (.quiet 1 (.quiet 2 (.quiet 3 (.quiet 4 (.quiet 5 (.quiet 6 (.quiet 7 (.quiet 8 (.quiet 9 (.one 10 (.quiet 11 .done)))))))))))) (by kernel_rfl) (by kernel_rfl) ?_
   repeat (apply p_quiet; (case hi => rfl); intro K hK; go_simp; (refine ⟨hK _ ?_⟩; clear hK K))
   apply p_one
   case hi => rfl
   intro W5 hb5 K hK
   replace K3 := hid (K3.out.low hb5)
   have HR5 := hid (HR3.out.low hb5)
   have HB5 := hid (HB3.out.low hb5)
   have HO5 := hid (own_low HO3.out hb5)
   clear c0 c1 fr
   obtain ⟨d0, d1, d2, d3, df⟩ := K3.out.c4
   go_wp2_with fail
   refine hK _ _ ((ButS.of hb5).set (List.mem_singleton.2 rfl) _ _) ?_
   clear hK K d0 d1 d2 d3 df
   replace K3 := hid (K3.out.set 0 (.int .u8 (s[q]).toNat))
   replace HR5 := hid (show Rd _ R s q 0 0 from ⟨HR5.out.b.other nR (B' := B9) (k := 0) (.int .u8 (s[q]).toNat)⟩)
   replace HB5 := hid (HB5.out.setNew hwB.out 0 (.int .u8 (s[q]).toNat))
   replace HO5 := hid (own_other HO5.out hg9.out 0 (.int .u8 (s[q]).toNat))
   generalize W5.setCell ⟨B9, 0, none⟩ (.int .u8 (s[q]).toNat) = W6 at *
   apply p_quiet
   case hi => rfl
   intro K hK
   go_simp
   refine ⟨hK _ ?_⟩
   clear hK K
   apply p_done
   intro W7 hb7
   replace K3 := hid ((K3.out.low hb7 : Blk W7 B9 146 #[.int .u8 (s[q]).toNat, .int .i32 0, .bool false, .int .u8 0]))
   replace HR5 := hid (HR5.out.low hb7)
   replace HB5 := hid (HB5.out.low hb7)
   replace HO5 := hid (own_low HO5.out hb7)
   clear hb7 hb5 HR3 HB3 HO3 HR2 HB2 HO2 hR hB hO
   have hIb2 : Hid (byteN s q = (s[q]).toNat) := hIb
   generalize (s[q]).toNat = c at *
   obtain ⟨mc, ml, xv, nc, f, xb, xm, xf⟩ := HC.out _ HB5.out
   have hsd := xf c (by have := hcl.out; have := hIb2.out; unfold byteN at *; omega) (by have := hch.out; have := hIb2.out; unfold byteN at *; omega)
   obtain ⟨sb, hsb⟩ : ∃ sb, said (c - 65) = sb := ⟨_, rfl⟩
   obtain ⟨mv, hmv⟩ : ∃ mv, (f (.int .u8 c)).getD (.map none) = mv := ⟨_, rfl⟩
   rw [hsb] at hsd
   have hL : ∀ x : ExtS [] W7, (Instr.lookup 61 (.map (some mc)) (.int .u8 c) true).run Tryz.prog x.w = .ok (.tuple #[mv, .bool sb]) x.w := fun x => by
    have := (xm.but x.h (by simp)).look keysB Tryz.underlying61 (zero132 x.w) (key := .int .u8 c) ⟨c, by have := hch.out; have := hIb2.out; unfold byteN at *; omega, rfl⟩ true
    rw [hmv, hsd] at this
    exact this
   have hSB := hid hsb
   have HX := hid xb
   clear hsd hmv hsb xm xf xb
   obtain ⟨x0, _, _, xfr⟩ := HX.out.c3
   obtain ⟨d0, d1, d2, d3, df⟩ := K3.out.c4
   go_wp2_with fail
   refine region_plan [] (.quiet 0 (.quiet 1 (.quiet 2 (.quiet 3 (.quiet 4 (.quiet 5 (.quiet 6 (.quiet 7 (.quiet 8 (.quiet 9 (.quiet 10 (.quiet 11 .done)))))))))))) (by kernel_rfl) (by kernel_rfl) ?_
   repeat (apply p_quiet; (case hi => rfl); intro K hK; go_simp; (refine ⟨hK _ ?_⟩; clear hK K))
   apply p_done
   intro W8 hb8
   clear hL d0 d1 d2 d3 df x0 xfr
   replace K3 := hid (K3.out.low hb8)
   replace HR5 := hid (HR5.out.low hb8)
   replace HB5 := hid (HB5.out.low hb8)
   replace HO5 := hid (own_low HO5.out hb8)
   clear hb8
   have c0 := HR5.out.c0
   have c1 := HR5.out.c1
   have fr := HR5.out.fr
   obtain ⟨d0, d1, d2, d3, df⟩ := K3.out.c4
   have hcu : Hid (said (byteN s q - 65) = sb) := by rw [hIb2.out]; exact hSB
   cases sb
   ·have hE : Hid (itemsR said s p1 [] = .bad 92 q) := by rw [hS.out, itemsR_unsaid hnm hcu.out]; exact hid rfl
    have hF := hid (fail_new HR5.out 92 q)
    clear hnm
    go_wp2_with (go_at_call 38; (with_reducible refine Calls.mono hF.out ?_); rintro e w4 ⟨rfl, hR4, hB4⟩; have HR4 := hid hR4; have HB4 := hid hB4; clear hR4 hB4)
    exact bodyPost_ret (v := .tuple #[.slice none 0 0, .bool false]) (by simp [results, Tryz.results57, go_sem]) rfl ⟨_, _, rfl, by rw [hE.out]; exact ⟨rfl, rfl, ⟨_, HR4.out⟩, HB5.out.trans HB4.out⟩⟩
   ·by_cases h64 : n = 64
    ·subst h64
     have hE : Hid (itemsR said s p1 [] = .bad 3 q) := by rw [hS.out, itemsR_nlong hnm hcu.out hn.out]; exact hid rfl
     have hF := hid (fail_new HR5.out 3 q)
     clear hnm
     go_wp2_with (go_at_call 38; (with_reducible refine Calls.mono hF.out ?_); rintro e w4 ⟨rfl, hR4, hB4⟩; have HR4 := hid hR4; have HB4 := hid hB4; clear hR4 hB4)
     exact bodyPost_ret (v := .tuple #[.slice none 0 0, .bool false]) (by simp [results, Tryz.results57, go_sem]) rfl ⟨_, _, rfl, by rw [hE.out]; exact ⟨rfl, rfl, ⟨_, HR4.out⟩, HB5.out.trans HB4.out⟩⟩
    ·have t1 : ((n : Int) == 64) = false := beq_false_of (by omega)
     have l64 : n < 64 := by omega
     clear h64
     have hE : Hid (itemsR said s p1 [] = itemsR said s (q + 1) (l ++ [⟨c, One.none⟩])) := by rw [hS.out, itemsR_name hnm hcu.out (by rw [hn.out]; omega), hIb2.out]; exact hid rfl
     have hw1 : IntKind.i64.wrap ((q : Int) + 1) = (q : Int) + 1 := Wi64 (by omega)
     have hs5 := hid HB5.out.size
     clear hnm
     go_wp2_with (at_builtin; refine wpList_append_own _ rfl (.tmp 61) (.tmp 63) 84 rfl w.heap.size 146 i0 _ 4 12 Tryz.underlying84 hi hz0 hz1 hz2 rfl (by decide) _ _ _ rfl (HO5.out.alloc _) ⟨W8.heap.size, 0, none⟩ 1 1 [.int .u8 c, .int .i32 0, .bool false, .int .u8 0] rfl rfl (cells_new4 _ _ _ _ _ _) (by simp [Value.oneCell']) (by unfold maxLen; omega) (by omega) (by have := hs5.out; simp <;> omega) ?_; refine stop_here ?_)
     refine hid ?_
     intro v' w5 hown' hgrow hnil
     have hO9 : Hid (w5.ownsRow w.heap.size 146 4 v' (n + 1) (flatE Item.cells (l ++ [⟨c, One.none⟩]))) := by rw [flatE_snoc]; exact hid hown'
     have hne : some R ≠ (Value.slice pp n cap).ownBlock := fun e => by have := (own_ge HO5.out e.symm).1; omega
     have HR9 := hid ((HR5.out.alloc _).kept hgrow hne)
     have HB9 := hid ((HB5.out.alloc _).grown hgrow (fun k hk => (own_ge HO5.out hk).1))
     clear hown' hgrow hnil c0 c1 fr hne d0 d1 d2 d3 df
     have c0 := HR9.out.c0
     have c1 := HR9.out.c1
     have fr := HR9.out.fr
     obtain ⟨pp5, cap5, rfl⟩ := own_shape hO9.out
     go_wp2_with fail
     go_roundw
     case rel => exact ⟨q + 1, l ++ [⟨c, One.none⟩], HR9.out.go _, HB9.out.set (List.mem_singleton.2 rfl) 1 _, by rw [List.length_append, hn.out]; exact own_set hO9.out hlt 1 _, by rw [List.length_append, hn.out]; simp <;> omega, by omega, hE⟩
     case measure => simp <;> omega
end Go.Proofs.YtieifhfgedoiaaaGreatDoor
