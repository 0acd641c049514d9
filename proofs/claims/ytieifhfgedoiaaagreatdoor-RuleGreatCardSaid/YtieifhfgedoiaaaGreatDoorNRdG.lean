/- A reader's body: plain pieces between brackets. Conditions: those of each theorem. -/
import Derived.Test.YtieifhfgedoiaaaGreatDoorNOw
namespace Go.Proofs.YtieifhfgedoiaaaGreatDoor
open Go.RowKit Go.Lib
set_option linter.unusedVariables false
set_option linter.unusedSimpArgs false
theorem piecesR_no {s : ByteArray} {p : Nat} {l : List One} (h : plB s p = false) : piecesR s p l = if l.length = 0 then .bad 90 p else .ok l p := by
 rw [piecesR, dif_neg (by rw [h]; simp)]
theorem piecesR_long {s : ByteArray} {p : Nat} {l : List One} (h : plB s p = true) (hl : l.length = 64) : piecesR s p l = .bad 3 p := by
 rw [piecesR, dif_pos h, if_pos hl]
theorem piecesR_more {s : ByteArray} {p : Nat} {l : List One} (h : plB s p = true) (hl : l.length ≠ 64) : piecesR s p l = piecesR s (p + wdN s p) (l ++ [oneAt s p]) := by
 rw [piecesR, dif_pos h, if_neg hl]
theorem must_yes1 {w : World} {R : Nat} {s : ByteArray} {p : Nat} {q0 : Int} (h : Rd w R s p 0 q0) (c : UInt8) (hb : isB s p c.toNat = true) (hp : p ≤ 140737488355328) :
  Calls Tryz.prog 39 #[.pointer (some ⟨R, 0, none⟩), .string ⟨#[c]⟩] w fun x w' => x = .returned (.bool true) ∧ Rd w' R s (p + 1) 0 q0 ∧ ButS [R] w w' := by
 refine (must_any h ⟨#[c]⟩ (show 1 ≤ 100 by decide) hp).mono ?_
 rintro e w' ⟨n, hn, rfl, hm⟩
 have : mustN s p ⟨#[c]⟩ 0 = 1 := by
  rw [mustN, dif_pos (show 0 < (⟨#[c]⟩ : ByteArray).size from Nat.zero_lt_one)]
  show (if isB s p c.toNat = true then _ else 0) = 1
  rw [if_pos hb, mustN, dif_neg (show ¬ 0 + 1 < (⟨#[c]⟩ : ByteArray).size from Nat.lt_irrefl 1)]
 rw [this] at hn
 subst hn
 exact ⟨rfl, hm.ok rfl, hm.but⟩
theorem must_no1 {w : World} {R : Nat} {s : ByteArray} {p : Nat} {q0 : Int} (h : Rd w R s p 0 q0) (c : UInt8) (hb : isB s p c.toNat = false) (hp : p ≤ 140737488355328) :
  Calls Tryz.prog 39 #[.pointer (some ⟨R, 0, none⟩), .string ⟨#[c]⟩] w fun x w' => x = .returned (.bool false) ∧ Rd w' R s p 90 p ∧ ButS [R] w w' := by
 refine (must_any h ⟨#[c]⟩ (show 1 ≤ 100 by decide) hp).mono ?_
 rintro e w' ⟨n, hn, rfl, hm⟩
 have : mustN s p ⟨#[c]⟩ 0 = 0 := by
  rw [mustN, dif_pos (show 0 < (⟨#[c]⟩ : ByteArray).size from Nat.zero_lt_one)]
  show (if isB s p c.toNat = true then _ else 0) = 0
  rw [if_neg (by rw [hb]; simp)]
 rw [this] at hn
 subst hn
 exact ⟨rfl, hm.no (show 0 < (⟨#[c]⟩ : ByteArray).size from Nat.zero_lt_one), hm.but⟩
theorem mustR_yes {s : ByteArray} {p c : Nat} (h : isB s p c = true) : mustR s p c = .ok () (p + 1) := by unfold mustR; rw [h]; rfl
theorem mustR_no {s : ByteArray} {p c : Nat} (h : isB s p c = false) : mustR s p c = .bad 90 p := by unfold mustR; rw [h]; rfl
theorem is41_pl {s : ByteArray} {p : Nat} (h : isB s p 41 = true) : plB s p = false := by
 obtain ⟨hp, hc⟩ := of_decide_eq_true h
 have hd := dec_ascii hp (by omega)
 rw [hc] at hd
 unfold plB
 refine decide_eq_false fun hh => ?_
 rcases hh.2 with h1 | h1
 ·unfold isBr brB rnN wdN at h1
  rw [hd] at h1
  revert h1; decide
 ·unfold rnN at h1
  rw [hd] at h1
  revert h1; decide
def bodyR (s : ByteArray) (p : Nat) : Res (List One) :=
 (mustR s p 40).bind fun _ p => (piecesR s p []).bind fun l p => (mustR s p 41).bind fun _ p => .ok l p
def RowPost (w w' : World) (R : Nat) (s : ByteArray) (T : TypeId) (k : Nat) {α : Type} (f : α → List Value) (r : Res (List α)) (v : Value) (b : Bool) : Prop :=
 match r with
 | .ok l p => b = true ∧ w'.ownsRow w.heap.size T k v l.length (flatE f l) ∧ Rd w' R s p 0 0 ∧ ButS [R] w w' ∧ l.length ≤ 64
 | .bad e q => b = false ∧ v = .slice none 0 0 ∧ (∃ p, Rd w' R s p e q) ∧ ButS [R] w w'
theorem cells_next3 (w : World) (o : Obj) (a0 a1 a2 : Value) (T : TypeId) : ∀ j u, [a0, a1, a2][j]? = some u → ((w.alloc o).alloc (.cells #[a0, a1, a2] T)).cell? ((⟨w.heap.size + 1, 0, none⟩ : Addr).add j) = some u := by
 have := cells_new3 (w.alloc o) a0 a1 a2 T
 rw [World.size_alloc] at this
 exact this
theorem Rd.alloc {w : World} {R : Nat} {s : ByteArray} {p : Nat} {e q : Int} (h : Rd w R s p e q) (o : Obj) : Rd (w.alloc o) R s p e q := h.low ((Below.refl _ _).alloc (Nat.le_refl _) o)
set_option maxRecDepth 100000 in
set_option maxHeartbeats 4000000 in
theorem body_any {w : World} {R : Nat} {s : ByteArray} {p : Nat} (h : Rd w R s p 0 0) (hs : s.size ≤ 140737488355328) (hp : p ≤ 140737488355328) :
  Calls Tryz.prog 58 #[.pointer (some ⟨R, 0, none⟩)] w fun x w' => ∃ v b, x = .returned (.tuple #[v, .bool b]) ∧ RowPost w w' R s 110 3 One.cells (bodyR s p) v b := by
 obtain ⟨i0, hi, hz0, hz1, hz2⟩ := info_parts info115
 have hlt := h.lt
 have hH := hid h
 unfold bodyR
 cases hb : isB s p 40
 ·have hM := hid (must_no1 h 40 hb hp)
  rw [mustR_no hb]
  clear h hb
  go_enter Tryz.func58, Tryz.ntmps58
  go_wp2_with (go_at_call 39; (with_reducible refine Calls.mono hM.out ?_); rintro e w1 ⟨rfl, hR1, hB1⟩; have HR1 := hid hR1; have HB1 := hid hB1; clear hR1 hB1)
  exact bodyPost_ret (v := .tuple #[.slice none 0 0, .bool false]) (by simp [results, Tryz.results58, go_sem]) rfl ⟨_, _, rfl, rfl, rfl, ⟨_, HR1.out⟩, HB1.out⟩
 ·have hM := hid (must_yes1 h 40 hb hp)
  rw [mustR_yes hb]
  clear h hb
  obtain ⟨p1, hp1⟩ : ∃ p1, p + 1 = p1 := ⟨_, rfl⟩
  rw [hp1] at hM ⊢
  have hpb : p1 ≤ 140737488355329 := by omega
  clear hp1 hp
  show Calls _ _ _ _ fun x w' => ∃ v b, x = _ ∧ RowPost w w' R s 110 3 One.cells ((piecesR s p1 []).bind fun l p => (mustR s p 41).bind fun _ p => .ok l p) v b
  go_enter Tryz.func58, Tryz.ntmps58
  go_wp2_with (go_at_call 39; (with_reducible refine Calls.mono hM.out ?_); rintro e w1 ⟨rfl, hR1, hB1⟩; have HR1 := hid hR1; have HB1 := hid hB1; clear hR1 hB1)
  go_loopw [4] (fun v wr => ∃ (q : Nat) (l : List One), Hid (Rd wr R s q 0 0) ∧ Hid (ButS [R] w wr) ∧ Hid (wr.ownsRow w.heap.size 110 3 v l.length (flatE One.cells l)) ∧ l.length ≤ 64 ∧ q ≤ s.size + 1 + p1 ∧ Hid (piecesR s p1 [] = piecesR s q l)) (fun v _ => match v with | .slice _ n _ => 65 - n | _ => 0)
  case atStart => exact ⟨p1, [], HR1, HB1, World.ownsRow_nil _ _ _ _, Nat.zero_le _, by omega, rfl⟩
  case round =>
   obtain ⟨q, l, hR, hB, hO, hl, hq, hS⟩ := hrel
   obtain ⟨pp, cap, rfl⟩ := own_shape hO.out
   -- what is shown where the loop goes on
   have hgo : isB s q 41 = false ∨ l.length = 0 → Hid (plB s q = false → (piecesR s p1 []).bind (fun l p => (mustR s p 41).bind fun _ p => .ok l p) = .bad 90 q) := by
    intro hc hn
    rw [hS.out, piecesR_no hn]
    by_cases h0 : l.length = 0
    ·rw [if_pos h0]; rfl
    ·rw [if_neg h0]
     show (mustR s q 41).bind _ = _
     rw [mustR_no (hc.resolve_right h0)]; rfl
   obtain ⟨n, hn⟩ : ∃ n, l.length = n := ⟨_, rfl⟩
   rw [hn] at hO hl hgo
   rw [hn]
   replace hn := hid hn
   by_cases h0 : n = 0
   ·subst h0
    have hgo' := hgo (.inr rfl)
    have hP := hid (plain_any hR.out hs)
    clear hgo
    cases hpl : plB s q
    ·obtain ⟨e1, e2⟩ := plU_no hpl
     simp only [e1, e2] at hP
     have hE := hid (hgo'.out hpl)
     simp only [One.val, One.none] at hP
     clear e1 e2 hpl hgo'
     go_wp2_with (first | (go_at_call 40; (with_reducible refine Calls.mono hP.out ?_); rintro e w2 ⟨rfl, hb2⟩; have HR2 := hid (hR.out.low hb2); have HB2 := hid (hB.out.low hb2); have HO2 := hid (own_low hO.out hb2); have c0 := HR2.out.c0; have c1 := HR2.out.c1; have hl2 := HR2.out.lt; have fr := HR2.out.fr; have hs2 := hid HB2.out.size; clear hP hb2;  have hF := hid (fun o => fail_new (HR2.out.alloc o) 90 q)) |  (go_at_call 38; (with_reducible refine Calls.mono (hF.out _) ?_); rintro e w3 ⟨rfl, hR3, hB3⟩; have HR3 := hid hR3; have HB3 := hid hB3; clear hR3 hB3))
     exact bodyPost_ret (v := .tuple #[.slice none 0 0, .bool false]) (by simp [results, Tryz.results58, go_sem]) rfl ⟨_, _, rfl, by rw [hE.out]; exact ⟨rfl, rfl, ⟨_, HR3.out⟩, (HB2.out.alloc _).trans HB3.out⟩⟩
    ·obtain ⟨e1, e2⟩ := plU_yes hpl
     simp only [e1, e2] at hP
     obtain ⟨ur, ub, uc, hu⟩ : ∃ ur ub uc, oneAt s q = ⟨ur, ub, uc⟩ := ⟨_, _, _, rfl⟩
     have hwd := wdN_pos (plB_lt hpl)
     have hqs := plB_lt hpl
     simp only [hu] at hP
     simp only [One.val] at hP
     clear e1 e2 hgo'
     have hE : Hid (piecesR s p1 [] = piecesR s (q + wdN s q) (l ++ [⟨ur, ub, uc⟩])) := by rw [hS.out, piecesR_more hpl (by rw [hn.out]; omega), hu]; exact hid rfl
     have tw : ((wdN s q : Int) == 0) = false := beq_false_of (by omega)
     have hw1 : IntKind.i64.wrap ((q : Int) + wdN s q) = (q : Int) + wdN s q := Wi64 (by omega)
     have hq2 : q + wdN s q ≤ s.size := hwd.2.2
     obtain ⟨z, hz⟩ : ∃ z, wdN s q = z := ⟨_, rfl⟩
     simp only [hz] at hE tw hw1 hq2 hP
     clear hpl hu hwd hz
     go_wp2_with (first | (go_at_call 40; (with_reducible refine Calls.mono hP.out ?_); rintro e w2 ⟨rfl, hb2⟩; have HR2 := hid (hR.out.low hb2); have HB2 := hid (hB.out.low hb2); have HO2 := hid (own_low hO.out hb2); have c0 := HR2.out.c0; have c1 := HR2.out.c1; have hl2 := HR2.out.lt; have fr := HR2.out.fr; have hs2 := hid HB2.out.size; clear hP hb2;  skip) |  (at_builtin; refine wpList_append_own _ rfl (.tmp 42) (.tmp 44) 77 rfl w.heap.size 110 i0 _ 3 8 Tryz.underlying77 hi hz0 hz1 hz2 rfl (by decide) _ _ _ rfl ((HO2.out.alloc _).alloc _) ⟨w2.heap.size + 1, 0, none⟩ 1 1 [.int .i32 ur, .bool ub, .int .u8 uc] rfl rfl (cells_next3 _ _ _ _ _ _) (by simp [Value.oneCell']) (by unfold maxLen; omega) (by omega) (by have := hs2.out; simp <;> omega) ?_; refine stop_here ?_))
     refine hid ?_
     intro v' w5 hown' hgrow hnil
     have hO5 : Hid (w5.ownsRow w.heap.size 110 3 v' (0 + 1) (flatE One.cells (l ++ [⟨ur, ub, uc⟩]))) := by rw [flatE_snoc]; exact hid hown'
     have hne : some R ≠ (Value.slice pp 0 cap).ownBlock := fun e => by have := (own_ge HO2.out e.symm).1; omega
     have HR5 := hid (((HR2.out.alloc _).alloc _).kept hgrow hne)
     have HB5 := hid (((HB2.out.alloc _).alloc _).grown hgrow (fun k hk => (own_ge HO2.out hk).1))
     clear hown' hgrow hnil c0 c1 fr hl2 hne
     have c0 := HR5.out.c0
     have c1 := HR5.out.c1
     have fr := HR5.out.fr
     obtain ⟨pp5, cap5, rfl⟩ := own_shape hO5.out
     go_wp2_with fail
     go_roundw
     case rel => exact ⟨q + z, l ++ [⟨ur, ub, uc⟩], HR5.out.go _, HB5.out.set (List.mem_singleton.2 rfl) 1 _, by rw [List.length_append, hn.out]; exact own_set hO5.out hlt 1 _, by rw [List.length_append, hn.out]; simp <;> omega, by omega, hE⟩
     case measure => simp <;> omega
   ·have t0 : ((n : Int) == 0) = false := beq_false_of (by omega)
    have hI := hid (is_any hR.out 41)
    cases hc : isB s q 41
    ·rw [hc] at hI
     have hgo' := hgo (.inl hc)
     have hPP := hid (fun w' (h : Rd w' R s q 0 0) => plain_any h hs)
     clear hgo hc
     cases hpl : plB s q
     ·obtain ⟨e1, e2⟩ := plU_no hpl
      simp only [e1, e2] at hPP
      have hE := hid (hgo'.out hpl)
      simp only [One.val, One.none] at hPP
      clear e1 e2 hpl hgo'
      go_wp2_with (first | (go_at_call 40; (with_reducible refine Calls.mono hP.out ?_); rintro e w2 ⟨rfl, hb2⟩; have HR2 := hid (hR.out.low hb2); have HB2 := hid (hB.out.low hb2); have HO2 := hid (own_low hO.out hb2); have c0 := HR2.out.c0; have c1 := HR2.out.c1; have hl2 := HR2.out.lt; have fr := HR2.out.fr; have hs2 := hid HB2.out.size; clear hP hb2;  have hF := hid (fun o => fail_new (HR2.out.alloc o) 90 q)) | (go_at_call 56; (with_reducible refine Calls.mono hI.out ?_); rintro e w0 ⟨rfl, hb0⟩; have HR0 := hid (hR.out.low hb0); have HB0 := hid (hB.out.low hb0); have HO0 := hid (own_low hO.out hb0); have hP := hid (hPP.out _ HR0.out); clear hI hR hB hO hb0; have hR := HR0; have hB := HB0; have hO := HO0; clear HR0 HB0 HO0) | (go_at_call 38; (with_reducible refine Calls.mono (hF.out _) ?_); rintro e w3 ⟨rfl, hR3, hB3⟩; have HR3 := hid hR3; have HB3 := hid hB3; clear hR3 hB3))
      exact bodyPost_ret (v := .tuple #[.slice none 0 0, .bool false]) (by simp [results, Tryz.results58, go_sem]) rfl ⟨_, _, rfl, by rw [hE.out]; exact ⟨rfl, rfl, ⟨_, HR3.out⟩, (HB2.out.alloc _).trans HB3.out⟩⟩
     ·obtain ⟨e1, e2⟩ := plU_yes hpl
      simp only [e1, e2] at hPP
      obtain ⟨ur, ub, uc, hu⟩ : ∃ ur ub uc, oneAt s q = ⟨ur, ub, uc⟩ := ⟨_, _, _, rfl⟩
      have hwd := wdN_pos (plB_lt hpl)
      have hqs := plB_lt hpl
      simp only [hu] at hPP
      simp only [One.val] at hPP
      clear e1 e2 hgo'
      by_cases h64 : n = 64
      ·subst h64
       have hE : Hid (piecesR s p1 [] = .bad 3 q) := by rw [hS.out, piecesR_long hpl hn.out]; exact hid rfl
       have tw : ((wdN s q : Int) == 0) = false := beq_false_of (by omega)
       clear hpl hu hwd hqs
       go_wp2_with (first | (go_at_call 40; (with_reducible refine Calls.mono hP.out ?_); rintro e w2 ⟨rfl, hb2⟩; have HR2 := hid (hR.out.low hb2); have HB2 := hid (hB.out.low hb2); have HO2 := hid (own_low hO.out hb2); have c0 := HR2.out.c0; have c1 := HR2.out.c1; have hl2 := HR2.out.lt; have fr := HR2.out.fr; have hs2 := hid HB2.out.size; clear hP hb2;  have hF := hid (fun o => fail_new (HR2.out.alloc o) 3 q)) | (go_at_call 56; (with_reducible refine Calls.mono hI.out ?_); rintro e w0 ⟨rfl, hb0⟩; have HR0 := hid (hR.out.low hb0); have HB0 := hid (hB.out.low hb0); have HO0 := hid (own_low hO.out hb0); have hP := hid (hPP.out _ HR0.out); clear hI hR hB hO hb0; have hR := HR0; have hB := HB0; have hO := HO0; clear HR0 HB0 HO0) | (go_at_call 38; (with_reducible refine Calls.mono (hF.out _) ?_); rintro e w3 ⟨rfl, hR3, hB3⟩; have HR3 := hid hR3; have HB3 := hid hB3; clear hR3 hB3))
       exact bodyPost_ret (v := .tuple #[.slice none 0 0, .bool false]) (by simp [results, Tryz.results58, go_sem]) rfl ⟨_, _, rfl, by rw [hE.out]; exact ⟨rfl, rfl, ⟨_, HR3.out⟩, (HB2.out.alloc _).trans HB3.out⟩⟩
      ·have t1 : ((n : Int) == 64) = false := beq_false_of (by omega)
       have l64 : n < 64 := by omega
       clear h64
       have hE : Hid (piecesR s p1 [] = piecesR s (q + wdN s q) (l ++ [⟨ur, ub, uc⟩])) := by rw [hS.out, piecesR_more hpl (by rw [hn.out]; omega), hu]; exact hid rfl
       have tw : ((wdN s q : Int) == 0) = false := beq_false_of (by omega)
       have hw1 : IntKind.i64.wrap ((q : Int) + wdN s q) = (q : Int) + wdN s q := Wi64 (by omega)
       have hq2 : q + wdN s q ≤ s.size := hwd.2.2
       obtain ⟨z, hz⟩ : ∃ z, wdN s q = z := ⟨_, rfl⟩
       simp only [hz] at hE tw hw1 hq2 hPP
       clear hpl hu hwd hz
       go_wp2_with (first | (go_at_call 40; (with_reducible refine Calls.mono hP.out ?_); rintro e w2 ⟨rfl, hb2⟩; have HR2 := hid (hR.out.low hb2); have HB2 := hid (hB.out.low hb2); have HO2 := hid (own_low hO.out hb2); have c0 := HR2.out.c0; have c1 := HR2.out.c1; have hl2 := HR2.out.lt; have fr := HR2.out.fr; have hs2 := hid HB2.out.size; clear hP hb2;  skip) | (go_at_call 56; (with_reducible refine Calls.mono hI.out ?_); rintro e w0 ⟨rfl, hb0⟩; have HR0 := hid (hR.out.low hb0); have HB0 := hid (hB.out.low hb0); have HO0 := hid (own_low hO.out hb0); have hP := hid (hPP.out _ HR0.out); clear hI hR hB hO hb0; have hR := HR0; have hB := HB0; have hO := HO0; clear HR0 HB0 HO0) | (at_builtin; refine wpList_append_own _ rfl (.tmp 42) (.tmp 44) 77 rfl w.heap.size 110 i0 _ 3 8 Tryz.underlying77 hi hz0 hz1 hz2 rfl (by decide) _ _ _ rfl ((HO2.out.alloc _).alloc _) ⟨w2.heap.size + 1, 0, none⟩ 1 1 [.int .i32 ur, .bool ub, .int .u8 uc] rfl rfl (cells_next3 _ _ _ _ _ _) (by simp [Value.oneCell']) (by unfold maxLen; omega) (by omega) (by have := hs2.out; simp <;> omega) ?_; refine stop_here ?_))
       refine hid ?_
       intro v' w5 hown' hgrow hnil
       have hO5 : Hid (w5.ownsRow w.heap.size 110 3 v' (n + 1) (flatE One.cells (l ++ [⟨ur, ub, uc⟩]))) := by rw [flatE_snoc]; exact hid hown'
       have hne : some R ≠ (Value.slice pp n cap).ownBlock := fun e => by have := (own_ge HO2.out e.symm).1; omega
       have HR5 := hid (((HR2.out.alloc _).alloc _).kept hgrow hne)
       have HB5 := hid (((HB2.out.alloc _).alloc _).grown hgrow (fun k hk => (own_ge HO2.out hk).1))
       clear hown' hgrow hnil c0 c1 fr hl2 hne
       have c0 := HR5.out.c0
       have c1 := HR5.out.c1
       have fr := HR5.out.fr
       obtain ⟨pp5, cap5, rfl⟩ := own_shape hO5.out
       go_wp2_with fail
       go_roundw
       case rel => exact ⟨q + z, l ++ [⟨ur, ub, uc⟩], HR5.out.go _, HB5.out.set (List.mem_singleton.2 rfl) 1 _, by rw [List.length_append, hn.out]; exact own_set hO5.out hlt 1 _, by rw [List.length_append, hn.out]; simp <;> omega, by omega, hE⟩
       case measure => simp <;> omega
    ·rw [hc] at hI
     have hE : Hid ((piecesR s p1 []).bind (fun l p => (mustR s p 41).bind fun _ p => .ok l p) = .ok l (q + 1)) := by
      rw [hS.out, piecesR_no (is41_pl hc), if_neg (by rw [hn.out]; exact h0)]
      show (mustR s q 41).bind _ = _
      rw [mustR_yes hc]; exact hid rfl
     have hqb : q ≤ 140737488355328 := by have := (of_decide_eq_true hc).1; omega
     have hMM := hid (fun w' (h : Rd w' R s q 0 0) => must_yes1 h 41 hc hqb)
     clear hgo hc
     go_wp2_with (first | (go_at_call 56; (with_reducible refine Calls.mono hI.out ?_); rintro e w0 ⟨rfl, hb0⟩; have HR0 := hid (hR.out.low hb0); have HB0 := hid (hB.out.low hb0); have HO0 := hid (own_low hO.out hb0); have hM1 := hid (hMM.out _ HR0.out); clear hI hb0) | (go_at_call 39; (with_reducible refine Calls.mono hM1.out ?_); rintro e w3 ⟨rfl, hR3, hB3⟩; have HR3 := hid hR3; have HB3 := hid hB3; clear hR3 hB3))
     exact bodyPost_ret (v := .tuple #[.slice pp n cap, .bool true]) (by simp [results, Tryz.results58, go_sem]) rfl ⟨_, _, rfl, by rw [hE.out]; exact ⟨rfl, by rw [hn.out]; exact own_but HO0.out HB3.out (fun k hk => by rw [List.mem_singleton] at hk; omega), HR3.out, HB0.out.trans HB3.out, by rw [hn.out]; exact hl⟩⟩
end Go.Proofs.YtieifhfgedoiaaaGreatDoor
