/- A rule's line, walked. Conditions: those of each theorem. -/
import Derived.Test.YtieifhfgedoiaaaGreatDoorNRk
import Derived.StillTail
import Derived.Deep.Quiet
import Derived.Below
import Derived.WalkKit
import Derived.Shelf.Strings.Builder1
import Derived.Shelf.LaysM
import Derived.Shelf.Strings.Split
import Derived.Shelf.Strings.SplitShaped
import Derived.Test.YtieifhfgedoiaaaGreatDoorProg
import Derived.ScopeJumps
import Derived.WalkMore
namespace Go.Proofs.YtieifhfgedoiaaaGreatDoor
open Go.RowKit Go.Lib
open Go.ChangeMaps
set_option linter.unusedVariables false
set_option linter.unusedSimpArgs false
structure PS (w W : World) (R U X : Nat) (s : ByteArray) (said : Nat → Bool) (p : Nat) (c : Array Value) : Prop where
 r : Rd W R s p 0 0
 u : Blk W U 86 c
 c : Cls W X said
 b : ButS [R, U] w W
section
variable {w W W' : World} {R U X p : Nat} {s : ByteArray} {said : Nat → Bool} {c : Array Value}
theorem PS.ne (h : PS w W R U X s said p c) : R ≠ U := blk_ne h.r.b h.u (by decide)
theorem PS.low (h : PS w W R U X s said p c) (hb : Below W.heap.size W W') : PS w W' R U X s said p c := ⟨h.r.low hb, h.u.low hb, h.c.low hb, h.b.low hb⟩
theorem PS.but (h : PS w W R U X s said p c) (hb : ButS [R] W W') {p' : Nat} (hr : Rd W' R s p' 0 0) : PS w W' R U X s said p' c :=
 ⟨hr, hb.blk h.u (by rw [List.mem_singleton]; exact h.ne.symm), h.c.but h.r hb, h.b.trans (two_mono hb)⟩
theorem PS.setU (h : PS w W R U X s said p c) (k : Nat) (v : Value) : PS w (W.setCell ⟨U, k, none⟩ v) R U X s said p (c.setIfInBounds k v) :=
 ⟨⟨h.r.b.other h.ne v⟩, h.u.set k v, h.c.butT ((ButS.refl [U] W).set (List.mem_singleton.2 rfl) k v) (fun B hB => by rw [List.mem_singleton] at hB; subst hB; exact ⟨86, _, by decide, h.u⟩), h.b.set (by simp) k v⟩
theorem PS.go (h : PS w W R U X s said p c) (p' : Nat) : PS w (W.setCell ⟨R, 1, none⟩ (.int .i64 p')) R U X s said p' c :=
 h.but ((ButS.refl [R] W).set (List.mem_singleton.2 rfl) 1 _) (h.r.go p')
end
theorem hash_no {s : ByteArray} {p : Nat} (h : isB s p 35 = false) : hashR s p = (false, p) := by unfold hashR; rw [h]; rfl
theorem hash_yes {s : ByteArray} {p : Nat} (h : isB s p 35 = true) : hashR s p = (true, p + 1) := by unfold hashR; rw [h]; rfl
set_option maxRecDepth 100000 in
set_option maxHeartbeats 8000000 in
theorem parts_any {w : World} {R U X : Nat} {s : ByteArray} {said : Nat → Bool} (h : Rd w R s 0 0 0) (hC : Cls w X said) (hU : Blk w U 86 #[.string ByteArray.empty, .slice none 0 0, .slice none 0 0, .slice none 0 0, .bool false, .bool false, .slice none 0 0]) (hs : s.size ≤ 100000000) :
  Calls Tryz.prog 37 #[.pointer (some ⟨X, 0, none⟩), .pointer (some ⟨R, 0, none⟩), .pointer (some ⟨U, 0, none⟩)] w fun e w' => ∃ b, e = .returned (.bool b) ∧ PartsPost w w' R U s (partsR said s) b := by
 have hRl := hid h.lt
 have hUl := hid hU.lt
 have nRU : R ≠ U := blk_ne h.b hU (by decide)
 have P0 := hid (show PS w w R U X s said 0 _ from ⟨h, hU, hC, ButS.refl _ w⟩)
 have P1 := hid (P0.out.setU 0 (.string s))
 have r0 := h.c0
 have uf := hU.froz
 obtain ⟨u0, u1, u2, u3, u4, u5, u6, _⟩ := hU.c7
 have hI := hid (fun w' p (h : Rd w' R s p 0 0) => is_any h 35)
 have hEQ := hid (partsR_eq said s)
 have hRU : Hid (∀ k ∈ [R, U], k < w.heap.size) := hid (fun k hk => by simp at hk; rcases hk with rfl | rfl; exact h.lt; exact hU.lt)
 clear h hU hC
 cases hh : isB s 0 35
 ·have hI0 := hid (hI.out _ 0 P1.out.r)
  rw [hh] at hI0
  rw [hash_no hh] at hEQ
  clear hh
  go_enter Tryz.func37, Tryz.ntmps37
  go_wp2_with (go_at_call 56; (with_reducible refine Calls.mono hI0.out ?_); rintro e w1 ⟨rfl, hb1⟩; have P2 := hid (P1.out.low hb1); clear hb1 r0 uf u0 u1 u2 u3 u4 u5 u6 hI0 P1 P0; have r1 := P2.out.r.c1; have rf := P2.out.r.fr; have uf := P2.out.u.froz; obtain ⟨u0, u1, u2, u3, u4, u5, u6, _⟩ := P2.out.u.c7)
  have P3 : Hid (PS w w1 R U X s said 0 #[.string s, .slice none 0 0, .slice none 0 0, .slice none 0 0, .bool false, .bool false, .slice none 0 0]) := hid P2.out
  clear r1 rf uf u0 u1 u2 u3 u4 u5 u6 P2
  generalize w1 = W3 at *
  obtain ⟨p0, hp0⟩ : ∃ p0 : Nat, p0 = 0 := ⟨_, rfl⟩
  have hp0b : p0 ≤ 1 := by omega
  have hp0s : p0 ≤ s.size := by omega
  replace P3 : Hid (PS w W3 R U X s said p0 #[.string s, .slice none 0 0, .slice none 0 0, .slice none 0 0, .bool false, .bool false, .slice none 0 0]) := by subst hp0; exact P3
  replace hEQ : Hid (partsR said s = (itemsR said s p0 []).bind fun l p => (bodyR s p).bind fun u p => (itemsR said s p []).bind fun r p => (endR s p).bind fun x q => .ok ⟨s, false, l, u, r, (hashR s p).1, x⟩ q) := by subst hp0; exact hEQ
  clear hp0
  cases hr1 : itemsR said s p0 [] with
  | bad er q =>
   have hE : Hid (partsR said s = .bad er q) := by rw [hEQ.out]; rw [hr1]; exact hid rfl
   go_at_call 57
   with_reducible refine Calls.mono (items_bad P3.out.r P3.out.c (by omega) (by omega) hr1) ?_
   rintro e w9 ⟨rfl, hR9, hB9⟩
   obtain ⟨p9, hR9⟩ := hR9
   have HU9 := hid (hB9.blk P3.out.u (by rw [List.mem_singleton]; exact nRU.symm))
   have HB9 := hid (P3.out.b.trans (two_mono hB9))
   have HR9 := hid hR9
   clear hR9 hB9
   have uf := HU9.out.froz
   obtain ⟨u0, u1, u2, u3, u4, u5, u6, _⟩ := HU9.out.c7
   go_wp2_with fail
   go_ret
   exact ⟨_, rfl, by rw [hE.out]; exact ⟨rfl, ⟨_, ⟨HR9.out.b.other nRU (k := 1) _⟩⟩, HB9.out.set (by simp) 1 _⟩⟩
  | ok l1 q1 =>
   have hq1 := itemsR_le _ _ _ _ _ rfl hr1 (by have := P3.out; exact hp0s)
   go_at_call 57
   with_reducible refine Calls.mono (items_ok P3.out.r P3.out.c (by omega) (by omega) hr1) ?_
   rintro e w4 ⟨pl, nl, cl, rfl, hO4, hR4, hB4⟩
   have P4 := hid (P3.out.but hB4 hR4)
   have HL := hid (own_set (own_mono hO4 P3.out.b.size) (B := U) hUl.out 1 (.slice pl nl cl))
   clear hO4 hR4 hB4
   have r1 := P4.out.r.c1
   have rf := P4.out.r.fr
   have uf := P4.out.u.froz
   obtain ⟨u0, u1, u2, u3, u4, u5, u6, _⟩ := P4.out.u.c7
   go_wp2_with fail
   clear r1 rf uf u0 u1 u2 u3 u4 u5 u6
   have P5 : Hid (PS w (w4.setCell ⟨U, 1, none⟩ (.slice pl nl cl)) R U X s said q1 #[.string s, .slice pl nl cl, .slice none 0 0, .slice none 0 0, .bool false, .bool false, .slice none 0 0]) := hid (P4.out.setU 1 (.slice pl nl cl))
   clear P4 P3
   generalize w4.setCell ⟨U, 1, none⟩ (.slice pl nl cl) = W5 at *
   cases hr2 : bodyR s q1 with
   | bad er q =>
    have hE : Hid (partsR said s = .bad er q) := by rw [hEQ.out]; rw [hr1]; show (bodyR s q1).bind _ = _; rw [hr2]; exact hid rfl
    go_at_call 58
    with_reducible refine Calls.mono (body_bad P5.out.r (by omega) (by omega) hr2) ?_
    rintro e w9 ⟨rfl, hR9, hB9⟩
    obtain ⟨p9, hR9⟩ := hR9
    have HU9 := hid (hB9.blk P5.out.u (by rw [List.mem_singleton]; exact nRU.symm))
    have HB9 := hid (P5.out.b.trans (two_mono hB9))
    have HR9 := hid hR9
    clear hR9 hB9
    have uf := HU9.out.froz
    obtain ⟨u0, u1, u2, u3, u4, u5, u6, _⟩ := HU9.out.c7
    go_wp2_with fail
    go_ret
    exact ⟨_, rfl, by rw [hE.out]; exact ⟨rfl, ⟨_, ⟨HR9.out.b.other nRU (k := 3) _⟩⟩, HB9.out.set (by simp) 3 _⟩⟩
   | ok l2 q2 =>
    have hq2 := bodyR_le hr2
    go_at_call 58
    with_reducible refine Calls.mono (body_ok P5.out.r (by omega) (by omega) hr2) ?_
    rintro e w6 ⟨pb, nb, cb, rfl, hO6, hR6, hB6⟩
    have P6 := hid (P5.out.but hB6 hR6)
    have HBo := hid (own_set (own_mono hO6 P5.out.b.size) (B := U) hUl.out 3 (.slice pb nb cb))
    replace HL := hid (own_set (own_but HL.out hB6 (fun k hk => by rw [List.mem_singleton] at hk; subst hk; exact hRl.out)) (B := U) hUl.out 3 (.slice pb nb cb))
    clear hO6 hR6 hB6
    have r1 := P6.out.r.c1
    have rf := P6.out.r.fr
    have uf := P6.out.u.froz
    obtain ⟨u0, u1, u2, u3, u4, u5, u6, _⟩ := P6.out.u.c7
    go_wp2_with fail
    clear r1 rf uf u0 u1 u2 u3 u4 u5 u6
    have P7 : Hid (PS w (w6.setCell ⟨U, 3, none⟩ (.slice pb nb cb)) R U X s said q2 #[.string s, .slice pl nl cl, .slice none 0 0, .slice pb nb cb, .bool false, .bool false, .slice none 0 0]) := hid (P6.out.setU 3 (.slice pb nb cb))
    clear P6 P5
    generalize w6.setCell ⟨U, 3, none⟩ (.slice pb nb cb) = W7 at *
    cases hr3 : itemsR said s q2 [] with
    | bad er q =>
     have hE : Hid (partsR said s = .bad er q) := by rw [hEQ.out]; rw [hr1]; show (bodyR s q1).bind _ = _; rw [hr2]; show (itemsR said s q2 []).bind _ = _; rw [hr3]; exact hid rfl
     go_at_call 57
     with_reducible refine Calls.mono (items_bad P7.out.r P7.out.c (by omega) (by omega) hr3) ?_
     rintro e w9 ⟨rfl, hR9, hB9⟩
     obtain ⟨p9, hR9⟩ := hR9
     have HU9 := hid (hB9.blk P7.out.u (by rw [List.mem_singleton]; exact nRU.symm))
     have HB9 := hid (P7.out.b.trans (two_mono hB9))
     have HR9 := hid hR9
     clear hR9 hB9
     have uf := HU9.out.froz
     obtain ⟨u0, u1, u2, u3, u4, u5, u6, _⟩ := HU9.out.c7
     go_wp2_with fail
     go_ret
     exact ⟨_, rfl, by rw [hE.out]; exact ⟨rfl, ⟨_, ⟨HR9.out.b.other nRU (k := 2) _⟩⟩, HB9.out.set (by simp) 2 _⟩⟩
    | ok l3 q3 =>
     have hq3 := itemsR_le _ _ _ _ _ rfl hr3 hq2
     go_at_call 57
     with_reducible refine Calls.mono (items_ok P7.out.r P7.out.c (by omega) (by omega) hr3) ?_
     rintro e w8 ⟨pr, nr, cr, rfl, hO8, hR8, hB8⟩
     have P8 := hid (P7.out.but hB8 hR8)
     have HRo := hid (own_set (own_mono hO8 P7.out.b.size) (B := U) hUl.out 2 (.slice pr nr cr))
     replace HL := hid (own_set (own_but HL.out hB8 (fun k hk => by rw [List.mem_singleton] at hk; subst hk; exact hRl.out)) (B := U) hUl.out 2 (.slice pr nr cr))
     replace HBo := hid (own_set (own_but HBo.out hB8 (fun k hk => by rw [List.mem_singleton] at hk; subst hk; exact hRl.out)) (B := U) hUl.out 2 (.slice pr nr cr))
     clear hO8 hR8 hB8
     have r1 := P8.out.r.c1
     have rf := P8.out.r.fr
     have uf := P8.out.u.froz
     obtain ⟨u0, u1, u2, u3, u4, u5, u6, _⟩ := P8.out.u.c7
     go_wp2_with fail
     clear r1 rf uf u0 u1 u2 u3 u4 u5 u6
     have P9 : Hid (PS w (w8.setCell ⟨U, 2, none⟩ (.slice pr nr cr)) R U X s said q3 #[.string s, .slice pl nl cl, .slice pr nr cr, .slice pb nb cb, .bool false, .bool false, .slice none 0 0]) := hid (P8.out.setU 2 (.slice pr nr cr))
     clear P8 P7
     generalize w8.setCell ⟨U, 2, none⟩ (.slice pr nr cr) = W9 at *
     have hEE : Hid (partsR said s = (endR s q3).bind fun x q => .ok ⟨s, false, l1, l2, l3, (hashR s q3).1, x⟩ q) := by rw [hEQ.out]; rw [hr1]; show (bodyR s q1).bind _ = _; rw [hr2]; show (itemsR said s q2 []).bind _ = _; rw [hr3]; exact hid rfl
     clear hr1 hr2 hr3 hEQ
     have hI3 := hid (hI.out _ _ P9.out.r)
     cases hh3 : isB s q3 35
     ·rw [hh3] at hI3
      simp only [endR, hash_no hh3] at hEE
      clear hh3
      go_at_call 56
      with_reducible refine Calls.mono hI3.out ?_
      rintro e w10 ⟨rfl, hb10⟩
      have P10 := hid (P9.out.low hb10)
      replace HL := hid (own_low HL.out hb10)
      replace HBo := hid (own_low HBo.out hb10)
      replace HRo := hid (own_low HRo.out hb10)
      clear hb10 hI3 P9
      have r1 := P10.out.r.c1
      have rf := P10.out.r.fr
      have uf := P10.out.u.froz
      obtain ⟨u0, u1, u2, u3, u4, u5, u6, _⟩ := P10.out.u.c7
      go_wp2_with fail
      clear r1 rf uf u0 u1 u2 u3 u4 u5 u6
      have P11 : Hid (PS w w10 R U X s said q3 #[.string s, .slice pl nl cl, .slice pr nr cr, .slice pb nb cb, .bool false, .bool false, .slice none 0 0]) := hid P10.out
      generalize w10 = W11 at *
      obtain ⟨q4, hq4⟩ : ∃ q4, q3 = q4 := ⟨_, rfl⟩
      simp only [hq4] at P11 hEE
      have hq4s : q4 ≤ s.size := by omega
      clear hq4 P10
      cases hr4 : mustL s [32, 62] q4 with
      | bad er q =>
       have hE : Hid (partsR said s = .bad er q) := by rw [hEE.out, hr4]; exact hid rfl
       have hMc := hid (must_bad P11.out.r ⟨#[32, 62]⟩ (show 2 ≤ 100 by decide) (by omega) hr4)
       go_at_call 39
       with_reducible refine Calls.mono hMc.out ?_
       rintro e w12 ⟨rfl, hR12, hB12⟩
       have HB12 := hid (P11.out.b.trans (two_mono hB12))
       have HR12 := hid hR12
       clear hR12 hB12
       go_wp2_with fail
       go_ret
       exact ⟨_, rfl, by rw [hE.out]; exact ⟨rfl, ⟨_, HR12.out⟩, HB12.out⟩⟩
      | ok u5 q5 =>
       have hq5 : q5 ≤ s.size := by rcases (mustL_le hr4).2 with h | h; cases h; exact h
       have hMc := hid (must_ok P11.out.r ⟨#[32, 62]⟩ (show 2 ≤ 100 by decide) (by omega) hr4)
       go_at_call 39
       with_reducible refine Calls.mono hMc.out ?_
       rintro e w12 ⟨rfl, hR12, hB12⟩
       have P12 := hid (P11.out.but hB12 hR12)
       replace HL := hid (own_but HL.out hB12 (fun k hk => by rw [List.mem_singleton] at hk; subst hk; exact hRl.out))
       replace HBo := hid (own_but HBo.out hB12 (fun k hk => by rw [List.mem_singleton] at hk; subst hk; exact hRl.out))
       replace HRo := hid (own_but HRo.out hB12 (fun k hk => by rw [List.mem_singleton] at hk; subst hk; exact hRl.out))
       clear hR12 hB12 P11
       go_wp2_with fail
       cases hr5 : saysR s q5 with
       | bad er q =>
        have hE : Hid (partsR said s = .bad er q) := by rw [hEE.out, hr4]; show ((saysR s q5).bind _) = _; rw [hr5]; exact hid rfl
        go_at_call 59
        with_reducible refine Calls.mono (says_bad (X := X) P12.out.r P12.out.u hq5 hs hr5) ?_
        rintro e w13 ⟨rfl, hR13, hB13⟩
        have HB13 := hid (P12.out.b.trans hB13)
        have HR13 := hid hR13
        clear hR13 hB13
        go_wp2_with fail
        go_ret
        exact ⟨_, rfl, by rw [hE.out]; exact ⟨rfl, HR13.out, HB13.out⟩⟩
       | ok l6 q6 =>
        have hE : Hid (partsR said s = .ok ⟨s, false, l1, l2, l3, false, l6⟩ q6) := by rw [hEE.out, hr4]; show ((saysR s q5).bind _) = _; rw [hr5]; exact hid rfl
        go_at_call 59
        with_reducible refine Calls.mono (says_ok (X := X) P12.out.r P12.out.u hq5 hs hr5) ?_
        rintro e w13 ⟨rfl, hR13, ⟨vp, hU13, hO13⟩, hB13⟩
        have HB13 := hid (P12.out.b.trans hB13)
        have HR13 := hid hR13
        have HV := hid (show RlOk w13 w.heap.size ⟨s, false, l1, l2, l3, false, l6⟩ ⟨.slice pl nl cl, .slice pr nr cr, .slice pb nb cb, vp⟩ from ⟨own_but HL.out hB13 hRU.out, own_but HRo.out hB13 hRU.out, own_but HBo.out hB13 hRU.out, own_mono hO13 P12.out.b.size⟩)
        have HU13 := hid (show Blk w13 U 86 (Rl.cells ⟨s, false, l1, l2, l3, false, l6⟩ ⟨.slice pl nl cl, .slice pr nr cr, .slice pb nb cb, vp⟩).toArray from hU13)
        clear hR13 hB13 hU13 hO13
        go_wp2_with fail
        go_ret
        exact ⟨_, rfl, by rw [hE.out]; exact ⟨rfl, HR13.out, ⟨_, HU13.out, HV.out⟩, HB13.out⟩⟩
     ·rw [hh3] at hI3
      simp only [endR, hash_yes hh3] at hEE
      have hq3s := isB_lt hh3
      have hw3 : IntKind.i64.wrap ((q3 : Int) + 1) = (q3 : Int) + 1 := Wi64 (by omega)
      clear hh3
      go_at_call 56
      with_reducible refine Calls.mono hI3.out ?_
      rintro e w10 ⟨rfl, hb10⟩
      have P10 := hid (P9.out.low hb10)
      replace HL := hid (own_low HL.out hb10)
      replace HBo := hid (own_low HBo.out hb10)
      replace HRo := hid (own_low HRo.out hb10)
      clear hb10 hI3 P9
      have r1 := P10.out.r.c1
      have rf := P10.out.r.fr
      have uf := P10.out.u.froz
      obtain ⟨u0, u1, u2, u3, u4, u5, u6, _⟩ := P10.out.u.c7
      go_wp2_with fail
      clear r1 rf uf u0 u1 u2 u3 u4 u5 u6
      have P11 : Hid (PS w ((w10.setCell ⟨U, 5, none⟩ (.bool true)).setCell ⟨R, 1, none⟩ (.int .i64 ((q3 : Int) + 1))) R U X s said (q3 + 1) #[.string s, .slice pl nl cl, .slice pr nr cr, .slice pb nb cb, .bool false, .bool true, .slice none 0 0]) := hid ((P10.out.setU 5 (.bool true)).go (q3 + 1))
      replace HL := hid (own_set (own_set HL.out (B := U) hUl.out 5 (.bool true)) (B := R) hRl.out 1 (.int .i64 ((q3 : Int) + 1)))
      replace HBo := hid (own_set (own_set HBo.out (B := U) hUl.out 5 (.bool true)) (B := R) hRl.out 1 (.int .i64 ((q3 : Int) + 1)))
      replace HRo := hid (own_set (own_set HRo.out (B := U) hUl.out 5 (.bool true)) (B := R) hRl.out 1 (.int .i64 ((q3 : Int) + 1)))
      generalize (w10.setCell ⟨U, 5, none⟩ (.bool true)).setCell ⟨R, 1, none⟩ (.int .i64 ((q3 : Int) + 1)) = W11 at *
      obtain ⟨q4, hq4⟩ : ∃ q4, q3 + 1 = q4 := ⟨_, rfl⟩
      simp only [hq4] at P11 hEE
      have hq4s : q4 ≤ s.size := by omega
      clear hq4 P10
      cases hr4 : mustL s [32, 62] q4 with
      | bad er q =>
       have hE : Hid (partsR said s = .bad er q) := by rw [hEE.out, hr4]; exact hid rfl
       have hMc := hid (must_bad P11.out.r ⟨#[32, 62]⟩ (show 2 ≤ 100 by decide) (by omega) hr4)
       go_at_call 39
       with_reducible refine Calls.mono hMc.out ?_
       rintro e w12 ⟨rfl, hR12, hB12⟩
       have HB12 := hid (P11.out.b.trans (two_mono hB12))
       have HR12 := hid hR12
       clear hR12 hB12
       go_wp2_with fail
       go_ret
       exact ⟨_, rfl, by rw [hE.out]; exact ⟨rfl, ⟨_, HR12.out⟩, HB12.out⟩⟩
      | ok u5 q5 =>
       have hq5 : q5 ≤ s.size := by rcases (mustL_le hr4).2 with h | h; cases h; exact h
       have hMc := hid (must_ok P11.out.r ⟨#[32, 62]⟩ (show 2 ≤ 100 by decide) (by omega) hr4)
       go_at_call 39
       with_reducible refine Calls.mono hMc.out ?_
       rintro e w12 ⟨rfl, hR12, hB12⟩
       have P12 := hid (P11.out.but hB12 hR12)
       replace HL := hid (own_but HL.out hB12 (fun k hk => by rw [List.mem_singleton] at hk; subst hk; exact hRl.out))
       replace HBo := hid (own_but HBo.out hB12 (fun k hk => by rw [List.mem_singleton] at hk; subst hk; exact hRl.out))
       replace HRo := hid (own_but HRo.out hB12 (fun k hk => by rw [List.mem_singleton] at hk; subst hk; exact hRl.out))
       clear hR12 hB12 P11
       go_wp2_with fail
       cases hr5 : saysR s q5 with
       | bad er q =>
        have hE : Hid (partsR said s = .bad er q) := by rw [hEE.out, hr4]; show ((saysR s q5).bind _) = _; rw [hr5]; exact hid rfl
        go_at_call 59
        with_reducible refine Calls.mono (says_bad (X := X) P12.out.r P12.out.u hq5 hs hr5) ?_
        rintro e w13 ⟨rfl, hR13, hB13⟩
        have HB13 := hid (P12.out.b.trans hB13)
        have HR13 := hid hR13
        clear hR13 hB13
        go_wp2_with fail
        go_ret
        exact ⟨_, rfl, by rw [hE.out]; exact ⟨rfl, HR13.out, HB13.out⟩⟩
       | ok l6 q6 =>
        have hE : Hid (partsR said s = .ok ⟨s, false, l1, l2, l3, true, l6⟩ q6) := by rw [hEE.out, hr4]; show ((saysR s q5).bind _) = _; rw [hr5]; exact hid rfl
        go_at_call 59
        with_reducible refine Calls.mono (says_ok (X := X) P12.out.r P12.out.u hq5 hs hr5) ?_
        rintro e w13 ⟨rfl, hR13, ⟨vp, hU13, hO13⟩, hB13⟩
        have HB13 := hid (P12.out.b.trans hB13)
        have HR13 := hid hR13
        have HV := hid (show RlOk w13 w.heap.size ⟨s, false, l1, l2, l3, true, l6⟩ ⟨.slice pl nl cl, .slice pr nr cr, .slice pb nb cb, vp⟩ from ⟨own_but HL.out hB13 hRU.out, own_but HRo.out hB13 hRU.out, own_but HBo.out hB13 hRU.out, own_mono hO13 P12.out.b.size⟩)
        have HU13 := hid (show Blk w13 U 86 (Rl.cells ⟨s, false, l1, l2, l3, true, l6⟩ ⟨.slice pl nl cl, .slice pr nr cr, .slice pb nb cb, vp⟩).toArray from hU13)
        clear hR13 hB13 hU13 hO13
        go_wp2_with fail
        go_ret
        exact ⟨_, rfl, by rw [hE.out]; exact ⟨rfl, HR13.out, ⟨_, HU13.out, HV.out⟩, HB13.out⟩⟩
 ·have hI0 := hid (hI.out _ 0 P1.out.r)
  rw [hh] at hI0
  have hs1 := isB_lt hh
  rw [hash_yes hh] at hEQ
  clear hh
  go_enter Tryz.func37, Tryz.ntmps37
  go_wp2_with (go_at_call 56; (with_reducible refine Calls.mono hI0.out ?_); rintro e w1 ⟨rfl, hb1⟩; have P2 := hid (P1.out.low hb1); clear hb1 r0 uf u0 u1 u2 u3 u4 u5 u6 hI0 P1 P0; have r1 := P2.out.r.c1; have rf := P2.out.r.fr; have uf := P2.out.u.froz; obtain ⟨u0, u1, u2, u3, u4, u5, u6, _⟩ := P2.out.u.c7)
  have P3 : Hid (PS w ((w1.setCell ⟨U, 4, none⟩ (.bool true)).setCell ⟨R, 1, none⟩ (.int .i64 1)) R U X s said 1 #[.string s, .slice none 0 0, .slice none 0 0, .slice none 0 0, .bool true, .bool false, .slice none 0 0]) := hid ((P2.out.setU 4 (.bool true)).go 1)
  clear r1 rf uf u0 u1 u2 u3 u4 u5 u6 P2
  generalize (w1.setCell ⟨U, 4, none⟩ (.bool true)).setCell ⟨R, 1, none⟩ (.int .i64 1) = W3 at *
  obtain ⟨p0, hp0⟩ : ∃ p0 : Nat, p0 = 1 := ⟨_, rfl⟩
  have hp0b : p0 ≤ 1 := by omega
  have hp0s : p0 ≤ s.size := by omega
  replace P3 : Hid (PS w W3 R U X s said p0 #[.string s, .slice none 0 0, .slice none 0 0, .slice none 0 0, .bool true, .bool false, .slice none 0 0]) := by subst hp0; exact P3
  replace hEQ : Hid (partsR said s = (itemsR said s p0 []).bind fun l p => (bodyR s p).bind fun u p => (itemsR said s p []).bind fun r p => (endR s p).bind fun x q => .ok ⟨s, true, l, u, r, (hashR s p).1, x⟩ q) := by subst hp0; exact hEQ
  clear hp0
  cases hr1 : itemsR said s p0 [] with
  | bad er q =>
   have hE : Hid (partsR said s = .bad er q) := by rw [hEQ.out]; rw [hr1]; exact hid rfl
   go_at_call 57
   with_reducible refine Calls.mono (items_bad P3.out.r P3.out.c (by omega) (by omega) hr1) ?_
   rintro e w9 ⟨rfl, hR9, hB9⟩
   obtain ⟨p9, hR9⟩ := hR9
   have HU9 := hid (hB9.blk P3.out.u (by rw [List.mem_singleton]; exact nRU.symm))
   have HB9 := hid (P3.out.b.trans (two_mono hB9))
   have HR9 := hid hR9
   clear hR9 hB9
   have uf := HU9.out.froz
   obtain ⟨u0, u1, u2, u3, u4, u5, u6, _⟩ := HU9.out.c7
   go_wp2_with fail
   go_ret
   exact ⟨_, rfl, by rw [hE.out]; exact ⟨rfl, ⟨_, ⟨HR9.out.b.other nRU (k := 1) _⟩⟩, HB9.out.set (by simp) 1 _⟩⟩
  | ok l1 q1 =>
   have hq1 := itemsR_le _ _ _ _ _ rfl hr1 (by have := P3.out; exact hp0s)
   go_at_call 57
   with_reducible refine Calls.mono (items_ok P3.out.r P3.out.c (by omega) (by omega) hr1) ?_
   rintro e w4 ⟨pl, nl, cl, rfl, hO4, hR4, hB4⟩
   have P4 := hid (P3.out.but hB4 hR4)
   have HL := hid (own_set (own_mono hO4 P3.out.b.size) (B := U) hUl.out 1 (.slice pl nl cl))
   clear hO4 hR4 hB4
   have r1 := P4.out.r.c1
   have rf := P4.out.r.fr
   have uf := P4.out.u.froz
   obtain ⟨u0, u1, u2, u3, u4, u5, u6, _⟩ := P4.out.u.c7
   go_wp2_with fail
   clear r1 rf uf u0 u1 u2 u3 u4 u5 u6
   have P5 : Hid (PS w (w4.setCell ⟨U, 1, none⟩ (.slice pl nl cl)) R U X s said q1 #[.string s, .slice pl nl cl, .slice none 0 0, .slice none 0 0, .bool true, .bool false, .slice none 0 0]) := hid (P4.out.setU 1 (.slice pl nl cl))
   clear P4 P3
   generalize w4.setCell ⟨U, 1, none⟩ (.slice pl nl cl) = W5 at *
   cases hr2 : bodyR s q1 with
   | bad er q =>
    have hE : Hid (partsR said s = .bad er q) := by rw [hEQ.out]; rw [hr1]; show (bodyR s q1).bind _ = _; rw [hr2]; exact hid rfl
    go_at_call 58
    with_reducible refine Calls.mono (body_bad P5.out.r (by omega) (by omega) hr2) ?_
    rintro e w9 ⟨rfl, hR9, hB9⟩
    obtain ⟨p9, hR9⟩ := hR9
    have HU9 := hid (hB9.blk P5.out.u (by rw [List.mem_singleton]; exact nRU.symm))
    have HB9 := hid (P5.out.b.trans (two_mono hB9))
    have HR9 := hid hR9
    clear hR9 hB9
    have uf := HU9.out.froz
    obtain ⟨u0, u1, u2, u3, u4, u5, u6, _⟩ := HU9.out.c7
    go_wp2_with fail
    go_ret
    exact ⟨_, rfl, by rw [hE.out]; exact ⟨rfl, ⟨_, ⟨HR9.out.b.other nRU (k := 3) _⟩⟩, HB9.out.set (by simp) 3 _⟩⟩
   | ok l2 q2 =>
    have hq2 := bodyR_le hr2
    go_at_call 58
    with_reducible refine Calls.mono (body_ok P5.out.r (by omega) (by omega) hr2) ?_
    rintro e w6 ⟨pb, nb, cb, rfl, hO6, hR6, hB6⟩
    have P6 := hid (P5.out.but hB6 hR6)
    have HBo := hid (own_set (own_mono hO6 P5.out.b.size) (B := U) hUl.out 3 (.slice pb nb cb))
    replace HL := hid (own_set (own_but HL.out hB6 (fun k hk => by rw [List.mem_singleton] at hk; subst hk; exact hRl.out)) (B := U) hUl.out 3 (.slice pb nb cb))
    clear hO6 hR6 hB6
    have r1 := P6.out.r.c1
    have rf := P6.out.r.fr
    have uf := P6.out.u.froz
    obtain ⟨u0, u1, u2, u3, u4, u5, u6, _⟩ := P6.out.u.c7
    go_wp2_with fail
    clear r1 rf uf u0 u1 u2 u3 u4 u5 u6
    have P7 : Hid (PS w (w6.setCell ⟨U, 3, none⟩ (.slice pb nb cb)) R U X s said q2 #[.string s, .slice pl nl cl, .slice none 0 0, .slice pb nb cb, .bool true, .bool false, .slice none 0 0]) := hid (P6.out.setU 3 (.slice pb nb cb))
    clear P6 P5
    generalize w6.setCell ⟨U, 3, none⟩ (.slice pb nb cb) = W7 at *
    cases hr3 : itemsR said s q2 [] with
    | bad er q =>
     have hE : Hid (partsR said s = .bad er q) := by rw [hEQ.out]; rw [hr1]; show (bodyR s q1).bind _ = _; rw [hr2]; show (itemsR said s q2 []).bind _ = _; rw [hr3]; exact hid rfl
     go_at_call 57
     with_reducible refine Calls.mono (items_bad P7.out.r P7.out.c (by omega) (by omega) hr3) ?_
     rintro e w9 ⟨rfl, hR9, hB9⟩
     obtain ⟨p9, hR9⟩ := hR9
     have HU9 := hid (hB9.blk P7.out.u (by rw [List.mem_singleton]; exact nRU.symm))
     have HB9 := hid (P7.out.b.trans (two_mono hB9))
     have HR9 := hid hR9
     clear hR9 hB9
     have uf := HU9.out.froz
     obtain ⟨u0, u1, u2, u3, u4, u5, u6, _⟩ := HU9.out.c7
     go_wp2_with fail
     go_ret
     exact ⟨_, rfl, by rw [hE.out]; exact ⟨rfl, ⟨_, ⟨HR9.out.b.other nRU (k := 2) _⟩⟩, HB9.out.set (by simp) 2 _⟩⟩
    | ok l3 q3 =>
     have hq3 := itemsR_le _ _ _ _ _ rfl hr3 hq2
     go_at_call 57
     with_reducible refine Calls.mono (items_ok P7.out.r P7.out.c (by omega) (by omega) hr3) ?_
     rintro e w8 ⟨pr, nr, cr, rfl, hO8, hR8, hB8⟩
     have P8 := hid (P7.out.but hB8 hR8)
     have HRo := hid (own_set (own_mono hO8 P7.out.b.size) (B := U) hUl.out 2 (.slice pr nr cr))
     replace HL := hid (own_set (own_but HL.out hB8 (fun k hk => by rw [List.mem_singleton] at hk; subst hk; exact hRl.out)) (B := U) hUl.out 2 (.slice pr nr cr))
     replace HBo := hid (own_set (own_but HBo.out hB8 (fun k hk => by rw [List.mem_singleton] at hk; subst hk; exact hRl.out)) (B := U) hUl.out 2 (.slice pr nr cr))
     clear hO8 hR8 hB8
     have r1 := P8.out.r.c1
     have rf := P8.out.r.fr
     have uf := P8.out.u.froz
     obtain ⟨u0, u1, u2, u3, u4, u5, u6, _⟩ := P8.out.u.c7
     go_wp2_with fail
     clear r1 rf uf u0 u1 u2 u3 u4 u5 u6
     have P9 : Hid (PS w (w8.setCell ⟨U, 2, none⟩ (.slice pr nr cr)) R U X s said q3 #[.string s, .slice pl nl cl, .slice pr nr cr, .slice pb nb cb, .bool true, .bool false, .slice none 0 0]) := hid (P8.out.setU 2 (.slice pr nr cr))
     clear P8 P7
     generalize w8.setCell ⟨U, 2, none⟩ (.slice pr nr cr) = W9 at *
     have hEE : Hid (partsR said s = (endR s q3).bind fun x q => .ok ⟨s, true, l1, l2, l3, (hashR s q3).1, x⟩ q) := by rw [hEQ.out]; rw [hr1]; show (bodyR s q1).bind _ = _; rw [hr2]; show (itemsR said s q2 []).bind _ = _; rw [hr3]; exact hid rfl
     clear hr1 hr2 hr3 hEQ
     have hI3 := hid (hI.out _ _ P9.out.r)
     cases hh3 : isB s q3 35
     ·rw [hh3] at hI3
      simp only [endR, hash_no hh3] at hEE
      clear hh3
      go_at_call 56
      with_reducible refine Calls.mono hI3.out ?_
      rintro e w10 ⟨rfl, hb10⟩
      have P10 := hid (P9.out.low hb10)
      replace HL := hid (own_low HL.out hb10)
      replace HBo := hid (own_low HBo.out hb10)
      replace HRo := hid (own_low HRo.out hb10)
      clear hb10 hI3 P9
      have r1 := P10.out.r.c1
      have rf := P10.out.r.fr
      have uf := P10.out.u.froz
      obtain ⟨u0, u1, u2, u3, u4, u5, u6, _⟩ := P10.out.u.c7
      go_wp2_with fail
      clear r1 rf uf u0 u1 u2 u3 u4 u5 u6
      have P11 : Hid (PS w w10 R U X s said q3 #[.string s, .slice pl nl cl, .slice pr nr cr, .slice pb nb cb, .bool true, .bool false, .slice none 0 0]) := hid P10.out
      generalize w10 = W11 at *
      obtain ⟨q4, hq4⟩ : ∃ q4, q3 = q4 := ⟨_, rfl⟩
      simp only [hq4] at P11 hEE
      have hq4s : q4 ≤ s.size := by omega
      clear hq4 P10
      cases hr4 : mustL s [32, 62] q4 with
      | bad er q =>
       have hE : Hid (partsR said s = .bad er q) := by rw [hEE.out, hr4]; exact hid rfl
       have hMc := hid (must_bad P11.out.r ⟨#[32, 62]⟩ (show 2 ≤ 100 by decide) (by omega) hr4)
       go_at_call 39
       with_reducible refine Calls.mono hMc.out ?_
       rintro e w12 ⟨rfl, hR12, hB12⟩
       have HB12 := hid (P11.out.b.trans (two_mono hB12))
       have HR12 := hid hR12
       clear hR12 hB12
       go_wp2_with fail
       go_ret
       exact ⟨_, rfl, by rw [hE.out]; exact ⟨rfl, ⟨_, HR12.out⟩, HB12.out⟩⟩
      | ok u5 q5 =>
       have hq5 : q5 ≤ s.size := by rcases (mustL_le hr4).2 with h | h; cases h; exact h
       have hMc := hid (must_ok P11.out.r ⟨#[32, 62]⟩ (show 2 ≤ 100 by decide) (by omega) hr4)
       go_at_call 39
       with_reducible refine Calls.mono hMc.out ?_
       rintro e w12 ⟨rfl, hR12, hB12⟩
       have P12 := hid (P11.out.but hB12 hR12)
       replace HL := hid (own_but HL.out hB12 (fun k hk => by rw [List.mem_singleton] at hk; subst hk; exact hRl.out))
       replace HBo := hid (own_but HBo.out hB12 (fun k hk => by rw [List.mem_singleton] at hk; subst hk; exact hRl.out))
       replace HRo := hid (own_but HRo.out hB12 (fun k hk => by rw [List.mem_singleton] at hk; subst hk; exact hRl.out))
       clear hR12 hB12 P11
       go_wp2_with fail
       cases hr5 : saysR s q5 with
       | bad er q =>
        have hE : Hid (partsR said s = .bad er q) := by rw [hEE.out, hr4]; show ((saysR s q5).bind _) = _; rw [hr5]; exact hid rfl
        go_at_call 59
        with_reducible refine Calls.mono (says_bad (X := X) P12.out.r P12.out.u hq5 hs hr5) ?_
        rintro e w13 ⟨rfl, hR13, hB13⟩
        have HB13 := hid (P12.out.b.trans hB13)
        have HR13 := hid hR13
        clear hR13 hB13
        go_wp2_with fail
        go_ret
        exact ⟨_, rfl, by rw [hE.out]; exact ⟨rfl, HR13.out, HB13.out⟩⟩
       | ok l6 q6 =>
        have hE : Hid (partsR said s = .ok ⟨s, true, l1, l2, l3, false, l6⟩ q6) := by rw [hEE.out, hr4]; show ((saysR s q5).bind _) = _; rw [hr5]; exact hid rfl
        go_at_call 59
        with_reducible refine Calls.mono (says_ok (X := X) P12.out.r P12.out.u hq5 hs hr5) ?_
        rintro e w13 ⟨rfl, hR13, ⟨vp, hU13, hO13⟩, hB13⟩
        have HB13 := hid (P12.out.b.trans hB13)
        have HR13 := hid hR13
        have HV := hid (show RlOk w13 w.heap.size ⟨s, true, l1, l2, l3, false, l6⟩ ⟨.slice pl nl cl, .slice pr nr cr, .slice pb nb cb, vp⟩ from ⟨own_but HL.out hB13 hRU.out, own_but HRo.out hB13 hRU.out, own_but HBo.out hB13 hRU.out, own_mono hO13 P12.out.b.size⟩)
        have HU13 := hid (show Blk w13 U 86 (Rl.cells ⟨s, true, l1, l2, l3, false, l6⟩ ⟨.slice pl nl cl, .slice pr nr cr, .slice pb nb cb, vp⟩).toArray from hU13)
        clear hR13 hB13 hU13 hO13
        go_wp2_with fail
        go_ret
        exact ⟨_, rfl, by rw [hE.out]; exact ⟨rfl, HR13.out, ⟨_, HU13.out, HV.out⟩, HB13.out⟩⟩
     ·rw [hh3] at hI3
      simp only [endR, hash_yes hh3] at hEE
      have hq3s := isB_lt hh3
      have hw3 : IntKind.i64.wrap ((q3 : Int) + 1) = (q3 : Int) + 1 := Wi64 (by omega)
      clear hh3
      go_at_call 56
      with_reducible refine Calls.mono hI3.out ?_
      rintro e w10 ⟨rfl, hb10⟩
      have P10 := hid (P9.out.low hb10)
      replace HL := hid (own_low HL.out hb10)
      replace HBo := hid (own_low HBo.out hb10)
      replace HRo := hid (own_low HRo.out hb10)
      clear hb10 hI3 P9
      have r1 := P10.out.r.c1
      have rf := P10.out.r.fr
      have uf := P10.out.u.froz
      obtain ⟨u0, u1, u2, u3, u4, u5, u6, _⟩ := P10.out.u.c7
      go_wp2_with fail
      clear r1 rf uf u0 u1 u2 u3 u4 u5 u6
      have P11 : Hid (PS w ((w10.setCell ⟨U, 5, none⟩ (.bool true)).setCell ⟨R, 1, none⟩ (.int .i64 ((q3 : Int) + 1))) R U X s said (q3 + 1) #[.string s, .slice pl nl cl, .slice pr nr cr, .slice pb nb cb, .bool true, .bool true, .slice none 0 0]) := hid ((P10.out.setU 5 (.bool true)).go (q3 + 1))
      replace HL := hid (own_set (own_set HL.out (B := U) hUl.out 5 (.bool true)) (B := R) hRl.out 1 (.int .i64 ((q3 : Int) + 1)))
      replace HBo := hid (own_set (own_set HBo.out (B := U) hUl.out 5 (.bool true)) (B := R) hRl.out 1 (.int .i64 ((q3 : Int) + 1)))
      replace HRo := hid (own_set (own_set HRo.out (B := U) hUl.out 5 (.bool true)) (B := R) hRl.out 1 (.int .i64 ((q3 : Int) + 1)))
      generalize (w10.setCell ⟨U, 5, none⟩ (.bool true)).setCell ⟨R, 1, none⟩ (.int .i64 ((q3 : Int) + 1)) = W11 at *
      obtain ⟨q4, hq4⟩ : ∃ q4, q3 + 1 = q4 := ⟨_, rfl⟩
      simp only [hq4] at P11 hEE
      have hq4s : q4 ≤ s.size := by omega
      clear hq4 P10
      cases hr4 : mustL s [32, 62] q4 with
      | bad er q =>
       have hE : Hid (partsR said s = .bad er q) := by rw [hEE.out, hr4]; exact hid rfl
       have hMc := hid (must_bad P11.out.r ⟨#[32, 62]⟩ (show 2 ≤ 100 by decide) (by omega) hr4)
       go_at_call 39
       with_reducible refine Calls.mono hMc.out ?_
       rintro e w12 ⟨rfl, hR12, hB12⟩
       have HB12 := hid (P11.out.b.trans (two_mono hB12))
       have HR12 := hid hR12
       clear hR12 hB12
       go_wp2_with fail
       go_ret
       exact ⟨_, rfl, by rw [hE.out]; exact ⟨rfl, ⟨_, HR12.out⟩, HB12.out⟩⟩
      | ok u5 q5 =>
       have hq5 : q5 ≤ s.size := by rcases (mustL_le hr4).2 with h | h; cases h; exact h
       have hMc := hid (must_ok P11.out.r ⟨#[32, 62]⟩ (show 2 ≤ 100 by decide) (by omega) hr4)
       go_at_call 39
       with_reducible refine Calls.mono hMc.out ?_
       rintro e w12 ⟨rfl, hR12, hB12⟩
       have P12 := hid (P11.out.but hB12 hR12)
       replace HL := hid (own_but HL.out hB12 (fun k hk => by rw [List.mem_singleton] at hk; subst hk; exact hRl.out))
       replace HBo := hid (own_but HBo.out hB12 (fun k hk => by rw [List.mem_singleton] at hk; subst hk; exact hRl.out))
       replace HRo := hid (own_but HRo.out hB12 (fun k hk => by rw [List.mem_singleton] at hk; subst hk; exact hRl.out))
       clear hR12 hB12 P11
       go_wp2_with fail
       cases hr5 : saysR s q5 with
       | bad er q =>
        have hE : Hid (partsR said s = .bad er q) := by rw [hEE.out, hr4]; show ((saysR s q5).bind _) = _; rw [hr5]; exact hid rfl
        go_at_call 59
        with_reducible refine Calls.mono (says_bad (X := X) P12.out.r P12.out.u hq5 hs hr5) ?_
        rintro e w13 ⟨rfl, hR13, hB13⟩
        have HB13 := hid (P12.out.b.trans hB13)
        have HR13 := hid hR13
        clear hR13 hB13
        go_wp2_with fail
        go_ret
        exact ⟨_, rfl, by rw [hE.out]; exact ⟨rfl, HR13.out, HB13.out⟩⟩
       | ok l6 q6 =>
        have hE : Hid (partsR said s = .ok ⟨s, true, l1, l2, l3, true, l6⟩ q6) := by rw [hEE.out, hr4]; show ((saysR s q5).bind _) = _; rw [hr5]; exact hid rfl
        go_at_call 59
        with_reducible refine Calls.mono (says_ok (X := X) P12.out.r P12.out.u hq5 hs hr5) ?_
        rintro e w13 ⟨rfl, hR13, ⟨vp, hU13, hO13⟩, hB13⟩
        have HB13 := hid (P12.out.b.trans hB13)
        have HR13 := hid hR13
        have HV := hid (show RlOk w13 w.heap.size ⟨s, true, l1, l2, l3, true, l6⟩ ⟨.slice pl nl cl, .slice pr nr cr, .slice pb nb cb, vp⟩ from ⟨own_but HL.out hB13 hRU.out, own_but HRo.out hB13 hRU.out, own_but HBo.out hB13 hRU.out, own_mono hO13 P12.out.b.size⟩)
        have HU13 := hid (show Blk w13 U 86 (Rl.cells ⟨s, true, l1, l2, l3, true, l6⟩ ⟨.slice pl nl cl, .slice pr nr cr, .slice pb nb cb, vp⟩).toArray from hU13)
        clear hR13 hB13 hU13 hO13
        go_wp2_with fail
        go_ret
        exact ⟨_, rfl, by rw [hE.out]; exact ⟨rfl, HR13.out, ⟨_, HU13.out, HV.out⟩, HB13.out⟩⟩
end Go.Proofs.YtieifhfgedoiaaaGreatDoor
/- A region of code that draws its order, in which two operations, one behind the other, make something new and the others before them only read: it is enough to walk it once, in the text's order. Conditions: the program follows mixed orders; the order of the region passes the checks; the reads answer alike before, between and behind these two. -/
namespace Go.Proofs.YtieifhfgedoiaaaGreatDoor
open Go Go.RowKit
set_option linter.unusedVariables false
section
variable {P : Program} {ops : Array Oper} {W0 W1 W2 : World} {e d n : Nat}
def Gives (P : Program) (W0 W1 W2 : World) (e d i : Nat) (o : Oper) (a : Act) (v : Value) : Prop :=
 (i = e → (execOp a.eval o).run P W0 = .ok (.value v) W1) ∧ (i = d → (execOp a.eval o).run P W1 = .ok (.value v) W2) ∧
 (i ≠ e → i ≠ d → (execOp a.eval o).run P W0 = .ok (.value v) W0 ∧ (execOp a.eval o).run P W1 = .ok (.value v) W1 ∧ (execOp a.eval o).run P W2 = .ok (.value v) W2)
def GivesG (P : Program) (ops : Array Oper) (W0 W1 W2 : World) (e d i : Nat) (o : Oper) (a : Act) (v : Value) : Prop :=
 (Region.wanted o (yielded ops a.tmps) = true ∧ Gives P W0 W1 W2 e d i o a v) ∨ ((i ≠ e ∧ i ≠ d) ∧ Region.wanted o (yielded ops a.tmps) = false ∧ v = undef)
def eOp (P : Program) (ops : Array Oper) (W0 W1 W2 : World) (e d i : Nat) (K : Act → Prop) (a : Act) : Prop :=
 ∃ o v, ops[i]? = some o ∧ GivesG P ops W0 W1 W2 e d i o a v ∧ K (a.put o.dst v)
theorem eOp_mono {i : Nat} {a : Act} {K K' : Act → Prop} (h : ∀ a, K a → K' a) : eOp P ops W0 W1 W2 e d i K a → eOp P ops W0 W1 W2 e d i K' a
 | ⟨o, v, h1, h2, h3⟩ => ⟨o, v, h1, h2, h _ h3⟩
theorem GivesG.same {i : Nat} {o : Oper} {a a' : Act} {v : Value} (h : GivesG P ops W0 W1 W2 e d i o a v) (he : execOp a'.eval o = execOp a.eval o)
  (hw : Region.wanted o (yielded ops a'.tmps) = Region.wanted o (yielded ops a.tmps)) : GivesG P ops W0 W1 W2 e d i o a' v := by
 unfold GivesG Gives at *
 rw [he, hw]
 exact h
theorem eOp_put {i j : Nat} {oi oj : Oper} {v : Value} (hj : ops[j]? = some oj) (hap : oi.apart ops oj = true) (hsi : ∀ cs b, oi.op ≠ .select cs b) (hsj : ∀ cs b, oj.op ≠ .select cs b)
  {K : Act → Prop} {a : Act} (hy : GivesG P ops W0 W1 W2 e d i oi a v) : eOp P ops W0 W1 W2 e d j K (a.put oi.dst v) → eOp P ops W0 W1 W2 e d j (fun a' => GivesG P ops W0 W1 W2 e d i oi a' v ∧ K (a'.put oi.dst v)) a := by
 rintro ⟨o, u, ho, hu, hK⟩
 obtain rfl : oj = o := Option.some.inj (hj.symm.trans ho)
 obtain ⟨h1, h2, h3⟩ := Oper.apart_spec hap
 refine ⟨oj, u, hj, hu.same (execOp_put oj hsj a oi.dst v h1).symm (wanted_put oj a oi.dst v h1).symm, hy.same (execOp_put oi hsi a oj.dst u h3) (wanted_put oi a oj.dst u h3), ?_⟩
 rw [← Act.put_comm a v u h2]
 exact hK

def AnyE (P : Program) (ops : Array Oper) (W0 W1 W2 : World) (e d n : Nat) (E : Array Bool → Act → Prop) : Nat → Array Bool → Act → Prop
 | 0, T, a => E T a
 | f + 1, T, a => (Region.ready .any ops T ≠ [] ∧ ∀ i, i ∈ Region.ready .any ops T → i < n) ∧
   ∀ i, i ∈ Region.ready .any ops T → eOp P ops W0 W1 W2 e d i (AnyE P ops W0 W1 W2 e d n E f (T.setIfInBounds i true)) a
def wld (W0 W1 W2 : World) (e d : Nat) (T : Array Bool) : World := if T.getD d false = true then W2 else if T.getD e false = true then W1 else W0

theorem AnyE.sound {E : Array Bool → Act → Prop} {Q : Exit → Act → World → Prop} {g : Nat} (hed : e ≠ d) (hde : Region.waitsFor .any ops d e = true) (hE : ∀ T a, E T a → wpAny P .any ops Q g T a (wld W0 W1 W2 e d T)) (f : Nat) :
  ∀ T a, HeadInv .any ops n T → AnyE P ops W0 W1 W2 e d n E f T a → wpAny P .any ops Q (g + f) T a (wld W0 W1 W2 e d T) := by
 induction f with
 | zero => exact fun T a _ h => hE T a h
 | succ f ih =>
  intro T a inv h
  refine ⟨fun h0 => absurd h0 h.1.1, fun i hi => ?_⟩
  obtain ⟨o, v, ho, hv, hK⟩ := h.2 i hi
  obtain ⟨hun, x, hx, hwait⟩ := mem_ready.1 hi
  have hlt : i < T.size := by
   rcases Nat.lt_or_ge i T.size with h | h
   ·exact h
   ·simp [Array.getElem?_eq_none h] at hun
  have h2 := ih _ _ (inv.set hi (h.1.2 i hi)) hK
  have same : i ≠ e → i ≠ d → wld W0 W1 W2 e d (T.setIfInBounds i true) = wld W0 W1 W2 e d T := fun h1 h2 => by
   unfold wld; rw [getD_set_ne false h1, getD_set_ne false h2]
  unfold wpOp
  simp only [ho]
  rcases hv with ⟨hw, h1, h3, h4⟩ | ⟨⟨hne, hnd⟩, hw, rfl⟩
  ·rw [if_pos hw]
   refine .inl ?_
   unfold Oper.wp
   by_cases hie : i = e
   ·subst hie
    have hTd : T.getD d false = false := by
     cases hd : T.getD d false with
     | false => rfl
     | true =>
      obtain ⟨od, hod, ed, hed1, hed2, hed3⟩ := Region.waitsFor_spec hde
      have := inv.closed d od hod hd ed hed1 hed2
      rw [hed3, getD_both hun] at this
      cases this
    have hw0 : wld W0 W1 W2 i d T = W0 := by unfold wld; rw [hTd, getD_both hun]; rfl
    have hw1 : wld W0 W1 W2 i d (T.setIfInBounds i true) = W1 := by unfold wld; rw [getD_set_ne false hed, hTd]; simp [hlt]
    rw [hw1] at h2
    rw [hw0, h1 rfl]
    exact h2
   ·by_cases hid : i = d
    ·subst hid
     have hTe : T.getD e false = true := by
      obtain ⟨od, hod, ed, hed1, hed2, hed3⟩ := Region.waitsFor_spec hde
      obtain rfl : od = x := Option.some.inj (hod.symm.trans hx)
      rw [← hed3]
      exact hwait ed hed1 hed2
     have hw1 : wld W0 W1 W2 e i T = W1 := by unfold wld; rw [hTe, getD_both hun]; rfl
     have hw2 : wld W0 W1 W2 e i (T.setIfInBounds i true) = W2 := by unfold wld; simp [hlt]
     rw [hw2] at h2
     rw [hw1, h3 rfl]
     exact h2
    ·rw [same hie hid] at h2
     have hr : (execOp a.eval o).run P (wld W0 W1 W2 e d T) = .ok (.value v) (wld W0 W1 W2 e d T) := by
      unfold wld
      split
      ·exact (h4 hie hid).2.2
      ·split
       ·exact (h4 hie hid).2.1
       ·exact (h4 hie hid).1
     rw [hr]
     exact h2
  ·rw [same hne hnd] at h2
   rw [if_neg (by rw [hw]; exact Bool.false_ne_true)]
   exact h2

theorem AnyE.first {E : Array Bool → Act → Prop} (hsel : Region.noSelect ops = true) (hs : Region.sinkB .any ops n = true) (hc : Region.chainB .any ops n = true) (hn : n < ops.size)
  (hE : ∀ T a, E T a → ∀ j, j ∈ Region.ready .any ops T → n ≤ j) {i : Nat} {o : Oper} {v : Value} (ho : ops[i]? = some o) (hin : i < n) (f : Nat) :
  ∀ T a, HeadInv .any ops n T → i ∈ Region.ready .any ops T →
   (∀ j x, ops[j]? = some x → j ≠ i → T.getD j true = false → (∀ e ∈ x.after, Region.binds .any e = true → e.on ≠ i) → o.apart ops x = true) →
   GivesG P ops W0 W1 W2 e d i o a v → AnyE P ops W0 W1 W2 e d n E f (T.setIfInBounds i true) (a.put o.dst v) → AnyE P ops W0 W1 W2 e d n E (f + 1) T a := by
 have nosel := Region.noSelect_spec hsel
 induction f with
 | zero =>
  intro T a inv hi hap hy h
  have hlt : ∀ j, j ∈ Region.ready .any ops T → j < n := fun j hj =>
   Nat.lt_of_not_le fun hnj => tail_waits hs hc hn inv _ i rfl hin (mem_ready.1 hi).1 j hnj hj
  refine ⟨⟨fun h0 => by simp [h0] at hi, hlt⟩, fun j hj => ?_⟩
  rcases Nat.decEq j i with hne | rfl
  ·exact absurd (hlt j hj) (Nat.not_lt.2 (hE _ _ h j (ready_mono hj hne)))
  ·exact ⟨o, v, ho, hy, h⟩
 | succ f ih =>
  intro T a inv hi hap hy h
  have hun := (mem_ready.1 hi).1
  have hlt : ∀ j, j ∈ Region.ready .any ops T → j < n := fun j hj =>
   Nat.lt_of_not_le fun hnj => tail_waits hs hc hn inv _ i rfl hin hun j hnj hj
  refine ⟨⟨fun h0 => by simp [h0] at hi, hlt⟩, fun j hj => ?_⟩
  rcases Nat.decEq j i with hne | rfl
  ·obtain ⟨hjun, x, hx, hwait⟩ := mem_ready.1 hj
   have hno : ∀ e ∈ x.after, Region.binds .any e = true → e.on ≠ i := fun e he hb h1 => by
    have h2 := hwait e he hb
    rw [h1, getD_both hun] at h2
    exact Bool.false_ne_true h2
   refine eOp_mono (fun a' h' => ?_) (eOp_put hx (hap j x hx hne hjun hno) (fun cs b => nosel i o cs b ho) (fun cs b => nosel j x cs b hx) hy (h.2 j (ready_mono hj hne)))
   refine ih _ a' (inv.set hj (hlt j hj)) (ready_mono hi (Ne.symm hne)) (fun k y hk hki hkT hky => ?_) h'.1 ?_
   ·refine hap k y hk hki ?_ hky
    rcases Nat.decEq j k with hjk | rfl
    ·rwa [getD_set_ne true hjk] at hkT
    ·exact hjun
   ·rw [Array.setIfInBounds_comm _ _ hne]
    exact h'.2
  ·exact ⟨o, v, ho, hy, h⟩
def wpE (P : Program) (ops : Array Oper) (W0 W1 W2 : World) (e d : Nat) (L : Act → Prop) : Nat → List Oper → Act → Prop
 | _, [], a => L a
 | k, o :: l, a => ∃ v, GivesG P ops W0 W1 W2 e d k o a v ∧ wpE P ops W0 W1 W2 e d L (k + 1) l (a.put o.dst v)

def lexE (ops : Array Oper) (g d : Nat) : Nat → Nat → Array Bool → Bool
 | 0, k, T => Region.seqB .any ops g k T && T.getD d false
 | f + 1, k, T => (Region.ready .any ops T).contains k && Region.free .any ops T k && lexE ops g d f (k + 1) (T.setIfInBounds k true)

theorem AnyE.text {g : Nat} {L : Act → Prop} (hsel : Region.noSelect ops = true) (hs : Region.sinkB .any ops n = true) (hc : Region.chainB .any ops n = true) (hn : n < ops.size) (l : List Oper) :
  ∀ k T a, (∀ j, j < l.length → ops[k + j]? = l[j]?) → k + l.length = n → HeadInv .any ops n T → lexE ops g d l.length k T = true →
   wpE P ops W0 W1 W2 e d L k l a → AnyE P ops W0 W1 W2 e d n (fun T' a' => (Region.seqB .any ops g n T' = true ∧ T'.getD d false = true) ∧ L a') l.length T a := by
 induction l with
 | nil =>
  intro k T a _ hk _ hB h
  obtain rfl : k = n := hk
  simp only [List.length_nil, lexE, Bool.and_eq_true] at hB
  exact ⟨hB, h⟩
 | cons o l ih =>
  intro k T a hl hk inv hB h
  have h0 : ops[k]? = some o := by have := hl 0 (by simp); simpa using this
  simp only [List.length_cons, lexE, Bool.and_eq_true, List.contains_iff_mem] at hB
  simp only [List.length_cons] at hk
  have hkn : k < n := by omega
  obtain ⟨v, hy, h2⟩ := h
  refine AnyE.first hsel hs hc hn (fun T' a' hT => seqB_ready hT.1.1) h0 hkn l.length T a inv hB.1.1 (Region.free_spec h0 hB.1.2) hy ?_
  refine ih (k + 1) _ _ (fun j hj => ?_) (by omega) (inv.set hB.1.1 hkn) hB.2 h2
  have := hl (j + 1) (by simp; omega)
  simpa [Nat.add_assoc, Nat.add_comm 1 j] using this
end

def tailE (ops : Array Oper) (n e d : Nat) : Bool :=
 Region.noSelect ops && decide (n < ops.size) && Region.sinkB .any ops n && Region.chainB .any ops n && lexE ops (ops.size - n) d n 0 (Array.replicate ops.size false) && decide (e ≠ d) && Region.waitsFor .any ops d e
theorem two_tail {P : Program} {id : Nat} {Q : Exit → Act → World → Prop} {a : Act} {w W1 W2 : World} {l : List Oper} (n e d : Nat) (hm : P.follows .mixedOrders = true) (hB : tailE l.toArray n e d = true)
  (h : wpE P l.toArray w.drew W1 W2 e d (fun a' => wpList P l.toArray Q (l.drop n) a' W2) 0 (l.take n) a) : (Code.region id l.toArray true).wp P Q a w := by
 simp only [tailE, Bool.and_eq_true, decide_eq_true_eq] at hB
 obtain ⟨⟨⟨⟨⟨⟨hsel, hn⟩, hs⟩, hc⟩, hx⟩, hed⟩, hde⟩ := hB
 have hsz : l.toArray.size = l.length := by simp
 have htl : (l.take n).length = n := by rw [List.length_take]; omega
 have inv : HeadInv .any l.toArray n (Array.replicate l.toArray.size false) :=
  ⟨Array.size_replicate, fun j x _ hT => (by rw [getD_replicate_false] at hT; cases hT), fun t _ ht => getD_in (by rw [Array.size_replicate]; exact ht) (getD_replicate_false _ _)⟩
 have hh := AnyE.text (P := P) (W0 := w.drew) (W1 := W1) (W2 := W2) (e := e) (d := d) (g := l.toArray.size - n) hsel hs hc hn (l.take n) 0 (Array.replicate l.toArray.size false) a
  (fun j hj => by rw [htl] at hj; simp [hj]) (by rw [htl]; omega) inv (by rw [htl]; exact hx) h
 refine wp_region_any hm ?_
 have h2 := AnyE.sound (Q := Q) (g := l.toArray.size - n) hed hde (fun T a' hT => by
  have hw : wld w.drew W1 W2 e d T = W2 := by unfold wld; rw [if_pos hT.1.2]
  rw [hw]
  have := wpAny_of_seq (md := .any) (Q' := Q) (l.drop n) n T a' W2 (fun j => by simp [List.getElem?_drop]) (by rw [List.length_drop, ← hsz]; exact hT.1.1) hT.2
  rwa [List.length_drop, ← hsz] at this) _ _ _ inv hh
 have hw0 : wld w.drew W1 W2 e d (Array.replicate l.toArray.size false) = w.drew := by unfold wld; rw [getD_replicate_false, getD_replicate_false]; rfl
 rw [hw0, htl, show l.toArray.size - n + n = l.toArray.size by omega] at h2
 exact h2
theorem wpE_step {P : Program} {ops : Array Oper} {W0 W1 W2 : World} {e d k : Nat} {L : Act → Prop} {o : Oper} {l : List Oper} {a : Act}
  (h : ∀ K : Act → Prop, (∀ a, wpE P ops W0 W1 W2 e d L (k + 1) l a → K a) → ∃ v, GivesG P ops W0 W1 W2 e d k o a v ∧ K (a.put o.dst v)) : wpE P ops W0 W1 W2 e d L k (o :: l) a :=
 h _ (fun _ h => h)
theorem wpE_nil {P : Program} {ops : Array Oper} {W0 W1 W2 : World} {e d k : Nat} {L : Act → Prop} {a : Act} (h : L a) : wpE P ops W0 W1 W2 e d L k [] a := h
theorem append_run {P : Program} {o : Oper} {a : Act} {w w' : World} {s x : Operand} {t : TypeId} {v v' : Value} {y : Value} (hop : o.op = Op.call { callee := Callee.builtin Builtin.append, args := #[s, x], argTypes := #[t, t] })
  (hs : a.eval s = v) (hx : a.eval x = y) (hrun : (Builtin.append_ #[t, t] o.type #[v, y]).run P w = .ok v' w') : (execOp a.eval o).run P w = .ok (.value v') w' := by
 simp [execOp, hop, resolve, invoke, builtin, hs, hx, hrun, Result.andThen]
end Go.Proofs.YtieifhfgedoiaaaGreatDoor
/- A rule's line, taken in. Conditions: those of each theorem. -/
namespace Go.Proofs.YtieifhfgedoiaaaGreatDoor
open Go.RowKit Go.Lib
open Go.ChangeMaps
set_option linter.unusedVariables false
set_option linter.unusedSimpArgs false
theorem RlOk.mono {w : World} {b b' : Nat} {u : Rl} {V : RlV} (h : RlOk w b u V) (hb : b' ≤ b) : RlOk w b' u V := ⟨own_mono h.l hb, own_mono h.r hb, own_mono h.b hb, own_mono h.p hb⟩
attribute [local go_sem] Ext.cell Ext.froz GivesG Gives
def RowsAt (w : World) (base : Nat) (v : Value) (L : List Rl) : Prop :=
 ∃ Vs : List (Rl × RlV), Vs.map (·.1) = L ∧ w.ownsRow base 86 7 v L.length (flatE (fun y : Rl × RlV => Rl.cells y.1 y.2) Vs) ∧ ∀ y ∈ Vs, RlOk w base y.1 y.2
theorem RowsAt.nil (w : World) (base : Nat) : RowsAt w base (.slice none 0 0) [] := ⟨[], rfl, World.ownsRow_nil _ _ _ _, by simp⟩
theorem RowsAt.low {w w' : World} {base : Nat} {v : Value} {L : List Rl} (h : RowsAt w base v L) (hb : Below w.heap.size w w') : RowsAt w' base v L := by
 obtain ⟨Vs, h1, h2, h3⟩ := h
 exact ⟨Vs, h1, own_low h2 hb, fun y hy => (h3 y hy).low hb⟩
theorem RlOk.butT {w w' : World} {base : Nat} {u : Rl} {V : RlV} {S : List Nat} (h : RlOk w base u V) (hb : ButS S w w') (hS : ∀ B ∈ S, ∃ t a, (t ≠ 146 ∧ t ≠ 110 ∧ t ≠ 60) ∧ Blk w B t a) : RlOk w' base u V :=
 ⟨own_butT h.l hb (fun B hB => by obtain ⟨t, a, ht, k⟩ := hS B hB; exact ⟨t, a, ht.1, k⟩), own_butT h.r hb (fun B hB => by obtain ⟨t, a, ht, k⟩ := hS B hB; exact ⟨t, a, ht.1, k⟩),
  own_butT h.b hb (fun B hB => by obtain ⟨t, a, ht, k⟩ := hS B hB; exact ⟨t, a, ht.2.1, k⟩), own_butT h.p hb (fun B hB => by obtain ⟨t, a, ht, k⟩ := hS B hB; exact ⟨t, a, ht.2.2, k⟩)⟩
theorem RowsAt.butT {w w' : World} {base : Nat} {v : Value} {L : List Rl} {S : List Nat} (h : RowsAt w base v L) (hb : ButS S w w') (hS : ∀ B ∈ S, ∃ t a, (t ≠ 146 ∧ t ≠ 110 ∧ t ≠ 60 ∧ t ≠ 86) ∧ Blk w B t a) : RowsAt w' base v L := by
 obtain ⟨Vs, h1, h2, h3⟩ := h
 exact ⟨Vs, h1, own_butT h2 hb (fun B hB => by obtain ⟨t, a, ht, k⟩ := hS B hB; exact ⟨t, a, ht.2.2.2, k⟩), fun y hy => (h3 y hy).butT hb (fun B hB => by obtain ⟨t, a, ht, k⟩ := hS B hB; exact ⟨t, a, ⟨ht.1, ht.2.1, ht.2.2.1⟩, k⟩)⟩
theorem info96 : (Tryz.prog.info? 86).map (fun i => (i.zero, i.size, i.bytes)) = some (some (.agg #[.string ⟨#[]⟩, .slice none 0 0, .slice none 0 0, .slice none 0 0, .bool false, .bool false, .slice none 0 0]), 7, 120) := by kernel_rfl
theorem own_is {w : World} {base n size : Nat} {e : TypeId} {v : Value} {xs : List Value} (h : w.ownsRow base e size v n xs) {g : Nat} (hg : v.ownBlock = some g) : ∃ a, Blk w g e a := by
 rcases h.2 with ⟨hv, _⟩ | ⟨g', cap, cur, hv, _, hc, _⟩
 ·rw [hv] at hg; cases hg
 ·rw [hv] at hg
  injection hg with hg
  subst hg
  exact ⟨cur, hc⟩
theorem RlOk.oneB {w : World} {base : Nat} {u : Rl} {V : RlV} (h : RlOk w base u V) : (∀ x ∈ Rl.cells u V, x.oneCell' = true) := by
 obtain ⟨p1, c1, e1⟩ := own_shape h.l
 obtain ⟨p2, c2, e2⟩ := own_shape h.r
 obtain ⟨p3, c3, e3⟩ := own_shape h.b
 obtain ⟨p4, c4, e4⟩ := own_shape h.p
 unfold Rl.cells
 rw [e1, e2, e3, e4]
 intro x hx
 simp only [List.mem_cons, List.not_mem_nil, or_false] at hx
 rcases hx with rfl | rfl | rfl | rfl | rfl | rfl | rfl <;> rfl
def Turned (base : Nat) (w w' : World) : Prop := ∃ S : List Nat, (∀ B ∈ S, base ≤ B ∧ ∃ t a, (t ≠ 9 ∧ t ≠ 44) ∧ Blk w B t a) ∧ ButS S w w'
theorem turnedR {base R : Nat} {w w' : World} {s : ByteArray} {p : Nat} {e q : Int} (h : Rd w R s p e q) (hR : base ≤ R) (hb : ButS [R] w w') : Turned base w w' :=
 ⟨[R], fun B hB => by rw [List.mem_singleton] at hB; subst hB; exact ⟨hR, _, _, ⟨by decide, by decide⟩, h.b⟩, hb⟩
def RulePost (w w' : World) (base X mc ml R : Nat) (s : ByteArray) (k : Nat) (o : Out) (b : Bool) : Prop :=
 match o with
 | .ok y => b = true ∧ (∃ v, RsAt w' X mc ml v y (k + 1) ∧ RowsAt w' base v y.rules) ∧ Turned base w w'
 | .bad e q => b = false ∧ (∃ p, Rd w' R s p e q) ∧ Turned base w w'
theorem RsAt.setV {w : World} {X mc ml k : Nat} {v v' : Value} {x : Rs} (h : RsAt w X mc ml v x k) : RsAt (w.setCell ⟨X, 2, none⟩ v') X mc ml v' x k := by
 have h1 := h.but ((ButS.refl [X] w).set (List.mem_singleton.2 rfl) 2 v')
 obtain ⟨b, ne, ⟨n, f, c1, c2, c3⟩, ⟨n', f', l1, l2, l3⟩⟩ := h
 have hb := (ButS.refl [X] w).set (List.mem_singleton.2 rfl) 2 v'
 refine ⟨b.set 2 v', ne, ⟨n, f, c1, c2.but hb (by rw [List.mem_singleton]; exact mapF_ne c2 b), fun c h1 h2 => ?_⟩, ⟨n', f', l1, l2.but hb (by rw [List.mem_singleton]; exact mapF_ne l2 b), l3⟩⟩
 rcases c3 c h1 h2 with h | ⟨y, m, e1, e2, e3, e4, e5⟩
 ·exact .inl h
 ·exact .inr ⟨y, m, e1, e2, e3, e4, e5.but hb (by rw [List.mem_singleton]; exact e5.ne b)⟩
theorem RsAt.more {w : World} {X mc ml k k' : Nat} {v : Value} {x : Rs} (h : RsAt w X mc ml v x k) (hk : k ≤ k') : RsAt w X mc ml v x k' := by
 obtain ⟨b, ne, ⟨n, f, c1, c2, c3⟩, ⟨n', f', l1, l2, l3⟩⟩ := h
 exact ⟨b, ne, ⟨n, f, by omega, c2, c3⟩, ⟨n', f', by omega, l2, l3⟩⟩
theorem RsAt.addR {w : World} {X mc ml k : Nat} {v : Value} {x : Rs} (h : RsAt w X mc ml v x k) (u : Rl) : RsAt w X mc ml v (x.addR u) k := ⟨h.b, h.ne, h.c, h.l⟩
set_option maxRecDepth 100000 in
set_option maxHeartbeats 8000000 in
theorem rule_any {w : World} {R X mc ml k base : Nat} {v : Value} {s : ByteArray} {x : Rs} (h : Rd w R s 0 0 0) (hx : RsAt w X mc ml v x k) (hr : RowsAt w base v x.rules) (hl : x.rules.length ≤ 256) (hs : s.size ≤ 100000000) (hbR : base ≤ R) (hbX : base ≤ X) :
  Calls Tryz.prog 23 #[.pointer (some ⟨X, 0, none⟩), .pointer (some ⟨R, 0, none⟩)] w fun e w' => ∃ b, e = .returned (.bool b) ∧ RulePost w w' base X mc ml R s k (ruleR x s) b := by
 have hXl := hid hx.b.lt
 have hRl := hid h.lt
 have hbw : Hid (base ≤ w.heap.size) := hid (by have := h.lt; omega)
 have K1 := hid (Blk.new w 86 #[.string ⟨#[]⟩, .slice none 0 0, .slice none 0 0, .slice none 0 0, .bool false, .bool false, .slice none 0 0])
 have hb0 : Below w.heap.size w (w.alloc (.cells #[.string ⟨#[]⟩, .slice none 0 0, .slice none 0 0, .slice none 0 0, .bool false, .bool false, .slice none 0 0] 86)) := (Below.refl _ w).alloc (Nat.le_refl _) _
 have hP := hid (parts_any (h.low hb0) (hx.low hb0).cls K1.out hs)
 obtain ⟨U, hU⟩ : ∃ U, w.heap.size = U := ⟨_, rfl⟩
 have HX := hid (hx.low hb0)
 have HR := hid (hr.low hb0)
 have HRd := hid (h.low hb0)
 have HR0 := hid hr
 have HRd0 := hid h
 have HX0 := hid hx
 have nXR : X ≠ R := blk_ne hx.b h.b (by decide)
 have hB0 := hid hb0
 clear hb0 h hx hr
 go_enter Tryz.func23, Tryz.ntmps23
 go_wp2_with fail
 generalize w.alloc (.cells #[.string ⟨#[]⟩, .slice none 0 0, .slice none 0 0, .slice none 0 0, .bool false, .bool false, .slice none 0 0] 86) = W1 at *
 rw [hU] at hP K1 hB0
 try simp only [hU]
 have HU := hid hU
 clear hU
 go_at_call 37
 with_reducible refine Calls.mono hP.out ?_
 rintro e w2 ⟨b, rfl, hPP⟩
 clear hP
 obtain ⟨n, hn⟩ : ∃ n, x.rules.length = n := ⟨_, rfl⟩
 have hnH := hid hn
 rw [hn] at hl
 cases hpr : partsR x.said s with
 | bad er q =>
  rw [hpr] at hPP
  obtain ⟨rfl, ⟨p2, hR2⟩, hB2⟩ := hPP
  have hBw : Hid (ButS [R] w w2) := hid ((ButS.nil (S := [R]) (by have := hB0.out; rw [← HU.out] at this; exact this)).later hB2 (fun y hy => by simp at hy; rcases hy with rfl | rfl; exact .inr (by simp); exact .inl (by have := HU.out; omega)))
  have HX2 := hid (HX.out.but hB2 (by simp; exact ⟨nXR, blk_ne HX.out.b K1.out (by decide)⟩) (fun B hB => by simp at hB; rcases hB with rfl | rfl; exact ⟨_, _, HRd.out.b⟩; exact ⟨_, _, K1.out⟩))
  obtain ⟨pv, cv, rfl⟩ : ∃ pv cv, v = .slice pv n cv := by
   obtain ⟨Vs, h1, h2, _⟩ := HR.out
   rw [hn] at h2
   exact own_shape h2
  have HR2 := hid hR2
  clear hR2 hB2 hn
  obtain ⟨x0, x1, x2, xf⟩ := HX2.out.b.c3
  have r2 := HR2.out.c2
  have r3 := HR2.out.c3
  have rf := HR2.out.fr
  by_cases h256 : n = 256
  ·subst h256
   by_cases hq : 0 < q
   ·have hE : Hid (ruleR x s = .bad 3 0) := by unfold ruleR; rw [hpr]; dsimp only; rw [if_pos ⟨hnH.out, hq⟩]; exact hid rfl
    have t1 := dT (show (0 : Int) < q by omega)
    have t2 : decide (0 < q) = true := decide_eq_true hq
    clear hpr hq
    go_wp2_with fail
    go_ret
    exact ⟨_, rfl, by rw [hE.out]; exact ⟨rfl, ⟨_, HR2.out.bad 3 0⟩, turnedR HRd0.out hbR ((hBw.out.set (by simp) 2 _).set (by simp) 3 _)⟩⟩
   ·obtain rfl : q = 0 := by omega
    have hE : Hid (ruleR x s = .bad er 0) := by unfold ruleR; rw [hpr]; dsimp only; rw [if_neg (by omega)]; exact hid rfl
    clear hpr hq
    go_wp2_with fail
    go_ret
    exact ⟨_, rfl, by rw [hE.out]; exact ⟨rfl, ⟨_, HR2.out⟩, turnedR HRd0.out hbR hBw.out⟩⟩
  ·have hE : Hid (ruleR x s = .bad er q) := by unfold ruleR; rw [hpr]; dsimp only; rw [if_neg (by rw [hnH.out]; omega)]; exact hid rfl
   have t1 : ((n : Int) == 256) = false := beq_false_of (by omega)
   clear hpr h256
   go_wp2_with fail
   go_ret
   exact ⟨_, rfl, by rw [hE.out]; exact ⟨rfl, ⟨_, HR2.out⟩, turnedR HRd0.out hbR hBw.out⟩⟩
 | ok u q =>
  rw [hpr] at hPP
  obtain ⟨rfl, ⟨p2, hR2⟩, ⟨V, hU2, hV2⟩, hB2⟩ := hPP
  have hBw : Hid (ButS [R] w w2) := hid ((ButS.nil (S := [R]) (by have := hB0.out; rw [← HU.out] at this; exact this)).later hB2 (fun y hy => by simp at hy; rcases hy with rfl | rfl; exact .inr (by simp); exact .inl (by have := HU.out; omega)))
  have HX2 := hid (HX.out.but hB2 (by simp; exact ⟨nXR, blk_ne HX.out.b K1.out (by decide)⟩) (fun B hB => by simp at hB; rcases hB with rfl | rfl; exact ⟨_, _, HRd.out.b⟩; exact ⟨_, _, K1.out⟩))
  obtain ⟨pv, cv, rfl⟩ : ∃ pv cv, v = .slice pv n cv := by
   obtain ⟨Vs, h1, h2, _⟩ := HR.out
   rw [hn] at h2
   exact own_shape h2
  have HR2 := hid hR2
  have HU2 := hid hU2
  have HV2 := hid hV2
  have hB2H := hid hB2
  clear hR2 hB2 hU2 hV2
  obtain ⟨x0, x1, x2, xf⟩ := HX2.out.b.c3
  have rf := HR2.out.fr
  have r2 := HR2.out.c2
  have r3 := HR2.out.c3
  by_cases h256 : n = 256
  ·subst h256
   have hE : Hid (ruleR x s = .bad 3 0) := by unfold ruleR; rw [hpr]; dsimp only; rw [if_pos hnH.out]; exact hid rfl
   clear hpr hn
   go_wp2_with fail
   go_ret
   exact ⟨_, rfl, by rw [hE.out]; exact ⟨rfl, ⟨_, HR2.out.bad 3 0⟩, turnedR HRd0.out hbR ((hBw.out.set (by simp) 2 _).set (by simp) 3 _)⟩⟩
  ·have hE : Hid (ruleR x s = .ok (x.addR u)) := by unfold ruleR; rw [hpr]; dsimp only; rw [if_neg (by rw [hnH.out]; exact h256)]; exact hid rfl
   have t1 : ((n : Int) == 256) = false := beq_false_of (by omega)
   clear hpr hn
   obtain ⟨Vl, Vr, Vb, Vp⟩ := V
   obtain ⟨p1, c1, rfl⟩ := own_shape HV2.out.l
   obtain ⟨p2, c2, rfl⟩ := own_shape HV2.out.b
   obtain ⟨p3, c3, rfl⟩ := own_shape HV2.out.r
   obtain ⟨p4, c4, rfl⟩ := own_shape HV2.out.p
   replace HU2 : Hid (Blk w2 U 86 #[.string u.line, .slice p1 u.left.length c1, .slice p3 u.right.length c3, .slice p2 u.body.length c2, .bool u.begins, .bool u.ends, .slice p4 u.phones.length c4]) := HU2
   obtain ⟨i0, hi, hz0, hz1, hz2⟩ := info_parts info96
   obtain ⟨Vs, hVs1, hVs2, hVs3⟩ := HR0.out
   rw [hnH.out] at hVs2
   have hgU := hid (fun g hg => own_ge hVs2 (g := g) hg)
   have hSt0 := hid (fun g hg => own_is hVs2 (g := g) hg)
   have HRw : Hid (RowsAt w2 base (.slice pv n cv) x.rules) := hid (HR0.out.butT hBw.out (fun B hB => by rw [List.mem_singleton] at hB; subst hB; exact ⟨70, _, by decide, HRd0.out.b⟩))
   clear hVs1 hVs2 hVs3
   obtain ⟨Vs, hVs1, hVs2, hVs3⟩ := HRw.out
   rw [hnH.out] at hVs2
   have hbw2 : base ≤ w2.heap.size := Nat.le_trans hbw.out hBw.out.size
   obtain ⟨v', W4, hrun, hown', hgrow, hnil⟩ := run_append_own (P := Tryz.prog) ((w2.alloc (.cells #[.string u.line, .slice p1 u.left.length c1, .slice p3 u.right.length c3, .slice p2 u.body.length c2, .bool u.begins, .bool u.ends, .slice p4 u.phones.length c4] 86)).drew) base 63 63 86 i0 _ 7 120 Tryz.underlying63 hi hz0 hz1 hz2 rfl (by decide)
    (.slice pv n cv) n (flatE (fun y : Rl × RlV => Rl.cells y.1 y.2) Vs) ((hVs2.alloc _).drew) ⟨w2.heap.size, 0, none⟩ 1 1 [.string u.line, .slice p1 u.left.length c1, .slice p3 u.right.length c3, .slice p2 u.body.length c2, .bool u.begins, .bool u.ends, .slice p4 u.phones.length c4] rfl (blk_list (show Blk ((w2.alloc (.cells #[.string u.line, .slice p1 u.left.length c1, .slice p3 u.right.length c3, .slice p2 u.body.length c2, .bool u.begins, .bool u.ends, .slice p4 u.phones.length c4] 86)).drew) w2.heap.size 86 (List.toArray [.string u.line, .slice p1 u.left.length c1, .slice p3 u.right.length c3, .slice p2 u.body.length c2, .bool u.begins, .bool u.ends, .slice p4 u.phones.length c4]) from Blk.new w2 86 _)) (HV2.out.oneB) (by unfold maxLen; omega) (by omega) (by show base ≤ (w2.alloc (.cells #[.string u.line, .slice p1 u.left.length c1, .slice p3 u.right.length c3, .slice p2 u.body.length c2, .bool u.begins, .bool u.ends, .slice p4 u.phones.length c4] 86)).heap.size; simp <;> omega)
   clear hnil
   obtain ⟨So, hSo⟩ : ∃ So, rowS (.slice pv n cv) = So := ⟨_, rfl⟩
   have HBs := hid (((ButS.of (S := So) ((Below.refl w2.heap.size w2).alloc (Nat.le_refl _) (.cells #[.string u.line, .slice p1 u.left.length c1, .slice p3 u.right.length c3, .slice p2 u.body.length c2, .bool u.begins, .bool u.ends, .slice p4 u.phones.length c4] 86)).drew)).grownS hgrow (fun k hk => hSo ▸ mem_rowS hk))
   have hSt : Hid (∀ B ∈ So, (∃ a, Blk w2 B 86 a) ∧ base ≤ B ∧ B < U) := hid (fun B hB => by
    have hm := rowS_mem (hSo.symm ▸ hB)
    have := hgU.out B hm
    exact ⟨own_is hVs2 hm, this.1, by have := HU.out; omega⟩)
   have HX4 := hid (HX2.out.but HBs.out (fun hX => by obtain ⟨⟨a, ha⟩, _⟩ := hSt.out X hX; exact blk_ne HX2.out.b ha (by decide) rfl) (fun B hB => by obtain ⟨⟨a, ha⟩, _⟩ := hSt.out B hB; exact ⟨_, _, ha⟩))
   have HU4 := hid (HBs.out.blk HU2.out (fun hX => by have := (hSt.out U hX).2.2; omega))
   have HV4 := hid (HV2.out.butT HBs.out (fun B hB => by obtain ⟨⟨a, ha⟩, _⟩ := hSt.out B hB; exact ⟨_, _, by decide, ha⟩))
   have hRows4 : Hid (RowsAt W4 base v' (x.addR u).rules) := hid ⟨Vs ++ [(u, ⟨.slice p1 u.left.length c1, .slice p3 u.right.length c3, .slice p2 u.body.length c2, .slice p4 u.phones.length c4⟩)], by rw [List.map_append, hVs1]; rfl, by
    show W4.ownsRow base 86 7 v' (x.rules ++ [u]).length _
    rw [List.length_append, hnH.out, flatE_snoc]; exact hown', fun y hy => by
    rcases List.mem_append.1 hy with hy | hy
    ·exact (hVs3 y hy).butT HBs.out (fun B hB => by obtain ⟨⟨a, ha⟩, _⟩ := hSt.out B hB; exact ⟨_, _, by decide, ha⟩)
    ·rw [List.mem_singleton] at hy; subst hy; exact HV4.out.mono (by have := hbw.out; have := hB0.out.size; have := HU.out; omega)⟩
   obtain ⟨pp, cap, rfl⟩ := own_shape hown'
   have HRun := hid hrun
   have hSoH := hid hSo
   clear hrun hown' hgrow hVs1 hVs2 hVs3 hSo
   have hlX2 := HX2.out.b.lt
   have hlU2 := HU2.out.lt
   obtain ⟨u0, u1, u2, u3, u4, u5, u6, uf⟩ := HU2.out.c7
   obtain ⟨y0, y1, y2, yf⟩ := HX4.out.b.c3
   obtain ⟨z0, z1, z2, z3, z4, z5, z6, zf⟩ := HU4.out.c7
   go_wp2_with fail
   refine two_tail (W1 := (w2.alloc (.cells #[.string u.line, .slice p1 u.left.length c1, .slice p3 u.right.length c3, .slice p2 u.body.length c2, .bool u.begins, .bool u.ends, .slice p4 u.phones.length c4] 86)).drew) (W2 := W4) 8 6 7 (by kernel_rfl) (by kernel_rfl) ?_
   simp only [List.take_succ_cons, List.take_zero, List.drop_succ_cons, List.drop_zero]
   refine wpE_step (fun K hK => ?_); go_simp; refine hK _ ?_; clear hK K
   refine wpE_step (fun K hK => ?_); go_simp; refine hK _ ?_; clear hK K
   refine wpE_step (fun K hK => ?_); go_simp; refine hK _ ?_; clear hK K
   refine wpE_step (fun K hK => ?_); go_simp; refine hK _ ?_; clear hK K
   refine wpE_step (fun K hK => ?_); go_simp; refine hK _ ?_; clear hK K
   refine wpE_step (fun K hK => ?_); go_simp; refine hK _ ?_; clear hK K
   refine wpE_step (fun K hK => ?_); go_simp; refine hK _ ?_; clear hK K
   refine wpE_step (fun K hK => ?_)
   refine ⟨_, .inl ⟨rfl, fun h => absurd h (by decide), fun _ => append_run (s := .tmp 36) (x := .tmp 38) rfl rfl rfl HRun.out, fun _ h => absurd rfl h⟩, hK _ ?_⟩
   clear hK K
   refine wpE_nil ?_
   clear HRun
   go_wp2_with fail
   go_ret
   exact ⟨_, rfl, by rw [hE.out]; exact ⟨rfl, ⟨_, (HX4.out.setV.addR u).more (Nat.le_succ _), hRows4.out.butT ((ButS.refl [X] W4).set (List.mem_singleton.2 rfl) 2 _) (fun B hB => by rw [List.mem_singleton] at hB; subst hB; exact ⟨65, _, by decide, HX4.out.b⟩)⟩,
    ⟨R :: X :: So, fun B hB => by
     rcases List.mem_cons.1 hB with rfl | hB
     ·exact ⟨hbR, _, _, ⟨by decide, by decide⟩, HRd0.out.b⟩
     ·rcases List.mem_cons.1 hB with rfl | hB
      ·exact ⟨hbX, _, _, ⟨by decide, by decide⟩, HX0.out.b⟩
      ·obtain ⟨a, ha⟩ := hSt0.out B (rowS_mem (hSoH.out.symm ▸ hB))
       exact ⟨(hSt.out B hB).2.1, _, _, ⟨by decide, by decide⟩, ha⟩,
     ((hBw.out.mono (T := R :: X :: So) (fun k hk _ => by rw [List.mem_singleton] at hk; subst hk; simp)).trans (HBs.out.mono (T := R :: X :: So) (fun k hk _ => by simp [hk]))).set (by simp) 2 _⟩⟩⟩
end Go.Proofs.YtieifhfgedoiaaaGreatDoor
/-
  DERIVED: THE SHELF's CONTRACTS AT THIS DUMP, IN PLAIN WORDS (tools/lay-plain.mjs out of 'TrydShelfA.lean', which tools/lay-shelf.mjs wrote): THE SAME DECLARATIONS UNDER THE SAME NAMES: 'import', 'namespace', 'open', 'def', 'theorem' AND NOTHING ELSE: no command of the shelf's: FOR A HAND-IN. Each laying: the table of numbers ('.._ren') and one theorem, a field a fact of the dump's own or the kernel's comparison; each contract: ONE APPLICATION.
-/
namespace Go.Proofs
open Go.Shelf
open Go.RowKit in
def Tryz.lays146_ren : Go.Shelf.Ren := ⟨fun | 146 => 22 | 221 => 36 | 268 => 53 | 138 => 54 | 143 => 55 | 195 => 71 | 197 => 72 | 218 => 73 | 219 => 74 | 260 => 80 | 217 => 81 | 225 => 82 | 224 => 83 | 267 => 84 | 266 => 95 | 314 => 96 | n => n, fun | 9 => 9 | 31 => 66 | 3 => 3 | 4 => 4 | 0 => 0 | 105 => 151 | 21 => 21 | 5 => 5 | 46 => 159 | 119 => 175 | 139 => 178 | 138 => 177 | 146 => 180 | 51 => 179 | n => n, fun | 1 => 0 | 3 => 1 | 4 => 2 | n => n⟩
theorem Tryz.lays146 : Go.Proofs.Lays.n146 Tryz.prog Tryz.lays146_ren := {
 mixed := by kernel_rfl
 f138 := Tryz.func54.trans (congrArg some (by kernel_rfl))
 f143 := Tryz.func55.trans (congrArg some (by kernel_rfl))
 f146 := Tryz.func22.trans (congrArg some (by kernel_rfl))
 f195 := Tryz.func71.trans (congrArg some (by kernel_rfl))
 f197 := Tryz.func72.trans (congrArg some (by kernel_rfl))
 f217 := Tryz.func81.trans (congrArg some (by kernel_rfl))
 f218 := Tryz.func73.trans (congrArg some (by kernel_rfl))
 f219 := Tryz.func74.trans (congrArg some (by kernel_rfl))
 f221 := Tryz.func36.trans (congrArg some (by kernel_rfl))
 f224 := Tryz.func83.trans (congrArg some (by kernel_rfl))
 f225 := Tryz.func82.trans (congrArg some (by kernel_rfl))
 f260 := Tryz.func80.trans (congrArg some (by kernel_rfl))
 f266 := Tryz.func95.trans (congrArg some (by kernel_rfl))
 f267 := Tryz.func84.trans (congrArg some (by kernel_rfl))
 f268 := Tryz.func53.trans (congrArg some (by kernel_rfl))
 f314 := Tryz.func96.trans (congrArg some (by kernel_rfl))
 t0 := Tryz.underlying0
 a0 := Tryz.isAgg0
 z0 := Tryz.sizeOf0
 v0 := Tryz.zeroValue0
 t3 := Tryz.underlying3
 a3 := Tryz.isAgg3
 z3 := Tryz.sizeOf3
 v3 := Tryz.zeroValue3
 t4 := Tryz.underlying4
 a4 := Tryz.isAgg4
 z4 := Tryz.sizeOf4
 v4 := Tryz.zeroValue4
 t5 := Tryz.underlying5
 a5 := Tryz.isAgg5
 z5 := Tryz.sizeOf5
 v5 := Tryz.zeroValue5
 t9 := Tryz.underlying9
 a9 := Tryz.isAgg9
 z9 := Tryz.sizeOf9
 v9 := Tryz.zeroValue9
 t21 := Tryz.underlying21
 a21 := Tryz.isAgg21
 z21 := Tryz.sizeOf21
 v21 := Tryz.zeroValue21
 t31 := Tryz.underlying66
 a31 := Tryz.isAgg66
 z31 := Tryz.sizeOf66
 v31 := Tryz.zeroValue66
 t46 := Tryz.underlying159
 a46 := Tryz.isAgg159
 z46 := Tryz.sizeOf159
 v46 := Tryz.zeroValue159
 t51 := Tryz.underlying179
 a51 := Tryz.isAgg179
 z51 := Tryz.sizeOf179
 v51 := Tryz.zeroValue179
 t105 := Tryz.underlying151
 a105 := Tryz.isAgg151
 z105 := Tryz.sizeOf151
 v105 := Tryz.zeroValue151
 t119 := Tryz.underlying175
 a119 := Tryz.isAgg175
 z119 := Tryz.sizeOf175
 t138 := Tryz.underlying177
 a138 := Tryz.isAgg177
 z138 := Tryz.sizeOf177
 v138 := Tryz.zeroValue177
 t139 := Tryz.underlying178
 a139 := Tryz.isAgg178
 z139 := Tryz.sizeOf178
 v139 := Tryz.zeroValue178
 t146 := Tryz.underlying180
 a146 := Tryz.isAgg180
 z146 := Tryz.sizeOf180
 v146 := Tryz.zeroValue180
 g1 := by kernel_rfl
 g3 := by kernel_rfl
 g4 := by kernel_rfl }
open Go.RowKit Go.Lib in
theorem Tryz.strings_Split (s sep : ByteArray) (m : Int) (w : World) (hs : s.size < 4294967281) (hm : w.cell? ⟨0, 0, none⟩ = some (.int .i64 m)) (h1 : 1 ≤ sep.size) :
  Calls Tryz.prog 22 #[.string s, .string sep] w fun e w' =>
   e = .returned (.slice (some ⟨w.heap.size, 0, none⟩) (Lib.countB s sep + 1) (Lib.countB s sep + 1)) ∧ w' = w.alloc (.cells ((Lib.splitB sep 0 (Lib.countB s sep) s).map Value.string).toArray 9) := Any.strings_Split Tryz.lays146 (by kernel_rfl) s sep m w hs hm h1
end Go.Proofs
/- A scope out of which the run may jump ahead to one label. Conditions: those of each theorem. -/
namespace Go.Proofs.YtieifhfgedoiaaaGreatDoor
open Go
set_option linter.unusedVariables false
section
variable {P : Program} {a : Act} {w : World} {Q : Exit → Act → World → Prop} {l : Nat} {J : Act → World → Prop}
theorem jump_normal : Exit.jump l J Q .normal a w = Q .normal a w := rfl
theorem jump_exit (id : Nat) : Exit.jump l J Q (.exit id) a w = Q (.exit id) a w := rfl
theorem jump_ret : Exit.jump l J Q .ret a w = Q .ret a w := rfl
theorem jump_panic (ch : List PanicEntry) : Exit.jump l J Q (.panic ch) a w = Q (.panic ch) a w := rfl
structure Ahead (P : Program) (rest : Code) (Q : Exit → Act → World → Prop) (a : Act) (w : World) : Prop where
 out : rest.wp P (Exit.noGoto Q) a w
theorem wp_scope_ahead {c rest : Code} (l : Nat) (hf : findLabel c l = some rest) (h : c.wp P (Exit.jump l (Ahead P rest Q) Q) a w) : (Code.scope c).wp P Q a w :=
 wp_scope_jumps l (Ahead P rest Q) (fun _ _ => 0) hf h (fun a w hJ => Code.wp_mono (fun e a' w' hh => by
  cases e with
  | goto l' => exact hh.elim
  | normal => exact hh
  | exit id => exact hh
  | ret => exact hh
  | panic ch => exact hh
  | outgrown => exact hh) hJ.out)
end
end Go.Proofs.YtieifhfgedoiaaaGreatDoor
/- rule.Read. Conditions: those of each theorem. -/
namespace Go.Proofs.YtieifhfgedoiaaaGreatDoor
open Go.RowKit Go.Lib
open Go.ChangeMaps
set_option linter.unusedVariables false
set_option linter.unusedSimpArgs false
attribute [local go_sem] ExtS.cell ExtS.froz upE_value upE_skip upE_enter jump_normal jump_exit jump_ret jump_panic
theorem own_butG {w w' : World} {base n size : Nat} {e : TypeId} {v : Value} {xs : List Value} {S : List Nat} (h : w.ownsRow base e size v n xs) (hb : ButS S w w') (hS : ∀ B ∈ S, ∀ cur, w.heap[B]? ≠ some (.cells cur e (0, 0))) : w'.ownsRow base e size v n xs := by
 refine ⟨h.1, ?_⟩
 rcases h.2 with hh | ⟨g, cap, cur, h1, h2, h3, h4⟩
 ·exact .inl hh
 ·exact .inr ⟨g, cap, cur, h1, h2, (hb.block g (Array.getElem?_eq_some_iff.1 h3).1 fun hg => hS g hg cur h3).trans h3, h4⟩
theorem RlOk.butG {w w' : World} {base : Nat} {u : Rl} {V : RlV} {S : List Nat} (h : RlOk w base u V) (hb : ButS S w w') (hS : ∀ B ∈ S, ∀ cur t, t = 146 ∨ t = 110 ∨ t = 60 ∨ t = 86 → w.heap[B]? ≠ some (.cells cur t (0, 0))) : RlOk w' base u V :=
 ⟨own_butG h.l hb (fun B hB cur => hS B hB cur _ (by simp)), own_butG h.r hb (fun B hB cur => hS B hB cur _ (by simp)), own_butG h.b hb (fun B hB cur => hS B hB cur _ (by simp)), own_butG h.p hb (fun B hB cur => hS B hB cur _ (by simp))⟩
theorem RowsAt.butG {w w' : World} {base : Nat} {v : Value} {L : List Rl} {S : List Nat} (h : RowsAt w base v L) (hb : ButS S w w') (hS : ∀ B ∈ S, ∀ cur t, t = 146 ∨ t = 110 ∨ t = 60 ∨ t = 86 → w.heap[B]? ≠ some (.cells cur t (0, 0))) : RowsAt w' base v L := by
 obtain ⟨Vs, h1, h2, h3⟩ := h
 exact ⟨Vs, h1, own_butG h2 hb (fun B hB cur => hS B hB cur _ (by simp)), fun y hy => (h3 y hy).butG hb hS⟩
theorem not_cells {w : World} {KS : Value → Prop} {m n : Nat} {f : Value → Option Value} (h : MapF KS w m n f) (cur : Array Value) (t : TypeId) : w.heap[m]? ≠ some (.cells cur t (0, 0)) := by
 obtain ⟨es, c, hb, _⟩ := h
 rw [hb]; exact fun e => by cases e
theorem not_type {w : World} {B : Nat} {t : TypeId} {a : Array Value} (h : Blk w B t a) {t' : TypeId} (hn : t ≠ t') (cur : Array Value) : w.heap[B]? ≠ some (.cells cur t' (0, 0)) := by
 unfold Blk at h
 rw [h]
 intro e
 injection e with e; injection e with _ e
 exact hn e
theorem lineR_len {x y : Rs} {s : ByteArray} (h : lineR x s = .ok y) (hx : x.rules.length ≤ 256) : y.rules.length ≤ 256 := by
 unfold lineR at h
 split at h
 ·injection h with h; subst h; exact hx
 ·split at h
  ·unfold clsR at h
   split at h
   ·injection h with h; subst h; exact hx
   ·cases h
  ·unfold ruleR at h
   split at h
   ·split at h
    ·cases h
    ·injection h with h; subst h
     show (x.rules ++ [_]).length ≤ 256
     rw [List.length_append]
     simp
     omega
   ·split at h <;> cases h
theorem splitB_le (sep : ByteArray) (save : Nat) : ∀ (k : Nat) (s : ByteArray), ∀ t ∈ splitB sep save k s, t.size ≤ s.size + save
 | 0, s, t, h => by simp [splitB] at h; subst h; omega
 | k + 1, s, t, h => by
  unfold splitB at h
  split at h
  ·simp at h; subst h; omega
  ·rcases List.mem_cons.1 h with rfl | h
   ·simp; omega
   ·have := splitB_le sep save k _ t h
    simp at this
    omega
theorem rows_mono {w : World} {b b' : Nat} {v : Value} {L : List Rl} (h : RowsAt w b v L) (hb : b' ≤ b) : RowsAt w b' v L := by
 obtain ⟨Vs, h1, h2, h3⟩ := h
 exact ⟨Vs, h1, own_mono h2 hb, fun y hy => (h3 y hy).mono hb⟩
theorem toList_ne {t : ByteArray} (h0 : t.size ≠ 0) : t.toList ≠ [] := by
 intro e
 apply h0
 have := congrArg List.length e
 rw [toList_data] at this
 show t.data.size = 0
 simpa using this
def Bd {α : Type} (n : Nat) (r : Res α) : Prop := match r with
 | .bad _ q => q ≤ n
 | .ok _ _ => True
theorem Bd.bind {α β : Type} {n : Nat} {x : Res α} {f : α → Nat → Res β} (h : Bd n x) (hf : ∀ a p, x = .ok a p → Bd n (f a p)) : Bd n (x.bind f) := by
 cases x with
 | ok a p => exact hf a p rfl
 | bad e q => exact h
theorem bd_must {n : Nat} {s : ByteArray} {p c : Nat} (h : p ≤ n) : Bd n (mustR s p c) := by
 cases hb : isB s p c
 ·rw [mustR_no hb]; exact h
 ·rw [mustR_yes hb]; trivial
theorem must_le {s : ByteArray} {p c q : Nat} {u : Unit} (h : mustR s p c = .ok u q) : q ≤ s.size := by
 cases hb : isB s p c
 ·rw [mustR_no hb] at h; cases h
 ·rw [mustR_yes hb] at h
  injection h with _ h
  have := isB_lt hb
  omega
theorem bd_pieces {s : ByteArray} : ∀ (k p : Nat) (acc : List One), s.size - p = k → p ≤ s.size → Bd s.size (piecesR s p acc) := by
 intro k
 induction k using Nat.strongRecOn with
 | ind k ih =>
  intro p acc hk hp
  cases hl : plB s p
  ·rw [piecesR_no hl]
   split
   ·exact hp
   ·trivial
  ·have hw := wdN_pos (plB_lt hl)
   by_cases h64 : acc.length = 64
   ·rw [piecesR_long hl h64]; exact hp
   ·rw [piecesR_more hl h64]
    exact ih _ (by have := plB_lt hl; omega) _ _ rfl hw.2.2
theorem bd_items {said : Nat → Bool} {s : ByteArray} : ∀ (k p : Nat) (acc : List Item), s.size - p = k → p ≤ s.size → Bd s.size (itemsR said s p acc) := by
 intro k
 induction k using Nat.strongRecOn with
 | ind k ih =>
  intro p acc hk hp
  cases hn : nameB s p
  ·cases hl : plB s p
   ·rw [itemsR_end hn hl]; trivial
   ·have hw := wdN_pos (plB_lt hl)
    by_cases h64 : acc.length = 64
    ·rw [itemsR_long hn hl h64]; exact hp
    ·rw [itemsR_more hn hl h64]
     exact ih _ (by have := plB_lt hl; omega) _ _ rfl hw.2.2
  ·have hlt := (of_decide_eq_true hn).1
   cases hs : said (byteN s p - 65)
   ·rw [itemsR_unsaid hn hs]; exact hp
   ·by_cases h64 : acc.length = 64
    ·rw [itemsR_nlong hn hs h64]; exact hp
    ·rw [itemsR_name hn hs h64]
     exact ih _ (by omega) _ _ rfl (by omega)
theorem bd_ph {s : ByteArray} {p : Nat} (hp : p ≤ s.size) : Bd s.size (phR s p) := by
 rw [phR_ext s p hp]
 cases hr : phR (s.extract p s.size) 0 with
 | ok l q => trivial
 | bad e q =>
  have := phR_le hr
  rw [ext_size] at this
  show p + q ≤ s.size
  omega
theorem bd_says {s : ByteArray} {p : Nat} (hp : p ≤ s.size) : Bd s.size (saysR s p) := by
 unfold saysR
 split
 ·trivial
 ·refine (bd_must hp).bind (fun a q hq => ?_)
  have := must_le hq
  split
  ·exact this
  ·exact bd_ph this
theorem bd_body {s : ByteArray} {p : Nat} (hp : p ≤ s.size) : Bd s.size (bodyR s p) := by
 unfold bodyR
 refine (bd_must hp).bind (fun a q hq => (bd_pieces _ q [] rfl (must_le hq)).bind (fun l r hr => (bd_must (piecesR_le _ _ _ _ _ rfl hr (must_le hq))).bind (fun _ _ _ => trivial)))
theorem bd_parts (said : Nat → Bool) (s : ByteArray) : Bd s.size (partsR said s) := by
 unfold partsR
 have h0 := hashR_le (s := s) (p := 0) (Nat.zero_le _)
 refine (bd_items _ _ [] rfl h0).bind (fun l p hp => ?_)
 have hp1 := itemsR_le _ _ _ _ _ rfl hp h0
 refine (bd_body hp1).bind (fun u p hp => ?_)
 have hp2 := bodyR_le hp
 refine (bd_items _ _ [] rfl hp2).bind (fun r p hp => ?_)
 have hp3 := itemsR_le _ _ _ _ _ rfl hp hp2
 exact (bd_must (hashR_le hp3)).bind (fun _ q hq => (bd_must (must_le hq)).bind (fun _ q hq => (bd_says (must_le hq)).bind (fun _ _ _ => trivial)))
theorem bd_class (x : Rs) {s : ByteArray} (h : 1 ≤ s.size) : Bd s.size (classR x s) := by
 unfold classR
 split
 ·exact Nat.zero_le _
 ·exact (bd_must h).bind (fun _ q hq => (bd_must (must_le hq)).bind (fun _ q hq => (bd_must (must_le hq)).bind (fun _ q hq => (bd_pieces _ q [] rfl (must_le hq)).bind (fun l p hp => by
   split
   ·rename_i h; exact Nat.le_of_lt h
   ·trivial))))
theorem clsR_le {x : Rs} {s : ByteArray} {e : Int} {q : Nat} (h1 : 1 ≤ s.size) (h : clsR x s = .bad e q) : q ≤ s.size := by
 have hb := bd_class x h1
 unfold clsR at h
 cases hc : classR x s with
 | ok l p => rw [hc] at h; cases h
 | bad e' q' =>
  rw [hc] at h hb
  injection h with _ h
  subst h
  exact hb
theorem ruleR_le {x : Rs} {s : ByteArray} {e : Int} {q : Nat} (h : ruleR x s = .bad e q) : q ≤ s.size := by
 have hb := bd_parts x.said s
 unfold ruleR at h
 cases hc : partsR x.said s with
 | ok l p =>
  rw [hc] at h
  dsimp only at h
  split at h
  ·injection h with _ h; omega
  ·cases h
 | bad e' q' =>
  rw [hc] at h hb
  dsimp only at h
  split at h
  ·injection h with _ h; omega
  ·injection h with _ h; subst h; exact hb
theorem clsR_rules {x y : Rs} {s : ByteArray} (h : clsR x s = .ok y) : y.rules = x.rules := by
 unfold clsR at h
 split at h
 ·injection h with h; subst h; rfl
 ·cases h
def linesB (s : ByteArray) : List ByteArray := splitB ⟨#[10]⟩ 0 (countB s ⟨#[10]⟩) s
theorem linesB_len (s : ByteArray) : (linesB s).length = countB s ⟨#[10]⟩ + 1 ∧ countB s ⟨#[10]⟩ ≤ s.size :=
 ⟨splitB_all ⟨#[10]⟩ (show 1 ≤ 1 by decide) 0 _ s rfl, countB_le ⟨#[10]⟩ (show 1 ≤ 1 by decide) _ s (Nat.le_refl _)⟩
def GetPost (w w' : World) (o : Out) (e : Ending) : Prop :=
 match o with
 | .ok y => ∃ X, e = .returned (.tuple #[.pointer (some ⟨X, 0, none⟩), .agg #[.int .i64 0, .int .i64 0]]) ∧ ∃ mc ml v k, RsAt w' X mc ml v y k ∧ RowsAt w' w.heap.size v y.rules
 | .bad er q => e = .returned (.tuple #[.pointer none, .agg #[.int .i64 er, .int .i64 q]])
structure LP (w wr : World) (N X mc ml LB : Nat) (L : List ByteArray) (y : Rs) (v : Value) (k : Nat) : Prop where
 x : RsAt wr X mc ml v y k
 r : RowsAt wr (N + 1) v y.rules
 n : y.rules.length ≤ 256
 s : Blk wr N 44 #[.int .i64 0, .int .i64 0]
 l : Blk wr LB 9 (L.map Value.string).toArray
 b : Below N w wr
 c1 : N + 1 ≤ mc
 c2 : N + 1 ≤ ml
 c3 : N + 1 ≤ X
section
variable {w wr wr' : World} {N X mc ml LB k : Nat} {L : List ByteArray} {y : Rs} {v : Value}
theorem LP.low (h : LP w wr N X mc ml LB L y v k) (hb : Below wr.heap.size wr wr') : LP w wr' N X mc ml LB L y v k :=
 ⟨h.x.low hb, h.r.low hb, h.n, h.s.low hb, h.l.low hb, h.b.trans (hb.mono (Nat.le_of_lt h.s.lt)), h.c1, h.c2, h.c3⟩
theorem LP.up (h : LP w wr N X mc ml LB L y v k) : LP w wr N X mc ml LB L y v (k + 1) :=
 ⟨h.x.more (Nat.le_succ _), h.r, h.n, h.s, h.l, h.b, h.c1, h.c2, h.c3⟩
theorem LP.turn (h : LP w wr N X mc ml LB L y v k) {y' : Rs} {v' : Value} {k' : Nat} (hx : RsAt wr' X mc ml v' y' k') (hr : RowsAt wr' (N + 1) v' y'.rules) (hn : y'.rules.length ≤ 256) (ht : Turned (N + 1) wr wr') : LP w wr' N X mc ml LB L y' v' k' := by
 obtain ⟨S, hS, hb⟩ := ht
 refine ⟨hx, hr, hn, hb.blk h.s (fun hN => ?_), hb.blk h.l (fun hN => ?_), h.b.trans (hb.below (fun B hB => by have := (hS B hB).1; omega) (Nat.le_of_lt h.s.lt)), h.c1, h.c2, h.c3⟩
 ·obtain ⟨_, t, a, ⟨_, ht⟩, hB⟩ := hS N hN
  exact blk_ne h.s hB (Ne.symm ht) rfl
 ·obtain ⟨_, t, a, ⟨ht, _⟩, hB⟩ := hS LB hN
  exact blk_ne h.l hB (Ne.symm ht) rfl
end
theorem LP.cls {w wr wr' : World} {N X mc ml LB k R p : Nat} {L : List ByteArray} {y y' : Rs} {v : Value} {t : ByteArray} {e q : Int} (h : LP w wr N X mc ml LB L y v k) (hR : Rd wr R t p e q) (hRg : N + 1 ≤ R) (hx : RsAt wr' X mc ml v y' (k + 1)) (hB : ButS [R, mc, ml] wr wr') (hy : y'.rules = y.rules) : LP w wr' N X mc ml LB L y' v (k + 1) := by
 obtain ⟨_, _, _, mcm, _⟩ := h.x.c
 obtain ⟨_, _, _, mlm, _⟩ := h.x.l
 have hS : ∀ B ∈ [R, mc, ml], ∀ cur t, t = 146 ∨ t = 110 ∨ t = 60 ∨ t = 86 → wr.heap[B]? ≠ some (.cells cur t (0, 0)) := by
  intro B hB cur t ht
  simp only [List.mem_cons, List.not_mem_nil, or_false] at hB
  rcases hB with rfl | rfl | rfl
  ·refine not_type hR.b (fun e => ?_) cur
   subst e
   rcases ht with ht | ht | ht | ht <;> cases ht
  ·exact not_cells mcm cur t
  ·exact not_cells mlm cur t
 have c1 := h.c1
 have c2 := h.c2
 refine ⟨hx, by rw [hy]; exact h.r.butG hB hS, by rw [hy]; exact h.n, hB.blk h.s ?_, hB.blk h.l ?_, h.b.trans (hB.below (fun B hB => by simp only [List.mem_cons, List.not_mem_nil, or_false] at hB; omega) (Nat.le_of_lt h.s.lt)), h.c1, h.c2, h.c3⟩
 ·simp only [List.mem_cons, List.not_mem_nil, or_false, not_or]
  exact ⟨blk_ne h.s hR.b (by decide), by omega, by omega⟩
 ·simp only [List.mem_cons, List.not_mem_nil, or_false, not_or]
  exact ⟨blk_ne h.l hR.b (by decide), fun e => mapF_ne mcm h.l e.symm, fun e => mapF_ne mlm h.l e.symm⟩
theorem isC_spec {t : ByteArray} (h : isC t = true) : 1 < t.size ∧ nameB t 0 = true ∧ byteN t 1 = 32 := by
 obtain ⟨h1, h2, h3, h4⟩ := of_decide_eq_true h
 exact ⟨h1, decide_eq_true ⟨by omega, h2, h3⟩, h4⟩
theorem isC_no {t : ByteArray} (h : isC t = false) (h1 : 1 < t.size) (h2 : nameB t 0 = true) : byteN t 1 ≠ 32 := by
 intro h4
 obtain ⟨_, h5, h6⟩ := of_decide_eq_true h2
 have : isC t = true := decide_eq_true ⟨h1, h5, h6, h4⟩
 rw [this] at h; cases h
theorem lineR_C {x : Rs} {t : ByteArray} (h0 : t.size ≠ 0) (h59 : byteN t 0 ≠ 59) (h : isC t = true) : lineR x t = clsR x t := by
 unfold lineR
 rw [if_neg (by rintro (h | h); exact h0 h; exact h59 h), if_pos h]
theorem lineR_R {x : Rs} {t : ByteArray} (h0 : t.size ≠ 0) (h59 : byteN t 0 ≠ 59) (h : isC t = false) : lineR x t = ruleR x t := by
 unfold lineR
 rw [if_neg (by rintro (h | h); exact h0 h; exact h59 h), if_neg (by rw [h]; simp)]
theorem start_at (w : World) : ∃ W, W = ((((w.alloc (.cells #[.int .i64 0, .int .i64 0] 44)).alloc (.map #[] 0)).alloc (.map #[] 0)).alloc (.cells #[.map (some (w.heap.size + 1)), .map (some (w.heap.size + 1 + 1)), .slice none 0 0] 65)) ∧ RsAt W (w.heap.size + 1 + 1 + 1) (w.heap.size + 1) (w.heap.size + 1 + 1) (.slice none 0 0) Rs.empty 0 ∧ Blk W w.heap.size 44 #[.int .i64 0, .int .i64 0] ∧ Below w.heap.size w W ∧ W.heap.size = w.heap.size + 1 + 1 + 1 + 1 := by
 refine ⟨_, rfl, ?_, ?_, ?_, by simp⟩
 ·have b1 := fun (w : World) o => (Below.refl w.heap.size w).alloc (Nat.le_refl _) o
  have m1 := (MapF.made KB (w.alloc (.cells #[.int .i64 0, .int .i64 0] 44))).low (b1 _ (.map #[] 0)) |>.low (b1 _ (.cells #[.map (some (w.heap.size + 1)), .map (some (w.heap.size + 1 + 1)), .slice none 0 0] 65))
  have m2 := (MapF.made KB ((w.alloc (.cells #[.int .i64 0, .int .i64 0] 44)).alloc (.map #[] 0))).low (b1 _ (.cells #[.map (some (w.heap.size + 1)), .map (some (w.heap.size + 1 + 1)), .slice none 0 0] 65))
  have k3 := Blk.new (((w.alloc (.cells #[.int .i64 0, .int .i64 0] 44)).alloc (.map #[] 0)).alloc (.map #[] 0)) 65 #[.map (some (w.heap.size + 1)), .map (some (w.heap.size + 1 + 1)), .slice none 0 0]
  rw [World.size_alloc] at m1
  rw [World.size_alloc, World.size_alloc] at m2
  rw [World.size_alloc, World.size_alloc, World.size_alloc] at k3
  exact ⟨k3, by omega, ⟨0, _, Nat.le_refl _, m1, fun c _ _ => .inl ⟨rfl, rfl⟩⟩, ⟨0, _, Nat.le_refl _, m2, fun c _ _ => rfl⟩⟩
 ·exact (((Blk.new w 44 #[.int .i64 0, .int .i64 0]).alloc _).alloc _).alloc _
 ·exact ((((Below.refl w.heap.size w).alloc (Nat.le_refl _) _).alloc (by simp) _).alloc (by simp; omega) _).alloc (by simp; omega) _
set_option maxRecDepth 100000 in
set_option maxHeartbeats 8000000 in
theorem read_text (s : ByteArray) (w : World) (hs : s.size ≤ 65536) (m : Int) (hm : w.cell? ⟨0, 0, none⟩ = some (.int .i64 m)) : Calls Tryz.prog 14 #[.string s] w fun e w' => GetPost w w' (linesR Rs.empty 0 (linesB s)) e ∧ Below w.heap.size w w' := by
 have q1 := dF (show ¬ ((65536 : Int) < s.size) by omega)
 have q2 := dF (show ¬ (65536 < s.size) by omega)
 have hmm := @run_makeMap Tryz.prog
 have hm0 : 0 < w.heap.size := World.block_lt_of_cell? w _ hm
 have hSp := hid (fun w' (h : Below w.heap.size w w') => Tryz.strings_Split s ⟨#[10]⟩ m w' (by omega) (by rw [h.cell (p := ⟨0, 0, none⟩) hm0]; exact hm) (show 1 ≤ 1 by decide))
 clear hm
 obtain ⟨L, hL⟩ : ∃ L, linesB s = L := ⟨_, rfl⟩
 rw [hL]
 have HL0 := hid hL
 clear hL
 go_enter Tryz.func14, Tryz.ntmps14
 go_wp2_with fail
 obtain ⟨W, hW, hX, hK, hB, hsz⟩ := start_at w
 rw [← hW]
 obtain ⟨N, hN⟩ : ∃ N, w.heap.size = N := ⟨_, rfl⟩
 have hlen := linesB_len s
 obtain ⟨n, hn⟩ : ∃ n, countB s ⟨#[10]⟩ + 1 = n := ⟨_, rfl⟩
 have hSp2 := hSp.out W hB
 rw [hn] at hSp2
 have hSP := hid hSp2
 clear hSp hSp2
 rw [hN] at hX hK hB hsz hm0
 try simp only [hN]
 have HN := hid hN
 clear hN hW
 go_at_call 22
 with_reducible refine Calls.mono hSP.out ?_
 rintro e w1 ⟨rfl, hw1⟩
 change w1 = W.alloc (.cells ((linesB s).map Value.string).toArray 9) at hw1
 have hL := HL0.out
 have hLs : Hid (∀ t ∈ L, t.size ≤ 65536) := hid (fun t ht => by have := splitB_le ⟨#[10]⟩ 0 _ s t (by rw [← hL] at ht; exact ht); omega)
 rw [hL] at hw1 hlen
 rw [hn] at hlen
 have hLn := hid hlen.1
 have hnb : n ≤ 65537 := by omega
 have HLP : Hid (LP w w1 N (N + 1 + 1 + 1) (N + 1) (N + 1 + 1) W.heap.size L Rs.empty (.slice none 0 0) 0) := by
  subst hw1
  exact hid ⟨hX.low ((Below.refl _ _).alloc (Nat.le_refl _) _), RowsAt.nil _ _, by decide, hK.alloc _, Blk.new _ _ _, hB.alloc (by omega) _, Nat.le_refl _, by omega, by omega⟩
 clear hX hK hB hw1 hL hSP hlen hn
 rw [hsz]
 rw [hsz] at HLP
 clear hsz
 go_wp2_with fail
 go_loopw [5, 21] (fun a i wr => ∃ (j o : Nat) (y : Rs) (v : Value), a = .int .i64 o ∧ i = .int .i64 j ∧ j ≤ n ∧ o ≤ j * 65537 ∧ Hid (LP w wr N (N + 1 + 1 + 1) (N + 1) (N + 1 + 1) (N + 1 + 1 + 1 + 1) L y v j) ∧ Hid (linesR Rs.empty 0 L = linesR y o (L.drop j))) (fun _ i _ => n - (RowKit.intOf i).toNat)
 case atStart => exact ⟨0, 0, Rs.empty, _, rfl, rfl, Nat.zero_le _, by omega, HLP, rfl⟩
 case round =>
  obtain ⟨j, o, y, v, rfl, rfl, hj, ho, hP, hS⟩ := hrel
  clear HLP
  by_cases hlt : j < n
  ·obtain ⟨t, ht⟩ : ∃ t, L[j]? = some t := ⟨_, List.getElem?_eq_getElem (by rw [hLn.out]; exact hlt)⟩
   have hdr : L.drop j = t :: L.drop (j + 1) := by
    obtain ⟨hl, rfl⟩ := List.getElem?_eq_some_iff.1 ht
    exact List.drop_eq_getElem_cons hl
   rw [hdr] at hS
   have hts := hLs.out t (List.mem_of_getElem? ht)
   have q3 := dT (show (j : Int) < n by omega)
   have q4 : decide (j < n) = true := decide_eq_true hlt
   have cl := hP.out.l.cell (k := j) (v := .string t) (by simp [ht])
   have hw1 : IntKind.i64.wrap ((t.size : Int) + 1) = (t.size : Int) + 1 := Wi64 (by omega)
   have hw2 : IntKind.i64.wrap ((o : Int) + ((t.size : Int) + 1)) = (o : Int) + ((t.size : Int) + 1) := Wi64 (by omega)
   have hw3 : IntKind.i64.wrap ((j : Int) + 1) = (j : Int) + 1 := Wi64 (by omega)
   clear hdr ht
   by_cases h0 : t.size = 0
   ·have hte : t = ⟨#[]⟩ := ByteArray.ext (Array.eq_empty_of_size_eq_zero h0)
    subst hte
    have hE : Hid (linesR Rs.empty 0 L = linesR y (o + 1) (L.drop (j + 1))) := by
     rw [hS.out, linesR]
     have : lineR y ⟨#[]⟩ = .ok y := by unfold lineR; rw [if_pos (.inl rfl)]
     rw [this]; exact hid rfl
    clear hS
    have hP2 := hid (hP.out.low ((Below.refl _ wr).alloc (Nat.le_refl _) (.cells #[.string ⟨#[]⟩, .int .i64 0, .int .i64 0, .int .i64 0] 70)))
    clear hP
    go_wp2_with fail
    refine wp_scope_ahead 0 rfl ?_
    go_wp2_with fail
    go_step3
    try go_wp2_with fail
    refine ⟨rfl, ⟨?_⟩⟩
    go_wp2_with fail
    first | (rename_i h1; refine h1 _ _ ?_) | (rename_i h1 h2; refine h1 _ _ ?_) | (rename_i h1 h2 h3; refine h1 _ _ ?_) | (rename_i h1 h2 h3 h4; refine h1 _ _ ?_) | (rename_i h1 h2 h3 h4 h5; refine h1 _ _ ?_) | (rename_i h1 h2 h3 h4 h5 h6; refine h1 _ _ ?_)
    go_wp2_with fail
    go_roundw
    case rel => exact ⟨j + 1, o + (0 + 1), y, v, by go_num, by go_num, by omega, by omega, hP2.out.up, hE⟩
    case measure => simp [RowKit.intOf]; omega
   ·have hR2 := hid (show Rd (wr.alloc (.cells #[.string t, .int .i64 0, .int .i64 0, .int .i64 0] 70)) wr.heap.size t 0 0 0 from ⟨Blk.new _ _ _⟩)
    have hP2 := hid (hP.out.low ((Below.refl _ wr).alloc (Nat.le_refl _) (.cells #[.string t, .int .i64 0, .int .i64 0, .int .i64 0] 70)))
    have hR3g : Hid (N + 1 ≤ wr.heap.size) := hid hP.out.s.lt
    have hNm := hid (name_any hR2.out)
    have hne1 : t.toList.isEmpty = false := by rw [← Bool.not_eq_true, List.isEmpty_iff]; exact toList_ne h0
    have hne2 : (t.toList == []) = false := by rw [← Bool.not_eq_true, beq_iff_eq]; exact toList_ne h0
    have hz : 0 < t.size := Nat.pos_of_ne_zero h0
    have hz0 : decide (0 < t.size) = true := decide_eq_true hz
    have hb0 := get_eqN t 0 hz
    by_cases h59 : byteN t 0 = 59
    ·have hE : Hid (linesR Rs.empty 0 L = linesR y (o + (t.size + 1)) (L.drop (j + 1))) := by
      rw [hS.out, linesR]
      have : lineR y t = .ok y := by unfold lineR; rw [if_pos (.inr h59)]
      rw [this]; exact hid (by rw [Nat.add_assoc])
     have t59 : (((t[0]'hz).toNat : Int) == 59) = true := beq_true_of (by omega)
     clear hS hP hb0 h59
     go_wp2_with fail
     refine wp_scope_ahead 0 rfl ?_
     go_wp2_with fail
     go_step3
     try go_wp2_with fail
     refine ⟨rfl, ⟨?_⟩⟩
     go_wp2_with fail
     first | (rename_i h1; refine h1 _ _ ?_) | (rename_i h1 h2; refine h1 _ _ ?_) | (rename_i h1 h2 h3; refine h1 _ _ ?_) | (rename_i h1 h2 h3 h4; refine h1 _ _ ?_) | (rename_i h1 h2 h3 h4 h5; refine h1 _ _ ?_) | (rename_i h1 h2 h3 h4 h5 h6; refine h1 _ _ ?_)
     go_wp2_with fail
     go_roundw
     case rel => exact ⟨j + 1, o + (t.size + 1), y, v, by go_num, by go_num, by omega, by omega, hP2.out.up, hE⟩
     case measure => simp [RowKit.intOf]; omega
    ·have t59 : (((t[0]'hz).toNat : Int) == 59) = false := beq_false_of (by omega)
     clear hP
     cases hisC : isC t
     ·have hLn2 := hid (lineR_R (x := y) h0 h59 hisC)
      cases hnb0 : nameB t 0
      ·rw [hnb0] at hNm
       clear h59 hb0
       go_wp2_with fail
       refine wp_scope_ahead 0 rfl ?_
       go_wp2_with (go_at_call 24; (with_reducible refine Calls.mono hNm.out ?_); rintro e w2 ⟨rfl, hb2⟩; have hP3 := hid (hP2.out.low hb2); have hR3 := hid (hR2.out.low hb2); clear hb2 hP2 hR2 hNm)
       have hC := hid (rule_any hR3.out hP3.out.x hP3.out.r hP3.out.n (by omega) hR3g.out hP3.out.c3)
       cases hO : ruleR y t with
       | ok y2 =>
        have hE : Hid (linesR Rs.empty 0 L = linesR y2 (o + (t.size + 1)) (L.drop (j + 1))) := by rw [hS.out, linesR, hLn2.out, hO]; exact hid (by rw [Nat.add_assoc])
        have hn2 : Hid (y2.rules.length ≤ 256) := hid (lineR_len (hLn2.out.trans hO) hP3.out.n)
        rw [hO] at hC
        go_at_call 23
        with_reducible refine Calls.mono hC.out ?_
        rintro e w3 ⟨b, rfl, rfl, ⟨v3, hx3, hr3⟩, hT3⟩
        have hP4 := hid (hP3.out.turn hx3 hr3 hn2.out hT3)
        clear hx3 hr3 hT3
        go_wp2_with fail
        go_step3
        go_wp2_with fail
        first | (rename_i h1; refine h1 _ _ ?_) | (rename_i h1 h2; refine h1 _ _ ?_) | (rename_i h1 h2 h3; refine h1 _ _ ?_) | (rename_i h1 h2 h3 h4; refine h1 _ _ ?_) | (rename_i h1 h2 h3 h4 h5; refine h1 _ _ ?_) | (rename_i h1 h2 h3 h4 h5 h6; refine h1 _ _ ?_)
        go_wp2_with fail
        go_roundw
        case rel => exact ⟨j + 1, o + (t.size + 1), y2, v3, by go_num, by go_num, by omega, by omega, hP4, hE⟩
        case measure => simp [RowKit.intOf]; omega
       | bad er q =>
        have hE : Hid (linesR Rs.empty 0 L = .bad er (o + q)) := by rw [hS.out, linesR, hLn2.out, hO]; exact hid rfl
        have hq : q ≤ 100000000 := by have := ruleR_le hO; omega
        have hw4 : IntKind.i64.wrap ((o : Int) + q) = (o : Int) + q := Wi64 (by omega)
        rw [hO] at hC
        go_at_call 23
        with_reducible refine Calls.mono hC.out ?_
        rintro e w3 ⟨b, rfl, rfl, ⟨p3, hR4⟩, ⟨S3, hS3, hB3⟩⟩
        have hK4 := hid (hB3.blk hP3.out.s (fun hN => by obtain ⟨_, t9, a9, ⟨_, ht9⟩, hB9⟩ := hS3 N hN; exact blk_ne hP3.out.s hB9 (Ne.symm ht9) rfl))
        have hB4 : Hid (Below N w w3) := hid (hP3.out.b.trans (hB3.below (fun B hB => by have := (hS3 B hB).1; omega) (Nat.le_of_lt hP3.out.s.lt)))
        have hRN : wr.heap.size ≠ N := by have := hR3g.out; omega
        have hR5 := hid hR4
        clear hB3 hR4 hP3 hC
        have r2 := hR5.out.c2
        have r3 := hR5.out.c3
        have rf := hR5.out.fr
        obtain ⟨k0, k1, kf⟩ := hK4.out.c2
        go_wp2_with fail
        refine region_plan [N] (.quiet 0 (.quiet 1 (.quiet 2 (.quiet 3 (.quiet 4 (.quiet 5 (.quiet 6 (.quiet 7 (.quiet 8 (.quiet 9 (.quiet 10 (.quiet 11 (.quiet 12 (.quiet 13 (.one 14 .done))))))))))))))) (by kernel_rfl) (by kernel_rfl) ?_
        repeat (apply p_quiet; (case hi => rfl); intro K hK; go_simp; (refine ⟨hK _ ?_⟩; clear hK K))
        apply p_one
        case hi => rfl
        intro W6 hb6 K hK
        have hK6 := hid (hK4.out.low hb6)
        have hB6 := hid (hB4.out.trans (hb6.mono (Nat.le_of_lt hK4.out.lt)))
        have hKH := hid hK
        clear k0 k1 kf r2 r3 rf hK
        obtain ⟨k0, k1, kf⟩ := hK6.out.c2
        go_wp2_with fail
        refine hKH.out _ _ (((ButS.of hb6).set (List.mem_singleton.2 rfl) 0 _).set (List.mem_singleton.2 rfl) 1 _) ?_
        clear hKH K k0 k1 kf
        have hK7 : Hid (Blk _ N 44 #[.int .i64 er, .int .i64 ((o : Int) + q)]) := hid ((hK6.out.set 0 (.int .i64 er)).set 1 (.int .i64 ((o : Int) + q)))
        have hB7 := hid (below_set (below_set hB6.out (Nat.le_refl _) 0 (.int .i64 er)) (Nat.le_refl _) 1 (.int .i64 ((o : Int) + q)))
        generalize (W6.setCell ⟨N, 0, none⟩ (.int .i64 er)).setCell ⟨N, 1, none⟩ (.int .i64 ((o : Int) + q)) = W7 at *
        apply p_done
        intro W8 hb8
        obtain ⟨k0, k1, kf⟩ := (hK7.out.low hb8).c2
        have hB8 := hid (hB7.out.trans (hb8.mono (Nat.le_of_lt hK7.out.lt)))
        go_wp2_with fail
        change bodyPost Tryz.prog Tryz.f14 (fun e w' => GetPost w w' (linesR Rs.empty 0 L) e ∧ Below w.heap.size w w') .ret _ _
        exact bodyPost_ret (v := .tuple #[.pointer none, .agg #[.int .i64 er, .int .i64 ((o : Int) + q)]]) (by simp [results, Tryz.results14, go_sem, k0, k1, kf]) rfl ⟨by rw [hE.out]; rfl, by rw [HN.out]; exact hB8.out⟩
      ·rw [hnb0] at hNm
       by_cases h1 : 1 < t.size
       ·have hb1 := get_eqN t 1 h1
        have h32 := isC_no hisC h1 hnb0
        have l1 := dT (show (1 : Int) < t.size by omega)
        have l2 : decide (1 < t.size) = true := decide_eq_true h1
        have t32 : (((t[1]'h1).toNat : Int) == 32) = false := beq_false_of (by omega)
        clear h59 hb0 hb1 h32
        go_wp2_with fail
        refine wp_scope_ahead 0 rfl ?_
        go_wp2_with (go_at_call 24; (with_reducible refine Calls.mono hNm.out ?_); rintro e w2 ⟨rfl, hb2⟩; have hP3 := hid (hP2.out.low hb2); have hR3 := hid (hR2.out.low hb2); clear hb2 hP2 hR2 hNm)
        have hC := hid (rule_any hR3.out hP3.out.x hP3.out.r hP3.out.n (by omega) hR3g.out hP3.out.c3)
        cases hO : ruleR y t with
        | ok y2 =>
         have hE : Hid (linesR Rs.empty 0 L = linesR y2 (o + (t.size + 1)) (L.drop (j + 1))) := by rw [hS.out, linesR, hLn2.out, hO]; exact hid (by rw [Nat.add_assoc])
         have hn2 : Hid (y2.rules.length ≤ 256) := hid (lineR_len (hLn2.out.trans hO) hP3.out.n)
         rw [hO] at hC
         go_at_call 23
         with_reducible refine Calls.mono hC.out ?_
         rintro e w3 ⟨b, rfl, rfl, ⟨v3, hx3, hr3⟩, hT3⟩
         have hP4 := hid (hP3.out.turn hx3 hr3 hn2.out hT3)
         clear hx3 hr3 hT3
         go_wp2_with fail
         go_step3
         go_wp2_with fail
         first | (rename_i h1; refine h1 _ _ ?_) | (rename_i h1 h2; refine h1 _ _ ?_) | (rename_i h1 h2 h3; refine h1 _ _ ?_) | (rename_i h1 h2 h3 h4; refine h1 _ _ ?_) | (rename_i h1 h2 h3 h4 h5; refine h1 _ _ ?_) | (rename_i h1 h2 h3 h4 h5 h6; refine h1 _ _ ?_)
         go_wp2_with fail
         go_roundw
         case rel => exact ⟨j + 1, o + (t.size + 1), y2, v3, by go_num, by go_num, by omega, by omega, hP4, hE⟩
         case measure => simp [RowKit.intOf]; omega
        | bad er q =>
         have hE : Hid (linesR Rs.empty 0 L = .bad er (o + q)) := by rw [hS.out, linesR, hLn2.out, hO]; exact hid rfl
         have hq : q ≤ 100000000 := by have := ruleR_le hO; omega
         have hw4 : IntKind.i64.wrap ((o : Int) + q) = (o : Int) + q := Wi64 (by omega)
         rw [hO] at hC
         go_at_call 23
         with_reducible refine Calls.mono hC.out ?_
         rintro e w3 ⟨b, rfl, rfl, ⟨p3, hR4⟩, ⟨S3, hS3, hB3⟩⟩
         have hK4 := hid (hB3.blk hP3.out.s (fun hN => by obtain ⟨_, t9, a9, ⟨_, ht9⟩, hB9⟩ := hS3 N hN; exact blk_ne hP3.out.s hB9 (Ne.symm ht9) rfl))
         have hB4 : Hid (Below N w w3) := hid (hP3.out.b.trans (hB3.below (fun B hB => by have := (hS3 B hB).1; omega) (Nat.le_of_lt hP3.out.s.lt)))
         have hRN : wr.heap.size ≠ N := by have := hR3g.out; omega
         have hR5 := hid hR4
         clear hB3 hR4 hP3 hC
         have r2 := hR5.out.c2
         have r3 := hR5.out.c3
         have rf := hR5.out.fr
         obtain ⟨k0, k1, kf⟩ := hK4.out.c2
         go_wp2_with fail
         refine region_plan [N] (.quiet 0 (.quiet 1 (.quiet 2 (.quiet 3 (.quiet 4 (.quiet 5 (.quiet 6 (.quiet 7 (.quiet 8 (.quiet 9 (.quiet 10 (.quiet 11 (.quiet 12 (.quiet 13 (.one 14 .done))))))))))))))) (by kernel_rfl) (by kernel_rfl) ?_
         repeat (apply p_quiet; (case hi => rfl); intro K hK; go_simp; (refine ⟨hK _ ?_⟩; clear hK K))
         apply p_one
         case hi => rfl
         intro W6 hb6 K hK
         have hK6 := hid (hK4.out.low hb6)
         have hB6 := hid (hB4.out.trans (hb6.mono (Nat.le_of_lt hK4.out.lt)))
         have hKH := hid hK
         clear k0 k1 kf r2 r3 rf hK
         obtain ⟨k0, k1, kf⟩ := hK6.out.c2
         go_wp2_with fail
         refine hKH.out _ _ (((ButS.of hb6).set (List.mem_singleton.2 rfl) 0 _).set (List.mem_singleton.2 rfl) 1 _) ?_
         clear hKH K k0 k1 kf
         have hK7 : Hid (Blk _ N 44 #[.int .i64 er, .int .i64 ((o : Int) + q)]) := hid ((hK6.out.set 0 (.int .i64 er)).set 1 (.int .i64 ((o : Int) + q)))
         have hB7 := hid (below_set (below_set hB6.out (Nat.le_refl _) 0 (.int .i64 er)) (Nat.le_refl _) 1 (.int .i64 ((o : Int) + q)))
         generalize (W6.setCell ⟨N, 0, none⟩ (.int .i64 er)).setCell ⟨N, 1, none⟩ (.int .i64 ((o : Int) + q)) = W7 at *
         apply p_done
         intro W8 hb8
         obtain ⟨k0, k1, kf⟩ := (hK7.out.low hb8).c2
         have hB8 := hid (hB7.out.trans (hb8.mono (Nat.le_of_lt hK7.out.lt)))
         go_wp2_with fail
         change bodyPost Tryz.prog Tryz.f14 (fun e w' => GetPost w w' (linesR Rs.empty 0 L) e ∧ Below w.heap.size w w') .ret _ _
         exact bodyPost_ret (v := .tuple #[.pointer none, .agg #[.int .i64 er, .int .i64 ((o : Int) + q)]]) (by simp [results, Tryz.results14, go_sem, k0, k1, kf]) rfl ⟨by rw [hE.out]; rfl, by rw [HN.out]; exact hB8.out⟩
       ·have l1 := dF (show ¬ ((1 : Int) < t.size) by omega)
        have l2 : decide (1 < t.size) = false := decide_eq_false h1
        clear h59 hb0
        go_wp2_with fail
        refine wp_scope_ahead 0 rfl ?_
        go_wp2_with (go_at_call 24; (with_reducible refine Calls.mono hNm.out ?_); rintro e w2 ⟨rfl, hb2⟩; have hP3 := hid (hP2.out.low hb2); have hR3 := hid (hR2.out.low hb2); clear hb2 hP2 hR2 hNm)
        have hC := hid (rule_any hR3.out hP3.out.x hP3.out.r hP3.out.n (by omega) hR3g.out hP3.out.c3)
        cases hO : ruleR y t with
        | ok y2 =>
         have hE : Hid (linesR Rs.empty 0 L = linesR y2 (o + (t.size + 1)) (L.drop (j + 1))) := by rw [hS.out, linesR, hLn2.out, hO]; exact hid (by rw [Nat.add_assoc])
         have hn2 : Hid (y2.rules.length ≤ 256) := hid (lineR_len (hLn2.out.trans hO) hP3.out.n)
         rw [hO] at hC
         go_at_call 23
         with_reducible refine Calls.mono hC.out ?_
         rintro e w3 ⟨b, rfl, rfl, ⟨v3, hx3, hr3⟩, hT3⟩
         have hP4 := hid (hP3.out.turn hx3 hr3 hn2.out hT3)
         clear hx3 hr3 hT3
         go_wp2_with fail
         go_step3
         go_wp2_with fail
         first | (rename_i h1; refine h1 _ _ ?_) | (rename_i h1 h2; refine h1 _ _ ?_) | (rename_i h1 h2 h3; refine h1 _ _ ?_) | (rename_i h1 h2 h3 h4; refine h1 _ _ ?_) | (rename_i h1 h2 h3 h4 h5; refine h1 _ _ ?_) | (rename_i h1 h2 h3 h4 h5 h6; refine h1 _ _ ?_)
         go_wp2_with fail
         go_roundw
         case rel => exact ⟨j + 1, o + (t.size + 1), y2, v3, by go_num, by go_num, by omega, by omega, hP4, hE⟩
         case measure => simp [RowKit.intOf]; omega
        | bad er q =>
         have hE : Hid (linesR Rs.empty 0 L = .bad er (o + q)) := by rw [hS.out, linesR, hLn2.out, hO]; exact hid rfl
         have hq : q ≤ 100000000 := by have := ruleR_le hO; omega
         have hw4 : IntKind.i64.wrap ((o : Int) + q) = (o : Int) + q := Wi64 (by omega)
         rw [hO] at hC
         go_at_call 23
         with_reducible refine Calls.mono hC.out ?_
         rintro e w3 ⟨b, rfl, rfl, ⟨p3, hR4⟩, ⟨S3, hS3, hB3⟩⟩
         have hK4 := hid (hB3.blk hP3.out.s (fun hN => by obtain ⟨_, t9, a9, ⟨_, ht9⟩, hB9⟩ := hS3 N hN; exact blk_ne hP3.out.s hB9 (Ne.symm ht9) rfl))
         have hB4 : Hid (Below N w w3) := hid (hP3.out.b.trans (hB3.below (fun B hB => by have := (hS3 B hB).1; omega) (Nat.le_of_lt hP3.out.s.lt)))
         have hRN : wr.heap.size ≠ N := by have := hR3g.out; omega
         have hR5 := hid hR4
         clear hB3 hR4 hP3 hC
         have r2 := hR5.out.c2
         have r3 := hR5.out.c3
         have rf := hR5.out.fr
         obtain ⟨k0, k1, kf⟩ := hK4.out.c2
         go_wp2_with fail
         refine region_plan [N] (.quiet 0 (.quiet 1 (.quiet 2 (.quiet 3 (.quiet 4 (.quiet 5 (.quiet 6 (.quiet 7 (.quiet 8 (.quiet 9 (.quiet 10 (.quiet 11 (.quiet 12 (.quiet 13 (.one 14 .done))))))))))))))) (by kernel_rfl) (by kernel_rfl) ?_
         repeat (apply p_quiet; (case hi => rfl); intro K hK; go_simp; (refine ⟨hK _ ?_⟩; clear hK K))
         apply p_one
         case hi => rfl
         intro W6 hb6 K hK
         have hK6 := hid (hK4.out.low hb6)
         have hB6 := hid (hB4.out.trans (hb6.mono (Nat.le_of_lt hK4.out.lt)))
         have hKH := hid hK
         clear k0 k1 kf r2 r3 rf hK
         obtain ⟨k0, k1, kf⟩ := hK6.out.c2
         go_wp2_with fail
         refine hKH.out _ _ (((ButS.of hb6).set (List.mem_singleton.2 rfl) 0 _).set (List.mem_singleton.2 rfl) 1 _) ?_
         clear hKH K k0 k1 kf
         have hK7 : Hid (Blk _ N 44 #[.int .i64 er, .int .i64 ((o : Int) + q)]) := hid ((hK6.out.set 0 (.int .i64 er)).set 1 (.int .i64 ((o : Int) + q)))
         have hB7 := hid (below_set (below_set hB6.out (Nat.le_refl _) 0 (.int .i64 er)) (Nat.le_refl _) 1 (.int .i64 ((o : Int) + q)))
         generalize (W6.setCell ⟨N, 0, none⟩ (.int .i64 er)).setCell ⟨N, 1, none⟩ (.int .i64 ((o : Int) + q)) = W7 at *
         apply p_done
         intro W8 hb8
         obtain ⟨k0, k1, kf⟩ := (hK7.out.low hb8).c2
         have hB8 := hid (hB7.out.trans (hb8.mono (Nat.le_of_lt hK7.out.lt)))
         go_wp2_with fail
         change bodyPost Tryz.prog Tryz.f14 (fun e w' => GetPost w w' (linesR Rs.empty 0 L) e ∧ Below w.heap.size w w') .ret _ _
         exact bodyPost_ret (v := .tuple #[.pointer none, .agg #[.int .i64 er, .int .i64 ((o : Int) + q)]]) (by simp [results, Tryz.results14, go_sem, k0, k1, kf]) rfl ⟨by rw [hE.out]; rfl, by rw [HN.out]; exact hB8.out⟩
     ·have hLn2 := hid (lineR_C (x := y) h0 h59 hisC)
      obtain ⟨h1, hnb0, h32⟩ := isC_spec hisC
      rw [hnb0] at hNm
      have hb1 := get_eqN t 1 h1
      have l1 := dT (show (1 : Int) < t.size by omega)
      have l2 : decide (1 < t.size) = true := decide_eq_true h1
      have t32 : (((t[1]'h1).toNat : Int) == 32) = true := beq_true_of (by omega)
      clear h59 hb0 hb1 h32
      go_wp2_with fail
      refine wp_scope_ahead 0 rfl ?_
      go_wp2_with (go_at_call 24; (with_reducible refine Calls.mono hNm.out ?_); rintro e w2 ⟨rfl, hb2⟩; have hP3 := hid (hP2.out.low hb2); have hR3 := hid (hR2.out.low hb2); clear hb2 hP2 hR2 hNm)
      have hC := hid (class_any hR3.out hP3.out.x (by omega) (by omega) hisC)
      cases hO : clsR y t with
      | ok y2 =>
       have hE : Hid (linesR Rs.empty 0 L = linesR y2 (o + (t.size + 1)) (L.drop (j + 1))) := by rw [hS.out, linesR, hLn2.out, hO]; exact hid (by rw [Nat.add_assoc])
       have hn2 : Hid (y2.rules.length ≤ 256) := hid (lineR_len (hLn2.out.trans hO) hP3.out.n)
       rw [hO] at hC
       go_at_call 25
       with_reducible refine Calls.mono hC.out ?_
       rintro e w3 ⟨b, rfl, rfl, hx3, hB3⟩
       have hT : Hid (Turned (N + 1) w2 w3 ∨ True) := hid (.inr trivial)
       have hP4 := hid (hP3.out.cls hR3.out hR3g.out hx3 hB3 (y' := y2) (by exact clsR_rules hO))
       clear hx3 hB3 hT
       go_wp2_with fail
       go_step3
       go_wp2_with fail
       first | (rename_i h1; refine h1 _ _ ?_) | (rename_i h1 h2; refine h1 _ _ ?_) | (rename_i h1 h2 h3; refine h1 _ _ ?_) | (rename_i h1 h2 h3 h4; refine h1 _ _ ?_) | (rename_i h1 h2 h3 h4 h5; refine h1 _ _ ?_) | (rename_i h1 h2 h3 h4 h5 h6; refine h1 _ _ ?_)
       go_wp2_with fail
       go_roundw
       case rel => exact ⟨j + 1, o + (t.size + 1), y2, v, by go_num, by go_num, by omega, by omega, hP4, hE⟩
       case measure => simp [RowKit.intOf]; omega
      | bad er q =>
       have hE : Hid (linesR Rs.empty 0 L = .bad er (o + q)) := by rw [hS.out, linesR, hLn2.out, hO]; exact hid rfl
       have hq : q ≤ 100000000 := by have := clsR_le (by omega) hO; omega
       have hw4 : IntKind.i64.wrap ((o : Int) + q) = (o : Int) + q := Wi64 (by omega)
       rw [hO] at hC
       go_at_call 25
       with_reducible refine Calls.mono hC.out ?_
       rintro e w3 ⟨b, rfl, rfl, ⟨p3, hR4⟩, hB3⟩
       have hK4 := hid (hB3.blk hP3.out.s (by rw [List.mem_singleton]; exact blk_ne hP3.out.s hR3.out.b (by decide)))
       have hB4 : Hid (Below N w w3) := hid (hP3.out.b.trans (hB3.below (fun B hB => by rw [List.mem_singleton] at hB; subst hB; have := hR3g.out; omega) (Nat.le_of_lt hP3.out.s.lt)))
       have hRN : wr.heap.size ≠ N := by have := hR3g.out; omega
       have hR5 := hid hR4
       clear hB3 hR4 hP3 hC
       have r2 := hR5.out.c2
       have r3 := hR5.out.c3
       have rf := hR5.out.fr
       obtain ⟨k0, k1, kf⟩ := hK4.out.c2
       go_wp2_with fail
       refine region_plan [N] (.quiet 0 (.quiet 1 (.quiet 2 (.quiet 3 (.quiet 4 (.quiet 5 (.quiet 6 (.quiet 7 (.quiet 8 (.quiet 9 (.quiet 10 (.quiet 11 (.quiet 12 (.quiet 13 (.one 14 .done))))))))))))))) (by kernel_rfl) (by kernel_rfl) ?_
       repeat (apply p_quiet; (case hi => rfl); intro K hK; go_simp; (refine ⟨hK _ ?_⟩; clear hK K))
       apply p_one
       case hi => rfl
       intro W6 hb6 K hK
       have hK6 := hid (hK4.out.low hb6)
       have hB6 := hid (hB4.out.trans (hb6.mono (Nat.le_of_lt hK4.out.lt)))
       have hKH := hid hK
       clear k0 k1 kf r2 r3 rf hK
       obtain ⟨k0, k1, kf⟩ := hK6.out.c2
       go_wp2_with fail
       refine hKH.out _ _ (((ButS.of hb6).set (List.mem_singleton.2 rfl) 0 _).set (List.mem_singleton.2 rfl) 1 _) ?_
       clear hKH K k0 k1 kf
       have hK7 : Hid (Blk _ N 44 #[.int .i64 er, .int .i64 ((o : Int) + q)]) := hid ((hK6.out.set 0 (.int .i64 er)).set 1 (.int .i64 ((o : Int) + q)))
       have hB7 := hid (below_set (below_set hB6.out (Nat.le_refl _) 0 (.int .i64 er)) (Nat.le_refl _) 1 (.int .i64 ((o : Int) + q)))
       generalize (W6.setCell ⟨N, 0, none⟩ (.int .i64 er)).setCell ⟨N, 1, none⟩ (.int .i64 ((o : Int) + q)) = W7 at *
       apply p_done
       intro W8 hb8
       obtain ⟨k0, k1, kf⟩ := (hK7.out.low hb8).c2
       have hB8 := hid (hB7.out.trans (hb8.mono (Nat.le_of_lt hK7.out.lt)))
       go_wp2_with fail
       change bodyPost Tryz.prog Tryz.f14 (fun e w' => GetPost w w' (linesR Rs.empty 0 L) e ∧ Below w.heap.size w w') .ret _ _
       exact bodyPost_ret (v := .tuple #[.pointer none, .agg #[.int .i64 er, .int .i64 ((o : Int) + q)]]) (by simp [results, Tryz.results14, go_sem, k0, k1, kf]) rfl ⟨by rw [hE.out]; rfl, by rw [HN.out]; exact hB8.out⟩
  ·obtain rfl : j = n := by omega
   have q3 : decide (((j : Nat) : Int) < j) = false := by simp
   have q4 : decide (j < j) = false := by simp
   have hE : Hid (linesR Rs.empty 0 L = .ok y) := by
    rw [hS.out, List.drop_eq_nil_of_le (by rw [hLn.out]; exact Nat.le_refl _)]; exact hid rfl
   obtain ⟨k0, k1, kf⟩ := hP.out.s.c2
   go_wp2_with fail
   exact bodyPost_ret (v := .tuple #[.pointer (some ⟨N + 1 + 1 + 1, 0, none⟩), .agg #[.int .i64 0, .int .i64 0]]) (by simp [results, Tryz.results14, go_sem, k0, k1, kf]) rfl ⟨by
    rw [hE.out]
    have hb := ((ButS.refl [N] wr).set (List.mem_singleton.2 rfl) 0 (.int .i64 0)).set (List.mem_singleton.2 rfl) 1 (.int .i64 0)
    exact ⟨_, rfl, _, _, _, _, hP.out.x.but hb (by rw [List.mem_singleton]; have := hP.out.c3; omega) (fun B hB => by rw [List.mem_singleton] at hB; subst hB; exact ⟨_, _, hP.out.s⟩), rows_mono (hP.out.r.butT hb (fun B hB => by rw [List.mem_singleton] at hB; subst hB; exact ⟨44, _, by decide, hP.out.s⟩)) (by rw [HN.out]; omega)⟩,
    by rw [HN.out]; exact below_set (below_set hP.out.b (Nat.le_refl _) 0 _) (Nat.le_refl _) 1 _⟩
end Go.Proofs.YtieifhfgedoiaaaGreatDoor
