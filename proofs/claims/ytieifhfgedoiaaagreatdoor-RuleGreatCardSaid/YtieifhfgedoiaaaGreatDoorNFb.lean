/- A line of rules in the document's hand: what must stand, what is plain. Conditions: those of each theorem. -/
import Derived.Test.YtieifhfgedoiaaaGreatDoorNFa
import Derived.Test.YtieifhfgedoiaaaGreatDoorNLfG
import Derived.Test.YtieifhfgedoiaaaGreatDoorNLfE
namespace Go.Proofs.YtieifhfgedoiaaaGreatDoor
open Go.RowKit Go.Lib
set_option linter.unusedVariables false
set_option linter.unusedSimpArgs false
attribute [local go_sem] ExtS.cell ExtS.froz upE_value upE_skip upE_enter
theorem of95 (p wd r : Nat) (br : Bool) (hr : r ≤ 1114111) (w : World) : Calls Tryz.prog 77 #[.agg #[.int .i64 p, .int .i64 wd, .int .i32 r, .bool br]] w fun e w' => e = .returned (.int .i64 (if br then 11 else kindI r)) ∧ Below w.heap.size w w' := by
 have hK := hid (fun w => rkind106 r (by omega) (by omega) w)
 cases br
 ·go_enter Tryz.func77, Tryz.ntmps77
  go_wp2_with (go_at_call 88; (with_reducible refine Calls.mono (hK.out _) ?_); rintro e w1 ⟨rfl, rfl⟩)
  go_ret
  exact ⟨rfl, (Below.refl _ _).alloc (Nat.le_refl _) _⟩
 ·go_enter Tryz.func77, Tryz.ntmps77
  go_wp2_with fail
  go_ret
  exact ⟨rfl, (Below.refl _ _).alloc (Nat.le_refl _) _⟩
theorem asc_wd {s : ByteArray} {p c : Nat} (h : isB s p c = true) (hc : c < 128) : wdN s p = 1 := by
 obtain ⟨hp, h2⟩ := of_decide_eq_true h
 unfold wdN
 rw [dec_ascii hp (by omega)]
set_option maxHeartbeats 2000000 in
theorem lmust_yes {w : World} {R k p c : Nat} {s : ByteArray} {lv A : Value} {q : Int} (h : Ln w R s lv k 0 q A) (hk : AtK s k p) (hb : isB s p c = true) (hs : s.size ≤ 100000000) :
  Calls Tryz.prog 42 #[.pointer (some ⟨R, 0, none⟩), .int .u8 c] w fun x w' => x = .returned (.tuple #[]) ∧ Ln w' R s lv (k + 1) 0 q A ∧ ButS [R] w w' := by
 have hL := hid h
 have hI := hid (lis_any h hk c)
 rw [hb] at hI
 have hkl := hk.lt (isB_lt hb)
 have hkn := posL_len s _ 0 rfl
 have hw1 : IntKind.i64.wrap ((k : Int) + 1) = (k : Int) + 1 := Wi64 (by omega)
 clear h hk hb hkl hkn
 go_enter Tryz.func42, Tryz.ntmps42
 go_wp2_with (go_at_call 44; (with_reducible refine Calls.mono hI.out ?_); rintro x w1 ⟨rfl, hb1⟩; have hL1 := hid (hL.out.low hb1); have hB1 := hid hb1; clear hb1 hI; obtain ⟨c0, c1, c2, c3, c4, c5, cf⟩ := hL1.out.c6)
 go_end0
 exact ⟨rfl, hL1.out.go (k + 1), (ButS.of hB1.out).set (List.mem_singleton.2 rfl) 2 _⟩
set_option maxHeartbeats 2000000 in
theorem lmust_no {w : World} {R k p c : Nat} {s : ByteArray} {lv A : Value} {q : Int} (h : Ln w R s lv k 0 q A) (hk : AtK s k p) (hb : isB s p c = false) :
  Calls Tryz.prog 42 #[.pointer (some ⟨R, 0, none⟩), .int .u8 c] w fun x w' => x = .returned (.tuple #[]) ∧ Ln w' R s lv k 90 p A ∧ ButS [R] w w' := by
 have hL := hid h
 have hI := hid (lis_any h hk c)
 have hW := hid (fun w' (h : Ln w' R s lv k 0 q A) => wrong_new h hk 90)
 rw [hb] at hI
 clear h hk hb
 go_enter Tryz.func42, Tryz.ntmps42
 go_wp2_with (first | (go_at_call 44; (with_reducible refine Calls.mono hI.out ?_); rintro x w1 ⟨rfl, hb1⟩; have hL1 := hid (hL.out.low hb1); have hB1 := hid hb1; clear hb1 hI) | (go_at_call 41; (with_reducible refine Calls.mono (hW.out _ hL1.out) ?_); rintro x w2 ⟨rfl, hL2, hB2⟩; have HL2 := hid hL2; have HB2 := hid hB2; clear hL2 hB2))
 refine bodyPost_ret (results_none rfl _ _ _) rfl ?_
 exact ⟨rfl, HL2.out, (ButS.of hB1.out).trans HB2.out⟩
set_option maxHeartbeats 2000000 in
theorem lmust_bad {w : World} {R k c : Nat} {s : ByteArray} {lv A : Value} {e q : Int} (h : Ln w R s lv k e q A) (he : e ≠ 0) :
  Calls Tryz.prog 42 #[.pointer (some ⟨R, 0, none⟩), .int .u8 c] w fun x w' => x = .returned (.tuple #[]) ∧ Ln w' R s lv k e q A ∧ ButS [R] w w' := by
 have hL := hid h
 have hI := hid (lis_bad h he c)
 have hW := hid (fun w' (h : Ln w' R s lv k e q A) => wrong_old h he 90)
 clear h he
 go_enter Tryz.func42, Tryz.ntmps42
 go_wp2_with (first | (go_at_call 44; (with_reducible refine Calls.mono hI.out ?_); rintro x w1 ⟨rfl, hb1⟩; have hL1 := hid (hL.out.low hb1); have hB1 := hid hb1; clear hb1 hI) | (go_at_call 41; (with_reducible refine Calls.mono (hW.out _ hL1.out) ?_); rintro x w2 ⟨rfl, rfl⟩))
 refine bodyPost_ret (results_none rfl _ _ _) rfl ?_
 exact ⟨rfl, hL1.out, ButS.of hB1.out⟩
set_option maxHeartbeats 2000000 in
theorem lplain_bad {w : World} {R k : Nat} {s : ByteArray} {lv A : Value} {e q : Int} (h : Ln w R s lv k e q A) (he : e ≠ 0) :
  Calls Tryz.prog 61 #[.pointer (some ⟨R, 0, none⟩)] w fun x w' => x = .returned (.bool false) ∧ Below w.heap.size w w' := by
 obtain ⟨pv, cap, rfl⟩ := h.shape
 obtain ⟨c0, c1, c2, c3, c4, c5, cf⟩ := h.c6
 have q1 : (e != 0) = true := bne_true_of he
 clear h he
 go_enter Tryz.func61, Tryz.ntmps61
 go_wp2_with fail
 refine region_plan [] (.quiet 0 (.quiet 1 (.quiet 2 (.quiet 3 (.quiet 4 (.quiet 5 (.quiet 6 (.quiet 7 (.quiet 8 (.quiet 9 (.quiet 10 (.quiet 11 (.quiet 12 (.quiet 13 (.quiet 14 (.quiet 15 (.quiet 16 .done))))))))))))))))) (by kernel_rfl) (by kernel_rfl) ?_
 repeat (apply p_quiet; (case hi => rfl); intro K hK; go_simp; first | (refine ⟨hK _ ?_⟩; clear hK K) | (refine ⟨_, fun x => hLow.out x.w, hK _ ?_⟩; clear hK K))
 apply p_done
 intro W17 hb17
 go_wp2_with fail
 go_ret
 exact ⟨rfl, hb17⟩
set_option maxHeartbeats 2000000 in
theorem lplain_end {w : World} {R k p : Nat} {s : ByteArray} {lv A : Value} {q : Int} (h : Ln w R s lv k 0 q A) (hk : AtK s k p) (hp : ¬ p < s.size) :
  Calls Tryz.prog 61 #[.pointer (some ⟨R, 0, none⟩)] w fun x w' => x = .returned (.bool false) ∧ Below w.heap.size w w' := by
 obtain ⟨e1, e2⟩ := hk.ge hp
 obtain ⟨pv, cap, rfl⟩ := h.shape
 obtain ⟨n, hn⟩ : ∃ n, (posL s 0).length = n := ⟨_, rfl⟩
 rw [hn] at h e1
 obtain ⟨c0, c1, c2, c3, c4, c5, cf⟩ := h.c6
 subst e1
 have q1 : decide ((k : Int) ≤ k) = true := by simp
 have q2 : decide (k ≤ k) = true := by simp
 clear hn h hk hp e2
 go_enter Tryz.func61, Tryz.ntmps61
 go_wp2_with fail
 refine region_plan [] (.quiet 0 (.quiet 1 (.quiet 2 (.quiet 3 (.quiet 4 (.quiet 5 (.quiet 6 (.quiet 7 (.quiet 8 (.quiet 9 (.quiet 10 (.quiet 11 (.quiet 12 (.quiet 13 (.quiet 14 (.quiet 15 (.quiet 16 .done))))))))))))))))) (by kernel_rfl) (by kernel_rfl) ?_
 repeat (apply p_quiet; (case hi => rfl); intro K hK; go_simp; first | (refine ⟨hK _ ?_⟩; clear hK K) | (refine ⟨_, fun x => hLow.out x.w, hK _ ?_⟩; clear hK K))
 apply p_done
 intro W17 hb17
 go_wp2_with fail
 go_ret
 exact ⟨rfl, hb17⟩
theorem rlowerB (r : Int) (h0 : 0 ≤ r) (h9 : r ≤ 1114111) (w : World) : Calls Tryz.prog 78 #[.int .i32 r] w fun e w' => e = .returned (.int .i32 (lowI r)) ∧ Below w.heap.size w w' := (rlower36 r h0 h9 w).mono (fun e w' hh => by obtain ⟨h1, rfl⟩ := hh; exact ⟨h1, Below.refl _ _⟩)
theorem kind_11 (r : Int) : ¬ kindI r = 11 := by
 unfold kindI
 repeat' split
 all_goals omega
set_option maxHeartbeats 4000000 in
theorem lplain_br {w : World} {R k p : Nat} {s : ByteArray} {lv A : Value} {q : Int} (h : Ln w R s lv k 0 q A) (hk : AtK s k p) (hp : p < s.size) (hs : s.size ≤ 100000000) (hbr : isBr s p = true) :
  Calls Tryz.prog 61 #[.pointer (some ⟨R, 0, none⟩)] w fun x w' => x = .returned (.bool true) ∧ Below w.heap.size w w' := by
 have hL := hid h
 have hKK := hid hk
 obtain ⟨m, g, cap, hn, rfl, hkn⟩ := h.shape1 hk hp
 have hrb := rn_bd hp
 have hO := hid (fun (w : World) => of95 p (wdN s p) (rnN s p) (isBr s p) hrb w)
 rw [hbr] at hO
 simp only [if_true] at hO
 obtain ⟨c0, c1, c2, c3, c4, c5, cf⟩ := h.c6
 have q1 := dF (show ¬ ((m : Int) + 1 ≤ k) by omega)
 have q2 := dF (show ¬ (m + 1 ≤ k) by omega)
 have q5 : (k : Int) < (m : Int) + 1 := by omega
 have q6 : (k : Int) ≤ (m : Int) := by omega
 have q7 : k ≤ m := by omega
 have hN := hid hn
 clear hn h hk
 go_enter Tryz.func61, Tryz.ntmps61
 go_wp2_with fail
 refine region_plan [] (.quiet 0 (.quiet 1 (.quiet 2 (.quiet 3 (.quiet 4 (.quiet 5 (.quiet 6 (.quiet 7 (.quiet 8 (.quiet 9 (.quiet 10 (.quiet 11 (.quiet 12 (.quiet 13 (.quiet 14 (.quiet 15 (.quiet 16 .done))))))))))))))))) (by kernel_rfl) (by kernel_rfl) ?_
 repeat (apply p_quiet; (case hi => rfl); intro K hK; go_simp; first | (refine ⟨hK _ ?_⟩; clear hK K) | (refine ⟨_, fun x => hLow.out x.w, hK _ ?_⟩; clear hK K))
 apply p_done
 intro W17 hb17
 replace hL := hid (hL.out.low hb17)
 clear c0 c1 c2 c3 c4 c5 cf
 obtain ⟨y0, y1, y2, y3⟩ := hL.out.piece hKK.out hp hN.out
 obtain ⟨c0, c1, c2, c3, c4, c5, cf⟩ := hL.out.c6
 generalize wdN s p = wd at *
 rw [hbr] at y3
 generalize rnN s p = r at *
 go_wp2_with fail
 refine region_plan [] (.quiet 0 (.quiet 1 (.quiet 2 (.quiet 3 (.quiet 4 (.quiet 5 (.quiet 6 (.quiet 7 (.quiet 8 (.quiet 9 (.one 10 (.one 11 .done)))))))))))) (by kernel_rfl) (by kernel_rfl) ?_
 repeat (apply p_quiet; (case hi => rfl); intro K hK; go_simp; first | (refine ⟨hK _ ?_⟩; clear hK K) | (refine ⟨_, fun x => hLow.out x.w, hK _ ?_⟩; clear hK K))
 apply p_one
 case hi => rfl
 intro W1 hb1 K hK
 go_wp2_with fail
 refine hK _ _ (.of (hb1.alloc hb1.size _)) ?_
 clear hK K y0 y1 y2 y3 c0 c1 c2 c3 c4 c5 cf
 have KT := hid (Blk.new W1 113 #[.int .i64 0, .int .i64 0, .int .i32 0, .bool false])
 have hB := hid (hb1.alloc hb1.size (.cells #[.int .i64 0, .int .i64 0, .int .i32 0, .bool false] 113))
 have hsz := hid hb1.size
 clear hb1
 generalize W1.alloc (.cells #[.int .i64 0, .int .i64 0, .int .i32 0, .bool false] 113) = W2 at *
 generalize W1.heap.size = T at *
 apply p_one
 case hi => rfl
 intro W3 hb3 K hK
 replace KT := hid (KT.out.low hb3)
 replace hB := hid (bnext hB.out hb3)
 clear hb3
 obtain ⟨d0, d1, d2, d3, df⟩ := KT.out.c4
 go_wp2_with fail
 have hB5 := hid (below_put4 hB.out hsz.out (.int .i64 p) (.int .i64 wd) (.int .i32 r) (.bool true))
 refine hK _ _ (.of hB5.out) ?_
 clear hK K d0 d1 d2 d3 df
 replace KT := hid (KT.out.put4 (.int .i64 p) (.int .i64 wd) (.int .i32 r) (.bool true))
 generalize (((W3.setCell ⟨T, 0, none⟩ (.int .i64 p)).setCell ⟨T, 1, none⟩ (.int .i64 wd)).setCell ⟨T, 2, none⟩ (.int .i32 r)).setCell ⟨T, 3, none⟩ (.bool true) = W5 at *
 apply p_done
 intro W6 hb6
 replace KT := hid (KT.out.low hb6)
 have hB6 := hid (bnext hb17 (bnext hB5.out hb6))
 clear hb6 hb17 hB hB5
 obtain ⟨d0, d1, d2, d3, df⟩ := KT.out.c4
 go_wp2_with (go_at_call 77; (with_reducible refine Calls.mono (hO.out _) ?_); rintro e w7 ⟨rfl, hb7⟩; replace KT := hid (KT.out.low hb7); replace hB6 := hid (bnextL hB6.out hb7); clear hb7 hO d0 d1 d2 d3 df; obtain ⟨d0, d1, d2, d3, df⟩ := KT.out.c4)
 go_ret
 exact ⟨rfl, hB6.out⟩
set_option maxHeartbeats 4000000 in
theorem lplain_k1t {w : World} {R k p : Nat} {s : ByteArray} {lv A : Value} {q : Int} (h : Ln w R s lv k 0 q A) (hk : AtK s k p) (hp : p < s.size) (hs : s.size ≤ 100000000) (hbr : isBr s p = false) (hk9 : kindI (rnN s p) = 1) (hl9 : lowI (rnN s p) = rnN s p) :
  Calls Tryz.prog 61 #[.pointer (some ⟨R, 0, none⟩)] w fun x w' => x = .returned (.bool true) ∧ Below w.heap.size w w' := by
 have hL := hid h
 have hKK := hid hk
 obtain ⟨m, g, cap, hn, rfl, hkn⟩ := h.shape1 hk hp
 have hrb := rn_bd hp
 have hO := hid (fun (w : World) => of95 p (wdN s p) (rnN s p) (isBr s p) hrb w)
 rw [hbr] at hO
 simp only [Bool.false_eq_true, if_false, hk9] at hO
 have hLow := hid (fun w => rlowerB (rnN s p) (by omega) (by omega) w)
 rw [hl9] at hLow
 have t9 : ((rnN s p : Int) == (rnN s p : Int)) = true := by simp
 obtain ⟨c0, c1, c2, c3, c4, c5, cf⟩ := h.c6
 have q1 := dF (show ¬ ((m : Int) + 1 ≤ k) by omega)
 have q2 := dF (show ¬ (m + 1 ≤ k) by omega)
 have q5 : (k : Int) < (m : Int) + 1 := by omega
 have q6 : (k : Int) ≤ (m : Int) := by omega
 have q7 : k ≤ m := by omega
 have hN := hid hn
 clear hn h hk
 go_enter Tryz.func61, Tryz.ntmps61
 go_wp2_with fail
 refine region_plan [] (.quiet 0 (.quiet 1 (.quiet 2 (.quiet 3 (.quiet 4 (.quiet 5 (.quiet 6 (.quiet 7 (.quiet 8 (.quiet 9 (.quiet 10 (.quiet 11 (.quiet 12 (.quiet 13 (.quiet 14 (.quiet 15 (.quiet 16 .done))))))))))))))))) (by kernel_rfl) (by kernel_rfl) ?_
 repeat (apply p_quiet; (case hi => rfl); intro K hK; go_simp; first | (refine ⟨hK _ ?_⟩; clear hK K) | (refine ⟨_, fun x => hLow.out x.w, hK _ ?_⟩; clear hK K))
 apply p_done
 intro W17 hb17
 replace hL := hid (hL.out.low hb17)
 clear c0 c1 c2 c3 c4 c5 cf
 obtain ⟨y0, y1, y2, y3⟩ := hL.out.piece hKK.out hp hN.out
 obtain ⟨c0, c1, c2, c3, c4, c5, cf⟩ := hL.out.c6
 generalize wdN s p = wd at *
 rw [hbr] at y3
 generalize rnN s p = r at *
 go_wp2_with fail
 refine region_plan [] (.quiet 0 (.quiet 1 (.quiet 2 (.quiet 3 (.quiet 4 (.quiet 5 (.quiet 6 (.quiet 7 (.quiet 8 (.quiet 9 (.one 10 (.one 11 .done)))))))))))) (by kernel_rfl) (by kernel_rfl) ?_
 repeat (apply p_quiet; (case hi => rfl); intro K hK; go_simp; first | (refine ⟨hK _ ?_⟩; clear hK K) | (refine ⟨_, fun x => hLow.out x.w, hK _ ?_⟩; clear hK K))
 apply p_one
 case hi => rfl
 intro W1 hb1 K hK
 go_wp2_with fail
 refine hK _ _ (.of (hb1.alloc hb1.size _)) ?_
 clear hK K y0 y1 y2 y3 c0 c1 c2 c3 c4 c5 cf
 have KT := hid (Blk.new W1 113 #[.int .i64 0, .int .i64 0, .int .i32 0, .bool false])
 have hB := hid (hb1.alloc hb1.size (.cells #[.int .i64 0, .int .i64 0, .int .i32 0, .bool false] 113))
 have hsz := hid hb1.size
 clear hb1
 generalize W1.alloc (.cells #[.int .i64 0, .int .i64 0, .int .i32 0, .bool false] 113) = W2 at *
 generalize W1.heap.size = T at *
 apply p_one
 case hi => rfl
 intro W3 hb3 K hK
 replace KT := hid (KT.out.low hb3)
 replace hB := hid (bnext hB.out hb3)
 clear hb3
 obtain ⟨d0, d1, d2, d3, df⟩ := KT.out.c4
 go_wp2_with fail
 have hB5 := hid (below_put4 hB.out hsz.out (.int .i64 p) (.int .i64 wd) (.int .i32 r) (.bool false))
 refine hK _ _ (.of hB5.out) ?_
 clear hK K d0 d1 d2 d3 df
 replace KT := hid (KT.out.put4 (.int .i64 p) (.int .i64 wd) (.int .i32 r) (.bool false))
 generalize (((W3.setCell ⟨T, 0, none⟩ (.int .i64 p)).setCell ⟨T, 1, none⟩ (.int .i64 wd)).setCell ⟨T, 2, none⟩ (.int .i32 r)).setCell ⟨T, 3, none⟩ (.bool false) = W5 at *
 apply p_done
 intro W6 hb6
 replace KT := hid (KT.out.low hb6)
 have hB6 := hid (bnext hb17 (bnext hB5.out hb6))
 clear hb6 hb17 hB hB5
 obtain ⟨d0, d1, d2, d3, df⟩ := KT.out.c4
 go_wp2_with (go_at_call 77; (with_reducible refine Calls.mono (hO.out _) ?_); rintro e w7 ⟨rfl, hb7⟩; replace KT := hid (KT.out.low hb7); replace hB6 := hid (bnextL hB6.out hb7); clear hb7 hO d0 d1 d2 d3 df; obtain ⟨d0, d1, d2, d3, df⟩ := KT.out.c4)
 refine region_plan [] (.quiet 0 (.quiet 1 (.quiet 2 (.quiet 3 (.quiet 4 (.quiet 5 (.quiet 6 (.quiet 7 (.quiet 8 (.quiet 9 .done)))))))))) (by kernel_rfl) (by kernel_rfl) ?_
 repeat (apply p_quiet; (case hi => rfl); intro K hK; go_simp; first | (refine ⟨hK _ ?_⟩; clear hK K) | (refine ⟨_, fun x => hLow.out x.w, hK _ ?_⟩; clear hK K))
 apply p_done
 intro W10 hb10
 go_wp2_with fail
 go_ret
 exact ⟨rfl, bnextL hB6.out hb10⟩
set_option maxHeartbeats 4000000 in
theorem lplain_k1f {w : World} {R k p : Nat} {s : ByteArray} {lv A : Value} {q : Int} (h : Ln w R s lv k 0 q A) (hk : AtK s k p) (hp : p < s.size) (hs : s.size ≤ 100000000) (hbr : isBr s p = false) (hk9 : kindI (rnN s p) = 1) (hl9 : ¬ lowI (rnN s p) = rnN s p) :
  Calls Tryz.prog 61 #[.pointer (some ⟨R, 0, none⟩)] w fun x w' => x = .returned (.bool false) ∧ Below w.heap.size w w' := by
 have hL := hid h
 have hKK := hid hk
 obtain ⟨m, g, cap, hn, rfl, hkn⟩ := h.shape1 hk hp
 have hrb := rn_bd hp
 have hO := hid (fun (w : World) => of95 p (wdN s p) (rnN s p) (isBr s p) hrb w)
 rw [hbr] at hO
 simp only [Bool.false_eq_true, if_false, hk9] at hO
 have hLow := hid (fun w => rlowerB (rnN s p) (by omega) (by omega) w)
 have t9 : (lowI (rnN s p) == (rnN s p : Int)) = false := beq_false_of hl9
 generalize lowI (rnN s p) = lo at *
 obtain ⟨c0, c1, c2, c3, c4, c5, cf⟩ := h.c6
 have q1 := dF (show ¬ ((m : Int) + 1 ≤ k) by omega)
 have q2 := dF (show ¬ (m + 1 ≤ k) by omega)
 have q5 : (k : Int) < (m : Int) + 1 := by omega
 have q6 : (k : Int) ≤ (m : Int) := by omega
 have q7 : k ≤ m := by omega
 have hN := hid hn
 clear hn h hk
 go_enter Tryz.func61, Tryz.ntmps61
 go_wp2_with fail
 refine region_plan [] (.quiet 0 (.quiet 1 (.quiet 2 (.quiet 3 (.quiet 4 (.quiet 5 (.quiet 6 (.quiet 7 (.quiet 8 (.quiet 9 (.quiet 10 (.quiet 11 (.quiet 12 (.quiet 13 (.quiet 14 (.quiet 15 (.quiet 16 .done))))))))))))))))) (by kernel_rfl) (by kernel_rfl) ?_
 repeat (apply p_quiet; (case hi => rfl); intro K hK; go_simp; first | (refine ⟨hK _ ?_⟩; clear hK K) | (refine ⟨_, fun x => hLow.out x.w, hK _ ?_⟩; clear hK K))
 apply p_done
 intro W17 hb17
 replace hL := hid (hL.out.low hb17)
 clear c0 c1 c2 c3 c4 c5 cf
 obtain ⟨y0, y1, y2, y3⟩ := hL.out.piece hKK.out hp hN.out
 obtain ⟨c0, c1, c2, c3, c4, c5, cf⟩ := hL.out.c6
 generalize wdN s p = wd at *
 rw [hbr] at y3
 generalize rnN s p = r at *
 go_wp2_with fail
 refine region_plan [] (.quiet 0 (.quiet 1 (.quiet 2 (.quiet 3 (.quiet 4 (.quiet 5 (.quiet 6 (.quiet 7 (.quiet 8 (.quiet 9 (.one 10 (.one 11 .done)))))))))))) (by kernel_rfl) (by kernel_rfl) ?_
 repeat (apply p_quiet; (case hi => rfl); intro K hK; go_simp; first | (refine ⟨hK _ ?_⟩; clear hK K) | (refine ⟨_, fun x => hLow.out x.w, hK _ ?_⟩; clear hK K))
 apply p_one
 case hi => rfl
 intro W1 hb1 K hK
 go_wp2_with fail
 refine hK _ _ (.of (hb1.alloc hb1.size _)) ?_
 clear hK K y0 y1 y2 y3 c0 c1 c2 c3 c4 c5 cf
 have KT := hid (Blk.new W1 113 #[.int .i64 0, .int .i64 0, .int .i32 0, .bool false])
 have hB := hid (hb1.alloc hb1.size (.cells #[.int .i64 0, .int .i64 0, .int .i32 0, .bool false] 113))
 have hsz := hid hb1.size
 clear hb1
 generalize W1.alloc (.cells #[.int .i64 0, .int .i64 0, .int .i32 0, .bool false] 113) = W2 at *
 generalize W1.heap.size = T at *
 apply p_one
 case hi => rfl
 intro W3 hb3 K hK
 replace KT := hid (KT.out.low hb3)
 replace hB := hid (bnext hB.out hb3)
 clear hb3
 obtain ⟨d0, d1, d2, d3, df⟩ := KT.out.c4
 go_wp2_with fail
 have hB5 := hid (below_put4 hB.out hsz.out (.int .i64 p) (.int .i64 wd) (.int .i32 r) (.bool false))
 refine hK _ _ (.of hB5.out) ?_
 clear hK K d0 d1 d2 d3 df
 replace KT := hid (KT.out.put4 (.int .i64 p) (.int .i64 wd) (.int .i32 r) (.bool false))
 generalize (((W3.setCell ⟨T, 0, none⟩ (.int .i64 p)).setCell ⟨T, 1, none⟩ (.int .i64 wd)).setCell ⟨T, 2, none⟩ (.int .i32 r)).setCell ⟨T, 3, none⟩ (.bool false) = W5 at *
 apply p_done
 intro W6 hb6
 replace KT := hid (KT.out.low hb6)
 have hB6 := hid (bnext hb17 (bnext hB5.out hb6))
 clear hb6 hb17 hB hB5
 obtain ⟨d0, d1, d2, d3, df⟩ := KT.out.c4
 go_wp2_with (go_at_call 77; (with_reducible refine Calls.mono (hO.out _) ?_); rintro e w7 ⟨rfl, hb7⟩; replace KT := hid (KT.out.low hb7); replace hB6 := hid (bnextL hB6.out hb7); clear hb7 hO d0 d1 d2 d3 df; obtain ⟨d0, d1, d2, d3, df⟩ := KT.out.c4)
 refine region_plan [] (.quiet 0 (.quiet 1 (.quiet 2 (.quiet 3 (.quiet 4 (.quiet 5 (.quiet 6 (.quiet 7 (.quiet 8 (.quiet 9 .done)))))))))) (by kernel_rfl) (by kernel_rfl) ?_
 repeat (apply p_quiet; (case hi => rfl); intro K hK; go_simp; first | (refine ⟨hK _ ?_⟩; clear hK K) | (refine ⟨_, fun x => hLow.out x.w, hK _ ?_⟩; clear hK K))
 apply p_done
 intro W10 hb10
 go_wp2_with fail
 go_ret
 exact ⟨rfl, bnextL hB6.out hb10⟩
set_option maxHeartbeats 4000000 in
theorem lplain_k2t {w : World} {R k p : Nat} {s : ByteArray} {lv A : Value} {q : Int} (h : Ln w R s lv k 0 q A) (hk : AtK s k p) (hp : p < s.size) (hs : s.size ≤ 100000000) (hbr : isBr s p = false) (hk9 : kindI (rnN s p) = 2) (hl9 : lowI (rnN s p) = rnN s p) :
  Calls Tryz.prog 61 #[.pointer (some ⟨R, 0, none⟩)] w fun x w' => x = .returned (.bool true) ∧ Below w.heap.size w w' := by
 have hL := hid h
 have hKK := hid hk
 obtain ⟨m, g, cap, hn, rfl, hkn⟩ := h.shape1 hk hp
 have hrb := rn_bd hp
 have hO := hid (fun (w : World) => of95 p (wdN s p) (rnN s p) (isBr s p) hrb w)
 rw [hbr] at hO
 simp only [Bool.false_eq_true, if_false, hk9] at hO
 have hLow := hid (fun w => rlowerB (rnN s p) (by omega) (by omega) w)
 rw [hl9] at hLow
 have t9 : ((rnN s p : Int) == (rnN s p : Int)) = true := by simp
 obtain ⟨c0, c1, c2, c3, c4, c5, cf⟩ := h.c6
 have q1 := dF (show ¬ ((m : Int) + 1 ≤ k) by omega)
 have q2 := dF (show ¬ (m + 1 ≤ k) by omega)
 have q5 : (k : Int) < (m : Int) + 1 := by omega
 have q6 : (k : Int) ≤ (m : Int) := by omega
 have q7 : k ≤ m := by omega
 have hN := hid hn
 clear hn h hk
 go_enter Tryz.func61, Tryz.ntmps61
 go_wp2_with fail
 refine region_plan [] (.quiet 0 (.quiet 1 (.quiet 2 (.quiet 3 (.quiet 4 (.quiet 5 (.quiet 6 (.quiet 7 (.quiet 8 (.quiet 9 (.quiet 10 (.quiet 11 (.quiet 12 (.quiet 13 (.quiet 14 (.quiet 15 (.quiet 16 .done))))))))))))))))) (by kernel_rfl) (by kernel_rfl) ?_
 repeat (apply p_quiet; (case hi => rfl); intro K hK; go_simp; first | (refine ⟨hK _ ?_⟩; clear hK K) | (refine ⟨_, fun x => hLow.out x.w, hK _ ?_⟩; clear hK K))
 apply p_done
 intro W17 hb17
 replace hL := hid (hL.out.low hb17)
 clear c0 c1 c2 c3 c4 c5 cf
 obtain ⟨y0, y1, y2, y3⟩ := hL.out.piece hKK.out hp hN.out
 obtain ⟨c0, c1, c2, c3, c4, c5, cf⟩ := hL.out.c6
 generalize wdN s p = wd at *
 rw [hbr] at y3
 generalize rnN s p = r at *
 go_wp2_with fail
 refine region_plan [] (.quiet 0 (.quiet 1 (.quiet 2 (.quiet 3 (.quiet 4 (.quiet 5 (.quiet 6 (.quiet 7 (.quiet 8 (.quiet 9 (.one 10 (.one 11 .done)))))))))))) (by kernel_rfl) (by kernel_rfl) ?_
 repeat (apply p_quiet; (case hi => rfl); intro K hK; go_simp; first | (refine ⟨hK _ ?_⟩; clear hK K) | (refine ⟨_, fun x => hLow.out x.w, hK _ ?_⟩; clear hK K))
 apply p_one
 case hi => rfl
 intro W1 hb1 K hK
 go_wp2_with fail
 refine hK _ _ (.of (hb1.alloc hb1.size _)) ?_
 clear hK K y0 y1 y2 y3 c0 c1 c2 c3 c4 c5 cf
 have KT := hid (Blk.new W1 113 #[.int .i64 0, .int .i64 0, .int .i32 0, .bool false])
 have hB := hid (hb1.alloc hb1.size (.cells #[.int .i64 0, .int .i64 0, .int .i32 0, .bool false] 113))
 have hsz := hid hb1.size
 clear hb1
 generalize W1.alloc (.cells #[.int .i64 0, .int .i64 0, .int .i32 0, .bool false] 113) = W2 at *
 generalize W1.heap.size = T at *
 apply p_one
 case hi => rfl
 intro W3 hb3 K hK
 replace KT := hid (KT.out.low hb3)
 replace hB := hid (bnext hB.out hb3)
 clear hb3
 obtain ⟨d0, d1, d2, d3, df⟩ := KT.out.c4
 go_wp2_with fail
 have hB5 := hid (below_put4 hB.out hsz.out (.int .i64 p) (.int .i64 wd) (.int .i32 r) (.bool false))
 refine hK _ _ (.of hB5.out) ?_
 clear hK K d0 d1 d2 d3 df
 replace KT := hid (KT.out.put4 (.int .i64 p) (.int .i64 wd) (.int .i32 r) (.bool false))
 generalize (((W3.setCell ⟨T, 0, none⟩ (.int .i64 p)).setCell ⟨T, 1, none⟩ (.int .i64 wd)).setCell ⟨T, 2, none⟩ (.int .i32 r)).setCell ⟨T, 3, none⟩ (.bool false) = W5 at *
 apply p_done
 intro W6 hb6
 replace KT := hid (KT.out.low hb6)
 have hB6 := hid (bnext hb17 (bnext hB5.out hb6))
 clear hb6 hb17 hB hB5
 obtain ⟨d0, d1, d2, d3, df⟩ := KT.out.c4
 go_wp2_with (go_at_call 77; (with_reducible refine Calls.mono (hO.out _) ?_); rintro e w7 ⟨rfl, hb7⟩; replace KT := hid (KT.out.low hb7); replace hB6 := hid (bnextL hB6.out hb7); clear hb7 hO d0 d1 d2 d3 df; obtain ⟨d0, d1, d2, d3, df⟩ := KT.out.c4)
 refine region_plan [] (.quiet 0 (.quiet 1 (.quiet 2 (.quiet 3 (.quiet 4 (.quiet 5 (.quiet 6 (.quiet 7 (.quiet 8 (.quiet 9 .done)))))))))) (by kernel_rfl) (by kernel_rfl) ?_
 repeat (apply p_quiet; (case hi => rfl); intro K hK; go_simp; first | (refine ⟨hK _ ?_⟩; clear hK K) | (refine ⟨_, fun x => hLow.out x.w, hK _ ?_⟩; clear hK K))
 apply p_done
 intro W10 hb10
 go_wp2_with fail
 go_ret
 exact ⟨rfl, bnextL hB6.out hb10⟩
set_option maxHeartbeats 4000000 in
theorem lplain_k2f {w : World} {R k p : Nat} {s : ByteArray} {lv A : Value} {q : Int} (h : Ln w R s lv k 0 q A) (hk : AtK s k p) (hp : p < s.size) (hs : s.size ≤ 100000000) (hbr : isBr s p = false) (hk9 : kindI (rnN s p) = 2) (hl9 : ¬ lowI (rnN s p) = rnN s p) :
  Calls Tryz.prog 61 #[.pointer (some ⟨R, 0, none⟩)] w fun x w' => x = .returned (.bool false) ∧ Below w.heap.size w w' := by
 have hL := hid h
 have hKK := hid hk
 obtain ⟨m, g, cap, hn, rfl, hkn⟩ := h.shape1 hk hp
 have hrb := rn_bd hp
 have hO := hid (fun (w : World) => of95 p (wdN s p) (rnN s p) (isBr s p) hrb w)
 rw [hbr] at hO
 simp only [Bool.false_eq_true, if_false, hk9] at hO
 have hLow := hid (fun w => rlowerB (rnN s p) (by omega) (by omega) w)
 have t9 : (lowI (rnN s p) == (rnN s p : Int)) = false := beq_false_of hl9
 generalize lowI (rnN s p) = lo at *
 obtain ⟨c0, c1, c2, c3, c4, c5, cf⟩ := h.c6
 have q1 := dF (show ¬ ((m : Int) + 1 ≤ k) by omega)
 have q2 := dF (show ¬ (m + 1 ≤ k) by omega)
 have q5 : (k : Int) < (m : Int) + 1 := by omega
 have q6 : (k : Int) ≤ (m : Int) := by omega
 have q7 : k ≤ m := by omega
 have hN := hid hn
 clear hn h hk
 go_enter Tryz.func61, Tryz.ntmps61
 go_wp2_with fail
 refine region_plan [] (.quiet 0 (.quiet 1 (.quiet 2 (.quiet 3 (.quiet 4 (.quiet 5 (.quiet 6 (.quiet 7 (.quiet 8 (.quiet 9 (.quiet 10 (.quiet 11 (.quiet 12 (.quiet 13 (.quiet 14 (.quiet 15 (.quiet 16 .done))))))))))))))))) (by kernel_rfl) (by kernel_rfl) ?_
 repeat (apply p_quiet; (case hi => rfl); intro K hK; go_simp; first | (refine ⟨hK _ ?_⟩; clear hK K) | (refine ⟨_, fun x => hLow.out x.w, hK _ ?_⟩; clear hK K))
 apply p_done
 intro W17 hb17
 replace hL := hid (hL.out.low hb17)
 clear c0 c1 c2 c3 c4 c5 cf
 obtain ⟨y0, y1, y2, y3⟩ := hL.out.piece hKK.out hp hN.out
 obtain ⟨c0, c1, c2, c3, c4, c5, cf⟩ := hL.out.c6
 generalize wdN s p = wd at *
 rw [hbr] at y3
 generalize rnN s p = r at *
 go_wp2_with fail
 refine region_plan [] (.quiet 0 (.quiet 1 (.quiet 2 (.quiet 3 (.quiet 4 (.quiet 5 (.quiet 6 (.quiet 7 (.quiet 8 (.quiet 9 (.one 10 (.one 11 .done)))))))))))) (by kernel_rfl) (by kernel_rfl) ?_
 repeat (apply p_quiet; (case hi => rfl); intro K hK; go_simp; first | (refine ⟨hK _ ?_⟩; clear hK K) | (refine ⟨_, fun x => hLow.out x.w, hK _ ?_⟩; clear hK K))
 apply p_one
 case hi => rfl
 intro W1 hb1 K hK
 go_wp2_with fail
 refine hK _ _ (.of (hb1.alloc hb1.size _)) ?_
 clear hK K y0 y1 y2 y3 c0 c1 c2 c3 c4 c5 cf
 have KT := hid (Blk.new W1 113 #[.int .i64 0, .int .i64 0, .int .i32 0, .bool false])
 have hB := hid (hb1.alloc hb1.size (.cells #[.int .i64 0, .int .i64 0, .int .i32 0, .bool false] 113))
 have hsz := hid hb1.size
 clear hb1
 generalize W1.alloc (.cells #[.int .i64 0, .int .i64 0, .int .i32 0, .bool false] 113) = W2 at *
 generalize W1.heap.size = T at *
 apply p_one
 case hi => rfl
 intro W3 hb3 K hK
 replace KT := hid (KT.out.low hb3)
 replace hB := hid (bnext hB.out hb3)
 clear hb3
 obtain ⟨d0, d1, d2, d3, df⟩ := KT.out.c4
 go_wp2_with fail
 have hB5 := hid (below_put4 hB.out hsz.out (.int .i64 p) (.int .i64 wd) (.int .i32 r) (.bool false))
 refine hK _ _ (.of hB5.out) ?_
 clear hK K d0 d1 d2 d3 df
 replace KT := hid (KT.out.put4 (.int .i64 p) (.int .i64 wd) (.int .i32 r) (.bool false))
 generalize (((W3.setCell ⟨T, 0, none⟩ (.int .i64 p)).setCell ⟨T, 1, none⟩ (.int .i64 wd)).setCell ⟨T, 2, none⟩ (.int .i32 r)).setCell ⟨T, 3, none⟩ (.bool false) = W5 at *
 apply p_done
 intro W6 hb6
 replace KT := hid (KT.out.low hb6)
 have hB6 := hid (bnext hb17 (bnext hB5.out hb6))
 clear hb6 hb17 hB hB5
 obtain ⟨d0, d1, d2, d3, df⟩ := KT.out.c4
 go_wp2_with (go_at_call 77; (with_reducible refine Calls.mono (hO.out _) ?_); rintro e w7 ⟨rfl, hb7⟩; replace KT := hid (KT.out.low hb7); replace hB6 := hid (bnextL hB6.out hb7); clear hb7 hO d0 d1 d2 d3 df; obtain ⟨d0, d1, d2, d3, df⟩ := KT.out.c4)
 refine region_plan [] (.quiet 0 (.quiet 1 (.quiet 2 (.quiet 3 (.quiet 4 (.quiet 5 (.quiet 6 (.quiet 7 (.quiet 8 (.quiet 9 .done)))))))))) (by kernel_rfl) (by kernel_rfl) ?_
 repeat (apply p_quiet; (case hi => rfl); intro K hK; go_simp; first | (refine ⟨hK _ ?_⟩; clear hK K) | (refine ⟨_, fun x => hLow.out x.w, hK _ ?_⟩; clear hK K))
 apply p_done
 intro W10 hb10
 go_wp2_with fail
 go_ret
 exact ⟨rfl, bnextL hB6.out hb10⟩
set_option maxHeartbeats 4000000 in
theorem lplain_k3t {w : World} {R k p : Nat} {s : ByteArray} {lv A : Value} {q : Int} (h : Ln w R s lv k 0 q A) (hk : AtK s k p) (hp : p < s.size) (hs : s.size ≤ 100000000) (hbr : isBr s p = false) (hk9 : kindI (rnN s p) = 3) (hl9 : lowI (rnN s p) = rnN s p) :
  Calls Tryz.prog 61 #[.pointer (some ⟨R, 0, none⟩)] w fun x w' => x = .returned (.bool true) ∧ Below w.heap.size w w' := by
 have hL := hid h
 have hKK := hid hk
 obtain ⟨m, g, cap, hn, rfl, hkn⟩ := h.shape1 hk hp
 have hrb := rn_bd hp
 have hO := hid (fun (w : World) => of95 p (wdN s p) (rnN s p) (isBr s p) hrb w)
 rw [hbr] at hO
 simp only [Bool.false_eq_true, if_false, hk9] at hO
 have hLow := hid (fun w => rlowerB (rnN s p) (by omega) (by omega) w)
 rw [hl9] at hLow
 have t9 : ((rnN s p : Int) == (rnN s p : Int)) = true := by simp
 obtain ⟨c0, c1, c2, c3, c4, c5, cf⟩ := h.c6
 have q1 := dF (show ¬ ((m : Int) + 1 ≤ k) by omega)
 have q2 := dF (show ¬ (m + 1 ≤ k) by omega)
 have q5 : (k : Int) < (m : Int) + 1 := by omega
 have q6 : (k : Int) ≤ (m : Int) := by omega
 have q7 : k ≤ m := by omega
 have hN := hid hn
 clear hn h hk
 go_enter Tryz.func61, Tryz.ntmps61
 go_wp2_with fail
 refine region_plan [] (.quiet 0 (.quiet 1 (.quiet 2 (.quiet 3 (.quiet 4 (.quiet 5 (.quiet 6 (.quiet 7 (.quiet 8 (.quiet 9 (.quiet 10 (.quiet 11 (.quiet 12 (.quiet 13 (.quiet 14 (.quiet 15 (.quiet 16 .done))))))))))))))))) (by kernel_rfl) (by kernel_rfl) ?_
 repeat (apply p_quiet; (case hi => rfl); intro K hK; go_simp; first | (refine ⟨hK _ ?_⟩; clear hK K) | (refine ⟨_, fun x => hLow.out x.w, hK _ ?_⟩; clear hK K))
 apply p_done
 intro W17 hb17
 replace hL := hid (hL.out.low hb17)
 clear c0 c1 c2 c3 c4 c5 cf
 obtain ⟨y0, y1, y2, y3⟩ := hL.out.piece hKK.out hp hN.out
 obtain ⟨c0, c1, c2, c3, c4, c5, cf⟩ := hL.out.c6
 generalize wdN s p = wd at *
 rw [hbr] at y3
 generalize rnN s p = r at *
 go_wp2_with fail
 refine region_plan [] (.quiet 0 (.quiet 1 (.quiet 2 (.quiet 3 (.quiet 4 (.quiet 5 (.quiet 6 (.quiet 7 (.quiet 8 (.quiet 9 (.one 10 (.one 11 .done)))))))))))) (by kernel_rfl) (by kernel_rfl) ?_
 repeat (apply p_quiet; (case hi => rfl); intro K hK; go_simp; first | (refine ⟨hK _ ?_⟩; clear hK K) | (refine ⟨_, fun x => hLow.out x.w, hK _ ?_⟩; clear hK K))
 apply p_one
 case hi => rfl
 intro W1 hb1 K hK
 go_wp2_with fail
 refine hK _ _ (.of (hb1.alloc hb1.size _)) ?_
 clear hK K y0 y1 y2 y3 c0 c1 c2 c3 c4 c5 cf
 have KT := hid (Blk.new W1 113 #[.int .i64 0, .int .i64 0, .int .i32 0, .bool false])
 have hB := hid (hb1.alloc hb1.size (.cells #[.int .i64 0, .int .i64 0, .int .i32 0, .bool false] 113))
 have hsz := hid hb1.size
 clear hb1
 generalize W1.alloc (.cells #[.int .i64 0, .int .i64 0, .int .i32 0, .bool false] 113) = W2 at *
 generalize W1.heap.size = T at *
 apply p_one
 case hi => rfl
 intro W3 hb3 K hK
 replace KT := hid (KT.out.low hb3)
 replace hB := hid (bnext hB.out hb3)
 clear hb3
 obtain ⟨d0, d1, d2, d3, df⟩ := KT.out.c4
 go_wp2_with fail
 have hB5 := hid (below_put4 hB.out hsz.out (.int .i64 p) (.int .i64 wd) (.int .i32 r) (.bool false))
 refine hK _ _ (.of hB5.out) ?_
 clear hK K d0 d1 d2 d3 df
 replace KT := hid (KT.out.put4 (.int .i64 p) (.int .i64 wd) (.int .i32 r) (.bool false))
 generalize (((W3.setCell ⟨T, 0, none⟩ (.int .i64 p)).setCell ⟨T, 1, none⟩ (.int .i64 wd)).setCell ⟨T, 2, none⟩ (.int .i32 r)).setCell ⟨T, 3, none⟩ (.bool false) = W5 at *
 apply p_done
 intro W6 hb6
 replace KT := hid (KT.out.low hb6)
 have hB6 := hid (bnext hb17 (bnext hB5.out hb6))
 clear hb6 hb17 hB hB5
 obtain ⟨d0, d1, d2, d3, df⟩ := KT.out.c4
 go_wp2_with (go_at_call 77; (with_reducible refine Calls.mono (hO.out _) ?_); rintro e w7 ⟨rfl, hb7⟩; replace KT := hid (KT.out.low hb7); replace hB6 := hid (bnextL hB6.out hb7); clear hb7 hO d0 d1 d2 d3 df; obtain ⟨d0, d1, d2, d3, df⟩ := KT.out.c4)
 refine region_plan [] (.quiet 0 (.quiet 1 (.quiet 2 (.quiet 3 (.quiet 4 (.quiet 5 (.quiet 6 (.quiet 7 (.quiet 8 (.quiet 9 .done)))))))))) (by kernel_rfl) (by kernel_rfl) ?_
 repeat (apply p_quiet; (case hi => rfl); intro K hK; go_simp; first | (refine ⟨hK _ ?_⟩; clear hK K) | (refine ⟨_, fun x => hLow.out x.w, hK _ ?_⟩; clear hK K))
 apply p_done
 intro W10 hb10
 go_wp2_with fail
 go_ret
 exact ⟨rfl, bnextL hB6.out hb10⟩
set_option maxHeartbeats 4000000 in
theorem lplain_k3f {w : World} {R k p : Nat} {s : ByteArray} {lv A : Value} {q : Int} (h : Ln w R s lv k 0 q A) (hk : AtK s k p) (hp : p < s.size) (hs : s.size ≤ 100000000) (hbr : isBr s p = false) (hk9 : kindI (rnN s p) = 3) (hl9 : ¬ lowI (rnN s p) = rnN s p) :
  Calls Tryz.prog 61 #[.pointer (some ⟨R, 0, none⟩)] w fun x w' => x = .returned (.bool false) ∧ Below w.heap.size w w' := by
 have hL := hid h
 have hKK := hid hk
 obtain ⟨m, g, cap, hn, rfl, hkn⟩ := h.shape1 hk hp
 have hrb := rn_bd hp
 have hO := hid (fun (w : World) => of95 p (wdN s p) (rnN s p) (isBr s p) hrb w)
 rw [hbr] at hO
 simp only [Bool.false_eq_true, if_false, hk9] at hO
 have hLow := hid (fun w => rlowerB (rnN s p) (by omega) (by omega) w)
 have t9 : (lowI (rnN s p) == (rnN s p : Int)) = false := beq_false_of hl9
 generalize lowI (rnN s p) = lo at *
 obtain ⟨c0, c1, c2, c3, c4, c5, cf⟩ := h.c6
 have q1 := dF (show ¬ ((m : Int) + 1 ≤ k) by omega)
 have q2 := dF (show ¬ (m + 1 ≤ k) by omega)
 have q5 : (k : Int) < (m : Int) + 1 := by omega
 have q6 : (k : Int) ≤ (m : Int) := by omega
 have q7 : k ≤ m := by omega
 have hN := hid hn
 clear hn h hk
 go_enter Tryz.func61, Tryz.ntmps61
 go_wp2_with fail
 refine region_plan [] (.quiet 0 (.quiet 1 (.quiet 2 (.quiet 3 (.quiet 4 (.quiet 5 (.quiet 6 (.quiet 7 (.quiet 8 (.quiet 9 (.quiet 10 (.quiet 11 (.quiet 12 (.quiet 13 (.quiet 14 (.quiet 15 (.quiet 16 .done))))))))))))))))) (by kernel_rfl) (by kernel_rfl) ?_
 repeat (apply p_quiet; (case hi => rfl); intro K hK; go_simp; first | (refine ⟨hK _ ?_⟩; clear hK K) | (refine ⟨_, fun x => hLow.out x.w, hK _ ?_⟩; clear hK K))
 apply p_done
 intro W17 hb17
 replace hL := hid (hL.out.low hb17)
 clear c0 c1 c2 c3 c4 c5 cf
 obtain ⟨y0, y1, y2, y3⟩ := hL.out.piece hKK.out hp hN.out
 obtain ⟨c0, c1, c2, c3, c4, c5, cf⟩ := hL.out.c6
 generalize wdN s p = wd at *
 rw [hbr] at y3
 generalize rnN s p = r at *
 go_wp2_with fail
 refine region_plan [] (.quiet 0 (.quiet 1 (.quiet 2 (.quiet 3 (.quiet 4 (.quiet 5 (.quiet 6 (.quiet 7 (.quiet 8 (.quiet 9 (.one 10 (.one 11 .done)))))))))))) (by kernel_rfl) (by kernel_rfl) ?_
 repeat (apply p_quiet; (case hi => rfl); intro K hK; go_simp; first | (refine ⟨hK _ ?_⟩; clear hK K) | (refine ⟨_, fun x => hLow.out x.w, hK _ ?_⟩; clear hK K))
 apply p_one
 case hi => rfl
 intro W1 hb1 K hK
 go_wp2_with fail
 refine hK _ _ (.of (hb1.alloc hb1.size _)) ?_
 clear hK K y0 y1 y2 y3 c0 c1 c2 c3 c4 c5 cf
 have KT := hid (Blk.new W1 113 #[.int .i64 0, .int .i64 0, .int .i32 0, .bool false])
 have hB := hid (hb1.alloc hb1.size (.cells #[.int .i64 0, .int .i64 0, .int .i32 0, .bool false] 113))
 have hsz := hid hb1.size
 clear hb1
 generalize W1.alloc (.cells #[.int .i64 0, .int .i64 0, .int .i32 0, .bool false] 113) = W2 at *
 generalize W1.heap.size = T at *
 apply p_one
 case hi => rfl
 intro W3 hb3 K hK
 replace KT := hid (KT.out.low hb3)
 replace hB := hid (bnext hB.out hb3)
 clear hb3
 obtain ⟨d0, d1, d2, d3, df⟩ := KT.out.c4
 go_wp2_with fail
 have hB5 := hid (below_put4 hB.out hsz.out (.int .i64 p) (.int .i64 wd) (.int .i32 r) (.bool false))
 refine hK _ _ (.of hB5.out) ?_
 clear hK K d0 d1 d2 d3 df
 replace KT := hid (KT.out.put4 (.int .i64 p) (.int .i64 wd) (.int .i32 r) (.bool false))
 generalize (((W3.setCell ⟨T, 0, none⟩ (.int .i64 p)).setCell ⟨T, 1, none⟩ (.int .i64 wd)).setCell ⟨T, 2, none⟩ (.int .i32 r)).setCell ⟨T, 3, none⟩ (.bool false) = W5 at *
 apply p_done
 intro W6 hb6
 replace KT := hid (KT.out.low hb6)
 have hB6 := hid (bnext hb17 (bnext hB5.out hb6))
 clear hb6 hb17 hB hB5
 obtain ⟨d0, d1, d2, d3, df⟩ := KT.out.c4
 go_wp2_with (go_at_call 77; (with_reducible refine Calls.mono (hO.out _) ?_); rintro e w7 ⟨rfl, hb7⟩; replace KT := hid (KT.out.low hb7); replace hB6 := hid (bnextL hB6.out hb7); clear hb7 hO d0 d1 d2 d3 df; obtain ⟨d0, d1, d2, d3, df⟩ := KT.out.c4)
 refine region_plan [] (.quiet 0 (.quiet 1 (.quiet 2 (.quiet 3 (.quiet 4 (.quiet 5 (.quiet 6 (.quiet 7 (.quiet 8 (.quiet 9 .done)))))))))) (by kernel_rfl) (by kernel_rfl) ?_
 repeat (apply p_quiet; (case hi => rfl); intro K hK; go_simp; first | (refine ⟨hK _ ?_⟩; clear hK K) | (refine ⟨_, fun x => hLow.out x.w, hK _ ?_⟩; clear hK K))
 apply p_done
 intro W10 hb10
 go_wp2_with fail
 go_ret
 exact ⟨rfl, bnextL hB6.out hb10⟩
set_option maxHeartbeats 4000000 in
theorem lplain_k6t {w : World} {R k p : Nat} {s : ByteArray} {lv A : Value} {q : Int} (h : Ln w R s lv k 0 q A) (hk : AtK s k p) (hp : p < s.size) (hs : s.size ≤ 100000000) (hbr : isBr s p = false) (hk9 : kindI (rnN s p) = 6) (hl9 : lowI (rnN s p) = rnN s p) :
  Calls Tryz.prog 61 #[.pointer (some ⟨R, 0, none⟩)] w fun x w' => x = .returned (.bool true) ∧ Below w.heap.size w w' := by
 have hL := hid h
 have hKK := hid hk
 obtain ⟨m, g, cap, hn, rfl, hkn⟩ := h.shape1 hk hp
 have hrb := rn_bd hp
 have hO := hid (fun (w : World) => of95 p (wdN s p) (rnN s p) (isBr s p) hrb w)
 rw [hbr] at hO
 simp only [Bool.false_eq_true, if_false, hk9] at hO
 have hLow := hid (fun w => rlowerB (rnN s p) (by omega) (by omega) w)
 rw [hl9] at hLow
 have t9 : ((rnN s p : Int) == (rnN s p : Int)) = true := by simp
 obtain ⟨c0, c1, c2, c3, c4, c5, cf⟩ := h.c6
 have q1 := dF (show ¬ ((m : Int) + 1 ≤ k) by omega)
 have q2 := dF (show ¬ (m + 1 ≤ k) by omega)
 have q5 : (k : Int) < (m : Int) + 1 := by omega
 have q6 : (k : Int) ≤ (m : Int) := by omega
 have q7 : k ≤ m := by omega
 have hN := hid hn
 clear hn h hk
 go_enter Tryz.func61, Tryz.ntmps61
 go_wp2_with fail
 refine region_plan [] (.quiet 0 (.quiet 1 (.quiet 2 (.quiet 3 (.quiet 4 (.quiet 5 (.quiet 6 (.quiet 7 (.quiet 8 (.quiet 9 (.quiet 10 (.quiet 11 (.quiet 12 (.quiet 13 (.quiet 14 (.quiet 15 (.quiet 16 .done))))))))))))))))) (by kernel_rfl) (by kernel_rfl) ?_
 repeat (apply p_quiet; (case hi => rfl); intro K hK; go_simp; first | (refine ⟨hK _ ?_⟩; clear hK K) | (refine ⟨_, fun x => hLow.out x.w, hK _ ?_⟩; clear hK K))
 apply p_done
 intro W17 hb17
 replace hL := hid (hL.out.low hb17)
 clear c0 c1 c2 c3 c4 c5 cf
 obtain ⟨y0, y1, y2, y3⟩ := hL.out.piece hKK.out hp hN.out
 obtain ⟨c0, c1, c2, c3, c4, c5, cf⟩ := hL.out.c6
 generalize wdN s p = wd at *
 rw [hbr] at y3
 generalize rnN s p = r at *
 go_wp2_with fail
 refine region_plan [] (.quiet 0 (.quiet 1 (.quiet 2 (.quiet 3 (.quiet 4 (.quiet 5 (.quiet 6 (.quiet 7 (.quiet 8 (.quiet 9 (.one 10 (.one 11 .done)))))))))))) (by kernel_rfl) (by kernel_rfl) ?_
 repeat (apply p_quiet; (case hi => rfl); intro K hK; go_simp; first | (refine ⟨hK _ ?_⟩; clear hK K) | (refine ⟨_, fun x => hLow.out x.w, hK _ ?_⟩; clear hK K))
 apply p_one
 case hi => rfl
 intro W1 hb1 K hK
 go_wp2_with fail
 refine hK _ _ (.of (hb1.alloc hb1.size _)) ?_
 clear hK K y0 y1 y2 y3 c0 c1 c2 c3 c4 c5 cf
 have KT := hid (Blk.new W1 113 #[.int .i64 0, .int .i64 0, .int .i32 0, .bool false])
 have hB := hid (hb1.alloc hb1.size (.cells #[.int .i64 0, .int .i64 0, .int .i32 0, .bool false] 113))
 have hsz := hid hb1.size
 clear hb1
 generalize W1.alloc (.cells #[.int .i64 0, .int .i64 0, .int .i32 0, .bool false] 113) = W2 at *
 generalize W1.heap.size = T at *
 apply p_one
 case hi => rfl
 intro W3 hb3 K hK
 replace KT := hid (KT.out.low hb3)
 replace hB := hid (bnext hB.out hb3)
 clear hb3
 obtain ⟨d0, d1, d2, d3, df⟩ := KT.out.c4
 go_wp2_with fail
 have hB5 := hid (below_put4 hB.out hsz.out (.int .i64 p) (.int .i64 wd) (.int .i32 r) (.bool false))
 refine hK _ _ (.of hB5.out) ?_
 clear hK K d0 d1 d2 d3 df
 replace KT := hid (KT.out.put4 (.int .i64 p) (.int .i64 wd) (.int .i32 r) (.bool false))
 generalize (((W3.setCell ⟨T, 0, none⟩ (.int .i64 p)).setCell ⟨T, 1, none⟩ (.int .i64 wd)).setCell ⟨T, 2, none⟩ (.int .i32 r)).setCell ⟨T, 3, none⟩ (.bool false) = W5 at *
 apply p_done
 intro W6 hb6
 replace KT := hid (KT.out.low hb6)
 have hB6 := hid (bnext hb17 (bnext hB5.out hb6))
 clear hb6 hb17 hB hB5
 obtain ⟨d0, d1, d2, d3, df⟩ := KT.out.c4
 go_wp2_with (go_at_call 77; (with_reducible refine Calls.mono (hO.out _) ?_); rintro e w7 ⟨rfl, hb7⟩; replace KT := hid (KT.out.low hb7); replace hB6 := hid (bnextL hB6.out hb7); clear hb7 hO d0 d1 d2 d3 df; obtain ⟨d0, d1, d2, d3, df⟩ := KT.out.c4)
 refine region_plan [] (.quiet 0 (.quiet 1 (.quiet 2 (.quiet 3 (.quiet 4 (.quiet 5 (.quiet 6 (.quiet 7 (.quiet 8 (.quiet 9 .done)))))))))) (by kernel_rfl) (by kernel_rfl) ?_
 repeat (apply p_quiet; (case hi => rfl); intro K hK; go_simp; first | (refine ⟨hK _ ?_⟩; clear hK K) | (refine ⟨_, fun x => hLow.out x.w, hK _ ?_⟩; clear hK K))
 apply p_done
 intro W10 hb10
 go_wp2_with fail
 go_ret
 exact ⟨rfl, bnextL hB6.out hb10⟩
set_option maxHeartbeats 4000000 in
theorem lplain_k6f {w : World} {R k p : Nat} {s : ByteArray} {lv A : Value} {q : Int} (h : Ln w R s lv k 0 q A) (hk : AtK s k p) (hp : p < s.size) (hs : s.size ≤ 100000000) (hbr : isBr s p = false) (hk9 : kindI (rnN s p) = 6) (hl9 : ¬ lowI (rnN s p) = rnN s p) :
  Calls Tryz.prog 61 #[.pointer (some ⟨R, 0, none⟩)] w fun x w' => x = .returned (.bool false) ∧ Below w.heap.size w w' := by
 have hL := hid h
 have hKK := hid hk
 obtain ⟨m, g, cap, hn, rfl, hkn⟩ := h.shape1 hk hp
 have hrb := rn_bd hp
 have hO := hid (fun (w : World) => of95 p (wdN s p) (rnN s p) (isBr s p) hrb w)
 rw [hbr] at hO
 simp only [Bool.false_eq_true, if_false, hk9] at hO
 have hLow := hid (fun w => rlowerB (rnN s p) (by omega) (by omega) w)
 have t9 : (lowI (rnN s p) == (rnN s p : Int)) = false := beq_false_of hl9
 generalize lowI (rnN s p) = lo at *
 obtain ⟨c0, c1, c2, c3, c4, c5, cf⟩ := h.c6
 have q1 := dF (show ¬ ((m : Int) + 1 ≤ k) by omega)
 have q2 := dF (show ¬ (m + 1 ≤ k) by omega)
 have q5 : (k : Int) < (m : Int) + 1 := by omega
 have q6 : (k : Int) ≤ (m : Int) := by omega
 have q7 : k ≤ m := by omega
 have hN := hid hn
 clear hn h hk
 go_enter Tryz.func61, Tryz.ntmps61
 go_wp2_with fail
 refine region_plan [] (.quiet 0 (.quiet 1 (.quiet 2 (.quiet 3 (.quiet 4 (.quiet 5 (.quiet 6 (.quiet 7 (.quiet 8 (.quiet 9 (.quiet 10 (.quiet 11 (.quiet 12 (.quiet 13 (.quiet 14 (.quiet 15 (.quiet 16 .done))))))))))))))))) (by kernel_rfl) (by kernel_rfl) ?_
 repeat (apply p_quiet; (case hi => rfl); intro K hK; go_simp; first | (refine ⟨hK _ ?_⟩; clear hK K) | (refine ⟨_, fun x => hLow.out x.w, hK _ ?_⟩; clear hK K))
 apply p_done
 intro W17 hb17
 replace hL := hid (hL.out.low hb17)
 clear c0 c1 c2 c3 c4 c5 cf
 obtain ⟨y0, y1, y2, y3⟩ := hL.out.piece hKK.out hp hN.out
 obtain ⟨c0, c1, c2, c3, c4, c5, cf⟩ := hL.out.c6
 generalize wdN s p = wd at *
 rw [hbr] at y3
 generalize rnN s p = r at *
 go_wp2_with fail
 refine region_plan [] (.quiet 0 (.quiet 1 (.quiet 2 (.quiet 3 (.quiet 4 (.quiet 5 (.quiet 6 (.quiet 7 (.quiet 8 (.quiet 9 (.one 10 (.one 11 .done)))))))))))) (by kernel_rfl) (by kernel_rfl) ?_
 repeat (apply p_quiet; (case hi => rfl); intro K hK; go_simp; first | (refine ⟨hK _ ?_⟩; clear hK K) | (refine ⟨_, fun x => hLow.out x.w, hK _ ?_⟩; clear hK K))
 apply p_one
 case hi => rfl
 intro W1 hb1 K hK
 go_wp2_with fail
 refine hK _ _ (.of (hb1.alloc hb1.size _)) ?_
 clear hK K y0 y1 y2 y3 c0 c1 c2 c3 c4 c5 cf
 have KT := hid (Blk.new W1 113 #[.int .i64 0, .int .i64 0, .int .i32 0, .bool false])
 have hB := hid (hb1.alloc hb1.size (.cells #[.int .i64 0, .int .i64 0, .int .i32 0, .bool false] 113))
 have hsz := hid hb1.size
 clear hb1
 generalize W1.alloc (.cells #[.int .i64 0, .int .i64 0, .int .i32 0, .bool false] 113) = W2 at *
 generalize W1.heap.size = T at *
 apply p_one
 case hi => rfl
 intro W3 hb3 K hK
 replace KT := hid (KT.out.low hb3)
 replace hB := hid (bnext hB.out hb3)
 clear hb3
 obtain ⟨d0, d1, d2, d3, df⟩ := KT.out.c4
 go_wp2_with fail
 have hB5 := hid (below_put4 hB.out hsz.out (.int .i64 p) (.int .i64 wd) (.int .i32 r) (.bool false))
 refine hK _ _ (.of hB5.out) ?_
 clear hK K d0 d1 d2 d3 df
 replace KT := hid (KT.out.put4 (.int .i64 p) (.int .i64 wd) (.int .i32 r) (.bool false))
 generalize (((W3.setCell ⟨T, 0, none⟩ (.int .i64 p)).setCell ⟨T, 1, none⟩ (.int .i64 wd)).setCell ⟨T, 2, none⟩ (.int .i32 r)).setCell ⟨T, 3, none⟩ (.bool false) = W5 at *
 apply p_done
 intro W6 hb6
 replace KT := hid (KT.out.low hb6)
 have hB6 := hid (bnext hb17 (bnext hB5.out hb6))
 clear hb6 hb17 hB hB5
 obtain ⟨d0, d1, d2, d3, df⟩ := KT.out.c4
 go_wp2_with (go_at_call 77; (with_reducible refine Calls.mono (hO.out _) ?_); rintro e w7 ⟨rfl, hb7⟩; replace KT := hid (KT.out.low hb7); replace hB6 := hid (bnextL hB6.out hb7); clear hb7 hO d0 d1 d2 d3 df; obtain ⟨d0, d1, d2, d3, df⟩ := KT.out.c4)
 refine region_plan [] (.quiet 0 (.quiet 1 (.quiet 2 (.quiet 3 (.quiet 4 (.quiet 5 (.quiet 6 (.quiet 7 (.quiet 8 (.quiet 9 .done)))))))))) (by kernel_rfl) (by kernel_rfl) ?_
 repeat (apply p_quiet; (case hi => rfl); intro K hK; go_simp; first | (refine ⟨hK _ ?_⟩; clear hK K) | (refine ⟨_, fun x => hLow.out x.w, hK _ ?_⟩; clear hK K))
 apply p_done
 intro W10 hb10
 go_wp2_with fail
 go_ret
 exact ⟨rfl, bnextL hB6.out hb10⟩
set_option maxHeartbeats 4000000 in
theorem lplain_k7t {w : World} {R k p : Nat} {s : ByteArray} {lv A : Value} {q : Int} (h : Ln w R s lv k 0 q A) (hk : AtK s k p) (hp : p < s.size) (hs : s.size ≤ 100000000) (hbr : isBr s p = false) (hk9 : kindI (rnN s p) = 7) (hl9 : lowI (rnN s p) = rnN s p) :
  Calls Tryz.prog 61 #[.pointer (some ⟨R, 0, none⟩)] w fun x w' => x = .returned (.bool true) ∧ Below w.heap.size w w' := by
 have hL := hid h
 have hKK := hid hk
 obtain ⟨m, g, cap, hn, rfl, hkn⟩ := h.shape1 hk hp
 have hrb := rn_bd hp
 have hO := hid (fun (w : World) => of95 p (wdN s p) (rnN s p) (isBr s p) hrb w)
 rw [hbr] at hO
 simp only [Bool.false_eq_true, if_false, hk9] at hO
 have hLow := hid (fun w => rlowerB (rnN s p) (by omega) (by omega) w)
 rw [hl9] at hLow
 have t9 : ((rnN s p : Int) == (rnN s p : Int)) = true := by simp
 obtain ⟨c0, c1, c2, c3, c4, c5, cf⟩ := h.c6
 have q1 := dF (show ¬ ((m : Int) + 1 ≤ k) by omega)
 have q2 := dF (show ¬ (m + 1 ≤ k) by omega)
 have q5 : (k : Int) < (m : Int) + 1 := by omega
 have q6 : (k : Int) ≤ (m : Int) := by omega
 have q7 : k ≤ m := by omega
 have hN := hid hn
 clear hn h hk
 go_enter Tryz.func61, Tryz.ntmps61
 go_wp2_with fail
 refine region_plan [] (.quiet 0 (.quiet 1 (.quiet 2 (.quiet 3 (.quiet 4 (.quiet 5 (.quiet 6 (.quiet 7 (.quiet 8 (.quiet 9 (.quiet 10 (.quiet 11 (.quiet 12 (.quiet 13 (.quiet 14 (.quiet 15 (.quiet 16 .done))))))))))))))))) (by kernel_rfl) (by kernel_rfl) ?_
 repeat (apply p_quiet; (case hi => rfl); intro K hK; go_simp; first | (refine ⟨hK _ ?_⟩; clear hK K) | (refine ⟨_, fun x => hLow.out x.w, hK _ ?_⟩; clear hK K))
 apply p_done
 intro W17 hb17
 replace hL := hid (hL.out.low hb17)
 clear c0 c1 c2 c3 c4 c5 cf
 obtain ⟨y0, y1, y2, y3⟩ := hL.out.piece hKK.out hp hN.out
 obtain ⟨c0, c1, c2, c3, c4, c5, cf⟩ := hL.out.c6
 generalize wdN s p = wd at *
 rw [hbr] at y3
 generalize rnN s p = r at *
 go_wp2_with fail
 refine region_plan [] (.quiet 0 (.quiet 1 (.quiet 2 (.quiet 3 (.quiet 4 (.quiet 5 (.quiet 6 (.quiet 7 (.quiet 8 (.quiet 9 (.one 10 (.one 11 .done)))))))))))) (by kernel_rfl) (by kernel_rfl) ?_
 repeat (apply p_quiet; (case hi => rfl); intro K hK; go_simp; first | (refine ⟨hK _ ?_⟩; clear hK K) | (refine ⟨_, fun x => hLow.out x.w, hK _ ?_⟩; clear hK K))
 apply p_one
 case hi => rfl
 intro W1 hb1 K hK
 go_wp2_with fail
 refine hK _ _ (.of (hb1.alloc hb1.size _)) ?_
 clear hK K y0 y1 y2 y3 c0 c1 c2 c3 c4 c5 cf
 have KT := hid (Blk.new W1 113 #[.int .i64 0, .int .i64 0, .int .i32 0, .bool false])
 have hB := hid (hb1.alloc hb1.size (.cells #[.int .i64 0, .int .i64 0, .int .i32 0, .bool false] 113))
 have hsz := hid hb1.size
 clear hb1
 generalize W1.alloc (.cells #[.int .i64 0, .int .i64 0, .int .i32 0, .bool false] 113) = W2 at *
 generalize W1.heap.size = T at *
 apply p_one
 case hi => rfl
 intro W3 hb3 K hK
 replace KT := hid (KT.out.low hb3)
 replace hB := hid (bnext hB.out hb3)
 clear hb3
 obtain ⟨d0, d1, d2, d3, df⟩ := KT.out.c4
 go_wp2_with fail
 have hB5 := hid (below_put4 hB.out hsz.out (.int .i64 p) (.int .i64 wd) (.int .i32 r) (.bool false))
 refine hK _ _ (.of hB5.out) ?_
 clear hK K d0 d1 d2 d3 df
 replace KT := hid (KT.out.put4 (.int .i64 p) (.int .i64 wd) (.int .i32 r) (.bool false))
 generalize (((W3.setCell ⟨T, 0, none⟩ (.int .i64 p)).setCell ⟨T, 1, none⟩ (.int .i64 wd)).setCell ⟨T, 2, none⟩ (.int .i32 r)).setCell ⟨T, 3, none⟩ (.bool false) = W5 at *
 apply p_done
 intro W6 hb6
 replace KT := hid (KT.out.low hb6)
 have hB6 := hid (bnext hb17 (bnext hB5.out hb6))
 clear hb6 hb17 hB hB5
 obtain ⟨d0, d1, d2, d3, df⟩ := KT.out.c4
 go_wp2_with (go_at_call 77; (with_reducible refine Calls.mono (hO.out _) ?_); rintro e w7 ⟨rfl, hb7⟩; replace KT := hid (KT.out.low hb7); replace hB6 := hid (bnextL hB6.out hb7); clear hb7 hO d0 d1 d2 d3 df; obtain ⟨d0, d1, d2, d3, df⟩ := KT.out.c4)
 refine region_plan [] (.quiet 0 (.quiet 1 (.quiet 2 (.quiet 3 (.quiet 4 (.quiet 5 (.quiet 6 (.quiet 7 (.quiet 8 (.quiet 9 .done)))))))))) (by kernel_rfl) (by kernel_rfl) ?_
 repeat (apply p_quiet; (case hi => rfl); intro K hK; go_simp; first | (refine ⟨hK _ ?_⟩; clear hK K) | (refine ⟨_, fun x => hLow.out x.w, hK _ ?_⟩; clear hK K))
 apply p_done
 intro W10 hb10
 go_wp2_with fail
 go_ret
 exact ⟨rfl, bnextL hB6.out hb10⟩
set_option maxHeartbeats 4000000 in
theorem lplain_k7f {w : World} {R k p : Nat} {s : ByteArray} {lv A : Value} {q : Int} (h : Ln w R s lv k 0 q A) (hk : AtK s k p) (hp : p < s.size) (hs : s.size ≤ 100000000) (hbr : isBr s p = false) (hk9 : kindI (rnN s p) = 7) (hl9 : ¬ lowI (rnN s p) = rnN s p) :
  Calls Tryz.prog 61 #[.pointer (some ⟨R, 0, none⟩)] w fun x w' => x = .returned (.bool false) ∧ Below w.heap.size w w' := by
 have hL := hid h
 have hKK := hid hk
 obtain ⟨m, g, cap, hn, rfl, hkn⟩ := h.shape1 hk hp
 have hrb := rn_bd hp
 have hO := hid (fun (w : World) => of95 p (wdN s p) (rnN s p) (isBr s p) hrb w)
 rw [hbr] at hO
 simp only [Bool.false_eq_true, if_false, hk9] at hO
 have hLow := hid (fun w => rlowerB (rnN s p) (by omega) (by omega) w)
 have t9 : (lowI (rnN s p) == (rnN s p : Int)) = false := beq_false_of hl9
 generalize lowI (rnN s p) = lo at *
 obtain ⟨c0, c1, c2, c3, c4, c5, cf⟩ := h.c6
 have q1 := dF (show ¬ ((m : Int) + 1 ≤ k) by omega)
 have q2 := dF (show ¬ (m + 1 ≤ k) by omega)
 have q5 : (k : Int) < (m : Int) + 1 := by omega
 have q6 : (k : Int) ≤ (m : Int) := by omega
 have q7 : k ≤ m := by omega
 have hN := hid hn
 clear hn h hk
 go_enter Tryz.func61, Tryz.ntmps61
 go_wp2_with fail
 refine region_plan [] (.quiet 0 (.quiet 1 (.quiet 2 (.quiet 3 (.quiet 4 (.quiet 5 (.quiet 6 (.quiet 7 (.quiet 8 (.quiet 9 (.quiet 10 (.quiet 11 (.quiet 12 (.quiet 13 (.quiet 14 (.quiet 15 (.quiet 16 .done))))))))))))))))) (by kernel_rfl) (by kernel_rfl) ?_
 repeat (apply p_quiet; (case hi => rfl); intro K hK; go_simp; first | (refine ⟨hK _ ?_⟩; clear hK K) | (refine ⟨_, fun x => hLow.out x.w, hK _ ?_⟩; clear hK K))
 apply p_done
 intro W17 hb17
 replace hL := hid (hL.out.low hb17)
 clear c0 c1 c2 c3 c4 c5 cf
 obtain ⟨y0, y1, y2, y3⟩ := hL.out.piece hKK.out hp hN.out
 obtain ⟨c0, c1, c2, c3, c4, c5, cf⟩ := hL.out.c6
 generalize wdN s p = wd at *
 rw [hbr] at y3
 generalize rnN s p = r at *
 go_wp2_with fail
 refine region_plan [] (.quiet 0 (.quiet 1 (.quiet 2 (.quiet 3 (.quiet 4 (.quiet 5 (.quiet 6 (.quiet 7 (.quiet 8 (.quiet 9 (.one 10 (.one 11 .done)))))))))))) (by kernel_rfl) (by kernel_rfl) ?_
 repeat (apply p_quiet; (case hi => rfl); intro K hK; go_simp; first | (refine ⟨hK _ ?_⟩; clear hK K) | (refine ⟨_, fun x => hLow.out x.w, hK _ ?_⟩; clear hK K))
 apply p_one
 case hi => rfl
 intro W1 hb1 K hK
 go_wp2_with fail
 refine hK _ _ (.of (hb1.alloc hb1.size _)) ?_
 clear hK K y0 y1 y2 y3 c0 c1 c2 c3 c4 c5 cf
 have KT := hid (Blk.new W1 113 #[.int .i64 0, .int .i64 0, .int .i32 0, .bool false])
 have hB := hid (hb1.alloc hb1.size (.cells #[.int .i64 0, .int .i64 0, .int .i32 0, .bool false] 113))
 have hsz := hid hb1.size
 clear hb1
 generalize W1.alloc (.cells #[.int .i64 0, .int .i64 0, .int .i32 0, .bool false] 113) = W2 at *
 generalize W1.heap.size = T at *
 apply p_one
 case hi => rfl
 intro W3 hb3 K hK
 replace KT := hid (KT.out.low hb3)
 replace hB := hid (bnext hB.out hb3)
 clear hb3
 obtain ⟨d0, d1, d2, d3, df⟩ := KT.out.c4
 go_wp2_with fail
 have hB5 := hid (below_put4 hB.out hsz.out (.int .i64 p) (.int .i64 wd) (.int .i32 r) (.bool false))
 refine hK _ _ (.of hB5.out) ?_
 clear hK K d0 d1 d2 d3 df
 replace KT := hid (KT.out.put4 (.int .i64 p) (.int .i64 wd) (.int .i32 r) (.bool false))
 generalize (((W3.setCell ⟨T, 0, none⟩ (.int .i64 p)).setCell ⟨T, 1, none⟩ (.int .i64 wd)).setCell ⟨T, 2, none⟩ (.int .i32 r)).setCell ⟨T, 3, none⟩ (.bool false) = W5 at *
 apply p_done
 intro W6 hb6
 replace KT := hid (KT.out.low hb6)
 have hB6 := hid (bnext hb17 (bnext hB5.out hb6))
 clear hb6 hb17 hB hB5
 obtain ⟨d0, d1, d2, d3, df⟩ := KT.out.c4
 go_wp2_with (go_at_call 77; (with_reducible refine Calls.mono (hO.out _) ?_); rintro e w7 ⟨rfl, hb7⟩; replace KT := hid (KT.out.low hb7); replace hB6 := hid (bnextL hB6.out hb7); clear hb7 hO d0 d1 d2 d3 df; obtain ⟨d0, d1, d2, d3, df⟩ := KT.out.c4)
 refine region_plan [] (.quiet 0 (.quiet 1 (.quiet 2 (.quiet 3 (.quiet 4 (.quiet 5 (.quiet 6 (.quiet 7 (.quiet 8 (.quiet 9 .done)))))))))) (by kernel_rfl) (by kernel_rfl) ?_
 repeat (apply p_quiet; (case hi => rfl); intro K hK; go_simp; first | (refine ⟨hK _ ?_⟩; clear hK K) | (refine ⟨_, fun x => hLow.out x.w, hK _ ?_⟩; clear hK K))
 apply p_done
 intro W10 hb10
 go_wp2_with fail
 go_ret
 exact ⟨rfl, bnextL hB6.out hb10⟩
set_option maxHeartbeats 4000000 in
theorem lplain_no {w : World} {R k p : Nat} {s : ByteArray} {lv A : Value} {q : Int} (h : Ln w R s lv k 0 q A) (hk : AtK s k p) (hp : p < s.size) (hs : s.size ≤ 100000000) (hbr : isBr s p = false) (hk1 : ¬ kindI (rnN s p) = 1) (hk2 : ¬ kindI (rnN s p) = 2) (hk3 : ¬ kindI (rnN s p) = 3) (hk6 : ¬ kindI (rnN s p) = 6) (hk7 : ¬ kindI (rnN s p) = 7) :
  Calls Tryz.prog 61 #[.pointer (some ⟨R, 0, none⟩)] w fun x w' => x = .returned (.bool false) ∧ Below w.heap.size w w' := by
 have hL := hid h
 have hKK := hid hk
 obtain ⟨m, g, cap, hn, rfl, hkn⟩ := h.shape1 hk hp
 have hrb := rn_bd hp
 have hO := hid (fun (w : World) => of95 p (wdN s p) (rnN s p) (isBr s p) hrb w)
 rw [hbr] at hO
 simp only [Bool.false_eq_true, if_false] at hO
 have t1 : (kindI (rnN s p) == 1) = false := beq_false_of hk1
 have t2 : (kindI (rnN s p) == 2) = false := beq_false_of hk2
 have t3 : (kindI (rnN s p) == 3) = false := beq_false_of hk3
 have t6 : (kindI (rnN s p) == 6) = false := beq_false_of hk6
 have t7 : (kindI (rnN s p) == 7) = false := beq_false_of hk7
 have t11 : (kindI (rnN s p) == 11) = false := beq_false_of (kind_11 _)
 generalize kindI (rnN s p) = kd at *
 obtain ⟨c0, c1, c2, c3, c4, c5, cf⟩ := h.c6
 have q1 := dF (show ¬ ((m : Int) + 1 ≤ k) by omega)
 have q2 := dF (show ¬ (m + 1 ≤ k) by omega)
 have q5 : (k : Int) < (m : Int) + 1 := by omega
 have q6 : (k : Int) ≤ (m : Int) := by omega
 have q7 : k ≤ m := by omega
 have hN := hid hn
 clear hn h hk
 go_enter Tryz.func61, Tryz.ntmps61
 go_wp2_with fail
 refine region_plan [] (.quiet 0 (.quiet 1 (.quiet 2 (.quiet 3 (.quiet 4 (.quiet 5 (.quiet 6 (.quiet 7 (.quiet 8 (.quiet 9 (.quiet 10 (.quiet 11 (.quiet 12 (.quiet 13 (.quiet 14 (.quiet 15 (.quiet 16 .done))))))))))))))))) (by kernel_rfl) (by kernel_rfl) ?_
 repeat (apply p_quiet; (case hi => rfl); intro K hK; go_simp; first | (refine ⟨hK _ ?_⟩; clear hK K) | (refine ⟨_, fun x => hLow.out x.w, hK _ ?_⟩; clear hK K))
 apply p_done
 intro W17 hb17
 replace hL := hid (hL.out.low hb17)
 clear c0 c1 c2 c3 c4 c5 cf
 obtain ⟨y0, y1, y2, y3⟩ := hL.out.piece hKK.out hp hN.out
 obtain ⟨c0, c1, c2, c3, c4, c5, cf⟩ := hL.out.c6
 generalize wdN s p = wd at *
 rw [hbr] at y3
 generalize rnN s p = r at *
 go_wp2_with fail
 refine region_plan [] (.quiet 0 (.quiet 1 (.quiet 2 (.quiet 3 (.quiet 4 (.quiet 5 (.quiet 6 (.quiet 7 (.quiet 8 (.quiet 9 (.one 10 (.one 11 .done)))))))))))) (by kernel_rfl) (by kernel_rfl) ?_
 repeat (apply p_quiet; (case hi => rfl); intro K hK; go_simp; first | (refine ⟨hK _ ?_⟩; clear hK K) | (refine ⟨_, fun x => hLow.out x.w, hK _ ?_⟩; clear hK K))
 apply p_one
 case hi => rfl
 intro W1 hb1 K hK
 go_wp2_with fail
 refine hK _ _ (.of (hb1.alloc hb1.size _)) ?_
 clear hK K y0 y1 y2 y3 c0 c1 c2 c3 c4 c5 cf
 have KT := hid (Blk.new W1 113 #[.int .i64 0, .int .i64 0, .int .i32 0, .bool false])
 have hB := hid (hb1.alloc hb1.size (.cells #[.int .i64 0, .int .i64 0, .int .i32 0, .bool false] 113))
 have hsz := hid hb1.size
 clear hb1
 generalize W1.alloc (.cells #[.int .i64 0, .int .i64 0, .int .i32 0, .bool false] 113) = W2 at *
 generalize W1.heap.size = T at *
 apply p_one
 case hi => rfl
 intro W3 hb3 K hK
 replace KT := hid (KT.out.low hb3)
 replace hB := hid (bnext hB.out hb3)
 clear hb3
 obtain ⟨d0, d1, d2, d3, df⟩ := KT.out.c4
 go_wp2_with fail
 have hB5 := hid (below_put4 hB.out hsz.out (.int .i64 p) (.int .i64 wd) (.int .i32 r) (.bool false))
 refine hK _ _ (.of hB5.out) ?_
 clear hK K d0 d1 d2 d3 df
 replace KT := hid (KT.out.put4 (.int .i64 p) (.int .i64 wd) (.int .i32 r) (.bool false))
 generalize (((W3.setCell ⟨T, 0, none⟩ (.int .i64 p)).setCell ⟨T, 1, none⟩ (.int .i64 wd)).setCell ⟨T, 2, none⟩ (.int .i32 r)).setCell ⟨T, 3, none⟩ (.bool false) = W5 at *
 apply p_done
 intro W6 hb6
 replace KT := hid (KT.out.low hb6)
 have hB6 := hid (bnext hb17 (bnext hB5.out hb6))
 clear hb6 hb17 hB hB5
 obtain ⟨d0, d1, d2, d3, df⟩ := KT.out.c4
 go_wp2_with (go_at_call 77; (with_reducible refine Calls.mono (hO.out _) ?_); rintro e w7 ⟨rfl, hb7⟩; replace KT := hid (KT.out.low hb7); replace hB6 := hid (bnextL hB6.out hb7); clear hb7 hO d0 d1 d2 d3 df; obtain ⟨d0, d1, d2, d3, df⟩ := KT.out.c4)
 refine region_plan [] (.quiet 0 (.quiet 1 (.quiet 2 (.quiet 3 (.quiet 4 (.quiet 5 (.quiet 6 (.quiet 7 (.quiet 8 (.quiet 9 .done)))))))))) (by kernel_rfl) (by kernel_rfl) ?_
 repeat (apply p_quiet; (case hi => rfl); intro K hK; go_simp; first | (refine ⟨hK _ ?_⟩; clear hK K) | (refine ⟨_, fun x => hLow.out x.w, hK _ ?_⟩; clear hK K))
 apply p_done
 intro W10 hb10
 go_wp2_with fail
 go_ret
 exact ⟨rfl, bnextL hB6.out hb10⟩
end Go.Proofs.YtieifhfgedoiaaaGreatDoor
/- A line of rules in the document's hand: whether a plain piece, whether a name stands next. Conditions: those of each theorem. -/
namespace Go.Proofs.YtieifhfgedoiaaaGreatDoor
open Go.RowKit Go.Lib
set_option linter.unusedVariables false
set_option linter.unusedSimpArgs false
attribute [local go_sem] ExtS.cell ExtS.froz upE_value upE_skip upE_enter
theorem lplain_any {w : World} {R k p : Nat} {s : ByteArray} {lv A : Value} {q : Int} (h : Ln w R s lv k 0 q A) (hk : AtK s k p) (hs : s.size ≤ 100000000) :
  Calls Tryz.prog 61 #[.pointer (some ⟨R, 0, none⟩)] w fun x w' => x = .returned (.bool (plB s p)) ∧ Below w.heap.size w w' := by
 by_cases hp : p < s.size
 ·cases hbr : isBr s p with
  | true =>
   rw [show plB s p = true from decide_eq_true ⟨hp, .inl hbr⟩]
   exact lplain_br h hk hp hs hbr
  | false =>
   have yes : (kindI (rnN s p) = 1 ∨ kindI (rnN s p) = 2 ∨ kindI (rnN s p) = 3 ∨ kindI (rnN s p) = 6 ∨ kindI (rnN s p) = 7) → lowI (rnN s p) = rnN s p → plB s p = true := fun a b => decide_eq_true ⟨hp, .inr (decide_eq_true ⟨a, b⟩)⟩
   have no : ¬ ((kindI (rnN s p) = 1 ∨ kindI (rnN s p) = 2 ∨ kindI (rnN s p) = 3 ∨ kindI (rnN s p) = 6 ∨ kindI (rnN s p) = 7) ∧ lowI (rnN s p) = rnN s p) → plB s p = false := fun a => decide_eq_false (fun hh => by
    rcases hh.2 with hh | hh
    ·rw [hbr] at hh; cases hh
    ·exact a (of_decide_eq_true hh))
   by_cases hl : lowI (rnN s p) = rnN s p
   ·by_cases h1 : kindI (rnN s p) = 1
    ·rw [yes (.inl h1) hl]; exact lplain_k1t h hk hp hs hbr h1 hl
    ·by_cases h2 : kindI (rnN s p) = 2
     ·rw [yes (by simp [h2]) hl]; exact lplain_k2t h hk hp hs hbr h2 hl
     ·by_cases h3 : kindI (rnN s p) = 3
      ·rw [yes (by simp [h3]) hl]; exact lplain_k3t h hk hp hs hbr h3 hl
      ·by_cases h6 : kindI (rnN s p) = 6
       ·rw [yes (by simp [h6]) hl]; exact lplain_k6t h hk hp hs hbr h6 hl
       ·by_cases h7 : kindI (rnN s p) = 7
        ·rw [yes (by simp [h7]) hl]; exact lplain_k7t h hk hp hs hbr h7 hl
        ·rw [no (by simp [h1, h2, h3, h6, h7])]; exact lplain_no h hk hp hs hbr h1 h2 h3 h6 h7
   ·rw [no (fun hh => hl hh.2)]
    by_cases h1 : kindI (rnN s p) = 1
    ·exact lplain_k1f h hk hp hs hbr h1 hl
    ·by_cases h2 : kindI (rnN s p) = 2
     ·exact lplain_k2f h hk hp hs hbr h2 hl
     ·by_cases h3 : kindI (rnN s p) = 3
      ·exact lplain_k3f h hk hp hs hbr h3 hl
      ·by_cases h6 : kindI (rnN s p) = 6
       ·exact lplain_k6f h hk hp hs hbr h6 hl
       ·by_cases h7 : kindI (rnN s p) = 7
        ·exact lplain_k7f h hk hp hs hbr h7 hl
        ·exact lplain_no h hk hp hs hbr h1 h2 h3 h6 h7
 ·rw [show plB s p = false from decide_eq_false (fun hh => hp hh.1)]
  exact lplain_end h hk hp
set_option maxHeartbeats 2000000 in
theorem lname_bad {w : World} {R k : Nat} {s : ByteArray} {lv A : Value} {e q : Int} (h : Ln w R s lv k e q A) (he : e ≠ 0) :
  Calls Tryz.prog 63 #[.pointer (some ⟨R, 0, none⟩)] w fun x w' => x = .returned (.bool false) ∧ Below w.heap.size w w' := by
 obtain ⟨pv, cap, rfl⟩ := h.shape
 obtain ⟨c0, c1, c2, c3, c4, c5, cf⟩ := h.c6
 have q1 : (e != 0) = true := bne_true_of he
 clear h he
 go_enter Tryz.func63, Tryz.ntmps63
 go_wp2_with fail
 refine region_plan [] (.quiet 0 (.quiet 1 (.quiet 2 (.quiet 3 (.quiet 4 (.quiet 5 (.quiet 6 (.quiet 7 (.quiet 8 (.quiet 9 (.quiet 10 (.quiet 11 (.quiet 12 (.quiet 13 (.quiet 14 (.quiet 15 (.quiet 16 .done))))))))))))))))) (by kernel_rfl) (by kernel_rfl) ?_
 repeat (apply p_quiet; (case hi => rfl); intro K hK; go_simp; first | (refine ⟨hK _ ?_⟩; clear hK K) | (refine ⟨_, fun x => hLow.out x, hK _ ?_⟩; clear hK K))
 apply p_done
 intro W17 hb17
 go_wp2_with fail
 go_ret
 exact ⟨rfl, hb17⟩
set_option maxHeartbeats 2000000 in
theorem lname_any {w : World} {R k p : Nat} {s : ByteArray} {lv A : Value} {q : Int} (h : Ln w R s lv k 0 q A) (hk : AtK s k p) :
  Calls Tryz.prog 63 #[.pointer (some ⟨R, 0, none⟩)] w fun x w' => x = .returned (.bool (nameB s p)) ∧ Below w.heap.size w w' := by
 have hL := hid h
 by_cases hp : p < s.size
 ·obtain ⟨m, g, cap, hn, rfl, hkn⟩ := h.shape1 hk hp
  obtain ⟨c0, c1, c2, c3, c4, c5, cf⟩ := h.c6
  have q1 := dF (show ¬ ((m : Int) + 1 ≤ k) by omega)
  have q2 := dF (show ¬ (m + 1 ≤ k) by omega)
  have q3 := dT (show (p : Int) < s.size by omega)
  have hPl := hid (fun w' (h : Ln w' R s (.slice (some ⟨g, 0, none⟩) (m + 1) cap) k 0 q A) => place_any h hk)
  have hg := get_eq s p hp
  obtain ⟨b1, hb1⟩ : ∃ b, decide ((65 : Int) ≤ (s[p]'hp).toNat) = b := ⟨_, rfl⟩
  obtain ⟨b2, hb2⟩ : ∃ b, decide (((s[p]'hp).toNat : Int) ≤ 90) = b := ⟨_, rfl⟩
  have hv : Hid (nameB s p = (b1 && b2)) := by
   rw [← hb1, ← hb2]
   unfold nameB
   rw [hg, ← Bool.decide_and]
   exact hid (by rw [decide_eq_decide]; constructor <;> (rintro h; omega))
  rw [hv.out]
  clear hn h hk hg hv
  go_enter Tryz.func63, Tryz.ntmps63
  go_wp2_with fail
  refine region_plan [] (.quiet 0 (.quiet 1 (.quiet 2 (.quiet 3 (.quiet 4 (.quiet 5 (.quiet 6 (.quiet 7 (.quiet 8 (.quiet 9 (.quiet 10 (.quiet 11 (.quiet 12 (.quiet 13 (.quiet 14 (.quiet 15 (.quiet 16 .done))))))))))))))))) (by kernel_rfl) (by kernel_rfl) ?_
  repeat (apply p_quiet; (case hi => rfl); intro K hK; go_simp; first | (refine ⟨hK _ ?_⟩; clear hK K) | (refine ⟨_, fun x => hLow.out x, hK _ ?_⟩; clear hK K))
  apply p_done
  intro W17 hb17
  replace hL := hid (hL.out.low hb17)
  clear c0 c1 c2 c3 c4 c5 cf
  obtain ⟨c0, c1, c2, c3, c4, c5, cf⟩ := hL.out.c6
  have hLow := hid (fun x : ExtS [] W17 => hPl.out x.w (hL.out.low (x.h.below (by simp) (Nat.le_refl _))))
  go_wp2_with fail
  refine region_plan [] (.quiet 0 (.quiet 1 (.quiet 2 (.quiet 3 (.quiet 4 (.quiet 5 (.quiet 6 (.quiet 7 .done)))))))) (by kernel_rfl) (by kernel_rfl) ?_
  repeat (apply p_quiet; (case hi => rfl); intro K hK; go_simp; first | (refine ⟨hK _ ?_⟩; clear hK K) | (refine ⟨_, fun x => hLow.out x, hK _ ?_⟩; clear hK K))
  apply p_done
  intro W8 hb8
  clear hLow c0 c1 c2 c3 c4 c5 cf
  cases b1
  ·go_wp2_with fail
   go_ret
   exact ⟨rfl, bnext hb17 hb8⟩
  ·cases b2
   ·go_wp2_with fail
    go_ret
    exact ⟨rfl, bnext hb17 hb8⟩
   ·go_wp2_with fail
    go_ret
    exact ⟨rfl, bnext hb17 hb8⟩
 ·obtain ⟨e1, e2⟩ := hk.ge hp
  obtain ⟨pv, cap, rfl⟩ := h.shape
  obtain ⟨n, hn⟩ : ∃ n, (posL s 0).length = n := ⟨_, rfl⟩
  rw [hn] at h e1
  obtain ⟨c0, c1, c2, c3, c4, c5, cf⟩ := h.c6
  subst e1
  have q1 : decide ((k : Int) ≤ k) = true := by simp
  have q2 : decide (k ≤ k) = true := by simp
  rw [show nameB s p = false from decide_eq_false (fun hh => hp hh.1)]
  clear hn h hk hp e2 hL
  go_enter Tryz.func63, Tryz.ntmps63
  go_wp2_with fail
  refine region_plan [] (.quiet 0 (.quiet 1 (.quiet 2 (.quiet 3 (.quiet 4 (.quiet 5 (.quiet 6 (.quiet 7 (.quiet 8 (.quiet 9 (.quiet 10 (.quiet 11 (.quiet 12 (.quiet 13 (.quiet 14 (.quiet 15 (.quiet 16 .done))))))))))))))))) (by kernel_rfl) (by kernel_rfl) ?_
  repeat (apply p_quiet; (case hi => rfl); intro K hK; go_simp; first | (refine ⟨hK _ ?_⟩; clear hK K) | (refine ⟨_, fun x => hLow.out x, hK _ ?_⟩; clear hK K))
  apply p_done
  intro W17 hb17
  go_wp2_with fail
  go_ret
  exact ⟨rfl, hb17⟩
end Go.Proofs.YtieifhfgedoiaaaGreatDoor
/- A line of rules in the document's hand: the next piece. Conditions: those of each theorem. -/
namespace Go.Proofs.YtieifhfgedoiaaaGreatDoor
open Go.RowKit Go.Lib
set_option linter.unusedVariables false
set_option linter.unusedSimpArgs false
attribute [local go_sem] ExtS.cell ExtS.froz upE_value upE_skip upE_enter
set_option maxHeartbeats 4000000 in
theorem lone_no {w : World} {R k p : Nat} {s : ByteArray} {lv A : Value} {q : Int} (h : Ln w R s lv k 0 q A) (hk : AtK s k p) (hp : p < s.size) (hs : s.size ≤ 100000000) (hbr : isBr s p = false) :
  Calls Tryz.prog 62 #[.pointer (some ⟨R, 0, none⟩)] w fun x w' => x = .returned (.agg #[.int .i32 (rnN s p), .bool false, .int .u8 0]) ∧ Ln w' R s lv (k + 1) 0 q A ∧ ButS [R] w w' := by
 have hL := hid h
 have hKK := hid hk
 have hRl := hid h.b.lt
 obtain ⟨m, g, cap, hn, rfl, hkn⟩ := h.shape1 hk hp
 have hkl := posL_len s _ 0 rfl
 have hrb := rn_bd hp
 have q5 : (k : Int) < (m : Int) + 1 := by omega
 have q6 : (k : Int) ≤ (m : Int) := by omega
 have q7 : k ≤ m := by omega
 have q3 := dT (show (p : Int) < s.size by omega)
 have hw1 : IntKind.i64.wrap ((k : Int) + 1) = (k : Int) + 1 := Wi64 (by omega)
 have hN := hid hn
 clear hn h hk hkl
 go_enter Tryz.func62, Tryz.ntmps62
 go_wp2_with fail
 have K2 := hid (Blk.new w 138 #[.int .i32 0, .bool false, .int .u8 0])
 replace hL := hid (hL.out.low ((Below.refl w.heap.size w).alloc (Nat.le_refl _) (.cells #[.int .i32 0, .bool false, .int .u8 0] 138)))
 have hB0 := hid ((Below.refl w.heap.size w).alloc (Nat.le_refl _) (.cells #[.int .i32 0, .bool false, .int .u8 0] 138))
 obtain ⟨B2, hB2⟩ : ∃ b, w.heap.size = b := ⟨_, rfl⟩
 rw [hB2] at K2 hRl
 try simp only [hB2]
 have HB2 := hid hB2
 clear hB2
 generalize w.alloc (.cells #[.int .i32 0, .bool false, .int .u8 0] 138) = W0 at *
 obtain ⟨y0, y1, y2, y3⟩ := hL.out.piece hKK.out hp hN.out
 rw [hbr] at y3
 obtain ⟨c0, c1, c2, c3, c4, c5, cf⟩ := hL.out.c6
 generalize hwd : wdN s p = wd at *
 generalize hrr : rnN s p = r at *
 refine region_plan [] (.quiet 0 (.quiet 1 (.quiet 2 (.quiet 3 (.quiet 4 (.quiet 5 (.quiet 6 (.quiet 7 (.quiet 8 (.quiet 9 (.one 10 (.one 11 .done)))))))))))) (by kernel_rfl) (by kernel_rfl) ?_
 repeat (apply p_quiet; (case hi => rfl); intro K hK; go_simp; (refine ⟨hK _ ?_⟩; clear hK K))
 apply p_one
 case hi => rfl
 intro W1 hb1 K hK
 go_wp2_with fail
 refine hK _ _ (.of (hb1.alloc hb1.size _)) ?_
 clear hK K y0 y1 y2 y3 c0 c1 c2 c3 c4 c5 cf
 have KT := hid (Blk.new W1 113 #[.int .i64 0, .int .i64 0, .int .i32 0, .bool false])
 have hB := hid (hb1.alloc hb1.size (.cells #[.int .i64 0, .int .i64 0, .int .i32 0, .bool false] 113))
 have hsz := hid hb1.size
 clear hb1
 generalize W1.alloc (.cells #[.int .i64 0, .int .i64 0, .int .i32 0, .bool false] 113) = W2 at *
 generalize W1.heap.size = T at *
 apply p_one
 case hi => rfl
 intro W3 hb3 K hK
 replace KT := hid (KT.out.low hb3)
 replace hB := hid (bnext hB.out hb3)
 clear hb3
 obtain ⟨d0, d1, d2, d3, df⟩ := KT.out.c4
 go_wp2_with fail
 have hB5 := hid (below_put4 hB.out hsz.out (.int .i64 p) (.int .i64 wd) (.int .i32 r) (.bool false))
 refine hK _ _ (.of hB5.out) ?_
 clear hK K d0 d1 d2 d3 df
 replace KT := hid (KT.out.put4 (.int .i64 p) (.int .i64 wd) (.int .i32 r) (.bool false))
 generalize (((W3.setCell ⟨T, 0, none⟩ (.int .i64 p)).setCell ⟨T, 1, none⟩ (.int .i64 wd)).setCell ⟨T, 2, none⟩ (.int .i32 r)).setCell ⟨T, 3, none⟩ (.bool false) = W5 at *
 apply p_done
 intro W6 hb6
 replace KT := hid (KT.out.low hb6)
 have hB6 := hid (bnext hB5.out hb6)
 replace hL := hid (hL.out.low hB6.out)
 replace K2 := hid (K2.out.low hB6.out)
 replace hB0 := hid (bnextL hB0.out hB6.out)
 have hTR : R ≠ T := blk_ne hL.out.b KT.out (by decide)
 have hTB : B2 ≠ T := blk_ne K2.out KT.out (by decide)
 have hTB' : T ≠ B2 := Ne.symm hTB
 have hRB : R ≠ B2 := blk_ne hL.out.b K2.out (by decide)
 clear hb6 hB hB5 hB6 hsz
 obtain ⟨d0, d1, d2, d3, df⟩ := KT.out.c4
 obtain ⟨c0, c1, c2, c3, c4, c5, cf⟩ := hL.out.c6
 obtain ⟨f0, f1, f2, ff⟩ := K2.out.c3
 go_wp2_with fail
 have hL7 := hid (hL.out.go (k + 1))
 have hB7 := hid (((ButS.of (S := [R]) hB0.out).set (List.mem_singleton.2 rfl) 2 (.int .i64 ((k + 1 : Nat) : Int))))
 refine bodyPost_ret (v := .agg #[.int .i32 r, .bool false, .int .u8 0]) (by simp [results, Tryz.results62, go_sem, f0, f1, f2, ff, hTB, hRB, Ne.symm hRB]) rfl ⟨by rw [hrr], ?_, ?_⟩
 ·refine hL7.out.but (S := [B2]) (((((ButS.refl [B2] _).set (List.mem_singleton.2 rfl) 0 _).set (List.mem_singleton.2 rfl) 1 _).set (List.mem_singleton.2 rfl) 2 _)) (by rw [List.mem_singleton]; exact hRB) (fun B hB => by rw [List.mem_singleton] at hB; subst hB; exact ⟨138, _, by decide, K2.out.other (Ne.symm hRB) _⟩)
 ·exact ((hB7.out.setNew (Nat.le_of_eq HB2.out) 0 _).setNew (Nat.le_of_eq HB2.out) 1 _).setNew (Nat.le_of_eq HB2.out) 2 _
set_option maxHeartbeats 4000000 in
theorem lone_br {w : World} {R k p : Nat} {s : ByteArray} {lv A : Value} {q : Int} (h : Ln w R s lv k 0 q A) (hk : AtK s k p) (hp : p < s.size) (hs : s.size ≤ 100000000) (hbr : isBr s p = true) :
  Calls Tryz.prog 62 #[.pointer (some ⟨R, 0, none⟩)] w fun x w' => x = .returned (.agg #[.int .i32 0, .bool true, .int .u8 (s[p]'hp).toNat]) ∧ Ln w' R s lv (k + 1) 0 q A ∧ ButS [R] w w' := by
 have hL := hid h
 have hKK := hid hk
 have hRl := hid h.b.lt
 obtain ⟨m, g, cap, hn, rfl, hkn⟩ := h.shape1 hk hp
 have hkl := posL_len s _ 0 rfl
 have hrb := rn_bd hp
 have q5 : (k : Int) < (m : Int) + 1 := by omega
 have q6 : (k : Int) ≤ (m : Int) := by omega
 have q7 : k ≤ m := by omega
 have q3 := dT (show (p : Int) < s.size by omega)
 have hw1 : IntKind.i64.wrap ((k : Int) + 1) = (k : Int) + 1 := Wi64 (by omega)
 have hN := hid hn
 clear hn h hk hkl
 go_enter Tryz.func62, Tryz.ntmps62
 go_wp2_with fail
 have K2 := hid (Blk.new w 138 #[.int .i32 0, .bool false, .int .u8 0])
 replace hL := hid (hL.out.low ((Below.refl w.heap.size w).alloc (Nat.le_refl _) (.cells #[.int .i32 0, .bool false, .int .u8 0] 138)))
 have hB0 := hid ((Below.refl w.heap.size w).alloc (Nat.le_refl _) (.cells #[.int .i32 0, .bool false, .int .u8 0] 138))
 obtain ⟨B2, hB2⟩ : ∃ b, w.heap.size = b := ⟨_, rfl⟩
 rw [hB2] at K2 hRl
 try simp only [hB2]
 have HB2 := hid hB2
 clear hB2
 generalize w.alloc (.cells #[.int .i32 0, .bool false, .int .u8 0] 138) = W0 at *
 obtain ⟨y0, y1, y2, y3⟩ := hL.out.piece hKK.out hp hN.out
 rw [hbr] at y3
 obtain ⟨c0, c1, c2, c3, c4, c5, cf⟩ := hL.out.c6
 generalize hwd : wdN s p = wd at *
 generalize hrr : rnN s p = r at *
 refine region_plan [] (.quiet 0 (.quiet 1 (.quiet 2 (.quiet 3 (.quiet 4 (.quiet 5 (.quiet 6 (.quiet 7 (.quiet 8 (.quiet 9 (.one 10 (.one 11 .done)))))))))))) (by kernel_rfl) (by kernel_rfl) ?_
 repeat (apply p_quiet; (case hi => rfl); intro K hK; go_simp; (refine ⟨hK _ ?_⟩; clear hK K))
 apply p_one
 case hi => rfl
 intro W1 hb1 K hK
 go_wp2_with fail
 refine hK _ _ (.of (hb1.alloc hb1.size _)) ?_
 clear hK K y0 y1 y2 y3 c0 c1 c2 c3 c4 c5 cf
 have KT := hid (Blk.new W1 113 #[.int .i64 0, .int .i64 0, .int .i32 0, .bool false])
 have hB := hid (hb1.alloc hb1.size (.cells #[.int .i64 0, .int .i64 0, .int .i32 0, .bool false] 113))
 have hsz := hid hb1.size
 clear hb1
 generalize W1.alloc (.cells #[.int .i64 0, .int .i64 0, .int .i32 0, .bool false] 113) = W2 at *
 generalize W1.heap.size = T at *
 apply p_one
 case hi => rfl
 intro W3 hb3 K hK
 replace KT := hid (KT.out.low hb3)
 replace hB := hid (bnext hB.out hb3)
 clear hb3
 obtain ⟨d0, d1, d2, d3, df⟩ := KT.out.c4
 go_wp2_with fail
 have hB5 := hid (below_put4 hB.out hsz.out (.int .i64 p) (.int .i64 wd) (.int .i32 r) (.bool true))
 refine hK _ _ (.of hB5.out) ?_
 clear hK K d0 d1 d2 d3 df
 replace KT := hid (KT.out.put4 (.int .i64 p) (.int .i64 wd) (.int .i32 r) (.bool true))
 generalize (((W3.setCell ⟨T, 0, none⟩ (.int .i64 p)).setCell ⟨T, 1, none⟩ (.int .i64 wd)).setCell ⟨T, 2, none⟩ (.int .i32 r)).setCell ⟨T, 3, none⟩ (.bool true) = W5 at *
 apply p_done
 intro W6 hb6
 replace KT := hid (KT.out.low hb6)
 have hB6 := hid (bnext hB5.out hb6)
 replace hL := hid (hL.out.low hB6.out)
 replace K2 := hid (K2.out.low hB6.out)
 replace hB0 := hid (bnextL hB0.out hB6.out)
 have hTR : R ≠ T := blk_ne hL.out.b KT.out (by decide)
 have hTB : B2 ≠ T := blk_ne K2.out KT.out (by decide)
 have hTB' : T ≠ B2 := Ne.symm hTB
 have hRB : R ≠ B2 := blk_ne hL.out.b K2.out (by decide)
 clear hb6 hB hB5 hB6 hsz
 obtain ⟨d0, d1, d2, d3, df⟩ := KT.out.c4
 obtain ⟨c0, c1, c2, c3, c4, c5, cf⟩ := hL.out.c6
 obtain ⟨f0, f1, f2, ff⟩ := K2.out.c3
 go_wp2_with fail
 have hL7 := hid (hL.out.go (k + 1))
 have hB7 := hid (((ButS.of (S := [R]) hB0.out).set (List.mem_singleton.2 rfl) 2 (.int .i64 ((k + 1 : Nat) : Int))))
 have K27 := hid (K2.out.other (Ne.symm hRB) (k := 2) (.int .i64 ((k + 1 : Nat) : Int)))
 have KT7 := hid (KT.out.other (Ne.symm hTR) (k := 2) (.int .i64 ((k + 1 : Nat) : Int)))
 change Hid (Ln (W6.setCell ⟨R, 2, none⟩ (.int .i64 ((k : Int) + 1))) R s _ _ _ _ _) at hL7
 change Hid (ButS [R] w (W6.setCell ⟨R, 2, none⟩ (.int .i64 ((k : Int) + 1)))) at hB7
 change Hid (Blk (W6.setCell ⟨R, 2, none⟩ (.int .i64 ((k : Int) + 1))) B2 138 _) at K27
 change Hid (Blk (W6.setCell ⟨R, 2, none⟩ (.int .i64 ((k : Int) + 1))) T 113 _) at KT7
 clear c0 c1 c2 c3 c4 c5 cf d0 d1 d2 d3 df f0 f1 f2 ff KT K2 hL hB0
 generalize W6.setCell ⟨R, 2, none⟩ (.int .i64 ((k : Int) + 1)) = W7 at *
 obtain ⟨d0, d1, d2, d3, df⟩ := KT7.out.c4
 obtain ⟨c0, c1, c2, c3, c4, c5, cf⟩ := hL7.out.c6
 refine region_plan [B2] (.quiet 0 (.quiet 1 (.quiet 2 (.quiet 3 (.quiet 4 (.quiet 5 (.quiet 6 (.quiet 7 (.one 8 .done))))))))) (by kernel_rfl) (by kernel_rfl) ?_
 repeat (apply p_quiet; (case hi => rfl); intro K hK; go_simp; (refine ⟨hK _ ?_⟩; clear hK K))
 apply p_one
 case hi => rfl
 intro W8 hb8 K hK
 have K28 := hid (K27.out.low hb8)
 have hL8 := hid (hL7.out.low hb8)
 have hB8 := hid (hB7.out.low hb8)
 clear d0 d1 d2 d3 df c0 c1 c2 c3 c4 c5 cf hL7 hB7 K27 KT7
 obtain ⟨f0, f1, f2, ff⟩ := K28.out.c3
 go_wp2_with fail
 refine hK _ _ ((ButS.of hb8).put3 (List.mem_singleton.2 rfl) _ _ _) ?_
 clear hK K f0 f1 f2 ff hb8
 have K29 := hid (K28.out.put3 (.int .i32 0) (.bool true) (.int .u8 (s[p]'hp).toNat))
 have hL9 := hid (hL8.out.but (S := [B2]) ((ButS.refl [B2] W8).put3 (List.mem_singleton.2 rfl) (.int .i32 0) (.bool true) (.int .u8 (s[p]'hp).toNat)) (by rw [List.mem_singleton]; exact hRB) (fun B hB => by rw [List.mem_singleton] at hB; subst hB; exact ⟨138, _, by decide, K28.out⟩))
 have hB9 := hid (((hB8.out.setNew (Nat.le_of_eq HB2.out) 0 (.int .i32 0)).setNew (Nat.le_of_eq HB2.out) 1 (.bool true)).setNew (Nat.le_of_eq HB2.out) 2 (.int .u8 (s[p]'hp).toNat))
 generalize ((W8.setCell ⟨B2, 0, none⟩ (.int .i32 0)).setCell ⟨B2, 1, none⟩ (.bool true)).setCell ⟨B2, 2, none⟩ (.int .u8 (s[p]'hp).toNat) = W9 at *
 apply p_done
 intro W10 hb10
 obtain ⟨f0, f1, f2, ff⟩ := (K29.out.low hb10).c3
 have hL10 := hid (hL9.out.low hb10)
 have hB10 := hid (hB9.out.low hb10)
 go_wp2_with fail
 exact bodyPost_ret (v := .agg #[.int .i32 0, .bool true, .int .u8 (s[p]'hp).toNat]) (by simp [results, Tryz.results62, go_sem, f0, f1, f2, ff]) rfl ⟨rfl, hL10.out, hB10.out⟩
theorem lone_any {w : World} {R k p : Nat} {s : ByteArray} {lv A : Value} {q : Int} (h : Ln w R s lv k 0 q A) (hk : AtK s k p) (hp : p < s.size) (hs : s.size ≤ 100000000) :
  Calls Tryz.prog 62 #[.pointer (some ⟨R, 0, none⟩)] w fun x w' => x = .returned (oneAt s p).val ∧ Ln w' R s lv (k + 1) 0 q A ∧ ButS [R] w w' := by
 cases hbr : isBr s p with
 | true =>
  rw [show oneAt s p = ⟨0, true, (s[p]'hp).toNat⟩ by unfold oneAt; rw [hbr, get_eq s p hp]; rfl]
  exact lone_br h hk hp hs hbr
 | false =>
  rw [show oneAt s p = ⟨rnN s p, false, 0⟩ by unfold oneAt; rw [hbr]; rfl]
  exact lone_no h hk hp hs hbr
end Go.Proofs.YtieifhfgedoiaaaGreatDoor
/- A line of rules in the document's hand: plain pieces. Conditions: those of each theorem. -/
namespace Go.Proofs.YtieifhfgedoiaaaGreatDoor
open Go.RowKit Go.Lib
set_option linter.unusedVariables false
set_option linter.unusedSimpArgs false
theorem info98 : (Tryz.prog.info? 138).map (fun i => (i.zero, i.size, i.bytes)) = some (some (.agg #[.int .i32 0, .bool false, .int .u8 0]), 3, 8) := by kernel_rfl
theorem own_blk {w : World} {base size n : Nat} {e : TypeId} {v : Value} {xs : List Value} (h : w.ownsRow base e size v n xs) {g : Nat} (hg : v.ownBlock = some g) : ∃ a, Blk w g e a := by
 rcases h.2 with ⟨hh, _⟩ | ⟨g', cap, cur, h1, h2, h3, h4⟩
 ·rw [hh] at hg; cases hg
 ·rw [h1] at hg; cases hg; exact ⟨_, h3⟩
theorem Ln.kept {w w' : World} {R k : Nat} {s : ByteArray} {lv A : Value} {e q : Int} (h : Ln w R s lv k e q A) {row : Option Nat} (hg : w.grownBy w' row) (hb : ∀ g, row = some g → ∃ t a, t ≠ 113 ∧ t ≠ 76 ∧ Blk w g t a) : Ln w' R s lv k e q A := by
 have hS : ButS row.toList w w' := (ButS.refl _ w).grownS hg (fun k hk => by subst hk; simp)
 refine h.but hS ?_ ?_
 ·intro hm
  rw [Option.mem_toList] at hm
  obtain ⟨t, a, _, h2, h3⟩ := hb _ hm
  exact blk_ne h.b h3 (Ne.symm h2) rfl
 ·intro B hm
  rw [Option.mem_toList] at hm
  obtain ⟨t, a, h1, _, h3⟩ := hb _ hm
  exact ⟨t, a, h1, h3⟩
def LrPost (w w' : World) (R : Nat) (s : ByteArray) (lv A : Value) (q0 : Int) (T : TypeId) (n : Nat) {α : Type} (f : α → List Value) (r : Res (List α)) (v : Value) : Prop :=
 match r with
 | .ok l p => w'.ownsRow w.heap.size T n v l.length (flatE f l) ∧ (∃ k, AtK s k p ∧ Ln w' R s lv k 0 q0 A) ∧ ButS [R] w w' ∧ l.length ≤ 64
 | .bad e q => (∃ pv n cap, v = .slice pv n cap) ∧ (∃ k, Ln w' R s lv k e q A) ∧ ButS [R] w w'
set_option maxRecDepth 100000 in
set_option maxHeartbeats 4000000 in
theorem lpieces_any {w : World} {R k p : Nat} {s : ByteArray} {lv A : Value} {q0 : Int} (h : Ln w R s lv k 0 q0 A) (hk : AtK s k p) (hs : s.size ≤ 100000000) :
  Calls Tryz.prog 43 #[.pointer (some ⟨R, 0, none⟩)] w fun x w' => ∃ v, x = .returned v ∧ LrPost w w' R s lv A q0 138 3 One.cells (piecesR s p []) v := by
 obtain ⟨i0, hi, hz0, hz1, hz2⟩ := info_parts info98
 have hlt := h.b.lt
 cases hpl : plB s p
 ·have hP := hid (lplain_any h hk hs)
  rw [hpl] at hP
  rw [show piecesR s p [] = .bad 90 p from piecesR_no hpl]
  have hF := hid (fun w' (hb : Below w.heap.size w w') => wrong_new (h.low hb) hk 90)
  clear h hk hpl hs
  go_enter Tryz.func43, Tryz.ntmps43
  go_wp2_with (first | (go_at_call 61; (with_reducible refine Calls.mono hP.out ?_); rintro e w1 ⟨rfl, hb1⟩; have hF1 := hid (hF.out _ hb1); have HB1 := hid hb1; clear hb1 hF hP) | (go_at_call 41; (with_reducible refine Calls.mono hF1.out ?_); rintro e w3 ⟨rfl, hL3, hB3⟩; have HL3 := hid hL3; have HB3 := hid hB3; clear hL3 hB3))
  have hQ := hid (lplain_bad HL3.out (by decide))
  refine wp_loop_rounds 1 ?_
  rw [rounds_succ]
  go_wp2_with (go_at_call 61; (with_reducible refine Calls.mono hQ.out ?_); rintro e w4 ⟨rfl, hb4⟩; have HB4 := hid hb4; clear hb4 hQ)
  go_ret
  exact ⟨_, rfl, ⟨_, _, _, rfl⟩, ⟨_, HL3.out.low HB4.out⟩, ((ButS.of HB1.out).trans HB3.out).low HB4.out⟩
 ·have hP := hid (lplain_any h hk hs)
  rw [hpl] at hP
  have hL := hid h
  have hK := hid hk
  have hp1 := hid hpl
  clear h hk hpl
  go_enter Tryz.func43, Tryz.ntmps43
  go_wp2_with (go_at_call 61; (with_reducible refine Calls.mono hP.out ?_); rintro e w1 ⟨rfl, hb1⟩; have HB1 := hid (ButS.of (S := [R]) hb1); have HL1 := hid (hL.out.low hb1); clear hb1 hL hP)
  go_loopw [3] (fun v wr => ∃ (k q : Nat) (l : List One), Hid (Ln wr R s lv k 0 q0 A) ∧ Hid (AtK s k q) ∧ Hid (ButS [R] w wr) ∧ Hid (wr.ownsRow w.heap.size 138 3 v l.length (flatE One.cells l)) ∧ l.length ≤ 64 ∧ Hid (piecesR s p [] = piecesR s q l) ∧ (l.length = 0 → Hid (plB s q = true))) (fun v _ => match v with | .slice _ n _ => 65 - n | _ => 0)
  case atStart => exact ⟨k, p, [], HL1, hK, HB1, World.ownsRow_nil _ _ _ _, Nat.zero_le _, rfl, fun _ => hp1⟩
  case round =>
   obtain ⟨k1, q, l, hL, hKq, hB, hO, hl, hS, hne⟩ := hrel
   obtain ⟨pp, cap, rfl⟩ := own_shape hO.out
   obtain ⟨n, hn⟩ : ∃ n, l.length = n := ⟨_, rfl⟩
   rw [hn] at hO hl hne
   rw [hn]
   replace hn := hid hn
   have hP := hid (lplain_any hL.out hKq.out hs)
   cases hpl : plB s q
   ·rw [hpl] at hP
    have h0 : n ≠ 0 := fun e => by have := (hne e).out; rw [hpl] at this; cases this
    have hE : Hid (piecesR s p [] = .ok l q) := by rw [hS.out, piecesR_no hpl, if_neg (by rw [hn.out]; exact h0)]; exact hid rfl
    clear hpl hne
    go_wp2_with (go_at_call 61; (with_reducible refine Calls.mono hP.out ?_); rintro e w2 ⟨rfl, hb2⟩; have HB2 := hid hb2; clear hb2 hP)
    go_ret
    exact ⟨_, rfl, by rw [hE.out]; exact ⟨by rw [hn.out]; exact own_low hO.out HB2.out, ⟨_, hKq.out, hL.out.low HB2.out⟩, hB.out.low HB2.out, by rw [hn.out]; exact hl⟩⟩
   ·rw [hpl] at hP
    clear hne
    by_cases h64 : n = 64
    ·subst h64
     have hE : Hid (piecesR s p [] = .bad 3 q) := by rw [hS.out, piecesR_long hpl hn.out]; exact hid rfl
     have hF := hid (fun w' (hb : Below _ _ w') => wrong_new (hL.out.low hb) hKq.out 3)
     clear hpl
     go_wp2_with (first | (go_at_call 61; (with_reducible refine Calls.mono hP.out ?_); rintro e w2 ⟨rfl, hb2⟩; have hF2 := hid (hF.out _ hb2); have HB2 := hid hb2; clear hb2 hP hF) | (go_at_call 41; (with_reducible refine Calls.mono hF2.out ?_); rintro e w3 ⟨rfl, hL3, hB3⟩; have HL3 := hid hL3; have HB3 := hid hB3; clear hL3 hB3))
     go_ret
     exact ⟨_, rfl, by rw [hE.out]; exact ⟨⟨_, _, _, rfl⟩, ⟨_, HL3.out⟩, (hB.out.low HB2.out).trans HB3.out⟩⟩
    ·have l64 : n < 64 := by omega
     have t1 := dF (show ¬ ((64 : Int) ≤ n) by omega)
     have t2 := dF (show ¬ (64 ≤ n) by omega)
     obtain ⟨ur, ub, uc, hu⟩ : ∃ ur ub uc, oneAt s q = ⟨ur, ub, uc⟩ := ⟨_, _, _, rfl⟩
     have hqs := plB_lt hpl
     have hO1 := hid (fun w' (hb : Below _ _ w') => lone_any (hL.out.low hb) hKq.out hqs hs)
     have hE : Hid (piecesR s p [] = piecesR s (q + wdN s q) (l ++ [⟨ur, ub, uc⟩])) := by rw [hS.out, piecesR_more hpl (by rw [hn.out]; omega), hu]; exact hid rfl
     have hK2 := hid (hKq.out.next hqs)
     simp only [hu, One.val] at hO1
     clear hpl hu h64
     go_wp2_with (first | (go_at_call 61; (with_reducible refine Calls.mono hP.out ?_); rintro e w2 ⟨rfl, hb2⟩; have hO2 := hid (hO1.out _ hb2); have HB2 := hid (hB.out.low hb2); have HR2 := hid (own_low hO.out hb2); clear hb2 hP hO1) | (go_at_call 62; (with_reducible refine Calls.mono hO2.out ?_); rintro e w3 ⟨rfl, hL3, hB3⟩; have HL3 := hid hL3; have HB3 := hid (HB2.out.trans hB3); have HR3 := hid (own_but HR2.out hB3 (fun k hk => by rw [List.mem_singleton] at hk; omega)); have hs3 := hid HB3.out.size; clear hL3 hB3) | (at_builtin; refine wpList_append_own _ rfl (.tmp 17) (.tmp 20) 27 rfl w.heap.size 138 i0 _ 3 8 Tryz.underlying27 hi hz0 hz1 hz2 rfl (by decide) _ _ _ rfl (HR3.out.alloc _) ⟨w3.heap.size, 0, none⟩ 1 1 [.int .i32 ur, .bool ub, .int .u8 uc] rfl rfl (cells_new3 _ _ _ _ _) (by simp [Value.oneCell']) (by unfold maxLen; omega) (by omega) (by have := hs3.out; simp <;> omega) ?_; refine stop_here ?_))
     refine hid ?_
     intro v' w5 hown' hgrow hnil
     have hO5 : Hid (w5.ownsRow w.heap.size 138 3 v' (n + 1) (flatE One.cells (l ++ [⟨ur, ub, uc⟩]))) := by rw [flatE_snoc]; exact hid hown'
     have HL5 := hid ((HL3.out.low ((Below.refl _ _).alloc (Nat.le_refl _) _)).kept hgrow (fun g hg => by obtain ⟨a, ha⟩ := own_blk (HR3.out.alloc _) hg; exact ⟨138, a, by decide, by decide, ha⟩))
     have HB5 := hid ((HB3.out.alloc _).grown hgrow (fun k hk => (own_ge HR3.out hk).1))
     clear hown' hgrow hnil
     obtain ⟨pp5, cap5, rfl⟩ := own_shape hO5.out
     go_wp2_with fail
     go_roundw
     case rel => exact ⟨_, q + wdN s q, l ++ [⟨ur, ub, uc⟩], HL5, hK2, HB5, by rw [List.length_append, hn.out]; exact hO5, by rw [List.length_append, hn.out]; simp <;> omega, hE, by rw [List.length_append]; intro e; simp at e⟩
     case measure => simp <;> omega
end Go.Proofs.YtieifhfgedoiaaaGreatDoor
/- A line of rules in the document's hand: a left, or a right. Conditions: those of each theorem. -/
namespace Go.Proofs.YtieifhfgedoiaaaGreatDoor
open Go.RowKit Go.Lib
set_option linter.unusedVariables false
set_option linter.unusedSimpArgs false
attribute [local go_sem] ExtS.cell ExtS.froz Ext.cell Ext.froz upE_value upE_skip upE_enter
theorem info120 : (Tryz.prog.info? 141).map (fun i => (i.zero, i.size, i.bytes)) = some (some (.agg #[.int .u8 0, .int .i32 0, .bool false, .int .u8 0]), 4, 12) := by kernel_rfl
theorem Ln.low' {w w' : World} {R k : Nat} {s : ByteArray} {lv A : Value} {e q : Int} (h : Ln w R s lv k e q A) (x : ExtS [] w) : Ln x.w R s lv k e q A := h.low (x.h.below (by simp) (Nat.le_refl _))
set_option maxRecDepth 100000 in
set_option maxHeartbeats 4000000 in
theorem litems_any {w : World} {R X k p : Nat} {s : ByteArray} {lv : Value} {c : Array Value} {said : Nat → Bool} {q0 : Int} (h : Ln w R s lv k 0 q0 (.pointer (some ⟨X, 0, none⟩))) (hk : AtK s k p) (hC : Blk w X 31 c) (hsd : ∀ i, i < 26 → c[i]? = some (.bool (said i))) (hs : s.size ≤ 100000000) :
  Calls Tryz.prog 45 #[.pointer (some ⟨R, 0, none⟩)] w fun x w' => ∃ v, x = .returned v ∧ LrPost w w' R s lv (.pointer (some ⟨X, 0, none⟩)) q0 141 4 Item.cells (itemsR said s p []) v := by
 obtain ⟨i0, hi, hz0, hz1, hz2⟩ := info_parts info120
 have hlt := h.b.lt
 have hCw := hid (fun w' (hb : ButS [R] w w') => hb.blk hC (by rw [List.mem_singleton]; exact blk_ne hC h.b (by decide)))
 have hSd := hid hsd
 have hL := hid h
 have hK := hid hk
 clear h hk hC hsd
 go_enter Tryz.func45, Tryz.ntmps45
 go_wp2_with fail
 go_loopw [3] (fun v wr => ∃ (k q : Nat) (l : List Item), Hid (Ln wr R s lv k 0 q0 (.pointer (some ⟨X, 0, none⟩))) ∧ Hid (AtK s k q) ∧ Hid (ButS [R] w wr) ∧ Hid (wr.ownsRow w.heap.size 141 4 v l.length (flatE Item.cells l)) ∧ l.length ≤ 64 ∧ Hid (itemsR said s p [] = itemsR said s q l)) (fun v _ => match v with | .slice _ n _ => 65 - n | _ => 0)
 case atStart => exact ⟨k, p, [], hL, hK, ButS.refl _ _, World.ownsRow_nil _ _ _ _, Nat.zero_le _, rfl⟩
 case round =>
  clear hL hK
  obtain ⟨k1, q, l, hL, hKq, hB, hO, hl, hS⟩ := hrel
  obtain ⟨pp, cap, rfl⟩ := own_shape hO.out
  obtain ⟨n, hn⟩ : ∃ n, l.length = n := ⟨_, rfl⟩
  rw [hn] at hO hl
  rw [hn]
  replace hn := hid hn
  have hP := hid (lplain_any hL.out hKq.out hs)
  have hN := hid (fun w' (h : Ln w' R s lv k1 0 q0 (.pointer (some ⟨X, 0, none⟩))) => lname_any h hKq.out)
  cases hnm : nameB s q
  ·rw [hnm] at hN
   cases hpl : plB s q
   ·rw [hpl] at hP
    have hE : Hid (itemsR said s p [] = .ok l q) := by rw [hS.out, itemsR_end hnm hpl]; exact hid rfl
    clear hpl hnm
    go_wp2_with (first | (go_at_call 61; (with_reducible refine Calls.mono hP.out ?_); rintro e w2 ⟨rfl, hb2⟩; have HL2 := hid (hL.out.low hb2); have HB2 := hid hb2; have hN2 := hid (hN.out _ HL2.out); clear hb2 hP hN) | (go_at_call 63; (with_reducible refine Calls.mono hN2.out ?_); rintro e w3 ⟨rfl, hb3⟩; have HB3 := hid (bnext HB2.out hb3); clear hb3 hN2))
    go_ret
    exact ⟨_, rfl, by rw [hE.out]; exact ⟨by rw [hn.out]; exact own_low hO.out HB3.out, ⟨_, hKq.out, hL.out.low HB3.out⟩, hB.out.low HB3.out, by rw [hn.out]; exact hl⟩⟩
   ·rw [hpl] at hP
    go_wp2_with (go_at_call 61; (with_reducible refine Calls.mono hP.out ?_); rintro e W ⟨rfl, hb2⟩; have HL2 := hid (hL.out.low hb2); have HB2 := hid hb2; clear hb2 hP)
    have hLow := hid (fun x : ExtS [] W => hN.out _ (HL2.out.low' (w' := W) x))
    refine region_plan [] (.quiet 0 (.quiet 1 (.quiet 2 (.quiet 3 (.quiet 4 (.quiet 5 (.quiet 6 (.quiet 7 (.quiet 8 (.quiet 9 (.quiet 10 (.quiet 11 (.quiet 12 (.quiet 13 (.quiet 14 (.quiet 15 (.quiet 16 (.quiet 17 (.quiet 18 (.quiet 19 (.quiet 20 .done))))))))))))))))))))) (by kernel_rfl) (by kernel_rfl) ?_
    repeat (apply p_quiet; (case hi => rfl); intro K hK; go_simp; first | (refine ⟨hK _ ?_⟩; clear hK K) | (refine ⟨_, fun x => hLow.out x, hK _ ?_⟩; clear hK K))
    apply p_done
    intro W3 hb3
    have HL3 := hid (HL2.out.low hb3)
    have HB3 := hid (bnext HB2.out hb3)
    clear hb3 hLow HB2 HL2
    by_cases h64 : n = 64
    ·subst h64
     have hE : Hid (itemsR said s p [] = .bad 3 q) := by rw [hS.out, itemsR_long hnm hpl hn.out]; exact hid rfl
     have hF := hid (wrong_new HL3.out hKq.out 3)
     clear hpl hnm
     go_wp2_with (go_at_call 41; (with_reducible refine Calls.mono hF.out ?_); rintro e w4 ⟨rfl, hL4, hB4⟩; have HL4 := hid hL4; have HB4 := hid hB4; clear hL4 hB4)
     go_ret
     exact ⟨_, rfl, by rw [hE.out]; exact ⟨⟨_, _, _, rfl⟩, ⟨_, HL4.out⟩, (hB.out.low HB3.out).trans HB4.out⟩⟩
    ·have l64 : n < 64 := by omega
     have t1 := dF (show ¬ ((64 : Int) ≤ n) by omega)
     have t2 := dF (show ¬ (64 ≤ n) by omega)
     obtain ⟨ur, ub, uc, hu⟩ : ∃ ur ub uc, oneAt s q = ⟨ur, ub, uc⟩ := ⟨_, _, _, rfl⟩
     have hqs := plB_lt hpl
     have hO1 := hid (fun w' (hb : Below W3.heap.size W3 w') => lone_any (HL3.out.low hb) hKq.out hqs hs)
     have hN3 := hid (hN.out _ HL3.out)
     have hE : Hid (itemsR said s p [] = itemsR said s (q + wdN s q) (l ++ [⟨0, ⟨ur, ub, uc⟩⟩])) := by rw [hS.out, itemsR_more hnm hpl (by rw [hn.out]; omega), hu]; exact hid rfl
     have hK2 := hid (hKq.out.next hqs)
     have HO3 := hid (own_low hO.out HB3.out)
     have HB4 := hid (hB.out.low HB3.out)
     simp only [hu, One.val] at hO1
     clear hpl hnm hu h64 hB hO hL hN HB3
     go_wp2_with (first | (go_at_call 63; (with_reducible refine Calls.mono hN3.out ?_); rintro e w4 ⟨rfl, hb4⟩; have hO4 := hid (hO1.out _ hb4); have HB5 := hid (HB4.out.low hb4); have HO5 := hid (own_low HO3.out hb4); clear hb4 hN3 hO1 HB4 HO3) | (go_at_call 62; (with_reducible refine Calls.mono hO4.out ?_); rintro e w6 ⟨rfl, hL6, hB6⟩; have HL6 := hid hL6; have HB6 := hid (HB5.out.trans hB6); have HO6 := hid (own_but HO5.out hB6 (fun k hk => by rw [List.mem_singleton] at hk; omega)); have hs6 := hid HB6.out.size; clear hL6 hB6 hO4) | (at_builtin; refine wpList_append_own _ rfl (.tmp 60) (.tmp 64) 118 rfl w.heap.size 141 i0 _ 4 12 Tryz.underlying118 hi hz0 hz1 hz2 rfl (by decide) _ _ _ rfl (HO6.out.alloc _) ⟨w6.heap.size, 0, none⟩ 1 1 [.int .u8 0, .int .i32 ur, .bool ub, .int .u8 uc] rfl rfl (cells_new4 _ _ _ _ _ _) (by simp [Value.oneCell']) (by unfold maxLen; omega) (by omega) (by have := hs6.out; simp <;> omega) ?_; refine stop_here ?_))
     refine hid ?_
     intro v' w5 hown' hgrow hnil
     have hO5 : Hid (w5.ownsRow w.heap.size 141 4 v' (n + 1) (flatE Item.cells (l ++ [⟨0, ⟨ur, ub, uc⟩⟩]))) := by rw [flatE_snoc]; exact hid hown'
     have HL5 := hid ((HL6.out.low ((Below.refl _ _).alloc (Nat.le_refl _) _)).kept hgrow (fun g hg => by obtain ⟨a, ha⟩ := own_blk (HO6.out.alloc _) hg; exact ⟨141, a, by decide, by decide, ha⟩))
     have HB5 := hid ((HB6.out.alloc _).grown hgrow (fun k hk => (own_ge HO6.out hk).1))
     clear hown' hgrow hnil
     obtain ⟨pp5, cap5, rfl⟩ := own_shape hO5.out
     go_wp2_with fail
     go_roundw
     case rel => exact ⟨_, q + wdN s q, l ++ [⟨0, ⟨ur, ub, uc⟩⟩], HL5, hK2, HB5, by rw [List.length_append, hn.out]; exact hO5, by rw [List.length_append, hn.out]; simp <;> omega, hE⟩
     case measure => simp <;> omega
  ·rw [hnm] at hN
   have hpl := name_pl hnm
   rw [hpl] at hP
   obtain ⟨hqs, hb1, hb9⟩ := of_decide_eq_true hnm
   have hcb := get_eqN s q hqs
   obtain ⟨b, hb⟩ : ∃ b, (s[q]'hqs).toNat = b + 65 := ⟨(s[q]'hqs).toNat - 65, by unfold byteN at hcb; omega⟩
   have hb26 : b < 26 := by unfold byteN at hcb; omega
   have hIb : Hid (byteN s q = b + 65) := by rw [hcb, hb]; exact hid rfl
   have hBr := hid hb
   have q1 := dT (show (q : Int) < s.size by omega)
   have q2 : decide (q < s.size) = true := decide_eq_true hqs
   have q3 := dT (show (b : Int) < 26 by omega)
   have q4 : decide (b < 26) = true := decide_eq_true hb26
   have q5 : (b : Int) < 26 := by omega
   have q6 : IntKind.u8.wrap (b : Int) = b := Wu8 (by omega)
   have q7 : IntKind.u8.wrap ((b : Int) + 65 - 65) = b := by rw [show (b : Int) + 65 - 65 = b by omega]; exact q6
   obtain ⟨sb, hsb⟩ : ∃ sb, said b = sb := ⟨_, rfl⟩
   have hcu : Hid (said (byteN s q - 65) = sb) := by rw [hIb.out, Nat.add_sub_cancel]; exact hid hsb
   have hPl := hid (fun w' (h : Ln w' R s lv k1 0 q0 (.pointer (some ⟨X, 0, none⟩))) => place_any h hKq.out)
   clear hb1 hb9 hcb
   go_wp2_with (first | (go_at_call 61; (with_reducible refine Calls.mono hP.out ?_); rintro e w2 ⟨rfl, hb2⟩; have HL2 := hid (hL.out.low hb2); have HB2 := hid hb2; have hN2 := hid (hN.out _ HL2.out); clear hb2 hP) | (go_at_call 63; (with_reducible refine Calls.mono hN2.out ?_); rintro e W ⟨rfl, hb3⟩; have HB3 := hid (bnext HB2.out hb3); have HL3 := hid (HL2.out.low hb3); clear hb3 hN2))
   obtain ⟨c0, c1, c2, c3, c4, c5, cf⟩ := HL3.out.c6
   have xc : W.cell? ⟨X, b, none⟩ = some (.bool sb) := (hCw.out _ (hB.out.low HB3.out)).cell (k := b) (by rw [hSd.out b hb26, hsb])
   clear hsb
   have hLow := hid (fun x : ExtS [] W => hN.out _ (HL3.out.low' (w' := W) x))
   have hLow2 := hid (fun x : ExtS [] W => hPl.out _ (HL3.out.low' (w' := W) x))
   refine region_plan [] (.quiet 0 (.quiet 1 (.quiet 2 (.quiet 3 (.quiet 4 (.quiet 5 (.quiet 6 (.quiet 7 (.quiet 8 (.quiet 9 (.quiet 10 (.quiet 11 (.quiet 12 (.quiet 13 (.quiet 14 (.quiet 15 (.quiet 16 (.quiet 17 (.quiet 18 (.quiet 19 (.quiet 20 .done))))))))))))))))))))) (by kernel_rfl) (by kernel_rfl) ?_
   repeat (apply p_quiet; (case hi => rfl); intro K hK; go_simp; first | (refine ⟨hK _ ?_⟩; clear hK K) | (refine ⟨_, fun x => hLow.out x, hK _ ?_⟩; clear hK K) | (refine ⟨_, fun x => hLow2.out x, hK _ ?_⟩; clear hK K))
   apply p_done
   intro W4 hb4
   have HL4 := hid (HL3.out.low hb4)
   have HB4 := hid (hB.out.low (bnext HB3.out hb4))
   have HO4 := hid (own_low hO.out (bnext HB3.out hb4))
   clear hb4 HB3 HL3 HB2 HL2 hLow hLow2 xc c0 c1 c2 c3 c4 c5 cf
   cases sb
   ·have hE : Hid (itemsR said s p [] = .bad 92 q) := by rw [hS.out, itemsR_unsaid hnm hcu.out]; exact hid rfl
    have hF := hid (wrong_new HL4.out hKq.out 92)
    clear hpl hnm hb
    go_wp2_with (go_at_call 41; (with_reducible refine Calls.mono hF.out ?_); rintro e w4 ⟨rfl, hL5, hB5⟩; have HL5 := hid hL5; have HB5 := hid hB5; clear hL5 hB5)
    go_ret
    exact ⟨_, rfl, by rw [hE.out]; exact ⟨⟨_, _, _, rfl⟩, ⟨_, HL5.out⟩, HB4.out.trans HB5.out⟩⟩
   ·by_cases h64 : n = 64
    ·subst h64
     have hE : Hid (itemsR said s p [] = .bad 3 q) := by rw [hS.out, itemsR_nlong hnm hcu.out hn.out]; exact hid rfl
     have hF := hid (wrong_new HL4.out hKq.out 3)
     clear hpl hnm hb
     go_wp2_with (go_at_call 41; (with_reducible refine Calls.mono hF.out ?_); rintro e w4 ⟨rfl, hL5, hB5⟩; have HL5 := hid hL5; have HB5 := hid hB5; clear hL5 hB5)
     go_ret
     exact ⟨_, rfl, by rw [hE.out]; exact ⟨⟨_, _, _, rfl⟩, ⟨_, HL5.out⟩, HB4.out.trans HB5.out⟩⟩
    ·have l64 : n < 64 := by omega
     have t1 := dF (show ¬ ((64 : Int) ≤ n) by omega)
     have t2 := dF (show ¬ (64 ≤ n) by omega)
     have hE : Hid (itemsR said s p [] = itemsR said s (q + 1) (l ++ [⟨b + 65, One.none⟩])) := by rw [hS.out, itemsR_name hnm hcu.out (by rw [hn.out]; omega), hIb.out]; exact hid rfl
     have hwd1 : wdN s q = 1 := by have hd := dec_ascii hqs (by have := hIb.out; unfold byteN at this; omega); unfold wdN; rw [hd]
     have hK2 := hid (hKq.out.next hqs)
     rw [hwd1] at hK2
     have hN4 := hid (hN.out _ HL4.out)
     have hkl := hKq.out.lt hqs
     have hkb := posL_len s _ 0 rfl
     have hw1 : IntKind.i64.wrap ((k1 : Int) + 1) = (k1 : Int) + 1 := Wi64 (by omega)
     clear hpl hnm h64 hwd1 hkl hkb
     go_wp2_with (go_at_call 63; (with_reducible refine Calls.mono hN4.out ?_); rintro e W ⟨rfl, hb5⟩; have HL5 := hid (HL4.out.low hb5); have HB5 := hid (HB4.out.low hb5); have HO5 := hid (own_low HO4.out hb5); clear hb5 hN4 HL4 HB4 HO4)
     obtain ⟨c0, c1, c2, c3, c4, c5, cf⟩ := HL5.out.c6
     obtain ⟨So, hSo⟩ : ∃ So, rowS (.slice pp n cap) = So := ⟨_, rfl⟩
     have sR : R ∉ So := fun h => by rw [← hSo] at h; have := (own_ge HO5.out (rowS_mem h)).1; omega
     have sB := hid (show ∀ B ∈ So, ∃ t a, t ≠ 113 ∧ Blk W B t a from fun B h => by rw [← hSo] at h; obtain ⟨a, ha⟩ := own_blk HO5.out (rowS_mem h); exact ⟨141, a, by decide, ha⟩)
     have hLow := hid (fun x : ExtS So W => hPl.out _ (HL5.out.but x.h sR sB.out))
     replace hSo := hid hSo
     refine region_plan So (.quiet 0 (.quiet 1 (.quiet 2 (.quiet 3 (.quiet 4 (.quiet 5 (.quiet 6 (.quiet 7 (.quiet 8 (.one 9 (.one 10 (.quiet 11 .done)))))))))))) (by kernel_rfl) (by kernel_rfl) ?_
     repeat (apply p_quiet; (case hi => rfl); intro K hK; go_simp; first | (refine ⟨hK _ ?_⟩; clear hK K) | (refine ⟨_, fun x => hLow.out x, hK _ ?_⟩; clear hK K))
     apply p_one
     case hi => rfl
     intro W2 hb2 K hK
     go_wp2_with fail
     refine hK _ _ (.of (hb2.alloc hb2.size _)) ?_
     clear hK K
     have hO6 := hid (own_low (own_low HO5.out hb2) ((Below.refl _ _).alloc (Nat.le_refl _) (.cells #[.int .u8 ((b : Int) + 65), .int .i32 0, .bool false, .int .u8 0] 141)))
     have KB := hid (Blk.new W2 141 #[.int .u8 ((b : Int) + 65), .int .i32 0, .bool false, .int .u8 0])
     have HS := hid (show ButS So W _ from .of (hb2.alloc hb2.size (.cells #[.int .u8 ((b : Int) + 65), .int .i32 0, .bool false, .int .u8 0] 141)))
     clear hb2
     generalize W2.alloc (.cells #[.int .u8 ((b : Int) + 65), .int .i32 0, .bool false, .int .u8 0] 141) = W3 at *
     generalize W2.heap.size = B4 at *
     apply p_one
     case hi => rfl
     intro W4 hb4 K hK
     replace hO6 := hid (own_low hO6.out hb4)
     replace KB := hid (KB.out.low hb4)
     replace HS := hid (HS.out.low hb4)
     clear hb4
     have hs2 := hid HS.out.size
     have hs1 := hid HB5.out.size
     refine wpList_append_own _ rfl (.tmp 42) (.tmp 51) 118 rfl w.heap.size 141 i0 _ 4 12 Tryz.underlying118 hi hz0 hz1 hz2 rfl (by decide) _ _ _ rfl hO6.out ⟨B4, 0, none⟩ 1 1 [.int .u8 ((b : Int) + 65), .int .i32 0, .bool false, .int .u8 0] rfl rfl (blk_list KB.out) (by simp [Value.oneCell']) (by unfold maxLen; omega) (by omega) (by have := hs1.out; have := hs2.out; omega) ?_
     intro v' w5 hown' hgrow hnil
     have hO7 : Hid (w5.ownsRow w.heap.size 141 4 v' (n + 1) (flatE Item.cells (l ++ [⟨b + 65, One.none⟩]))) := by rw [flatE_snoc]; exact hid hown'
     have hS5 := hid (HS.out.grownS hgrow (fun k hk => hSo.out ▸ mem_rowS hk))
     have hHB : Hid (ButS [R] w w5) := hid (HB5.out.later hS5.out (fun k hk => .inl (by have := (own_ge HO5.out (rowS_mem (hSo.out.symm ▸ hk))).1; omega)))
     have hHL := hid (HL5.out.but hS5.out sR sB.out)
     clear hown' hgrow hnil
     obtain ⟨pp5, cap5, rfl⟩ := own_shape hO7.out
     refine ⟨rfl, hK _ _ hS5.out ?_⟩
     clear hK K
     repeat (apply p_quiet; (case hi => rfl); intro K hK; go_simp; (refine ⟨hK _ ?_⟩; clear hK K))
     apply p_done
     intro W6 hb6
     replace hO7 := hid (own_low hO7.out hb6)
     replace hHB := hid (hHB.out.low hb6)
     replace hHL := hid (hHL.out.low hb6)
     clear hb6 hO6 KB HS hS5 hLow sB hSo sR c0 c1 c2 c3 c4 c5 cf HL5 HB5 HO5 hb
     obtain ⟨c0, c1, c2, c3, c4, c5, cf⟩ := hHL.out.c6
     go_wp2_with fail
     go_roundw
     case rel => exact ⟨k1 + 1, q + 1, l ++ [⟨b + 65, One.none⟩], hHL.out.go _, hK2, hHB.out.set (List.mem_singleton.2 rfl) 2 _, by rw [List.length_append, hn.out]; exact own_set hO7.out hlt 2 _, by rw [List.length_append, hn.out]; simp <;> omega, hE⟩
     case measure => simp <;> omega
end Go.Proofs.YtieifhfgedoiaaaGreatDoor
/- A line of rules in the document's hand: pieces and items where something is wrong already. Conditions: those of each theorem. -/
namespace Go.Proofs.YtieifhfgedoiaaaGreatDoor
open Go.RowKit Go.Lib
set_option linter.unusedVariables false
set_option linter.unusedSimpArgs false
set_option maxRecDepth 100000 in
set_option maxHeartbeats 4000000 in
theorem lpieces_bad {w : World} {R k : Nat} {s : ByteArray} {lv A : Value} {e q : Int} (h : Ln w R s lv k e q A) (he : e ≠ 0) :
  Calls Tryz.prog 43 #[.pointer (some ⟨R, 0, none⟩)] w fun x w' => x = .returned (.slice none 0 0) ∧ Below w.heap.size w w' := by
 have hP := hid (lplain_bad h he)
 have hF := hid (fun w' (hb : Below w.heap.size w w') => wrong_old (h.low hb) he 90)
 have hQ := hid (fun w' (hb : Below w.heap.size w w') => lplain_bad (h.low hb) he)
 clear h he
 go_enter Tryz.func43, Tryz.ntmps43
 go_wp2_with (first | (go_at_call 61; (with_reducible refine Calls.mono hP.out ?_); rintro e w1 ⟨rfl, hb1⟩; have hF1 := hid (hF.out _ hb1); have HB1 := hid hb1; clear hb1 hF hP) | (go_at_call 41; (with_reducible refine Calls.mono hF1.out ?_); rintro e w3 ⟨rfl, rfl⟩; have hQ1 := hid (hQ.out _ HB1.out); clear hQ))
 refine wp_loop_rounds 1 ?_
 rw [rounds_succ]
 go_wp2_with (go_at_call 61; (with_reducible refine Calls.mono hQ1.out ?_); rintro e w4 ⟨rfl, hb4⟩; have HB4 := hid (bnext HB1.out hb4); clear hb4 hQ1)
 go_ret
 exact ⟨rfl, HB4.out⟩
set_option maxRecDepth 100000 in
set_option maxHeartbeats 4000000 in
theorem litems_bad {w : World} {R k : Nat} {s : ByteArray} {lv A : Value} {e q : Int} (h : Ln w R s lv k e q A) (he : e ≠ 0) :
  Calls Tryz.prog 45 #[.pointer (some ⟨R, 0, none⟩)] w fun x w' => x = .returned (.slice none 0 0) ∧ Below w.heap.size w w' := by
 have hP := hid (lplain_bad h he)
 have hQ := hid (fun w' (hb : Below w.heap.size w w') => lname_bad (h.low hb) he)
 clear h he
 go_enter Tryz.func45, Tryz.ntmps45
 go_wp2_with fail
 refine wp_loop_rounds 1 ?_
 rw [rounds_succ]
 go_wp2_with (first | (go_at_call 61; (with_reducible refine Calls.mono hP.out ?_); rintro e w1 ⟨rfl, hb1⟩; have hQ1 := hid (hQ.out _ hb1); have HB1 := hid hb1; clear hb1 hQ hP) | (go_at_call 63; (with_reducible refine Calls.mono hQ1.out ?_); rintro e w4 ⟨rfl, hb4⟩; have HB4 := hid (bnext HB1.out hb4); clear hb4 hQ1))
 go_ret
 exact ⟨rfl, HB4.out⟩
end Go.Proofs.YtieifhfgedoiaaaGreatDoor
/- A line of rules in the document's hand: the state of a reading, right so far or wrong already, behind must. Conditions: those of each theorem. -/
namespace Go.Proofs.YtieifhfgedoiaaaGreatDoor
open Go.RowKit Go.Lib
set_option linter.unusedVariables false
set_option linter.unusedSimpArgs false
def LSt (w : World) (R : Nat) (s : ByteArray) (lv A : Value) (q0 : Int) {α : Type} (r : Res α) : Prop :=
 match r with
 | .ok _ p => ∃ k, AtK s k p ∧ Ln w R s lv k 0 q0 A
 | .bad e q => e ≠ 0 ∧ ∃ k, Ln w R s lv k e q A
theorem lmust_st {w : World} {R : Nat} {s : ByteArray} {lv A : Value} {q0 : Int} {r : Res Unit} (h : LSt w R s lv A q0 r) (c : Nat) (hc : c < 128) (hs : s.size ≤ 100000000) :
  Calls Tryz.prog 42 #[.pointer (some ⟨R, 0, none⟩), .int .u8 c] w fun x w' => x = .returned (.tuple #[]) ∧ LSt w' R s lv A q0 (r.bind fun _ p => mustR s p c) ∧ ButS [R] w w' := by
 cases r with
 | ok u p =>
  obtain ⟨k, hk, hL⟩ := h
  show Calls _ _ _ _ fun x w' => x = _ ∧ LSt w' R s lv A q0 (mustR s p c) ∧ _
  cases hb : isB s p c
  ·rw [mustR_no hb]
   refine (lmust_no hL hk hb).mono ?_
   rintro e w' ⟨rfl, h1, h2⟩
   exact ⟨rfl, ⟨by decide, k, h1⟩, h2⟩
  ·rw [mustR_yes hb]
   refine (lmust_yes hL hk hb hs).mono ?_
   rintro e w' ⟨rfl, h1, h2⟩
   have hn := hk.next (of_decide_eq_true hb).1
   rw [asc_wd hb hc] at hn
   exact ⟨rfl, ⟨_, hn, h1⟩, h2⟩
 | bad e q =>
  obtain ⟨he, k, hL⟩ := h
  refine (lmust_bad hL (by omega)).mono ?_
  rintro x w' ⟨rfl, h1, h2⟩
  exact ⟨rfl, ⟨he, k, h1⟩, h2⟩
end Go.Proofs.YtieifhfgedoiaaaGreatDoor
/- A line of rules in the document's hand: pieces and items from any state. Conditions: those of each theorem. -/
namespace Go.Proofs.YtieifhfgedoiaaaGreatDoor
open Go.RowKit Go.Lib
set_option linter.unusedVariables false
set_option linter.unusedSimpArgs false
theorem piecesR_ne {s : ByteArray} : ∀ (k p : Nat) (l : List One), s.size - p = k → ∀ e q, piecesR s p l = .bad e q → e ≠ 0 := by
 intro k
 induction k using Nat.strongRecOn with
 | ind k ih =>
  intro p l hk e q h
  cases hpl : plB s p
  ·rw [piecesR_no hpl] at h
   split at h
   ·injection h with h1 h2; omega
   ·cases h
  ·by_cases h64 : l.length = 64
   ·rw [piecesR_long hpl h64] at h
    injection h with h1 h2; omega
   ·rw [piecesR_more hpl h64] at h
    have h1 := plB_lt hpl
    have h2 := wdN_pos h1
    exact ih (s.size - (p + wdN s p)) (by omega) (p + wdN s p) _ rfl e q h
theorem itemsR_ne {s : ByteArray} {said : Nat → Bool} : ∀ (k p : Nat) (l : List Item), s.size - p = k → ∀ e q, itemsR said s p l = .bad e q → e ≠ 0 := by
 intro k
 induction k using Nat.strongRecOn with
 | ind k ih =>
  intro p l hk e q h
  cases hnm : nameB s p
  ·cases hpl : plB s p
   ·rw [itemsR_end hnm hpl] at h
    cases h
   ·by_cases h64 : l.length = 64
    ·rw [itemsR_long hnm hpl h64] at h
     injection h with h1 h2; omega
    ·rw [itemsR_more hnm hpl h64] at h
     have h1 := plB_lt hpl
     have h2 := wdN_pos h1
     exact ih (s.size - (p + wdN s p)) (by omega) (p + wdN s p) _ rfl e q h
  ·have hp := (of_decide_eq_true hnm).1
   cases hsd : said (byteN s p - 65)
   ·rw [itemsR_unsaid hnm hsd] at h
    injection h with h1 h2; omega
   ·by_cases h64 : l.length = 64
    ·rw [itemsR_nlong hnm hsd h64] at h
     injection h with h1 h2; omega
    ·rw [itemsR_name hnm hsd h64] at h
     exact ih (s.size - (p + 1)) (by omega) (p + 1) _ rfl e q h
def PSt (w w' : World) (R : Nat) (s : ByteArray) (lv A : Value) (q0 : Int) (T : TypeId) (n : Nat) {α : Type} (f : α → List Value) (r : Res (List α)) (v : Value) : Prop :=
 LSt w' R s lv A q0 r ∧ ButS [R] w w' ∧ match r with
 | .ok l p => w'.ownsRow w.heap.size T n v l.length (flatE f l) ∧ l.length ≤ 64
 | .bad e q => ∃ pv n cap, v = .slice pv n cap
theorem PSt.of {w w' : World} {R : Nat} {s : ByteArray} {lv A : Value} {q0 : Int} {T : TypeId} {n : Nat} {α : Type} {f : α → List Value} {r : Res (List α)} {v : Value} (h : LrPost w w' R s lv A q0 T n f r v) (hr : ∀ e q, r = .bad e q → e ≠ 0) : PSt w w' R s lv A q0 T n f r v := by
 cases r with
 | ok l p => exact ⟨h.2.1, h.2.2.1, h.1, h.2.2.2⟩
 | bad e q => exact ⟨⟨hr _ _ rfl, h.2.1⟩, h.2.2, h.1⟩
theorem lpieces_st {w : World} {R : Nat} {s : ByteArray} {lv A : Value} {q0 : Int} {r : Res Unit} (h : LSt w R s lv A q0 r) (hs : s.size ≤ 100000000) :
  Calls Tryz.prog 43 #[.pointer (some ⟨R, 0, none⟩)] w fun x w' => ∃ v, x = .returned v ∧ PSt w w' R s lv A q0 138 3 One.cells (r.bind fun _ p => piecesR s p []) v := by
 cases r with
 | ok u p =>
  obtain ⟨k, hk, hL⟩ := h
  refine (lpieces_any hL hk hs).mono ?_
  rintro e w' ⟨v, rfl, h1⟩
  exact ⟨v, rfl, PSt.of h1 (piecesR_ne _ _ _ rfl)⟩
 | bad e q =>
  obtain ⟨he, k, hL⟩ := h
  refine (lpieces_bad hL (by omega)).mono ?_
  rintro x w' ⟨rfl, h1⟩
  exact ⟨_, rfl, ⟨he, k, hL.low h1⟩, .of h1, ⟨_, _, _, rfl⟩⟩
theorem litems_st {w : World} {R X : Nat} {s : ByteArray} {lv : Value} {c : Array Value} {said : Nat → Bool} {q0 : Int} {r : Res Unit} (h : LSt w R s lv (.pointer (some ⟨X, 0, none⟩)) q0 r) (hC : Blk w X 31 c) (hsd : ∀ i, i < 26 → c[i]? = some (.bool (said i))) (hs : s.size ≤ 100000000) :
  Calls Tryz.prog 45 #[.pointer (some ⟨R, 0, none⟩)] w fun x w' => ∃ v, x = .returned v ∧ PSt w w' R s lv (.pointer (some ⟨X, 0, none⟩)) q0 141 4 Item.cells (r.bind fun _ p => itemsR said s p []) v := by
 cases r with
 | ok u p =>
  obtain ⟨k, hk, hL⟩ := h
  refine (litems_any hL hk hC hsd hs).mono ?_
  rintro e w' ⟨v, rfl, h1⟩
  exact ⟨v, rfl, PSt.of h1 (itemsR_ne _ _ _ rfl)⟩
 | bad e q =>
  obtain ⟨he, k, hL⟩ := h
  refine (litems_bad hL (by omega)).mono ?_
  rintro x w' ⟨rfl, h1⟩
  exact ⟨_, rfl, ⟨he, k, hL.low h1⟩, .of h1, ⟨_, _, _, rfl⟩⟩
end Go.Proofs.YtieifhfgedoiaaaGreatDoor
/- A line of rules in the document's hand: wrong, plain and is from any state. Conditions: those of each theorem. -/
namespace Go.Proofs.YtieifhfgedoiaaaGreatDoor
open Go.RowKit Go.Lib
set_option linter.unusedVariables false
set_option linter.unusedSimpArgs false
theorem lis_st {w : World} {R : Nat} {s : ByteArray} {lv A : Value} {q0 : Int} {α : Type} {r : Res α} (h : LSt w R s lv A q0 r) (c : Nat) :
  Calls Tryz.prog 44 #[.pointer (some ⟨R, 0, none⟩), .int .u8 c] w fun x w' => x = .returned (.bool (match r with | .ok _ p => isB s p c | .bad _ _ => false)) ∧ Below w.heap.size w w' := by
 cases r with
 | ok u p =>
  obtain ⟨k, hk, hL⟩ := h
  exact lis_any hL hk c
 | bad e q =>
  obtain ⟨he, k, hL⟩ := h
  exact lis_bad hL (by omega) c
end Go.Proofs.YtieifhfgedoiaaaGreatDoor
