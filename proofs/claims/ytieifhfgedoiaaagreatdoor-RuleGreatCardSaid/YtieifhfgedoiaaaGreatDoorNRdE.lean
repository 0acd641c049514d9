/- The plain piece that stands at a reader's place. Conditions: those of each theorem. -/
import Derived.Test.YtieifhfgedoiaaaGreatDoorNRdD
namespace Go.Proofs.YtieifhfgedoiaaaGreatDoor
open Go.RowKit Go.Lib
set_option linter.unusedVariables false
set_option linter.unusedSimpArgs false
attribute [local go_sem] ExtS.cell ExtS.froz upE_value upE_skip upE_enter
set_option maxHeartbeats 2000000 in
theorem plain_out {w : World} {R : Nat} {s : ByteArray} {p : Nat} {e q : Int} (h : Rd w R s p e q) (hp : ¬ p < s.size) :
  Calls Tryz.prog 40 #[.pointer (some ⟨R, 0, none⟩)] w fun x w' => x = .returned (.tuple #[.agg #[.int .i32 0, .bool false, .int .u8 0], .int .i64 0]) ∧ Below w.heap.size w w' := by
 have hR := hid (fun w => at_out s p hp w)
 unfold pieceV at hR
 have hH := hid h
 have hlt := h.lt
 clear h
 go_enter Tryz.func40, Tryz.ntmps40
 go_wp2_with fail
 have hb0 : Below w.heap.size w (w.alloc (.cells #[.int .i32 0, .bool false, .int .u8 0] 110)) := (Below.refl w.heap.size w).alloc (Nat.le_refl _) _
 have k2 := hid (Blk.new w 110 #[.int .i32 0, .bool false, .int .u8 0])
 replace hH := hid (hH.out.low hb0)
 obtain ⟨B2, hB2⟩ : ∃ n, w.heap.size = n := ⟨_, rfl⟩
 rw [hB2] at k2 hlt
 generalize w.alloc (.cells #[.int .i32 0, .bool false, .int .u8 0] 110) = W0 at *
 have c0 := hH.out.c0
 have c1 := hH.out.c1
 have l2 := k2.out.lt
 refine region_plan [] (.quiet 0 (.quiet 1 (.quiet 2 (.quiet 3 (.quiet 4 (.quiet 5 (.quiet 6 (.quiet 7 (.quiet 8 (.quiet 9 (.quiet 10 (.quiet 11 (.one 12 (.one 13 (.quiet 14 .done))))))))))))))) (by kernel_rfl) (by kernel_rfl) ?_
 repeat (apply p_quiet; (case hi => rfl); intro K hK; go_simp; first | (refine ⟨hK _ ?_⟩; clear hK K) | (refine ⟨_, fun x => hR.out x.w, hK _ ?_⟩; clear hK K))
 -- alloc
 apply p_one
 case hi => rfl
 intro W1 hb1 K hK
 go_wp2_with fail
 refine hK _ _ (.of (hb1.alloc hb1.size _)) ?_
 clear hK K
 -- store
 apply p_one
 case hi => rfl
 intro W2 hb2 K hK
 have k4 := (Blk.new W1 96 _).low hb2
 have hbb : Below W0.heap.size W0 W2 := bnext (hb1.alloc hb1.size _) hb2
 have hs1 := hb1.size
 generalize W1.heap.size = B4 at *
 clear hb2 hb1 c0 c1
 obtain ⟨d0, d1, d2, d3, df⟩ := k4.c4
 have K4 := hid k4
 clear k4
 go_wp2_with fail
 refine hK _ _ (.of (below_put4 hbb hs1 _ _ _ _)) ?_
 clear hK K d0 d1 d2 d3 df
 have hb3 := below_put4 hbb hs1 (.int .i64 0) (.int .i64 0) (.int .i32 0) (.bool false)
 replace K4 := hid (K4.out.put4 (.int .i64 0) (.int .i64 0) (.int .i32 0) (.bool false))
 generalize (((W2.setCell ⟨B4, 0, none⟩ (.int .i64 0)).setCell ⟨B4, 1, none⟩ (.int .i64 0)).setCell ⟨B4, 2, none⟩ (.int .i32 0)).setCell ⟨B4, 3, none⟩ (.bool false) = W3 at *
 -- assign
 apply p_quiet
 case hi => rfl
 intro K hK
 go_simp
 refine ⟨hK _ ?_⟩
 clear hK K
 apply p_done
 intro W4 hb4
 have hb5 := bnext hb3 hb4
 replace K4 := hid (K4.out.low hb4)
 replace hH := hid (hH.out.low hb5)
 replace k2 := hid (k2.out.low hb5)
 replace hb0 := hid (hb0.trans (hb5.mono hb0.size))
 have l24 : Hid (B2 < B4) := by unfold Hid; omega
 clear hb3 hb4 hb5 hs1 l2 hbb
 obtain ⟨d0, d1, d2, d3, df⟩ := K4.out.c4
 obtain ⟨f0, f1, f2, ff⟩ := k2.out.c3
 go_wp2_with fail
 exact bodyPost_ret (v := .tuple #[.agg #[.int .i32 0, .bool false, .int .u8 0], .int .i64 0]) (by simp [results, Tryz.results40, go_sem, f0, f1, f2, ff]) rfl ⟨rfl, below_put3 (hB2 ▸ hb0.out) (Nat.le_of_eq hB2) _ _ _⟩
set_option maxHeartbeats 2000000 in
theorem plain_br {w : World} {R : Nat} {s : ByteArray} {p : Nat} {e q : Int} (h : Rd w R s p e q) (hp : p < s.size) (hs : s.size ≤ 140737488355328) (hbr : isBr s p = true) :
  Calls Tryz.prog 40 #[.pointer (some ⟨R, 0, none⟩)] w fun x w' => x = .returned (.tuple #[.agg #[.int .i32 0, .bool true, .int .u8 (s.get! p).toNat], .int .i64 1]) ∧ Below w.heap.size w w' := by
 have hR := hid (fun w => at_in s p hp hs w)
 rw [decV_eq, hbr] at hR
 have hrb := hid (rn_bd hp)
 have q1 := dT (show (p : Int) < s.size by omega)
 rw [get_eq s p hp]
 have hH := hid h
 have hlt := h.lt
 clear h
 go_enter Tryz.func40, Tryz.ntmps40
 go_wp2_with fail
 have hb0 : Below w.heap.size w (w.alloc (.cells #[.int .i32 0, .bool false, .int .u8 0] 110)) := (Below.refl w.heap.size w).alloc (Nat.le_refl _) _
 have k2 := hid (Blk.new w 110 #[.int .i32 0, .bool false, .int .u8 0])
 replace hH := hid (hH.out.low hb0)
 obtain ⟨B2, hB2⟩ : ∃ n, w.heap.size = n := ⟨_, rfl⟩
 rw [hB2] at k2 hlt
 generalize w.alloc (.cells #[.int .i32 0, .bool false, .int .u8 0] 110) = W0 at *
 have c0 := hH.out.c0
 have c1 := hH.out.c1
 have l2 := k2.out.lt
 refine region_plan [] (.quiet 0 (.quiet 1 (.quiet 2 (.quiet 3 (.quiet 4 (.quiet 5 (.quiet 6 (.quiet 7 (.quiet 8 (.quiet 9 (.quiet 10 (.quiet 11 (.one 12 (.one 13 (.quiet 14 .done))))))))))))))) (by kernel_rfl) (by kernel_rfl) ?_
 repeat (apply p_quiet; (case hi => rfl); intro K hK; go_simp; first | (refine ⟨hK _ ?_⟩; clear hK K) | (refine ⟨_, fun x => hR.out x.w, hK _ ?_⟩; clear hK K))
 -- alloc
 apply p_one
 case hi => rfl
 intro W1 hb1 K hK
 go_wp2_with fail
 refine hK _ _ (.of (hb1.alloc hb1.size _)) ?_
 clear hK K
 -- store
 apply p_one
 case hi => rfl
 intro W2 hb2 K hK
 have k4 := (Blk.new W1 96 _).low hb2
 have hbb : Below W0.heap.size W0 W2 := bnext (hb1.alloc hb1.size _) hb2
 have hs1 := hb1.size
 generalize W1.heap.size = B4 at *
 clear hb2 hb1 c0 c1
 obtain ⟨d0, d1, d2, d3, df⟩ := k4.c4
 have K4 := hid k4
 clear k4
 go_wp2_with fail
 refine hK _ _ (.of (below_put4 hbb hs1 _ _ _ _)) ?_
 clear hK K d0 d1 d2 d3 df
 have hb3 := below_put4 hbb hs1 (.int .i64 p) (.int .i64 (wdN s p)) (.int .i32 (rnN s p)) (.bool true)
 replace K4 := hid (K4.out.put4 (.int .i64 p) (.int .i64 (wdN s p)) (.int .i32 (rnN s p)) (.bool true))
 generalize (((W2.setCell ⟨B4, 0, none⟩ (.int .i64 p)).setCell ⟨B4, 1, none⟩ (.int .i64 (wdN s p))).setCell ⟨B4, 2, none⟩ (.int .i32 (rnN s p))).setCell ⟨B4, 3, none⟩ (.bool true) = W3 at *
 -- assign
 apply p_quiet
 case hi => rfl
 intro K hK
 go_simp
 refine ⟨hK _ ?_⟩
 clear hK K
 apply p_done
 intro W4 hb4
 have hb5 := bnext hb3 hb4
 replace K4 := hid (K4.out.low hb4)
 replace hH := hid (hH.out.low hb5)
 replace k2 := hid (k2.out.low hb5)
 replace hb0 := hid (hb0.trans (hb5.mono hb0.size))
 have l24 : Hid (B2 < B4) := by unfold Hid; omega
 clear hb3 hb4 hb5 hs1 l2 hbb
 obtain ⟨d0, d1, d2, d3, df⟩ := K4.out.c4
 obtain ⟨f0, f1, f2, ff⟩ := k2.out.c3
 clear hR
 go_wp2_with fail
 have c0 := hH.out.c0
 have c1 := hH.out.c1
 have nR : R ≠ B2 := by omega
 have n4 : B4 ≠ B2 := by have := l24.out; omega
 refine region_plan [B2] (.quiet 0 (.quiet 1 (.quiet 2 (.quiet 3 (.quiet 4 (.quiet 5 (.quiet 6 (.quiet 7 (.quiet 8 (.quiet 9 (.one 10 (.quiet 11 .done)))))))))))) (by kernel_rfl) (by kernel_rfl) ?_
 repeat (apply p_quiet; (case hi => rfl); intro K hK; go_simp; (refine ⟨hK _ ?_⟩; clear hK K))
 apply p_one
 case hi => rfl
 intro W5 hb5 K hK
 replace k2 := hid (k2.out.low hb5)
 replace hb0 := hid (bnextL hb0.out hb5)
 obtain ⟨f0, f1, f2, ff⟩ := k2.out.c3
 go_wp2_with fail
 refine hK _ _ ((ButS.of hb5).put3 (List.mem_singleton.2 rfl) _ _ _) ?_
 clear hK K f0 f1 f2 ff
 replace k2 := hid (k2.out.put3 (.int .i32 0) (.bool true) (.int .u8 (s[p]).toNat))
 replace hb0 := hid (below_put3 hb0.out (Nat.le_of_eq hB2) (.int .i32 0) (.bool true) (.int .u8 (s[p]).toNat))
 generalize ((W5.setCell ⟨B2, 0, none⟩ (.int .i32 0)).setCell ⟨B2, 1, none⟩ (.bool true)).setCell ⟨B2, 2, none⟩ (.int .u8 (s[p]).toNat) = W6 at *
 apply p_quiet
 case hi => rfl
 intro K hK
 go_simp
 refine ⟨hK _ ?_⟩
 clear hK K
 apply p_done
 intro W7 hb7
 obtain ⟨f0, f1, f2, ff⟩ := (k2.out.low hb7).c3
 have hb8 := bnextL hb0.out hb7
 go_wp2_with fail
 exact bodyPost_ret (v := .tuple #[.agg #[.int .i32 0, .bool true, .int .u8 (s[p]).toNat], .int .i64 1]) (by simp [results, Tryz.results40, go_sem, f0, f1, f2, ff]) rfl ⟨rfl, hb8⟩
set_option maxHeartbeats 2000000 in
theorem plain_y1 {w : World} {R : Nat} {s : ByteArray} {p : Nat} {e q : Int} (h : Rd w R s p e q) (hp : p < s.size) (hs : s.size ≤ 140737488355328) (hbr : isBr s p = false) (hk : kindI (rnN s p) = 1) (hl : lowI (rnN s p) = rnN s p) :
  Calls Tryz.prog 40 #[.pointer (some ⟨R, 0, none⟩)] w fun x w' => x = .returned (.tuple #[.agg #[.int .i32 (rnN s p), .bool false, .int .u8 0], .int .i64 (wdN s p)]) ∧ Below w.heap.size w w' := by
 have hR := hid (fun w => at_in s p hp hs w)
 rw [decV_eq, hbr] at hR
 have hrb := hid (rn_bd hp)
 have hK81 := hid (fun w => kind81 (rnN s p) (by omega) (by have := hrb.out; omega) w)
 have hL54 := hid (fun w => lower54 (rnN s p) (by omega) (by have := hrb.out; omega) w)
 rw [hk] at hK81
 rw [hl] at hL54
 clear hk hl
 have hH := hid h
 have hlt := h.lt
 clear h
 go_enter Tryz.func40, Tryz.ntmps40
 go_wp2_with fail
 have hb0 : Below w.heap.size w (w.alloc (.cells #[.int .i32 0, .bool false, .int .u8 0] 110)) := (Below.refl w.heap.size w).alloc (Nat.le_refl _) _
 have k2 := hid (Blk.new w 110 #[.int .i32 0, .bool false, .int .u8 0])
 replace hH := hid (hH.out.low hb0)
 obtain ⟨B2, hB2⟩ : ∃ n, w.heap.size = n := ⟨_, rfl⟩
 rw [hB2] at k2 hlt
 generalize w.alloc (.cells #[.int .i32 0, .bool false, .int .u8 0] 110) = W0 at *
 have c0 := hH.out.c0
 have c1 := hH.out.c1
 have l2 := k2.out.lt
 refine region_plan [] (.quiet 0 (.quiet 1 (.quiet 2 (.quiet 3 (.quiet 4 (.quiet 5 (.quiet 6 (.quiet 7 (.quiet 8 (.quiet 9 (.quiet 10 (.quiet 11 (.one 12 (.one 13 (.quiet 14 .done))))))))))))))) (by kernel_rfl) (by kernel_rfl) ?_
 repeat (apply p_quiet; (case hi => rfl); intro K hK; go_simp; first | (refine ⟨hK _ ?_⟩; clear hK K) | (refine ⟨_, fun x => hR.out x.w, hK _ ?_⟩; clear hK K))
 -- alloc
 apply p_one
 case hi => rfl
 intro W1 hb1 K hK
 go_wp2_with fail
 refine hK _ _ (.of (hb1.alloc hb1.size _)) ?_
 clear hK K
 -- store
 apply p_one
 case hi => rfl
 intro W2 hb2 K hK
 have k4 := (Blk.new W1 96 _).low hb2
 have hbb : Below W0.heap.size W0 W2 := bnext (hb1.alloc hb1.size _) hb2
 have hs1 := hb1.size
 generalize W1.heap.size = B4 at *
 clear hb2 hb1 c0 c1
 obtain ⟨d0, d1, d2, d3, df⟩ := k4.c4
 have K4 := hid k4
 clear k4
 go_wp2_with fail
 refine hK _ _ (.of (below_put4 hbb hs1 _ _ _ _)) ?_
 clear hK K d0 d1 d2 d3 df
 have hb3 := below_put4 hbb hs1 (.int .i64 p) (.int .i64 (wdN s p)) (.int .i32 (rnN s p)) (.bool false)
 replace K4 := hid (K4.out.put4 (.int .i64 p) (.int .i64 (wdN s p)) (.int .i32 (rnN s p)) (.bool false))
 generalize (((W2.setCell ⟨B4, 0, none⟩ (.int .i64 p)).setCell ⟨B4, 1, none⟩ (.int .i64 (wdN s p))).setCell ⟨B4, 2, none⟩ (.int .i32 (rnN s p))).setCell ⟨B4, 3, none⟩ (.bool false) = W3 at *
 -- assign
 apply p_quiet
 case hi => rfl
 intro K hK
 go_simp
 refine ⟨hK _ ?_⟩
 clear hK K
 apply p_done
 intro W4 hb4
 have hb5 := bnext hb3 hb4
 replace K4 := hid (K4.out.low hb4)
 replace hH := hid (hH.out.low hb5)
 replace k2 := hid (k2.out.low hb5)
 replace hb0 := hid (hb0.trans (hb5.mono hb0.size))
 have l24 : Hid (B2 < B4) := by unfold Hid; omega
 clear hb3 hb4 hb5 hs1 l2 hbb
 obtain ⟨d0, d1, d2, d3, df⟩ := K4.out.c4
 obtain ⟨f0, f1, f2, ff⟩ := k2.out.c3
 clear hR
 go_wp2_with (go_at_call 51; (with_reducible refine Calls.mono (hK81.out _) ?_); rintro e w' ⟨rfl, rfl⟩)
 refine region_plan [] (.quiet 0 (.quiet 1 (.quiet 2 (.quiet 3 (.quiet 4 (.quiet 5 .done)))))) (by kernel_rfl) (by kernel_rfl) ?_
 repeat (apply p_quiet; (case hi => rfl); intro K hK; go_simp; first | (refine ⟨hK _ ?_⟩; clear hK K) | (refine ⟨_, fun x => (hL54.out x.w).mono fun e w' h => ⟨h.1, h.2 ▸ Below.refl _ _⟩, hK _ ?_⟩; clear hK K))
 apply p_done
 intro W5 hb5
 replace K4 := hid (K4.out.low hb5)
 replace k2 := hid (k2.out.low hb5)
 replace hb0 := hid (bnextL hb0.out hb5)
 clear d0 d1 d2 d3 df f0 f1 f2 ff
 obtain ⟨d0, d1, d2, d3, df⟩ := K4.out.c4
 obtain ⟨f0, f1, f2, ff⟩ := k2.out.c3
 go_wp2_with fail
 have n4 : B4 ≠ B2 := by have := l24.out; omega
 refine region_plan [B2] (.quiet 0 (.quiet 1 (.quiet 2 (.quiet 3 (.quiet 4 (.one 5 (.quiet 6 .done))))))) (by kernel_rfl) (by kernel_rfl) ?_
 repeat (apply p_quiet; (case hi => rfl); intro K hK; go_simp; (refine ⟨hK _ ?_⟩; clear hK K))
 apply p_one
 case hi => rfl
 intro W8 hb9 K hK
 replace k2 := hid (k2.out.low hb9)
 replace hb0 := hid (bnextL hb0.out hb9)
 obtain ⟨f0, f1, f2, ff⟩ := k2.out.c3
 go_wp2_with fail
 refine hK _ _ ((ButS.of hb9).put3 (List.mem_singleton.2 rfl) _ _ _) ?_
 clear hK K f0 f1 f2 ff
 replace k2 := hid (k2.out.put3 (.int .i32 (rnN s p)) (.bool false) (.int .u8 0))
 replace hb0 := hid (below_put3 hb0.out (Nat.le_of_eq hB2) (.int .i32 (rnN s p)) (.bool false) (.int .u8 0))
 generalize ((W8.setCell ⟨B2, 0, none⟩ (.int .i32 (rnN s p))).setCell ⟨B2, 1, none⟩ (.bool false)).setCell ⟨B2, 2, none⟩ (.int .u8 0) = W6 at *
 apply p_quiet
 case hi => rfl
 intro K hK
 go_simp
 refine ⟨hK _ ?_⟩
 clear hK K
 apply p_done
 intro W7 hb7
 obtain ⟨f0, f1, f2, ff⟩ := (k2.out.low hb7).c3
 have hb8 := bnextL hb0.out hb7
 go_wp2_with fail
 exact bodyPost_ret (v := .tuple #[.agg #[.int .i32 (rnN s p), .bool false, .int .u8 0], .int .i64 (wdN s p)]) (by simp [results, Tryz.results40, go_sem, f0, f1, f2, ff]) rfl ⟨rfl, hb8⟩
set_option maxHeartbeats 2000000 in
theorem plain_n1 {w : World} {R : Nat} {s : ByteArray} {p : Nat} {e q : Int} (h : Rd w R s p e q) (hp : p < s.size) (hs : s.size ≤ 140737488355328) (hbr : isBr s p = false) (hk : kindI (rnN s p) = 1) (hl : lowI (rnN s p) ≠ rnN s p) :
  Calls Tryz.prog 40 #[.pointer (some ⟨R, 0, none⟩)] w fun x w' => x = .returned (.tuple #[.agg #[.int .i32 0, .bool false, .int .u8 0], .int .i64 0]) ∧ Below w.heap.size w w' := by
 have hR := hid (fun w => at_in s p hp hs w)
 rw [decV_eq, hbr] at hR
 have hrb := hid (rn_bd hp)
 have hK81 := hid (fun w => kind81 (rnN s p) (by omega) (by have := hrb.out; omega) w)
 have hL54 := hid (fun w => lower54 (rnN s p) (by omega) (by have := hrb.out; omega) w)
 rw [hk] at hK81
 have ql : (lowI (rnN s p) == (rnN s p : Int)) = false := beq_false_of hl
 clear hk hl
 have hH := hid h
 have hlt := h.lt
 clear h
 go_enter Tryz.func40, Tryz.ntmps40
 go_wp2_with fail
 have hb0 : Below w.heap.size w (w.alloc (.cells #[.int .i32 0, .bool false, .int .u8 0] 110)) := (Below.refl w.heap.size w).alloc (Nat.le_refl _) _
 have k2 := hid (Blk.new w 110 #[.int .i32 0, .bool false, .int .u8 0])
 replace hH := hid (hH.out.low hb0)
 obtain ⟨B2, hB2⟩ : ∃ n, w.heap.size = n := ⟨_, rfl⟩
 rw [hB2] at k2 hlt
 generalize w.alloc (.cells #[.int .i32 0, .bool false, .int .u8 0] 110) = W0 at *
 have c0 := hH.out.c0
 have c1 := hH.out.c1
 have l2 := k2.out.lt
 refine region_plan [] (.quiet 0 (.quiet 1 (.quiet 2 (.quiet 3 (.quiet 4 (.quiet 5 (.quiet 6 (.quiet 7 (.quiet 8 (.quiet 9 (.quiet 10 (.quiet 11 (.one 12 (.one 13 (.quiet 14 .done))))))))))))))) (by kernel_rfl) (by kernel_rfl) ?_
 repeat (apply p_quiet; (case hi => rfl); intro K hK; go_simp; first | (refine ⟨hK _ ?_⟩; clear hK K) | (refine ⟨_, fun x => hR.out x.w, hK _ ?_⟩; clear hK K))
 -- alloc
 apply p_one
 case hi => rfl
 intro W1 hb1 K hK
 go_wp2_with fail
 refine hK _ _ (.of (hb1.alloc hb1.size _)) ?_
 clear hK K
 -- store
 apply p_one
 case hi => rfl
 intro W2 hb2 K hK
 have k4 := (Blk.new W1 96 _).low hb2
 have hbb : Below W0.heap.size W0 W2 := bnext (hb1.alloc hb1.size _) hb2
 have hs1 := hb1.size
 generalize W1.heap.size = B4 at *
 clear hb2 hb1 c0 c1
 obtain ⟨d0, d1, d2, d3, df⟩ := k4.c4
 have K4 := hid k4
 clear k4
 go_wp2_with fail
 refine hK _ _ (.of (below_put4 hbb hs1 _ _ _ _)) ?_
 clear hK K d0 d1 d2 d3 df
 have hb3 := below_put4 hbb hs1 (.int .i64 p) (.int .i64 (wdN s p)) (.int .i32 (rnN s p)) (.bool false)
 replace K4 := hid (K4.out.put4 (.int .i64 p) (.int .i64 (wdN s p)) (.int .i32 (rnN s p)) (.bool false))
 generalize (((W2.setCell ⟨B4, 0, none⟩ (.int .i64 p)).setCell ⟨B4, 1, none⟩ (.int .i64 (wdN s p))).setCell ⟨B4, 2, none⟩ (.int .i32 (rnN s p))).setCell ⟨B4, 3, none⟩ (.bool false) = W3 at *
 -- assign
 apply p_quiet
 case hi => rfl
 intro K hK
 go_simp
 refine ⟨hK _ ?_⟩
 clear hK K
 apply p_done
 intro W4 hb4
 have hb5 := bnext hb3 hb4
 replace K4 := hid (K4.out.low hb4)
 replace hH := hid (hH.out.low hb5)
 replace k2 := hid (k2.out.low hb5)
 replace hb0 := hid (hb0.trans (hb5.mono hb0.size))
 have l24 : Hid (B2 < B4) := by unfold Hid; omega
 clear hb3 hb4 hb5 hs1 l2 hbb
 obtain ⟨d0, d1, d2, d3, df⟩ := K4.out.c4
 obtain ⟨f0, f1, f2, ff⟩ := k2.out.c3
 clear hR
 go_wp2_with (go_at_call 51; (with_reducible refine Calls.mono (hK81.out _) ?_); rintro e w' ⟨rfl, rfl⟩)
 refine region_plan [] (.quiet 0 (.quiet 1 (.quiet 2 (.quiet 3 (.quiet 4 (.quiet 5 .done)))))) (by kernel_rfl) (by kernel_rfl) ?_
 repeat (apply p_quiet; (case hi => rfl); intro K hK; go_simp; first | (refine ⟨hK _ ?_⟩; clear hK K) | (refine ⟨_, fun x => (hL54.out x.w).mono fun e w' h => ⟨h.1, h.2 ▸ Below.refl _ _⟩, hK _ ?_⟩; clear hK K))
 apply p_done
 intro W5 hb5
 replace K4 := hid (K4.out.low hb5)
 replace k2 := hid (k2.out.low hb5)
 replace hb0 := hid (bnextL hb0.out hb5)
 clear d0 d1 d2 d3 df f0 f1 f2 ff
 obtain ⟨d0, d1, d2, d3, df⟩ := K4.out.c4
 obtain ⟨f0, f1, f2, ff⟩ := k2.out.c3
 go_wp2_with fail
 exact bodyPost_ret (v := .tuple #[.agg #[.int .i32 0, .bool false, .int .u8 0], .int .i64 0]) (by simp [results, Tryz.results40, go_sem, f0, f1, f2, ff]) rfl ⟨rfl, below_put3 (hB2 ▸ hb0.out) (Nat.le_of_eq hB2) _ _ _⟩
set_option maxHeartbeats 2000000 in
theorem plain_y2 {w : World} {R : Nat} {s : ByteArray} {p : Nat} {e q : Int} (h : Rd w R s p e q) (hp : p < s.size) (hs : s.size ≤ 140737488355328) (hbr : isBr s p = false) (hk : kindI (rnN s p) = 2) (hl : lowI (rnN s p) = rnN s p) :
  Calls Tryz.prog 40 #[.pointer (some ⟨R, 0, none⟩)] w fun x w' => x = .returned (.tuple #[.agg #[.int .i32 (rnN s p), .bool false, .int .u8 0], .int .i64 (wdN s p)]) ∧ Below w.heap.size w w' := by
 have hR := hid (fun w => at_in s p hp hs w)
 rw [decV_eq, hbr] at hR
 have hrb := hid (rn_bd hp)
 have hK81 := hid (fun w => kind81 (rnN s p) (by omega) (by have := hrb.out; omega) w)
 have hL54 := hid (fun w => lower54 (rnN s p) (by omega) (by have := hrb.out; omega) w)
 rw [hk] at hK81
 rw [hl] at hL54
 clear hk hl
 have hH := hid h
 have hlt := h.lt
 clear h
 go_enter Tryz.func40, Tryz.ntmps40
 go_wp2_with fail
 have hb0 : Below w.heap.size w (w.alloc (.cells #[.int .i32 0, .bool false, .int .u8 0] 110)) := (Below.refl w.heap.size w).alloc (Nat.le_refl _) _
 have k2 := hid (Blk.new w 110 #[.int .i32 0, .bool false, .int .u8 0])
 replace hH := hid (hH.out.low hb0)
 obtain ⟨B2, hB2⟩ : ∃ n, w.heap.size = n := ⟨_, rfl⟩
 rw [hB2] at k2 hlt
 generalize w.alloc (.cells #[.int .i32 0, .bool false, .int .u8 0] 110) = W0 at *
 have c0 := hH.out.c0
 have c1 := hH.out.c1
 have l2 := k2.out.lt
 refine region_plan [] (.quiet 0 (.quiet 1 (.quiet 2 (.quiet 3 (.quiet 4 (.quiet 5 (.quiet 6 (.quiet 7 (.quiet 8 (.quiet 9 (.quiet 10 (.quiet 11 (.one 12 (.one 13 (.quiet 14 .done))))))))))))))) (by kernel_rfl) (by kernel_rfl) ?_
 repeat (apply p_quiet; (case hi => rfl); intro K hK; go_simp; first | (refine ⟨hK _ ?_⟩; clear hK K) | (refine ⟨_, fun x => hR.out x.w, hK _ ?_⟩; clear hK K))
 -- alloc
 apply p_one
 case hi => rfl
 intro W1 hb1 K hK
 go_wp2_with fail
 refine hK _ _ (.of (hb1.alloc hb1.size _)) ?_
 clear hK K
 -- store
 apply p_one
 case hi => rfl
 intro W2 hb2 K hK
 have k4 := (Blk.new W1 96 _).low hb2
 have hbb : Below W0.heap.size W0 W2 := bnext (hb1.alloc hb1.size _) hb2
 have hs1 := hb1.size
 generalize W1.heap.size = B4 at *
 clear hb2 hb1 c0 c1
 obtain ⟨d0, d1, d2, d3, df⟩ := k4.c4
 have K4 := hid k4
 clear k4
 go_wp2_with fail
 refine hK _ _ (.of (below_put4 hbb hs1 _ _ _ _)) ?_
 clear hK K d0 d1 d2 d3 df
 have hb3 := below_put4 hbb hs1 (.int .i64 p) (.int .i64 (wdN s p)) (.int .i32 (rnN s p)) (.bool false)
 replace K4 := hid (K4.out.put4 (.int .i64 p) (.int .i64 (wdN s p)) (.int .i32 (rnN s p)) (.bool false))
 generalize (((W2.setCell ⟨B4, 0, none⟩ (.int .i64 p)).setCell ⟨B4, 1, none⟩ (.int .i64 (wdN s p))).setCell ⟨B4, 2, none⟩ (.int .i32 (rnN s p))).setCell ⟨B4, 3, none⟩ (.bool false) = W3 at *
 -- assign
 apply p_quiet
 case hi => rfl
 intro K hK
 go_simp
 refine ⟨hK _ ?_⟩
 clear hK K
 apply p_done
 intro W4 hb4
 have hb5 := bnext hb3 hb4
 replace K4 := hid (K4.out.low hb4)
 replace hH := hid (hH.out.low hb5)
 replace k2 := hid (k2.out.low hb5)
 replace hb0 := hid (hb0.trans (hb5.mono hb0.size))
 have l24 : Hid (B2 < B4) := by unfold Hid; omega
 clear hb3 hb4 hb5 hs1 l2 hbb
 obtain ⟨d0, d1, d2, d3, df⟩ := K4.out.c4
 obtain ⟨f0, f1, f2, ff⟩ := k2.out.c3
 clear hR
 go_wp2_with (go_at_call 51; (with_reducible refine Calls.mono (hK81.out _) ?_); rintro e w' ⟨rfl, rfl⟩)
 refine region_plan [] (.quiet 0 (.quiet 1 (.quiet 2 (.quiet 3 (.quiet 4 (.quiet 5 .done)))))) (by kernel_rfl) (by kernel_rfl) ?_
 repeat (apply p_quiet; (case hi => rfl); intro K hK; go_simp; first | (refine ⟨hK _ ?_⟩; clear hK K) | (refine ⟨_, fun x => (hL54.out x.w).mono fun e w' h => ⟨h.1, h.2 ▸ Below.refl _ _⟩, hK _ ?_⟩; clear hK K))
 apply p_done
 intro W5 hb5
 replace K4 := hid (K4.out.low hb5)
 replace k2 := hid (k2.out.low hb5)
 replace hb0 := hid (bnextL hb0.out hb5)
 clear d0 d1 d2 d3 df f0 f1 f2 ff
 obtain ⟨d0, d1, d2, d3, df⟩ := K4.out.c4
 obtain ⟨f0, f1, f2, ff⟩ := k2.out.c3
 go_wp2_with fail
 have n4 : B4 ≠ B2 := by have := l24.out; omega
 refine region_plan [B2] (.quiet 0 (.quiet 1 (.quiet 2 (.quiet 3 (.quiet 4 (.one 5 (.quiet 6 .done))))))) (by kernel_rfl) (by kernel_rfl) ?_
 repeat (apply p_quiet; (case hi => rfl); intro K hK; go_simp; (refine ⟨hK _ ?_⟩; clear hK K))
 apply p_one
 case hi => rfl
 intro W8 hb9 K hK
 replace k2 := hid (k2.out.low hb9)
 replace hb0 := hid (bnextL hb0.out hb9)
 obtain ⟨f0, f1, f2, ff⟩ := k2.out.c3
 go_wp2_with fail
 refine hK _ _ ((ButS.of hb9).put3 (List.mem_singleton.2 rfl) _ _ _) ?_
 clear hK K f0 f1 f2 ff
 replace k2 := hid (k2.out.put3 (.int .i32 (rnN s p)) (.bool false) (.int .u8 0))
 replace hb0 := hid (below_put3 hb0.out (Nat.le_of_eq hB2) (.int .i32 (rnN s p)) (.bool false) (.int .u8 0))
 generalize ((W8.setCell ⟨B2, 0, none⟩ (.int .i32 (rnN s p))).setCell ⟨B2, 1, none⟩ (.bool false)).setCell ⟨B2, 2, none⟩ (.int .u8 0) = W6 at *
 apply p_quiet
 case hi => rfl
 intro K hK
 go_simp
 refine ⟨hK _ ?_⟩
 clear hK K
 apply p_done
 intro W7 hb7
 obtain ⟨f0, f1, f2, ff⟩ := (k2.out.low hb7).c3
 have hb8 := bnextL hb0.out hb7
 go_wp2_with fail
 exact bodyPost_ret (v := .tuple #[.agg #[.int .i32 (rnN s p), .bool false, .int .u8 0], .int .i64 (wdN s p)]) (by simp [results, Tryz.results40, go_sem, f0, f1, f2, ff]) rfl ⟨rfl, hb8⟩
set_option maxHeartbeats 2000000 in
theorem plain_n2 {w : World} {R : Nat} {s : ByteArray} {p : Nat} {e q : Int} (h : Rd w R s p e q) (hp : p < s.size) (hs : s.size ≤ 140737488355328) (hbr : isBr s p = false) (hk : kindI (rnN s p) = 2) (hl : lowI (rnN s p) ≠ rnN s p) :
  Calls Tryz.prog 40 #[.pointer (some ⟨R, 0, none⟩)] w fun x w' => x = .returned (.tuple #[.agg #[.int .i32 0, .bool false, .int .u8 0], .int .i64 0]) ∧ Below w.heap.size w w' := by
 have hR := hid (fun w => at_in s p hp hs w)
 rw [decV_eq, hbr] at hR
 have hrb := hid (rn_bd hp)
 have hK81 := hid (fun w => kind81 (rnN s p) (by omega) (by have := hrb.out; omega) w)
 have hL54 := hid (fun w => lower54 (rnN s p) (by omega) (by have := hrb.out; omega) w)
 rw [hk] at hK81
 have ql : (lowI (rnN s p) == (rnN s p : Int)) = false := beq_false_of hl
 clear hk hl
 have hH := hid h
 have hlt := h.lt
 clear h
 go_enter Tryz.func40, Tryz.ntmps40
 go_wp2_with fail
 have hb0 : Below w.heap.size w (w.alloc (.cells #[.int .i32 0, .bool false, .int .u8 0] 110)) := (Below.refl w.heap.size w).alloc (Nat.le_refl _) _
 have k2 := hid (Blk.new w 110 #[.int .i32 0, .bool false, .int .u8 0])
 replace hH := hid (hH.out.low hb0)
 obtain ⟨B2, hB2⟩ : ∃ n, w.heap.size = n := ⟨_, rfl⟩
 rw [hB2] at k2 hlt
 generalize w.alloc (.cells #[.int .i32 0, .bool false, .int .u8 0] 110) = W0 at *
 have c0 := hH.out.c0
 have c1 := hH.out.c1
 have l2 := k2.out.lt
 refine region_plan [] (.quiet 0 (.quiet 1 (.quiet 2 (.quiet 3 (.quiet 4 (.quiet 5 (.quiet 6 (.quiet 7 (.quiet 8 (.quiet 9 (.quiet 10 (.quiet 11 (.one 12 (.one 13 (.quiet 14 .done))))))))))))))) (by kernel_rfl) (by kernel_rfl) ?_
 repeat (apply p_quiet; (case hi => rfl); intro K hK; go_simp; first | (refine ⟨hK _ ?_⟩; clear hK K) | (refine ⟨_, fun x => hR.out x.w, hK _ ?_⟩; clear hK K))
 -- alloc
 apply p_one
 case hi => rfl
 intro W1 hb1 K hK
 go_wp2_with fail
 refine hK _ _ (.of (hb1.alloc hb1.size _)) ?_
 clear hK K
 -- store
 apply p_one
 case hi => rfl
 intro W2 hb2 K hK
 have k4 := (Blk.new W1 96 _).low hb2
 have hbb : Below W0.heap.size W0 W2 := bnext (hb1.alloc hb1.size _) hb2
 have hs1 := hb1.size
 generalize W1.heap.size = B4 at *
 clear hb2 hb1 c0 c1
 obtain ⟨d0, d1, d2, d3, df⟩ := k4.c4
 have K4 := hid k4
 clear k4
 go_wp2_with fail
 refine hK _ _ (.of (below_put4 hbb hs1 _ _ _ _)) ?_
 clear hK K d0 d1 d2 d3 df
 have hb3 := below_put4 hbb hs1 (.int .i64 p) (.int .i64 (wdN s p)) (.int .i32 (rnN s p)) (.bool false)
 replace K4 := hid (K4.out.put4 (.int .i64 p) (.int .i64 (wdN s p)) (.int .i32 (rnN s p)) (.bool false))
 generalize (((W2.setCell ⟨B4, 0, none⟩ (.int .i64 p)).setCell ⟨B4, 1, none⟩ (.int .i64 (wdN s p))).setCell ⟨B4, 2, none⟩ (.int .i32 (rnN s p))).setCell ⟨B4, 3, none⟩ (.bool false) = W3 at *
 -- assign
 apply p_quiet
 case hi => rfl
 intro K hK
 go_simp
 refine ⟨hK _ ?_⟩
 clear hK K
 apply p_done
 intro W4 hb4
 have hb5 := bnext hb3 hb4
 replace K4 := hid (K4.out.low hb4)
 replace hH := hid (hH.out.low hb5)
 replace k2 := hid (k2.out.low hb5)
 replace hb0 := hid (hb0.trans (hb5.mono hb0.size))
 have l24 : Hid (B2 < B4) := by unfold Hid; omega
 clear hb3 hb4 hb5 hs1 l2 hbb
 obtain ⟨d0, d1, d2, d3, df⟩ := K4.out.c4
 obtain ⟨f0, f1, f2, ff⟩ := k2.out.c3
 clear hR
 go_wp2_with (go_at_call 51; (with_reducible refine Calls.mono (hK81.out _) ?_); rintro e w' ⟨rfl, rfl⟩)
 refine region_plan [] (.quiet 0 (.quiet 1 (.quiet 2 (.quiet 3 (.quiet 4 (.quiet 5 .done)))))) (by kernel_rfl) (by kernel_rfl) ?_
 repeat (apply p_quiet; (case hi => rfl); intro K hK; go_simp; first | (refine ⟨hK _ ?_⟩; clear hK K) | (refine ⟨_, fun x => (hL54.out x.w).mono fun e w' h => ⟨h.1, h.2 ▸ Below.refl _ _⟩, hK _ ?_⟩; clear hK K))
 apply p_done
 intro W5 hb5
 replace K4 := hid (K4.out.low hb5)
 replace k2 := hid (k2.out.low hb5)
 replace hb0 := hid (bnextL hb0.out hb5)
 clear d0 d1 d2 d3 df f0 f1 f2 ff
 obtain ⟨d0, d1, d2, d3, df⟩ := K4.out.c4
 obtain ⟨f0, f1, f2, ff⟩ := k2.out.c3
 go_wp2_with fail
 exact bodyPost_ret (v := .tuple #[.agg #[.int .i32 0, .bool false, .int .u8 0], .int .i64 0]) (by simp [results, Tryz.results40, go_sem, f0, f1, f2, ff]) rfl ⟨rfl, below_put3 (hB2 ▸ hb0.out) (Nat.le_of_eq hB2) _ _ _⟩
set_option maxHeartbeats 2000000 in
theorem plain_y3 {w : World} {R : Nat} {s : ByteArray} {p : Nat} {e q : Int} (h : Rd w R s p e q) (hp : p < s.size) (hs : s.size ≤ 140737488355328) (hbr : isBr s p = false) (hk : kindI (rnN s p) = 3) (hl : lowI (rnN s p) = rnN s p) :
  Calls Tryz.prog 40 #[.pointer (some ⟨R, 0, none⟩)] w fun x w' => x = .returned (.tuple #[.agg #[.int .i32 (rnN s p), .bool false, .int .u8 0], .int .i64 (wdN s p)]) ∧ Below w.heap.size w w' := by
 have hR := hid (fun w => at_in s p hp hs w)
 rw [decV_eq, hbr] at hR
 have hrb := hid (rn_bd hp)
 have hK81 := hid (fun w => kind81 (rnN s p) (by omega) (by have := hrb.out; omega) w)
 have hL54 := hid (fun w => lower54 (rnN s p) (by omega) (by have := hrb.out; omega) w)
 rw [hk] at hK81
 rw [hl] at hL54
 clear hk hl
 have hH := hid h
 have hlt := h.lt
 clear h
 go_enter Tryz.func40, Tryz.ntmps40
 go_wp2_with fail
 have hb0 : Below w.heap.size w (w.alloc (.cells #[.int .i32 0, .bool false, .int .u8 0] 110)) := (Below.refl w.heap.size w).alloc (Nat.le_refl _) _
 have k2 := hid (Blk.new w 110 #[.int .i32 0, .bool false, .int .u8 0])
 replace hH := hid (hH.out.low hb0)
 obtain ⟨B2, hB2⟩ : ∃ n, w.heap.size = n := ⟨_, rfl⟩
 rw [hB2] at k2 hlt
 generalize w.alloc (.cells #[.int .i32 0, .bool false, .int .u8 0] 110) = W0 at *
 have c0 := hH.out.c0
 have c1 := hH.out.c1
 have l2 := k2.out.lt
 refine region_plan [] (.quiet 0 (.quiet 1 (.quiet 2 (.quiet 3 (.quiet 4 (.quiet 5 (.quiet 6 (.quiet 7 (.quiet 8 (.quiet 9 (.quiet 10 (.quiet 11 (.one 12 (.one 13 (.quiet 14 .done))))))))))))))) (by kernel_rfl) (by kernel_rfl) ?_
 repeat (apply p_quiet; (case hi => rfl); intro K hK; go_simp; first | (refine ⟨hK _ ?_⟩; clear hK K) | (refine ⟨_, fun x => hR.out x.w, hK _ ?_⟩; clear hK K))
 -- alloc
 apply p_one
 case hi => rfl
 intro W1 hb1 K hK
 go_wp2_with fail
 refine hK _ _ (.of (hb1.alloc hb1.size _)) ?_
 clear hK K
 -- store
 apply p_one
 case hi => rfl
 intro W2 hb2 K hK
 have k4 := (Blk.new W1 96 _).low hb2
 have hbb : Below W0.heap.size W0 W2 := bnext (hb1.alloc hb1.size _) hb2
 have hs1 := hb1.size
 generalize W1.heap.size = B4 at *
 clear hb2 hb1 c0 c1
 obtain ⟨d0, d1, d2, d3, df⟩ := k4.c4
 have K4 := hid k4
 clear k4
 go_wp2_with fail
 refine hK _ _ (.of (below_put4 hbb hs1 _ _ _ _)) ?_
 clear hK K d0 d1 d2 d3 df
 have hb3 := below_put4 hbb hs1 (.int .i64 p) (.int .i64 (wdN s p)) (.int .i32 (rnN s p)) (.bool false)
 replace K4 := hid (K4.out.put4 (.int .i64 p) (.int .i64 (wdN s p)) (.int .i32 (rnN s p)) (.bool false))
 generalize (((W2.setCell ⟨B4, 0, none⟩ (.int .i64 p)).setCell ⟨B4, 1, none⟩ (.int .i64 (wdN s p))).setCell ⟨B4, 2, none⟩ (.int .i32 (rnN s p))).setCell ⟨B4, 3, none⟩ (.bool false) = W3 at *
 -- assign
 apply p_quiet
 case hi => rfl
 intro K hK
 go_simp
 refine ⟨hK _ ?_⟩
 clear hK K
 apply p_done
 intro W4 hb4
 have hb5 := bnext hb3 hb4
 replace K4 := hid (K4.out.low hb4)
 replace hH := hid (hH.out.low hb5)
 replace k2 := hid (k2.out.low hb5)
 replace hb0 := hid (hb0.trans (hb5.mono hb0.size))
 have l24 : Hid (B2 < B4) := by unfold Hid; omega
 clear hb3 hb4 hb5 hs1 l2 hbb
 obtain ⟨d0, d1, d2, d3, df⟩ := K4.out.c4
 obtain ⟨f0, f1, f2, ff⟩ := k2.out.c3
 clear hR
 go_wp2_with (go_at_call 51; (with_reducible refine Calls.mono (hK81.out _) ?_); rintro e w' ⟨rfl, rfl⟩)
 refine region_plan [] (.quiet 0 (.quiet 1 (.quiet 2 (.quiet 3 (.quiet 4 (.quiet 5 .done)))))) (by kernel_rfl) (by kernel_rfl) ?_
 repeat (apply p_quiet; (case hi => rfl); intro K hK; go_simp; first | (refine ⟨hK _ ?_⟩; clear hK K) | (refine ⟨_, fun x => (hL54.out x.w).mono fun e w' h => ⟨h.1, h.2 ▸ Below.refl _ _⟩, hK _ ?_⟩; clear hK K))
 apply p_done
 intro W5 hb5
 replace K4 := hid (K4.out.low hb5)
 replace k2 := hid (k2.out.low hb5)
 replace hb0 := hid (bnextL hb0.out hb5)
 clear d0 d1 d2 d3 df f0 f1 f2 ff
 obtain ⟨d0, d1, d2, d3, df⟩ := K4.out.c4
 obtain ⟨f0, f1, f2, ff⟩ := k2.out.c3
 go_wp2_with fail
 have n4 : B4 ≠ B2 := by have := l24.out; omega
 refine region_plan [B2] (.quiet 0 (.quiet 1 (.quiet 2 (.quiet 3 (.quiet 4 (.one 5 (.quiet 6 .done))))))) (by kernel_rfl) (by kernel_rfl) ?_
 repeat (apply p_quiet; (case hi => rfl); intro K hK; go_simp; (refine ⟨hK _ ?_⟩; clear hK K))
 apply p_one
 case hi => rfl
 intro W8 hb9 K hK
 replace k2 := hid (k2.out.low hb9)
 replace hb0 := hid (bnextL hb0.out hb9)
 obtain ⟨f0, f1, f2, ff⟩ := k2.out.c3
 go_wp2_with fail
 refine hK _ _ ((ButS.of hb9).put3 (List.mem_singleton.2 rfl) _ _ _) ?_
 clear hK K f0 f1 f2 ff
 replace k2 := hid (k2.out.put3 (.int .i32 (rnN s p)) (.bool false) (.int .u8 0))
 replace hb0 := hid (below_put3 hb0.out (Nat.le_of_eq hB2) (.int .i32 (rnN s p)) (.bool false) (.int .u8 0))
 generalize ((W8.setCell ⟨B2, 0, none⟩ (.int .i32 (rnN s p))).setCell ⟨B2, 1, none⟩ (.bool false)).setCell ⟨B2, 2, none⟩ (.int .u8 0) = W6 at *
 apply p_quiet
 case hi => rfl
 intro K hK
 go_simp
 refine ⟨hK _ ?_⟩
 clear hK K
 apply p_done
 intro W7 hb7
 obtain ⟨f0, f1, f2, ff⟩ := (k2.out.low hb7).c3
 have hb8 := bnextL hb0.out hb7
 go_wp2_with fail
 exact bodyPost_ret (v := .tuple #[.agg #[.int .i32 (rnN s p), .bool false, .int .u8 0], .int .i64 (wdN s p)]) (by simp [results, Tryz.results40, go_sem, f0, f1, f2, ff]) rfl ⟨rfl, hb8⟩
set_option maxHeartbeats 2000000 in
theorem plain_n3 {w : World} {R : Nat} {s : ByteArray} {p : Nat} {e q : Int} (h : Rd w R s p e q) (hp : p < s.size) (hs : s.size ≤ 140737488355328) (hbr : isBr s p = false) (hk : kindI (rnN s p) = 3) (hl : lowI (rnN s p) ≠ rnN s p) :
  Calls Tryz.prog 40 #[.pointer (some ⟨R, 0, none⟩)] w fun x w' => x = .returned (.tuple #[.agg #[.int .i32 0, .bool false, .int .u8 0], .int .i64 0]) ∧ Below w.heap.size w w' := by
 have hR := hid (fun w => at_in s p hp hs w)
 rw [decV_eq, hbr] at hR
 have hrb := hid (rn_bd hp)
 have hK81 := hid (fun w => kind81 (rnN s p) (by omega) (by have := hrb.out; omega) w)
 have hL54 := hid (fun w => lower54 (rnN s p) (by omega) (by have := hrb.out; omega) w)
 rw [hk] at hK81
 have ql : (lowI (rnN s p) == (rnN s p : Int)) = false := beq_false_of hl
 clear hk hl
 have hH := hid h
 have hlt := h.lt
 clear h
 go_enter Tryz.func40, Tryz.ntmps40
 go_wp2_with fail
 have hb0 : Below w.heap.size w (w.alloc (.cells #[.int .i32 0, .bool false, .int .u8 0] 110)) := (Below.refl w.heap.size w).alloc (Nat.le_refl _) _
 have k2 := hid (Blk.new w 110 #[.int .i32 0, .bool false, .int .u8 0])
 replace hH := hid (hH.out.low hb0)
 obtain ⟨B2, hB2⟩ : ∃ n, w.heap.size = n := ⟨_, rfl⟩
 rw [hB2] at k2 hlt
 generalize w.alloc (.cells #[.int .i32 0, .bool false, .int .u8 0] 110) = W0 at *
 have c0 := hH.out.c0
 have c1 := hH.out.c1
 have l2 := k2.out.lt
 refine region_plan [] (.quiet 0 (.quiet 1 (.quiet 2 (.quiet 3 (.quiet 4 (.quiet 5 (.quiet 6 (.quiet 7 (.quiet 8 (.quiet 9 (.quiet 10 (.quiet 11 (.one 12 (.one 13 (.quiet 14 .done))))))))))))))) (by kernel_rfl) (by kernel_rfl) ?_
 repeat (apply p_quiet; (case hi => rfl); intro K hK; go_simp; first | (refine ⟨hK _ ?_⟩; clear hK K) | (refine ⟨_, fun x => hR.out x.w, hK _ ?_⟩; clear hK K))
 -- alloc
 apply p_one
 case hi => rfl
 intro W1 hb1 K hK
 go_wp2_with fail
 refine hK _ _ (.of (hb1.alloc hb1.size _)) ?_
 clear hK K
 -- store
 apply p_one
 case hi => rfl
 intro W2 hb2 K hK
 have k4 := (Blk.new W1 96 _).low hb2
 have hbb : Below W0.heap.size W0 W2 := bnext (hb1.alloc hb1.size _) hb2
 have hs1 := hb1.size
 generalize W1.heap.size = B4 at *
 clear hb2 hb1 c0 c1
 obtain ⟨d0, d1, d2, d3, df⟩ := k4.c4
 have K4 := hid k4
 clear k4
 go_wp2_with fail
 refine hK _ _ (.of (below_put4 hbb hs1 _ _ _ _)) ?_
 clear hK K d0 d1 d2 d3 df
 have hb3 := below_put4 hbb hs1 (.int .i64 p) (.int .i64 (wdN s p)) (.int .i32 (rnN s p)) (.bool false)
 replace K4 := hid (K4.out.put4 (.int .i64 p) (.int .i64 (wdN s p)) (.int .i32 (rnN s p)) (.bool false))
 generalize (((W2.setCell ⟨B4, 0, none⟩ (.int .i64 p)).setCell ⟨B4, 1, none⟩ (.int .i64 (wdN s p))).setCell ⟨B4, 2, none⟩ (.int .i32 (rnN s p))).setCell ⟨B4, 3, none⟩ (.bool false) = W3 at *
 -- assign
 apply p_quiet
 case hi => rfl
 intro K hK
 go_simp
 refine ⟨hK _ ?_⟩
 clear hK K
 apply p_done
 intro W4 hb4
 have hb5 := bnext hb3 hb4
 replace K4 := hid (K4.out.low hb4)
 replace hH := hid (hH.out.low hb5)
 replace k2 := hid (k2.out.low hb5)
 replace hb0 := hid (hb0.trans (hb5.mono hb0.size))
 have l24 : Hid (B2 < B4) := by unfold Hid; omega
 clear hb3 hb4 hb5 hs1 l2 hbb
 obtain ⟨d0, d1, d2, d3, df⟩ := K4.out.c4
 obtain ⟨f0, f1, f2, ff⟩ := k2.out.c3
 clear hR
 go_wp2_with (go_at_call 51; (with_reducible refine Calls.mono (hK81.out _) ?_); rintro e w' ⟨rfl, rfl⟩)
 refine region_plan [] (.quiet 0 (.quiet 1 (.quiet 2 (.quiet 3 (.quiet 4 (.quiet 5 .done)))))) (by kernel_rfl) (by kernel_rfl) ?_
 repeat (apply p_quiet; (case hi => rfl); intro K hK; go_simp; first | (refine ⟨hK _ ?_⟩; clear hK K) | (refine ⟨_, fun x => (hL54.out x.w).mono fun e w' h => ⟨h.1, h.2 ▸ Below.refl _ _⟩, hK _ ?_⟩; clear hK K))
 apply p_done
 intro W5 hb5
 replace K4 := hid (K4.out.low hb5)
 replace k2 := hid (k2.out.low hb5)
 replace hb0 := hid (bnextL hb0.out hb5)
 clear d0 d1 d2 d3 df f0 f1 f2 ff
 obtain ⟨d0, d1, d2, d3, df⟩ := K4.out.c4
 obtain ⟨f0, f1, f2, ff⟩ := k2.out.c3
 go_wp2_with fail
 exact bodyPost_ret (v := .tuple #[.agg #[.int .i32 0, .bool false, .int .u8 0], .int .i64 0]) (by simp [results, Tryz.results40, go_sem, f0, f1, f2, ff]) rfl ⟨rfl, below_put3 (hB2 ▸ hb0.out) (Nat.le_of_eq hB2) _ _ _⟩
set_option maxHeartbeats 2000000 in
theorem plain_y6 {w : World} {R : Nat} {s : ByteArray} {p : Nat} {e q : Int} (h : Rd w R s p e q) (hp : p < s.size) (hs : s.size ≤ 140737488355328) (hbr : isBr s p = false) (hk : kindI (rnN s p) = 6) (hl : lowI (rnN s p) = rnN s p) :
  Calls Tryz.prog 40 #[.pointer (some ⟨R, 0, none⟩)] w fun x w' => x = .returned (.tuple #[.agg #[.int .i32 (rnN s p), .bool false, .int .u8 0], .int .i64 (wdN s p)]) ∧ Below w.heap.size w w' := by
 have hR := hid (fun w => at_in s p hp hs w)
 rw [decV_eq, hbr] at hR
 have hrb := hid (rn_bd hp)
 have hK81 := hid (fun w => kind81 (rnN s p) (by omega) (by have := hrb.out; omega) w)
 have hL54 := hid (fun w => lower54 (rnN s p) (by omega) (by have := hrb.out; omega) w)
 rw [hk] at hK81
 rw [hl] at hL54
 clear hk hl
 have hH := hid h
 have hlt := h.lt
 clear h
 go_enter Tryz.func40, Tryz.ntmps40
 go_wp2_with fail
 have hb0 : Below w.heap.size w (w.alloc (.cells #[.int .i32 0, .bool false, .int .u8 0] 110)) := (Below.refl w.heap.size w).alloc (Nat.le_refl _) _
 have k2 := hid (Blk.new w 110 #[.int .i32 0, .bool false, .int .u8 0])
 replace hH := hid (hH.out.low hb0)
 obtain ⟨B2, hB2⟩ : ∃ n, w.heap.size = n := ⟨_, rfl⟩
 rw [hB2] at k2 hlt
 generalize w.alloc (.cells #[.int .i32 0, .bool false, .int .u8 0] 110) = W0 at *
 have c0 := hH.out.c0
 have c1 := hH.out.c1
 have l2 := k2.out.lt
 refine region_plan [] (.quiet 0 (.quiet 1 (.quiet 2 (.quiet 3 (.quiet 4 (.quiet 5 (.quiet 6 (.quiet 7 (.quiet 8 (.quiet 9 (.quiet 10 (.quiet 11 (.one 12 (.one 13 (.quiet 14 .done))))))))))))))) (by kernel_rfl) (by kernel_rfl) ?_
 repeat (apply p_quiet; (case hi => rfl); intro K hK; go_simp; first | (refine ⟨hK _ ?_⟩; clear hK K) | (refine ⟨_, fun x => hR.out x.w, hK _ ?_⟩; clear hK K))
 -- alloc
 apply p_one
 case hi => rfl
 intro W1 hb1 K hK
 go_wp2_with fail
 refine hK _ _ (.of (hb1.alloc hb1.size _)) ?_
 clear hK K
 -- store
 apply p_one
 case hi => rfl
 intro W2 hb2 K hK
 have k4 := (Blk.new W1 96 _).low hb2
 have hbb : Below W0.heap.size W0 W2 := bnext (hb1.alloc hb1.size _) hb2
 have hs1 := hb1.size
 generalize W1.heap.size = B4 at *
 clear hb2 hb1 c0 c1
 obtain ⟨d0, d1, d2, d3, df⟩ := k4.c4
 have K4 := hid k4
 clear k4
 go_wp2_with fail
 refine hK _ _ (.of (below_put4 hbb hs1 _ _ _ _)) ?_
 clear hK K d0 d1 d2 d3 df
 have hb3 := below_put4 hbb hs1 (.int .i64 p) (.int .i64 (wdN s p)) (.int .i32 (rnN s p)) (.bool false)
 replace K4 := hid (K4.out.put4 (.int .i64 p) (.int .i64 (wdN s p)) (.int .i32 (rnN s p)) (.bool false))
 generalize (((W2.setCell ⟨B4, 0, none⟩ (.int .i64 p)).setCell ⟨B4, 1, none⟩ (.int .i64 (wdN s p))).setCell ⟨B4, 2, none⟩ (.int .i32 (rnN s p))).setCell ⟨B4, 3, none⟩ (.bool false) = W3 at *
 -- assign
 apply p_quiet
 case hi => rfl
 intro K hK
 go_simp
 refine ⟨hK _ ?_⟩
 clear hK K
 apply p_done
 intro W4 hb4
 have hb5 := bnext hb3 hb4
 replace K4 := hid (K4.out.low hb4)
 replace hH := hid (hH.out.low hb5)
 replace k2 := hid (k2.out.low hb5)
 replace hb0 := hid (hb0.trans (hb5.mono hb0.size))
 have l24 : Hid (B2 < B4) := by unfold Hid; omega
 clear hb3 hb4 hb5 hs1 l2 hbb
 obtain ⟨d0, d1, d2, d3, df⟩ := K4.out.c4
 obtain ⟨f0, f1, f2, ff⟩ := k2.out.c3
 clear hR
 go_wp2_with (go_at_call 51; (with_reducible refine Calls.mono (hK81.out _) ?_); rintro e w' ⟨rfl, rfl⟩)
 refine region_plan [] (.quiet 0 (.quiet 1 (.quiet 2 (.quiet 3 (.quiet 4 (.quiet 5 .done)))))) (by kernel_rfl) (by kernel_rfl) ?_
 repeat (apply p_quiet; (case hi => rfl); intro K hK; go_simp; first | (refine ⟨hK _ ?_⟩; clear hK K) | (refine ⟨_, fun x => (hL54.out x.w).mono fun e w' h => ⟨h.1, h.2 ▸ Below.refl _ _⟩, hK _ ?_⟩; clear hK K))
 apply p_done
 intro W5 hb5
 replace K4 := hid (K4.out.low hb5)
 replace k2 := hid (k2.out.low hb5)
 replace hb0 := hid (bnextL hb0.out hb5)
 clear d0 d1 d2 d3 df f0 f1 f2 ff
 obtain ⟨d0, d1, d2, d3, df⟩ := K4.out.c4
 obtain ⟨f0, f1, f2, ff⟩ := k2.out.c3
 go_wp2_with fail
 have n4 : B4 ≠ B2 := by have := l24.out; omega
 refine region_plan [B2] (.quiet 0 (.quiet 1 (.quiet 2 (.quiet 3 (.quiet 4 (.one 5 (.quiet 6 .done))))))) (by kernel_rfl) (by kernel_rfl) ?_
 repeat (apply p_quiet; (case hi => rfl); intro K hK; go_simp; (refine ⟨hK _ ?_⟩; clear hK K))
 apply p_one
 case hi => rfl
 intro W8 hb9 K hK
 replace k2 := hid (k2.out.low hb9)
 replace hb0 := hid (bnextL hb0.out hb9)
 obtain ⟨f0, f1, f2, ff⟩ := k2.out.c3
 go_wp2_with fail
 refine hK _ _ ((ButS.of hb9).put3 (List.mem_singleton.2 rfl) _ _ _) ?_
 clear hK K f0 f1 f2 ff
 replace k2 := hid (k2.out.put3 (.int .i32 (rnN s p)) (.bool false) (.int .u8 0))
 replace hb0 := hid (below_put3 hb0.out (Nat.le_of_eq hB2) (.int .i32 (rnN s p)) (.bool false) (.int .u8 0))
 generalize ((W8.setCell ⟨B2, 0, none⟩ (.int .i32 (rnN s p))).setCell ⟨B2, 1, none⟩ (.bool false)).setCell ⟨B2, 2, none⟩ (.int .u8 0) = W6 at *
 apply p_quiet
 case hi => rfl
 intro K hK
 go_simp
 refine ⟨hK _ ?_⟩
 clear hK K
 apply p_done
 intro W7 hb7
 obtain ⟨f0, f1, f2, ff⟩ := (k2.out.low hb7).c3
 have hb8 := bnextL hb0.out hb7
 go_wp2_with fail
 exact bodyPost_ret (v := .tuple #[.agg #[.int .i32 (rnN s p), .bool false, .int .u8 0], .int .i64 (wdN s p)]) (by simp [results, Tryz.results40, go_sem, f0, f1, f2, ff]) rfl ⟨rfl, hb8⟩
set_option maxHeartbeats 2000000 in
theorem plain_n6 {w : World} {R : Nat} {s : ByteArray} {p : Nat} {e q : Int} (h : Rd w R s p e q) (hp : p < s.size) (hs : s.size ≤ 140737488355328) (hbr : isBr s p = false) (hk : kindI (rnN s p) = 6) (hl : lowI (rnN s p) ≠ rnN s p) :
  Calls Tryz.prog 40 #[.pointer (some ⟨R, 0, none⟩)] w fun x w' => x = .returned (.tuple #[.agg #[.int .i32 0, .bool false, .int .u8 0], .int .i64 0]) ∧ Below w.heap.size w w' := by
 have hR := hid (fun w => at_in s p hp hs w)
 rw [decV_eq, hbr] at hR
 have hrb := hid (rn_bd hp)
 have hK81 := hid (fun w => kind81 (rnN s p) (by omega) (by have := hrb.out; omega) w)
 have hL54 := hid (fun w => lower54 (rnN s p) (by omega) (by have := hrb.out; omega) w)
 rw [hk] at hK81
 have ql : (lowI (rnN s p) == (rnN s p : Int)) = false := beq_false_of hl
 clear hk hl
 have hH := hid h
 have hlt := h.lt
 clear h
 go_enter Tryz.func40, Tryz.ntmps40
 go_wp2_with fail
 have hb0 : Below w.heap.size w (w.alloc (.cells #[.int .i32 0, .bool false, .int .u8 0] 110)) := (Below.refl w.heap.size w).alloc (Nat.le_refl _) _
 have k2 := hid (Blk.new w 110 #[.int .i32 0, .bool false, .int .u8 0])
 replace hH := hid (hH.out.low hb0)
 obtain ⟨B2, hB2⟩ : ∃ n, w.heap.size = n := ⟨_, rfl⟩
 rw [hB2] at k2 hlt
 generalize w.alloc (.cells #[.int .i32 0, .bool false, .int .u8 0] 110) = W0 at *
 have c0 := hH.out.c0
 have c1 := hH.out.c1
 have l2 := k2.out.lt
 refine region_plan [] (.quiet 0 (.quiet 1 (.quiet 2 (.quiet 3 (.quiet 4 (.quiet 5 (.quiet 6 (.quiet 7 (.quiet 8 (.quiet 9 (.quiet 10 (.quiet 11 (.one 12 (.one 13 (.quiet 14 .done))))))))))))))) (by kernel_rfl) (by kernel_rfl) ?_
 repeat (apply p_quiet; (case hi => rfl); intro K hK; go_simp; first | (refine ⟨hK _ ?_⟩; clear hK K) | (refine ⟨_, fun x => hR.out x.w, hK _ ?_⟩; clear hK K))
 -- alloc
 apply p_one
 case hi => rfl
 intro W1 hb1 K hK
 go_wp2_with fail
 refine hK _ _ (.of (hb1.alloc hb1.size _)) ?_
 clear hK K
 -- store
 apply p_one
 case hi => rfl
 intro W2 hb2 K hK
 have k4 := (Blk.new W1 96 _).low hb2
 have hbb : Below W0.heap.size W0 W2 := bnext (hb1.alloc hb1.size _) hb2
 have hs1 := hb1.size
 generalize W1.heap.size = B4 at *
 clear hb2 hb1 c0 c1
 obtain ⟨d0, d1, d2, d3, df⟩ := k4.c4
 have K4 := hid k4
 clear k4
 go_wp2_with fail
 refine hK _ _ (.of (below_put4 hbb hs1 _ _ _ _)) ?_
 clear hK K d0 d1 d2 d3 df
 have hb3 := below_put4 hbb hs1 (.int .i64 p) (.int .i64 (wdN s p)) (.int .i32 (rnN s p)) (.bool false)
 replace K4 := hid (K4.out.put4 (.int .i64 p) (.int .i64 (wdN s p)) (.int .i32 (rnN s p)) (.bool false))
 generalize (((W2.setCell ⟨B4, 0, none⟩ (.int .i64 p)).setCell ⟨B4, 1, none⟩ (.int .i64 (wdN s p))).setCell ⟨B4, 2, none⟩ (.int .i32 (rnN s p))).setCell ⟨B4, 3, none⟩ (.bool false) = W3 at *
 -- assign
 apply p_quiet
 case hi => rfl
 intro K hK
 go_simp
 refine ⟨hK _ ?_⟩
 clear hK K
 apply p_done
 intro W4 hb4
 have hb5 := bnext hb3 hb4
 replace K4 := hid (K4.out.low hb4)
 replace hH := hid (hH.out.low hb5)
 replace k2 := hid (k2.out.low hb5)
 replace hb0 := hid (hb0.trans (hb5.mono hb0.size))
 have l24 : Hid (B2 < B4) := by unfold Hid; omega
 clear hb3 hb4 hb5 hs1 l2 hbb
 obtain ⟨d0, d1, d2, d3, df⟩ := K4.out.c4
 obtain ⟨f0, f1, f2, ff⟩ := k2.out.c3
 clear hR
 go_wp2_with (go_at_call 51; (with_reducible refine Calls.mono (hK81.out _) ?_); rintro e w' ⟨rfl, rfl⟩)
 refine region_plan [] (.quiet 0 (.quiet 1 (.quiet 2 (.quiet 3 (.quiet 4 (.quiet 5 .done)))))) (by kernel_rfl) (by kernel_rfl) ?_
 repeat (apply p_quiet; (case hi => rfl); intro K hK; go_simp; first | (refine ⟨hK _ ?_⟩; clear hK K) | (refine ⟨_, fun x => (hL54.out x.w).mono fun e w' h => ⟨h.1, h.2 ▸ Below.refl _ _⟩, hK _ ?_⟩; clear hK K))
 apply p_done
 intro W5 hb5
 replace K4 := hid (K4.out.low hb5)
 replace k2 := hid (k2.out.low hb5)
 replace hb0 := hid (bnextL hb0.out hb5)
 clear d0 d1 d2 d3 df f0 f1 f2 ff
 obtain ⟨d0, d1, d2, d3, df⟩ := K4.out.c4
 obtain ⟨f0, f1, f2, ff⟩ := k2.out.c3
 go_wp2_with fail
 exact bodyPost_ret (v := .tuple #[.agg #[.int .i32 0, .bool false, .int .u8 0], .int .i64 0]) (by simp [results, Tryz.results40, go_sem, f0, f1, f2, ff]) rfl ⟨rfl, below_put3 (hB2 ▸ hb0.out) (Nat.le_of_eq hB2) _ _ _⟩
set_option maxHeartbeats 2000000 in
theorem plain_y7 {w : World} {R : Nat} {s : ByteArray} {p : Nat} {e q : Int} (h : Rd w R s p e q) (hp : p < s.size) (hs : s.size ≤ 140737488355328) (hbr : isBr s p = false) (hk : kindI (rnN s p) = 7) (hl : lowI (rnN s p) = rnN s p) :
  Calls Tryz.prog 40 #[.pointer (some ⟨R, 0, none⟩)] w fun x w' => x = .returned (.tuple #[.agg #[.int .i32 (rnN s p), .bool false, .int .u8 0], .int .i64 (wdN s p)]) ∧ Below w.heap.size w w' := by
 have hR := hid (fun w => at_in s p hp hs w)
 rw [decV_eq, hbr] at hR
 have hrb := hid (rn_bd hp)
 have hK81 := hid (fun w => kind81 (rnN s p) (by omega) (by have := hrb.out; omega) w)
 have hL54 := hid (fun w => lower54 (rnN s p) (by omega) (by have := hrb.out; omega) w)
 rw [hk] at hK81
 rw [hl] at hL54
 clear hk hl
 have hH := hid h
 have hlt := h.lt
 clear h
 go_enter Tryz.func40, Tryz.ntmps40
 go_wp2_with fail
 have hb0 : Below w.heap.size w (w.alloc (.cells #[.int .i32 0, .bool false, .int .u8 0] 110)) := (Below.refl w.heap.size w).alloc (Nat.le_refl _) _
 have k2 := hid (Blk.new w 110 #[.int .i32 0, .bool false, .int .u8 0])
 replace hH := hid (hH.out.low hb0)
 obtain ⟨B2, hB2⟩ : ∃ n, w.heap.size = n := ⟨_, rfl⟩
 rw [hB2] at k2 hlt
 generalize w.alloc (.cells #[.int .i32 0, .bool false, .int .u8 0] 110) = W0 at *
 have c0 := hH.out.c0
 have c1 := hH.out.c1
 have l2 := k2.out.lt
 refine region_plan [] (.quiet 0 (.quiet 1 (.quiet 2 (.quiet 3 (.quiet 4 (.quiet 5 (.quiet 6 (.quiet 7 (.quiet 8 (.quiet 9 (.quiet 10 (.quiet 11 (.one 12 (.one 13 (.quiet 14 .done))))))))))))))) (by kernel_rfl) (by kernel_rfl) ?_
 repeat (apply p_quiet; (case hi => rfl); intro K hK; go_simp; first | (refine ⟨hK _ ?_⟩; clear hK K) | (refine ⟨_, fun x => hR.out x.w, hK _ ?_⟩; clear hK K))
 -- alloc
 apply p_one
 case hi => rfl
 intro W1 hb1 K hK
 go_wp2_with fail
 refine hK _ _ (.of (hb1.alloc hb1.size _)) ?_
 clear hK K
 -- store
 apply p_one
 case hi => rfl
 intro W2 hb2 K hK
 have k4 := (Blk.new W1 96 _).low hb2
 have hbb : Below W0.heap.size W0 W2 := bnext (hb1.alloc hb1.size _) hb2
 have hs1 := hb1.size
 generalize W1.heap.size = B4 at *
 clear hb2 hb1 c0 c1
 obtain ⟨d0, d1, d2, d3, df⟩ := k4.c4
 have K4 := hid k4
 clear k4
 go_wp2_with fail
 refine hK _ _ (.of (below_put4 hbb hs1 _ _ _ _)) ?_
 clear hK K d0 d1 d2 d3 df
 have hb3 := below_put4 hbb hs1 (.int .i64 p) (.int .i64 (wdN s p)) (.int .i32 (rnN s p)) (.bool false)
 replace K4 := hid (K4.out.put4 (.int .i64 p) (.int .i64 (wdN s p)) (.int .i32 (rnN s p)) (.bool false))
 generalize (((W2.setCell ⟨B4, 0, none⟩ (.int .i64 p)).setCell ⟨B4, 1, none⟩ (.int .i64 (wdN s p))).setCell ⟨B4, 2, none⟩ (.int .i32 (rnN s p))).setCell ⟨B4, 3, none⟩ (.bool false) = W3 at *
 -- assign
 apply p_quiet
 case hi => rfl
 intro K hK
 go_simp
 refine ⟨hK _ ?_⟩
 clear hK K
 apply p_done
 intro W4 hb4
 have hb5 := bnext hb3 hb4
 replace K4 := hid (K4.out.low hb4)
 replace hH := hid (hH.out.low hb5)
 replace k2 := hid (k2.out.low hb5)
 replace hb0 := hid (hb0.trans (hb5.mono hb0.size))
 have l24 : Hid (B2 < B4) := by unfold Hid; omega
 clear hb3 hb4 hb5 hs1 l2 hbb
 obtain ⟨d0, d1, d2, d3, df⟩ := K4.out.c4
 obtain ⟨f0, f1, f2, ff⟩ := k2.out.c3
 clear hR
 go_wp2_with (go_at_call 51; (with_reducible refine Calls.mono (hK81.out _) ?_); rintro e w' ⟨rfl, rfl⟩)
 refine region_plan [] (.quiet 0 (.quiet 1 (.quiet 2 (.quiet 3 (.quiet 4 (.quiet 5 .done)))))) (by kernel_rfl) (by kernel_rfl) ?_
 repeat (apply p_quiet; (case hi => rfl); intro K hK; go_simp; first | (refine ⟨hK _ ?_⟩; clear hK K) | (refine ⟨_, fun x => (hL54.out x.w).mono fun e w' h => ⟨h.1, h.2 ▸ Below.refl _ _⟩, hK _ ?_⟩; clear hK K))
 apply p_done
 intro W5 hb5
 replace K4 := hid (K4.out.low hb5)
 replace k2 := hid (k2.out.low hb5)
 replace hb0 := hid (bnextL hb0.out hb5)
 clear d0 d1 d2 d3 df f0 f1 f2 ff
 obtain ⟨d0, d1, d2, d3, df⟩ := K4.out.c4
 obtain ⟨f0, f1, f2, ff⟩ := k2.out.c3
 go_wp2_with fail
 have n4 : B4 ≠ B2 := by have := l24.out; omega
 refine region_plan [B2] (.quiet 0 (.quiet 1 (.quiet 2 (.quiet 3 (.quiet 4 (.one 5 (.quiet 6 .done))))))) (by kernel_rfl) (by kernel_rfl) ?_
 repeat (apply p_quiet; (case hi => rfl); intro K hK; go_simp; (refine ⟨hK _ ?_⟩; clear hK K))
 apply p_one
 case hi => rfl
 intro W8 hb9 K hK
 replace k2 := hid (k2.out.low hb9)
 replace hb0 := hid (bnextL hb0.out hb9)
 obtain ⟨f0, f1, f2, ff⟩ := k2.out.c3
 go_wp2_with fail
 refine hK _ _ ((ButS.of hb9).put3 (List.mem_singleton.2 rfl) _ _ _) ?_
 clear hK K f0 f1 f2 ff
 replace k2 := hid (k2.out.put3 (.int .i32 (rnN s p)) (.bool false) (.int .u8 0))
 replace hb0 := hid (below_put3 hb0.out (Nat.le_of_eq hB2) (.int .i32 (rnN s p)) (.bool false) (.int .u8 0))
 generalize ((W8.setCell ⟨B2, 0, none⟩ (.int .i32 (rnN s p))).setCell ⟨B2, 1, none⟩ (.bool false)).setCell ⟨B2, 2, none⟩ (.int .u8 0) = W6 at *
 apply p_quiet
 case hi => rfl
 intro K hK
 go_simp
 refine ⟨hK _ ?_⟩
 clear hK K
 apply p_done
 intro W7 hb7
 obtain ⟨f0, f1, f2, ff⟩ := (k2.out.low hb7).c3
 have hb8 := bnextL hb0.out hb7
 go_wp2_with fail
 exact bodyPost_ret (v := .tuple #[.agg #[.int .i32 (rnN s p), .bool false, .int .u8 0], .int .i64 (wdN s p)]) (by simp [results, Tryz.results40, go_sem, f0, f1, f2, ff]) rfl ⟨rfl, hb8⟩
set_option maxHeartbeats 2000000 in
theorem plain_n7 {w : World} {R : Nat} {s : ByteArray} {p : Nat} {e q : Int} (h : Rd w R s p e q) (hp : p < s.size) (hs : s.size ≤ 140737488355328) (hbr : isBr s p = false) (hk : kindI (rnN s p) = 7) (hl : lowI (rnN s p) ≠ rnN s p) :
  Calls Tryz.prog 40 #[.pointer (some ⟨R, 0, none⟩)] w fun x w' => x = .returned (.tuple #[.agg #[.int .i32 0, .bool false, .int .u8 0], .int .i64 0]) ∧ Below w.heap.size w w' := by
 have hR := hid (fun w => at_in s p hp hs w)
 rw [decV_eq, hbr] at hR
 have hrb := hid (rn_bd hp)
 have hK81 := hid (fun w => kind81 (rnN s p) (by omega) (by have := hrb.out; omega) w)
 have hL54 := hid (fun w => lower54 (rnN s p) (by omega) (by have := hrb.out; omega) w)
 rw [hk] at hK81
 have ql : (lowI (rnN s p) == (rnN s p : Int)) = false := beq_false_of hl
 clear hk hl
 have hH := hid h
 have hlt := h.lt
 clear h
 go_enter Tryz.func40, Tryz.ntmps40
 go_wp2_with fail
 have hb0 : Below w.heap.size w (w.alloc (.cells #[.int .i32 0, .bool false, .int .u8 0] 110)) := (Below.refl w.heap.size w).alloc (Nat.le_refl _) _
 have k2 := hid (Blk.new w 110 #[.int .i32 0, .bool false, .int .u8 0])
 replace hH := hid (hH.out.low hb0)
 obtain ⟨B2, hB2⟩ : ∃ n, w.heap.size = n := ⟨_, rfl⟩
 rw [hB2] at k2 hlt
 generalize w.alloc (.cells #[.int .i32 0, .bool false, .int .u8 0] 110) = W0 at *
 have c0 := hH.out.c0
 have c1 := hH.out.c1
 have l2 := k2.out.lt
 refine region_plan [] (.quiet 0 (.quiet 1 (.quiet 2 (.quiet 3 (.quiet 4 (.quiet 5 (.quiet 6 (.quiet 7 (.quiet 8 (.quiet 9 (.quiet 10 (.quiet 11 (.one 12 (.one 13 (.quiet 14 .done))))))))))))))) (by kernel_rfl) (by kernel_rfl) ?_
 repeat (apply p_quiet; (case hi => rfl); intro K hK; go_simp; first | (refine ⟨hK _ ?_⟩; clear hK K) | (refine ⟨_, fun x => hR.out x.w, hK _ ?_⟩; clear hK K))
 -- alloc
 apply p_one
 case hi => rfl
 intro W1 hb1 K hK
 go_wp2_with fail
 refine hK _ _ (.of (hb1.alloc hb1.size _)) ?_
 clear hK K
 -- store
 apply p_one
 case hi => rfl
 intro W2 hb2 K hK
 have k4 := (Blk.new W1 96 _).low hb2
 have hbb : Below W0.heap.size W0 W2 := bnext (hb1.alloc hb1.size _) hb2
 have hs1 := hb1.size
 generalize W1.heap.size = B4 at *
 clear hb2 hb1 c0 c1
 obtain ⟨d0, d1, d2, d3, df⟩ := k4.c4
 have K4 := hid k4
 clear k4
 go_wp2_with fail
 refine hK _ _ (.of (below_put4 hbb hs1 _ _ _ _)) ?_
 clear hK K d0 d1 d2 d3 df
 have hb3 := below_put4 hbb hs1 (.int .i64 p) (.int .i64 (wdN s p)) (.int .i32 (rnN s p)) (.bool false)
 replace K4 := hid (K4.out.put4 (.int .i64 p) (.int .i64 (wdN s p)) (.int .i32 (rnN s p)) (.bool false))
 generalize (((W2.setCell ⟨B4, 0, none⟩ (.int .i64 p)).setCell ⟨B4, 1, none⟩ (.int .i64 (wdN s p))).setCell ⟨B4, 2, none⟩ (.int .i32 (rnN s p))).setCell ⟨B4, 3, none⟩ (.bool false) = W3 at *
 -- assign
 apply p_quiet
 case hi => rfl
 intro K hK
 go_simp
 refine ⟨hK _ ?_⟩
 clear hK K
 apply p_done
 intro W4 hb4
 have hb5 := bnext hb3 hb4
 replace K4 := hid (K4.out.low hb4)
 replace hH := hid (hH.out.low hb5)
 replace k2 := hid (k2.out.low hb5)
 replace hb0 := hid (hb0.trans (hb5.mono hb0.size))
 have l24 : Hid (B2 < B4) := by unfold Hid; omega
 clear hb3 hb4 hb5 hs1 l2 hbb
 obtain ⟨d0, d1, d2, d3, df⟩ := K4.out.c4
 obtain ⟨f0, f1, f2, ff⟩ := k2.out.c3
 clear hR
 go_wp2_with (go_at_call 51; (with_reducible refine Calls.mono (hK81.out _) ?_); rintro e w' ⟨rfl, rfl⟩)
 refine region_plan [] (.quiet 0 (.quiet 1 (.quiet 2 (.quiet 3 (.quiet 4 (.quiet 5 .done)))))) (by kernel_rfl) (by kernel_rfl) ?_
 repeat (apply p_quiet; (case hi => rfl); intro K hK; go_simp; first | (refine ⟨hK _ ?_⟩; clear hK K) | (refine ⟨_, fun x => (hL54.out x.w).mono fun e w' h => ⟨h.1, h.2 ▸ Below.refl _ _⟩, hK _ ?_⟩; clear hK K))
 apply p_done
 intro W5 hb5
 replace K4 := hid (K4.out.low hb5)
 replace k2 := hid (k2.out.low hb5)
 replace hb0 := hid (bnextL hb0.out hb5)
 clear d0 d1 d2 d3 df f0 f1 f2 ff
 obtain ⟨d0, d1, d2, d3, df⟩ := K4.out.c4
 obtain ⟨f0, f1, f2, ff⟩ := k2.out.c3
 go_wp2_with fail
 exact bodyPost_ret (v := .tuple #[.agg #[.int .i32 0, .bool false, .int .u8 0], .int .i64 0]) (by simp [results, Tryz.results40, go_sem, f0, f1, f2, ff]) rfl ⟨rfl, below_put3 (hB2 ▸ hb0.out) (Nat.le_of_eq hB2) _ _ _⟩
set_option maxHeartbeats 2000000 in
theorem plain_o {w : World} {R : Nat} {s : ByteArray} {p : Nat} {e q : Int} (h : Rd w R s p e q) (hp : p < s.size) (hs : s.size ≤ 140737488355328) (hbr : isBr s p = false) (h1 : kindI (rnN s p) ≠ 1) (h2 : kindI (rnN s p) ≠ 2) (h3 : kindI (rnN s p) ≠ 3) (h6 : kindI (rnN s p) ≠ 6) (h7 : kindI (rnN s p) ≠ 7) :
  Calls Tryz.prog 40 #[.pointer (some ⟨R, 0, none⟩)] w fun x w' => x = .returned (.tuple #[.agg #[.int .i32 0, .bool false, .int .u8 0], .int .i64 0]) ∧ Below w.heap.size w w' := by
 have hR := hid (fun w => at_in s p hp hs w)
 rw [decV_eq, hbr] at hR
 have hrb := hid (rn_bd hp)
 have hK81 := hid (fun w => kind81 (rnN s p) (by omega) (by have := hrb.out; omega) w)
 have hL54 := hid (fun w => lower54 (rnN s p) (by omega) (by have := hrb.out; omega) w)
 have g1 := beq_false_of h1
 have g2 := beq_false_of h2
 have g3 := beq_false_of h3
 have g6 := beq_false_of h6
 have g7 := beq_false_of h7
 clear h1 h2 h3 h6 h7

 have hH := hid h
 have hlt := h.lt
 clear h
 go_enter Tryz.func40, Tryz.ntmps40
 go_wp2_with fail
 have hb0 : Below w.heap.size w (w.alloc (.cells #[.int .i32 0, .bool false, .int .u8 0] 110)) := (Below.refl w.heap.size w).alloc (Nat.le_refl _) _
 have k2 := hid (Blk.new w 110 #[.int .i32 0, .bool false, .int .u8 0])
 replace hH := hid (hH.out.low hb0)
 obtain ⟨B2, hB2⟩ : ∃ n, w.heap.size = n := ⟨_, rfl⟩
 rw [hB2] at k2 hlt
 generalize w.alloc (.cells #[.int .i32 0, .bool false, .int .u8 0] 110) = W0 at *
 have c0 := hH.out.c0
 have c1 := hH.out.c1
 have l2 := k2.out.lt
 refine region_plan [] (.quiet 0 (.quiet 1 (.quiet 2 (.quiet 3 (.quiet 4 (.quiet 5 (.quiet 6 (.quiet 7 (.quiet 8 (.quiet 9 (.quiet 10 (.quiet 11 (.one 12 (.one 13 (.quiet 14 .done))))))))))))))) (by kernel_rfl) (by kernel_rfl) ?_
 repeat (apply p_quiet; (case hi => rfl); intro K hK; go_simp; first | (refine ⟨hK _ ?_⟩; clear hK K) | (refine ⟨_, fun x => hR.out x.w, hK _ ?_⟩; clear hK K))
 -- alloc
 apply p_one
 case hi => rfl
 intro W1 hb1 K hK
 go_wp2_with fail
 refine hK _ _ (.of (hb1.alloc hb1.size _)) ?_
 clear hK K
 -- store
 apply p_one
 case hi => rfl
 intro W2 hb2 K hK
 have k4 := (Blk.new W1 96 _).low hb2
 have hbb : Below W0.heap.size W0 W2 := bnext (hb1.alloc hb1.size _) hb2
 have hs1 := hb1.size
 generalize W1.heap.size = B4 at *
 clear hb2 hb1 c0 c1
 obtain ⟨d0, d1, d2, d3, df⟩ := k4.c4
 have K4 := hid k4
 clear k4
 go_wp2_with fail
 refine hK _ _ (.of (below_put4 hbb hs1 _ _ _ _)) ?_
 clear hK K d0 d1 d2 d3 df
 have hb3 := below_put4 hbb hs1 (.int .i64 p) (.int .i64 (wdN s p)) (.int .i32 (rnN s p)) (.bool false)
 replace K4 := hid (K4.out.put4 (.int .i64 p) (.int .i64 (wdN s p)) (.int .i32 (rnN s p)) (.bool false))
 generalize (((W2.setCell ⟨B4, 0, none⟩ (.int .i64 p)).setCell ⟨B4, 1, none⟩ (.int .i64 (wdN s p))).setCell ⟨B4, 2, none⟩ (.int .i32 (rnN s p))).setCell ⟨B4, 3, none⟩ (.bool false) = W3 at *
 -- assign
 apply p_quiet
 case hi => rfl
 intro K hK
 go_simp
 refine ⟨hK _ ?_⟩
 clear hK K
 apply p_done
 intro W4 hb4
 have hb5 := bnext hb3 hb4
 replace K4 := hid (K4.out.low hb4)
 replace hH := hid (hH.out.low hb5)
 replace k2 := hid (k2.out.low hb5)
 replace hb0 := hid (hb0.trans (hb5.mono hb0.size))
 have l24 : Hid (B2 < B4) := by unfold Hid; omega
 clear hb3 hb4 hb5 hs1 l2 hbb
 obtain ⟨d0, d1, d2, d3, df⟩ := K4.out.c4
 obtain ⟨f0, f1, f2, ff⟩ := k2.out.c3
 clear hR
 go_wp2_with (go_at_call 51; (with_reducible refine Calls.mono (hK81.out _) ?_); rintro e w' ⟨rfl, rfl⟩)
 exact bodyPost_ret (v := .tuple #[.agg #[.int .i32 0, .bool false, .int .u8 0], .int .i64 0]) (by simp [results, Tryz.results40, go_sem, f0, f1, f2, ff]) rfl ⟨rfl, below_put3 (hB2 ▸ hb0.out) (Nat.le_of_eq hB2) _ _ _⟩
theorem plU_no {s : ByteArray} {p : Nat} (h : plB s p = false) : plU s p = One.none ∧ plW s p = 0 := by
 unfold plU plW; rw [h]; exact ⟨rfl, rfl⟩
theorem plU_yes {s : ByteArray} {p : Nat} (h : plB s p = true) : plU s p = oneAt s p ∧ plW s p = wdN s p := by
 unfold plU plW; rw [h]; exact ⟨rfl, rfl⟩
theorem br_wd {s : ByteArray} {p : Nat} (h : isBr s p = true) : wdN s p = 1 := (of_decide_eq_true h).2
theorem plain_any {w : World} {R : Nat} {s : ByteArray} {p : Nat} {e q : Int} (h : Rd w R s p e q) (hs : s.size ≤ 140737488355328) :
  Calls Tryz.prog 40 #[.pointer (some ⟨R, 0, none⟩)] w fun x w' => x = .returned (.tuple #[(plU s p).val, .int .i64 (plW s p)]) ∧ Below w.heap.size w w' := by
 by_cases hp : p < s.size
 ·cases hbr : isBr s p with
  | true =>
   obtain ⟨e1, e2⟩ := plU_yes (s := s) (p := p) (decide_eq_true ⟨hp, .inl hbr⟩)
   rw [e1, e2, br_wd hbr]
   unfold oneAt
   rw [hbr]
   exact plain_br h hp hs hbr
  | false =>
   have no : kindOk (rnN s p) = false → plU s p = One.none ∧ plW s p = 0 := fun hk => plU_no (decide_eq_false fun hh => by
    rcases hh.2 with h | h
    ·rw [hbr] at h; cases h
    ·rw [hk] at h; cases h)
   have yes : kindOk (rnN s p) = true → plU s p = ⟨rnN s p, false, 0⟩ ∧ plW s p = wdN s p := fun hk => by
    obtain ⟨e1, e2⟩ := plU_yes (s := s) (p := p) (decide_eq_true ⟨hp, .inr hk⟩)
    rw [e1, e2]
    unfold oneAt
    rw [hbr]
    exact ⟨rfl, rfl⟩
   by_cases hl : lowI (rnN s p) = rnN s p
   ·by_cases h1 : kindI (rnN s p) = 1
    ·obtain ⟨e1, e2⟩ := yes (decide_eq_true ⟨.inl h1, hl⟩)
     rw [e1, e2]; exact plain_y1 h hp hs hbr h1 hl
    ·by_cases h2 : kindI (rnN s p) = 2
     ·obtain ⟨e1, e2⟩ := yes (decide_eq_true ⟨.inr (.inl h2), hl⟩)
      rw [e1, e2]; exact plain_y2 h hp hs hbr h2 hl
     ·by_cases h3 : kindI (rnN s p) = 3
      ·obtain ⟨e1, e2⟩ := yes (decide_eq_true ⟨.inr (.inr (.inl h3)), hl⟩)
       rw [e1, e2]; exact plain_y3 h hp hs hbr h3 hl
      ·by_cases h6 : kindI (rnN s p) = 6
       ·obtain ⟨e1, e2⟩ := yes (decide_eq_true ⟨.inr (.inr (.inr (.inl h6))), hl⟩)
        rw [e1, e2]; exact plain_y6 h hp hs hbr h6 hl
       ·by_cases h7 : kindI (rnN s p) = 7
        ·obtain ⟨e1, e2⟩ := yes (decide_eq_true ⟨.inr (.inr (.inr (.inr h7))), hl⟩)
         rw [e1, e2]; exact plain_y7 h hp hs hbr h7 hl
        ·obtain ⟨e1, e2⟩ := no (decide_eq_false fun hh => by omega)
         rw [e1, e2]; exact plain_o h hp hs hbr h1 h2 h3 h6 h7
   ·obtain ⟨e1, e2⟩ := no (decide_eq_false fun hh => hl hh.2)
    rw [e1, e2]
    by_cases h1 : kindI (rnN s p) = 1
    ·exact plain_n1 h hp hs hbr h1 hl
    ·by_cases h2 : kindI (rnN s p) = 2
     ·exact plain_n2 h hp hs hbr h2 hl
     ·by_cases h3 : kindI (rnN s p) = 3
      ·exact plain_n3 h hp hs hbr h3 hl
      ·by_cases h6 : kindI (rnN s p) = 6
       ·exact plain_n6 h hp hs hbr h6 hl
       ·by_cases h7 : kindI (rnN s p) = 7
        ·exact plain_n7 h hp hs hbr h7 hl
        ·exact plain_o h hp hs hbr h1 h2 h3 h6 h7
 ·obtain ⟨e1, e2⟩ := plU_no (s := s) (p := p) (decide_eq_false fun hh => hp hh.1)
  rw [e1, e2]
  exact plain_out h hp
end Go.Proofs.YtieifhfgedoiaaaGreatDoor
