/- CountPlays walked: true of any script. Conditions: the script lies in memory, its words are strings of the machine. -/
import Derived.Test.YthidjbobjjoekaaPlC
import Derived.Test.YthidjbobjjoekaaTaI
import Derived.Deep.QuietTactic
import Derived.BigQuiet
namespace Go.Proofs.Ythidjbobjjoekaa
open Go.RowKit Go.Lib Go.Sort Go.Shelf
set_option linter.unusedVariables false
set_option linter.unusedSimpArgs false
attribute [local go_sem] Ext.cell Ext.froz
theorem blk3 {w : World} {B : Nat} {t : TypeId} {vs : Nat → Value} (h : Blk w B t #[vs 0, vs 1, vs 2]) {k : Nat} (hk : k < 3) : w.cell? ⟨B, k, none⟩ = some (vs k) := by
  match k, hk with
  | 0, _ => exact h.cell rfl
  | 1, _ => exact h.cell rfl
  | 2, _ => exact h.cell rfl
theorem cos_att (L M : List Ent) (W : List ByteArray) : ∃ r, cl r = cosV L M W := by
  have key : ∀ a b : Option Nat, ∃ r, cl r = (opF .quo a b).map zeroV := fun a b => by
    have hn : ∃ r, cl r = (none : Option Nat) := ⟨nanV, cl_nanV⟩
    cases a with
    | none => exact hn
    | some x =>
      cases b with
      | none => exact hn
      | some y =>
        show ∃ r, cl r = (floatBits .quo .f64 x y).map zeroV
        cases hq : floatBits .quo .f64 x y with
        | none => exact hn
        | some z => exact ⟨zeroV z, by rw [cl_zeroV, cl_real (ar_some Ar.quo hq)]⟩
  unfold cosV
  split
  · exact ⟨nanV, cl_nanV⟩
  · exact key _ _
theorem blk_set {w : World} {B B' : Nat} {t : TypeId} {c : Array Value} (h : Blk w B t c) (hne : B ≠ B') (k : Nat) (u : Value) : Blk (w.setCell ⟨B', k, none⟩ u) B t c := h.other hne u
set_option maxRecDepth 100000 in
set_option maxHeartbeats 8000000 in
theorem plays_walk {w : World} {p : Option Addr} {c : Nat} {ss : List St} (h : StepsIn w p ss) (hl : ss.length ≤ maxLen) :
    Calls Try.prog 8 #[.slice p ss.length c] w fun e w' => e = .returned (.bool true) ∧ Below w.heap.size w w' := by
  have HS := hid h
  clear h
  generalize hn0 : ss.length = n at *
  have hN := hid hn0
  clear hn0
  unfold maxLen at hl
  go_enter Try.func8, Try.ntmps8
  go_wp2_with fail
  with_reducible refine Calls.mono (works_any w) ?_
  rintro e w1 ⟨rfl, hb1⟩
  have B1 := hid hb1
  clear hb1
  go_wp2_with fail
  obtain ⟨N, hNs⟩ : ∃ N, w1.heap.size = N := ⟨_, rfl⟩
  have hNN := hid hNs
  with_reducible refine Calls.mono (new_any w1) ?_
  rintro e w2 ⟨rfl, hT0, hb2, hs2⟩
  rw [hNs] at hT0 hb2 hs2
  rw [hNs]
  clear hNs
  have T0 := hid hT0
  have B2 := hid hb2
  have S2 := hid hs2
  clear hT0 hb2 hs2
  go_wp2_with fail
  with_reducible refine Calls.mono (new_any w2) ?_
  rintro e w3 ⟨rfl, hT1, hb3, hs3⟩
  rw [S2.out] at hT1 hb3 hs3
  rw [S2.out]
  have T1 := hid hT1
  have B3 := hid hb3
  have S3 := hid hs3
  clear hT1 hb3 hs3
  go_wp2_with fail
  with_reducible refine Calls.mono (new_any w3) ?_
  rintro e w4 ⟨rfl, hT2, hb4, hs4⟩
  rw [S3.out] at hT2 hb4 hs4
  rw [S3.out]
  have T2 := hid hT2
  have B4 := hid hb4
  have S4 := hid hs4
  clear hT2 hb4 hs4
  go_wp2_with fail
  obtain ⟨wb, hwb⟩ : ∃ wb, (w4.alloc (.cells #[.pointer (some ⟨N + 1, 0, none⟩), .pointer (some ⟨N + 2 + 1, 0, none⟩), .pointer (some ⟨N + 2 + 2 + 1, 0, none⟩)] 61)).alloc (.cells #[.slice none 0 0, .slice none 0 0, .slice none 0 0] 63) = wb := ⟨_, rfl⟩
  have hs4 : w4.heap.size = N + 6 := S4.out
  have hB4b : Below (N + 6) w4 wb := by rw [← hwb, ← hs4]; exact ((Below.refl _ _).alloc (Nat.le_refl _) _).alloc (by simp) _
  have hs1 := hNN.out
  have P0 : Hid (Play N wb (fun _ => []) (fun _ => .slice none 0 0)) := by
    refine ⟨fun i hi => ?_, fun i hi => .inl ⟨rfl, rfl⟩, ?_, ?_⟩
    · match i, hi with
      | 0, _ => exact ((T0.out.lowN B3.out (by omega) (by omega)).lowN B4.out (by omega) (by omega)).lowN hB4b (by omega) (by omega)
      | 1, _ => exact (T1.out.lowN B4.out (by omega) (by omega)).lowN hB4b (by omega) (by omega)
      | 2, _ => exact T2.out.lowN hB4b (by omega) (by omega)
    · have := (Blk.new w4 61 #[.pointer (some ⟨N + 1, 0, none⟩), .pointer (some ⟨N + 2 + 1, 0, none⟩), .pointer (some ⟨N + 2 + 2 + 1, 0, none⟩)]).alloc (.cells #[.slice none 0 0, .slice none 0 0, .slice none 0 0] 63)
      rw [hwb, hs4] at this
      exact this
    · have := Blk.new (w4.alloc (.cells #[.pointer (some ⟨N + 1, 0, none⟩), .pointer (some ⟨N + 2 + 1, 0, none⟩), .pointer (some ⟨N + 2 + 2 + 1, 0, none⟩)] 61)) 63 #[.slice none 0 0, .slice none 0 0, .slice none 0 0]
      rw [hwb, World.size_alloc, hs4] at this
      exact this
  have Bb : Hid (Below w.heap.size w wb) := by
    have b1 := B1.out
    have n1 := b1.size
    exact (((b1.trans (B2.out.mono (by omega))).trans (B3.out.mono (by omega))).trans (B4.out.mono (by omega))).trans (hB4b.mono (by omega))
  have hwN : w.heap.size ≤ N := by rw [← hs1]; exact B1.out.size
  rw [hwb, hs4]
  rw [show N + 6 + 1 = N + 7 from rfl]
  clear hwb hs4 hB4b hs1 T0 T1 T2 B2 B3 B4 S2 S3 S4 hNN B1
  go_loopw [31] (fun i wr => ∃ (j : Nat) (Ls : Nat → List Ent) (vs : Nat → Value), j ≤ n ∧ i = .int .i64 j ∧ Hid (Play N wr Ls vs) ∧ Hid (Below w.heap.size w wr)) (fun i _ => n - (intOf i).toNat)
  case atStart => exact ⟨0, _, _, Nat.zero_le _, rfl, P0, Bb⟩
  case round =>
    obtain ⟨j, Ls, vs, hj, rfl, hP, hB⟩ := hrel
    by_cases hlt : j < n
    · obtain ⟨x, hx⟩ : ∃ x, ss[j]? = some x := ⟨_, List.getElem?_eq_getElem (by rw [hN.out]; exact hlt)⟩
      obtain ⟨g, off, rfl, hg, q0, q1, q2, q3, q4⟩ := HS.out.at_ j x hx
      have hxs := HS.out.sz x (List.mem_of_getElem? hx)
      have e := hB.out.block g hg
      replace q0 := (World.cell?_of_block (a := ⟨g, off + j * 5, none⟩) e).trans q0
      replace q1 := (World.cell?_of_block (a := ⟨g, off + j * 5 + 1, none⟩) e).trans q1
      replace q2 := (World.cell?_of_block (a := ⟨g, off + j * 5 + 2, none⟩) e).trans q2
      replace q3 := (World.cell?_of_block (a := ⟨g, off + j * 5 + 3, none⟩) e).trans q3
      replace q4 := (World.cell?_of_block (a := ⟨g, off + j * 5 + 4, none⟩) e).trans q4
      have hki : (j : Int) < n := by omega
      obtain ⟨kind, who, is, word, num⟩ := x
      dsimp only at q0 q1 q2 q3 q4 hxs
      clear hx e
      go_wp2_with fail
      obtain ⟨X, hX⟩ : ∃ X, wr.heap.size = X := ⟨_, rfl⟩
      have hX7 : N + 7 < X := by rw [← hX]; exact hP.out.b.lt
      have KX := hid (Blk.new wr 65 #[.int .i64 kind, .int .i64 who, .int .i64 is, .string word, .int .i64 num])
      have PA := hid (hP.out.low ((Below.refl _ _).alloc (Nat.le_refl _) (.cells #[.int .i64 kind, .int .i64 who, .int .i64 is, .string word, .int .i64 num] 65)))
      have BA := hid (hB.out.alloc hB.out.size (.cells #[.int .i64 kind, .int .i64 who, .int .i64 is, .string word, .int .i64 num] 65))
      rw [hX] at KX
      rw [hX]
      generalize hwa : wr.alloc (.cells #[.int .i64 kind, .int .i64 who, .int .i64 is, .string word, .int .i64 num] 65) = wa at *
      clear hwa hX q0 q1 q2 q3 q4 hP hB
      have q0 := KX.out.cell (k := 0) (v := .int .i64 kind) rfl
      have q1 := KX.out.cell (k := 1) (v := .int .i64 who) rfl
      have q2 := KX.out.cell (k := 2) (v := .int .i64 is) rfl
      have q3 := KX.out.cell (k := 3) (v := .string word) rfl
      have q4 := KX.out.cell (k := 4) (v := .int .i64 num) rfl
      refine draw_allB (by kernel_rfl) (by kernel_rfl) ?_
      repeat (refine bq_step (fun K hK => ?_); go_simp; refine ⟨hK _ ?_⟩; clear hK K)
      refine bq_nil ?_
      rintro _ ⟨q, rfl⟩
      have dB : Below wa.heap.size wa (wa.drewN q) := ⟨rfl, rfl, rfl, Nat.le_refl _, fun _ _ => rfl⟩
      replace KX := hid (KX.out.low dB)
      replace PA := hid (PA.out.low dB)
      replace BA := hid (BA.out.trans (dB.mono BA.out.size))
      clear q0 q1 q2 q3 q4 dB
      generalize wa.drewN q = wd at *
      rcases rem3 who with r1 | ⟨k1, hk1, r1⟩
      · have t1 : decide (who.tmod 3 < 0) = true := decide_eq_true r1
        go_wp2_with fail
        go_roundw
        case rel => exact ⟨j + 1, Ls, vs, by omega, by go_num, PA, BA⟩
        case measure => simp [intOf]; omega
      rcases rem3 is with r2 | ⟨k2, hk2, r2⟩
      · have t1 : decide (who.tmod 3 < 0) = false := decide_eq_false (by omega)
        have t2 : decide (is.tmod 3 < 0) = true := decide_eq_true r2
        go_wp2_with fail
        go_roundw
        case rel => exact ⟨j + 1, Ls, vs, by omega, by go_num, PA, BA⟩
        case measure => simp [intOf]; omega
      have t1 : decide (who.tmod 3 < 0) = false := decide_eq_false (by omega)
      have t2 : decide (is.tmod 3 < 0) = false := decide_eq_false (by omega)
      have t3 : ¬ (k1 : Int) < 0 := by omega
      have t4 : ¬ (k2 : Int) < 0 := by omega
      go_wp2_with fail
      have a1 := (PA.out.at_ hk1).1
      have b1 := (PA.out.at_ hk1).2.1
      have u1 : (k1 : Int) < 3 := by omega
      have u2 : (k2 : Int) < 3 := by omega
      refine draw_allB (by kernel_rfl) (by kernel_rfl) ?_
      repeat (refine bq_step (fun K hK => ?_); go_simp; refine ⟨hK _ ?_⟩; clear hK K)
      refine bq_nil ?_
      rintro _ ⟨q, rfl⟩
      have dB : Below wd.heap.size wd (wd.drewN q) := ⟨rfl, rfl, rfl, Nat.le_refl _, fun _ _ => rfl⟩
      replace KX := hid (KX.out.low dB)
      replace PA := hid (PA.out.low dB)
      replace BA := hid (BA.out.trans (dB.mono BA.out.size))
      clear a1 b1 dB
      generalize wd.drewN q = we at *
      have q0 := KX.out.cell (k := 0) (v := .int .i64 kind) rfl
      have q3 := KX.out.cell (k := 3) (v := .string word) rfl
      have q4 := KX.out.cell (k := 4) (v := .int .i64 num) rfl
      have a2 := (PA.out.at_ hk2).1
      by_cases e0 : kind = 0
      · subst e0
        have hA := hid (add_any (PA.out.tal k1 hk1) word num hxs)
        go_wp2_with fail
        with_reducible refine Calls.mono hA.out ?_
        rintro e w2 ⟨rfl, hT2, hB2, hs2⟩
        obtain ⟨h1, h2, h3, h4⟩ := PA.out.turn (L' := []) hk1 hB2
        have KX2 : Blk w2 X 65 #[.int .i64 0, .int .i64 who, .int .i64 is, .string word, .int .i64 num] := (hB2.block X KX.out.lt (by omega) (by omega)).trans KX.out
        have hR := hid (radd_any (h2 k1 hk1) (PA.out.tal k1 hk1).he (PA.out.tal k1 hk1).nd word num)
        have HT2 := hid hT2
        have HB2 := hid hB2
        have H4 := hid h4
        have K2 := hid KX2
        clear q0 q3 q4 a2 hA h1 h2 h3 h4 hT2 hB2 hs2 KX2
        have q3 := K2.out.cell (k := 3) (v := .string word) rfl
        have q4 := K2.out.cell (k := 4) (v := .int .i64 num) rfl
        generalize addE (Ls k1) word num = aE at *
        generalize addR (Ls k1) word num = aR at *
        go_wp2_with fail
        with_reducible refine Calls.mono hR.out ?_
        rintro e w3 ⟨u, rfl, hu, hb3⟩
        obtain ⟨up, uc, hus, -⟩ := hu.opened
        subst hus
        generalize hul : aR.length = ul at *
        clear hul
        have PQ := hid (PA.out.step hk1 HT2.out HB2.out hb3 hu)
        have K3 := hid (blk_set (K2.out.low hb3) (B' := N + 7) (by omega) k1 (.slice up ul uc))
        have BQ : Hid (Below w.heap.size w (w3.setCell ⟨N + 7, k1, none⟩ (.slice up ul uc))) := by
          have e1 : Below w.heap.size we w2 := HB2.out.below (by omega) (by omega) BA.out.size
          exact ((BA.out.trans e1).trans (hb3.mono (Nat.le_trans BA.out.size HB2.out.size))).setCell (p := ⟨N + 7, k1, none⟩) (by show w.heap.size ≤ N + 7; omega) _
        have s1 : w3.cell? ⟨N + 7, k1, none⟩ = some (vs k1) := by
          exact blk3 (H4.out.low hb3) hk1
        have s2 := (H4.out.low hb3).froz k1
        have s3 := (H4.out.low hb3).lt
        clear q3 q4 hR hu hb3 HT2 HB2 H4 K2 PA KX BA
        go_wp2_with fail
        clear s1 s2 s3
        have KQ := K3
        generalize upd Ls k1 aR = LS at *
        generalize upd vs k1 (.slice up ul uc) = VS at *
        generalize w3.setCell ⟨N + 7, k1, none⟩ (.slice up ul uc) = wq at *
        have c3 := KQ.out.cell (k := 3) (v := .string word) rfl
        have b1 := (PQ.out.at_ hk1).2.1
        have hC1 : Hid (∀ x : Ext wq, Calls Try.prog 21 #[.pointer (some ⟨N + 2 * k1 + 1, 0, none⟩), .string word] x.w fun e w' => e = .returned (.int .i64 (countL (LS k1) word)) ∧ Below x.w.heap.size x.w w') := fun x => (count_any ((PQ.out.low x.h).tal k1 hk1) word hxs).mono fun _ _ h => ⟨h.1, h.2 ▸ Below.refl _ _⟩
        have hC2 : Hid (∀ x : Ext wq, Calls Try.prog 47 #[VS k1, .string word] x.w fun e w' => e = .returned (.int .i64 (countL (LS k1) word)) ∧ Below x.w.heap.size x.w w') := fun x => (rcount_any ((PQ.out.low x.h).ents k1 hk1) word (by have := (PQ.out.tal k1 hk1).he.len; omega)).mono fun _ _ h => ⟨h.1, h.2 ▸ Below.refl _ _⟩
        have hC3 : Hid (∀ x : Ext wq, Calls Try.prog 48 #[.pointer (some ⟨N + 2 * k1 + 1, 0, none⟩), VS k1] x.w fun e w' => e = .returned (.bool true) ∧ Below x.w.heap.size x.w w') := fun x => is_any ((PQ.out.low x.h).tal k1 hk1) ((PQ.out.low x.h).ents k1 hk1)
        refine ext_allB (by kernel_rfl) (by kernel_rfl) ?_
        repeat (refine bq_step (fun K hK => ?_); go_simp; first | (refine ⟨hK _ ?_⟩; clear hK K) | (refine ⟨?_⟩; apply Exists.intro; refine ⟨fun x => ?_, hK _ ?_⟩; (first | (with_reducible exact Ext.call (hC1.out _)) | (with_reducible exact Ext.call (hC2.out _)) | (with_reducible exact Ext.call (hC3.out _))); clear hK K))
        refine bq_nil ?_
        rintro _ ⟨z, rfl⟩
        clear c3 b1 hC1 hC2 hC3
        have PZ := hid (PQ.out.low z.h)
        have BZ := hid (BQ.out.trans (z.h.mono BQ.out.size))
        go_wp2_with fail
        go_roundw
        case rel => exact ⟨j + 1, _, _, by omega, by go_num, PZ, BZ⟩
        case measure => simp [intOf]; omega
      have z0 : (kind == 0) = false := by rw [beq_eq_false_iff_ne]; exact e0
      by_cases e1 : kind = 1
      · subst e1
        clear z0 e0
        have hM := hid (merge_any (PA.out.tal k1 hk1) (PA.out.tal k2 hk2))
        go_wp2_with fail
        with_reducible refine Calls.mono hM.out ?_
        rintro e w2 ⟨rfl, hT2, hB2⟩
        obtain ⟨h1, h2, h3, h4⟩ := PA.out.turn (L' := []) hk1 hB2
        have KX2 : Blk w2 X 65 #[.int .i64 1, .int .i64 who, .int .i64 is, .string word, .int .i64 num] := (hB2.block X KX.out.lt (by omega) (by omega)).trans KX.out
        have hR := hid (rmerge_any (h2 k1 hk1) (h2 k2 hk2) (PA.out.tal k1 hk1).he (PA.out.tal k2 hk2).he (PA.out.tal k1 hk1).nd)
        have b2 := blk3 h4 hk2
        have HT2 := hid hT2
        have HB2 := hid hB2
        have H4 := hid h4
        have K2 := hid KX2
        clear q0 q3 q4 a2 hM h1 h2 h3 h4 hT2 hB2 KX2
        generalize mergeE (Ls k1) (Ls k2) = aE at *
        generalize mergeR (Ls k1) (Ls k2) = aR at *
        go_wp2_with fail
        with_reducible refine Calls.mono hR.out ?_
        rintro e w3 ⟨u, rfl, hu, hb3⟩
        obtain ⟨up, uc, hus, -⟩ := hu.opened
        subst hus
        generalize hul : aR.length = ul at *
        clear hul b2
        have PQ := hid (PA.out.step hk1 HT2.out HB2.out hb3 hu)
        have K3 := hid (blk_set (K2.out.low hb3) (B' := N + 7) (by omega) k1 (.slice up ul uc))
        have BQ : Hid (Below w.heap.size w (w3.setCell ⟨N + 7, k1, none⟩ (.slice up ul uc))) := by
          have e1 : Below w.heap.size we w2 := HB2.out.below (by omega) (by omega) BA.out.size
          exact ((BA.out.trans e1).trans (hb3.mono (Nat.le_trans BA.out.size HB2.out.size))).setCell (p := ⟨N + 7, k1, none⟩) (by show w.heap.size ≤ N + 7; omega) _
        have s1 : w3.cell? ⟨N + 7, k1, none⟩ = some (vs k1) := by
          exact blk3 (H4.out.low hb3) hk1
        have s2 := (H4.out.low hb3).froz k1
        have s3 := (H4.out.low hb3).lt
        clear hR hu hb3 HT2 HB2 H4 K2 PA KX BA
        go_wp2_with fail
        clear s1 s2 s3
        have KQ := K3
        generalize upd Ls k1 aR = LS at *
        generalize upd vs k1 (.slice up ul uc) = VS at *
        generalize w3.setCell ⟨N + 7, k1, none⟩ (.slice up ul uc) = wq at *
        have c3 := KQ.out.cell (k := 3) (v := .string word) rfl
        have b1 := (PQ.out.at_ hk1).2.1
        have hC1 : Hid (∀ x : Ext wq, Calls Try.prog 21 #[.pointer (some ⟨N + 2 * k1 + 1, 0, none⟩), .string word] x.w fun e w' => e = .returned (.int .i64 (countL (LS k1) word)) ∧ Below x.w.heap.size x.w w') := fun x => (count_any ((PQ.out.low x.h).tal k1 hk1) word hxs).mono fun _ _ h => ⟨h.1, h.2 ▸ Below.refl _ _⟩
        have hC2 : Hid (∀ x : Ext wq, Calls Try.prog 47 #[VS k1, .string word] x.w fun e w' => e = .returned (.int .i64 (countL (LS k1) word)) ∧ Below x.w.heap.size x.w w') := fun x => (rcount_any ((PQ.out.low x.h).ents k1 hk1) word (by have := (PQ.out.tal k1 hk1).he.len; omega)).mono fun _ _ h => ⟨h.1, h.2 ▸ Below.refl _ _⟩
        have hC3 : Hid (∀ x : Ext wq, Calls Try.prog 48 #[.pointer (some ⟨N + 2 * k1 + 1, 0, none⟩), VS k1] x.w fun e w' => e = .returned (.bool true) ∧ Below x.w.heap.size x.w w') := fun x => is_any ((PQ.out.low x.h).tal k1 hk1) ((PQ.out.low x.h).ents k1 hk1)
        refine ext_allB (by kernel_rfl) (by kernel_rfl) ?_
        repeat (refine bq_step (fun K hK => ?_); go_simp; first | (refine ⟨hK _ ?_⟩; clear hK K) | (refine ⟨?_⟩; apply Exists.intro; refine ⟨fun x => ?_, hK _ ?_⟩; (first | (with_reducible exact Ext.call (hC1.out _)) | (with_reducible exact Ext.call (hC2.out _)) | (with_reducible exact Ext.call (hC3.out _))); clear hK K))
        refine bq_nil ?_
        rintro _ ⟨z, rfl⟩
        clear c3 b1 hC1 hC2 hC3
        have PZ := hid (PQ.out.low z.h)
        have BZ := hid (BQ.out.trans (z.h.mono BQ.out.size))
        go_wp2_with fail
        go_roundw
        case rel => exact ⟨j + 1, _, _, by omega, by go_num, PZ, BZ⟩
        case measure => simp [intOf]; omega
      have z1 : (kind == 1) = false := by rw [beq_eq_false_iff_ne]; exact e1
      by_cases e2 : kind = 2
      · subst e2
        clear z0 e0 z1 e1
        have hZ1 := hid (zipf39 (PA.out.tal k1 hk1))
        go_wp2_with fail
        with_reducible refine Calls.mono hZ1.out ?_
        rintro e w2 ⟨m1, rfl, hm1, hb2⟩
        have P2 := hid (PA.out.low hb2)
        have K2 := hid (KX.out.low hb2)
        have B2 := hid (BA.out.trans (hb2.mono BA.out.size))
        have hZ2 := hid (zipf40 (P2.out.ents k1 hk1) (P2.out.tal k1 hk1).he.len)
        have HM1 := hid hm1
        clear q0 q3 q4 a2 hZ1 hm1 hb2 PA KX BA
        go_wp2_with fail
        with_reducible refine Calls.mono hZ2.out ?_
        rintro e w3 ⟨m2, rfl, hm2, hb3⟩
        have P3 := hid (P2.out.low hb3)
        have K3 := hid (K2.out.low hb3)
        have B3 := hid (B2.out.trans (hb3.mono B2.out.size))
        have hSm := hid (fun W => same_cl m1 m2 (HM1.out.trans hm2.symm) W)
        have hR1 := hid (rate41 (P3.out.tal k1 hk1))
        clear hZ2 hm2 hb3 P2 K2 B2 HM1
        generalize (zipV (Ls k1)).2 = zE at *
        go_wp2_with fail
        with_reducible refine Calls.mono (hSm.out _) ?_
        rintro e w' ⟨rfl, rfl⟩
        go_wp2_with fail
        with_reducible refine Calls.mono hR1.out ?_
        rintro e w4 ⟨r1, q1, rfl, hr1, hw4⟩
        have hb4 : Below w3.heap.size w3 w4 := by rw [hw4]; exact ⟨rfl, rfl, rfl, Nat.le_refl _, fun _ _ => rfl⟩
        have P4 := hid (P3.out.low hb4)
        have K4 := hid (K3.out.low hb4)
        have B4 := hid (B3.out.trans (hb4.mono B3.out.size))
        have HR1 := hid hr1
        have hR2 := hid (rate42 (P4.out.ents k1 hk1) (P4.out.tal k1 hk1).he)
        clear hSm hR1 hr1 hw4 hb4 P3 K3 B3
        go_wp2_with fail
        with_reducible refine Calls.mono hR2.out ?_
        rintro e w5 ⟨r2, q2, rfl, hr2, hw5⟩
        have hb5 : Below w4.heap.size w4 w5 := by rw [hw5]; exact ⟨rfl, rfl, rfl, Nat.le_refl _, fun _ _ => rfl⟩
        have P5 := hid (P4.out.low hb5)
        have K5 := hid (K4.out.low hb5)
        have B5 := hid (B4.out.trans (hb5.mono B4.out.size))
        have hSm := hid (fun W => same_cl r1 r2 (HR1.out.trans hr2.symm) W)
        have hE1 := hid (ent43 (P5.out.tal k1 hk1))
        clear hR2 hr2 hw5 hb5 P4 K4 B4 HR1
        go_wp2_with fail
        with_reducible refine Calls.mono (hSm.out _) ?_
        rintro e w' ⟨rfl, rfl⟩
        go_wp2_with fail
        with_reducible refine Calls.mono hE1.out ?_
        rintro e w6 ⟨e1, rfl, he1, hb6⟩
        have P6 := hid (P5.out.low hb6)
        have K6 := hid (K5.out.low hb6)
        have B6 := hid (B5.out.trans (hb6.mono B5.out.size))
        have HE1 := hid he1
        have hE2 := hid (ent44 (P6.out.ents k1 hk1) (P6.out.tal k1 hk1).he)
        clear hSm hE1 he1 hb6 P5 K5 B5
        go_wp2_with fail
        with_reducible refine Calls.mono hE2.out ?_
        rintro e w7 ⟨e2, q3, rfl, he2, hw7⟩
        have hb7 : Below w6.heap.size w6 w7 := by rw [hw7]; exact ⟨rfl, rfl, rfl, Nat.le_refl _, fun _ _ => rfl⟩
        have PQ := hid (P6.out.low hb7)
        have KQ := hid (K6.out.low hb7)
        have BQ := hid (B6.out.trans (hb7.mono B6.out.size))
        have hSm := hid (fun W => same_cl e1 e2 (HE1.out.trans he2.symm) W)
        clear hE2 he2 hw7 hb7 P6 K6 B6 HE1
        go_wp2_with fail
        with_reducible refine Calls.mono (hSm.out _) ?_
        rintro e w' ⟨rfl, rfl⟩
        clear hSm
        go_wp2_with fail
        generalize hLS : Ls = LS at *
        generalize hVS : vs = VS at *
        generalize w7 = wq at *
        have c3 := KQ.out.cell (k := 3) (v := .string word) rfl
        have b1 := (PQ.out.at_ hk1).2.1
        have hC1 : Hid (∀ x : Ext wq, Calls Try.prog 21 #[.pointer (some ⟨N + 2 * k1 + 1, 0, none⟩), .string word] x.w fun e w' => e = .returned (.int .i64 (countL (LS k1) word)) ∧ Below x.w.heap.size x.w w') := fun x => (count_any ((PQ.out.low x.h).tal k1 hk1) word hxs).mono fun _ _ h => ⟨h.1, h.2 ▸ Below.refl _ _⟩
        have hC2 : Hid (∀ x : Ext wq, Calls Try.prog 47 #[VS k1, .string word] x.w fun e w' => e = .returned (.int .i64 (countL (LS k1) word)) ∧ Below x.w.heap.size x.w w') := fun x => (rcount_any ((PQ.out.low x.h).ents k1 hk1) word (by have := (PQ.out.tal k1 hk1).he.len; omega)).mono fun _ _ h => ⟨h.1, h.2 ▸ Below.refl _ _⟩
        have hC3 : Hid (∀ x : Ext wq, Calls Try.prog 48 #[.pointer (some ⟨N + 2 * k1 + 1, 0, none⟩), VS k1] x.w fun e w' => e = .returned (.bool true) ∧ Below x.w.heap.size x.w w') := fun x => is_any ((PQ.out.low x.h).tal k1 hk1) ((PQ.out.low x.h).ents k1 hk1)
        refine ext_allB (by kernel_rfl) (by kernel_rfl) ?_
        repeat (refine bq_step (fun K hK => ?_); go_simp; first | (refine ⟨hK _ ?_⟩; clear hK K) | (refine ⟨?_⟩; apply Exists.intro; refine ⟨fun x => ?_, hK _ ?_⟩; (first | (with_reducible exact Ext.call (hC1.out _)) | (with_reducible exact Ext.call (hC2.out _)) | (with_reducible exact Ext.call (hC3.out _))); clear hK K))
        refine bq_nil ?_
        rintro _ ⟨z, rfl⟩
        clear c3 b1 hC1 hC2 hC3
        have PZ := hid (PQ.out.low z.h)
        have BZ := hid (BQ.out.trans (z.h.mono BQ.out.size))
        go_wp2_with fail
        go_roundw
        case rel => exact ⟨j + 1, _, _, by omega, by go_num, PZ, BZ⟩
        case measure => simp [intOf]; omega
      have z2 : (kind == 2) = false := by rw [beq_eq_false_iff_ne]; exact e2
      by_cases e3 : kind = 3
      · subst e3
        clear z0 e0 z1 e1 z2 e2
        obtain ⟨W, hW⟩ := words_ex (M := Ls k2) (PA.out.tal k1 hk1).nd
        obtain ⟨r0, hr0⟩ := cos_att (Ls k1) (Ls k2) W
        have hex : ∃ v : Value, ∃ r, v = .float .f64 r ∧ cl r = cosV (Ls k1) (Ls k2) W := ⟨_, r0, rfl, hr0⟩
        have hC1 : Hid (∀ x : Ext we, Calls Try.prog 45 #[.pointer (some ⟨N + 2 * k1 + 1, 0, none⟩), .pointer (some ⟨N + 2 * k2 + 1, 0, none⟩)] x.w fun e w' => ∃ r, e = .returned (.float .f64 r) ∧ cl r = cosV (Ls k1) (Ls k2) W ∧ Below x.w.heap.size x.w w') := fun x => cos45 ((PA.out.low x.h).tal k1 hk1) ((PA.out.low x.h).tal k2 hk2) hW
        have hC2 : Hid (∀ x : Ext we, Calls Try.prog 46 #[vs k1, vs k2] x.w fun e w' => ∃ r, e = .returned (.float .f64 r) ∧ cl r = cosV (Ls k1) (Ls k2) W ∧ Below x.w.heap.size x.w w') := fun x => cos46 ((PA.out.low x.h).ents k1 hk1) ((PA.out.low x.h).ents k2 hk2) (PA.out.tal k1 hk1).he (PA.out.tal k2 hk2).he (PA.out.tal k1 hk1).nd (PA.out.tal k2 hk2).nd hW
        have b2 := (PA.out.at_ hk2).2.1
        clear hr0 hW q3 q4
        generalize cosV (Ls k1) (Ls k2) W = C at *
        replace hex := hid hex
        go_wp2_with fail
        clear q0
        refine ext_someV (fun f => f == 45 || f == 46) (fun _ v => ∃ r, v = .float .f64 r ∧ cl r = C) (fun _ _ => undef) 10 (by kernel_rfl) (by kernel_rfl) ?_
        simp only [List.take_succ_cons, List.take_zero, List.drop_succ_cons, List.drop_zero]
        iterate 4 (refine bs_stepV (fun K hK => ?_); go_simp; refine ⟨hK _ ?_⟩; clear hK K)
        refine bs_someV (fun v => ∃ r, v = .float .f64 r ∧ cl r = C) hex.out rfl ?_ ?_
        · rintro w' ⟨x, rfl⟩
          go_simp
          refine ⟨⟨x, rfl⟩, rfl, hex.out, ?_⟩
          refine Calls.mono (hC1.out x) ?_
          rintro e w' ⟨r, rfl, hr, hbx⟩
          exact ⟨_, rfl, ⟨_, rfl, hr⟩, ⟨⟨_, x.h.trans (hbx.mono x.h.size)⟩, rfl⟩⟩
        rintro v ⟨r1, rfl, hr1⟩
        have HR1 := hid hr1
        clear hr1
        dsimp only [Act.put, List.setIfInBounds_toArray, List.set_cons_succ, List.set_cons_zero]
        iterate 4 (refine bs_stepV (fun K hK => ?_); go_simp; refine ⟨hK _ ?_⟩; clear hK K)
        refine bs_someV (fun v => ∃ r, v = .float .f64 r ∧ cl r = C) hex.out rfl ?_ ?_
        · rintro w' ⟨x, rfl⟩
          go_simp
          refine ⟨⟨x, rfl⟩, rfl, hex.out, ?_⟩
          refine Calls.mono (hC2.out x) ?_
          rintro e w' ⟨r, rfl, hr, hbx⟩
          exact ⟨_, rfl, ⟨_, rfl, hr⟩, ⟨⟨_, x.h.trans (hbx.mono x.h.size)⟩, rfl⟩⟩
        rintro v ⟨r2, rfl, hr2⟩
        have hSm := hid (fun W => same_cl r1 r2 (HR1.out.trans hr2.symm) W)
        clear hr2
        dsimp only [Act.put, List.setIfInBounds_toArray, List.set_cons_succ, List.set_cons_zero]
        refine bs_nilV ?_
        rintro _ ⟨z0, rfl⟩
        have PQ := hid (PA.out.low z0.h)
        have KQ := hid (KX.out.low z0.h)
        have BQ := hid (BA.out.trans (z0.h.mono BA.out.size))
        clear hC1 hC2 hex HR1 a2 b2 PA KX BA
        generalize z0.w = wq at *
        go_wp2_with fail
        with_reducible refine Calls.mono (hSm.out _) ?_
        rintro e w' ⟨rfl, rfl⟩
        clear hSm
        go_wp2_with fail
        generalize hLS : Ls = LS at *
        generalize hVS : vs = VS at *
        have c3 := KQ.out.cell (k := 3) (v := .string word) rfl
        have b1 := (PQ.out.at_ hk1).2.1
        have hC1 : Hid (∀ x : Ext wq, Calls Try.prog 21 #[.pointer (some ⟨N + 2 * k1 + 1, 0, none⟩), .string word] x.w fun e w' => e = .returned (.int .i64 (countL (LS k1) word)) ∧ Below x.w.heap.size x.w w') := fun x => (count_any ((PQ.out.low x.h).tal k1 hk1) word hxs).mono fun _ _ h => ⟨h.1, h.2 ▸ Below.refl _ _⟩
        have hC2 : Hid (∀ x : Ext wq, Calls Try.prog 47 #[VS k1, .string word] x.w fun e w' => e = .returned (.int .i64 (countL (LS k1) word)) ∧ Below x.w.heap.size x.w w') := fun x => (rcount_any ((PQ.out.low x.h).ents k1 hk1) word (by have := (PQ.out.tal k1 hk1).he.len; omega)).mono fun _ _ h => ⟨h.1, h.2 ▸ Below.refl _ _⟩
        have hC3 : Hid (∀ x : Ext wq, Calls Try.prog 48 #[.pointer (some ⟨N + 2 * k1 + 1, 0, none⟩), VS k1] x.w fun e w' => e = .returned (.bool true) ∧ Below x.w.heap.size x.w w') := fun x => is_any ((PQ.out.low x.h).tal k1 hk1) ((PQ.out.low x.h).ents k1 hk1)
        refine ext_allB (by kernel_rfl) (by kernel_rfl) ?_
        repeat (refine bq_step (fun K hK => ?_); go_simp; first | (refine ⟨hK _ ?_⟩; clear hK K) | (refine ⟨?_⟩; apply Exists.intro; refine ⟨fun x => ?_, hK _ ?_⟩; (first | (with_reducible exact Ext.call (hC1.out _)) | (with_reducible exact Ext.call (hC2.out _)) | (with_reducible exact Ext.call (hC3.out _))); clear hK K))
        refine bq_nil ?_
        rintro _ ⟨z, rfl⟩
        clear c3 b1 hC1 hC2 hC3
        have PZ := hid (PQ.out.low z.h)
        have BZ := hid (BQ.out.trans (z.h.mono BQ.out.size))
        go_wp2_with fail
        go_roundw
        case rel => exact ⟨j + 1, _, _, by omega, by go_num, PZ, BZ⟩
        case measure => simp [intOf]; omega
      have z3 : (kind == 3) = false := by rw [beq_eq_false_iff_ne]; exact e3
      have PQ := PA
      have KQ := KX
      have BQ := BA
      clear a2 e0 e1 e2 e3 PA KX BA
      go_wp2_with fail
      clear q0 q3 q4
      generalize hLS : Ls = LS at *
      generalize hVS : vs = VS at *
      generalize we = wq at *
      have c3 := KQ.out.cell (k := 3) (v := .string word) rfl
      have b1 := (PQ.out.at_ hk1).2.1
      have hC1 : Hid (∀ x : Ext wq, Calls Try.prog 21 #[.pointer (some ⟨N + 2 * k1 + 1, 0, none⟩), .string word] x.w fun e w' => e = .returned (.int .i64 (countL (LS k1) word)) ∧ Below x.w.heap.size x.w w') := fun x => (count_any ((PQ.out.low x.h).tal k1 hk1) word hxs).mono fun _ _ h => ⟨h.1, h.2 ▸ Below.refl _ _⟩
      have hC2 : Hid (∀ x : Ext wq, Calls Try.prog 47 #[VS k1, .string word] x.w fun e w' => e = .returned (.int .i64 (countL (LS k1) word)) ∧ Below x.w.heap.size x.w w') := fun x => (rcount_any ((PQ.out.low x.h).ents k1 hk1) word (by have := (PQ.out.tal k1 hk1).he.len; omega)).mono fun _ _ h => ⟨h.1, h.2 ▸ Below.refl _ _⟩
      have hC3 : Hid (∀ x : Ext wq, Calls Try.prog 48 #[.pointer (some ⟨N + 2 * k1 + 1, 0, none⟩), VS k1] x.w fun e w' => e = .returned (.bool true) ∧ Below x.w.heap.size x.w w') := fun x => is_any ((PQ.out.low x.h).tal k1 hk1) ((PQ.out.low x.h).ents k1 hk1)
      refine ext_allB (by kernel_rfl) (by kernel_rfl) ?_
      repeat (refine bq_step (fun K hK => ?_); go_simp; first | (refine ⟨hK _ ?_⟩; clear hK K) | (refine ⟨?_⟩; apply Exists.intro; refine ⟨fun x => ?_, hK _ ?_⟩; (first | (with_reducible exact Ext.call (hC1.out _)) | (with_reducible exact Ext.call (hC2.out _)) | (with_reducible exact Ext.call (hC3.out _))); clear hK K))
      refine bq_nil ?_
      rintro _ ⟨z, rfl⟩
      clear c3 b1 hC1 hC2 hC3
      have PZ := hid (PQ.out.low z.h)
      have BZ := hid (BQ.out.trans (z.h.mono BQ.out.size))
      go_wp2_with fail
      go_roundw
      case rel => exact ⟨j + 1, _, _, by omega, by go_num, PZ, BZ⟩
      case measure => simp [intOf]; omega
    · obtain rfl : j = n := by omega
      have a0 := hP.out.a.cell (k := 0) (v := .pointer (some ⟨N + 1, 0, none⟩)) rfl
      have a1 := hP.out.a.cell (k := 1) (v := .pointer (some ⟨N + 3, 0, none⟩)) rfl
      have a2 := hP.out.a.cell (k := 2) (v := .pointer (some ⟨N + 5, 0, none⟩)) rfl
      have P0 := hP
      have B0 := hB
      clear hP hB
      have i0 : ∀ w, (Instr.index 61 (.agg #[.pointer (some ⟨N + 1, 0, none⟩), .pointer (some ⟨N + 3, 0, none⟩), .pointer (some ⟨N + 5, 0, none⟩)]) (.int .i64 0)).run Try.prog w = .ok (.pointer (some ⟨N + 1, 0, none⟩)) w := fun _ => by kernel_rfl
      have i1 : ∀ w, (Instr.index 61 (.agg #[.pointer (some ⟨N + 1, 0, none⟩), .pointer (some ⟨N + 3, 0, none⟩), .pointer (some ⟨N + 5, 0, none⟩)]) (.int .i64 1)).run Try.prog w = .ok (.pointer (some ⟨N + 3, 0, none⟩)) w := fun _ => by kernel_rfl
      have i2 : ∀ w, (Instr.index 61 (.agg #[.pointer (some ⟨N + 1, 0, none⟩), .pointer (some ⟨N + 3, 0, none⟩), .pointer (some ⟨N + 5, 0, none⟩)]) (.int .i64 2)).run Try.prog w = .ok (.pointer (some ⟨N + 5, 0, none⟩)) w := fun _ => by kernel_rfl
      go_wp2_with fail
      refine wp_loop_rounds 4 ?_
      have b0 := (P0.out.at_ (i := 0) (by omega)).2.1
      have hI := hid (is_any (show Tal wr (N + 1) (N + 0) (Ls 0) from P0.out.tal 0 (by omega)) (P0.out.ents 0 (by omega)))
      rw [rounds_succ]
      go_wp2_with fail
      with_reducible refine Calls.mono hI.out ?_
      rintro e w5 ⟨rfl, hb⟩
      have P1 := hid (P0.out.low hb)
      have B1 := hid (B0.out.trans (hb.mono B0.out.size))
      clear hI hb b0
      go_wp2_with fail
      have b1 := (P1.out.at_ (i := 1) (by omega)).2.1
      have hI := hid (is_any (show Tal w5 (N + 3) (N + 2) (Ls 1) from P1.out.tal 1 (by omega)) (P1.out.ents 1 (by omega)))
      rw [rounds_succ]
      go_wp2_with fail
      with_reducible refine Calls.mono hI.out ?_
      rintro e w6 ⟨rfl, hb⟩
      have P2 := hid (P1.out.low hb)
      have B2 := hid (B1.out.trans (hb.mono B1.out.size))
      clear hI hb b1
      go_wp2_with fail
      have b2 := (P2.out.at_ (i := 2) (by omega)).2.1
      have hI := hid (is_any (show Tal w6 (N + 5) (N + 4) (Ls 2) from P2.out.tal 2 (by omega)) (P2.out.ents 2 (by omega)))
      rw [rounds_succ]
      go_wp2_with fail
      with_reducible refine Calls.mono hI.out ?_
      rintro e w7 ⟨rfl, hb⟩
      have P3 := hid (P2.out.low hb)
      have B3 := hid (B2.out.trans (hb.mono B2.out.size))
      clear hI hb b2
      go_wp2_with fail
      rw [rounds_succ]
      go_wp2_with fail
      with_reducible refine Calls.mono (works_any w7) ?_
      rintro e w8 ⟨rfl, hb⟩
      have BF := hid (B3.out.trans (hb.mono B3.out.size))
      clear hb
      go_wp2_with fail
      go_ret
      exact ⟨rfl, BF.out⟩
end Go.Proofs.Ythidjbobjjoekaa
