/- runes.Count, word.Count. Conditions: those of each theorem. -/
import Derived.Test.YtmpkfpabejpbkaaGreatDoorWk
namespace Go.Proofs.YtmpkfpabejpbkaaGreatDoor
open Go Go.RowKit Go.Lib Go.Shelf
set_option linter.unusedVariables false
set_option linter.unusedSimpArgs false
attribute [local go_sem] Oper.semAt_some C.Ext.cell C.Ext.froz
theorem posL_len (s : ByteArray) : ∀ (n p : Nat), n = s.size - p → (posL s p).length ≤ s.size - p := by
  intro n
  induction n using Nat.strongRecOn with
  | _ n ih =>
    intro p hn
    by_cases hp : p < s.size
    · have := wdN_pos hp
      rw [posL_more hp, List.length_cons]
      have := ih (s.size - (p + wdN s p)) (by omega) _ rfl
      omega
    · rw [posL_end hp]; exact Nat.zero_le _
theorem uStep_len (s : ByteArray) (st : List Un × Un) (p : Nat) : (uStep s st p).1.length ≤ st.1.length + 1 := by
  unfold uStep
  split
  · dsimp only; omega
  · dsimp only; split
    · simp
    · omega
theorem uFold_len (s : ByteArray) : ∀ (ps : List Nat) (st : List Un × Un), (ps.foldl (uStep s) st).1.length ≤ st.1.length + ps.length
  | [], st => by simp
  | p :: ps, st => by
    rw [List.foldl_cons, List.length_cons]
    have h1 := uFold_len s ps (uStep s st p)
    have h2 := uStep_len s st p
    omega
theorem unitsL_len (s : ByteArray) : (unitsL s).length ≤ s.size + 1 := by
  have h := uFold_len s (posL s 0) ([], ⟨0, 0, 0, 0, false⟩)
  have h2 := posL_len s _ 0 rfl
  unfold unitsL uFold
  simp only [List.length_nil] at h
  split
  · rw [List.length_append, List.length_singleton]; omega
  · omega
theorem toks_len (sc : Sc) : (toks sc).length ≤ 2 := by unfold toks; repeat' split
                                                        all_goals simp
theorem sStep_len (st : List Tk × Sc) (u : Un) : (sStep st u).1.length ≤ st.1.length + 2 := by
  unfold sStep
  split
  · dsimp only; omega
  · split
    · dsimp only; omega
    · dsimp only; rw [List.length_append]; have := toks_len (fitsU st.2 u).1; omega
theorem sFold_len : ∀ (us : List Un) (st : List Tk × Sc), (us.foldl sStep st).1.length ≤ st.1.length + 2 * us.length
  | [], st => by simp
  | u :: us, st => by
    rw [List.foldl_cons, List.length_cons]
    have h1 := sFold_len us (sStep st u)
    have h2 := sStep_len st u
    omega
theorem scanL_len (s : ByteArray) : (scanL s).length ≤ 2 * s.size + 4 := by
  have h := sFold_len (unitsL s) ([], ⟨0, 0, 0, 0, ⟨0, 0, 0, 0, false⟩⟩)
  have h2 := unitsL_len s
  have h3 := toks_len (sFold (unitsL s)).2
  unfold scanL
  rw [List.length_append]
  unfold sFold at h3 ⊢
  simp only [List.length_nil] at h
  omega
set_option maxHeartbeats 8000000 in
theorem rcount35 (s : ByteArray) (hs : s.size ≤ 1000000) (w : World) :
    Calls Tryz.prog 35 #[.string s] w fun e w' => e = .returned (.tuple #[.int .i64 ((posL s 0) : List Nat).length, .int .i64 (((posL s 0).filter (isBr s)).length : Nat)]) ∧ Below w.heap.size w w' := by
  refine (callsIn_wide (n := 9)).1 ?_
  refine callsIn_of_wp_marks Tryz.func35 rfl trivial ?_ rfl
  simp only [Tryz.ntmps35, List.size_toArray, List.length_cons, List.length_nil, Nat.reduceAdd, Nat.reduceSub, Array.replicate_succ, Array.replicate_zero, List.push_toArray, List.append_toArray, List.nil_append, List.cons_append]
  have hP := hid (fun W => pieces53 s W)
  gi_wp2_with fail
  refine ⟨trivial, ?_⟩
  with_reducible refine CallsIn.mono (callsIn_wide.2 (hP.out _)) ?_
  rintro e w4 ⟨rfl, hw4⟩
  obtain ⟨N, hNN⟩ : ∃ N, N = w.heap.size := ⟨_, rfl⟩
  have b0 : Blk w4 N 3 #[.int .i64 0] := by rw [hw4, hNN]; exact ((Blk.new w 3 #[.int .i64 0]).alloc _).alloc _
  have b1 : Blk w4 (N + 1) 3 #[.int .i64 0] := by
    have := (Blk.new (w.alloc (.cells #[.int .i64 0] 3)) 3 #[.int .i64 0]).alloc (.cells #[.string s] 9)
    rw [World.size_alloc] at this
    rw [hw4, hNN]; exact this
  have b2 : Blk w4 (N + 2) 9 #[.string s] := by
    have := Blk.new ((w.alloc (.cells #[.int .i64 0] 3)).alloc (.cells #[.int .i64 0] 3)) 9 #[.string s]
    simp only [World.size_alloc, Nat.add_assoc, Nat.reduceAdd] at this
    rw [hw4, hNN]; exact this
  have hN : w4.heap.size = N + 3 := by rw [hw4, hNN]; simp
  have hB4 : Below N w w4 := by rw [hw4, hNN]; exact (((Below.refl _ w).alloc (Nat.le_refl _) _).alloc (by simp) _).alloc (by simp; omega) _
  have B0 := hid b0
  have B1 := hid b1
  have B2 := hid b2
  have HB4 := hid hB4
  simp only [World.size_alloc, Nat.add_assoc, Nat.reduceAdd]
  rw [← hNN]
  have HNN := hid hNN
  clear hw4 hP b0 b1 b2 hB4 hNN
  gi_wp2_with fail
  refine name_actZ ?_
  intro Tm D hTm hD
  have hseq := pieces_seq 8 s (by omega) (N + 2) w4 (B2.out.cell (k := 0) rfl)
  refine rangeFunc_s (F := Fence.wide) (α := Nat) rfl (by omega) (gf := 73) (lb := #[.pointer (some ⟨N + 2, 0, none⟩)]) (by subst hTm; rfl) trivial (enters_of Tryz.func73 (by kernel_rfl) rfl)
    hseq (fun k hk => by omega) (Below.refl _ _) (fun _ => rfl)
    (fun pre S W => Blk W N 3 #[.int .i64 (pre.length : Nat)] ∧ Blk W (N + 1) 3 #[.int .i64 ((pre.filter (isBr s)).length : Nat)] ∧ N + 3 ≤ W.heap.size ∧ Below N w W)
    (fun _ _ _ _ => False)
    ?hI (fun c _ _ _ _ _ h _ _ _ => h) ⟨B0.out, B1.out, by omega, HB4.out⟩
    (fun pre S x a' W => ∃ Bx, w4.heap.size ≤ Bx ∧ ¬ S Bx ∧ Blk W Bx 124 (pcZ s x) ∧ Blk W N 3 #[.int .i64 (pre.length : Nat)] ∧ Blk W (N + 1) 3 #[.int .i64 ((pre.filter (isBr s)).length : Nat)] ∧ N + 3 ≤ W.heap.size ∧ Below N w W ∧ a' = { tmps := (Tm.setIfInBounds 9 (pcV s x)).setIfInBounds 6 (.pointer (some ⟨Bx, 0, none⟩)), defers := [] })
    ?hAx ?assign ?body ?done ?stop
  case hI =>
    intro pre S S' X Y ⟨h1, h2, h3, h4⟩ hS hK hS'
    have nb : ∀ k, k < N + 3 → ¬ S k := fun k h hs => by have := (hS k hs).1; omega
    exact ⟨h1.keep hK (nb _ (by omega)), h2.keep hK (nb _ (by omega)), by have := hK.size; omega, h4.trans (hK.below (by omega) (fun k hk => nb k (by omega)))⟩
  case hAx =>
    intro pre S x a' X lb o ⟨Bx, g1, g2, g3, g4, g5, g6, g7, g8⟩ hSl hS
    have hlb := (hS _ hSl).1
    exact ⟨Bx, g1, g2, g3.put (fun e => g2 (e ▸ hSl)) _, g4.put (by omega) _, g5.put (by omega) _, by simp [World.putObj]; omega, g7.trans ((Kept.putObj (T := fun k => k < N) X (by show ¬ (lb < N); omega) o).below (by omega) (fun k hk => hk)), g8⟩
  case assign =>
    rintro l' pre S x W5 K ⟨h0, h1, h2, h3⟩ hW5 hS5 hpre hK
    subst hTm hD
    have hB := Blk.new W5 124 (pcZ s x)
    have H := hK _ _ (Kept.alloc _ _ _) ⟨W5.heap.size, by omega, (fun h => by have := (hS5 _ h).2; omega), hB, h0.alloc _, h1.alloc _, by rw [World.size_alloc]; omega, h3.alloc (by omega) _, rfl⟩
    clear hK hB h0 h1 h3
    unfold pcV pcZ at H
    unfold pcV
    dsimp only at H
    simp only [List.setIfInBounds_toArray, List.set_cons_succ, List.set_cons_zero] at H
    gi_wp2
    exact H
  case body =>
    rintro l' pre S x a' W5 hSl ⟨rec, hrec⟩ hW5 hS5 hpre ⟨Bx, hBx, hSB, kx, k0, k1, h2, h3, rfl⟩
    have hlen : pre.length < 4000000 := by
      have h := hpre.length_le
      rw [List.length_append, List.length_singleton] at h
      have h2 := posL_len s _ 0 rfl
      omega
    have hsec : ((pre.filter (isBr s)).length : Nat) ≤ pre.length := List.length_filter_le _ _
    have hE : Hid ((pre ++ [x]).length = pre.length + 1) := hid (by simp)
    unfold pcZ at kx
    unfold pcV
    have c0 := kx.cell (k := 0) rfl
    have c3 := kx.cell (k := 3) rfl
    try dsimp only at c0
    have d0 := k0.cell (k := 0) rfl
    have d1 := k1.cell (k := 0) rfl
    have z0 := k0.froz 0
    have z1 := k1.froz 0
    have hS2 : Hid (Below N w W5) := hid h3
    have n0 : Hid (¬ ((N = N + 2) ∨ S N)) := hid (fun h => h.elim (fun h => by omega) (fun h => by have := (hS5 _ h).1; omega))
    have n1 : Hid (¬ ((N + 1 = N + 2) ∨ S (N + 1))) := hid (fun h => h.elim (fun h => by omega) (fun h => by have := (hS5 _ h).1; omega))
    have G0 := hid k0
    have G1 := hid k1
    subst hTm hD
    dsimp only
    simp only [List.setIfInBounds_toArray, List.set_cons_succ, List.set_cons_zero]
    by_cases hb : isBr s x = true
    · have e1 := hb
      have hv : Hid ((((pre ++ [x]).filter (isBr s)).length : Nat) = ((pre.filter (isBr s)).length : Nat) + 1) := hid (by rw [List.filter_append]; simp [hb])
      generalize pre.length = n at *
      generalize ((pre.filter (isBr s)).length : Nat) = m at *
      gi_wp2_with fail
      show Kept _ _ _ ∧ (Blk _ N 3 #[.int .i64 ((pre ++ [x]).length : Nat)] ∧ Blk _ (N + 1) 3 #[.int .i64 (((pre ++ [x]).filter (isBr s)).length : Nat)] ∧ _)
      rw [hE.out, hv.out]
      exact ⟨(Kept.setCell _ (by exact n0.out) _).trans (Kept.setCell _ (by exact n1.out) _), (G0.out.upd _ _ rfl).other (by omega) _, (G1.out.other (by omega) _).upd _ _ rfl, by simp [World.setCell]; omega, (hS2.out.setCell (p := ⟨N, 0, none⟩) (Nat.le_refl _) _).setCell (p := ⟨N + 1, 0, none⟩) (by show N ≤ N + 1; omega) _⟩
    · have e1 := (by simpa using hb : isBr s x = false)
      have hv : Hid ((((pre ++ [x]).filter (isBr s)).length : Nat) = ((pre.filter (isBr s)).length : Nat)) := hid (by rw [List.filter_append]; simp [hb])
      generalize pre.length = n at *
      generalize ((pre.filter (isBr s)).length : Nat) = m at *
      gi_wp2_with fail
      show Kept _ _ _ ∧ (Blk _ N 3 #[.int .i64 ((pre ++ [x]).length : Nat)] ∧ Blk _ (N + 1) 3 #[.int .i64 (((pre ++ [x]).filter (isBr s)).length : Nat)] ∧ _)
      rw [hE.out, hv.out]
      exact ⟨Kept.setCell _ (by exact n0.out) _, G0.out.upd _ _ rfl, G1.out.other (by omega) _, by simp [World.setCell]; omega, hS2.out.setCell (p := ⟨N, 0, none⟩) (Nat.le_refl _) _⟩
  case done =>
    rintro Dk W9 hDk ⟨h0, h1, h2, h3⟩ hK
    have hK0 := hid hK
    have d0 := h0.cell (k := 0) rfl
    have d1 := h1.cell (k := 0) rfl
    have H3 := hid h3
    have hDl := at_lt hK
    subst hTm hD
    clear h0 h1 h3 hK hseq
    gi_wp2_with fail
    refine C.draw_allInB (by kernel_rfl) (C.WideF.wide _ _) (by kernel_rfl) (by kernel_rfl) ?_
    repeat (refine C.bq_step (fun K hK => ?_); go_simp; refine ⟨hK _ ?_⟩; clear hK K)
    refine C.bq_nil ?_
    rintro _ ⟨dn, rfl⟩
    gi_wp2_with fail
    refine ⟨by simp, .inl ⟨_, _, rfl, run_takeDeferred (w := W9.drewN dn) hK0.out, ?_⟩⟩
    refine ⟨.tuple #[.int .i64 ((posL s 0) : List Nat).length, .int .i64 (((posL s 0).filter (isBr s)).length : Nat)], (by simp [results, Tryz.results35, go_sem]), rfl, ?_⟩
    have hb : Below N w (W9.drewN dn) := ⟨H3.out.os, H3.out.tape, H3.out.output, H3.out.size, H3.out.block⟩
    rw [← HNN.out]
    exact hb.trans ((Kept.putObj (T := fun k => k < N) (W9.drewN dn) (by show ¬ (Dk < N); omega) _).below (by show N ≤ W9.heap.size; omega) (fun k hk => hk))
  case stop =>
    rintro Dk c pre W9 hDk hpre h hK
    exact h.elim
set_option maxHeartbeats 8000000 in
theorem wcount36 (hOf : OfOk) (s : ByteArray) (hs : s.size ≤ 1000000) (w : World) :
    Calls Tryz.prog 36 #[.string s] w fun e w' => e = .returned (.tuple #[.int .i64 ((scanL s) : List Tk).length, .int .i64 ((wFil (scanL s)).length : Nat)]) ∧ Below w.heap.size w w' := by
  refine (callsIn_wide (n := 9)).1 ?_
  refine callsIn_of_wp_marks Tryz.func36 rfl trivial ?_ rfl
  simp only [Tryz.ntmps36, List.size_toArray, List.length_cons, List.length_nil, Nat.reduceAdd, Nat.reduceSub, Array.replicate_succ, Array.replicate_zero, List.push_toArray, List.append_toArray, List.nil_append, List.cons_append]
  have hP := hid (fun W => scan49 s W)
  gi_wp2_with fail
  refine ⟨trivial, ?_⟩
  with_reducible refine CallsIn.mono (callsIn_wide.2 (hP.out _)) ?_
  rintro e w4 ⟨rfl, hw4⟩
  obtain ⟨N, hNN⟩ : ∃ N, N = w.heap.size := ⟨_, rfl⟩
  have b0 : Blk w4 N 3 #[.int .i64 0] := by rw [hw4, hNN]; exact ((Blk.new w 3 #[.int .i64 0]).alloc _).alloc _
  have b1 : Blk w4 (N + 1) 3 #[.int .i64 0] := by
    have := (Blk.new (w.alloc (.cells #[.int .i64 0] 3)) 3 #[.int .i64 0]).alloc (.cells #[.string s] 9)
    rw [World.size_alloc] at this
    rw [hw4, hNN]; exact this
  have b2 : Blk w4 (N + 2) 9 #[.string s] := by
    have := Blk.new ((w.alloc (.cells #[.int .i64 0] 3)).alloc (.cells #[.int .i64 0] 3)) 9 #[.string s]
    simp only [World.size_alloc, Nat.add_assoc, Nat.reduceAdd] at this
    rw [hw4, hNN]; exact this
  have hN : w4.heap.size = N + 3 := by rw [hw4, hNN]; simp
  have hB4 : Below N w w4 := by rw [hw4, hNN]; exact (((Below.refl _ w).alloc (Nat.le_refl _) _).alloc (by simp) _).alloc (by simp; omega) _
  have B0 := hid b0
  have B1 := hid b1
  have B2 := hid b2
  have HB4 := hid hB4
  simp only [World.size_alloc, Nat.add_assoc, Nat.reduceAdd]
  rw [← hNN]
  have HNN := hid hNN
  clear hw4 hP b0 b1 b2 hB4 hNN
  gi_wp2_with fail
  refine name_actZ ?_
  intro Tm D hTm hD
  have hseq := (scan_seq hOf s (by omega) (N + 2) w4 (B2.out.cell (k := 0) rfl)).wide 8
  refine rangeFunc_s (F := Fence.wide) (α := Tk) rfl (by omega) (gf := 63) (lb := #[.pointer (some ⟨N + 2, 0, none⟩)]) (by subst hTm; rfl) trivial (enters_of Tryz.func63 (by kernel_rfl) rfl)
    hseq (fun k hk => by omega) (Below.refl _ _) (fun _ => rfl)
    (fun pre S W => Blk W N 3 #[.int .i64 (pre.length : Nat)] ∧ Blk W (N + 1) 3 #[.int .i64 ((wFil pre).length : Nat)] ∧ N + 3 ≤ W.heap.size ∧ Below N w W)
    (fun _ _ _ _ => False)
    ?hI (fun c _ _ _ _ _ h _ _ _ => h) ⟨B0.out, B1.out, by omega, HB4.out⟩
    (fun pre S x a' W => ∃ Bx, w4.heap.size ≤ Bx ∧ ¬ S Bx ∧ Blk W Bx 114 x.cells ∧ Blk W N 3 #[.int .i64 (pre.length : Nat)] ∧ Blk W (N + 1) 3 #[.int .i64 ((wFil pre).length : Nat)] ∧ N + 3 ≤ W.heap.size ∧ Below N w W ∧ a' = { tmps := (Tm.setIfInBounds 9 x.v).setIfInBounds 6 (.pointer (some ⟨Bx, 0, none⟩)), defers := [] })
    ?hAx ?assign ?body ?done ?stop
  case hI =>
    intro pre S S' X Y ⟨h1, h2, h3, h4⟩ hS hK hS'
    have nb : ∀ k, k < N + 3 → ¬ S k := fun k h hs => by have := (hS k hs).1; omega
    exact ⟨h1.keep hK (nb _ (by omega)), h2.keep hK (nb _ (by omega)), by have := hK.size; omega, h4.trans (hK.below (by omega) (fun k hk => nb k (by omega)))⟩
  case hAx =>
    intro pre S x a' X lb o ⟨Bx, g1, g2, g3, g4, g5, g6, g7, g8⟩ hSl hS
    have hlb := (hS _ hSl).1
    exact ⟨Bx, g1, g2, g3.put (fun e => g2 (e ▸ hSl)) _, g4.put (by omega) _, g5.put (by omega) _, by simp [World.putObj]; omega, g7.trans ((Kept.putObj (T := fun k => k < N) X (by show ¬ (lb < N); omega) o).below (by omega) (fun k hk => hk)), g8⟩
  case assign =>
    rintro l' pre S x W5 K ⟨h0, h1, h2, h3⟩ hW5 hS5 hpre hK
    subst hTm hD
    have hB := Blk.new W5 114 x.cells
    have H := hK _ _ (Kept.alloc _ _ _) ⟨W5.heap.size, by omega, (fun h => by have := (hS5 _ h).2; omega), hB, h0.alloc _, h1.alloc _, by rw [World.size_alloc]; omega, h3.alloc (by omega) _, rfl⟩
    clear hK hB h0 h1 h3
    obtain ⟨kd, f, t⟩ := x
    dsimp only at H
    simp only [List.setIfInBounds_toArray, List.set_cons_succ, List.set_cons_zero] at H
    gi_wp2
    exact H
  case body =>
    rintro l' pre S x a' W5 hSl ⟨rec, hrec⟩ hW5 hS5 hpre ⟨Bx, hBx, hSB, kx, k0, k1, h2, h3, rfl⟩
    have hlen : pre.length < 4000000 := by
      have h := hpre.length_le
      rw [List.length_append, List.length_singleton] at h
      have h2 := scanL_len s
      omega
    have hsec : ((wFil pre).length : Nat) ≤ pre.length := List.length_filter_le _ _
    have hE : Hid ((pre ++ [x]).length = pre.length + 1) := hid (by simp)
    obtain ⟨kd, f, t⟩ := x
    have c0 := kx.cell (k := 0) rfl
    try dsimp only at c0
    have d0 := k0.cell (k := 0) rfl
    have d1 := k1.cell (k := 0) rfl
    have z0 := k0.froz 0
    have z1 := k1.froz 0
    have hS2 : Hid (Below N w W5) := hid h3
    have n0 : Hid (¬ ((N = N + 2) ∨ S N)) := hid (fun h => h.elim (fun h => by omega) (fun h => by have := (hS5 _ h).1; omega))
    have n1 : Hid (¬ ((N + 1 = N + 2) ∨ S (N + 1))) := hid (fun h => h.elim (fun h => by omega) (fun h => by have := (hS5 _ h).1; omega))
    have G0 := hid k0
    have G1 := hid k1
    subst hTm hD
    dsimp only
    simp only [List.setIfInBounds_toArray, List.set_cons_succ, List.set_cons_zero]
    by_cases hb : kd = 1
    · have e1 := beq_t hb
      have hv : Hid (((wFil (pre ++ [(⟨kd, f, t⟩ : Tk)])).length : Nat) = ((wFil pre).length : Nat) + 1) := hid (by rw [wFil_snoc, if_pos hb]; simp)
      generalize pre.length = n at *
      generalize ((wFil pre).length : Nat) = m at *
      gi_wp2_with fail
      show Kept _ _ _ ∧ (Blk _ N 3 #[.int .i64 ((pre ++ [(⟨kd, f, t⟩ : Tk)]).length : Nat)] ∧ Blk _ (N + 1) 3 #[.int .i64 ((wFil (pre ++ [(⟨kd, f, t⟩ : Tk)])).length : Nat)] ∧ _)
      rw [hE.out, hv.out]
      exact ⟨(Kept.setCell _ (by exact n0.out) _).trans (Kept.setCell _ (by exact n1.out) _), (G0.out.upd _ _ rfl).other (by omega) _, (G1.out.other (by omega) _).upd _ _ rfl, by simp [World.setCell]; omega, (hS2.out.setCell (p := ⟨N, 0, none⟩) (Nat.le_refl _) _).setCell (p := ⟨N + 1, 0, none⟩) (by show N ≤ N + 1; omega) _⟩
    · have e1 := beq_f hb
      have hv : Hid (((wFil (pre ++ [(⟨kd, f, t⟩ : Tk)])).length : Nat) = ((wFil pre).length : Nat)) := hid (by rw [wFil_snoc, if_neg hb])
      generalize pre.length = n at *
      generalize ((wFil pre).length : Nat) = m at *
      gi_wp2_with fail
      show Kept _ _ _ ∧ (Blk _ N 3 #[.int .i64 ((pre ++ [(⟨kd, f, t⟩ : Tk)]).length : Nat)] ∧ Blk _ (N + 1) 3 #[.int .i64 ((wFil (pre ++ [(⟨kd, f, t⟩ : Tk)])).length : Nat)] ∧ _)
      rw [hE.out, hv.out]
      exact ⟨Kept.setCell _ (by exact n0.out) _, G0.out.upd _ _ rfl, G1.out.other (by omega) _, by simp [World.setCell]; omega, hS2.out.setCell (p := ⟨N, 0, none⟩) (Nat.le_refl _) _⟩
  case done =>
    rintro Dk W9 hDk ⟨h0, h1, h2, h3⟩ hK
    have hK0 := hid hK
    have d0 := h0.cell (k := 0) rfl
    have d1 := h1.cell (k := 0) rfl
    have H3 := hid h3
    have hDl := at_lt hK
    subst hTm hD
    clear h0 h1 h3 hK hseq
    gi_wp2_with fail
    refine C.draw_allInB (by kernel_rfl) (C.WideF.wide _ _) (by kernel_rfl) (by kernel_rfl) ?_
    repeat (refine C.bq_step (fun K hK => ?_); go_simp; refine ⟨hK _ ?_⟩; clear hK K)
    refine C.bq_nil ?_
    rintro _ ⟨dn, rfl⟩
    gi_wp2_with fail
    refine ⟨by simp, .inl ⟨_, _, rfl, run_takeDeferred (w := W9.drewN dn) hK0.out, ?_⟩⟩
    refine ⟨.tuple #[.int .i64 ((scanL s) : List Tk).length, .int .i64 ((wFil (scanL s)).length : Nat)], (by simp [results, Tryz.results36, go_sem]), rfl, ?_⟩
    have hb : Below N w (W9.drewN dn) := ⟨H3.out.os, H3.out.tape, H3.out.output, H3.out.size, H3.out.block⟩
    rw [← HNN.out]
    exact hb.trans ((Kept.putObj (T := fun k => k < N) (W9.drewN dn) (by show ¬ (Dk < N); omega) _).below (by show N ≤ W9.heap.size; omega) (fun k hk => hk))
  case stop =>
    rintro Dk c pre W9 hDk hpre h hK
    exact h.elim
end Go.Proofs.YtmpkfpabejpbkaaGreatDoor
