/- word.Words: a text's words, as an iterator. Conditions: those of each theorem. -/
import Derived.Test.YtmpkfpabejpbkaaGreatDoorWh
namespace Go.Proofs.YtmpkfpabejpbkaaGreatDoor
open Go Go.RowKit Go.Lib Go.Shelf
set_option linter.unusedVariables false
set_option linter.unusedSimpArgs false
attribute [local go_sem] Oper.semAt_some
/-- those of a row of tokens that are words -/
def wFil (l : List Tk) : List Tk := l.filter fun x => x.kd == 1
def wordsL (s : ByteArray) : List Tk := wFil (scanL s)
abbrev Tk.span (x : Tk) : Value := .agg #[.int .i64 x.f, .int .i64 x.t]
theorem wFil_pre (s : ByteArray) {pre : List Tk} (h : pre <+: scanL s) : wFil pre <+: wordsL s := List.IsPrefix.filter _ h
theorem wFil_snoc (pre : List Tk) (x : Tk) : wFil (pre ++ [x]) = if x.kd = 1 then wFil pre ++ [x] else wFil pre := by
  unfold wFil; rw [List.filter_append]
  by_cases h : x.kd = 1
  · simp [h]
  · simp [h]
theorem words27 (s : ByteArray) (w : World) : Calls Tryz.prog 27 #[.string s] w fun e w' => e = .returned (.func (.func 48) #[] #[.pointer (some ⟨w.heap.size, 0, none⟩)]) ∧ w' = w.alloc (.cells #[.string s] 9) := by
  go_enter Tryz.func27, Tryz.ntmps27
  go_wp2_with fail
  go_ret
  exact ⟨rfl, rfl⟩
set_option maxHeartbeats 8000000 in
theorem words48 (hOf : OfOk) (s : ByteArray) (hs : s.size ≤ 140737488355328) (l kb : Nat) (RR : Nat → Prop) (hR : RR kb) (J Jx : List Tk → (Nat → Prop) → World → Prop) (W : World) (hJ : Free W.heap.size J) (hX : Free W.heap.size Jx)
    (hY : ∀ pre S x W1, J pre S W1 → W.heap.size ≤ W1.heap.size → (∀ k, S k → W.heap.size ≤ k ∧ k < W1.heap.size) → pre ++ [x] <+: wordsL s → YieldAt Fence.wide 8 Tryz.prog l #[x.span] W1 fun e W' =>
      Kept (fun k => RR k ∨ S k) W1 W' ∧ ((e = .returned (.bool true) ∧ J (pre ++ [x]) S W') ∨ (e = .returned (.bool false) ∧ Jx (pre ++ [x]) S W')))
    (hc : W.cell? ⟨kb, 0, none⟩ = some (.string s)) (h0 : J [] none' W) :
    CallsIn Fence.wide 9 Tryz.prog 48 #[.func (.yield l) #[] #[], .pointer (some ⟨kb, 0, none⟩)] W fun e W' => (∃ v, e = .returned v) ∧ (J (wordsL s) none' W' ∨ (∃ pre, pre <+: wordsL s ∧ Jx pre none' W')) := by
  have hkb : kb < W.heap.size := World.block_lt_of_cell? W _ hc
  refine callsIn_of_wp_marks Tryz.func48 rfl trivial ?_ rfl
  simp only [Tryz.ntmps48, List.size_toArray, List.length_cons, List.length_nil, Nat.reduceAdd, Nat.reduceSub, Array.replicate_succ, Array.replicate_zero, List.push_toArray, List.append_toArray, List.nil_append, List.cons_append]
  have HJ := hid hJ
  have HX := hid hX
  have HY := hid hY
  have HR := hid hR
  have H0 := hid h0
  have HOf := hid hOf
  have hOf' := hOf
  have hP := hid (fun W => scan49 s W)
  clear hJ hX hY hR h0 hOf
  have hc1 : (W.alloc (.cells #[.func (.yield l) #[] #[]] 109)).cell? ⟨kb, 0, none⟩ = some (.string s) := by
    exact (((Below.refl W.heap.size W).alloc (Nat.le_refl _) _).cell (p := ⟨kb, 0, none⟩) hkb).trans hc
  gi_wp2_with fail
  refine ⟨trivial, ?_⟩
  with_reducible refine CallsIn.mono (callsIn_wide.2 (hP.out _)) ?_
  rintro e w4 ⟨rfl, hw4⟩
  have b0 := (Blk.new W 109 #[.func (.yield l) #[] #[]]).alloc (.cells #[.string s] 9)
  have b2 := Blk.new (W.alloc (.cells #[.func (.yield l) #[] #[]] 109)) 9 #[.string s]
  rw [← hw4] at b0 b2
  simp only [World.size_alloc, Nat.add_assoc, Nat.reduceAdd] at b2
  have hN : w4.heap.size = W.heap.size + 2 := by rw [hw4]; simp
  have hK4 : Kept (fun k => ¬ none' k) W w4 := by rw [hw4]; exact (Kept.alloc _ _ _).trans (Kept.alloc _ _ _)
  have hB4 : Below W.heap.size W w4 := by rw [hw4]; exact ((Below.refl _ W).alloc (Nat.le_refl _) _).alloc (by simp) _
  clear hw4 hc1 hP
  simp only [World.size_alloc, Nat.add_assoc, Nat.reduceAdd]
  obtain ⟨N, hNN⟩ : ∃ N, N = W.heap.size := ⟨_, rfl⟩
  rw [← hNN] at hN b0 b2 hB4 HJ HX HY ⊢
  have B0 := hid b0
  have B2 := hid b2
  have HK4 := hid hK4
  clear b0 b2 hK4
  obtain ⟨U, hU⟩ : ∃ U : (Nat → Prop) → Nat → Prop, U = fun S k => S k ∨ k = N ∨ k = N + 1 := ⟨_, rfl⟩
  have U1 : Hid (∀ S k, U S k → S k ∨ k = N ∨ k = N + 1) := hid (fun S k h => by rw [hU] at h; exact h)
  have U2 : Hid (∀ S k, S k ∨ k = N ∨ k = N + 1 → U S k) := hid (fun S k h => by rw [hU]; exact h)
  clear hU
  have U4 : Hid (∀ S (X : World), (∀ k, S k → N ≤ k ∧ k < X.heap.size) → N + 2 ≤ X.heap.size → ∀ k, U S k → N ≤ k ∧ k < X.heap.size) := hid (fun S X h1 h2 k h => by
    rcases U1.out _ _ h with h | h | h
    · exact h1 k h
    all_goals omega)
  have U5 : Hid (∀ (S S' : Nat → Prop) (X Y : World), (∀ k, S' k → S k ∨ (X.heap.size ≤ k ∧ k < Y.heap.size)) → ∀ k, U S' k → U S k ∨ (X.heap.size ≤ k ∧ k < Y.heap.size)) := hid (fun S S' X Y h1 k h => by
    rcases U1.out _ _ h with h | h
    · rcases h1 k h with h | h
      · exact .inl (U2.out _ _ (.inl h))
      · exact .inr h
    · exact .inl (U2.out _ _ (.inr h)))
  have H1 : Hid (J [] (U none') w4) := hid (HJ.out _ none' _ _ _ H0.out (fun k h => h.elim) HK4.out (fun k h => .inr (by
    rcases U1.out _ _ h with h | h | h
    · exact h.elim
    all_goals omega)))
  clear H0 HK4
  have HNN := hid hNN
  clear hNN
  gi_wp2_with fail
  refine name_actZ ?_
  intro Tm D hTm hD
  have hseq := (scan_seq hOf' s hs (N + 1) w4 (B2.out.cell (k := 0) rfl)).wide 8
  refine rangeFunc_s (F := Fence.wide) (α := Tk) rfl (by omega) (gf := 63) (lb := #[.pointer (some ⟨N + 1, 0, none⟩)]) (by subst hTm; rfl) trivial (enters_of Tryz.func63 (by kernel_rfl) rfl)
    hseq (fun k hk => by omega) (Below.refl _ _) (fun _ => rfl)
    (fun pre S W => J (wFil pre) (U S) W ∧ Blk W N 109 #[.func (.yield l) #[] #[]] ∧ N + 2 ≤ W.heap.size)
    (fun c _ S W => c = .ret ∧ N + 2 ≤ W.heap.size ∧ ∃ q, q <+: wordsL s ∧ Jx q (U S) W)
    ?hI ?hIx ⟨H1.out, B0.out, by omega⟩
    (fun pre S x a' W => ∃ Bx, w4.heap.size ≤ Bx ∧ ¬ S Bx ∧ Blk W Bx 114 x.cells ∧ J (wFil pre) (fun k => U S k ∨ k = Bx) W ∧ Blk W N 109 #[.func (.yield l) #[] #[]] ∧ a' = { tmps := (Tm.setIfInBounds 6 x.v).setIfInBounds 3 (.pointer (some ⟨Bx, 0, none⟩)), defers := [] })
    ?hAx ?assign ?body ?done ?stop
  case hI =>
    intro pre S S' X Y ⟨h1, h3, h4⟩ hS hK hS'
    refine ⟨HJ.out _ (U S) _ X Y h1 (U4.out _ _ (fun k h => by have := hS k h; omega) h4) (hK.mono (fun k _ h hs => h (U2.out _ _ (.inl hs)))) (U5.out _ _ _ _ hS'), h3.keep hK (fun h => ?_), by have := hK.size; omega⟩
    · have := (hS _ h).1; omega
  case hIx =>
    intro c pre S S' X Y ⟨h0, h4, q, hq, h1⟩ hS hK hS'
    exact ⟨h0, by have := hK.size; omega, q, hq, HX.out _ (U S) _ X Y h1 (U4.out _ _ (fun k h => by have := hS k h; omega) h4) (hK.mono (fun k _ h hs => h (U2.out _ _ (.inl hs)))) (U5.out _ _ _ _ hS')⟩
  case hAx =>
    intro pre S x a' W5 lb o ⟨Bx, g1, g2, g3, g4, g6, g7⟩ hSl hS
    have hb := g3.lt
    refine ⟨Bx, g1, g2, g3.put (fun e => g2 (e ▸ hSl)) _, ?_, g6.put (by have := hS _ hSl; omega) _, g7⟩
    have u4 := U4.out S W5 (fun k h => by have := hS k h; omega) (by omega)
    exact HJ.out _ _ _ W5 _ g4 (fun k h => h.elim (fun h => u4 k h) (fun h => by omega)) (Kept.putObj W5 (fun h => h (.inl (U2.out _ _ (.inl hSl)))) _) (fun k h => .inl h)
  case assign =>
    rintro l' pre S x W5 K ⟨hJ5, h05, h45⟩ hW5 hS5 hpre hK
    subst hTm hD
    have kA : ∀ T, Kept T W5 (W5.alloc (.cells x.cells 114)) := fun T => Kept.alloc T W5 _
    have hB := Blk.new W5 114 x.cells
    have hJ6 := HJ.out _ (U S) (fun k => U S k ∨ k = W5.heap.size) W5 _ hJ5 (U4.out _ _ (fun k h => by have := hS5 k h; omega) h45) (kA _) (fun k h => by
      rcases h with h | h
      · exact .inl h
      · exact .inr ⟨by omega, by rw [World.size_alloc]; omega⟩)
    have H := hK _ _ (kA _) ⟨W5.heap.size, by omega, (fun h => by have := (hS5 _ h).2; omega), hB, hJ6, h05.alloc _, rfl⟩
    clear hK kA hB hJ6 hJ5 h05
    dsimp only at H
    simp only [List.setIfInBounds_toArray, List.set_cons_succ, List.set_cons_zero] at H
    gi_wp2
    exact H
  case body =>
    rintro l' pre S x a' W5 hSl ⟨rec, hrec⟩ hW5 hS5 hpre ⟨Bx, hBx, hSB, kx, hJ5, k0, rfl⟩
    have hE := wFil_snoc pre x
    have hpu := wFil_pre s hpre
    have hbx := kx.lt
    have u4 := U4.out S W5 (fun k h => by have := hS5 k h; omega) (by omega)
    obtain ⟨S2, hS2⟩ : ∃ S2 : Nat → Prop, S2 = fun k => U S k ∨ k = Bx := ⟨_, rfl⟩
    rw [← hS2] at hJ5
    have s2 : Hid (∀ k, S2 k → N ≤ k ∧ k < W5.heap.size) := hid (fun k h => by rw [hS2] at h; exact h.elim (fun h => u4 k h) (fun h => by omega))
    have s2S : Hid (∀ k, U S k → S2 k) := hid (fun k h => by rw [hS2]; exact .inl h)
    have s20 : Hid (S2 N) := hid (s2S.out _ (U2.out _ _ (.inr (.inl rfl))))
    have s22 : Hid (S2 (N + 1)) := hid (s2S.out _ (U2.out _ _ (.inr (.inr rfl))))
    have sS : Hid (∀ k, S k → S2 k) := hid (fun k h => s2S.out _ (U2.out _ _ (.inl h)))
    have HE := hid hE
    have HP := hid hpu
    clear hE hpu hpre hrec hSl hSB hS5 hseq HOf hS2 u4
    obtain ⟨kd, f, t⟩ := x
    dsimp only at kx HE HP
    have K0 := hid k0
    have HJ5 := hid hJ5
    have c0 := kx.cell (k := 0) rfl
    have c1 := kx.cell (k := 1) rfl
    have c2 := kx.cell (k := 2) rfl
    have e0 := k0.cell (k := 0) rfl
    try dsimp only at c0 c1 c2
    subst hTm hD
    dsimp only
    simp only [List.setIfInBounds_toArray, List.set_cons_succ, List.set_cons_zero]
    by_cases h1 : kd = 1
    · have hv : Hid (wFil (pre ++ [⟨kd, f, t⟩]) = wFil pre ++ [⟨kd, f, t⟩]) := hid (by rw [HE.out, if_pos h1])
      have hpo : wFil pre ++ [⟨kd, f, t⟩] <+: wordsL s := hv.out ▸ HP.out
      obtain ⟨fn, tmps, assign, body, hy, hR⟩ := HY.out _ S2 ⟨kd, f, t⟩ W5 hJ5 (by omega) s2.out hpo
      change (Instr.yield l #[.agg #[.int .i64 f, .int .i64 t]]).run Tryz.prog W5 = _ at hy
      have HR' := hid hR
      have HO := hid hpo
      have e1 := beq_t h1
      clear hR hpo hJ5 kx k0
      gi_wp2_with fail
      refine (RoundIn.inRound l' (RoundIn.wide HR'.out)).mono ?_
      rintro e W7 ⟨hk7, (⟨rfl, hJ7⟩ | ⟨rfl, hJ7⟩)⟩
      all_goals
        have hs7 := hk7.size
        have HK7 : Hid (Kept (fun k => k = N + 1 ∨ S k) W5 W7) := hid (hk7.mono (fun k _ h => .inr (h.elim (fun h => h ▸ s22.out) (sS.out k))))
        have K07 := hid (K0.out.keep hk7 (.inr s20.out))
        have s27 : Hid (∀ k, S2 k → N ≤ k ∧ k < W7.heap.size) := hid (fun k h => by have := s2.out k h; omega)
        have J7 := hid hJ7
        clear hk7 hJ7 hy
        gi_wp2_with fail
      · show Kept _ _ _ ∧ (J (wFil (pre ++ [⟨kd, f, t⟩])) (U S) _ ∧ Blk _ N 109 _ ∧ _)
        rw [hv.out]
        exact ⟨HK7.out, HJ.out _ S2 (U S) W7 W7 J7.out s27.out (Kept.refl _ _) (fun k h => .inl (s2S.out k h)), K07.out, by omega⟩
      · exact ⟨HK7.out, rfl, by omega, _, HO.out, HX.out _ S2 (U S) W7 W7 J7.out s27.out (Kept.refl _ _) (fun k h => .inl (s2S.out k h))⟩
    · have hv : Hid (wFil (pre ++ [⟨kd, f, t⟩]) = wFil pre) := hid (by rw [HE.out, if_neg h1])
      have e1 := beq_f h1
      clear hJ5 kx k0
      gi_wp2_with fail
      refine ⟨fun _ h => (by cases h), ?_⟩
      gi_wp2_with fail
      show Kept _ _ _ ∧ (J (wFil (pre ++ [⟨kd, f, t⟩])) (U S) _ ∧ Blk _ N 109 _ ∧ _)
      rw [hv.out]
      exact ⟨Kept.refl _ _, HJ.out _ S2 (U S) W5 W5 HJ5.out s2.out (Kept.refl _ _) (fun k h => .inl (s2S.out k h)), K0.out, by omega⟩
  case done =>
    rintro Dk W9 hDk ⟨hJ9, k0, h49⟩ hK
    have hDl := at_lt hK
    have s9 := U4.out (fun k => k = Dk) W9 (fun k h => by omega) h49
    have SD : Hid (U (fun k => k = Dk) Dk) := hid (U2.out _ _ (.inl rfl))
    have S9 := hid s9
    have hK0 := hid hK
    have J9 := hid hJ9
    clear k0 hK hJ9 s9 hseq HOf
    subst hTm hD
    gi_wp2_with fail
    refine ⟨by simp, .inl ⟨_, _, rfl, run_takeDeferred hK0.out, ?_⟩⟩
    exact ⟨_, results_none rfl _ _ _, ⟨_, rfl⟩, .inl (HJ.out _ _ none' W9 _ J9.out S9.out (Kept.putObj W9 (fun h => h SD.out) _) (fun k h => h.elim))⟩
  case stop =>
    rintro Dk c pre W9 hDk hpre ⟨rfl, h49, q, hq, hXq⟩ hK
    have hDl := at_lt hK
    have s9 := U4.out (fun k => k = Dk) W9 (fun k h => by omega) h49
    have SD : Hid (U (fun k => k = Dk) Dk) := hid (U2.out _ _ (.inl rfl))
    have hK0 := hid hK
    have HXq := hid hXq
    have S9 := hid s9
    clear hK hXq s9 hseq HOf
    subst hTm hD
    gi_wp2_with fail
    refine ⟨by simp, .inl ⟨_, _, rfl, run_takeDeferred hK0.out, ?_⟩⟩
    exact ⟨_, results_none rfl _ _ _, ⟨_, rfl⟩, .inr ⟨q, hq, HX.out _ _ none' W9 _ HXq.out S9.out (Kept.putObj W9 (fun h => h SD.out) _) (fun k h => h.elim)⟩⟩
theorem words_seq (hOf : OfOk) (s : ByteArray) (hs : s.size ≤ 140737488355328) (kb : Nat) (w : World) (hc : w.cell? ⟨kb, 0, none⟩ = some (.string s)) :
    SeqS Fence.wide 9 Tryz.prog 48 #[.pointer (some ⟨kb, 0, none⟩)] (fun x => #[x.span]) (fun k => k = kb) (wordsL s) w := fun l J Jx W hW hJ hX hY h0 =>
  words48 hOf s hs l kb (fun k => k = kb) rfl J Jx W hJ hX hY ((hW.cell (p := ⟨kb, 0, none⟩) (World.block_lt_of_cell? w _ hc)).trans hc) h0
end Go.Proofs.YtmpkfpabejpbkaaGreatDoor
