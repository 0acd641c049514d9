/- word.units: a text's pieces with the marks behind them, as an iterator. Conditions: those of each theorem. -/
import Derived.Test.YteodfondjogmoaaGreatDoorJb
import Derived.Test.YteodfondjogmoaaGreatDoorRNLfA
namespace Go.Proofs.YteodfondjogmoaaGreatDoor
open Go Go.RowKit Go.Lib Go.Shelf
set_option linter.unusedVariables false
set_option linter.unusedSimpArgs false
attribute [local go_sem] Oper.semAt_some
/-- a piece's kind -/
def kP (s : ByteArray) (p : Nat) : Int := if isBr s p then 11 else R.kindI (rnN s p)
def OfOk : Prop := ∀ (s : ByteArray) (p : Nat), p < s.size → ∀ w, Calls Tryz.prog 156 #[pcV s p] w fun e w' => e = .returned (.int .i64 (kP s p)) ∧ Below w.heap.size w w'
theorem name_actZ {F : Fence} {n : Nat} {c : Code} {Q : Exit → Act → World → Prop} {a : Act} {w : World} (h : ∀ T D, a.tmps = T → a.defers = D → c.wpIn F n Tryz.prog Q ⟨T, D⟩ w) : c.wpIn F n Tryz.prog Q a w := h _ _ rfl rfl
theorem Free.step {α : Type} {B : Nat} {J : List α → (Nat → Prop) → World → Prop} (h : Free B J) {pre : List α} {S S' : Nat → Prop} {W W' : World} (hj : J pre S W) (hs : ∀ k, S k → B ≤ k ∧ k < W.heap.size) (hk : Kept (fun k => ¬ S k) W W')
    (hn : ∀ k, S' k → S k ∨ (W.heap.size ≤ k ∧ k < W'.heap.size)) : J pre S' W' := h pre S S' W W' hj hs hk hn
theorem Blk.put {W : World} {B : Nat} {t : TypeId} {c : Array Value} (h : Blk W B t c) {l : Nat} (hl : B ≠ l) (o : Obj) : Blk (W.putObj l o) B t c := (World.putObj_heap_other (fun e => hl (by omega))).trans h
def pcZ (s : ByteArray) (p : Nat) : Array Value := #[.int .i64 p, .int .i64 (wdN s p), .int .i32 (rnN s p), .bool (isBr s p)]
/-- one piece more: what has been told, and what is open -/
def uStep (s : ByteArray) (st : List Un × Un) (p : Nat) : List Un × Un :=
  if kP s p = 2 ∧ 0 < st.2.t ∧ bareU st.2.k = false then (st.1, { st.2 with t := wrap64 (st.2.t + wdN s p), al := false })
  else (if 0 < st.2.t then st.1 ++ [st.2] else st.1, ⟨kP s p, rnN s p, p, wrap64 (p + wdN s p), true⟩)
def uFold (s : ByteArray) (ps : List Nat) : List Un × Un := ps.foldl (uStep s) ([], ⟨0, 0, 0, 0, false⟩)
def unitsL (s : ByteArray) : List Un := if 0 < (uFold s (posL s 0)).2.t then (uFold s (posL s 0)).1 ++ [(uFold s (posL s 0)).2] else (uFold s (posL s 0)).1
theorem uFold_snoc (s : ByteArray) (pre : List Nat) (x : Nat) : uFold s (pre ++ [x]) = uStep s (uFold s pre) x := by unfold uFold; rw [List.foldl_append]; rfl
theorem uStep_pre (s : ByteArray) (st : List Un × Un) (x : Nat) : st.1 <+: (uStep s st x).1 := by
  unfold uStep
  split
  · exact List.prefix_rfl
  · dsimp only; split
    · exact List.prefix_append _ _
    · exact List.prefix_rfl
theorem uFold_pre (s : ByteArray) : ∀ (pre q : List Nat), (uFold s pre).1 <+: (uFold s (pre ++ q)).1
  | pre, [] => by rw [List.append_nil]; exact List.prefix_rfl
  | pre, x :: q => by
    have h := uFold_pre s (pre ++ [x]) q
    rw [List.append_assoc] at h
    exact ((uFold_snoc s pre x ▸ uStep_pre s (uFold s pre) x : (uFold s pre).1 <+: (uFold s (pre ++ [x])).1)).trans h
theorem unitsL_pre (s : ByteArray) {pre : List Nat} (h : pre <+: posL s 0) : (uFold s pre).1 <+: unitsL s := by
  obtain ⟨q, hq⟩ := h
  have h1 := uFold_pre s pre q
  rw [hq] at h1
  unfold unitsL
  split
  · exact h1.trans (List.prefix_append _ _)
  · exact h1
theorem posL_lt (s : ByteArray) : ∀ (n p : Nat), n = s.size - p → ∀ x ∈ posL s p, x < s.size := by
  intro n
  induction n using Nat.strongRecOn with
  | _ n ih =>
    intro p hn x hx
    by_cases hp : p < s.size
    · rw [posL_more hp] at hx
      rcases List.mem_cons.1 hx with rfl | hx
      · exact hp
      · have := wdN_pos hp
        exact ih (s.size - (p + wdN s p)) (by omega) _ rfl x hx
    · rw [posL_end hp] at hx; cases hx
theorem units64 (s : ByteArray) (w : World) : Calls Tryz.prog 163 #[.string s] w fun e w' => e = .returned (.func (.func 191) #[] #[.pointer (some ⟨w.heap.size, 0, none⟩)]) ∧ w' = w.alloc (.cells #[.string s] 9) := by
  go_enter Tryz.func163, Tryz.ntmps163
  go_wp2_with fail
  go_ret
  exact ⟨rfl, rfl⟩
set_option maxHeartbeats 8000000 in
theorem units79 (hOf : OfOk) (s : ByteArray) (hs : s.size ≤ 140737488355328) (l kb : Nat) (RR : Nat → Prop) (hR : RR kb) (J Jx : List Un → (Nat → Prop) → World → Prop) (W : World) (hJ : Free W.heap.size J) (hX : Free W.heap.size Jx)
    (hY : ∀ pre S x W1, J pre S W1 → W.heap.size ≤ W1.heap.size → (∀ k, S k → W.heap.size ≤ k ∧ k < W1.heap.size) → pre ++ [x] <+: unitsL s → YieldAt Fence.wide 8 Tryz.prog l #[x.v] W1 fun e W' =>
      Kept (fun k => RR k ∨ S k) W1 W' ∧ ((e = .returned (.bool true) ∧ J (pre ++ [x]) S W') ∨ (e = .returned (.bool false) ∧ Jx (pre ++ [x]) S W')))
    (hc : W.cell? ⟨kb, 0, none⟩ = some (.string s)) (h0 : J [] none' W) :
    CallsIn Fence.wide 9 Tryz.prog 191 #[.func (.yield l) #[] #[], .pointer (some ⟨kb, 0, none⟩)] W fun e W' => (∃ v, e = .returned v) ∧ (J (unitsL s) none' W' ∨ (∃ pre, pre <+: unitsL s ∧ Jx pre none' W')) := by
  have hkb : kb < W.heap.size := World.block_lt_of_cell? W _ hc
  refine callsIn_of_wp_marks Tryz.func191 rfl trivial ?_ rfl
  simp only [Tryz.ntmps191, List.size_toArray, List.length_cons, List.length_nil, Nat.reduceAdd, Nat.reduceSub, Array.replicate_succ, Array.replicate_zero, List.push_toArray, List.append_toArray, List.nil_append, List.cons_append]
  have HJ := hid hJ
  have HX := hid hX
  have HY := hid hY
  have HR := hid hR
  have H0 := hid h0
  have HOf := hid hOf
  have hP := hid (fun W => pieces53 s W)
  clear hJ hX hY hR h0 hOf
  have hc1 : ((W.alloc (.cells #[.func (.yield l) #[] #[]] 283)).alloc (.cells #[.int .i64 0, .int .i32 0, .int .i64 0, .int .i64 0, .bool false] 254)).cell? ⟨kb, 0, none⟩ = some (.string s) := by
    exact ((((Below.refl W.heap.size W).alloc (Nat.le_refl _) _).alloc (by simp) _).cell (p := ⟨kb, 0, none⟩) hkb).trans hc
  gi_wp2_with fail
  refine ⟨trivial, ?_⟩
  with_reducible refine CallsIn.mono (callsIn_wide.2 (hP.out _)) ?_
  rintro e w4 ⟨rfl, hw4⟩
  have b0 := ((Blk.new W 283 #[.func (.yield l) #[] #[]]).alloc (.cells #[.int .i64 0, .int .i32 0, .int .i64 0, .int .i64 0, .bool false] 254)).alloc (.cells #[.string s] 9)
  have b1 := (Blk.new (W.alloc (.cells #[.func (.yield l) #[] #[]] 283)) 254 #[.int .i64 0, .int .i32 0, .int .i64 0, .int .i64 0, .bool false]).alloc (.cells #[.string s] 9)
  have b2 := Blk.new ((W.alloc (.cells #[.func (.yield l) #[] #[]] 283)).alloc (.cells #[.int .i64 0, .int .i32 0, .int .i64 0, .int .i64 0, .bool false] 254)) 9 #[.string s]
  rw [← hw4] at b0 b1 b2
  simp only [World.size_alloc, Nat.add_assoc, Nat.reduceAdd] at b1 b2
  have hN : w4.heap.size = W.heap.size + 3 := by rw [hw4]; simp
  have hK4 : Kept (fun k => ¬ none' k) W w4 := by rw [hw4]; exact ((Kept.alloc _ _ _).trans (Kept.alloc _ _ _)).trans (Kept.alloc _ _ _)
  have hB4 : Below W.heap.size W w4 := by rw [hw4]; exact (((Below.refl _ W).alloc (Nat.le_refl _) _).alloc (by simp) _).alloc (by simp; omega) _
  clear hw4 hc1 hP
  simp only [World.size_alloc, Nat.add_assoc, Nat.reduceAdd]
  obtain ⟨N, hNN⟩ : ∃ N, N = W.heap.size := ⟨_, rfl⟩
  rw [← hNN] at hN b0 b1 b2 hB4 HJ HX HY ⊢
  have B0 := hid b0
  have B1 := hid b1
  have B2 := hid b2
  have HK4 := hid hK4
  clear b0 b1 b2 hK4
  obtain ⟨U, hU⟩ : ∃ U : (Nat → Prop) → Nat → Prop, U = fun S k => S k ∨ k = N ∨ k = N + 1 ∨ k = N + 2 := ⟨_, rfl⟩
  have U1 : Hid (∀ S k, U S k → S k ∨ k = N ∨ k = N + 1 ∨ k = N + 2) := hid (fun S k h => by rw [hU] at h; exact h)
  have U2 : Hid (∀ S k, S k ∨ k = N ∨ k = N + 1 ∨ k = N + 2 → U S k) := hid (fun S k h => by rw [hU]; exact h)
  clear hU
  have U4 : Hid (∀ S (X : World), (∀ k, S k → N ≤ k ∧ k < X.heap.size) → N + 3 ≤ X.heap.size → ∀ k, U S k → N ≤ k ∧ k < X.heap.size) := hid (fun S X h1 h2 k h => by
    rcases U1.out _ _ h with h | h | h | h
    · exact h1 k h
    all_goals omega)
  have U5 : Hid (∀ (S S' : Nat → Prop) (X Y : World), (∀ k, S' k → S k ∨ (X.heap.size ≤ k ∧ k < Y.heap.size)) → ∀ k, U S' k → U S k ∨ (X.heap.size ≤ k ∧ k < Y.heap.size)) := hid (fun S S' X Y h1 k h => by
    rcases U1.out _ _ h with h | h
    · rcases h1 k h with h | h
      · exact .inl (U2.out _ _ (.inl h))
      · exact .inr h
    · exact .inl (U2.out _ _ (.inr h)))
  have H1 : Hid (J [] (U none') w4) := hid (HJ.out _ none' _ _ _ H0.out (fun k h => h.elim) HK4.out (fun k h => .inr (by
    rcases U1.out _ _ h with h | h | h | h
    · exact h.elim
    all_goals omega)))
  clear H0 HK4
  have HNN := hid hNN
  clear hNN
  gi_wp2_with fail
  refine name_actZ ?_
  intro Tm D hTm hD
  have hseq := pieces_seq 8 s hs (N + 2) w4 (B2.out.cell (k := 0) rfl)
  refine rangeFunc_s (F := Fence.wide) (α := Nat) rfl (by omega) (gf := 150) (lb := #[.pointer (some ⟨N + 2, 0, none⟩)]) (by subst hTm; rfl) trivial (enters_of Tryz.func150 (by kernel_rfl) rfl)
    hseq (fun k hk => by omega) (Below.refl _ _) (fun _ => rfl)
    (fun pre S W => J (uFold s pre).1 (U S) W ∧ Blk W (N + 1) 254 (uFold s pre).2.cells ∧ Blk W N 283 #[.func (.yield l) #[] #[]] ∧ N + 3 ≤ W.heap.size)
    (fun c _ S W => c = .ret ∧ N + 3 ≤ W.heap.size ∧ ∃ q, q <+: unitsL s ∧ Jx q (U S) W)
    ?hI ?hIx ⟨H1.out, B1.out, B0.out, by omega⟩
    (fun pre S x a' W => ∃ Bx, w4.heap.size ≤ Bx ∧ ¬ S Bx ∧ Blk W Bx 149 (pcZ s x) ∧ J (uFold s pre).1 (fun k => U S k ∨ k = Bx) W ∧ Blk W (N + 1) 254 (uFold s pre).2.cells ∧ Blk W N 283 #[.func (.yield l) #[] #[]] ∧ a' = { tmps := (Tm.setIfInBounds 8 (pcV s x)).setIfInBounds 4 (.pointer (some ⟨Bx, 0, none⟩)), defers := [] })
    ?hAx ?assign ?body ?done ?stop
  case hI =>
    intro pre S S' X Y ⟨h1, h2, h3, h4⟩ hS hK hS'
    refine ⟨HJ.out _ (U S) _ X Y h1 (U4.out _ _ (fun k h => by have := hS k h; omega) h4) (hK.mono (fun k _ h hs => h (U2.out _ _ (.inl hs)))) (U5.out _ _ _ _ hS'), h2.keep hK (fun h => ?_), h3.keep hK (fun h => ?_), by have := hK.size; omega⟩
    · have := (hS _ h).1; omega
    · have := (hS _ h).1; omega
  case hIx =>
    intro c pre S S' X Y ⟨h0, h4, q, hq, h1⟩ hS hK hS'
    exact ⟨h0, by have := hK.size; omega, q, hq, HX.out _ (U S) _ X Y h1 (U4.out _ _ (fun k h => by have := hS k h; omega) h4) (hK.mono (fun k _ h hs => h (U2.out _ _ (.inl hs)))) (U5.out _ _ _ _ hS')⟩
  case hAx =>
    intro pre S x a' W5 lb o ⟨Bx, g1, g2, g3, g4, g5, g6, g7⟩ hSl hS
    have hb := g3.lt
    refine ⟨Bx, g1, g2, g3.put (fun e => g2 (e ▸ hSl)) _, ?_, g5.put (by have := hS _ hSl; omega) _, g6.put (by have := hS _ hSl; omega) _, g7⟩
    have u4 := U4.out S W5 (fun k h => by have := hS k h; omega) (by omega)
    exact HJ.out _ _ _ W5 _ g4 (fun k h => h.elim (fun h => u4 k h) (fun h => by omega)) (Kept.putObj W5 (fun h => h (.inl (U2.out _ _ (.inl hSl)))) _) (fun k h => .inl h)
  case assign =>
    rintro l' pre S x W5 K ⟨hJ5, hb5, h05, h45⟩ hW5 hS5 hpre hK
    subst hTm hD
    have kA : ∀ T, Kept T W5 (W5.alloc (.cells (pcZ s x) 149)) := fun T => Kept.alloc T W5 _
    have hB := Blk.new W5 149 (pcZ s x)
    have hJ6 := HJ.out _ (U S) (fun k => U S k ∨ k = W5.heap.size) W5 _ hJ5 (U4.out _ _ (fun k h => by have := hS5 k h; omega) h45) (kA _) (fun k h => by
      rcases h with h | h
      · exact .inl h
      · exact .inr ⟨by omega, by rw [World.size_alloc]; omega⟩)
    have H := hK _ _ (kA _) ⟨W5.heap.size, by omega, (fun h => by have := (hS5 _ h).2; omega), hB, hJ6, hb5.alloc _, h05.alloc _, rfl⟩
    clear hK kA hB hJ6 hJ5 hb5 h05
    dsimp only at H
    simp only [List.setIfInBounds_toArray, List.set_cons_succ, List.set_cons_zero] at H
    unfold pcV pcZ at H
    unfold pcV
    gi_wp2
    exact H
  case body =>
    rintro l' pre S x a' W5 hSl ⟨rec, hrec⟩ hW5 hS5 hpre ⟨Bx, hBx, hSB, kx, hJ5, k1, k0, rfl⟩
    obtain ⟨out, u, hou⟩ : ∃ out u, uFold s pre = (out, u) := ⟨_, _, rfl⟩
    have hx := posL_lt s _ 0 rfl x (hpre.subset (by simp))
    have hE := uFold_snoc s pre x
    have hpu := unitsL_pre s hpre
    rw [hou] at hE hJ5 k1
    rw [hE] at hpu
    dsimp only at hJ5 k1
    have hbx := kx.lt
    have u4 := U4.out S W5 (fun k h => by have := hS5 k h; omega) (by omega)
    obtain ⟨S2, hS2⟩ : ∃ S2 : Nat → Prop, S2 = fun k => U S k ∨ k = Bx := ⟨_, rfl⟩
    rw [← hS2] at hJ5
    have s2 : Hid (∀ k, S2 k → N ≤ k ∧ k < W5.heap.size) := hid (fun k h => by rw [hS2] at h; exact h.elim (fun h => u4 k h) (fun h => by omega))
    have s2x : Hid (S2 Bx) := hid (by rw [hS2]; exact .inr rfl)
    have s2S : Hid (∀ k, U S k → S2 k) := hid (fun k h => by rw [hS2]; exact .inl h)
    have s20 : Hid (S2 N) := hid (s2S.out _ (U2.out _ _ (.inr (.inl rfl))))
    have s21 : Hid (S2 (N + 1)) := hid (s2S.out _ (U2.out _ _ (.inr (.inr (.inl rfl)))))
    have s22 : Hid (S2 (N + 2)) := hid (s2S.out _ (U2.out _ _ (.inr (.inr (.inr rfl)))))
    have sS : Hid (∀ k, S k → S2 k) := hid (fun k h => s2S.out _ (U2.out _ _ (.inl h)))
    have n1 : Hid (¬ S (N + 1)) := hid (fun h => by have := (hS5 _ h).1; omega)
    have n12 : Hid (¬ (N + 1 = N + 2 ∨ S (N + 1))) := hid (fun h => h.elim (fun h => by omega) n1.out)
    clear hS2 u4
    have hof := hid (HOf.out s x hx)
    obtain ⟨uk, ur, uf, ut, ual⟩ := u
    have HE := hid hE
    have HP := hid hpu
    have HX1 := hid hpre
    have HSB := hid hSB
    have HS5 := hid hS5
    clear hE hpu hou hpre hrec hSl hSB hS5 hseq HOf
    unfold uStep at HE HP
    unfold pcZ at kx
    unfold pcV at hof
    unfold pcV
    generalize hk' : kP s x = k at *
    generalize hr' : rnN s x = r at *
    generalize hw' : wdN s x = wd at *
    generalize hb' : isBr s x = br at *
    clear hk' hr' hw' hb'
    subst hTm hD
    dsimp only
    simp only [List.setIfInBounds_toArray, List.set_cons_succ, List.set_cons_zero]
    have KX := hid kx
    have K1 := hid k1
    have K0 := hid k0
    have HJ5 := hid hJ5
    have c0 := kx.cell (k := 0) rfl
    have c1 := kx.cell (k := 1) rfl
    have c2 := kx.cell (k := 2) rfl
    have c3 := kx.cell (k := 3) rfl
    clear kx k1 k0 hJ5
    -- BODY WALK
    gi_wp2_with fail
    refine ⟨trivial, ?_⟩
    with_reducible refine (CallsIn.inRound l' (callsIn_wide.2 (hof.out _))).mono ?_
    rintro e W6 ⟨rfl, hb6⟩
    have hs6 := hb6.size
    have KX6 := hid (KX.out.low hb6)
    have K16 := hid (K1.out.low hb6)
    have K06 := hid (K0.out.low hb6)
    have J6 := hid (HJ.out _ S2 S2 W5 W6 HJ5.out s2.out (Kept.of_all hb6 _) (fun k h => .inl h))
    have hK6 : Kept (fun k => k = N + 2 ∨ S k) W5 W6 := Kept.of_all hb6 _
    have HK6 := hid hK6
    have s26 : Hid (∀ k, S2 k → N ≤ k ∧ k < W6.heap.size) := hid (fun k h => by have := s2.out k h; omega)
    have hS6 : Hid (∀ k, S k → N ≤ k ∧ k < W6.heap.size) := hid (fun k h => s26.out k (sS.out k h))
    have hU6 : Hid (∀ k, U S k → N ≤ k ∧ k < W6.heap.size) := hid (fun k h => s26.out k (s2S.out k h))
    have c0 := KX6.out.cell (k := 0) rfl
    have c1 := KX6.out.cell (k := 1) rfl
    have c2 := KX6.out.cell (k := 2) rfl
    have c3 := KX6.out.cell (k := 3) rfl
    have d0 := K16.out.cell (k := 0) rfl
    have d1 := K16.out.cell (k := 1) rfl
    have d2 := K16.out.cell (k := 2) rfl
    have d3 := K16.out.cell (k := 3) rfl
    have d4 := K16.out.cell (k := 4) rfl
    have e0 := K06.out.cell (k := 0) rfl
    have z0 := K16.out.froz 0
    have z1 := K16.out.froz 1
    have z2 := K16.out.froz 2
    have z3 := K16.out.froz 3
    have z4 := K16.out.froz 4
    try dsimp only at c0 c1 c2 c3 d0 d1 d2 d3 d4 e0
    have hBare := hid (fun w => bare81 uk w)
    clear hb6 hK6 hof KX K1 K0 HJ5 s2
    by_cases ht : 0 < ut
    · have t1 : decide (0 < ut) = true := decide_eq_true ht
      by_cases hk : k = 2
      · have e1 := beq_t hk
        cases hb : bareU uk with
        | true =>
          rw [hb] at hBare
          have hpo : out ++ [⟨uk, ur, uf, ut, ual⟩] <+: unitsL s := by
            have := HP.out
            rwa [if_neg (by simp [*]), if_pos (by first | assumption | omega)] at this
          obtain ⟨fn, tmps, assign, body, hy, hR⟩ := HY.out _ S2 ⟨uk, ur, uf, ut, ual⟩ W6 J6.out (by omega) s26.out hpo
          change (Instr.yield l #[.agg #[.int .i64 uk, .int .i32 ur, .int .i64 uf, .int .i64 ut, .bool ual]]).run Tryz.prog W6 = _ at hy
          have HR' := hid hR
          have HO := hid hpo
          clear hR hpo
          have hv : Hid (uFold s (pre ++ [x]) = (out ++ [⟨uk, ur, uf, ut, ual⟩], ⟨k, r, x, wrap64 (x + wd), true⟩)) := hid (by rw [HE.out, if_neg (by simp [*]), if_pos (by first | assumption | omega)])
          gi_wp2_with fail
          refine ⟨trivial, ?_⟩
          with_reducible refine (CallsIn.inRound l' (callsIn_wide.2 (hBare.out _))).mono ?_
          rintro e w' ⟨rfl, rfl⟩
          gi_wp2_with fail
          refine (RoundIn.inRound l' (RoundIn.wide HR'.out)).mono ?_
          rintro e W7 ⟨hk7, (⟨rfl, hJ7⟩ | ⟨rfl, hJx7⟩)⟩
          · have hs7 := hk7.size
            have HK7 : Hid (Kept (fun k => k = N + 2 ∨ S k) W5 W7) := hid (HK6.out.trans (hk7.mono (fun k _ h => .inr (h.elim (fun h => h ▸ s22.out) (sS.out k)))))
            have K17 := hid (K16.out.keep hk7 (.inr s21.out))
            have K07 := hid (K06.out.keep hk7 (.inr s20.out))
            have KX7 := hid (KX6.out.keep hk7 (.inr s2x.out))
            have J7 := hid hJ7
            have s27 : Hid (∀ k, S2 k → N ≤ k ∧ k < W7.heap.size) := hid (fun k h => by have := s26.out k h; omega)
            have c0 := KX7.out.cell (k := 0) rfl
            have c1 := KX7.out.cell (k := 1) rfl
            have c2 := KX7.out.cell (k := 2) rfl
            have c3 := KX7.out.cell (k := 3) rfl
            have d0 := K17.out.cell (k := 0) rfl
            have d1 := K17.out.cell (k := 1) rfl
            have d2 := K17.out.cell (k := 2) rfl
            have d3 := K17.out.cell (k := 3) rfl
            have d4 := K17.out.cell (k := 4) rfl
            have e0 := K07.out.cell (k := 0) rfl
            have z0 := K17.out.froz 0
            have z1 := K17.out.froz 1
            have z2 := K17.out.froz 2
            have z3 := K17.out.froz 3
            have z4 := K17.out.froz 4
            try dsimp only at c0 c1 c2 c3 d0 d1 d2 d3 d4 e0
            clear hk7 hJ7 hy
            gi_wp2_with fail
            show Kept _ _ _ ∧ (J (uFold s (pre ++ [x])).1 (U S) _ ∧ Blk _ (N + 1) 254 (uFold s (pre ++ [x])).2.cells ∧ Blk _ N 283 _ ∧ _)
            rw [hv.out]
            have g4 := K07.out
            exact ⟨((((HK7.out.trans (Kept.setCell _ (by exact n12.out) _)).trans (Kept.setCell _ (by exact n12.out) _)).trans (Kept.setCell _ (by exact n12.out) _)).trans (Kept.setCell _ (by exact n12.out) _)).trans (Kept.setCell _ (by exact n12.out) _), HJ.out _ S2 (U S) W7 _ J7.out s27.out (((((Kept.setCell _ (fun h => h s21.out) _).trans (Kept.setCell _ (fun h => h s21.out) _)).trans (Kept.setCell _ (fun h => h s21.out) _)).trans (Kept.setCell _ (fun h => h s21.out) _)).trans (Kept.setCell _ (fun h => h s21.out) _)) (fun k h => .inl (s2S.out k h)), ((((K17.out.upd _ _ rfl).upd _ _ rfl).upd _ _ rfl).upd _ _ rfl).upd _ _ (by first | rfl | (rw [hk]; rfl)), ((((g4.other (by omega) _).other (by omega) _).other (by omega) _).other (by omega) _).other (by omega) _, by simp [World.setCell]; omega⟩
          · have HK7 : Hid (Kept (fun k => k = N + 2 ∨ S k) W5 W7) := hid (HK6.out.trans (hk7.mono (fun k _ h => .inr (h.elim (fun h => h ▸ s22.out) (sS.out k)))))
            have hs7 := hk7.size
            have s27 : Hid (∀ k, S2 k → N ≤ k ∧ k < W7.heap.size) := hid (fun k h => by have := s26.out k h; omega)
            have X7 := hid (HX.out _ S2 (U S) W7 W7 hJx7 s27.out (Kept.refl _ _) (fun k h => .inl (s2S.out k h)))
            clear hk7 hJx7 hy
            gi_wp2_with fail
            exact ⟨HK7.out, rfl, by omega, _, HO.out, X7.out⟩
        | false =>
          rw [hb] at hBare
          have hv : Hid (uFold s (pre ++ [x]) = (out, ⟨uk, ur, uf, wrap64 (ut + wd), false⟩)) := hid (by rw [HE.out, if_pos ⟨hk, ht, hb⟩])
          gi_wp2_with fail
          refine ⟨trivial, ?_⟩
          with_reducible refine (CallsIn.inRound l' (callsIn_wide.2 (hBare.out _))).mono ?_
          rintro e w' ⟨rfl, rfl⟩
          gi_wp2_with fail
          show Kept _ _ _ ∧ (J (uFold s (pre ++ [x])).1 (U S) _ ∧ Blk _ (N + 1) 254 (uFold s (pre ++ [x])).2.cells ∧ Blk _ N 283 _ ∧ _)
          rw [hv.out]
          have g4 := K06.out
          have g5 := hs6
          exact ⟨(HK6.out.trans (Kept.setCell _ (by exact n12.out) _)).trans (Kept.setCell _ (by exact n12.out) _), HJ.out _ S2 (U S) W6 _ J6.out s26.out ((Kept.setCell _ (fun h => h s21.out) _).trans (Kept.setCell _ (fun h => h s21.out) _)) (fun k h => .inl (s2S.out k h)), (K16.out.upd _ _ rfl).upd _ _ rfl, (g4.other (by omega) _).other (by omega) _, by simp [World.setCell]; omega⟩
      · have e1 := beq_f hk
        have hpo : out ++ [⟨uk, ur, uf, ut, ual⟩] <+: unitsL s := by
          have := HP.out
          rwa [if_neg (by simp [*]), if_pos (by first | assumption | omega)] at this
        obtain ⟨fn, tmps, assign, body, hy, hR⟩ := HY.out _ S2 ⟨uk, ur, uf, ut, ual⟩ W6 J6.out (by omega) s26.out hpo
        change (Instr.yield l #[.agg #[.int .i64 uk, .int .i32 ur, .int .i64 uf, .int .i64 ut, .bool ual]]).run Tryz.prog W6 = _ at hy
        have HR' := hid hR
        have HO := hid hpo
        clear hR hpo
        have hv : Hid (uFold s (pre ++ [x]) = (out ++ [⟨uk, ur, uf, ut, ual⟩], ⟨k, r, x, wrap64 (x + wd), true⟩)) := hid (by rw [HE.out, if_neg (by simp [*]), if_pos (by first | assumption | omega)])
        gi_wp2_with fail
        refine ⟨trivial, ?_⟩
        gi_wp2_with fail
        refine (RoundIn.inRound l' (RoundIn.wide HR'.out)).mono ?_
        rintro e W7 ⟨hk7, (⟨rfl, hJ7⟩ | ⟨rfl, hJx7⟩)⟩
        · have hs7 := hk7.size
          have HK7 : Hid (Kept (fun k => k = N + 2 ∨ S k) W5 W7) := hid (HK6.out.trans (hk7.mono (fun k _ h => .inr (h.elim (fun h => h ▸ s22.out) (sS.out k)))))
          have K17 := hid (K16.out.keep hk7 (.inr s21.out))
          have K07 := hid (K06.out.keep hk7 (.inr s20.out))
          have KX7 := hid (KX6.out.keep hk7 (.inr s2x.out))
          have J7 := hid hJ7
          have s27 : Hid (∀ k, S2 k → N ≤ k ∧ k < W7.heap.size) := hid (fun k h => by have := s26.out k h; omega)
          have c0 := KX7.out.cell (k := 0) rfl
          have c1 := KX7.out.cell (k := 1) rfl
          have c2 := KX7.out.cell (k := 2) rfl
          have c3 := KX7.out.cell (k := 3) rfl
          have d0 := K17.out.cell (k := 0) rfl
          have d1 := K17.out.cell (k := 1) rfl
          have d2 := K17.out.cell (k := 2) rfl
          have d3 := K17.out.cell (k := 3) rfl
          have d4 := K17.out.cell (k := 4) rfl
          have e0 := K07.out.cell (k := 0) rfl
          have z0 := K17.out.froz 0
          have z1 := K17.out.froz 1
          have z2 := K17.out.froz 2
          have z3 := K17.out.froz 3
          have z4 := K17.out.froz 4
          try dsimp only at c0 c1 c2 c3 d0 d1 d2 d3 d4 e0
          clear hk7 hJ7 hy
          gi_wp2_with fail
          show Kept _ _ _ ∧ (J (uFold s (pre ++ [x])).1 (U S) _ ∧ Blk _ (N + 1) 254 (uFold s (pre ++ [x])).2.cells ∧ Blk _ N 283 _ ∧ _)
          rw [hv.out]
          have g4 := K07.out
          exact ⟨((((HK7.out.trans (Kept.setCell _ (by exact n12.out) _)).trans (Kept.setCell _ (by exact n12.out) _)).trans (Kept.setCell _ (by exact n12.out) _)).trans (Kept.setCell _ (by exact n12.out) _)).trans (Kept.setCell _ (by exact n12.out) _), HJ.out _ S2 (U S) W7 _ J7.out s27.out (((((Kept.setCell _ (fun h => h s21.out) _).trans (Kept.setCell _ (fun h => h s21.out) _)).trans (Kept.setCell _ (fun h => h s21.out) _)).trans (Kept.setCell _ (fun h => h s21.out) _)).trans (Kept.setCell _ (fun h => h s21.out) _)) (fun k h => .inl (s2S.out k h)), ((((K17.out.upd _ _ rfl).upd _ _ rfl).upd _ _ rfl).upd _ _ rfl).upd _ _ (by first | rfl | (rw [hk]; rfl)), ((((g4.other (by omega) _).other (by omega) _).other (by omega) _).other (by omega) _).other (by omega) _, by simp [World.setCell]; omega⟩
        · have HK7 : Hid (Kept (fun k => k = N + 2 ∨ S k) W5 W7) := hid (HK6.out.trans (hk7.mono (fun k _ h => .inr (h.elim (fun h => h ▸ s22.out) (sS.out k)))))
          have hs7 := hk7.size
          have s27 : Hid (∀ k, S2 k → N ≤ k ∧ k < W7.heap.size) := hid (fun k h => by have := s26.out k h; omega)
          have X7 := hid (HX.out _ S2 (U S) W7 W7 hJx7 s27.out (Kept.refl _ _) (fun k h => .inl (s2S.out k h)))
          clear hk7 hJx7 hy
          gi_wp2_with fail
          exact ⟨HK7.out, rfl, by omega, _, HO.out, X7.out⟩
    · have t1 : decide (0 < ut) = false := decide_eq_false ht
      by_cases hk : k = 2
      · have e1 := beq_t hk
        have hv : Hid (uFold s (pre ++ [x]) = (out, ⟨k, r, x, wrap64 (x + wd), true⟩)) := hid (by rw [HE.out, if_neg (by simp [*]), if_neg (by first | assumption | omega)])
        gi_wp2_with fail
        refine ⟨trivial, ?_⟩
        gi_wp2_with fail
        refine ⟨fun _ h => (by cases h), ?_⟩
        gi_wp2_with fail
        show Kept _ _ _ ∧ (J (uFold s (pre ++ [x])).1 (U S) _ ∧ Blk _ (N + 1) 254 (uFold s (pre ++ [x])).2.cells ∧ Blk _ N 283 _ ∧ _)
        rw [hv.out]
        have g4 := K06.out
        exact ⟨((((HK6.out.trans (Kept.setCell _ (by exact n12.out) _)).trans (Kept.setCell _ (by exact n12.out) _)).trans (Kept.setCell _ (by exact n12.out) _)).trans (Kept.setCell _ (by exact n12.out) _)).trans (Kept.setCell _ (by exact n12.out) _), HJ.out _ S2 (U S) W6 _ J6.out s26.out (((((Kept.setCell _ (fun h => h s21.out) _).trans (Kept.setCell _ (fun h => h s21.out) _)).trans (Kept.setCell _ (fun h => h s21.out) _)).trans (Kept.setCell _ (fun h => h s21.out) _)).trans (Kept.setCell _ (fun h => h s21.out) _)) (fun k h => .inl (s2S.out k h)), ((((K16.out.upd _ _ rfl).upd _ _ rfl).upd _ _ rfl).upd _ _ rfl).upd _ _ (by first | rfl | (rw [hk]; rfl)), ((((g4.other (by omega) _).other (by omega) _).other (by omega) _).other (by omega) _).other (by omega) _, by simp [World.setCell]; omega⟩
      · have e1 := beq_f hk
        have hv : Hid (uFold s (pre ++ [x]) = (out, ⟨k, r, x, wrap64 (x + wd), true⟩)) := hid (by rw [HE.out, if_neg (by simp [*]), if_neg (by first | assumption | omega)])
        gi_wp2_with fail
        refine ⟨trivial, ?_⟩
        gi_wp2_with fail
        refine ⟨fun _ h => (by cases h), ?_⟩
        gi_wp2_with fail
        show Kept _ _ _ ∧ (J (uFold s (pre ++ [x])).1 (U S) _ ∧ Blk _ (N + 1) 254 (uFold s (pre ++ [x])).2.cells ∧ Blk _ N 283 _ ∧ _)
        rw [hv.out]
        have g4 := K06.out
        exact ⟨((((HK6.out.trans (Kept.setCell _ (by exact n12.out) _)).trans (Kept.setCell _ (by exact n12.out) _)).trans (Kept.setCell _ (by exact n12.out) _)).trans (Kept.setCell _ (by exact n12.out) _)).trans (Kept.setCell _ (by exact n12.out) _), HJ.out _ S2 (U S) W6 _ J6.out s26.out (((((Kept.setCell _ (fun h => h s21.out) _).trans (Kept.setCell _ (fun h => h s21.out) _)).trans (Kept.setCell _ (fun h => h s21.out) _)).trans (Kept.setCell _ (fun h => h s21.out) _)).trans (Kept.setCell _ (fun h => h s21.out) _)) (fun k h => .inl (s2S.out k h)), ((((K16.out.upd _ _ rfl).upd _ _ rfl).upd _ _ rfl).upd _ _ rfl).upd _ _ (by first | rfl | (rw [hk]; rfl)), ((((g4.other (by omega) _).other (by omega) _).other (by omega) _).other (by omega) _).other (by omega) _, by simp [World.setCell]; omega⟩
  case done =>
    rintro Dk W9 hDk ⟨hJ9, k1, k0, h49⟩ hK
    obtain ⟨out, u, hou⟩ : ∃ out u, uFold s (posL s 0) = (out, u) := ⟨_, _, rfl⟩
    have hDl := at_lt hK
    have s9 := U4.out (fun k => k = Dk) W9 (fun k h => by omega) h49
    have sD : U (fun k => k = Dk) Dk := U2.out _ _ (.inl rfl)
    have hU : unitsL s = if 0 < u.t then out ++ [u] else out := by unfold unitsL; rw [hou]
    rw [hou] at hJ9 k1
    dsimp only at hJ9 k1
    obtain ⟨uk, ur, uf, ut, ual⟩ := u
    dsimp only at hU
    have S9 := hid s9
    have SD := hid sD
    have HU := hid hU
    have hK0 := hid hK
    have d0 := k1.cell (k := 0) rfl
    have d1 := k1.cell (k := 1) rfl
    have d2 := k1.cell (k := 2) rfl
    have d3 := k1.cell (k := 3) rfl
    have d4 := k1.cell (k := 4) rfl
    have e0 := k0.cell (k := 0) rfl
    try dsimp only at d0 d1 d2 d3 d4 e0
    have J9 := hid hJ9
    clear k1 k0 hou hU hK hJ9 sD s9 hseq HOf
    subst hTm hD
    by_cases ht : 0 < ut
    · have t1 : decide (0 < ut) = true := decide_eq_true ht
      have hv : Hid (unitsL s = out ++ [⟨uk, ur, uf, ut, ual⟩]) := hid (by rw [HU.out, if_pos ht])
      obtain ⟨fn, tmps, assign, body, hy, hR⟩ := HY.out _ _ ⟨uk, ur, uf, ut, ual⟩ W9 J9.out (by omega) S9.out (by rw [hv.out]; exact List.prefix_rfl)
      change (Instr.yield l #[.agg #[.int .i64 uk, .int .i32 ur, .int .i64 uf, .int .i64 ut, .bool ual]]).run Tryz.prog W9 = _ at hy
      have HR' := hid hR
      clear hR
      gi_wp2_with fail
      refine (RoundIn.wide HR'.out).mono ?_
      rintro e W2 ⟨hk2, (⟨rfl, hJ2⟩ | ⟨rfl, hJ2⟩)⟩
      all_goals
        have hs2 := hk2.size
        have hK2 := hid (hk2.obj hK0.out (.inr SD.out))
        have J2 := hid hJ2
        have S29 : Hid (∀ k, U (fun k => k = Dk) k → N ≤ k ∧ k < W2.heap.size) := hid (fun k h => by have := S9.out k h; omega)
        clear hk2 hJ2 hy
        gi_wp2_with fail
        refine ⟨by simp, .inl ⟨_, _, rfl, run_takeDeferred hK2.out, ?_⟩⟩
      · refine ⟨_, results_none rfl _ _ _, ⟨_, rfl⟩, .inl ?_⟩
        rw [hv.out]
        exact HJ.out _ _ none' W2 _ J2.out S29.out (Kept.putObj W2 (fun h => h SD.out) _) (fun k h => h.elim)
      · refine ⟨_, results_none rfl _ _ _, ⟨_, rfl⟩, .inr ⟨_, ?_, HX.out _ _ none' W2 _ J2.out S29.out (Kept.putObj W2 (fun h => h SD.out) _) (fun k h => h.elim)⟩⟩
        rw [hv.out]
        exact List.prefix_rfl
    · have t1 : decide (0 < ut) = false := decide_eq_false ht
      have hv : Hid (unitsL s = out) := hid (by rw [HU.out, if_neg ht])
      gi_wp2_with fail
      refine ⟨by simp, .inl ⟨_, _, rfl, run_takeDeferred hK0.out, ?_⟩⟩
      refine ⟨_, results_none rfl _ _ _, ⟨_, rfl⟩, .inl ?_⟩
      rw [hv.out]
      exact HJ.out _ _ none' W9 _ J9.out S9.out (Kept.putObj W9 (fun h => h SD.out) _) (fun k h => h.elim)
  case stop =>
    rintro Dk c pre W9 hDk hpre ⟨rfl, h49, q, hq, hXq⟩ hK
    have hDl := at_lt hK
    have s9 := U4.out (fun k => k = Dk) W9 (fun k h => by omega) h49
    have SD : Hid (U (fun k => k = Dk) Dk) := hid (U2.out _ _ (.inl rfl))
    have hK0 := hid hK
    have HXq := hid hXq
    have S9 := hid s9
    clear hK hXq s9 hseq HOf
    subst hTm hD
    gi_wp2_with fail
    refine ⟨by simp, .inl ⟨_, _, rfl, run_takeDeferred hK0.out, ?_⟩⟩
    exact ⟨_, results_none rfl _ _ _, ⟨_, rfl⟩, .inr ⟨q, hq, HX.out _ _ none' W9 _ HXq.out S9.out (Kept.putObj W9 (fun h => h SD.out) _) (fun k h => h.elim)⟩⟩
theorem units_seq (hOf : OfOk) (s : ByteArray) (hs : s.size ≤ 140737488355328) (kb : Nat) (w : World) (hc : w.cell? ⟨kb, 0, none⟩ = some (.string s)) :
    SeqS Fence.wide 9 Tryz.prog 191 #[.pointer (some ⟨kb, 0, none⟩)] (fun u => #[u.v]) (fun k => k = kb) (unitsL s) w := fun l J Jx W hW hJ hX hY h0 =>
  units79 hOf s hs l kb (fun k => k = kb) rfl J Jx W hJ hX hY ((hW.cell (p := ⟨kb, 0, none⟩) (World.block_lt_of_cell? w _ hc)).trans hc) h0
end Go.Proofs.YteodfondjogmoaaGreatDoor
