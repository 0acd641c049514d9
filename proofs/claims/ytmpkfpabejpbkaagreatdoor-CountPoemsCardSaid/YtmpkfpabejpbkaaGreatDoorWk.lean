/- Poem.Words: the words of a poem's lines, as an iterator. Conditions: those of each theorem. -/
import Derived.Test.YtmpkfpabejpbkaaGreatDoorWj
import Derived.Test.YtmpkfpabejpbkaaGreatDoorWp
import Derived.Test.YtmpkfpabejpbkaaGreatDoorCQx
namespace Go.Proofs.YtmpkfpabejpbkaaGreatDoor
open Go Go.RowKit Go.Lib Go.Shelf
set_option linter.unusedVariables false
set_option linter.unusedSimpArgs false
attribute [local go_sem] Oper.semAt_some C.Ext.cell C.Ext.froz
/-- a word of a line, with the line's number -/
def prW (x : Nat × Vs) (y : Tk) : Nat × ByteArray := (x.1, x.2.tx.extract y.f.toNat y.t.toNat)
def lnW (x : Nat × Vs) : List (Nat × ByteArray) := (wordsL x.2.tx).map (prW x)
def pW (l : List (Nat × Vs)) : List (Nat × ByteArray) := l.flatMap lnW
theorem pW_snoc (pre : List (Nat × Vs)) (x : Nat × Vs) : pW (pre ++ [x]) = pW pre ++ lnW x := by unfold pW; simp
theorem pW_pre {pre all : List (Nat × Vs)} (h : pre <+: all) : pW pre <+: pW all := by
  obtain ⟨q, rfl⟩ := h
  unfold pW; rw [List.flatMap_append]; exact List.prefix_append _ _
theorem eachL_mem : ∀ (L : List Vs) (k : Nat) (x : Nat × Vs), x ∈ eachL k L → x.2 ∈ L
  | [], _, x, h => by cases h
  | v :: r, k, x, h => by
    unfold eachL at h
    rcases List.mem_cons.1 h with rfl | h
    · exact List.mem_cons_self ..
    · exact List.mem_cons_of_mem _ (eachL_mem r (k + 1) x h)
theorem SeqS.inRound {α : Type} {F : Fence} {n : Nat} {P : Program} {g : Nat} {lb : Array Value} {encs : α → Array Value} {R : Nat → Prop} {all : List α} {w : World} (l : Nat) (h : SeqS F n P g lb encs R all w) : SeqS (F.inRound l) n P g lb encs R all w := h
theorem pwords7 (p : Option Addr) (w : World) : Calls Tryz.prog 7 #[.pointer p] w fun e w' => e = .returned (.func (.func 26) #[] #[.pointer (some ⟨w.heap.size, 0, none⟩)]) ∧ w' = w.alloc (.cells #[.pointer p] 23) := by
  go_enter Tryz.func7, Tryz.ntmps7
  go_wp2_with fail
  go_ret
  exact ⟨rfl, rfl⟩
set_option maxHeartbeats 8000000 in
theorem pwords26 (hOf : OfOk) (L : List Vs) (hL : L.length ≤ 70000) (hLs : ∀ v ∈ L, v.tx.size ≤ 100000) (pb g cap : Nat) (a : Option Addr) (l kb : Nat) (RR : Nat → Prop) (hR : RR kb ∧ RR pb ∧ RR g) (J Jx : List (Nat × ByteArray) → (Nat → Prop) → World → Prop) (W : World) (hJ : Free W.heap.size J) (hX : Free W.heap.size Jx)
    (hY : ∀ pre S x W1, J pre S W1 → W.heap.size ≤ W1.heap.size → (∀ k, S k → W.heap.size ≤ k ∧ k < W1.heap.size) → pre ++ [x] <+: pW (eachL 0 L) → YieldAt Fence.wide 8 Tryz.prog l #[.int .i64 x.1, .string x.2] W1 fun e W' =>
      Kept (fun k => RR k ∨ S k) W1 W' ∧ ((e = .returned (.bool true) ∧ J (pre ++ [x]) S W') ∨ (e = .returned (.bool false) ∧ Jx (pre ++ [x]) S W')))
    (hc : W.cell? ⟨kb, 0, none⟩ = some (.pointer (some ⟨pb, 0, none⟩))) (hPm : PmAt W pb g a cap L) (hgW : pb < W.heap.size ∧ g < W.heap.size) (h0 : J [] none' W) :
    CallsIn Fence.wide 9 Tryz.prog 26 #[.func (.yield l) #[] #[], .pointer (some ⟨kb, 0, none⟩)] W fun e W' => (∃ v, e = .returned v) ∧ (J (pW (eachL 0 L)) none' W' ∨ (∃ pre, pre <+: pW (eachL 0 L) ∧ Jx pre none' W')) := by
  have HPm := hid hPm
  clear hPm
  have hkb : kb < W.heap.size := World.block_lt_of_cell? W _ hc
  refine callsIn_of_wp_marks Tryz.func26 rfl trivial ?_ rfl
  simp only [Tryz.ntmps26, List.size_toArray, List.length_cons, List.length_nil, Nat.reduceAdd, Nat.reduceSub, Array.replicate_succ, Array.replicate_zero, List.push_toArray, List.append_toArray, List.nil_append, List.cons_append]
  have HJ := hid hJ
  have HX := hid hX
  have HY := hid hY
  have HR := hid hR
  have H0 := hid h0
  have HOf := hid hOf
  have hOf' := hOf
  have hP := hid (fun W => each11 (some ⟨pb, 0, none⟩) W)
  clear hJ hX hY hR h0 hOf
  have hc1 : (W.alloc (.cells #[.func (.yield l) #[] #[]] 77)).cell? ⟨kb, 0, none⟩ = some (.pointer (some ⟨pb, 0, none⟩)) := by
    exact (((Below.refl W.heap.size W).alloc (Nat.le_refl _) _).cell (p := ⟨kb, 0, none⟩) hkb).trans hc
  gi_wp2_with fail
  refine ⟨trivial, ?_⟩
  with_reducible refine CallsIn.mono (callsIn_wide.2 (hP.out _)) ?_
  rintro e w4 ⟨rfl, hw4⟩
  have b0 := (Blk.new W 77 #[.func (.yield l) #[] #[]]).alloc (.cells #[.pointer (some ⟨pb, 0, none⟩)] 23)
  have b2 := Blk.new (W.alloc (.cells #[.func (.yield l) #[] #[]] 77)) 23 #[.pointer (some ⟨pb, 0, none⟩)]
  rw [← hw4] at b0 b2
  simp only [World.size_alloc, Nat.add_assoc, Nat.reduceAdd] at b2
  have hN : w4.heap.size = W.heap.size + 2 := by rw [hw4]; simp
  have hK4 : Kept (fun k => ¬ none' k) W w4 := by rw [hw4]; exact (Kept.alloc _ _ _).trans (Kept.alloc _ _ _)
  have hB4 : Below W.heap.size W w4 := by rw [hw4]; exact ((Below.refl _ W).alloc (Nat.le_refl _) _).alloc (by simp) _
  clear hw4 hc1 hP
  simp only [World.size_alloc, Nat.add_assoc, Nat.reduceAdd]
  obtain ⟨N, hNN⟩ : ∃ N, N = W.heap.size := ⟨_, rfl⟩
  rw [← hNN] at hgW hN b0 b2 hB4 HJ HX HY ⊢
  have B0 := hid b0
  have B2 := hid b2
  have HK4 := hid hK4
  clear b0 b2 hK4
  obtain ⟨U, hU⟩ : ∃ U : (Nat → Prop) → Nat → Prop, U = fun S k => S k ∨ k = N ∨ k = N + 1 := ⟨_, rfl⟩
  have U1 : Hid (∀ S k, U S k → S k ∨ k = N ∨ k = N + 1) := hid (fun S k h => by rw [hU] at h; exact h)
  have U2 : Hid (∀ S k, S k ∨ k = N ∨ k = N + 1 → U S k) := hid (fun S k h => by rw [hU]; exact h)
  clear hU
  have U4 : Hid (∀ S (X : World), (∀ k, S k → N ≤ k ∧ k < X.heap.size) → N + 2 ≤ X.heap.size → ∀ k, U S k → N ≤ k ∧ k < X.heap.size) := hid (fun S X h1 h2 k h => by
    rcases U1.out _ _ h with h | h | h
    · exact h1 k h
    all_goals omega)
  have U5 : Hid (∀ (S S' : Nat → Prop) (X Y : World), (∀ k, S' k → S k ∨ (X.heap.size ≤ k ∧ k < Y.heap.size)) → ∀ k, U S' k → U S k ∨ (X.heap.size ≤ k ∧ k < Y.heap.size)) := hid (fun S S' X Y h1 k h => by
    rcases U1.out _ _ h with h | h
    · rcases h1 k h with h | h
      · exact .inl (U2.out _ _ (.inl h))
      · exact .inr h
    · exact .inl (U2.out _ _ (.inr h)))
  have H1 : Hid (J [] (U none') w4) := hid (HJ.out _ none' _ _ _ H0.out (fun k h => h.elim) HK4.out (fun k h => .inr (by
    rcases U1.out _ _ h with h | h | h
    · exact h.elim
    all_goals omega)))
  clear H0 HK4
  have HNN := hid hNN
  clear hNN
  gi_wp2_with fail
  refine name_actZ ?_
  intro Tm D hTm hD
  have hseq := (each_seq L hL pb g cap a (N + 1) w4 (B2.out.cell (k := 0) rfl) (HPm.out.keep (Kept.of_below hB4 (T := fun k => k < N) (fun _ _ h => h)) hgW.1 hgW.2)).wide 8
  refine rangeFunc_s (F := Fence.wide) (α := Nat × Vs) rfl (by omega) (gf := 37) (lb := #[.pointer (some ⟨N + 1, 0, none⟩)]) (by subst hTm; rfl) trivial (enters_of Tryz.func37 (by kernel_rfl) rfl)
    hseq (fun k hk => by rcases hk with h | h | h <;> omega) (Below.refl _ _) (fun _ => rfl)
    (fun pre S W => J (pW pre) (U S) W ∧ Blk W N 77 #[.func (.yield l) #[] #[]] ∧ N + 2 ≤ W.heap.size)
    (fun c _ S W => c = .ret ∧ N + 2 ≤ W.heap.size ∧ ∃ q, q <+: pW (eachL 0 L) ∧ Jx q (U S) W)
    ?hI ?hIx ⟨H1.out, B0.out, by omega⟩
    (fun pre S x a' W => ∃ Bi Bv, w4.heap.size ≤ Bi ∧ Bi < Bv ∧ ¬ S Bi ∧ ¬ S Bv ∧ Blk W Bi 3 #[.int .i64 x.1] ∧ Blk W Bv 48 x.2.cells ∧ J (pW pre) (fun k => U S k ∨ k = Bi ∨ k = Bv) W ∧ Blk W N 77 #[.func (.yield l) #[] #[]] ∧ a' = { tmps := (((Tm.setIfInBounds 8 (.int .i64 x.1)).setIfInBounds 9 x.2.v).setIfInBounds 3 (.pointer (some ⟨Bi, 0, none⟩))).setIfInBounds 4 (.pointer (some ⟨Bv, 0, none⟩)), defers := [] })
    ?hAx ?assign ?body ?done ?stop
  case hI =>
    intro pre S S' X Y ⟨h1, h3, h4⟩ hS hK hS'
    refine ⟨HJ.out _ (U S) _ X Y h1 (U4.out _ _ (fun k h => by have := hS k h; omega) h4) (hK.mono (fun k _ h hs => h (U2.out _ _ (.inl hs)))) (U5.out _ _ _ _ hS'), h3.keep hK (fun h => ?_), by have := hK.size; omega⟩
    · have := (hS _ h).1; omega
  case hIx =>
    intro c pre S S' X Y ⟨h0, h4, q, hq, h1⟩ hS hK hS'
    exact ⟨h0, by have := hK.size; omega, q, hq, HX.out _ (U S) _ X Y h1 (U4.out _ _ (fun k h => by have := hS k h; omega) h4) (hK.mono (fun k _ h hs => h (U2.out _ _ (.inl hs)))) (U5.out _ _ _ _ hS')⟩
  case hAx =>
    intro pre S x a' W5 lb o ⟨Bi, Bv, g1, g1', g2, g2', g3, g3', g4, g6, g7⟩ hSl hS
    have hb := g3'.lt
    refine ⟨Bi, Bv, g1, g1', g2, g2', g3.put (fun e => g2 (e ▸ hSl)) _, g3'.put (fun e => g2' (e ▸ hSl)) _, ?_, g6.put (by have := hS _ hSl; omega) _, g7⟩
    have u4 := U4.out S W5 (fun k h => by have := hS k h; omega) (by omega)
    exact HJ.out _ _ _ W5 _ g4 (fun k h => h.elim (fun h => u4 k h) (fun h => by omega)) (Kept.putObj W5 (fun h => h (.inl (U2.out _ _ (.inl hSl)))) _) (fun k h => .inl h)
  case assign =>
    rintro l' pre S x W5 K ⟨hJ5, h05, h45⟩ hW5 hS5 hpre hK
    subst hTm hD
    have kA : ∀ T, Kept T W5 ((W5.alloc (.cells #[.int .i64 x.1] 3)).alloc (.cells x.2.cells 48)) := fun T => (Kept.alloc T W5 _).trans (Kept.alloc T _ _)
    have hB1 := (Blk.new W5 3 #[.int .i64 x.1]).alloc (.cells x.2.cells 48)
    have hB2 := Blk.new (W5.alloc (.cells #[.int .i64 x.1] 3)) 48 x.2.cells
    rw [World.size_alloc] at hB2
    have hJ6 := HJ.out _ (U S) (fun k => U S k ∨ k = W5.heap.size ∨ k = W5.heap.size + 1) W5 _ hJ5 (U4.out _ _ (fun k h => by have := hS5 k h; omega) h45) (kA _) (fun k h => by
      rcases h with h | h
      · exact .inl h
      · exact .inr ⟨by omega, by simp only [World.size_alloc]; omega⟩)
    have H := hK _ _ (kA _) ⟨W5.heap.size, W5.heap.size + 1, by omega, by omega, (fun h => by have := (hS5 _ h).2; omega), (fun h => by have := (hS5 _ h).2; omega), hB1, hB2, hJ6, (h05.alloc _).alloc _, rfl⟩
    clear hK kA hB1 hB2 hJ6 hJ5 h05
    obtain ⟨xi, tx, va, vb, vc, vf, vt⟩ := x
    dsimp only at H
    simp only [List.setIfInBounds_toArray, List.set_cons_succ, List.set_cons_zero] at H
    gi_wp2
    exact H
  case body =>
    rintro l' pre S x a' W5 hSl ⟨rec, hrec⟩ hW5 hS5 hpre ⟨Bi, Bv, hBi, hBv, hSi, hSv, ki, kv, hJ5, k0, rfl⟩
    have hxm : x.2 ∈ L := eachL_mem L 0 x (hpre.subset (by simp))
    have hts := hLs x.2 hxm
    have hpu := pW_pre hpre
    rw [pW_snoc] at hpu
    have hwo := words_ok x.2.tx (by omega)
    have hbv := kv.lt
    have hl0 := at_lt hrec
    have hSl2 := hS5 _ hSl
    obtain ⟨xi, tx, va, vb, vc, vf, vt⟩ := x
    dsimp only at ki kv hts hwo
    have hWd := hid (fun W => words27 tx W)
    have c0 := kv.cell (k := 0) rfl
    try dsimp only at c0
    subst hTm hD
    dsimp only
    simp only [List.setIfInBounds_toArray, List.set_cons_succ, List.set_cons_zero]
    have u4 := U4.out S W5 (fun k h => by have := hS5 k h; omega) (by omega)
    obtain ⟨V, hV⟩ : ∃ V : Nat → Prop, V = fun k => U S k ∨ k = Bi ∨ k = Bv ∨ k = W5.heap.size := ⟨_, rfl⟩
    have v1 : Hid (∀ k, V k → U S k ∨ k = Bi ∨ k = Bv ∨ k = W5.heap.size) := hid (fun k h => by rw [hV] at h; exact h)
    have v2 : Hid (∀ k, U S k ∨ k = Bi ∨ k = Bv ∨ k = W5.heap.size → V k) := hid (fun k h => by rw [hV]; exact h)
    have v4 : Hid (∀ k, V k → N ≤ k ∧ k < W5.heap.size + 1) := hid (fun k h => by
      rcases v1.out k h with h | h | h | h
      · have := u4 k h; omega
      all_goals omega)
    have KI := hid ki
    have KV := hid kv
    have K0 := hid k0
    have J6 := hid (HJ.out _ _ V W5 (W5.alloc (.cells #[.string tx] 9)) hJ5 (fun k h => h.elim (fun h => u4 k h) (fun h => by omega)) (Kept.alloc _ _ _) (fun k h => by
      rcases v1.out k h with h | h | h | h
      · exact .inl (.inl h)
      · exact .inl (.inr (.inl h))
      · exact .inl (.inr (.inr h))
      · exact .inr (by rw [World.size_alloc]; omega)))
    have hR5 : Hid (∀ k, (k = N + 1 ∨ k = pb ∨ k = g) ∨ S k → k < W5.heap.size) := hid (fun k h => by
      rcases h with h | h
      · rcases h with h | h | h <;> omega
      · exact (hS5 k h).2)
    have sV : Hid (∀ k, S k → V k) := hid (fun k h => v2.out k (.inl (U2.out _ _ (.inl h))))
    have nV : Hid (V (N + 1)) := hid (v2.out _ (.inl (U2.out _ _ (.inr (.inr rfl)))))
    have nV0 : Hid (V N) := hid (v2.out _ (.inl (U2.out _ _ (.inr (.inl rfl)))))
    have HW := hid hwo
    have HP := hid hpu
    have HR5 := hid hrec
    have HS5 := hid hS5
    clear hV hJ5 hpu hwo hrec hS5 u4 hSl hSi hSv hpre hxm ki kv k0 hseq HOf hLs
    gi_wp2_with fail
    refine ⟨trivial, ?_⟩
    with_reducible refine (CallsIn.inRound l' (callsIn_wide.2 (hWd.out _))).mono ?_
    rintro e W6 ⟨rfl, hw6⟩
    have hs6 : W6.heap.size = W5.heap.size + 1 := by rw [hw6]; simp
    have KI6 : Hid (Blk W6 Bi 3 #[.int .i64 xi]) := hid (by rw [hw6]; exact KI.out.alloc _)
    have KV6 : Hid (Blk W6 Bv 48 #[.string tx, .int .i64 va, .int .i64 vb, .int .i64 vc, .int .i64 vf, .int .i64 vt]) := hid (by rw [hw6]; exact KV.out.alloc _)
    have K06 : Hid (Blk W6 N 77 #[.func (.yield l) #[] #[]]) := hid (by rw [hw6]; exact K0.out.alloc _)
    have KS6 : Hid (Blk W6 W5.heap.size 9 #[.string tx]) := hid (by rw [hw6]; exact Blk.new W5 9 #[.string tx])
    have J6' : Hid (J (pW pre) V W6) := hid (by rw [hw6]; exact J6.out)
    have HR6 : Hid (W6.heap[l']? = some (.loop rec)) := hid (by rw [hw6]; exact (Below.heap_alloc _ _ _ hl0).trans HR5.out)
    have HK6 : Hid (Kept (fun k => (k = N + 1 ∨ k = pb ∨ k = g) ∨ S k) W5 W6) := hid (by rw [hw6]; exact Kept.alloc _ _ _)
    clear hw6 KI KV K0 J6 HR5 hWd
    gi_wp2_with fail
    refine name_actZ ?_
    intro Tm2 D2 hTm2 hD2
    have hseq2 := SeqS.inRound l' ((words_seq hOf' tx (by omega) W5.heap.size W6 (KS6.out.cell (k := 0) rfl)).wide 6)
    refine rangeFunc_sN (F := Fence.wide.inRound l') (n := 9 - 1 - 1) (α := Tk) (l₀ := l') (r₀ := rec) rfl HR6.out (by omega) (gf := 48) (lb := #[.pointer (some ⟨W5.heap.size, 0, none⟩)]) (by subst hTm2; rfl) trivial (enters_of Tryz.func48 (by kernel_rfl) rfl)
      hseq2 (fun k hk => by omega) (Below.refl _ _) (fun _ => rfl)
      (fun qs S' X => J (pW pre ++ qs.map (prW ⟨xi, ⟨tx, va, vb, vc, vf, vt⟩⟩)) (fun k => S' k ∨ V k) X ∧ Blk X N 77 #[.func (.yield l) #[] #[]] ∧ Blk X Bi 3 #[.int .i64 xi] ∧ Blk X Bv 48 #[.string tx, .int .i64 va, .int .i64 vb, .int .i64 vc, .int .i64 vf, .int .i64 vt] ∧ W5.heap.size + 1 ≤ X.heap.size ∧ Kept (fun k => (k = N + 1 ∨ k = pb ∨ k = g) ∨ S k) W5 X)
      (fun c _ S' X => c = .ret ∧ W5.heap.size + 1 ≤ X.heap.size ∧ Kept (fun k => (k = N + 1 ∨ k = pb ∨ k = g) ∨ S k) W5 X ∧ ∃ q, q <+: pW (eachL 0 L) ∧ Jx q (fun k => S' k ∨ V k) X)
      ?hI2 ?hIx2 ?h02
      (fun qs S' y a' X => ∃ Bp, W6.heap.size ≤ Bp ∧ ¬ S' Bp ∧ Blk X Bp 46 #[.int .i64 y.f, .int .i64 y.t] ∧ J (pW pre ++ qs.map (prW ⟨xi, ⟨tx, va, vb, vc, vf, vt⟩⟩)) (fun k => (S' k ∨ V k) ∨ k = Bp) X ∧ Blk X N 77 #[.func (.yield l) #[] #[]] ∧ Blk X Bi 3 #[.int .i64 xi] ∧ Blk X Bv 48 #[.string tx, .int .i64 va, .int .i64 vb, .int .i64 vc, .int .i64 vf, .int .i64 vt] ∧ W5.heap.size + 1 ≤ X.heap.size ∧ Kept (fun k => (k = N + 1 ∨ k = pb ∨ k = g) ∨ S k) W5 X ∧ a' = { tmps := (Tm2.setIfInBounds 13 y.span).setIfInBounds 5 (.pointer (some ⟨Bp, 0, none⟩)), defers := [] })
      ?hAx2 ?assign2 ?body2 ?done2 ?stop2
    case hI2 =>
      intro qs S' S'' X Y ⟨h1, g0, gi, gv, hsz, hk⟩ hS hK hS'
      have nb : ∀ k, k < W5.heap.size → ¬ S' k := fun k h hs => by have := (hS k hs).1; omega
      exact ⟨HJ.out _ _ _ X Y h1 (fun k h => h.elim (fun h => by have := hS k h; omega) (fun h => by have := v4.out k h; omega)) (hK.mono (fun k _ h hs => h (.inl hs))) (fun k h => h.elim (fun h => (hS' k h).imp .inl id) (fun h => .inl (.inr h))),
        g0.keep hK (nb _ (by omega)), gi.keep hK (nb _ (by omega)), gv.keep hK (nb _ (by omega)), by have := hK.size; omega, hk.trans (hK.mono (fun k _ ht => nb k (hR5.out k ht)))⟩
    case hIx2 =>
      intro c qs S' S'' X Y ⟨h0, hsz, hk, q, hq, h1⟩ hS hK hS'
      have nb : ∀ k, k < W5.heap.size → ¬ S' k := fun k h hs => by have := (hS k hs).1; omega
      exact ⟨h0, by have := hK.size; omega, hk.trans (hK.mono (fun k _ ht => nb k (hR5.out k ht))), q, hq, HX.out _ _ _ X Y h1 (fun k h => h.elim (fun h => by have := hS k h; omega) (fun h => by have := v4.out k h; omega)) (hK.mono (fun k _ h hs => h (.inl hs))) (fun k h => h.elim (fun h => (hS' k h).imp .inl id) (fun h => .inl (.inr h)))⟩
    case h02 =>
      have hj := HJ.out _ V (fun k => none' k ∨ V k) W6 W6 J6'.out (fun k h => by have := v4.out k h; omega) (Kept.refl _ _) (fun k h => .inl (h.elim (fun h => h.elim) id))
      refine ⟨?_, K06.out, KI6.out, KV6.out, by omega, HK6.out⟩
      rw [List.map_nil, List.append_nil]
      exact hj
    case hAx2 =>
      intro qs S' y a' X lb o ⟨Bp, g1, g2, g3, g4, g0, gi, gv, hsz, hk, g7⟩ hSl hS
      have hb := g3.lt
      have hlb := (hS _ hSl).1
      exact ⟨Bp, g1, g2, g3.put (fun e => g2 (e ▸ hSl)) _, HJ.out _ _ _ X _ g4 (fun k h => h.elim (fun h => h.elim (fun h => by have := hS k h; omega) (fun h => by have := v4.out k h; omega)) (fun h => by omega)) (Kept.putObj X (fun h => h (.inl (.inl hSl))) _) (fun k h => .inl h),
        g0.put (by omega) _, gi.put (by omega) _, gv.put (by omega) _, by simp [World.putObj]; omega, hk.trans (Kept.putObj X (fun ht => by have := hR5.out _ ht; omega) _), g7⟩
    case assign2 =>
      rintro l2 qs S' y X K ⟨hJ7, g0, gi, gv, hsz, hk⟩ hX7 hS7 hpre2 hK
      subst hTm2 hD2
      have hB := Blk.new X 46 #[.int .i64 y.f, .int .i64 y.t]
      have hJ8 := HJ.out _ _ (fun k => (S' k ∨ V k) ∨ k = X.heap.size) X (X.alloc (.cells #[.int .i64 y.f, .int .i64 y.t] 46)) hJ7 (fun k h => h.elim (fun h => by have := hS7 k h; omega) (fun h => by have := v4.out k h; omega)) (Kept.alloc _ _ _) (fun k h => h.elim .inl (fun h => .inr ⟨by omega, by rw [World.size_alloc]; omega⟩))
      have H := hK _ _ (Kept.alloc _ _ _) ⟨X.heap.size, by omega, (fun h => by have := (hS7 _ h).2; omega), hB, hJ8, g0.alloc _, gi.alloc _, gv.alloc _, by rw [World.size_alloc]; omega, hk.trans (Kept.alloc _ _ _), rfl⟩
      clear hK hB hJ8 hJ7 g0 gi gv hk
      obtain ⟨kd, f, t⟩ := y
      dsimp only at H
      simp only [List.setIfInBounds_toArray, List.set_cons_succ, List.set_cons_zero] at H
      gi_wp2
      exact H
    case body2 =>
      rintro l2 qs S' y a' X hSl2' ⟨rec2, hrec2⟩ hX7 hS7 hpre2 ⟨Bp, hBp, hSp, kp, hJ7, g0, gi, gv, hsz, hk, rfl⟩
      have hym := HW.out y (hpre2.subset (by simp))
      have hpo : Hid ((pW pre ++ qs.map (prW ⟨xi, ⟨tx, va, vb, vc, vf, vt⟩⟩)) ++ [prW ⟨xi, ⟨tx, va, vb, vc, vf, vt⟩⟩ y] <+: pW (eachL 0 L)) := hid (by
        refine List.IsPrefix.trans ?_ HP.out
        rw [List.append_assoc]
        refine (List.prefix_append_right_inj _).2 ?_
        have h := List.IsPrefix.map (prW ⟨xi, ⟨tx, va, vb, vc, vf, vt⟩⟩) hpre2
        rw [List.map_append] at h
        exact h)
      have hbp := kp.lt
      obtain ⟨kd, f, t⟩ := y
      dsimp only at kp hym
      obtain ⟨fn, rfl⟩ := Int.eq_ofNat_of_zero_le hym.1
      obtain ⟨tn, rfl⟩ := Int.eq_ofNat_of_zero_le (Int.le_trans hym.1 hym.2.1)
      have hxt : (fn : Int) ≤ tn := hym.2.1
      have hxt2 : decide (fn ≤ tn) = true := decide_eq_true (by omega)
      have hts2 : (tn : Int) ≤ tx.size := hym.2.2
      have hxs : (fn : Int) ≤ tx.size := by omega
      subst hTm2 hD2
      dsimp only
      simp only [List.setIfInBounds_toArray, List.set_cons_succ, List.set_cons_zero]
      have e0 := g0.cell (k := 0) rfl
      have i0 := gi.cell (k := 0) rfl
      have t0 := gv.cell (k := 0) rfl
      have p0 := kp.cell (k := 0) rfl
      have p1 := kp.cell (k := 1) rfl
      have hbn := g0.lt
      have hbi := gi.lt
      have hbv := gv.lt
      have G0 := hid g0
      have GI := hid gi
      have GV := hid gv
      have HJ7 := hid hJ7
      have HK := hid hk
      have s2 : Hid (∀ k, (S' k ∨ V k) ∨ k = Bp → N ≤ k ∧ k < X.heap.size) := hid (fun k h => h.elim (fun h => h.elim (fun h => by have := hS7 k h; omega) (fun h => by have := v4.out k h; omega)) (fun h => by omega))
      have HS7 := hid hS7
      clear g0 gi gv hJ7 hk kp hpre2 hym hrec2 hSl2' hSp hS7 hseq2
      gi_wp2_with fail
      refine C.ext_tailInB 9 (by kernel_rfl) (C.WideF.round _ _ _) (by kernel_rfl) (by kernel_rfl) ?_
      simp only [List.take_succ_cons, List.take_zero, List.drop_succ_cons, List.drop_zero]
      repeat (refine C.bq_step (fun K hK => ?_); go_simp; refine ⟨hK _ ?_⟩; clear hK K)
      refine C.bq_nil ?_
      rintro _ ⟨xx, rfl⟩
      have hxx := xx.h
      have hsx := hxx.size
      have hJ8 := HJ.out _ _ (fun k => (S' k ∨ V k) ∨ k = Bp) X xx.w HJ7.out s2.out (Kept.of_all hxx _) (fun k h => .inl h)
      obtain ⟨fn2, tmps2, assign2, body2, hy, hR⟩ := HY.out _ _ (xi, tx.extract fn tn) xx.w hJ8 (by omega) (fun k h => by have := s2.out k h; omega) hpo.out
      have HR' := hid hR
      have HX8 := hid hxx
      clear hR hJ8 hxx
      gi_wp2_with fail
      refine (RoundIn.inRound l2 (RoundIn.wide HR'.out)).mono ?_
      rintro e W8 ⟨hk8, (⟨rfl, hJ9⟩ | ⟨rfl, hJ9⟩)⟩
      all_goals
        have hs8 := hk8.size
        have hKX : Hid (Kept (fun k => k = W5.heap.size ∨ S' k) X W8) := hid ((Kept.of_all HX8.out _).trans (hk8.mono (fun k _ h => .inr (.inl (h.elim (fun h => .inr (v2.out _ (.inr (.inr (.inr h))))) .inl)))))
        have hK5 : Hid (Kept (fun k => (k = N + 1 ∨ k = pb ∨ k = g) ∨ S k) W5 W8) := hid (HK.out.trans ((Kept.of_all HX8.out _).trans (hk8.mono (fun k _ h => h.elim (fun h => h.elim (fun h => .inr (.inl (.inr (h ▸ nV.out)))) (fun h => .inl (h.elim (fun h => h ▸ HR.out.2.1) (fun h => h ▸ HR.out.2.2)))) (fun h => .inr (.inl (.inr (sV.out k h))))))))
        have D0 := hid ((G0.out.low HX8.out).keep hk8 (.inr (.inl (.inr nV0.out))))
        have DI := hid ((GI.out.low HX8.out).keep hk8 (.inr (.inl (.inr (v2.out _ (.inr (.inl rfl)))))))
        have DV := hid ((GV.out.low HX8.out).keep hk8 (.inr (.inl (.inr (v2.out _ (.inr (.inr (.inl rfl))))))))
        have J9 := hid hJ9
        have s29 : Hid (∀ k, (S' k ∨ V k) ∨ k = Bp → N ≤ k ∧ k < W8.heap.size) := hid (fun k h => by have := s2.out k h; omega)
        clear hk8 hJ9 hy
        gi_wp2_with fail
      · refine ⟨hKX.out, ?_, D0.out, DI.out, DV.out, by omega, hK5.out⟩
        rw [List.map_append, ← List.append_assoc]
        exact HJ.out _ _ _ W8 W8 J9.out s29.out (Kept.refl _ _) (fun k h => .inl (.inl h))
      · exact ⟨hKX.out, rfl, by omega, hK5.out, _, hpo.out, HX.out _ _ _ W8 W8 J9.out s29.out (Kept.refl _ _) (fun k h => .inl (.inl h))⟩
    case done2 =>
      rintro W9 hW9 ⟨hJ9, g0, gi, gv, hsz, hk⟩
      have hv : Hid (pW (pre ++ [(xi, ⟨tx, va, vb, vc, vf, vt⟩)]) = pW pre ++ (wordsL tx).map (prW ⟨xi, ⟨tx, va, vb, vc, vf, vt⟩⟩)) := hid (pW_snoc pre _)
      have G0 := hid g0
      have HK := hid hk
      have J9 := hid (HJ.out _ _ (U S) W9 W9 hJ9 (fun k h => h.elim (fun h => h.elim) (fun h => by have := v4.out k h; omega)) (Kept.refl _ _) (fun k h => .inl (.inr (v2.out k (.inl h)))))
      subst hTm2 hD2
      clear hJ9 g0 gi gv hk hseq2
      gi_wp2_with fail
      show Kept _ _ _ ∧ (J (pW (pre ++ [(xi, ⟨tx, va, vb, vc, vf, vt⟩)])) (U S) _ ∧ Blk _ N 77 _ ∧ _)
      rw [hv.out]
      exact ⟨HK.out, J9.out, G0.out, by omega⟩
    case stop2 =>
      rintro c qs W9 hW9 hpre2 ⟨rfl, hsz, hk, q, hq, hXq⟩
      have HK := hid hk
      have HQ := hid hq
      have X9 := hid (HX.out _ _ (U S) W9 W9 hXq (fun k h => h.elim (fun h => h.elim) (fun h => by have := v4.out k h; omega)) (Kept.refl _ _) (fun k h => .inl (.inr (v2.out k (.inl h)))))
      subst hTm2 hD2
      clear hk hq hXq hpre2 hseq2
      gi_wp2_with fail
      exact ⟨HK.out, rfl, by omega, _, HQ.out, X9.out⟩
  case done =>
    rintro Dk W9 hDk ⟨hJ9, k0, h49⟩ hK
    have hDl := at_lt hK
    have s9 := U4.out (fun k => k = Dk) W9 (fun k h => by omega) h49
    have SD : Hid (U (fun k => k = Dk) Dk) := hid (U2.out _ _ (.inl rfl))
    have S9 := hid s9
    have hK0 := hid hK
    have J9 := hid hJ9
    clear k0 hK hJ9 s9 hseq HOf
    subst hTm hD
    gi_wp2_with fail
    refine ⟨by simp, .inl ⟨_, _, rfl, run_takeDeferred hK0.out, ?_⟩⟩
    exact ⟨_, results_none rfl _ _ _, ⟨_, rfl⟩, .inl (HJ.out _ _ none' W9 _ J9.out S9.out (Kept.putObj W9 (fun h => h SD.out) _) (fun k h => h.elim))⟩
  case stop =>
    rintro Dk c pre W9 hDk hpre ⟨rfl, h49, q, hq, hXq⟩ hK
    have hDl := at_lt hK
    have s9 := U4.out (fun k => k = Dk) W9 (fun k h => by omega) h49
    have SD : Hid (U (fun k => k = Dk) Dk) := hid (U2.out _ _ (.inl rfl))
    have hK0 := hid hK
    have HXq := hid hXq
    have S9 := hid s9
    clear hK hXq s9 hseq HOf
    subst hTm hD
    gi_wp2_with fail
    refine ⟨by simp, .inl ⟨_, _, rfl, run_takeDeferred hK0.out, ?_⟩⟩
    exact ⟨_, results_none rfl _ _ _, ⟨_, rfl⟩, .inr ⟨q, hq, HX.out _ _ none' W9 _ HXq.out S9.out (Kept.putObj W9 (fun h => h SD.out) _) (fun k h => h.elim)⟩⟩
theorem pwords_seq (hOf : OfOk) (L : List Vs) (hL : L.length ≤ 70000) (hLs : ∀ v ∈ L, v.tx.size ≤ 100000) (pb g cap : Nat) (a : Option Addr) (kb : Nat) (w : World) (hc : w.cell? ⟨kb, 0, none⟩ = some (.pointer (some ⟨pb, 0, none⟩))) (hP : PmAt w pb g a cap L) (hgW : pb < w.heap.size ∧ g < w.heap.size) :
    SeqS Fence.wide 9 Tryz.prog 26 #[.pointer (some ⟨kb, 0, none⟩)] (fun x => #[.int .i64 x.1, .string x.2]) (fun k => k = kb ∨ k = pb ∨ k = g) (pW (eachL 0 L)) w := fun l J Jx W hW hJ hX hY h0 =>
  pwords26 hOf L hL hLs pb g cap a l kb (fun k => k = kb ∨ k = pb ∨ k = g) ⟨.inl rfl, .inr (.inl rfl), .inr (.inr rfl)⟩ J Jx W hJ hX hY ((hW.cell (p := ⟨kb, 0, none⟩) (World.block_lt_of_cell? w _ hc)).trans hc) (hP.low hW) (by have := hW.size; omega) h0
end Go.Proofs.YtmpkfpabejpbkaaGreatDoor
