/- count.Of: the tally of a poem's words. Conditions: those of each theorem. -/
import Derived.Test.YtmpkfpabejpbkaaGreatDoorWk
import Derived.Test.YtmpkfpabejpbkaaGreatDoorJCTaJ
namespace Go.Proofs.YtmpkfpabejpbkaaGreatDoor
open Go Go.RowKit Go.Lib Go.Shelf
set_option linter.unusedVariables false
set_option linter.unusedSimpArgs false
attribute [local go_sem] Oper.semAt_some C.Ext.cell C.Ext.froz
/-- words counted one by one, up to the first that is refused -/
inductive Ra where
  | ok (L : List C.Ent)
  | bad (e : Int)
def runA (L : List C.Ent) : List ByteArray → Ra
  | [] => .ok L
  | w :: ws => if C.addE L w 1 = 0 then runA (C.addR L w 1) ws else .bad (C.addE L w 1)
theorem runA_app (b : List ByteArray) : ∀ (a : List ByteArray) (L : List C.Ent), runA L (a ++ b) = match runA L a with | .ok L' => runA L' b | .bad e => .bad e
  | [], L => rfl
  | w :: ws, L => by
    rw [List.cons_append, runA, runA]
    split
    · exact runA_app b ws _
    · rfl
theorem runA_snoc {a : List ByteArray} {x : ByteArray} {L L' : List C.Ent} (h : runA L a = .ok L') : runA L (a ++ [x]) = if C.addE L' x 1 = 0 then .ok (C.addR L' x 1) else .bad (C.addE L' x 1) := by
  rw [runA_app, h]; rfl
theorem runA_bad {a b : List ByteArray} {L : List C.Ent} {e : Int} (h : runA L a = .bad e) : runA L (a ++ b) = .bad e := by rw [runA_app, h]
theorem tal_keep {T : Nat → Prop} {W W' : World} {b m : Nat} {L : List C.Ent} (h : C.Tal W b m L) (hk : Kept T W W') (hb : T b) (hm : T m) (hbl : b < W.heap.size) (hml : m < W.heap.size) : C.Tal W' b m L := by
  obtain ⟨h1, ⟨D, h2, h3⟩, h4⟩ := h
  exact ⟨(hk.block b hbl hb).trans h1, ⟨D, h2.block (hk.block m hml hm), h3⟩, h4⟩
theorem but_kept {T : Nat → Prop} {W W' : World} {b m : Nat} (h : C.But2 b m W W') (hb : ¬ T b) (hm : ¬ T m) : Kept T W W' :=
  ⟨h.os, h.tape, h.output, h.size, fun k hk ht => h.block k hk (fun e => hb (e ▸ ht)) (fun e => hm (e ▸ ht))⟩
def txW (l : List (Nat × ByteArray)) : List ByteArray := l.map Prod.snd
theorem pW_size {L : List Vs} (hLs : ∀ v ∈ L, v.tx.size ≤ 100000) : ∀ x ∈ pW (eachL 0 L), x.2.size ≤ 100000 := by
  intro x hx
  unfold pW at hx
  obtain ⟨y, hy, hx⟩ := List.mem_flatMap.1 hx
  unfold lnW at hx
  obtain ⟨z, hz, rfl⟩ := List.mem_map.1 hx
  have h1 := hLs y.2 (eachL_mem L 0 y hy)
  unfold prW
  dsimp only
  rw [ByteArray.size_extract]
  omega
def OfPost (w : World) (ws : List ByteArray) (e : Ending) (w' : World) : Prop :=
  Below w.heap.size w w' ∧ match runA [] ws with
    | .ok Lf => ∃ b m, e = .returned (.tuple #[.pointer (some ⟨b, 0, none⟩), .int .i64 0]) ∧ C.Tal w' b m Lf ∧ w.heap.size ≤ b ∧ w.heap.size ≤ m
    | .bad er => e = .returned (.tuple #[.pointer none, .int .i64 er])
set_option maxHeartbeats 8000000 in
theorem of6 (hOf : OfOk) (L : List Vs) (hL : L.length ≤ 70000) (hLs : ∀ v ∈ L, v.tx.size ≤ 100000) (pb g cap : Nat) (a : Option Addr) (w : World) (hPm : PmAt w pb g a cap L) (hgW : pb < w.heap.size ∧ g < w.heap.size) :
    Calls Tryz.prog 6 #[.pointer (some ⟨pb, 0, none⟩)] w (OfPost w (txW (pW (eachL 0 L)))) := by
  refine (callsIn_wide (n := 9)).1 ?_
  refine callsIn_of_wp_marks Tryz.func6 rfl trivial ?_ rfl
  simp only [Tryz.ntmps6, List.size_toArray, List.length_cons, List.length_nil, Nat.reduceAdd, Nat.reduceSub, Array.replicate_succ, Array.replicate_zero, List.push_toArray, List.append_toArray, List.nil_append, List.cons_append]
  have hNw := hid C.new_any
  have hP := hid (fun W => pwords7 (some ⟨pb, 0, none⟩) W)
  have HPm := hid hPm
  have HOf := hid hOf
  have HLs := hid hLs
  clear hPm hOf hLs
  gi_wp2_with fail
  refine ⟨trivial, ?_⟩
  with_reducible refine CallsIn.mono (callsIn_wide.2 (hNw.out _)) ?_
  rintro e w2 ⟨rfl, hT2, hb2, hs2⟩
  obtain ⟨N, hNN⟩ : ∃ N, N = w.heap.size := ⟨_, rfl⟩
  simp only [World.size_alloc, Nat.add_assoc, Nat.reduceAdd] at hT2 hb2 hs2 ⊢
  rw [← hNN] at hT2 hb2 hs2 hgW ⊢
  have hb0 : Below N w ((w.alloc (.cells #[.pointer none] 29)).alloc (.cells #[.int .i64 0] 24)) := by rw [hNN]; exact ((Below.refl _ w).alloc (Nat.le_refl _) _).alloc (by simp) _
  have hB2 : Below N w w2 := hb0.trans (hb2.mono (by omega))
  have k0 : Blk w2 N 29 #[.pointer none] := by
    have := (Blk.new w 29 #[.pointer none]).alloc (.cells #[.int .i64 0] 24)
    rw [← hNN] at this
    exact this.low (by rw [show ((w.alloc (.cells #[.pointer none] 29)).alloc (.cells #[.int .i64 0] 24)).heap.size = N + 2 by simp [hNN]]; exact hb2)
  have k1 : Blk w2 (N + 1) 24 #[.int .i64 0] := by
    have := Blk.new (w.alloc (.cells #[.pointer none] 29)) 24 #[.int .i64 0]
    rw [World.size_alloc, ← hNN] at this
    exact this.low (by rw [show ((w.alloc (.cells #[.pointer none] 29)).alloc (.cells #[.int .i64 0] 24)).heap.size = N + 2 by simp [hNN]]; exact hb2)
  have T2 := hid hT2
  have HB2 := hid hB2
  have K0 := hid k0
  have K1 := hid k1
  have HNN := hid hNN
  clear hT2 hb2 hB2 k0 k1 hb0 hNN hNw
  gi_wp2_with fail
  refine ⟨trivial, ?_⟩
  with_reducible refine CallsIn.mono (callsIn_wide.2 (hP.out _)) ?_
  rintro e w4 ⟨rfl, hw4⟩
  have hs4 : w4.heap.size = N + 6 := by rw [hw4]; simp; omega
  simp only [World.size_alloc, hs2, Nat.add_assoc, Nat.reduceAdd]
  have hK4 : Kept (fun _ => True) w2 w4 := by rw [hw4]; exact (Kept.alloc _ _ _).trans (Kept.alloc _ _ _)
  have B0 := hid (K0.out.keep hK4 trivial)
  have B1 := hid (K1.out.keep hK4 trivial)
  have T4 := hid (tal_keep T2.out hK4 trivial trivial (by omega) (by omega))
  have B4 : Hid (Blk w4 (N + 4) 29 #[.pointer (some ⟨N + 2 + 1, 0, none⟩)]) := hid (by
    have := (Blk.new w2 29 #[.pointer (some ⟨N + 2 + 1, 0, none⟩)]).alloc (.cells #[.pointer (some ⟨pb, 0, none⟩)] 23)
    rw [hs2] at this
    rw [hw4]; exact this)
  have B5 : Hid (Blk w4 (N + 5) 23 #[.pointer (some ⟨pb, 0, none⟩)]) := hid (by
    have := Blk.new (w2.alloc (.cells #[.pointer (some ⟨N + 2 + 1, 0, none⟩)] 29)) 23 #[.pointer (some ⟨pb, 0, none⟩)]
    rw [World.size_alloc, hs2] at this
    rw [hw4]; exact this)
  have HB4 : Hid (Below N w w4) := hid (HB2.out.trans (hK4.below (by omega) (fun _ _ => trivial)))
  clear hw4 hP hK4 K0 K1 T2 HB2 hs2
  obtain ⟨ws, hws⟩ : ∃ ws, ws = pW (eachL 0 L) := ⟨_, rfl⟩
  have hwz := hid (hws ▸ pW_size HLs.out : ∀ x ∈ ws, x.2.size ≤ 100000)
  have T4' : Hid (C.Tal w4 (N + 3) (N + 2) []) := T4
  have B4' : Hid (Blk w4 (N + 4) 29 #[.pointer (some ⟨N + 3, 0, none⟩)]) := B4
  clear T4 B4
  gi_wp2_with fail
  refine name_actZ ?_
  intro Tm D hTm hD
  have hseq := (pwords_seq HOf.out L hL HLs.out pb g cap a (N + 5) w4 (B5.out.cell (k := 0) rfl) (HPm.out.keep (Kept.of_below HB4.out (T := fun k => k < N) (fun _ _ h => h)) hgW.1 hgW.2) (by omega)).wide 8
  rw [← hws] at hseq ⊢
  have HWS := hid hws
  clear hws
  refine rangeFunc_s (F := Fence.wide) (α := Nat × ByteArray) rfl (by omega) (gf := 26) (lb := #[.pointer (some ⟨N + 5, 0, none⟩)]) (by subst hTm; rfl) trivial (enters_of Tryz.func26 (by kernel_rfl) rfl)
    hseq (fun k hk => by rcases hk with h | h | h <;> omega) (Below.refl _ _) (fun _ => rfl)
    (fun pre S W => ∃ Lp, runA [] (txW pre) = .ok Lp ∧ C.Tal W (N + 3) (N + 2) Lp ∧ Blk W N 29 #[.pointer none] ∧ Blk W (N + 1) 24 #[.int .i64 0] ∧ Blk W (N + 4) 29 #[.pointer (some ⟨N + 3, 0, none⟩)] ∧ N + 6 ≤ W.heap.size ∧ Below N w W)
    (fun c pre S W => c = .ret ∧ ∃ er, runA [] (txW ws) = .bad er ∧ Blk W N 29 #[.pointer none] ∧ Blk W (N + 1) 24 #[.int .i64 er] ∧ N + 6 ≤ W.heap.size ∧ Below N w W)
    ?hI ?hIx ⟨[], rfl, T4'.out, B0.out, B1.out, B4'.out, by omega, HB4.out⟩
    (fun pre S x a' W => (∃ Lp, runA [] (txW pre) = .ok Lp ∧ C.Tal W (N + 3) (N + 2) Lp ∧ Blk W N 29 #[.pointer none] ∧ Blk W (N + 1) 24 #[.int .i64 0] ∧ Blk W (N + 4) 29 #[.pointer (some ⟨N + 3, 0, none⟩)] ∧ N + 6 ≤ W.heap.size ∧ Below N w W) ∧ a' = { tmps := ((Tm.setIfInBounds 13 (.int .i64 x.1)).setIfInBounds 14 (.string x.2)).setIfInBounds 6 (.string x.2), defers := [] })
    ?hAx ?assign ?body ?done ?stop
  case hI =>
    intro pre S S' X Y ⟨Lp, h0, h1, h2, h3, h4, h5, h6⟩ hS hK hS'
    have nb : ∀ k, k < N + 6 → ¬ S k := fun k h hs => by have := (hS k hs).1; omega
    exact ⟨Lp, h0, tal_keep h1 hK (nb _ (by omega)) (nb _ (by omega)) (by omega) (by omega), h2.keep hK (nb _ (by omega)), h3.keep hK (nb _ (by omega)), h4.keep hK (nb _ (by omega)), by have := hK.size; omega, h6.trans (hK.below (by omega) (fun k hk => nb k (by omega)))⟩
  case hIx =>
    intro c pre S S' X Y ⟨hc, er, h0, h2, h3, h5, h6⟩ hS hK hS'
    have nb : ∀ k, k < N + 6 → ¬ S k := fun k h hs => by have := (hS k hs).1; omega
    exact ⟨hc, er, h0, h2.keep hK (nb _ (by omega)), h3.keep hK (nb _ (by omega)), by have := hK.size; omega, h6.trans (hK.below (by omega) (fun k hk => nb k (by omega)))⟩
  case hAx =>
    intro pre S x a' X lb o ⟨⟨Lp, h0, h1, h2, h3, h4, h5, h6⟩, h7⟩ hSl hS
    have hlb := (hS _ hSl).1
    have hK : Kept (fun k => k < N + 6) X (X.putObj lb o) := Kept.putObj X (by show ¬ (lb < N + 6); omega) o
    exact ⟨⟨Lp, h0, tal_keep h1 hK (by show N + 3 < N + 6; omega) (by show N + 2 < N + 6; omega) (by omega) (by omega), h2.put (by omega) _, h3.put (by omega) _, h4.put (by omega) _, by simp [World.putObj]; omega, h6.trans (hK.below (by omega) (fun k hk => by show k < N + 6; omega))⟩, h7⟩
  case assign =>
    rintro l' pre S x W5 K hI5 hW5 hS5 hpre hK
    subst hTm hD
    have H := hK _ _ (Kept.refl _ _) ⟨hI5, rfl⟩
    clear hK hI5
    dsimp only at H
    simp only [List.setIfInBounds_toArray, List.set_cons_succ, List.set_cons_zero] at H
    gi_wp2
    exact H
  case body =>
    rintro l' pre S x a' W5 hSl ⟨rec, hrec⟩ hW5 hS5 hpre ⟨⟨Lp, h0, h1, h2, h3, h4, h5, h6⟩, rfl⟩
    have hxz := hwz.out x (hpre.subset (by simp))
    have hA := hid (C.add_any h1 x.2 1 (by unfold maxLen; omega))
    have hE : Hid (runA [] (txW (pre ++ [x])) = if C.addE Lp x.2 1 = 0 then .ok (C.addR Lp x.2 1) else .bad (C.addE Lp x.2 1)) := hid (by
      unfold txW; rw [List.map_append]; exact runA_snoc h0)
    have hAll : Hid (∀ e, runA [] (txW (pre ++ [x])) = .bad e → runA [] (txW ws) = .bad e) := hid (fun e he => by
      obtain ⟨q, hq⟩ := hpre
      rw [← hq]
      unfold txW at he ⊢
      rw [List.map_append (l₁ := pre ++ [x])]
      exact runA_bad he)
    have d4 := h4.cell (k := 0) rfl
    have H2 := hid h2
    have H3 := hid h3
    have H4 := hid h4
    have H6 := hid h6
    have n2 : Hid (∀ j, j < N + 5 → ¬ ((j = N + 5 ∨ j = pb ∨ j = g) ∨ S j) ∨ j < N) := hid (fun j hj => by
      by_cases hjn : j < N
      · exact .inr hjn
      · refine .inl (fun h => ?_)
        rcases h with h | h
        · rcases h with h | h | h <;> omega
        · have := (hS5 _ h).1; omega)
    subst hTm hD
    dsimp only
    simp only [List.setIfInBounds_toArray, List.set_cons_succ, List.set_cons_zero]
    obtain ⟨xi, xw⟩ := x
    dsimp only at hA hE hxz
    obtain ⟨er, her⟩ : ∃ er, C.addE Lp xw 1 = er := ⟨_, rfl⟩
    obtain ⟨Lr, hLr⟩ : ∃ Lr, C.addR Lp xw 1 = Lr := ⟨_, rfl⟩
    rw [her, hLr] at hA hE
    clear her hLr h0 h1 h2 h3 h4 h6 hseq hrec hpre hSl
    gi_wp2_with fail
    refine ⟨trivial, ?_⟩
    with_reducible refine (CallsIn.inRound l' (callsIn_wide.2 hA.out)).mono ?_
    rintro e W6 ⟨rfl, hT6, hb6, hs6⟩
    have hK6 : Kept (fun k => (k = N + 5 ∨ k = pb ∨ k = g) ∨ S k) W5 W6 := but_kept hb6 (fun h => (n2.out (N + 3) (by omega)).elim (fun h' => h' h) (fun h' => by omega)) (fun h => (n2.out (N + 2) (by omega)).elim (fun h' => h' h) (fun h' => by omega))
    have hKn : Kept (fun k => k ≠ N + 3 ∧ k ≠ N + 2) W5 W6 := but_kept hb6 (fun h => h.1 rfl) (fun h => h.2 rfl)
    have T6 := hid hT6
    have G2 := hid (H2.out.keep hKn (by constructor <;> omega))
    have G3 := hid (H3.out.keep hKn (by constructor <;> omega))
    have G4 := hid (H4.out.keep hKn (by constructor <;> omega))
    have G6 := hid (H6.out.trans (hKn.below (by omega) (fun k hk => by constructor <;> omega)))
    have HK6 := hid hK6
    have z2 := G2.out.froz 0
    have z3 := G3.out.froz 0
    have c2 := G2.out.cell (k := 0) rfl
    have c3 := G3.out.cell (k := 0) rfl
    try dsimp only at c2 c3
    clear hT6 hb6 hK6 hKn hA H2 H3 H4 H6 d4
    by_cases h7 : er = 0
    · have e1 : (er != 0) = false := by subst h7; rfl
      have hv := hid (hE.out.trans (if_pos h7))
      clear h7
      gi_wp2_with fail
      exact ⟨HK6.out, Lr, hv.out, T6.out, G2.out, G3.out, G4.out, by omega, G6.out⟩
    · have e1 : (er != 0) = true := by simpa using h7
      have hv := hid (hAll.out _ (hE.out.trans (if_neg h7)))
      have m0 : Hid (¬ ((N = N + 5 ∨ N = pb ∨ N = g) ∨ S N)) := hid (fun h => (n2.out N (by omega)).elim (fun h' => h' h) (fun h' => by omega))
      have m1 : Hid (¬ ((N + 1 = N + 5 ∨ N + 1 = pb ∨ N + 1 = g) ∨ S (N + 1))) := hid (fun h => (n2.out (N + 1) (by omega)).elim (fun h' => h' h) (fun h' => by omega))
      clear h7
      gi_wp2_with fail
      exact ⟨(HK6.out.trans (Kept.setCell _ (by exact m0.out) _)).trans (Kept.setCell _ (by exact m1.out) _), rfl, er, hv.out, (G2.out.upd _ _ rfl).other (by omega) _, (G3.out.other (by omega) _).upd _ _ rfl, by simp [World.setCell]; omega, (G6.out.setCell (p := ⟨N, 0, none⟩) (Nat.le_refl _) _).setCell (p := ⟨N + 1, 0, none⟩) (by show N ≤ N + 1; omega) _⟩
  case done =>
    rintro Dk W9 hDk ⟨Lp, h0, h1, h2, h3, h4, h5, h6⟩ hK
    have hK0 := hid hK
    have hDl := at_lt hK
    have T9 := hid h1
    have G2 := hid h2
    have G3 := hid h3
    have H6 := hid h6
    have H0 := hid h0
    have c4 := h4.cell (k := 0) rfl
    have c2 := h2.cell (k := 0) rfl
    have c3 := h3.cell (k := 0) rfl
    have z2 := h2.froz 0
    have z3 := h3.froz 0
    subst hTm hD
    clear h0 h1 h2 h3 h4 h6 hK hseq
    gi_wp2_with fail
    obtain ⟨W7, hW7⟩ : ∃ W7, (W9.setCell ⟨N, 0, none⟩ (.pointer (some ⟨N + 3, 0, none⟩))).setCell ⟨N + 1, 0, none⟩ (.int .i64 0) = W7 := ⟨_, rfl⟩
    have hK7 : Kept (fun k => k ≠ N ∧ k ≠ N + 1) W9 W7 := by rw [← hW7]; exact (Kept.setCell _ (fun h => h.1 rfl) _).trans (Kept.setCell _ (fun h => h.2 rfl) _)
    have k2 : Blk W7 N 29 #[.pointer (some ⟨N + 3, 0, none⟩)] := by rw [← hW7]; exact (G2.out.upd _ _ rfl).other (by omega) _
    have k3 : Blk W7 (N + 1) 24 #[.int .i64 0] := by rw [← hW7]; exact (G3.out.other (by omega) _).upd _ _ rfl
    rw [hW7]
    have hs7 := hK7.size
    have hK7' := hK7.obj hK0.out (by constructor <;> omega)
    have hK8 : Kept (fun k => k ≠ Dk) W7 (W7.putObj Dk (.deferred none)) := Kept.putObj W7 (fun h => h rfl) _
    have T7 := tal_keep T9.out hK7 (by constructor <;> omega) (by constructor <;> omega) (by omega) (by omega)
    have T8 := tal_keep T7 hK8 (by show N + 3 ≠ Dk; omega) (by show N + 2 ≠ Dk; omega) (by omega) (by omega)
    have c2 := (k2.keep hK8 (by show N ≠ Dk; omega)).cell (k := 0) rfl
    have c3 := (k3.keep hK8 (by show N + 1 ≠ Dk; omega)).cell (k := 0) rfl
    refine ⟨by simp, .inl ⟨_, _, rfl, run_takeDeferred hK7', ?_⟩⟩
    refine ⟨.tuple #[.pointer (some ⟨N + 3, 0, none⟩), .int .i64 0], (by simp [results, Tryz.results6, go_sem, c2, c3]), ?_, ?_⟩
    · rw [← HNN.out]
      exact (H6.out.trans (hK7.below (by omega) (fun k hk => by constructor <;> omega))).trans (hK8.below (by omega) (fun k hk => by show k ≠ Dk; omega))
    · rw [← HWS.out, H0.out]
      exact ⟨N + 3, N + 2, rfl, T8, by rw [← HNN.out]; omega, by rw [← HNN.out]; omega⟩
  case stop =>
    rintro Dk c pre W9 hDk hpre ⟨rfl, er, h0, h2, h3, h5, h6⟩ hK
    have hK0 := hid hK
    have hDl := at_lt hK
    have H6 := hid h6
    have H0 := hid h0
    have k2 := h2.put (l := Dk) (by omega) (.deferred none)
    have k3 := h3.put (l := Dk) (by omega) (.deferred none)
    have c2 := k2.cell (k := 0) rfl
    have c3 := k3.cell (k := 0) rfl
    subst hTm hD
    clear h0 h2 h3 h6 hK hseq k2 k3
    gi_wp2_with fail
    refine ⟨by simp, .inl ⟨_, _, rfl, run_takeDeferred hK0.out, ?_⟩⟩
    refine ⟨.tuple #[.pointer none, .int .i64 er], (by simp [results, Tryz.results6, go_sem, c2, c3]), ?_, ?_⟩
    · rw [← HNN.out]
      exact H6.out.trans ((Kept.putObj (T := fun k => k < N) W9 (by show ¬ (Dk < N); omega) _).below (by omega) (fun k hk => hk))
    · rw [H0.out]
end Go.Proofs.YtmpkfpabejpbkaaGreatDoor
