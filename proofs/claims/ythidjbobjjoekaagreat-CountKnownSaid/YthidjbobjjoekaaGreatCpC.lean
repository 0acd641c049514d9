/- Entropy, the program's. Conditions: the tally's own. -/
import Derived.Test.YthidjbobjjoekaaGreatCpB
import Derived.Test.YthidjbobjjoekaaGreatTaI
import Derived.Test.YthidjbobjjoekaaGreatCoS
import Derived.Stop.RegionWithIn
namespace Go.Proofs.YthidjbobjjoekaaGreat
open Go.RowKit Go.Lib Go.Sort Go.Shelf
set_option linter.unusedVariables false
set_option linter.unusedSimpArgs false
open Ieee (infR)
attribute [local go_sem] Oper.semAt_some Ext.cell Ext.froz run_store_flt
theorem ownFrom_ex {α β : Type} {B : Nat} {I : α → β → World → Prop} (h : ∀ x, OwnFrom B (I x)) : OwnFrom B (fun s W => ∃ x, I x s W) :=
  fun s W W' row ⟨x, hx⟩ hg hr => ⟨x, h x s W W' row hx hg hr⟩
theorem body_end {W X : World} {Nn B : Nat} (hx : Below W.heap.size W X) (hN : Nn < B) (hW : B ≤ W.heap.size) (v : Value) :
    KeepsFrom B W (X.setCell ⟨Nn, 0, none⟩ v) ∧ KB Nn (B + 2) W (X.setCell ⟨Nn, 0, none⟩ v) := by
  refine ⟨(kf_of hx).trans ((KeepsOthers.setCell _ _ _).from _), ⟨(show Below Nn W X from hx.mono (by omega)).setCell (p := ⟨Nn, 0, none⟩) (Nat.le_refl _) _, fun k hk hk2 => ?_⟩⟩
  exact (Below.heap_setCell X ⟨Nn, 0, none⟩ _ k (by show k ≠ Nn; omega)).trans (hx.block k hk2)
theorem ent43_none {w : World} {b m : Nat} {L : List Ent} (h : Tal w b m L) (h0 : L.length = 0) :
    Calls Tryz.prog 21 #[.pointer (some ⟨b, 0, none⟩)] w fun e w' => ∃ r, e = .returned (.float .f64 r) ∧ cl r = entV L ∧ Below w.heap.size w w' := by
  have hb : Below w.heap.size w (w.alloc (.cells #[.pointer (some ⟨b, 0, none⟩)] 44)) := (Below.refl _ _).alloc (Nat.le_refl _) _
  have hLen := hid (len_any (h.low hb))
  unfold entV
  rw [if_pos h0]
  rw [h0] at hLen
  have c1 := (Blk.new w 44 #[.pointer (some ⟨b, 0, none⟩)]).cell (k := 0) (v := .pointer (some ⟨b, 0, none⟩)) rfl
  have HB := hid hb
  clear h hb h0
  go_enter Tryz.func21, Tryz.ntmps21
  go_wp2_with fail
  with_reducible refine Calls.mono hLen.out ?_
  rintro e w1 ⟨rfl, rfl⟩
  go_wp2_with fail
  with_reducible refine Calls.mono (nan_any _) ?_
  rintro e w1 ⟨rfl, rfl⟩
  go_wp2_with fail
  go_ret
  exact ⟨_, rfl, cl_nanV, HB.out⟩
set_option maxRecDepth 100000 in
set_option maxHeartbeats 4000000 in
theorem ent43_some {w : World} {b m : Nat} {L : List Ent} (h : Tal w b m L) (h0 : L.length ≠ 0) :
    Calls Tryz.prog 21 #[.pointer (some ⟨b, 0, none⟩)] w fun e w' => ∃ r, e = .returned (.float .f64 r) ∧ cl r = entV L ∧ Below w.heap.size w w' := by
  have hT := hid h
  have hE := hid h.he
  have hbl := h.blt
  have hml := h.mlt
  have hS1 : L ≠ [] → 1 ≤ sumL L := fun hne => by
    cases L with
    | nil => exact absurd rfl hne
    | cons x r =>
      have h1 := h.he.pos x (List.mem_cons_self ..)
      have h2 := sumL_pos (L := r) fun y hy => h.he.pos y (List.mem_cons_of_mem _ hy)
      simp only [sumL]; omega
  have hTot := h.he.tot
  clear h
  refine (callsIn_wide (n := 9)).1 ?_
  refine callsIn_of_wp_marks Tryz.func21 rfl trivial ?_ rfl
  simp only [Tryz.ntmps21, List.size_toArray, List.length_cons, List.length_nil, Nat.reduceAdd, Nat.reduceSub, Array.replicate_succ, Array.replicate_zero, List.push_toArray, List.append_toArray, List.nil_append, List.cons_append]
  refine wpIn_wide.2 ?_
  unfold entV
  have hLen := hid (fun W (hb : Below w.heap.size w W) => len_any (hT.out.low hb))
  rcases len_tests (n := L.length) with ⟨h1, h2, h3⟩ | ⟨h1, h2, h3⟩
  · exact absurd h1 h0
  rw [if_neg h1]
  have hS0 := hS1 (fun e => h1 (by rw [e]; rfl))
  clear h1 hS1
  generalize hTt : sumL L = T at *
  have hTT := hid hTt
  clear hTt
  have hadd := hid (fun x y t w => run_fr Ar.add x y t w)
  have hsub := hid (fun x y t w => run_fr Ar.sub x y t w)
  have hmul := hid (fun x y t w => run_fr Ar.mul x y t w)
  go_wp2_with fail
  obtain ⟨wa, hA⟩ : ∃ wa, w.alloc (.cells #[.pointer (some ⟨b, 0, none⟩)] 44) = wa := ⟨_, rfl⟩
  have k1 : Blk wa w.heap.size 44 #[.pointer (some ⟨b, 0, none⟩)] := hA ▸ Blk.new w _ _
  have ba : Below w.heap.size w wa := hA ▸ (Below.refl _ _).alloc (Nat.le_refl _) _
  have sa : wa.heap.size = w.heap.size + 1 := by rw [← hA]; simp
  rw [hA]
  clear hA
  with_reducible refine Calls.mono (hLen.out _ ba) ?_
  rintro e w1 ⟨rfl, rfl⟩
  have K1 := hid k1
  have BA := hid ba
  have SA := hid sa
  clear hLen k1 ba sa
  have n1 := K1.out.lt
  have c1 := K1.out.cell (k := 0) (v := .pointer (some ⟨b, 0, none⟩)) rfl
  go_wp2_with fail
  have hEa := hid ((callsIn_wide (n := 8)).1 (tal_each_in Fence.wide 8 trivial rfl b (wa.alloc (.cells #[.float .f64 0] 23))))
  with_reducible refine Calls.mono hEa.out ?_
  rintro e w4 ⟨rfl, hw4⟩
  clear hEa
  obtain ⟨Nn, hNn⟩ : ∃ Nn, wa.heap.size = Nn := ⟨_, rfl⟩
  have kn : Blk w4 Nn 23 #[.float .f64 0] := by rw [hw4, ← hNn]; exact (Blk.new wa _ _).alloc _
  have k7 : Blk w4 (Nn + 1) 44 #[.pointer (some ⟨b, 0, none⟩)] := by
    rw [hw4]; have := Blk.new (wa.alloc (.cells #[.float .f64 0] 23)) 44 #[.pointer (some ⟨b, 0, none⟩)]
    rw [World.size_alloc, hNn] at this
    exact this
  have hr4 : Below Nn wa w4 := by
    rw [hw4, ← hNn]; exact ((Below.refl _ _).alloc (Nat.le_refl _) _).alloc (by simp) _
  have hsz4 : Nn + 1 < w4.heap.size ∧ w4.heap.size ≤ Nn + 2 := by rw [hw4, ← hNn]; simp
  have hN3 : w.heap.size + 1 ≤ Nn := by rw [← hNn, SA.out]; exact Nat.le_refl _
  have hb4 : Below w.heap.size w w4 := BA.out.trans (hr4.mono (by omega))
  have k1w : Blk w4 w.heap.size 44 #[.pointer (some ⟨b, 0, none⟩)] := K1.out.lowN hr4 (by omega)
  have HT4 := hid (hT.out.low hb4)
  simp only [World.size_alloc, hNn]
  clear hw4 c1 K1 BA hr4 n1
  go_wp2_with fail
  refine (wpIn_wide (n := 9)).1 ?_
  refine name_act ?_
  intro Tm D hTm hD
  refine rangeFunc_own (F := Fence.wide) (α := Ent) rfl (by omega) (gf := 50) (lb := #[.pointer (some ⟨Nn + 1, 0, none⟩)]) (by subst hTm; rfl) trivial (enters_of Tryz.func50 (by kernel_rfl) rfl)
    (tal_next 8 (by omega) (Nn + 1) b m Nn L w4 (by omega) (by omega) (k7.cell rfl) HT4.out) (by omega) (Below.refl _ _) (fun _ => rfl)
    (fun pre W => (∃ s : Nat, Blk W Nn 23 #[.float .f64 s] ∧ cl s = entS T pre) ∧ Below Nn w4 W)
    (fun _ _ _ => False)
    (OwnFrom.and (ownFrom_ex fun s => OwnFrom.and (Own.from (blk_own _ _ (fun _ : List Ent => #[.float .f64 s])) _) (ownFrom_pure _ (fun pre => cl s = entS T pre))) (ownFrom_below (by omega) (by omega)))
    (fun _ => ownFrom_pure _ _)
    ⟨⟨0, kn, cl_zero⟩, Below.refl _ _⟩
    (fun x a' W => a' = { tmps := ((Tm.setIfInBounds 13 (.string x.1)).setIfInBounds 14 (.int .i64 x.2)).setIfInBounds 5 (.int .i64 x.2), defers := [] })
    (fun x a' _ X Y row hs hg hr => hs)
    ?assign ?body ?done ?stop
  case assign =>
    rintro l pre x W K ⟨kn, hB⟩ hpre hK
    subst hTm hD
    gi_wp2
    exact hK _ _ (KeepsFrom.refl _ _) (KB.refl _ _ _) ⟨kn, hB⟩ rfl
  case body =>
    rintro l pre x a' W hl hr hnext ⟨⟨s, kn, hs⟩, hB⟩ rfl
    have hsW := hB.size
    have e1 := prefix_get hnext
    have k1b := k1w.lowN hB (by omega)
    have hTW := HT4.out.lowN hB (by omega) (by omega)
    have t1c := hTW.hb.cell (k := 1) (v := .int .i64 T) (by rw [← hTT.out]; rfl)
    obtain ⟨r, hrr, hr2⟩ := quo_whole x.2 T hS0 (by omega)
    have hq : ∀ t w, (binOp .quo t (.float .f64 (floatOfInt .f64 x.2)) (.float .f64 (floatOfInt .f64 T))).run Tryz.prog w = .ok (.float .f64 r) w := fun t w => run_float_arith w .quo t .f64 _ _ r hrr
    have hcr := hid (quo_real hrr)
    have hlc := hid (lg_cl r)
    have hLg : Hid (∀ x : Ext W, Calls Tryz.prog 10 #[.float .f64 r] x.w fun e w' => e = .returned (.float .f64 (log2V r)) ∧ Below x.w.heap.size x.w w') := fun x => (log2_any r hr2 x.w).mono fun _ _ h => ⟨h.1, h.2 ▸ Below.refl _ _⟩
    have hfs := hid (entS_snoc T pre x)
    have hS := hid hs
    have f1 := fun w1 => hsub.out 0 (log2V r) w1
    have f2 := fun w1 w2 => hmul.out r (fr .sub 0 (log2V r) w1) w2
    have f3 := fun w1 w2 w3 => hadd.out s (fr .mul r (fr .sub 0 (log2V r) w1) w2) w3
    have c1 := k1b.cell (k := 0) (v := .pointer (some ⟨b, 0, none⟩)) rfl
    have cn := kn.cell (k := 0) (v := .float .f64 s) rfl
    have fn0 := kn.froz 0
    have nn := kn.lt
    have KN := hid kn
    have HB := hid hB
    have hend : Hid (∀ (k v : Nat), cl v = entS T (pre ++ [x]) → KeepsFrom w4.heap.size W ((W.drewN k).setCell ⟨Nn, 0, none⟩ (.float .f64 v)) ∧ KB Nn (w4.heap.size + 2) W ((W.drewN k).setCell ⟨Nn, 0, none⟩ (.float .f64 v)) ∧
        ((∃ s : Nat, Blk ((W.drewN k).setCell ⟨Nn, 0, none⟩ (.float .f64 v)) Nn 23 #[.float .f64 s] ∧ cl s = entS T (pre ++ [x])) ∧ Below Nn w4 ((W.drewN k).setCell ⟨Nn, 0, none⟩ (.float .f64 v)))) := fun k v hv => by
      have hx : Below W.heap.size W (W.drewN k) := ⟨rfl, rfl, rfl, Nat.le_refl _, fun _ _ => rfl⟩
      obtain ⟨e1, e2⟩ := body_end (Nn := Nn) (B := w4.heap.size) hx (by omega) (by omega) (.float .f64 v)
      exact ⟨e1, e2, ⟨v, (show Blk (W.drewN k) Nn 23 #[.float .f64 s] from KN.out).set 0 _, hv⟩, hB.trans e2.low⟩
    obtain ⟨x1, x2⟩ := x
    dsimp only at hq hcr hfs hend
    clear hnext e1 hTW k1b kn hB hr hl hs hrr
    subst hTm hD
    dsimp only
    simp only [List.setIfInBounds_toArray, List.set_cons_succ, List.set_cons_zero]
    gi_wp2_with fail
    have hL3 := hid (fun W => log2_any r hr2 W)
    gi_region_with (refine ⟨trivial, ?_⟩; with_reducible refine (CallsIn.inRound l (callsIn_wide.2 (hL3.out _))).mono ?_; rintro e w' ⟨rfl, rfl⟩)
    all_goals
      gi_wp2_with fail
      exact hend.out _ _ (by rw [fr_cl .add, fr_cl .mul, fr_cl .sub, hS.out, hfs.out, cl_zero, hlc.out, hcr.out]; rfl)
  case done =>
    rintro Dk W hDk ⟨⟨s, kn, hs⟩, hB⟩ hK
    have hsW := hB.size
    have cn := kn.cell (k := 0) (v := .float .f64 s) rfl
    have hS := hid hs
    subst hTm hD
    have hK0 := hid hK
    have HB := hid hB
    clear kn hB hK hs
    go_wp2_with fail
    with_reducible refine Calls.mono (told_any _ _) ?_
    rintro e w1 ⟨rfl, rfl⟩
    go_wp2_with fail
    refine ⟨by simp, .inl ⟨_, _, rfl, run_takeDeferred hK0.out, ?_⟩⟩
    have q0 : Below w.heap.size w W := hb4.trans (HB.out.mono (by omega))
    have hFin : Below w.heap.size w (W.putObj Dk (.deferred none)) := q0.trans (belowK_b (w := w4) (by omega) _ _ _ _ hDk hK0.out rfl rfl)
    exact ⟨.float .f64 (zeroV s), by simp [results, Tryz.results21, go_sem], ⟨zeroV s, rfl, by rw [cl_zeroV, hS.out], hFin⟩⟩
  case stop =>
    rintro Dk c pre W hDk hpre h _
    exact h.elim
theorem ent43 {w : World} {b m : Nat} {L : List Ent} (h : Tal w b m L) :
    Calls Tryz.prog 21 #[.pointer (some ⟨b, 0, none⟩)] w fun e w' => ∃ r, e = .returned (.float .f64 r) ∧ cl r = entV L ∧ Below w.heap.size w w' := by
  by_cases h0 : L.length = 0
  · exact ent43_none h h0
  · exact ent43_some h h0
end Go.Proofs.YthidjbobjjoekaaGreat
