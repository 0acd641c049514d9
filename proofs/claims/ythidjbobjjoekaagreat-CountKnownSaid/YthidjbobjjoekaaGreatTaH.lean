/- The document's Total of entries in memory; the law function `is` over a tally and its entries. Conditions: those of each theorem. -/
import Derived.Test.YthidjbobjjoekaaGreatTaG
import Derived.Test.YthidjbobjjoekaaGreatQs
import Derived.Deep.DeepCutAuto
namespace Go.Proofs.YthidjbobjjoekaaGreat
open Go.RowKit Go.Lib Go.Sort Go.Shelf
set_option linter.unusedVariables false
set_option linter.unusedSimpArgs false
attribute [local go_sem] Oper.semAt_some
/-- a slice of the document's entries -/
def EntsIn (w : World) (v : Value) (L : List Ent) : Prop := (L = [] ∧ v = .slice none 0 0) ∨ ∃ g cap, v = .slice (some ⟨g, 0, none⟩) L.length cap ∧ g < w.heap.size ∧ EntAt w g L
theorem EntsIn.low {w w' : World} {v : Value} {L : List Ent} (h : EntsIn w v L) (hb : Below w.heap.size w w') : EntsIn w' v L := by
  rcases h with h | ⟨g, cap, h1, h2, h3⟩
  · exact .inl h
  · exact .inr ⟨g, cap, h1, Nat.lt_of_lt_of_le h2 hb.size, h3.kept (hb.block g h2)⟩
theorem sumL_app : ∀ (l : List Ent) (x : Ent), sumL (l ++ [x]) = sumL l + x.2
  | [], x => by simp [sumL]
  | y :: r, x => by simp only [List.cons_append, sumL, sumL_app r x]; omega
theorem sumL_append : ∀ (l m : List Ent), sumL (l ++ m) = sumL l + sumL m
  | [], m => by simp [sumL]
  | y :: r, m => by simp only [List.cons_append, sumL, sumL_append r m]; omega
theorem sumL_take (L : List Ent) (hp : ∀ x ∈ L, 0 < x.2) (k : Nat) : 0 ≤ sumL (L.take k) ∧ sumL (L.take k) ≤ sumL L := by
  have h := sumL_append (L.take k) (L.drop k)
  rw [List.take_append_drop] at h
  have h1 := sumL_pos (L := L.take k) fun x hx => hp x (List.mem_of_mem_take hx)
  have h2 := sumL_pos (L := L.drop k) fun x hx => hp x (List.mem_of_mem_drop hx)
  omega
theorem int_eq {k : IntKind} {a b : Int} (h : a = b) : Value.int k a = Value.int k b := by rw [h]
theorem ret_int {k : IntKind} {a b : Int} (h : a = b) : Ending.returned (.int k a) = .returned (.int k b) := by rw [h]
set_option maxHeartbeats 1000000 in
theorem rtotal_any {w : World} {v : Value} {L : List Ent} (h : EntsIn w v L) (hE : Ents L) : Calls Tryz.prog 51 #[v] w fun e w' => e = .returned (.int .i64 (sumL L)) ∧ w = w' := by
  rcases h with ⟨rfl, rfl⟩ | ⟨g, cap, rfl, hg, hat⟩
  · go_enter Tryz.func51, Tryz.ntmps51
    go_wp2_with fail
    refine wp_loop_rounds 1 ?_
    rw [rounds_succ]
    go_wp2_with fail
    go_ret
    exact ⟨rfl, rfl⟩
  · have HA := hid hat
    have HB := hid (sumL_take L hE.pos)
    have htot := hE.tot
    have hlen := hE.len
    clear hat hE
    have HT := hid (show L.take L.length = L from List.take_length)
    go_enter Tryz.func51, Tryz.ntmps51
    go_wp2_with fail
    go_loop [3, 4] (fun s i => ∃ k : Nat, k ≤ L.length ∧ i = .int .i64 k ∧ s = .int .i64 (sumL (L.take k))) (fun _ i => L.length - (intOf i).toNat)
    case atStart => exact ⟨0, Nat.zero_le _, rfl, rfl⟩
    case round =>
      obtain ⟨k, hk, rfl, rfl⟩ := hrel
      by_cases hlt : k < L.length
      · obtain ⟨x, hx⟩ : ∃ x, L[k]? = some x := ⟨_, List.getElem?_eq_getElem hlt⟩
        obtain ⟨q0, q1⟩ := HA.out k x hx
        have hs := hid (show sumL (L.take (k + 1)) = sumL (L.take k) + x.2 by rw [take_snoc L k x hx, sumL_app])
        obtain ⟨b1, b2⟩ := HB.out k
        have b3 := HB.out (k + 1)
        rw [hs.out] at b3
        obtain ⟨b3, b4⟩ := b3
        have hki : (k : Int) < L.length := by omega
        clear hx
        generalize sumL (L.take k) = S at *
        generalize x.2 = X at *
        go_wp2_with fail
        go_round
        case rel => exact ⟨k + 1, by omega, by go_num, int_eq hs.out.symm⟩
        case measure => simp [intOf]; omega
      · obtain rfl : k = L.length := by omega
        go_wp2_with fail
        go_ret
        exact ⟨rfl, rfl⟩
theorem blk_own {β : Type} (B : Nat) (t : TypeId) (f : β → Array Value) : Own (fun s W => Blk W B t (f s)) := fun s X Y row hs hg hrow =>
  hs.kept hg (fun e' => by obtain ⟨o, ho, hc⟩ := hrow B e'.symm; rw [show X.heap[B]? = _ from hs] at ho; cases ho; cases hc)
theorem kf_of {B : Nat} {W W' : World} (h : Below W.heap.size W W') : KeepsFrom B W W' :=
  ⟨h.size, fun k o _ hk _ => (h.block k (Array.getElem?_eq_some_iff.1 hk).1).trans hk⟩
theorem name_act {F : Fence} {n : Nat} {c : Code} {Q : Exit → Act → World → Prop} {a : Act} {w : World} (h : ∀ T D, a.tmps = T → a.defers = D → c.wpIn F n Tryz.prog Q ⟨T, D⟩ w) : c.wpIn F n Tryz.prog Q a w := h _ _ rfl rfl
theorem prefix_get {α : Type} {l all : List α} {x : α} (h : l ++ [x] <+: all) : all[l.length]? = some x := by
  obtain ⟨t, rfl⟩ := h
  simp
theorem quiet_flip' {P : Program} {f : FuncId} {args : Array Value} {w w0 : World} {v : Value} (hw : ∃ n, w = w0.drewN n)
    (h : Calls P f args w fun e w' => e = .returned v ∧ w = w') : Calls P f args w fun e w'' => e = .returned v ∧ ∃ m, w'' = w0.drewN m :=
  h.mono fun _ _ ⟨he, hm⟩ => by obtain ⟨n, hn⟩ := hw; exact ⟨he, n, by rw [← hm, hn]⟩
set_option maxRecDepth 100000 in
set_option maxHeartbeats 4000000 in
theorem is_any {w : World} {b m : Nat} {L : List Ent} {v : Value} (h : Tal w b m L) (hv : EntsIn w v L) :
    Calls Tryz.prog 31 #[.pointer (some ⟨b, 0, none⟩), v] w fun e w' => e = .returned (.bool true) ∧ Below w.heap.size w w' := by
  have hT := hid h
  have hE := hid h.he
  have hV := hid hv
  have hbl := h.blt
  have hml := h.mlt
  clear h
  refine (callsIn_wide (n := 9)).1 ?_
  refine callsIn_of_wp_marks Tryz.func31 rfl trivial ?_ rfl
  simp only [Tryz.ntmps31, List.size_toArray, List.length_cons, List.length_nil, Nat.reduceAdd, Nat.reduceSub, Array.replicate_succ, Array.replicate_zero, List.push_toArray, List.append_toArray, List.nil_append, List.cons_append]
  refine wpIn_wide.2 ?_
  obtain ⟨p, c, hvs⟩ : ∃ p c, v = .slice p L.length c := by
    rcases hv with ⟨rfl, rfl⟩ | ⟨g, cap, rfl, _⟩
    · exact ⟨_, _, rfl⟩
    · exact ⟨_, _, rfl⟩
  subst hvs
  clear hv
  go_wp2_with fail
  obtain ⟨wa, hA⟩ : ∃ wa, ((w.alloc (.cells #[.pointer (some ⟨b, 0, none⟩)] 44)).alloc (.cells #[.slice p L.length c] 62)).alloc (.cells #[.bool false] 4) = wa := ⟨_, rfl⟩
  have k1 : Blk wa w.heap.size 44 #[.pointer (some ⟨b, 0, none⟩)] := hA ▸ ((Blk.new w _ _).alloc _).alloc _
  have k2 : Blk wa (w.heap.size + 1) 62 #[.slice p L.length c] := by
    rw [← hA]
    have := Blk.new (w.alloc (.cells #[.pointer (some ⟨b, 0, none⟩)] 44)) 62 #[.slice p L.length c]
    rw [World.size_alloc] at this
    exact this.alloc _
  have k3 : Blk wa (w.heap.size + 1 + 1) 4 #[.bool false] := by
    rw [← hA]
    have := Blk.new ((w.alloc (.cells #[.pointer (some ⟨b, 0, none⟩)] 44)).alloc (.cells #[.slice p L.length c] 62)) 4 #[.bool false]
    rw [World.size_alloc, World.size_alloc] at this
    exact this
  have ba : Below w.heap.size w wa := hA ▸ (((Below.refl _ _).alloc (Nat.le_refl _) _).alloc (by simp) _).alloc (by simp; omega) _
  have sa : wa.heap.size = w.heap.size + 3 := by rw [← hA]; simp
  rw [hA]
  clear hA
  have hLen := hid (fun n => quiet_flip (w := wa) (n := n) (len_any ((hT.out.low ba).keep (w' := wa.drewN n) rfl rfl)))
  have hTot := hid (fun n => quiet_flip (w := wa) (n := n) (total_any ((hT.out.low ba).keep (w' := wa.drewN n) rfl rfl)))
  have hRt := hid (fun n => quiet_flip (w := wa) (n := n) (rtotal_any (show EntsIn (wa.drewN n) (.slice p L.length c) L from hV.out.low (show Below w.heap.size w (wa.drewN n) from ⟨ba.os, ba.tape, ba.output, ba.size, ba.block⟩)) hE.out))
  have c1 := k1.cell (k := 0) rfl
  have c2 := k2.cell (k := 0) rfl
  generalize sumL L = S at hTot hRt
  refine draw_allB (by kernel_rfl) (by kernel_rfl) ?_
  refine bq_step (fun K hK => ?_); go_simp; refine ⟨hK _ ?_⟩; clear hK K
  refine bq_step (fun K hK => ?_); go_simp; refine ⟨hK _ ?_⟩; clear hK K
  refine bq_step (fun K hK => ?_); go_simp; refine ⟨hK _ ?_⟩; clear hK K
  refine bq_step (fun K hK => ?_); go_simp; refine ⟨hK _ ?_⟩; clear hK K
  refine bq_step (fun K hK => ?_); go_simp; refine ⟨?_⟩; apply Exists.intro; refine ⟨fun x => ?_, hK _ ?_⟩
  · with_reducible exact hLen.out _
  clear hK K
  refine bq_step (fun K hK => ?_); go_simp; refine ⟨hK _ ?_⟩; clear hK K
  refine bq_step (fun K hK => ?_); go_simp; refine ⟨hK _ ?_⟩; clear hK K
  refine bq_step (fun K hK => ?_); go_simp; refine ⟨hK _ ?_⟩; clear hK K
  refine bq_step (fun K hK => ?_); go_simp; refine ⟨hK _ ?_⟩; clear hK K
  refine bq_step (fun K hK => ?_); go_simp; refine ⟨hK _ ?_⟩; clear hK K
  refine bq_step (fun K hK => ?_); go_simp; refine ⟨hK _ ?_⟩; clear hK K
  refine bq_step (fun K hK => ?_); go_simp; refine ⟨?_⟩; apply Exists.intro; refine ⟨fun x => ?_, hK _ ?_⟩
  · with_reducible exact hTot.out _
  clear hK K
  refine bq_step (fun K hK => ?_); go_simp; refine ⟨hK _ ?_⟩; clear hK K
  refine bq_step (fun K hK => ?_); go_simp; refine ⟨?_⟩; apply Exists.intro; refine ⟨fun x => ?_, hK _ ?_⟩
  · with_reducible exact hRt.out _
  clear hK K
  refine bq_step (fun K hK => ?_); go_simp; refine ⟨hK _ ?_⟩; clear hK K
  refine bq_step (fun K hK => ?_); go_simp; refine ⟨hK _ ?_⟩; clear hK K
  refine bq_nil ?_
  rintro _ ⟨q, rfl⟩
  have K1 := hid (show Blk (wa.drewN q) _ _ _ from k1)
  have K2 := hid (show Blk (wa.drewN q) _ _ _ from k2)
  have K3 := hid (show Blk (wa.drewN q) _ _ _ from k3)
  have BA := hid (show Below w.heap.size w (wa.drewN q) from ⟨ba.os, ba.tape, ba.output, ba.size, ba.block⟩)
  have SA := hid (show (wa.drewN q).heap.size = w.heap.size + 3 from sa)
  clear hLen hTot hRt c1 c2 k1 k2 k3 ba sa
  generalize wa.drewN q = wb at *
  have c1 := K1.out.cell (k := 0) rfl
  have n1 := K1.out.lt
  go_wp2_with fail
  have hEa := hid ((callsIn_wide (n := 8)).1 (tal_each_in Fence.wide 8 trivial rfl b (wb.alloc (.cells #[.int .i64 0] 3))))
  with_reducible refine Calls.mono hEa.out ?_
  rintro e w4 ⟨rfl, hw4⟩
  clear hEa
  obtain ⟨Nn, hNn⟩ : ∃ Nn, wb.heap.size = Nn := ⟨_, rfl⟩
  have kn : Blk w4 Nn 3 #[.int .i64 0] := by rw [hw4, ← hNn]; exact (Blk.new wb _ _).alloc _
  have k7 : Blk w4 (Nn + 1) 44 #[.pointer (some ⟨b, 0, none⟩)] := by
    rw [hw4]; have := Blk.new (wb.alloc (.cells #[.int .i64 0] 3)) 44 #[.pointer (some ⟨b, 0, none⟩)]
    rw [World.size_alloc, hNn] at this
    exact this
  have hr4 : Below Nn wb w4 := by
    rw [hw4, ← hNn]; exact ((Below.refl _ _).alloc (Nat.le_refl _) _).alloc (by simp) _
  have hsz4 : Nn + 1 < w4.heap.size ∧ w4.heap.size ≤ Nn + 2 := by rw [hw4, ← hNn]; simp
  have hN3 : w.heap.size + 3 ≤ Nn := by rw [← hNn, SA.out]; exact Nat.le_refl _
  have hb4 : Below w.heap.size w w4 := BA.out.trans (hr4.mono (by omega))
  have k1w : Blk w4 w.heap.size 44 #[.pointer (some ⟨b, 0, none⟩)] := K1.out.lowN hr4 (by omega)
  have k2w : Blk w4 (w.heap.size + 1) 62 #[.slice p L.length c] := K2.out.lowN hr4 (by omega)
  have k3w : Blk w4 (w.heap.size + 1 + 1) 4 #[.bool false] := K3.out.lowN hr4 (by omega)
  have HT4 := hid (hT.out.low hb4)
  have HV4 := hid (hV.out.low hb4)
  simp only [World.size_alloc, hNn]
  clear hw4 c1 n1 K1 K2 K3 BA SA hr4
  go_wp2_with fail
  refine (wpIn_wide (n := 9)).1 ?_
  refine name_act ?_
  intro T D hTT hD
  refine rangeFunc_own (F := Fence.wide) (α := Ent) rfl (by omega) (gf := 50) (lb := #[.pointer (some ⟨Nn + 1, 0, none⟩)]) (by subst hTT; rfl) trivial (enters_of Tryz.func50 (by kernel_rfl) rfl)
    (tal_next 8 (by omega) (Nn + 1) b m Nn L w4 (by omega) (by omega) (k7.cell rfl) HT4.out) (by omega) (Below.refl _ _) (fun _ => rfl)
    (fun pre W => Blk W Nn 3 #[.int .i64 pre.length] ∧ Below Nn w4 W)
    (fun _ _ _ => False)
    (OwnFrom.and (Own.from (blk_own _ _ (fun pre : List Ent => #[.int .i64 pre.length])) _) (ownFrom_below (by omega) (by omega)))
    (fun _ => ownFrom_pure _ _)
    ⟨kn, Below.refl _ _⟩
    (fun x a' W => a' = { tmps := (((T.setIfInBounds 26 (.string x.1)).setIfInBounds 27 (.int .i64 x.2)).setIfInBounds 6 (.string x.1)).setIfInBounds 7 (.int .i64 x.2), defers := [] })
    (fun x a' _ X Y row hs hg hr => hs)
    ?assign ?body ?done ?stop
  case assign =>
    rintro l pre x W K ⟨kn, hB⟩ hpre hK
    subst hTT hD
    gi_wp2
    exact hK _ _ (KeepsFrom.refl _ _) (KB.refl _ _ _) ⟨kn, hB⟩ rfl
  case body =>
    rintro l pre x a' W hl hr hnext ⟨kn, hB⟩ rfl
    have hsW := hB.size
    have e1 := prefix_get hnext
    have hlen := (List.getElem?_eq_some_iff.1 e1).1
    have hL4 := hE.out.len
    have k1b := k1w.lowN hB (by omega)
    have k2b := k2w.lowN hB (by omega)
    have hTW := HT4.out.lowN hB (by omega) (by omega)
    have hC := hid (count_any hTW x.1 (hE.out.sz x (List.mem_of_getElem? e1)))
    rw [countL_mem hTW.nd (List.mem_of_getElem? e1)] at hC
    rcases hV.out with ⟨hLn, _⟩ | ⟨g, cap, hps, hg, hat⟩
    · rw [hLn] at hlen; simp at hlen
    cases hps
    obtain ⟨q0, q1⟩ := hat.kept ((hB.block g (by omega)).trans (hb4.block g hg)) _ x e1
    have hend : Hid (KeepsFrom w4.heap.size W (W.setCell ⟨Nn, 0, none⟩ (.int .i64 ((pre.length : Int) + 1))) ∧ KB Nn (w4.heap.size + 2) W (W.setCell ⟨Nn, 0, none⟩ (.int .i64 ((pre.length : Int) + 1))) ∧ (Blk (W.setCell ⟨Nn, 0, none⟩ (.int .i64 ((pre.length : Int) + 1))) Nn 3 #[.int .i64 ((pre ++ [x]).length : Nat)] ∧ Below Nn w4 (W.setCell ⟨Nn, 0, none⟩ (.int .i64 ((pre.length : Int) + 1))))) := by
      have q : Below Nn W (W.setCell ⟨Nn, 0, none⟩ (.int .i64 ((pre.length : Int) + 1))) := (Below.refl _ _).setCell (p := ⟨Nn, 0, none⟩) (Nat.le_refl _) _
      refine ⟨(KeepsOthers.setCell _ _ _).from _, ⟨q, fun k hk hk2 => Below.heap_setCell W ⟨Nn, 0, none⟩ _ k (by show k ≠ Nn; omega)⟩, ?_, hB.trans q⟩
      have e : ((pre ++ [x]).length : Nat) = pre.length + 1 := by simp
      rw [e]
      exact kn.set 0 _
    have c1 := k1b.cell (k := 0) rfl
    have c2 := k2b.cell (k := 0) rfl
    have cn := kn.cell (k := 0) rfl
    have fn0 := kn.froz 0
    have nn := kn.lt
    obtain ⟨x1, x2⟩ := x
    dsimp only at q0 q1 hC
    have hHB := hid hB
    clear hnext e1 hat hTW k1b k2b kn hB hr hl hg
    generalize pre.length = k at *
    generalize L.length = m1 at *
    have t1 : decide (m1 ≤ k) = false := decide_eq_false (by omega)
    have t4 : (k : Int) < m1 := by omega
    subst hTT hD
    dsimp only
    simp only [List.setIfInBounds_toArray, List.set_cons_succ, List.set_cons_zero]
    have t5 : (k : Int) ≤ 5000 := by omega
    clear hsW hL4 hlen
    gi_wp2_with fail
    refine ⟨trivial, ?_⟩
    with_reducible refine (CallsIn.inRound l (callsIn_wide.2 hC.out)).mono ?_
    rintro e W2 ⟨rfl, rfl⟩
    gi_wp2_with fail
    exact hend.out
  case done =>
    rintro Dk W hDk ⟨kn, hB⟩ hK
    have hsW := hB.size
    have k2b := k2w.lowN hB (by omega)
    have k3b := k3w.lowN hB (by omega)
    have c2 := k2b.cell (k := 0) rfl
    have c3 := hid (k3b.cell (k := 0) (v := .bool false) rfl)
    have f3 := k3b.froz 0
    have n3 := k3b.lt
    have cn := kn.cell (k := 0) rfl
    have hL4 := hE.out.len
    subst hTT hD
    have hK0 := hid hK
    have HB := hid hB
    have c3' := c3.out
    clear kn hB hK k2b k3b
    go_wp2_with fail
    have hK2 : (W.setCell ⟨w.heap.size + 1 + 1, 0, none⟩ (.bool true)).heap[Dk]? = some (.deferred (some [])) := (KeepsOthers.setCell _ _ _).same Dk _ hK0.out rfl
    refine ⟨by simp, .inl ⟨_, _, rfl, run_takeDeferred hK2, ?_⟩⟩
    have hcc : ((W.setCell ⟨w.heap.size + 1 + 1, 0, none⟩ (.bool true)).putObj Dk (.deferred none)).cell? ⟨w.heap.size + 1 + 1, 0, none⟩ = some (.bool true) :=
      cell_kept (World.cell?_setCell_same' _ _ _ (by rw [c3.out]; rfl)) (grownBy_putObj' _ Dk (.deferred none)) (fun r e => by cases e; exact ⟨_, hK2, rfl⟩)
    have q0 : Below w.heap.size w W := hb4.trans (HB.out.mono (by omega))
    have q1 : Below w.heap.size w (W.setCell ⟨w.heap.size + 1 + 1, 0, none⟩ (.bool true)) := q0.setCell (p := ⟨w.heap.size + 1 + 1, 0, none⟩) (by show w.heap.size ≤ w.heap.size + 1 + 1; omega) _
    have hFin : Below w.heap.size w ((W.setCell ⟨w.heap.size + 1 + 1, 0, none⟩ (.bool true)).putObj Dk (.deferred none)) :=
      q1.trans (belowK_b (w := w4) (by omega) _ _ _ _ hDk hK2 rfl rfl)
    exact ⟨_, by simp [results, Tryz.results31, go_sem, hcc], rfl, hFin⟩
  case stop =>
    rintro Dk c pre W hDk hpre h _
    exact h.elim
end Go.Proofs.YthidjbobjjoekaaGreat
