/- runes.Count, word.Count. Conditions: those of each theorem. -/
import Derived.Test.YteodfondjogmoaaGreatDoorJe
import Derived.Test.YteodfondjogmoaaGreatDoorJf
import Derived.BigQuiet
import Derived.Test.YteodfondjogmoaaGreatDoorTCe
namespace Go.Proofs.YteodfondjogmoaaGreatDoor
open Go Go.RowKit Go.Lib Go.Shelf
set_option linter.unusedVariables false
set_option linter.unusedSimpArgs false
attribute [local go_sem] Oper.semAt_some C.Ext.cell C.Ext.froz
theorem posL_len (s : ByteArray) : ∀ (n p : Nat), n = s.size - p → (posL s p).length ≤ s.size - p := by
  intro n
  induction n using Nat.strongRecOn with
  | _ n ih =>
    intro p hn
    by_cases hp : p < s.size
    · have := wdN_pos hp
      rw [posL_more hp, List.length_cons]
      have := ih (s.size - (p + wdN s p)) (by omega) _ rfl
      omega
    · rw [posL_end hp]; exact Nat.zero_le _
theorem uStep_len (s : ByteArray) (st : List Un × Un) (p : Nat) : (uStep s st p).1.length ≤ st.1.length + 1 := by
  unfold uStep
  split
  · dsimp only; omega
  · dsimp only; split
    · simp
    · omega
theorem uFold_len (s : ByteArray) : ∀ (ps : List Nat) (st : List Un × Un), (ps.foldl (uStep s) st).1.length ≤ st.1.length + ps.length
  | [], st => by simp
  | p :: ps, st => by
    rw [List.foldl_cons, List.length_cons]
    have h1 := uFold_len s ps (uStep s st p)
    have h2 := uStep_len s st p
    omega
theorem unitsL_len (s : ByteArray) : (unitsL s).length ≤ s.size + 1 := by
  have h := uFold_len s (posL s 0) ([], ⟨0, 0, 0, 0, false⟩)
  have h2 := posL_len s _ 0 rfl
  unfold unitsL uFold
  simp only [List.length_nil] at h
  split
  · rw [List.length_append, List.length_singleton]; omega
  · omega
theorem toks_len (sc : Sc) : (toks sc).length ≤ 2 := by unfold toks; repeat' split
                                                        all_goals simp
theorem sStep_len (st : List Tk × Sc) (u : Un) : (sStep st u).1.length ≤ st.1.length + 2 := by
  unfold sStep
  split
  · dsimp only; omega
  · split
    · dsimp only; omega
    · dsimp only; rw [List.length_append]; have := toks_len (fitsU st.2 u).1; omega
theorem sFold_len : ∀ (us : List Un) (st : List Tk × Sc), (us.foldl sStep st).1.length ≤ st.1.length + 2 * us.length
  | [], st => by simp
  | u :: us, st => by
    rw [List.foldl_cons, List.length_cons]
    have h1 := sFold_len us (sStep st u)
    have h2 := sStep_len st u
    omega
theorem scanL_len (s : ByteArray) : (scanL s).length ≤ 2 * s.size + 4 := by
  have h := sFold_len (unitsL s) ([], ⟨0, 0, 0, 0, ⟨0, 0, 0, 0, false⟩⟩)
  have h2 := unitsL_len s
  have h3 := toks_len (sFold (unitsL s)).2
  unfold scanL
  rw [List.length_append]
  unfold sFold at h3 ⊢
  simp only [List.length_nil] at h
  omega
set_option maxHeartbeats 8000000 in
theorem rcount35 (s : ByteArray) (hs : s.size ≤ 1000000) (w : World) :
    Calls Tryz.prog 77 #[.string s] w fun e w' => e = .returned (.tuple #[.int .i64 ((posL s 0) : List Nat).length, .int .i64 (((posL s 0).filter (isBr s)).length : Nat)]) ∧ Below w.heap.size w w' := by
  refine (callsIn_wide (n := 9)).1 ?_
  refine callsIn_of_wp_marks Tryz.func77 rfl trivial ?_ rfl
  simp only [Tryz.ntmps77, List.size_toArray, List.length_cons, List.length_nil, Nat.reduceAdd, Nat.reduceSub, Array.replicate_succ, Array.replicate_zero, List.push_toArray, List.append_toArray, List.nil_append, List.cons_append]
  have hP := hid (fun W => pieces53 s W)
  gi_wp2_with fail
  refine ⟨trivial, ?_⟩
  with_reducible refine CallsIn.mono (callsIn_wide.2 (hP.out _)) ?_
  rintro e w4 ⟨rfl, hw4⟩
  obtain ⟨N, hNN⟩ : ∃ N, N = w.heap.size := ⟨_, rfl⟩
  have b0 : Blk w4 N 3 #[.int .i64 0] := by rw [hw4, hNN]; exact ((Blk.new w 3 #[.int .i64 0]).alloc _).alloc _
  have b1 : Blk w4 (N + 1) 3 #[.int .i64 0] := by
    have := (Blk.new (w.alloc (.cells #[.int .i64 0] 3)) 3 #[.int .i64 0]).alloc (.cells #[.string s] 9)
    rw [World.size_alloc] at this
    rw [hw4, hNN]; exact this
  have b2 : Blk w4 (N + 2) 9 #[.string s] := by
    have := Blk.new ((w.alloc (.cells #[.int .i64 0] 3)).alloc (.cells #[.int .i64 0] 3)) 9 #[.string s]
    simp only [World.size_alloc, Nat.add_assoc, Nat.reduceAdd] at this
    rw [hw4, hNN]; exact this
  have hN : w4.heap.size = N + 3 := by rw [hw4, hNN]; simp
  have hB4 : Below N w w4 := by rw [hw4, hNN]; exact (((Below.refl _ w).alloc (Nat.le_refl _) _).alloc (by simp) _).alloc (by simp; omega) _
  have B0 := hid b0
  have B1 := hid b1
  have B2 := hid b2
  have HB4 := hid hB4
  simp only [World.size_alloc, Nat.add_assoc, Nat.reduceAdd]
  rw [← hNN]
  have HNN := hid hNN
  clear hw4 hP b0 b1 b2 hB4 hNN
  gi_wp2_with fail
  refine name_actZ ?_
  intro Tm D hTm hD
  have hseq := pieces_seq 8 s (by omega) (N + 2) w4 (B2.out.cell (k := 0) rfl)
  refine rangeFunc_s (F := Fence.wide) (α := Nat) rfl (by omega) (gf := 150) (lb := #[.pointer (some ⟨N + 2, 0, none⟩)]) (by subst hTm; rfl) trivial (enters_of Tryz.func150 (by kernel_rfl) rfl)
    hseq (fun k hk => by omega) (Below.refl _ _) (fun _ => rfl)
    (fun pre S W => Blk W N 3 #[.int .i64 (pre.length : Nat)] ∧ Blk W (N + 1) 3 #[.int .i64 ((pre.filter (isBr s)).length : Nat)] ∧ N + 3 ≤ W.heap.size ∧ Below N w W)
    (fun _ _ _ _ => False)
    ?hI (fun c _ _ _ _ _ h _ _ _ => h) ⟨B0.out, B1.out, by omega, HB4.out⟩
    (fun pre S x a' W => ∃ Bx, w4.heap.size ≤ Bx ∧ ¬ S Bx ∧ Blk W Bx 149 (pcZ s x) ∧ Blk W N 3 #[.int .i64 (pre.length : Nat)] ∧ Blk W (N + 1) 3 #[.int .i64 ((pre.filter (isBr s)).length : Nat)] ∧ N + 3 ≤ W.heap.size ∧ Below N w W ∧ a' = { tmps := (Tm.setIfInBounds 9 (pcV s x)).setIfInBounds 6 (.pointer (some ⟨Bx, 0, none⟩)), defers := [] })
    ?hAx ?assign ?body ?done ?stop
  case hI =>
    intro pre S S' X Y ⟨h1, h2, h3, h4⟩ hS hK hS'
    have nb : ∀ k, k < N + 3 → ¬ S k := fun k h hs => by have := (hS k hs).1; omega
    exact ⟨h1.keep hK (nb _ (by omega)), h2.keep hK (nb _ (by omega)), by have := hK.size; omega, h4.trans (hK.below (by omega) (fun k hk => nb k (by omega)))⟩
  case hAx =>
    intro pre S x a' X lb o ⟨Bx, g1, g2, g3, g4, g5, g6, g7, g8⟩ hSl hS
    have hlb := (hS _ hSl).1
    exact ⟨Bx, g1, g2, g3.put (fun e => g2 (e ▸ hSl)) _, g4.put (by omega) _, g5.put (by omega) _, by simp [World.putObj]; omega, g7.trans ((Kept.putObj (T := fun k => k < N) X (by show ¬ (lb < N); omega) o).below (by omega) (fun k hk => hk)), g8⟩
  case assign =>
    rintro l' pre S x W5 K ⟨h0, h1, h2, h3⟩ hW5 hS5 hpre hK
    subst hTm hD
    have hB := Blk.new W5 149 (pcZ s x)
    have H := hK _ _ (Kept.alloc _ _ _) ⟨W5.heap.size, by omega, (fun h => by have := (hS5 _ h).2; omega), hB, h0.alloc _, h1.alloc _, by rw [World.size_alloc]; omega, h3.alloc (by omega) _, rfl⟩
    clear hK hB h0 h1 h3
    unfold pcV pcZ at H
    unfold pcV
    dsimp only at H
    simp only [List.setIfInBounds_toArray, List.set_cons_succ, List.set_cons_zero] at H
    gi_wp2
    exact H
  case body =>
    rintro l' pre S x a' W5 hSl ⟨rec, hrec⟩ hW5 hS5 hpre ⟨Bx, hBx, hSB, kx, k0, k1, h2, h3, rfl⟩
    have hlen : pre.length < 4000000 := by
      have h := hpre.length_le
      rw [List.length_append, List.length_singleton] at h
      have h2 := posL_len s _ 0 rfl
      omega
    have hsec : ((pre.filter (isBr s)).length : Nat) ≤ pre.length := List.length_filter_le _ _
    have hE : Hid ((pre ++ [x]).length = pre.length + 1) := hid (by simp)
    unfold pcZ at kx
    unfold pcV
    have c0 := kx.cell (k := 0) rfl
    have c3 := kx.cell (k := 3) rfl
    try dsimp only at c0
    have d0 := k0.cell (k := 0) rfl
    have d1 := k1.cell (k := 0) rfl
    have z0 := k0.froz 0
    have z1 := k1.froz 0
    have hS2 : Hid (Below N w W5) := hid h3
    have n0 : Hid (¬ ((N = N + 2) ∨ S N)) := hid (fun h => h.elim (fun h => by omega) (fun h => by have := (hS5 _ h).1; omega))
    have n1 : Hid (¬ ((N + 1 = N + 2) ∨ S (N + 1))) := hid (fun h => h.elim (fun h => by omega) (fun h => by have := (hS5 _ h).1; omega))
    have G0 := hid k0
    have G1 := hid k1
    subst hTm hD
    dsimp only
    simp only [List.setIfInBounds_toArray, List.set_cons_succ, List.set_cons_zero]
    by_cases hb : isBr s x = true
    · have e1 := hb
      have hv : Hid ((((pre ++ [x]).filter (isBr s)).length : Nat) = ((pre.filter (isBr s)).length : Nat) + 1) := hid (by rw [List.filter_append]; simp [hb])
      generalize pre.length = n at *
      generalize ((pre.filter (isBr s)).length : Nat) = m at *
      gi_wp2_with fail
      show Kept _ _ _ ∧ (Blk _ N 3 #[.int .i64 ((pre ++ [x]).length : Nat)] ∧ Blk _ (N + 1) 3 #[.int .i64 (((pre ++ [x]).filter (isBr s)).length : Nat)] ∧ _)
      rw [hE.out, hv.out]
      exact ⟨(Kept.setCell _ (by exact n0.out) _).trans (Kept.setCell _ (by exact n1.out) _), (G0.out.upd _ _ rfl).other (by omega) _, (G1.out.other (by omega) _).upd _ _ rfl, by simp [World.setCell]; omega, (hS2.out.setCell (p := ⟨N, 0, none⟩) (Nat.le_refl _) _).setCell (p := ⟨N + 1, 0, none⟩) (by show N ≤ N + 1; omega) _⟩
    · have e1 := (by simpa using hb : isBr s x = false)
      have hv : Hid ((((pre ++ [x]).filter (isBr s)).length : Nat) = ((pre.filter (isBr s)).length : Nat)) := hid (by rw [List.filter_append]; simp [hb])
      generalize pre.length = n at *
      generalize ((pre.filter (isBr s)).length : Nat) = m at *
      gi_wp2_with fail
      show Kept _ _ _ ∧ (Blk _ N 3 #[.int .i64 ((pre ++ [x]).length : Nat)] ∧ Blk _ (N + 1) 3 #[.int .i64 (((pre ++ [x]).filter (isBr s)).length : Nat)] ∧ _)
      rw [hE.out, hv.out]
      exact ⟨Kept.setCell _ (by exact n0.out) _, G0.out.upd _ _ rfl, G1.out.other (by omega) _, by simp [World.setCell]; omega, hS2.out.setCell (p := ⟨N, 0, none⟩) (Nat.le_refl _) _⟩
  case done =>
    rintro Dk W9 hDk ⟨h0, h1, h2, h3⟩ hK
    have hK0 := hid hK
    have d0 := h0.cell (k := 0) rfl
    have d1 := h1.cell (k := 0) rfl
    have H3 := hid h3
    have hDl := at_lt hK
    subst hTm hD
    clear h0 h1 h3 hK hseq
    gi_wp2_with fail
    refine C.draw_allInB (by kernel_rfl) (C.WideF.wide _ _) (by kernel_rfl) (by kernel_rfl) ?_
    repeat (refine C.bq_step (fun K hK => ?_); go_simp; refine ⟨hK _ ?_⟩; clear hK K)
    refine C.bq_nil ?_
    rintro _ ⟨dn, rfl⟩
    gi_wp2_with fail
    refine ⟨by simp, .inl ⟨_, _, rfl, run_takeDeferred (w := W9.drewN dn) hK0.out, ?_⟩⟩
    refine ⟨.tuple #[.int .i64 ((posL s 0) : List Nat).length, .int .i64 (((posL s 0).filter (isBr s)).length : Nat)], (by simp [results, Tryz.results77, go_sem]), rfl, ?_⟩
    have hb : Below N w (W9.drewN dn) := ⟨H3.out.os, H3.out.tape, H3.out.output, H3.out.size, H3.out.block⟩
    rw [← HNN.out]
    exact hb.trans ((Kept.putObj (T := fun k => k < N) (W9.drewN dn) (by show ¬ (Dk < N); omega) _).below (by show N ≤ W9.heap.size; omega) (fun k hk => hk))
  case stop =>
    rintro Dk c pre W9 hDk hpre h hK
    exact h.elim
end Go.Proofs.YteodfondjogmoaaGreatDoor
/- Small functions: Poem.Source, Poem.Line, Concord.Size, Concord.Poems, runes.Cut, earlier. Conditions: those of each theorem. -/
namespace Go.Proofs.YteodfondjogmoaaGreatDoor
open Go Go.RowKit Go.Lib Go.Shelf
set_option linter.unusedVariables false
set_option linter.unusedSimpArgs false
attribute [local go_sem] Oper.semAt_some
theorem below_drN {B : Nat} (w : World) (n : Nat) : Below B w (w.drewN n) := ⟨rfl, rfl, rfl, Nat.le_refl _, fun _ _ => rfl⟩
theorem source72 {w : World} {r : PmR} (h : PmOk w r) : Calls Tryz.prog 69 #[.pointer (some ⟨r.pb, 0, none⟩)] w fun e w' => e = .returned (.string r.d.src) ∧ w = w' := by
  have c := h.src
  clear h
  go_enter Tryz.func69, Tryz.ntmps69
  go_wp2_with fail
  go_ret
  exact ⟨rfl, rfl⟩
theorem poems24 {w : World} {c : Cc} {rs : List PmR} {E : List En} {ks : List ByteArray} (h : CcAt w c rs E ks) : Calls Tryz.prog 23 #[.pointer (some ⟨c.cb, 0, none⟩)] w fun e w' => e = .returned (.int .i64 rs.length) ∧ w = w' := by
  have c0 := h.c0
  have lr := h.lr
  clear h
  go_enter Tryz.func23, Tryz.ntmps23
  go_wp2_with fail
  go_ret
  exact ⟨rfl, rfl⟩
theorem size22 {w : World} {c : Cc} {rs : List PmR} {E : List En} {ks : List ByteArray} (h : CcAt w c rs E ks) : Calls Tryz.prog 21 #[.pointer (some ⟨c.cb, 0, none⟩)] w fun e w' => e = .returned (.tuple #[.int .i64 E.length, .int .i64 ks.length]) ∧ Below w.heap.size w w' := by
  have c1 := h.c1
  have c3 := h.c3
  clear h
  go_enter Tryz.func21, Tryz.ntmps21
  go_wp2_with fail
  go_quiet (fail)
  go_wp2_with fail
  go_ret2
  exact ⟨rfl, below_drN _ _⟩
theorem earlier100 (a b : Hw) (w : World) (ha : a.p < 2000 ∧ a.n ≤ 32768) (hb : b.p < 2000 ∧ b.n ≤ 32768) (h : a.p < b.p ∨ a.p = b.p ∧ a.n < b.n) : Calls Tryz.prog 97 #[a.v, b.v] w fun e w' => e = .returned (.bool true) ∧ Below w.heap.size w w' := by
  obtain ⟨ap, al, aw, an, af, at'⟩ := a
  obtain ⟨bp, bl, bw, bn, bf, bt⟩ := b
  dsimp only at ha hb h
  rcases h with h | ⟨rfl, h⟩
  · have e : (ap : Int) < bp := by omega
    go_enter Tryz.func97, Tryz.ntmps97
    go_wp2_with fail
    go_ret
    exact ⟨rfl, ((Below.refl _ w).alloc (Nat.le_refl _) _).alloc (by simp) _⟩
  · have e : (an : Int) < bn := by omega
    have e2 : ¬ (ap : Int) < ap := by omega
    have e3 : decide ((ap : Int) < (ap : Int)) = false := decide_eq_false e2
    have e4 : ((ap : Int) == (ap : Int)) = true := beq_self_eq_true _
    go_enter Tryz.func97, Tryz.ntmps97
    go_wp2_with fail
    go_ret
    exact ⟨rfl, ((Below.refl _ w).alloc (Nat.le_refl _) _).alloc (by simp) _⟩
set_option maxHeartbeats 400000 in
theorem line79 {w : World} {r : PmR} (h : PmOk w r) {k : Nat} {v : Vs} (hv : r.d.L[k]? = some v) : Calls Tryz.prog 76 #[.pointer (some ⟨r.pb, 0, none⟩), .int .i64 k] w fun e w' => e = .returned (.tuple #[v.v, .int .i64 0]) ∧ Below w.heap.size w w' := by
  have hk := (List.getElem?_eq_some_iff.1 hv).1
  have hL := h.ok.len
  have hpb := h.lt
  obtain ⟨q0, q1, q2, q3, q4, q5⟩ := h.pm.row k v hv
  have c1 := h.pm.c1
  have ha : r.a = some ⟨r.g, 0, none⟩ := h.pm.ha.resolve_left (fun h => by rw [h] at hv; cases hv)
  rw [ha] at c1
  have k1 : ¬ (k : Int) < 0 := by omega
  have k1' : decide ((k : Int) < 0) = false := decide_eq_false k1
  have k2 : (k : Int) < r.d.L.length := by omega
  have k2' : ¬ (r.d.L.length : Int) ≤ k := by omega
  generalize r.d.L.length = n at *
  obtain ⟨tx, va, vb, vc, vf, vt⟩ := v
  dsimp only at q0 q1 q2 q3 q4 q5
  clear h ha hv
  go_enter Tryz.func76, Tryz.ntmps76
  go_wp2_with fail
  try rw [Exit.noGoto_ret]
  have kf := Blk.new w 136 #[.string tx, .int .i64 va, .int .i64 vb, .int .i64 vc, .int .i64 vf, .int .i64 vt]
  have y0 := kf.cell (k := 0) rfl
  have y1 := kf.cell (k := 1) rfl
  have y2 := kf.cell (k := 2) rfl
  have y3 := kf.cell (k := 3) rfl
  have y4 := kf.cell (k := 4) rfl
  have y5 := kf.cell (k := 5) rfl
  refine bodyPost_ret (v := .tuple #[.agg #[.string tx, .int .i64 va, .int .i64 vb, .int .i64 vc, .int .i64 vf, .int .i64 vt], .int .i64 0]) (by simp [results, Tryz.results76, go_sem, y0, y1, y2, y3, y4, y5]) rfl ⟨rfl, ?_⟩
  exact (Below.refl _ w).alloc (Nat.le_refl _) _
theorem cut81_none (s : ByteArray) (n : Int) (hn : n ≤ 0) (w : World) : Calls Tryz.prog 78 #[.string s, .int .i64 n] w fun e w' => e = .returned (.tuple #[.string ⟨#[]⟩, .string s]) ∧ w = w' := by
  go_enter Tryz.func78, Tryz.ntmps78
  go_wp2_with fail
  go_ret2
  exact ⟨rfl, rfl⟩
set_option maxHeartbeats 1000000 in
theorem cut81_all (s : ByteArray) (n : Nat) (hs : s.size ≤ 1000000) (hn : (posL s 0).length ≤ n) (h0 : 0 < n) (hn2 : n ≤ 1000000000) (W : World) : Calls Tryz.prog 78 #[.string s, .int .i64 n] W fun e w' => e = .returned (.tuple #[.string s, .string ⟨#[]⟩]) ∧ Below W.heap.size W w' := by
  have hn0 : ¬ (n : Int) ≤ 0 := by omega
  have hs2 : s.size ≤ 140737488355328 := by omega
  go_enter Tryz.func78, Tryz.ntmps78
  go_wp2_with fail
  go_loopw [1] (fun i wr => ∃ (pos k : Nat), i = .int .i64 k ∧ Hid ((posL s pos).length ≤ k) ∧ k ≤ n ∧ pos ≤ s.size ∧ Hid (wr.heap[W.heap.size]? = some (.stringIter s pos)) ∧ Hid (Below W.heap.size W wr) ∧ W.heap.size < wr.heap.size) (fun i wr => s.size - wr.iterPos W.heap.size)
  case atStart =>
    exact ⟨0, n, rfl, hid hn, Nat.le_refl _, Nat.zero_le _, hid (heap_alloc_new W _), hid ((Below.refl _ W).alloc (Nat.le_refl _) _), at_lt (heap_alloc_new W _)⟩
  case round =>
    obtain ⟨pos, k, rfl, hL, hkn, hps, hit, hb, hIl⟩ := hrel
    have hpos0 := hid (iterPos_of hit.out)
    by_cases hp : pos < s.size
    · have hnx : ∀ ty, (Instr.next (.pointer (some ⟨W.heap.size, 0, none⟩)) true ty).run Tryz.prog wr = _ := fun ty => Lib.run_next_any_at wr W.heap.size s pos ty hit.out hp
      change ∀ ty, (Instr.next (.pointer (some ⟨W.heap.size, 0, none⟩)) true ty).run Tryz.prog wr = .ok (.tuple #[.bool true, .int .i64 pos, .int .i32 (rnN s pos)]) (wr.iterAt W.heap.size s (pos + wdN s pos)) at hnx
      have hwd := wdN_pos hp
      have hL2 := hL.out
      rw [posL_more hp, List.length_cons] at hL2
      have hk0 : ((k : Int) == 0) = false := beq_f (by omega)
      have hit1 := hid (iterAt_heap wr W.heap.size s pos (pos + wdN s pos) hit.out)
      have hb1 := hid (hb.out.trans (⟨rfl, rfl, rfl, by rw [iterAt_size]; exact Nat.le_refl _, fun k hk => iterAt_other wr W.heap.size k s _ (by omega)⟩ : Below W.heap.size wr (wr.iterAt W.heap.size s (pos + wdN s pos))))
      have hI1 : W.heap.size < (wr.iterAt W.heap.size s (pos + wdN s pos)).heap.size := by rw [iterAt_size]; exact hIl
      have hm := hid hwd
      have hl3 : Hid ((posL s (pos + wdN s pos)).length ≤ k - 1) := hid (by omega)
      have hk1 : 1 ≤ k := by omega
      clear hwd hL hL2 hb
      go_wp2_with fail
      go_roundw
      case rel => exact ⟨pos + wdN s pos, k - 1, by rw [show ((k : Int) - 1) = ((k - 1 : Nat) : Int) by omega], hl3, by omega, hm.out.2.2, hit1, hb1, hI1⟩
      case measure =>
        have h1 := iterPos_of hit1.out
        have h2 := hpos0.out
        have h3 := hm.out
        omega
    · obtain rfl : pos = s.size := by omega
      have hnx : ∀ ty, (Instr.next (.pointer (some ⟨W.heap.size, 0, none⟩)) true ty).run Tryz.prog wr = _ := fun ty => Lib.run_next_end_at wr W.heap.size s s.size ty hit.out hp
      go_wp2_with fail
      go_ret2
      exact ⟨rfl, hb.out⟩
end Go.Proofs.YteodfondjogmoaaGreatDoor
/- Concord.index, Text: the closures that a search is handed, and what it finds. Conditions: those of each theorem. -/
namespace Go.Proofs.YteodfondjogmoaaGreatDoor
open Go Go.RowKit Go.Lib Go.Shelf
set_option linter.unusedVariables false
set_option linter.unusedSimpArgs false
attribute [local go_sem] Oper.semAt_some C.Ext.cell C.Ext.froz
def cvAt (p : Nat) (at' : Int) (h : Hw) : Int := if h.p < p ∨ (h.p = p ∧ h.t ≤ at') then -1 else 1
def cvIx (tg h : Hw) : Int := if h.p = tg.p then (h.n : Int) - tg.n else (h.p : Int) - tg.p
theorem at74 (h : Hw) (at' : Int) (p pb : Nat) (W : World) (hc : W.cell? ⟨pb, 0, none⟩ = some (.int .i64 p)) : Calls Tryz.prog 71 (#[h.v, .int .i64 at'] ++ #[.pointer (some ⟨pb, 0, none⟩)]) W fun e w' => e = .returned (.int .i64 (cvAt p at' h)) ∧ Below W.heap.size W w' := by
  obtain ⟨hp, hl, hw, hn, hf, ht⟩ := h
  show Calls Tryz.prog 71 #[.agg #[.int .i64 hp, .int .i64 hl, .int .i64 hw, .int .i64 hn, .int .i64 hf, .int .i64 ht], .int .i64 at', .pointer (some ⟨pb, 0, none⟩)] W _
  have hpb := World.block_lt_of_cell? W _ hc
  have hc1 : (W.alloc (.cells #[.int .i64 hp, .int .i64 hl, .int .i64 hw, .int .i64 hn, .int .i64 hf, .int .i64 ht] 39)).cell? ⟨pb, 0, none⟩ = some (.int .i64 p) := (((Below.refl W.heap.size W).alloc (Nat.le_refl _) _).cell (p := ⟨pb, 0, none⟩) hpb).trans hc
  by_cases h1 : hp < p
  · have e1 : (hp : Int) < p := by omega
    have e2 : decide ((hp : Int) < (p : Int)) = true := decide_eq_true e1
    have hv : cvAt p at' ⟨hp, hl, hw, hn, hf, ht⟩ = -1 := by unfold cvAt; rw [if_pos (.inl h1)]
    rw [hv]
    go_enter Tryz.func71, Tryz.ntmps71
    go_wp2_with fail
    go_ret
    exact ⟨rfl, (Below.refl _ W).alloc (Nat.le_refl _) _⟩
  · have e1 : ¬ (hp : Int) < p := by omega
    have e2 : decide ((hp : Int) < (p : Int)) = false := decide_eq_false e1
    by_cases h2 : hp = p
    · subst h2
      have e3 : ((hp : Int) == (hp : Int)) = true := beq_self_eq_true _
      by_cases h3 : ht ≤ at'
      · have e4 : decide (ht ≤ at') = true := decide_eq_true h3
        have hv : cvAt hp at' ⟨hp, hl, hw, hn, hf, ht⟩ = -1 := by unfold cvAt; rw [if_pos (.inr ⟨rfl, h3⟩)]
        rw [hv]
        go_enter Tryz.func71, Tryz.ntmps71
        go_wp2_with fail
        go_ret
        exact ⟨rfl, (Below.refl _ W).alloc (Nat.le_refl _) _⟩
      · have e4 : decide (ht ≤ at') = false := decide_eq_false h3
        have hv : cvAt hp at' ⟨hp, hl, hw, hn, hf, ht⟩ = 1 := by unfold cvAt; rw [if_neg (fun h => h.elim (fun h => by dsimp only at h; omega) (fun h => h3 h.2))]
        rw [hv]
        go_enter Tryz.func71, Tryz.ntmps71
        go_wp2_with fail
        go_ret
        exact ⟨rfl, (Below.refl _ W).alloc (Nat.le_refl _) _⟩
    · have e3 : ((hp : Int) == (p : Int)) = false := beq_f (by omega)
      have hv : cvAt p at' ⟨hp, hl, hw, hn, hf, ht⟩ = 1 := by unfold cvAt; rw [if_neg (fun h => h.elim h1 (fun h => h2 h.1))]
      rw [hv]
      go_enter Tryz.func71, Tryz.ntmps71
      go_wp2_with fail
      go_ret
      exact ⟨rfl, (Below.refl _ W).alloc (Nat.le_refl _) _⟩
theorem ix117 (h tg : Hw) (W : World) (h1 : h.p < 1024 ∧ h.n < 32768) (h2 : tg.p < 1024 ∧ tg.n < 32768) : Calls Tryz.prog 114 (#[h.v, tg.v] ++ #[]) W fun e w' => e = .returned (.int .i64 (cvIx tg h)) ∧ Below W.heap.size W w' := by
  obtain ⟨hp, hl, hw, hn, hf, ht⟩ := h
  obtain ⟨tp, tl, tw, tn, tf, tt⟩ := tg
  dsimp only at h1 h2
  show Calls Tryz.prog 114 #[.agg #[.int .i64 hp, .int .i64 hl, .int .i64 hw, .int .i64 hn, .int .i64 hf, .int .i64 ht], .agg #[.int .i64 tp, .int .i64 tl, .int .i64 tw, .int .i64 tn, .int .i64 tf, .int .i64 tt]] W _
  by_cases he : hp = tp
  · subst he
    have e1 : ((hp : Int) != (hp : Int)) = false := by simp
    have hv : cvIx ⟨hp, tl, tw, tn, tf, tt⟩ ⟨hp, hl, hw, hn, hf, ht⟩ = (hn : Int) - tn := by unfold cvIx; rw [if_pos rfl]
    rw [hv]
    have e2 : IntKind.i64.wrap ((hn : Int) - tn) = (hn : Int) - tn := IntWalk.i64_in _ (by omega)
    go_enter Tryz.func114, Tryz.ntmps114
    go_wp2_with fail
    go_ret
    exact ⟨rfl, ((Below.refl _ W).alloc (Nat.le_refl _) _).alloc (by simp) _⟩
  · have e1 : ((hp : Int) != (tp : Int)) = true := by simp; omega
    have hv : cvIx ⟨tp, tl, tw, tn, tf, tt⟩ ⟨hp, hl, hw, hn, hf, ht⟩ = (hp : Int) - tp := by unfold cvIx; rw [if_neg he]
    rw [hv]
    have e2 : IntKind.i64.wrap ((hp : Int) - tp) = (hp : Int) - tp := IntWalk.i64_in _ (by omega)
    go_enter Tryz.func114, Tryz.ntmps114
    go_wp2_with fail
    go_ret
    exact ⟨rfl, ((Below.refl _ W).alloc (Nat.le_refl _) _).alloc (by simp) _⟩
section
variable {w : World} {c : Cc} {rs : List PmR} {E : List En} {ks : List ByteArray}
theorem find_ix (h : CcAt w c rs E ks) {i : Nat} {e : En} (he : E[i]? = some e) (cap : Nat) (W : World) (hW : Below w.heap.size w W) :
    Calls Tryz.prog 113 #[.slice c.ha E.length cap, e.h.v, .func (.func 114) #[] #[]] W fun x w' => x = .returned (.tuple #[.int .i64 i, .bool true]) ∧ Below W.heap.size W w' := by
  have hi := (List.getElem?_eq_some_iff.1 he).1
  obtain ⟨r, v, K⟩ := h.know he
  have hh := (h.low hW).hs
  have hl : (E.map (·.h)).length = E.length := List.length_map _
  have hg : ∀ j x, (E.map (·.h))[j]? = some x → ∃ y : En, E[j]? = some y ∧ y.h = x := fun j x hx => by
    rw [List.getElem?_map] at hx
    cases hy : E[j]? with
    | none => rw [hy] at hx; cases hx
    | some y => rw [hy] at hx; exact ⟨y, hy, by simpa using hx⟩
  have hS := search116 hh cap e.h #[] i (by rw [hl]; omega) (by rw [hl]; exact h.lE) (cvIx e.h)
    (fun W2 _ x hx => by
      obtain ⟨j, hj⟩ := List.getElem?_of_mem hx
      obtain ⟨y, hy, rfl⟩ := hg j x hj
      obtain ⟨_, _, K2⟩ := h.know hy
      exact ix117 y.h e.h W2 ⟨K2.pp, K2.nn⟩ ⟨K.pp, K.nn⟩)
    (fun j x hx => by
      obtain ⟨y, hy, rfl⟩ := hg j x hx
      unfold cvIx
      rcases Nat.lt_trichotomy j i with hji | rfl | hji
      · have := pw_lt h.pw hji hy he
        unfold EnLt at this
        split <;> omega
      · rw [he] at hy
        obtain rfl := Option.some.inj hy
        rw [if_pos rfl]
        omega
      · have := pw_lt h.pw hji he hy
        unfold EnLt at this
        split <;> omega)
  rw [hl] at hS
  refine hS.mono ?_
  rintro x w' ⟨⟨b, rfl, hb⟩, hbel⟩
  have : b = true := hb.2 ⟨e.h, by rw [List.getElem?_map, he]; rfl, by unfold cvIx; rw [if_pos rfl]; omega⟩
  subst this
  exact ⟨rfl, hbel⟩
theorem index75 (h : CcAt w c rs E ks) {i : Nat} {e : En} (he : E[i]? = some e) :
    Calls Tryz.prog 72 #[.pointer (some ⟨c.cb, 0, none⟩), e.h.v] w fun x w' => x = .returned (.int .i64 i) ∧ Below w.heap.size w w' := by
  have hi := (List.getElem?_eq_some_iff.1 he).1
  have hlE := h.lE
  have hF := hid (fun W hW => find_ix h he c.hc W hW)
  have c1 := h.c1
  have hr := (h.hs.row i e.h (by rw [List.getElem?_map, he]; rfl))
  have ha : c.ha = some ⟨c.hg, 0, none⟩ := h.hs.ha.resolve_left (fun e0 => by rw [List.map_eq_nil_iff.1 e0] at he; cases he)
  rw [ha] at c1
  rw [ha] at hF
  have hii : (i : Int) < E.length := by omega
  generalize E.length = n at *
  obtain ⟨⟨hp, hl, hw, hn, hf, ht⟩, ek⟩ := e
  obtain ⟨q0, q1, q2, q3, q4, q5⟩ := hr
  dsimp only at q0 q1 q2 q3 q4 q5 hF ⊢
  obtain ⟨w1, hw1⟩ : ∃ w1, w.alloc (.cells (Hw.cells ⟨hp, hl, hw, hn, hf, ht⟩) 39) = w1 := ⟨_, rfl⟩
  have hb1 : Below w.heap.size w w1 := by rw [← hw1]; exact (Below.refl _ w).alloc (Nat.le_refl _) _
  have k1 : Blk w1 w.heap.size 39 (Hw.cells ⟨hp, hl, hw, hn, hf, ht⟩) := by rw [← hw1]; exact Blk.new _ _ _
  have c11 := lowc c1 hb1
  have HB := hid hb1
  have HK := hid k1
  have hF1 := hid (fun x : C.Ext w1 => hF.out x.w (hb1.trans (x.h.mono hb1.size)))
  have Q := hid (And.intro q0 (And.intro q1 (And.intro q2 (And.intro q3 (And.intro q4 q5)))))
  have t0 := k1.cell (k := 0) rfl
  have t1 := k1.cell (k := 1) rfl
  have t2 := k1.cell (k := 2) rfl
  have t3 := k1.cell (k := 3) rfl
  have t4 := k1.cell (k := 4) rfl
  have t5 := k1.cell (k := 5) rfl
  have C1 := hid c1
  clear h he hF hb1 k1 q0 q1 q2 q3 q4 q5 c1
  go_enter Tryz.func72, Tryz.ntmps72
  go_wp2_with fail
  try rw [show w.alloc (.cells #[.int .i64 hp, .int .i64 hl, .int .i64 hw, .int .i64 hn, .int .i64 hf, .int .i64 ht] 39) = w1 from hw1]
  clear hw1
  refine C.ext_allB (by kernel_rfl) (by kernel_rfl) ?_
  repeat (refine C.bq_step (fun K hK => ?_); go_simp; first | (refine ⟨hK _ ?_⟩; clear hK K) | (refine ⟨?_⟩; apply Exists.intro; refine ⟨fun x => ?_, hK _ ?_⟩; (with_reducible exact C.Ext.call (hF1.out _)); clear hK K))
  refine C.bq_nil ?_
  rintro _ ⟨z, rfl⟩
  have hb2 := HB.out.trans (z.h.mono HB.out.size)
  have c2 := lowc C1.out hb2
  obtain ⟨q0, q1, q2, q3, q4, q5⟩ := Q.out
  have p0 := lowc q0 hb2
  have p1 := lowc q1 hb2
  have p2 := lowc q2 hb2
  have p3 := lowc q3 hb2
  have p4 := lowc q4 hb2
  have p5 := lowc q5 hb2
  have k2 := HK.out.low z.h
  have u0 := k2.cell (k := 0) rfl
  have u1 := k2.cell (k := 1) rfl
  have u2 := k2.cell (k := 2) rfl
  have u3 := k2.cell (k := 3) rfl
  have u4 := k2.cell (k := 4) rfl
  have u5 := k2.cell (k := 5) rfl
  try dsimp only [Hw.cells] at u0 u1 u2 u3 u4 u5
  have HB2 := hid hb2
  clear t0 t1 t2 t3 t4 t5 q0 q1 q2 q3 q4 q5 hb2 k2 c11 HB HK hF1 C1 Q
  generalize z.w = w2 at *
  go_wp2_with fail
  refine C.draw_allB (by kernel_rfl) (by kernel_rfl) ?_
  repeat (refine C.bq_step (fun K hK => ?_); go_simp; refine ⟨hK _ ?_⟩; clear hK K)
  refine C.bq_nil ?_
  rintro _ ⟨dn, rfl⟩
  go_wp2_with fail
  go_ret
  exact ⟨rfl, HB2.out.trans (below_drN _ _)⟩
end
end Go.Proofs.YteodfondjogmoaaGreatDoor
/- Concord.Text, Around, At. Conditions: those of each theorem. -/
namespace Go.Proofs.YteodfondjogmoaaGreatDoor
open Go Go.RowKit Go.Lib Go.Shelf
set_option linter.unusedVariables false
set_option linter.unusedSimpArgs false
attribute [local go_sem] Oper.semAt_some C.Ext.cell C.Ext.froz
theorem still_below {P : Program} {f : Nat} {a : Array Value} {w : World} {v : Ending} (h : Calls P f a w fun e w' => e = v ∧ w = w') : Calls P f a w fun e w' => e = v ∧ Below w.heap.size w w' :=
  h.mono fun e w' ⟨x, y⟩ => ⟨x, y ▸ Below.refl _ _⟩
section
variable {w : World} {c : Cc} {rs : List PmR} {E : List En} {ks : List ByteArray}
set_option maxHeartbeats 2000000 in
theorem text39 (h : CcAt w c rs E ks) {i : Nat} {e : En} (he : E[i]? = some e) {r : PmR} {v : Vs} (hK : KnowR w rs e r v) :
    Calls Tryz.prog 38 #[.pointer (some ⟨c.cb, 0, none⟩), e.h.v] w fun x w' => x = .returned (.tuple #[.string (r.d.src.extract e.h.f.toNat e.h.t.toNat), .int .i64 0]) ∧ Below w.heap.size w w' := by
  have hi := (List.getElem?_eq_some_iff.1 he).1
  obtain ⟨K1, K2, K3, K4, K5⟩ := hK
  have hln := K3.ln
  have hsp := K3.sp
  have hsz : r.d.src.size ≤ 65536 := K3.ok.sz
  have hrp := (h.ps.row _ _ K1).1
  have hpa : c.pa = some ⟨c.pg, 0, none⟩ := h.ps.ha.resolve_left (fun e0 => by rw [e0] at K1; cases K1)
  have hpl := (List.getElem?_eq_some_iff.1 K1).1
  have c0 := h.c0
  rw [hpa] at c0
  obtain ⟨⟨hp, hl, hw, hn, hf, ht⟩, ek⟩ := e
  obtain ⟨l0, l1, l2, l3⟩ := hln
  dsimp only at hrp hpl hsp ⊢
  obtain ⟨fn, rfl⟩ : ∃ fn : Nat, hf = fn := ⟨hf.toNat, by omega⟩
  obtain ⟨tn, rfl⟩ : ∃ tn : Nat, ht = tn := ⟨ht.toNat, by omega⟩
  have hft : (fn : Int) ≤ tn := by omega
  have hft2 : decide (fn ≤ tn) = true := decide_eq_true (by omega)
  have hts : (tn : Int) ≤ r.d.src.size := by omega
  have hppl : (hp : Int) < rs.length := by omega
  obtain ⟨w1, hw1⟩ : ∃ w1, w.alloc (.cells (Hw.cells ⟨hp, hl, hw, hn, fn, tn⟩) 39) = w1 := ⟨_, rfl⟩
  have hb1 : Below w.heap.size w w1 := by rw [← hw1]; exact (Below.refl _ w).alloc (Nat.le_refl _) _
  have k1 : Blk w1 w.heap.size 39 (Hw.cells ⟨hp, hl, hw, hn, fn, tn⟩) := by rw [← hw1]; exact Blk.new _ _ _
  have hIx := hid (index75 (h.low hb1) he)
  have t0 := k1.cell (k := 0) rfl
  have t1 := k1.cell (k := 1) rfl
  have t2 := k1.cell (k := 2) rfl
  have t3 := k1.cell (k := 3) rfl
  have t4 := k1.cell (k := 4) rfl
  have t5 := k1.cell (k := 5) rfl
  try dsimp only [Hw.cells] at t0 t1 t2 t3 t4 t5
  have HB := hid hb1
  have HK := hid k1
  have C0 := hid (And.intro c0 hrp)
  have KK := hid K2
  generalize rs.length = nr at *
  clear h he hb1 k1 c0 hrp K1 K2 K3 l0 l1 l2 l3 hi hpa
  go_enter Tryz.func38, Tryz.ntmps38
  go_wp2_with fail
  try rw [show w.alloc (.cells #[.int .i64 hp, .int .i64 hl, .int .i64 hw, .int .i64 hn, .int .i64 fn, .int .i64 tn] 39) = w1 from hw1]
  clear hw1
  with_reducible refine Calls.mono hIx.out ?_
  rintro x w2 ⟨rfl, hb2⟩
  have hb22 := HB.out.trans (hb2.mono HB.out.size)
  have c01 := lowc C0.out.1 hb22
  have c02 := lowc C0.out.2 hb22
  have k2 := HK.out.low hb2
  have u0 := k2.cell (k := 0) rfl
  have u1 := k2.cell (k := 1) rfl
  have u2 := k2.cell (k := 2) rfl
  have u3 := k2.cell (k := 3) rfl
  have u4 := k2.cell (k := 4) rfl
  have u5 := k2.cell (k := 5) rfl
  try dsimp only [Hw.cells] at u0 u1 u2 u3 u4 u5
  have hSo := hid (fun x : C.Ext w2 => still_below (source72 ((KK.out.low hb22).low x.h)))
  have HB2 := hid hb22
  clear t0 t1 t2 t3 t4 t5 hb2 hb22 k2 HB HK C0 KK hIx
  go_wp2_with fail
  refine C.ext_allB (by kernel_rfl) (by kernel_rfl) ?_
  repeat (refine C.bq_step (fun K hK => ?_); go_simp; first | (refine ⟨hK _ ?_⟩; clear hK K) | (refine ⟨?_⟩; apply Exists.intro; refine ⟨fun x => ?_, hK _ ?_⟩; (with_reducible exact C.Ext.call (hSo.out _)); clear hK K))
  refine C.bq_nil ?_
  rintro _ ⟨z, rfl⟩
  have hb3 := HB2.out.trans (z.h.mono HB2.out.size)
  go_wp2_with fail
  go_ret2
  exact ⟨rfl, hb3⟩
end
end Go.Proofs.YteodfondjogmoaaGreatDoor
