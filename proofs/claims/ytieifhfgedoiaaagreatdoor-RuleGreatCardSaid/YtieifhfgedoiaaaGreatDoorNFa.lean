/- The lines of a text, one byte behind the other: in plain Lean. Conditions: those of each theorem. -/
import Derived.Test.YtieifhfgedoiaaaGreatDoorNRgP
import Derived.Test.YtieifhfgedoiaaaGreatDoorNRz
namespace Go.Proofs.YtieifhfgedoiaaaGreatDoor
open Go.RowKit Go.Lib
set_option linter.unusedVariables false
set_option linter.unusedSimpArgs false
def cutL (s : ByteArray) (a i : Nat) : List ByteArray :=
 if h : i < s.size then
  if byteN s i = 10 then s.extract a i :: cutL s (i + 1) (i + 1) else cutL s a (i + 1)
 else [s.extract a s.size]
termination_by s.size - i
theorem cutL_end {s : ByteArray} {a i : Nat} (h : ¬ i < s.size) : cutL s a i = [s.extract a s.size] := by rw [cutL, dif_neg h]
theorem cutL_nl {s : ByteArray} {a i : Nat} (h : i < s.size) (hb : byteN s i = 10) : cutL s a i = s.extract a i :: cutL s (i + 1) (i + 1) := by rw [cutL, dif_pos h, if_pos hb]
theorem cutL_go {s : ByteArray} {a i : Nat} (h : i < s.size) (hb : byteN s i ≠ 10) : cutL s a i = cutL s a (i + 1) := by rw [cutL, dif_pos h, if_neg hb]
theorem ext_ext (s : ByteArray) (a b c d : Nat) : (s.extract a b).extract c d = s.extract (a + c) (min (a + d) b) := by
 apply ByteArray.ext
 simp [ByteArray.data_extract]
theorem ext_get (s : ByteArray) (a j : Nat) (h : a + j < s.size) : (s.extract a s.size).get! j = s.get! (a + j) := by
 rw [← getD_get!', ← getD_get!', ByteArray.data_extract]
 have h1 : a + j < s.data.size := h
 simp [h1]
 rw [List.getElem?_take, if_pos (by omega), List.getElem?_drop]
 simp
theorem nl_at {t : ByteArray} {j : Nat} (h : j < t.size) : ((t.extract j (j + 1)).toList == ([10] : List UInt8)) = decide (t.get! j = 10) := by
 have h1 := stB_one t j 10
 unfold stB at h1
 rw [List.length_singleton, decide_eq_true (show j + 1 ≤ t.size by omega), Bool.true_and] at h1
 rw [h1, decide_eq_decide]
 exact ⟨fun h => h.2, fun h' => ⟨h, h'⟩⟩
theorem nlB : (⟨#[10]⟩ : ByteArray).toList = [10] := by rw [toList_data]
theorem byte10 {s : ByteArray} {i : Nat} : byteN s i = 10 ↔ s.get! i = 10 := by
 unfold byteN
 constructor
 ·intro h; exact UInt8.toNat_inj.1 h
 ·intro h; rw [h]; rfl
theorem linesB_cut (s : ByteArray) : ∀ (k a i : Nat), s.size - i = k → a ≤ i → i ≤ s.size → (∀ j, a ≤ j → j < i → byteN s j ≠ 10) → linesB (s.extract a s.size) = cutL s a i := by
 intro k
 induction k using Nat.strongRecOn with
 | ind k ih =>
  intro a i hk hai his hno
  have hsz : (s.extract a s.size).size = s.size - a := by simp
  have hocc : ∀ j, j < i - a → ((((s.extract a s.size).extract j (j + 1)).toList == ([10] : List UInt8)) = false) := fun j hj => by
   rw [nl_at (by rw [hsz]; omega), ext_get s a j (by omega)]
   exact decide_eq_false (fun h => hno (a + j) (by omega) (by omega) (byte10.2 h))
  have hN : ∀ n, n ≤ i - a → NoOccB (s.extract a s.size) ⟨#[10]⟩ n := by
   intro n
   induction n with
   | zero => intro _ j hj; exact absurd hj (Nat.not_lt_zero _)
   | succ n ihn => intro hn; exact miss_piece _ _ n (ihn (by omega)) (by rw [hsz]; show n + 1 ≤ _; omega) (by rw [nlB]; exact hocc n (by omega))
  by_cases h : i < s.size
  ·by_cases hb : byteN s i = 10
   ·have hidx : indexB (s.extract a s.size) ⟨#[10]⟩ = ((i - a : Nat) : Int) := by
     refine hit _ _ _ (hN _ (Nat.le_refl _)) (by rw [hsz]; show i - a + 1 ≤ _; omega) ?_
     rw [nlB]
     show (((s.extract a s.size).extract (i - a) (i - a + 1)).toList == ([10] : List UInt8)) = true
     rw [nl_at (by rw [hsz]; omega), ext_get s a _ (by omega), show a + (i - a) = i by omega]
     exact decide_eq_true (byte10.1 hb)
    rw [cutL_nl h hb, ← ih (s.size - (i + 1)) (by omega) (i + 1) (i + 1) rfl (Nat.le_refl _) (by omega) (fun j h1 h2 => by omega)]
    unfold linesB
    rw [countB_hit _ _ _ (by decide) hidx, Nat.add_comm 1, splitB_hit _ _ _ _ _ hidx]
    have e1 : (s.extract a s.size).extract 0 (i - a + 0) = s.extract a i := by
     rw [ext_ext]
     congr 1
     omega
    have e2 : (s.extract a s.size).extract (i - a + (⟨#[10]⟩ : ByteArray).size) (s.extract a s.size).size = s.extract (i + 1) s.size := by
     rw [ext_ext, hsz]
     show s.extract (a + (i - a + 1)) (min (a + (s.size - a)) s.size) = _
     congr 1 <;> omega
    rw [e1, e2]
   ·rw [cutL_go h hb]
    exact ih (s.size - (i + 1)) (by omega) a (i + 1) rfl (by omega) (by omega) (fun j h1 h2 => by
     by_cases hj : j = i
     ·subst hj; exact hb
     ·exact hno j h1 (by omega))
  ·have hidx : indexB (s.extract a s.size) ⟨#[10]⟩ = -1 := past _ _ (i - a) (hN _ (Nat.le_refl _)) (by decide) (by rw [hsz]; show _ < i - a + 1; omega)
   rw [cutL_end h]
   unfold linesB
   rw [countB_miss _ _ hidx, splitB_zero]
theorem linesB_eq (s : ByteArray) : linesB s = cutL s 0 0 := by
 have := linesB_cut s _ 0 0 rfl (Nat.le_refl _) (Nat.zero_le _) (fun j h1 h2 => by omega)
 rwa [show s.extract 0 s.size = s by simp] at this
end Go.Proofs.YtieifhfgedoiaaaGreatDoor
/- The document's pieces of a text. Conditions: those of each theorem. -/
namespace Go.Proofs.YtieifhfgedoiaaaGreatDoor
open Go.RowKit Go.Lib
set_option linter.unusedVariables false
set_option linter.unusedSimpArgs false
def posL (s : ByteArray) (p : Nat) : List Nat := if h : p < s.size then p :: posL s (p + wdN s p) else []
termination_by s.size - p
decreasing_by
 have h2 := wdN_pos h
 omega
theorem posL_more {s : ByteArray} {p : Nat} (h : p < s.size) : posL s p = p :: posL s (p + wdN s p) := by rw [posL, dif_pos h]
theorem posL_end {s : ByteArray} {p : Nat} (h : ¬ p < s.size) : posL s p = [] := by rw [posL, dif_neg h]
def pcC (s : ByteArray) (p : Nat) : List Value := [.int .i64 p, .int .i64 (wdN s p), .int .i32 (rnN s p), .bool (isBr s p)]
def pcF (s : ByteArray) (p : Nat) : List Value := [.int .i64 p, .int .i64 (wdN s p), .int .i32 (rnN s p), .bool false]
def pcH (s : ByteArray) (p : Nat) : List Value := [.int .i64 p, .int .i64 0, .int .i32 (rnN s p), .bool false]
theorem info50 : (Tryz.prog.info? 113).map (fun i => (i.zero, i.size, i.bytes)) = some (some (.agg #[.int .i64 0, .int .i64 0, .int .i32 0, .bool false]), 4, 24) := by kernel_rfl
def Half (s : ByteArray) (pos : Nat) (ps : List Nat) (xs : List Value) : Prop :=
 (pos = 0 ∧ ps = [] ∧ xs = []) ∨ ∃ A q, q < s.size ∧ pos = q + wdN s q ∧ ps = A ++ [q] ∧ xs = flatE (pcF s) A ++ pcH s q
theorem mix_set (s : ByteArray) (L : List Nat) (k p : Nat) (h : L[k]? = some p) : (flatE (pcC s) (L.take k) ++ flatE (pcF s) (L.drop k)).set (k * 4 + 3) (.bool (isBr s p)) = flatE (pcC s) (L.take (k + 1)) ++ flatE (pcF s) (L.drop (k + 1)) := by
 obtain ⟨hl, hp⟩ := List.getElem?_eq_some_iff.1 h
 have h1 : (flatE (pcC s) (L.take k)).length = k * 4 := by rw [flatE_len (pcC s) 4 (fun _ => rfl), List.length_take, Nat.min_eq_left (Nat.le_of_lt hl)]
 have h2 : L.drop k = p :: L.drop (k + 1) := by rw [← hp]; exact List.drop_eq_getElem_cons hl
 have h3 : L.take (k + 1) = L.take k ++ [p] := by rw [List.take_add_one, h]; rfl
 rw [h2, h3, flatE_snoc, List.set_append_right _ _ (by omega), h1, show k * 4 + 3 - k * 4 = 3 by omega, List.append_assoc]
 rfl
theorem mix_get (s : ByteArray) (L : List Nat) (k p i : Nat) (u : Value) (h : L[k]? = some p) (hu : (pcF s p)[i]? = some u) : (flatE (pcC s) (L.take k) ++ flatE (pcF s) (L.drop k))[k * 4 + i]? = some u := by
 obtain ⟨hl, hp⟩ := List.getElem?_eq_some_iff.1 h
 have h1 : (flatE (pcC s) (L.take k)).length = k * 4 := by rw [flatE_len (pcC s) 4 (fun _ => rfl), List.length_take, Nat.min_eq_left (Nat.le_of_lt hl)]
 have h2 : L.drop k = p :: L.drop (k + 1) := by rw [← hp]; exact List.drop_eq_getElem_cons hl
 rw [List.getElem?_append_right (by omega), h1, Nat.add_sub_cancel_left, h2]
 have := flatE_get (pcF s) 4 (fun _ => rfl) (p :: L.drop (k + 1)) 0 p rfl i u hu
 rw [Nat.zero_mul, Nat.zero_add] at this
 exact this
structure PcP (w wr : World) (s : ByteArray) (pos : Nat) (ps : List Nat) (xs : List Value) (v : Value) : Prop where
 it : wr.heap[w.heap.size]? = some (.stringIter s pos)
 o : wr.ownsRow (w.heap.size + 1) 113 4 v ps.length xs
 bel : Below w.heap.size w wr
set_option maxRecDepth 100000 in
set_option maxHeartbeats 4000000 in
theorem pieces_own (s : ByteArray) (w : World) (hs : s.size ≤ 100000000) :
  Calls Tryz.prog 26 #[.string s] w fun e w' => ∃ v, e = .returned v ∧ w'.ownsRow (w.heap.size + 1) 113 4 v (posL s 0).length (flatE (pcC s) (posL s 0)) ∧ Below w.heap.size w w' := by
 obtain ⟨i0, hi, hz0, hz1, hz2⟩ := info_parts info50
 go_enter Tryz.func26, Tryz.ntmps26
 go_wp2_with fail
 go_loopw [3] (fun v wr => ∃ (pos : Nat) (ps : List Nat) (xs : List Value), Hid (PcP w wr s pos ps xs v) ∧ Hid (Half s pos ps xs) ∧ Hid (posL s 0 = ps ++ posL s pos) ∧ pos ≤ s.size ∧ ps.length ≤ pos) (fun _ wr => s.size - wr.iterPos w.heap.size)
 case atStart => exact ⟨0, [], [], ⟨heap_alloc_new w _, World.ownsRow_nil _ _ _ _, (Below.refl _ w).alloc (Nat.le_refl _) _⟩, .inl ⟨rfl, rfl, rfl⟩, rfl, Nat.zero_le _, Nat.le_refl _⟩
 case round =>
  obtain ⟨pos, ps, xs, hP, hH, hL, hps, hln⟩ := hrel
  have hpos0 := hid (iterPos_of hP.out.it)
  have hIlt : w.heap.size < wr.heap.size := at_lt hP.out.it
  by_cases hp : pos < s.size
  ·have hnx : ∀ ty, (Instr.next (.pointer (some ⟨w.heap.size, 0, none⟩)) true ty).run Tryz.prog wr = _ := fun ty => Lib.run_next_any_at wr w.heap.size s pos ty hP.out.it hp
   have ho2 := hid (own_iter hP.out.o (Nat.lt_succ_self _) s (pos + wdN s pos))
   have hb1 := hid (Lib.below_iterAt hP.out.bel (k := w.heap.size) (Nat.le_refl _) s (pos + wdN s pos))
   have hit1 := hid (Lib.iterAt_heap wr w.heap.size s pos (pos + wdN s pos) hP.out.it)
   have hwd := wdN_pos hp
   change ∀ ty, (Instr.next (.pointer (some ⟨w.heap.size, 0, none⟩)) true ty).run Tryz.prog wr = .ok (.tuple #[.bool true, .int .i64 pos, .int .i32 (rnN s pos)]) (wr.iterAt w.heap.size s (pos + wdN s pos)) at hnx
   have hL2 : Hid (posL s 0 = (ps ++ [pos]) ++ posL s (pos + wdN s pos)) := by rw [hL.out, posL_more hp, List.append_assoc]; exact hid rfl
   have hpl : posL s 0 = posL s 0 := rfl
   obtain ⟨W1, hW1⟩ : ∃ W1, wr.iterAt w.heap.size s (pos + wdN s pos) = W1 := ⟨_, rfl⟩
   rw [hW1] at hnx ho2 hb1 hit1
   clear hW1 hP hL hpl
   have hI1 : w.heap.size < W1.heap.size := at_lt hit1.out
   have hmeas : Hid (1 ≤ wdN s pos ∧ pos < s.size) := ⟨hwd.1, hp⟩
   have hle : pos + wdN s pos ≤ s.size := hwd.2.2
   have hfin : Hid (∀ (W : World) (v : Value) (n : Nat) (ys : List Value) (o : Obj) (w5 : World) (v' : Value), W.heap[w.heap.size]? = some (.stringIter s (pos + wdN s pos)) → Below w.heap.size w W → W.ownsRow (w.heap.size + 1) 113 4 v n ys → (W.alloc o).grownBy w5 v.ownBlock →
     w5.heap[w.heap.size]? = some (.stringIter s (pos + wdN s pos)) ∧ Below w.heap.size w w5) := by
    intro W v n ys o w5 v' hit hb hv hg
    have hlt := at_lt hit
    exact ⟨(hg.block _ (by simp; omega) (fun e => by have := (own_ge hv e.symm).1; omega)).trans ((Below.heap_alloc _ _ _ hlt).trans hit), (hb.alloc (by omega) o).grown hg (by simp; omega) (fun k hk => by have := (own_ge hv hk).1; omega)⟩
   rcases hH.out with ⟨rfl, rfl, rfl⟩ | ⟨A, q, hq, hpq, rfl, rfl⟩
   ·obtain ⟨g0, cap0, rfl⟩ := own_shape ho2.out
    go_wp2_with (at_builtin; refine wpList_append_own _ rfl (.tmp 31) (.tmp 35) 72 rfl (w.heap.size + 1) 113 i0 _ 4 24 Tryz.underlying72 hi hz0 hz1 hz2 rfl (by decide) _ _ _ rfl (ho2.out.alloc _) ⟨W1.heap.size, 0, none⟩ 1 1 [.int .i64 0, .int .i64 0, .int .i32 (rnN s 0), .bool false] rfl rfl (cells_new4 _ _ _ _ _ _) (by simp [Value.oneCell']) (by unfold maxLen; simp) (by simp) (by simp; omega) ?_; refine stop_here ?_)
    refine hid ?_
    intro v' w5 hown' hgrow hnil
    have hF := hid (hfin.out W1 _ _ _ _ w5 v' hit1.out hb1.out ho2.out hgrow)
    have hO5 := hid hown'
    clear hown' hgrow hnil hnx hfin
    go_wp2_with fail
    go_roundw
    case rel => exact ⟨0 + wdN s 0, [0], pcH s 0, ⟨hF.out.1, hO5.out, hF.out.2⟩, .inr ⟨[], 0, hmeas.out.2, rfl, rfl, rfl⟩, hL2, hle, by have := hmeas.out.1; simp; omega⟩
    case measure =>
     have h1 := iterPos_of hF.out.1
     have h2 := hpos0.out
     have h3 := hmeas.out
     omega
   ·have hq2 := hid hpq
    have hqp : q ≤ pos := by omega
    obtain ⟨m, hm⟩ : ∃ m, A.length = m := ⟨_, rfl⟩
    have hpl : (A ++ [q]).length = m + 1 := by rw [List.length_append, hm]; rfl
    rw [hpl] at ho2 hln
    obtain ⟨g, cap, hv⟩ := own_block ho2.out
    subst hv
    have hA4 : (flatE (pcF s) A).length = m * 4 := by rw [flatE_len (pcF s) 4 (fun _ => rfl), hm]
    have x0 : (flatE (pcF s) A ++ pcH s q)[m * 4]? = some (.int .i64 q) := by rw [List.getElem?_append_right (by omega), hA4, Nat.sub_self]; rfl
    have x1 : (flatE (pcF s) A ++ pcH s q)[m * 4 + 1]? = some (.int .i64 0) := by rw [List.getElem?_append_right (by omega), hA4, show m * 4 + 1 - m * 4 = 1 by omega]; rfl
    have y0 := own_cell ho2.out x0
    have y1 := own_cell ho2.out x1
    have yf := ho2.out.frozenAt (m * 4 + 1)
    have hgl := (own_ge ho2.out (g := g) rfl).2
    have hgb := (own_ge ho2.out (g := g) rfl).1
    have hsto := hid (ho2.out.stored (m * 4 + 1) (.int .i64 (wdN s q))).1
    have hset : (flatE (pcF s) A ++ pcH s q).set (m * 4 + 1) (.int .i64 (wdN s q)) = flatE (pcF s) (A ++ [q]) := by
     rw [flatE_snoc, List.set_append_right _ _ (by omega), hA4, show m * 4 + 1 - m * 4 = 1 by omega]; rfl
    rw [hset] at hsto
    have hsub : ((pos : Int) - q) = wdN s q := by omega
    have t1 : IntKind.i64.wrap (m : Int) = m := Wi64 (by omega)
    have t2 : (0 : Int) ≤ m := by omega
    have t3 : ((m : Nat) : Int) < (m : Int) + 1 := by omega
    have t4 : ((m : Nat) : Int).toNat = m := by omega
    have HM := hid hm
    have HPL := hid hpl
    clear hH x0 x1 hset hA4 hpq hm hpl
    go_wp2_with (at_builtin; refine stop_here ?_)
    have hown2 := hsto.out
    have hit2 : (W1.setCell ⟨g, m * 4 + 1, none⟩ (.int .i64 (wdN s q))).heap[w.heap.size]? = some (.stringIter s (pos + wdN s pos)) := (set_oth (by omega)).trans hit1.out
    have hbe2 : Below w.heap.size w (W1.setCell ⟨g, m * 4 + 1, none⟩ (.int .i64 (wdN s q))) := below_set hb1.out (by omega) _ _
    have hsz2 : (W1.setCell ⟨g, m * 4 + 1, none⟩ (.int .i64 (wdN s q))).heap.size = W1.heap.size := size_set _ _ _ _
    generalize W1.setCell ⟨g, m * 4 + 1, none⟩ (.int .i64 (wdN s q)) = W2 at *
    refine wpList_append_own _ rfl (.tmp 31) (.tmp 35) 72 rfl (w.heap.size + 1) 113 i0 _ 4 24 Tryz.underlying72 hi hz0 hz1 hz2 rfl (by decide) _ _ _ rfl (hown2.alloc _) ⟨W2.heap.size, 0, none⟩ 1 1 [.int .i64 pos, .int .i64 0, .int .i32 (rnN s pos), .bool false] (by rw [hsz2]; rfl) rfl (cells_new4 _ _ _ _ _ _) (by simp [Value.oneCell']) (by unfold maxLen; omega) (by omega) (by simp <;> omega) ?_
    intro v' w5 hown' hgrow hnil
    have hF := hid (hfin.out W2 _ _ _ _ w5 v' hit2 hbe2 hown2 hgrow)
    have hO5 := hid hown'
    clear hown' hgrow hnil hnx hfin hown2 hit2 hbe2 y0 y1 yf hsto
    go_wp2_with fail
    go_roundw
    case rel => exact ⟨pos + wdN s pos, (A ++ [q]) ++ [pos], flatE (pcF s) (A ++ [q]) ++ pcH s pos, ⟨hF.out.1, by rw [List.length_append, HPL.out]; exact hO5.out, hF.out.2⟩, .inr ⟨A ++ [q], pos, hmeas.out.2, rfl, rfl, rfl⟩, hL2, hle, by have := hmeas.out.1; rw [List.length_append, HPL.out]; simp; omega⟩
    case measure =>
     have h1 := iterPos_of hF.out.1
     have h2 := hpos0.out
     have h3 := hmeas.out
     omega
  ·obtain rfl : pos = s.size := by omega
   have hnx : ∀ ty, (Instr.next (.pointer (some ⟨w.heap.size, 0, none⟩)) true ty).run Tryz.prog wr = _ := fun ty => Lib.run_next_end_at wr w.heap.size s s.size ty hP.out.it hp
   have hLs : Hid (posL s 0 = ps) := by rw [hL.out, posL_end hp, List.append_nil]; exact hid rfl
   have hO := hid hP.out.o
   have hB := hid hP.out.bel
   clear hP hL hpos0
   rcases hH.out with ⟨hz, rfl, rfl⟩ | ⟨A, q, hq, hpq, rfl, rfl⟩
   ·obtain ⟨g0, cap0, rfl⟩ := own_shape hO.out
    have hO' := hid hO.out
    clear hH
    go_wp2_with fail
    refine wp_loop_rounds 1 ?_
    rw [rounds_succ]
    go_wp2_with fail
    try rw [Exit.noGoto_ret]
    go_ret
    exact ⟨_, rfl, by rw [hLs.out]; exact hO'.out, hB.out⟩
   ·obtain ⟨m, hm⟩ : ∃ m, A.length = m := ⟨_, rfl⟩
    have hpl : (A ++ [q]).length = m + 1 := by rw [List.length_append, hm]; rfl
    rw [hpl] at hO hln
    obtain ⟨g, cap, hv⟩ := own_block hO.out
    subst hv
    have hqp : q ≤ s.size := by omega
    have hA4 : (flatE (pcF s) A).length = m * 4 := by rw [flatE_len (pcF s) 4 (fun _ => rfl), hm]
    have x0 : (flatE (pcF s) A ++ pcH s q)[m * 4]? = some (.int .i64 q) := by rw [List.getElem?_append_right (by omega), hA4, Nat.sub_self]; rfl
    have x1 : (flatE (pcF s) A ++ pcH s q)[m * 4 + 1]? = some (.int .i64 0) := by rw [List.getElem?_append_right (by omega), hA4, show m * 4 + 1 - m * 4 = 1 by omega]; rfl
    have y0 := own_cell hO.out x0
    have y1 := own_cell hO.out x1
    have yf := hO.out.frozenAt (m * 4 + 1)
    have hgb := (own_ge hO.out (g := g) rfl).1
    have hsto := hid (hO.out.stored (m * 4 + 1) (.int .i64 (wdN s q))).1
    have hset : (flatE (pcF s) A ++ pcH s q).set (m * 4 + 1) (.int .i64 (wdN s q)) = flatE (pcF s) (A ++ [q]) := by
     rw [flatE_snoc, List.set_append_right _ _ (by omega), hA4, show m * 4 + 1 - m * 4 = 1 by omega]; rfl
    rw [hset] at hsto
    have hbe2 := hid (below_set hB.out (b := g) (by omega) (m * 4 + 1) (.int .i64 (wdN s q)))
    have hsub : ((s.size : Int) - q) = wdN s q := by omega
    have t1 : IntKind.i64.wrap (m : Int) = m := Wi64 (by omega)
    have t2 : (0 : Int) ≤ m := by omega
    have t3 : ((m : Nat) : Int) < (m : Int) + 1 := by omega
    have t4 : ((m : Nat) : Int).toNat = m := by omega
    obtain ⟨L, hL⟩ : ∃ L, A ++ [q] = L := ⟨_, rfl⟩
    rw [hL] at hsto hLs hpl
    have HPL := hid hpl
    have hgbH := hid hgb
    clear hH x0 x1 hset hA4 hpq hm hO hL hpl hgb
    go_wp2_with fail
    clear y0 y1 yf t1 t2 t3 t4 hsub
    generalize wr.setCell ⟨g, m * 4 + 1, none⟩ (.int .i64 (wdN s q)) = W2 at *
    go_loopw [6] (fun i wz => ∃ k : Nat, k ≤ m + 1 ∧ i = .int .i64 k ∧ Hid (wz.ownsRow (w.heap.size + 1) 113 4 (.slice (some ⟨g, 0, none⟩) (m + 1) cap) (m + 1) (flatE (pcC s) (L.take k) ++ flatE (pcF s) (L.drop k))) ∧ Hid (Below w.heap.size w wz)) (fun i _ => m + 1 - (RowKit.intOf i).toNat)
    case atStart => exact ⟨0, Nat.zero_le _, rfl, by rw [List.take_zero, List.drop_zero]; exact hsto, hbe2⟩
    case round =>
     obtain ⟨k, hk, rfl, hO, hB2⟩ := hrel
     clear hsto hbe2
     by_cases hlt : k < m + 1
     ·obtain ⟨p, hp9⟩ : ∃ p, L[k]? = some p := ⟨_, List.getElem?_eq_getElem (by rw [HPL.out]; exact hlt)⟩
      have y1 := own_cell hO.out (mix_get s L k p 1 _ hp9 rfl)
      have y2 := own_cell hO.out (mix_get s L k p 2 _ hp9 rfl)
      have y3 := own_cell hO.out (mix_get s L k p 3 _ hp9 rfl)
      have yf := hO.out.frozenAt (k * 4 + 3)
      have q1 := dT (show (k : Int) < (m : Int) + 1 by omega)
      have q2 : decide (k < m + 1) = true := decide_eq_true hlt
      have hw1 : IntKind.i64.wrap ((k : Int) + 1) = (k : Int) + 1 := Wi64 (by omega)
      have hsto := hid (hO.out.stored (k * 4 + 3) (.bool (isBr s p))).1
      rw [mix_set s L k p hp9] at hsto
      have hbe := hid (fun u => below_set hB2.out (b := g) (by have := hgbH.out; omega) (k * 4 + 3) u)
      obtain ⟨b, hb⟩ : ∃ b, isBr s p = b := ⟨_, rfl⟩
      rw [hb] at hsto
      have hB0 := hid hb
      clear hp9 hb
      by_cases hr : rnN s p = 65533
      ·have t1 : ((rnN s p : Int) == 65533) = true := beq_true_of (by omega)
       by_cases hw : wdN s p = 1
       ·have t2 : ((wdN s p : Int) == 1) = true := beq_true_of (by omega)
        obtain rfl : b = true := hB0.out.symm.trans (decide_eq_true ⟨hr, hw⟩)
        clear hr hw
        go_wp2_with fail
        go_roundw
        case rel => exact ⟨k + 1, by omega, by go_num, hsto, hbe.out _⟩
        case measure => simp [RowKit.intOf]; omega
       ·have t2 : ((wdN s p : Int) == 1) = false := beq_false_of (by omega)
        obtain rfl : b = false := hB0.out.symm.trans (decide_eq_false (fun h => hw h.2))
        clear hr hw
        go_wp2_with fail
        go_roundw
        case rel => exact ⟨k + 1, by omega, by go_num, hsto, hbe.out _⟩
        case measure => simp [RowKit.intOf]; omega
      ·have t1 : ((rnN s p : Int) == 65533) = false := beq_false_of (by omega)
       obtain rfl : b = false := hB0.out.symm.trans (decide_eq_false (fun h => hr h.1))
       clear hr
       go_wp2_with fail
       go_roundw
       case rel => exact ⟨k + 1, by omega, by go_num, hsto, hbe.out _⟩
       case measure => simp [RowKit.intOf]; omega
     ·obtain rfl : k = m + 1 := by omega
      have q1 := dF (show ¬ ((((m + 1 : Nat)) : Int) < (m : Int) + 1) by omega)
      have hO2 : Hid (wr.ownsRow (w.heap.size + 1) 113 4 (.slice (some ⟨g, 0, none⟩) (m + 1) cap) (posL s 0).length (flatE (pcC s) (posL s 0))) := by
       have := hO.out
       rw [List.take_of_length_le (by rw [HPL.out]; exact Nat.le_refl _), List.drop_eq_nil_of_le (by rw [HPL.out]; exact Nat.le_refl _)] at this
       rw [hLs.out, HPL.out]
       rw [show flatE (pcF s) ([] : List Nat) = [] from rfl, List.append_nil] at this
       exact hid this
      go_wp2_with fail
      try rw [Exit.noGoto_ret]
      go_ret
      exact ⟨_, rfl, hO2.out, hB2.out⟩
end Go.Proofs.YtieifhfgedoiaaaGreatDoor
/- A line of rules in the document's hand: its place, its bytes. Conditions: those of each theorem. -/
namespace Go.Proofs.YtieifhfgedoiaaaGreatDoor
open Go.RowKit Go.Lib
set_option linter.unusedVariables false
set_option linter.unusedSimpArgs false
attribute [local go_sem] ExtS.cell ExtS.froz upE_value upE_skip upE_enter
def AtK (s : ByteArray) (k p : Nat) : Prop := ∃ pre : List Nat, pre.length = k ∧ posL s 0 = pre ++ posL s p ∧ p ≤ s.size
theorem AtK.start (s : ByteArray) : AtK s 0 0 := ⟨[], rfl, rfl, Nat.zero_le _⟩
theorem AtK.next {s : ByteArray} {k p : Nat} (h : AtK s k p) (hp : p < s.size) : AtK s (k + 1) (p + wdN s p) := by
 obtain ⟨pre, h1, h2, _⟩ := h
 have hw := wdN_pos hp
 exact ⟨pre ++ [p], by rw [List.length_append, h1]; rfl, by rw [h2, posL_more hp, List.append_assoc]; rfl, hw.2.2⟩
theorem AtK.get {s : ByteArray} {k p : Nat} (h : AtK s k p) (hp : p < s.size) : (posL s 0)[k]? = some p := by
 obtain ⟨pre, h1, h2, _⟩ := h
 rw [h2, posL_more hp, ← h1]
 simp
theorem AtK.lt {s : ByteArray} {k p : Nat} (h : AtK s k p) (hp : p < s.size) : k < (posL s 0).length := (List.getElem?_eq_some_iff.1 (h.get hp)).1
theorem AtK.ge {s : ByteArray} {k p : Nat} (h : AtK s k p) (hp : ¬ p < s.size) : k = (posL s 0).length ∧ p = s.size := by
 obtain ⟨pre, h1, h2, h3⟩ := h
 rw [h2, posL_end hp, List.append_nil]
 exact ⟨h1.symm, by omega⟩
theorem posL_len (s : ByteArray) : ∀ (k p : Nat), s.size - p = k → (posL s p).length ≤ s.size - p := by
 intro k
 induction k using Nat.strongRecOn with
 | ind k ih =>
  intro p hk
  by_cases hp : p < s.size
  ·have hw := wdN_pos hp
   rw [posL_more hp, List.length_cons]
   have := ih (s.size - (p + wdN s p)) (by omega) (p + wdN s p) rfl
   omega
  ·rw [posL_end hp]; exact Nat.zero_le _
structure Ln (w : World) (R : Nat) (s : ByteArray) (lv : Value) (k : Nat) (e q : Int) (A : Value) : Prop where
 b : Blk w R 76 #[.string s, lv, .int .i64 k, .int .i64 e, .int .i64 q, A]
 o : ∃ base, w.ownsRow base 113 4 lv (posL s 0).length (flatE (pcC s) (posL s 0))
section
variable {w w' : World} {R k : Nat} {s : ByteArray} {lv A : Value} {e q : Int}
theorem Ln.low (h : Ln w R s lv k e q A) (hb : Below w.heap.size w w') : Ln w' R s lv k e q A := by
 obtain ⟨b, base, o⟩ := h
 exact ⟨b.low hb, base, own_low o hb⟩
theorem Ln.but {S : List Nat} (h : Ln w R s lv k e q A) (hb : ButS S w w') (hR : R ∉ S) (hS : ∀ B ∈ S, ∃ t a, t ≠ 113 ∧ Blk w B t a) : Ln w' R s lv k e q A := by
 obtain ⟨b, base, o⟩ := h
 exact ⟨hb.blk b hR, base, own_butT o hb hS⟩
theorem Ln.own (h : Ln w R s lv k e q A) (i : Nat) (u : Value) : ∃ base, (w.setCell ⟨R, i, none⟩ u).ownsRow base 113 4 lv (posL s 0).length (flatE (pcC s) (posL s 0)) := by
 obtain ⟨b, base, o⟩ := h
 exact ⟨base, own_butT o ((ButS.refl [R] w).set (List.mem_singleton.2 rfl) i u) (fun B hB => by rw [List.mem_singleton] at hB; subst hB; exact ⟨76, _, by decide, b⟩)⟩
theorem Ln.go (h : Ln w R s lv k e q A) (k' : Nat) : Ln (w.setCell ⟨R, 2, none⟩ (.int .i64 k')) R s lv k' e q A := ⟨h.b.set 2 _, h.own _ _⟩
theorem Ln.bad (h : Ln w R s lv k e q A) (e' q' : Int) : Ln ((w.setCell ⟨R, 3, none⟩ (.int .i64 e')).setCell ⟨R, 4, none⟩ (.int .i64 q')) R s lv k e' q' A := by
 have h1 : Ln (w.setCell ⟨R, 3, none⟩ (.int .i64 e')) R s lv k e' q A := ⟨h.b.set 3 _, h.own _ _⟩
 exact ⟨h1.b.set 4 _, h1.own _ _⟩
theorem Ln.c6 (h : Ln w R s lv k e q A) : w.cell? ⟨R, 0, none⟩ = some (.string s) ∧ w.cell? ⟨R, 1, none⟩ = some lv ∧ w.cell? ⟨R, 2, none⟩ = some (.int .i64 k) ∧ w.cell? ⟨R, 3, none⟩ = some (.int .i64 e) ∧ w.cell? ⟨R, 4, none⟩ = some (.int .i64 q) ∧ w.cell? ⟨R, 5, none⟩ = some A ∧ ∀ k, w.frozen? ⟨R, k, none⟩ = false :=
 ⟨h.b.cell (k := 0) rfl, h.b.cell (k := 1) rfl, h.b.cell (k := 2) rfl, h.b.cell (k := 3) rfl, h.b.cell (k := 4) rfl, h.b.cell (k := 5) rfl, h.b.froz⟩
end
theorem Ln.shape {w : World} {R k : Nat} {s : ByteArray} {lv A : Value} {e q : Int} (h : Ln w R s lv k e q A) : ∃ pv cap, lv = .slice pv (posL s 0).length cap := by
 obtain ⟨b, base, o⟩ := h
 exact own_shape o
theorem Ln.shape1 {w : World} {R k p : Nat} {s : ByteArray} {lv A : Value} {e q : Int} (h : Ln w R s lv k e q A) (hk : AtK s k p) (hp : p < s.size) : ∃ m g cap, (posL s 0).length = m + 1 ∧ lv = .slice (some ⟨g, 0, none⟩) (m + 1) cap ∧ k < m + 1 := by
 obtain ⟨b, base, o⟩ := h
 have hkn := hk.lt hp
 obtain ⟨m, hm⟩ : ∃ m, (posL s 0).length = m + 1 := ⟨(posL s 0).length - 1, by omega⟩
 rw [hm] at o hkn
 obtain ⟨g, cap, e⟩ := own_block o
 exact ⟨m, g, cap, hm, e, hkn⟩
theorem Ln.piece {w : World} {R k p g n cap : Nat} {s : ByteArray} {A : Value} {e q : Int} (h : Ln w R s (.slice (some ⟨g, 0, none⟩) n cap) k e q A) (hk : AtK s k p) (hp : p < s.size) (hn : (posL s 0).length = n) :
  w.cell? ⟨g, k * 4, none⟩ = some (.int .i64 p) ∧ w.cell? ⟨g, k * 4 + 1, none⟩ = some (.int .i64 (wdN s p)) ∧ w.cell? ⟨g, k * 4 + 2, none⟩ = some (.int .i32 (rnN s p)) ∧ w.cell? ⟨g, k * 4 + 3, none⟩ = some (.bool (isBr s p)) := by
 obtain ⟨b, base, o⟩ := h
 rw [hn] at o
 have hg := fun i u hu => own_cell (j := k * 4 + i) o (flatE_get (pcC s) 4 (fun _ => rfl) (posL s 0) k p (hk.get hp) i u hu)
 exact ⟨hg 0 _ rfl, hg 1 _ rfl, hg 2 _ rfl, hg 3 _ rfl⟩
set_option maxHeartbeats 2000000 in
theorem place_any {w : World} {R k p : Nat} {s : ByteArray} {lv A : Value} {e q : Int} (h : Ln w R s lv k e q A) (hk : AtK s k p) :
  Calls Tryz.prog 46 #[.pointer (some ⟨R, 0, none⟩)] w fun x w' => x = .returned (.int .i64 p) ∧ Below w.heap.size w w' := by
 have hL := hid h
 have hKK := hid hk
 by_cases hp : p < s.size
 ·obtain ⟨m, g, cap, hn, rfl, hkn⟩ := h.shape1 hk hp
  obtain ⟨y0, y1, y2, y3⟩ := h.piece hk hp hn
  obtain ⟨c0, c1, c2, c3, c4, c5, cf⟩ := h.c6
  have q1 := dT (show (k : Int) < (m : Int) + 1 by omega)
  have q2 : decide (k < m + 1) = true := decide_eq_true hkn
  have q5 : (k : Int) < (m : Int) + 1 := by omega
  have q6 : (k : Int) ≤ (m : Int) := by omega
  have q7 : k ≤ m := by omega
  have hN := hid hn
  clear hn h hk
  go_enter Tryz.func46, Tryz.ntmps46
  go_wp2_with fail
  refine region_plan [] (.quiet 0 (.quiet 1 (.quiet 2 (.quiet 3 (.quiet 4 (.quiet 5 (.quiet 6 (.quiet 7 (.quiet 8 (.quiet 9 .done)))))))))) (by kernel_rfl) (by kernel_rfl) ?_
  repeat (apply p_quiet; (case hi => rfl); intro K hK; go_simp; (refine ⟨hK _ ?_⟩; clear hK K))
  apply p_done
  intro W10 hb10
  replace hL := hid (hL.out.low hb10)
  clear y0 y1 y2 y3 c0 c1 c2 c3 c4 c5 cf
  obtain ⟨y0, y1, y2, y3⟩ := hL.out.piece hKK.out hp hN.out
  obtain ⟨c0, c1, c2, c3, c4, c5, cf⟩ := hL.out.c6
  go_wp2_with fail
  refine region_plan [] (.quiet 0 (.quiet 1 (.quiet 2 (.quiet 3 (.quiet 4 (.quiet 5 (.quiet 6 (.quiet 7 (.quiet 8 (.quiet 9 (.quiet 10 (.quiet 11 .done)))))))))))) (by kernel_rfl) (by kernel_rfl) ?_
  repeat (apply p_quiet; (case hi => rfl); intro K hK; go_simp; (refine ⟨hK _ ?_⟩; clear hK K))
  apply p_done
  intro W12 hb12
  go_wp2_with fail
  go_ret
  exact ⟨rfl, bnext hb10 hb12⟩
 ·obtain ⟨e1, e2⟩ := hk.ge hp
  obtain ⟨pv, cap, rfl⟩ := h.shape
  obtain ⟨n, hn⟩ : ∃ n, (posL s 0).length = n := ⟨_, rfl⟩
  rw [hn] at hL h e1
  obtain ⟨c0, c1, c2, c3, c4, c5, cf⟩ := h.c6
  subst e1
  have q1 : decide ((k : Int) < k) = false := by simp
  have q2 : decide (k < k) = false := by simp
  obtain rfl : p = s.size := e2
  clear hn h hk hp hKK
  go_enter Tryz.func46, Tryz.ntmps46
  go_wp2_with fail
  refine region_plan [] (.quiet 0 (.quiet 1 (.quiet 2 (.quiet 3 (.quiet 4 (.quiet 5 (.quiet 6 (.quiet 7 (.quiet 8 (.quiet 9 .done)))))))))) (by kernel_rfl) (by kernel_rfl) ?_
  repeat (apply p_quiet; (case hi => rfl); intro K hK; go_simp; (refine ⟨hK _ ?_⟩; clear hK K))
  apply p_done
  intro W10 hb10
  replace hL := hid (hL.out.low hb10)
  clear c0 c1 c2 c3 c4 c5 cf
  obtain ⟨c0, c1, c2, c3, c4, c5, cf⟩ := hL.out.c6
  go_wp2_with fail
  go_ret
  exact ⟨rfl, hb10⟩
set_option maxHeartbeats 4000000 in
theorem lis_bad {w : World} {R k : Nat} {s : ByteArray} {lv A : Value} {e q : Int} (h : Ln w R s lv k e q A) (he : e ≠ 0) (c : Nat) :
  Calls Tryz.prog 44 #[.pointer (some ⟨R, 0, none⟩), .int .u8 c] w fun x w' => x = .returned (.bool false) ∧ Below w.heap.size w w' := by
 obtain ⟨pv, cap, rfl⟩ := h.shape
 obtain ⟨c0, c1, c2, c3, c4, c5, cf⟩ := h.c6
 have q1 : (e == 0) = false := beq_false_of he
 clear h he
 go_enter Tryz.func44, Tryz.ntmps44
 go_wp2_with fail
 refine region_plan [] (.quiet 0 (.quiet 1 (.quiet 2 (.quiet 3 (.quiet 4 (.quiet 5 (.quiet 6 (.quiet 7 (.quiet 8 (.quiet 9 (.quiet 10 (.quiet 11 (.quiet 12 (.quiet 13 (.quiet 14 (.quiet 15 (.quiet 16 (.quiet 17 (.quiet 18 (.quiet 19 (.quiet 20 (.quiet 21 (.quiet 22 (.quiet 23 (.quiet 24 (.quiet 25 (.quiet 26 (.quiet 27 (.quiet 28 (.quiet 29 (.quiet 30 (.quiet 31 (.quiet 32 (.quiet 33 (.quiet 34 (.quiet 35 (.quiet 36 (.quiet 37 .done)))))))))))))))))))))))))))))))))))))) (by kernel_rfl) (by kernel_rfl) ?_
 repeat (apply p_quiet; (case hi => rfl); intro K hK; go_simp; (refine ⟨hK _ ?_⟩; clear hK K))
 apply p_done
 intro W38 hb38
 go_wp2_with fail
 go_ret
 exact ⟨rfl, hb38⟩
set_option maxHeartbeats 4000000 in
theorem lis_any {w : World} {R k p : Nat} {s : ByteArray} {lv A : Value} {q : Int} (h : Ln w R s lv k 0 q A) (hk : AtK s k p) (c : Nat) :
  Calls Tryz.prog 44 #[.pointer (some ⟨R, 0, none⟩), .int .u8 c] w fun x w' => x = .returned (.bool (isB s p c)) ∧ Below w.heap.size w w' := by
 by_cases hp : p < s.size
 ·obtain ⟨m, g, cap, hn, rfl, hkn⟩ := h.shape1 hk hp
  obtain ⟨y0, y1, y2, y3⟩ := h.piece hk hp hn
  obtain ⟨c0, c1, c2, c3, c4, c5, cf⟩ := h.c6
  have q1 := dT (show (k : Int) < (m : Int) + 1 by omega)
  have q2 : decide (k < m + 1) = true := decide_eq_true hkn
  have q5 : (k : Int) < (m : Int) + 1 := by omega
  have q6 : (k : Int) ≤ (m : Int) := by omega
  have q7 : k ≤ m := by omega
  have q3 := dT (show (p : Int) < s.size by omega)
  have hv := hid (is_byte s p c hp)
  rw [← hv.out]
  clear hn h hk
  go_enter Tryz.func44, Tryz.ntmps44
  go_wp2_with fail
  refine region_plan [] (.quiet 0 (.quiet 1 (.quiet 2 (.quiet 3 (.quiet 4 (.quiet 5 (.quiet 6 (.quiet 7 (.quiet 8 (.quiet 9 (.quiet 10 (.quiet 11 (.quiet 12 (.quiet 13 (.quiet 14 (.quiet 15 (.quiet 16 (.quiet 17 (.quiet 18 (.quiet 19 (.quiet 20 (.quiet 21 (.quiet 22 (.quiet 23 (.quiet 24 (.quiet 25 (.quiet 26 (.quiet 27 (.quiet 28 (.quiet 29 (.quiet 30 (.quiet 31 (.quiet 32 (.quiet 33 (.quiet 34 (.quiet 35 (.quiet 36 (.quiet 37 .done)))))))))))))))))))))))))))))))))))))) (by kernel_rfl) (by kernel_rfl) ?_
  repeat (apply p_quiet; (case hi => rfl); intro K hK; go_simp; (refine ⟨hK _ ?_⟩; clear hK K))
  apply p_done
  intro W38 hb38
  go_wp2_with fail
  go_ret
  exact ⟨rfl, hb38⟩
 ·obtain ⟨e1, e2⟩ := hk.ge hp
  obtain ⟨pv, cap, rfl⟩ := h.shape
  obtain ⟨n, hn⟩ : ∃ n, (posL s 0).length = n := ⟨_, rfl⟩
  rw [hn] at h e1
  obtain ⟨c0, c1, c2, c3, c4, c5, cf⟩ := h.c6
  subst e1
  have q1 : decide ((k : Int) < k) = false := by simp
  have q2 : decide (k < k) = false := by simp
  have hv : isB s p c = false := decide_eq_false (fun h => hp h.1)
  rw [hv]
  clear hn h hk hv
  go_enter Tryz.func44, Tryz.ntmps44
  go_wp2_with fail
  refine region_plan [] (.quiet 0 (.quiet 1 (.quiet 2 (.quiet 3 (.quiet 4 (.quiet 5 (.quiet 6 (.quiet 7 (.quiet 8 (.quiet 9 (.quiet 10 (.quiet 11 (.quiet 12 (.quiet 13 (.quiet 14 (.quiet 15 (.quiet 16 (.quiet 17 (.quiet 18 (.quiet 19 (.quiet 20 (.quiet 21 (.quiet 22 (.quiet 23 (.quiet 24 (.quiet 25 (.quiet 26 (.quiet 27 (.quiet 28 (.quiet 29 (.quiet 30 (.quiet 31 (.quiet 32 (.quiet 33 (.quiet 34 (.quiet 35 (.quiet 36 (.quiet 37 .done)))))))))))))))))))))))))))))))))))))) (by kernel_rfl) (by kernel_rfl) ?_
  repeat (apply p_quiet; (case hi => rfl); intro K hK; go_simp; (refine ⟨hK _ ?_⟩; clear hK K))
  apply p_done
  intro W38 hb38
  go_wp2_with fail
  go_ret
  exact ⟨rfl, hb38⟩
set_option maxHeartbeats 2000000 in
theorem wrong_new {w : World} {R k p : Nat} {s : ByteArray} {lv A : Value} {q : Int} (h : Ln w R s lv k 0 q A) (hk : AtK s k p) (e : Int) :
  Calls Tryz.prog 41 #[.pointer (some ⟨R, 0, none⟩), .int .i64 e] w fun x w' => x = .returned (.tuple #[]) ∧ Ln w' R s lv k e p A ∧ ButS [R] w w' := by
 have hL := hid h
 have hPl := hid (fun w' (h : Ln w' R s lv k 0 q A) => place_any h hk)
 obtain ⟨c0, c1, c2, c3, c4, c5, cf⟩ := h.c6
 clear h hk
 go_enter Tryz.func41, Tryz.ntmps41
 go_wp2_with (go_at_call 46; (with_reducible refine Calls.mono (hPl.out _ hL.out) ?_); rintro x w1 ⟨rfl, hb1⟩; have hL1 := hid (hL.out.low hb1); have hB1 := hid hb1; clear hb1 c0 c1 c2 c3 c4 c5 cf; obtain ⟨c0, c1, c2, c3, c4, c5, cf⟩ := hL1.out.c6)
 go_end0
 exact ⟨rfl, hL1.out.bad e p, ((ButS.of hB1.out).set (List.mem_singleton.2 rfl) 3 _).set (List.mem_singleton.2 rfl) 4 _⟩
set_option maxHeartbeats 2000000 in
theorem wrong_old {w : World} {R k : Nat} {s : ByteArray} {lv A : Value} {e0 q : Int} (h : Ln w R s lv k e0 q A) (he : e0 ≠ 0) (e : Int) :
  Calls Tryz.prog 41 #[.pointer (some ⟨R, 0, none⟩), .int .i64 e] w fun x w' => x = .returned (.tuple #[]) ∧ w = w' := by
 obtain ⟨c0, c1, c2, c3, c4, c5, cf⟩ := h.c6
 have q1 : (e0 == 0) = false := beq_false_of he
 clear h he
 go_enter Tryz.func41, Tryz.ntmps41
 go_wp2_with fail
 go_end0
 exact ⟨rfl, rfl⟩
end Go.Proofs.YtieifhfgedoiaaaGreatDoor
