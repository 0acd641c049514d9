/- The document's answer: Pieces, walked: where the pieces of a text begin, and their runes. Conditions: the text has at most 65536 bytes. -/
import Derived.Test.YtkobfjiadfedlaaPlRa
import Derived.Lib.OthersKept
namespace Go.Proofs.Ytkobfjiadfedlaa
open Go.RowKit
set_option linter.unusedVariables false
set_option linter.unusedSimpArgs false
attribute [local go_sem] Ext.cell Ext.froz
theorem Try.info83 : (Try.prog.info? 83).map (fun i => (i.zero, i.size, i.bytes)) = some (some (.agg #[.int .i64 0, .int .i64 0, .int .i32 0]), 3, 24) := by kernel_rfl
theorem cells_new3 (w : World) (a0 a1 a2 : Value) (T : TypeId) : ∀ j u, [a0, a1, a2][j]? = some u → (w.alloc (.cells #[a0, a1, a2] T)).cell? ((⟨w.heap.size, 0, none⟩ : Addr).add j) = some u := by
  intro j u hj
  match j, hj with
  | 0, hj => simp at hj; subst hj; simp [Addr.add]
  | 1, hj => simp at hj; subst hj; simp [Addr.add]
  | 2, hj => simp at hj; subst hj; simp [Addr.add]
  | j + 3, hj => simp at hj
theorem run_next2 {s : ByteArray} {pos fuel : Nat} {t : St} (h : runFrom s fuel pos t = fin s ∧ s.size ≤ pos + fuel ∧ Ok s pos t) (hp : pos < s.size) :
    runFrom s (fuel - 1) (pos + (Utf8.decode s pos).2) (t.step s pos (Utf8.decode s pos).1) = fin s ∧ s.size ≤ pos + (Utf8.decode s pos).2 + (fuel - 1) ∧ Ok s (pos + (Utf8.decode s pos).2) (t.step s pos (Utf8.decode s pos).1) := by
  obtain ⟨h1, h2, h3⟩ := h
  obtain ⟨f, rfl⟩ : ∃ f, fuel = f + 1 := ⟨fuel - 1, by omega⟩
  have hd := dec_pos s pos
  unfold runFrom at h1
  rw [if_pos hp] at h1
  exact ⟨h1, by omega, h3.step hp⟩
def nextU (t : St) (k : Nat) : Nat := match t.ps[k + 1]? with
  | some q => q.u
  | none => t.u
/-- what the cells of the pieces hold -/
structure PcOk (t : St) (rs : List Nat) (xs : List Value) : Prop where
  rl : rs.length = t.ps.length
  xl : xs.length = t.ps.length * 3
  at' : ∀ (k : Nat) (p : Pl) (r : Nat), t.ps[k]? = some p → rs[k]? = some r → xs[k * 3]? = some (.int .i64 p.b) ∧ (∃ z, xs[k * 3 + 1]? = some (.int .i64 z)) ∧ xs[k * 3 + 2]? = some (.int .i32 r) ∧ nextU t k = p.u + unitsOf r
theorem PcOk.start : PcOk St.start [] [] := ⟨rfl, rfl, fun k p r h => by simp [St.start] at h⟩
theorem PcOk.set {t : St} {rs : List Nat} {xs : List Value} (h : PcOk t rs xs) (m : Nat) (z : Int) : PcOk t rs (xs.set (m * 3 + 1) (.int .i64 z)) := by
  refine ⟨h.rl, by rw [List.length_set]; exact h.xl, fun k p r hp hr => ?_⟩
  obtain ⟨h1, ⟨z0, h2⟩, h3, h4⟩ := h.at' k p r hp hr
  refine ⟨by rw [List.getElem?_set_ne (by omega)]; exact h1, ?_, by rw [List.getElem?_set_ne (by omega)]; exact h3, h4⟩
  by_cases hk : m = k
  · subst hk
    exact ⟨z, List.getElem?_set_self (List.getElem?_eq_some_iff.1 h2).1⟩
  · exact ⟨z0, by rw [List.getElem?_set_ne (by omega)]; exact h2⟩
theorem PcOk.step {t : St} {rs : List Nat} {xs : List Value} (h : PcOk t rs xs) (s : ByteArray) (pos r : Nat) : PcOk (t.step s pos r) (rs ++ [r]) (xs ++ [.int .i64 pos, .int .i64 0, .int .i32 r]) := by
  obtain ⟨e1, e2, e3⟩ := step_ps s pos r t
  obtain ⟨rl, xl, at'⟩ := h
  refine ⟨by rw [e1, List.length_append, List.length_append, rl]; rfl, by rw [e1, List.length_append, List.length_append, xl]; simp; omega, fun k p q hp hq => ?_⟩
  rw [e1] at hp
  rcases get_snoc hp with ⟨hp, hk⟩ | ⟨hk, rfl⟩
  · have hq' : rs[k]? = some q := by rw [List.getElem?_append_left (by omega)] at hq; exact hq
    obtain ⟨h1, ⟨z0, h2⟩, h3, h4⟩ := at' k p q hp hq'
    refine ⟨by rw [List.getElem?_append_left (by omega)]; exact h1, ⟨z0, by rw [List.getElem?_append_left (by omega)]; exact h2⟩, by rw [List.getElem?_append_left (by omega)]; exact h3, ?_⟩
    rw [← h4]
    unfold nextU
    rw [e1]
    by_cases hl : k + 1 < t.ps.length
    · rw [List.getElem?_append_left hl]
      rw [List.getElem?_eq_getElem hl]
    · have hl2 : k + 1 = t.ps.length := by omega
      rw [hl2]
      simp
  · subst hk
    have hq' : q = r := by rw [← rl] at hq; simpa using hq.symm
    subst hq'
    have x0 : t.ps.length * 3 = xs.length + 0 := by omega
    have x1 : t.ps.length * 3 + 1 = xs.length + 1 := by omega
    have x2 : t.ps.length * 3 + 2 = xs.length + 2 := by omega
    refine ⟨by rw [x0]; simp, ⟨0, by rw [x1]; simp⟩, by rw [x2]; simp, ?_⟩
    unfold nextU
    rw [e1, e3]
    simp
structure MemP (w wr : World) (s : ByteArray) (pos : Nat) (t : St) (rs : List Nat) (xs : List Value) (v : Value) : Prop where
  it : wr.heap[w.heap.size]? = some (.stringIter s pos)
  o : wr.ownsRow (w.heap.size + 1) 83 3 v t.ps.length xs
  bel : Below w.heap.size w wr
  pc : PcOk t rs xs
set_option maxRecDepth 100000 in
set_option maxHeartbeats 4000000 in
theorem pieces_own (s : ByteArray) (w : World) (hs : s.size ≤ 65536) :
    Calls Try.prog 38 #[.string s] w fun e w' => ∃ v rs xs, e = .returned v ∧ w'.ownsRow (w.heap.size + 1) 83 3 v (fin s).ps.length xs ∧ PcOk (fin s) rs xs ∧ Below w.heap.size w w' := by
  obtain ⟨i0, hi, hz0, hz1, hz2⟩ := info_parts Try.info83
  go_enter Try.func38, Try.ntmps38
  go_wp2_with fail
  go_loopw [3] (fun v wr => ∃ pos fuel t rs xs, Hid (MemP w wr s pos t rs xs v) ∧ Hid (runFrom s fuel pos t = fin s ∧ s.size ≤ pos + fuel ∧ Ok s pos t)) (fun _ wr => s.size - wr.iterPos w.heap.size)
  case atStart =>
    exact ⟨0, s.size, St.start, [], [], ⟨heap_alloc_new w _, World.ownsRow_nil _ _ _ _, (Below.refl _ w).alloc (Nat.le_refl _) _, PcOk.start⟩, ⟨rfl, by omega, Ok.start s⟩⟩
  case round =>
    obtain ⟨pos, fuel, t, rs, xs, HM, HR⟩ := hrel
    have hpos0 := hid (iterPos_of HM.out.it)
    have hltw : w.heap.size < wr.heap.size := (Array.getElem?_eq_some_iff.1 HM.out.it).1
    have hok := HR.out.2.2
    have hn5 := hok.len
    clear hok
    by_cases hp : pos < s.size
    · have hnx : ∀ ty, (Instr.next (.pointer (some ⟨w.heap.size, 0, none⟩)) true ty).run Try.prog wr = _ := fun ty => Lib.run_next_any_at wr w.heap.size s pos ty HM.out.it hp
      have hit : Hid (∀ p', (wr.iterAt w.heap.size s p').heap[w.heap.size]? = some (.stringIter s p')) := fun p' => Lib.iterAt_heap wr _ s pos p' HM.out.it
      have ho1 := own_iter HM.out.o (Nat.lt_succ_self _) s (pos + (Utf8.decode s pos).2)
      have hb1 := Lib.below_iterAt HM.out.bel (Nat.le_refl _) s (pos + (Utf8.decode s pos).2)
      have hit1 := hit.out (pos + (Utf8.decode s pos).2)
      obtain ⟨W1, hW1⟩ : ∃ W1, W1 = wr.iterAt w.heap.size s (pos + (Utf8.decode s pos).2) := ⟨_, rfl⟩
      rw [← hW1] at hnx ho1 hb1 hit1
      have hlt1 : w.heap.size < W1.heap.size := (Array.getElem?_eq_some_iff.1 hit1).1
      clear hW1 hit
      have hdm := dec_max s pos
      have hd1 := dec_pos s pos
      have hd2 := dec_le s pos hp
      have HD := hid (run_next2 HR.out hp)
      have hpc := hid (HM.out.pc.step s pos (Utf8.decode s pos).1)
      have hpcs := hid (fun m z => (HM.out.pc.set m z).step s pos (Utf8.decode s pos).1)
      have hpc0 := hid HM.out.pc
      have hls := hid (step_ps s pos (Utf8.decode s pos).1 t).1
      generalize hrr : (Utf8.decode s pos).1 = rr at hnx hdm HD hpc hpcs hls
      generalize hwd : (Utf8.decode s pos).2 = wd at hnx hd1 hd2 ho1 hb1 hit1 HD
      clear hrr hwd HM
      have hmeas : Hid (1 ≤ wd ∧ pos < s.size) := ⟨hd1, hp⟩
      obtain ⟨n, hn⟩ : ∃ n, t.ps.length = n := ⟨_, rfl⟩
      rw [hn] at ho1 hn5
      have hit1h := hid hit1
      have hb1h := hid hb1
      have hfin : Hid (∀ (W : World) (ys : List Value), W.heap.size = W1.heap.size → W.heap[w.heap.size]? = some (.stringIter s (pos + wd)) → Below w.heap.size w W → PcOk (t.step s pos rr) (rs ++ [rr]) (ys ++ [.int .i64 pos, .int .i64 0, .int .i32 rr]) → ∀ (v : Value) (o : Obj) (w5 : World) (v' : Value), W.ownsRow (w.heap.size + 1) 83 3 v n ys → (W.alloc o).grownBy w5 v.ownBlock → w5.ownsRow (w.heap.size + 1) 83 3 v' (n + 1) (ys ++ [.int .i64 pos, .int .i64 0, .int .i32 rr]) →
          (∃ pos' fuel' t' rs' xs', Hid (MemP w w5 s pos' t' rs' xs' v') ∧ Hid (runFrom s fuel' pos' t' = fin s ∧ s.size ≤ pos' + fuel' ∧ Ok s pos' t')) ∧ w5.iterPos w.heap.size = pos + wd) := by
        intro W ys hWs hit hb hpk v o w5 v' hv hg hown'
        have hlt : w.heap.size < W.heap.size := (Array.getElem?_eq_some_iff.1 hit).1
        have hi5 : w5.heap[w.heap.size]? = some (.stringIter s (pos + wd)) := by
          rw [hg.block _ (by simp; omega) (fun e => by have := (hv.lt _ e.symm).1; omega), Below.heap_alloc _ _ _ hlt]
          exact hit
        have hb5 : Below w.heap.size w w5 := (hb.alloc (by omega) o).grown hg (by simp; omega) (fun k hk => by have := (hv.lt k hk).1; omega)
        refine ⟨⟨pos + wd, fuel - 1, t.step s pos rr, rs ++ [rr], _, ⟨hi5, ?_, hb5, hpk⟩, HD⟩, iterPos_of hi5⟩
        rw [hls.out, List.length_append, hn]
        exact hown'
      clear hit1 hb1 HD hls
      cases n with
      | zero =>
        obtain ⟨g0, cap0, rfl⟩ := own_some ho1
        have hown := hid ho1
        clear ho1 hd1 hd2 hn
        go_wp2_with (at_builtin; refine wpList_append_own _ rfl (.tmp 30) (.tmp 34) 80 rfl (w.heap.size + 1) 83 i0 _ 3 24 Try.underlying80 hi hz0 hz1 hz2 rfl (by decide) _ _ _ rfl (hown.out.alloc _) ⟨W1.heap.size, 0, none⟩ 1 1 [.int .i64 pos, .int .i64 0, .int .i32 rr] rfl rfl (cells_new3 _ _ _ _ _) (by simp [Value.oneCell']) (by unfold maxLen; omega) (by omega) (by simp; omega) ?_; refine stop_here ?_)
        refine hid ?_
        intro v' w5 hown' hgrow _
        have hF := hid (hfin.out W1 _ rfl hit1h.out hb1h.out hpc.out _ _ w5 v' hown.out hgrow hown')
        clear hown' hgrow hfin hown hnx
        go_wp2_with fail
        go_roundw
        case rel => exact hF.out.1
        case measure =>
          have := hF.out.2
          have := hpos0.out
          have := hmeas.out
          omega
      | succ m =>
        obtain ⟨g, cap, rfl⟩ := own_shape ho1
        obtain ⟨p, hp2⟩ : ∃ p, t.ps[m]? = some p := ⟨_, List.getElem?_eq_getElem (by omega)⟩
        obtain ⟨r0, hr0⟩ : ∃ r0, rs[m]? = some r0 := ⟨_, List.getElem?_eq_getElem (by rw [hpc0.out.rl]; omega)⟩
        obtain ⟨x0, ⟨z0, x1⟩, _, _⟩ := hpc0.out.at' m p r0 hp2 hr0
        have y0 := own_cell ho1 x0
        have y1 := own_cell ho1 x1
        have yf := ho1.frozenAt (m * 3 + 1)
        have hgl := (ho1.lt g rfl).2
        have hgb := (ho1.lt g rfl).1
        have hsto := hid (fun u => ho1.stored (m * 3 + 1) u)
        have t1 : IntKind.i64.wrap (m : Int) = m := IntWalk.i64_in _ (by omega)
        have t2 : (0 : Int) ≤ m := by omega
        have t3 : ((m : Nat) : Int) < (m : Int) + 1 := by omega
        have t4 : ((m : Nat) : Int).toNat = m := by omega
        clear ho1 hp2 hr0 x0 x1 hd1 hd2 hn hpc0
        go_wp2_with (at_builtin; refine stop_here ?_)
        have hown2 := (hsto.out (.int .i64 (wrap64 ((pos : Int) - p.b)))).1
        have hsz2 : (W1.setCell ⟨g, m * 3 + 1, none⟩ (.int .i64 (wrap64 ((pos : Int) - p.b)))).heap.size = W1.heap.size := by simp
        have hit2 : (W1.setCell ⟨g, m * 3 + 1, none⟩ (.int .i64 (wrap64 ((pos : Int) - p.b)))).heap[w.heap.size]? = some (.stringIter s (pos + wd)) := (set_oth (by omega)).trans hit1h.out
        have hbe2 : Below w.heap.size w (W1.setCell ⟨g, m * 3 + 1, none⟩ (.int .i64 (wrap64 ((pos : Int) - p.b)))) := hb1h.out.setCell (p := ⟨g, m * 3 + 1, none⟩) (by show w.heap.size ≤ g; omega) _
        have hpk2 := hpcs.out m (wrap64 ((pos : Int) - p.b))
        generalize W1.setCell ⟨g, m * 3 + 1, none⟩ (.int .i64 (wrap64 ((pos : Int) - p.b))) = W2 at *
        refine wpList_append_own _ rfl (.tmp 30) (.tmp 34) 80 rfl (w.heap.size + 1) 83 i0 _ 3 24 Try.underlying80 hi hz0 hz1 hz2 rfl (by decide) _ _ _ rfl (hown2.alloc _) ⟨W2.heap.size, 0, none⟩ 1 1 [.int .i64 pos, .int .i64 0, .int .i32 rr] (by rw [hsz2]; rfl) rfl (cells_new3 _ _ _ _ _) (by simp [Value.oneCell']) (by unfold maxLen; omega) (by omega) (by simp; omega) ?_
        intro v' w5 hown' hgrow _
        have hF := hid (hfin.out W2 _ hsz2 hit2 hbe2 hpk2 _ _ w5 v' hown2 hgrow hown')
        clear hown' hgrow hfin hown2 hnx hsto y0 y1 yf hit2 hbe2 hpk2
        go_wp2_with fail
        go_roundw
        case rel => exact hF.out.1
        case measure =>
          have := hF.out.2
          have := hpos0.out
          have := hmeas.out
          omega
    · obtain rfl : pos = s.size := by have := HR.out.2.2.hp; omega
      have hnx : ∀ ty, (Instr.next (.pointer (some ⟨w.heap.size, 0, none⟩)) true ty).run Try.prog wr = _ := fun ty => Lib.run_next_end_at wr w.heap.size s s.size ty HM.out.it hp
      have ht : t = fin s := by
        have h1 := HR.out.1
        cases fuel with
        | zero => exact h1
        | succ f => unfold runFrom at h1; rw [if_neg (by omega)] at h1; exact h1
      subst ht
      have ho1 := HM.out.o
      have hbel := hid HM.out.bel
      have hpc := hid HM.out.pc
      clear HM HR
      obtain ⟨n, hn⟩ : ∃ n, (fin s).ps.length = n := ⟨_, rfl⟩
      rw [hn] at ho1 hn5
      have hnh := hid hn
      cases n with
      | zero =>
        obtain ⟨g0, cap0, rfl⟩ := own_some ho1
        have hown := hid ho1
        clear ho1 hn
        go_wp2_with fail
        try rw [Exit.noGoto_ret]
        go_ret
        exact ⟨_, rs, xs, rfl, by rw [hnh.out]; exact hown.out, hpc.out, hbel.out⟩
      | succ m =>
        obtain ⟨g, cap, rfl⟩ := own_shape ho1
        obtain ⟨p, hp2⟩ : ∃ p, (fin s).ps[m]? = some p := ⟨_, List.getElem?_eq_getElem (by omega)⟩
        obtain ⟨r0, hr0⟩ : ∃ r0, rs[m]? = some r0 := ⟨_, List.getElem?_eq_getElem (by rw [hpc.out.rl]; omega)⟩
        obtain ⟨x0, ⟨z0, x1⟩, _, _⟩ := hpc.out.at' m p r0 hp2 hr0
        have y0 := own_cell ho1 x0
        have y1 := own_cell ho1 x1
        have yf := ho1.frozenAt (m * 3 + 1)
        have hgl := (ho1.lt g rfl).2
        have hgb := (ho1.lt g rfl).1
        have hsto := hid (fun u => ho1.stored (m * 3 + 1) u)
        have t1 : IntKind.i64.wrap (m : Int) = m := IntWalk.i64_in _ (by omega)
        have t2 : (0 : Int) ≤ m := by omega
        have t3 : ((m : Nat) : Int) < (m : Int) + 1 := by omega
        have t4 : ((m : Nat) : Int).toNat = m := by omega
        clear ho1 hp2 hr0 x0 x1 hn
        go_wp2_with fail
        try rw [Exit.noGoto_ret]
        go_ret
        exact ⟨_, rs, _, rfl, by rw [hnh.out]; exact (hsto.out _).1, hpc.out.set m _, hbel.out.setCell (p := ⟨g, m * 3 + 1, none⟩) (by show w.heap.size ≤ g; omega) _⟩
end Go.Proofs.Ytkobfjiadfedlaa
