/- PlaceGo, walked: the places of Go's own range. Conditions: none but the length that a string may have. -/
import Derived.Test.YtkobfjiadfedlaaPlEc
import Derived.Test.YtkobfjiadfedlaaPlM
import Derived.Test.YtkobfjiadfedlaaQs
import Derived.WalkSpells
import Derived.WalkLawsBesides
import Derived.Deep.QuietTactic
import Derived.BigQuiet
import Derived.Lib.OthersKept
namespace Go.Proofs.Ytkobfjiadfedlaa
open Go.RowKit Go.Shelf
set_option linter.unusedVariables false
set_option linter.unusedSimpArgs false
attribute [local go_sem] Oper.semAt_some
attribute [local go_sem] Ext.cell Ext.froz
theorem Try.info3 : (Try.prog.info? 3).map (fun i => (i.zero, i.size, i.bytes)) = some (some (.int .i64 0), 1, 8) := by kernel_rfl
def bts (l : List Pl) : List Value := l.map fun p => .int .i64 p.b
/-- what the first loop keeps -/
structure MemG (w2 wr : World) (N0 : Nat) (s : ByteArray) (pos : Nat) (ps : List Pl) (v : Value) : Prop where
  it : wr.heap[N0 + 1]? = some (.stringIter s pos)
  l : Blk wr N0 44 #[v]
  o : wr.ownsRow (N0 + 1 + 1) 3 1 v ps.length (bts ps)
  bel : Below N0 w2 wr
section
variable {w2 wr : World} {N0 : Nat} {s : ByteArray} {pos : Nat} {ps : List Pl} {v : Value}
theorem MemG.lt (h : MemG w2 wr N0 s pos ps v) : N0 + 1 + 1 ≤ wr.heap.size := by
  have := (Array.getElem?_eq_some_iff.1 h.it).1; omega
theorem MemG.next (h : MemG w2 wr N0 s pos ps v) (pos' : Nat) : MemG w2 (wr.iterAt (N0 + 1) s pos') N0 s pos' ps v :=
  ⟨Lib.iterAt_heap wr _ s pos pos' h.it, (iter_oth (by omega)).trans h.l, own_iter h.o (by omega) _ _, Lib.below_iterAt h.bel (by omega) s pos'⟩
theorem MemG.push (h : MemG w2 wr N0 s pos ps v) {o : Obj} {W4 : World} {v' : Value} {p : Pl} (hg : (wr.alloc o).grownBy W4 v.ownBlock) (hown : W4.ownsRow (N0 + 1 + 1) 3 1 v' (ps.length + 1) (bts ps ++ [.int .i64 p.b])) :
    MemG w2 (W4.setCell ⟨N0, 0, none⟩ v') N0 s pos (ps ++ [p]) v' ∧ Blk W4 N0 44 #[v] := by
  have hlt := h.lt
  have hb : ∀ k, k < N0 + 1 + 1 → W4.heap[k]? = wr.heap[k]? := fun k hk => by
    rw [hg.block k (by simp; omega) (fun e => by have := (h.o.lt k e.symm).1; omega)]
    exact Below.heap_alloc _ _ _ (by omega)
  refine ⟨⟨(set_oth (by omega)).trans ((hb _ (by omega)).trans h.it), Blk.set (c := #[v]) ((hb N0 (by omega)).trans h.l) 0 v', ?_, ?_⟩, (hb N0 (by omega)).trans h.l⟩
  · have e : bts (ps ++ [p]) = bts ps ++ [.int .i64 p.b] := by simp [bts]
    rw [e, List.length_append]
    exact ownsRow_setCell_below hown (by simp; omega) _
  · exact (((h.bel.alloc (by omega) o)).grown hg (by simp; omega) (fun k hk => by have := (h.o.lt k hk).1; omega)).setCell (by simp) _
end
theorem run_next2 {s : ByteArray} {pos fuel : Nat} {t : St} (h : runFrom s fuel pos t = fin s ∧ s.size ≤ pos + fuel ∧ Ok s pos t) (hp : pos < s.size) :
    runFrom s (fuel - 1) (pos + (Utf8.decode s pos).2) (t.step s pos (Utf8.decode s pos).1) = fin s ∧ s.size ≤ pos + (Utf8.decode s pos).2 + (fuel - 1) ∧ Ok s (pos + (Utf8.decode s pos).2) (t.step s pos (Utf8.decode s pos).1) := by
  obtain ⟨h1, h2, h3⟩ := h
  obtain ⟨f, rfl⟩ : ∃ f, fuel = f + 1 := ⟨fuel - 1, by omega⟩
  have hd := dec_pos s pos
  unfold runFrom at h1
  rw [if_pos hp] at h1
  exact ⟨h1, by omega, h3.step hp⟩
theorem cells_new1 (w : World) (a0 : Value) (T : TypeId) : ∀ j u, [a0][j]? = some u → (w.alloc (.cells #[a0] T)).cell? ((⟨w.heap.size, 0, none⟩ : Addr).add j) = some u := by
  intro j u hj
  match j, hj with
  | 0, hj => simp at hj; subst hj; simp [Addr.add]
  | j + 1, hj => simp at hj
theorem stop_here {p : Prop} (h : Hid p) : p := h.out
theorem own_at {W : World} {base : Nat} {e : TypeId} {size n : Nat} {v : Value} {xs : List Value} (h : W.ownsRow base e size v n xs) {j : Nat} {u : Value} (hj : xs[j]? = some u) (hs : size = 1 := by rfl) : ∃ g cap, v = .slice (some ⟨g, 0, none⟩) n cap ∧ g < W.heap.size ∧ W.cell? ⟨g, j, none⟩ = some u := by
  rcases h.2 with ⟨hv, h0⟩ | ⟨g, cap, cur, hv, _, hg, _⟩
  · have := h.1
    rw [h0] at this
    have hl := (List.getElem?_eq_some_iff.1 hj).1
    omega
  · refine ⟨g, cap, hv, (Array.getElem?_eq_some_iff.1 hg).1, ?_⟩
    have := h.cells (g := g) (by rw [hv]; rfl) j u hj
    cases j with
    | zero => exact this
    | succ j => simpa [Addr.add] using this
theorem runes_size (s : ByteArray) : ∀ (f pos : Nat) (t : St) (acc : Array Value), acc.size = t.ps.length → (Conv.runesFrom s f pos acc).size = (runFrom s f pos t).ps.length
  | 0, pos, t, acc, h => by unfold Conv.runesFrom runFrom; exact h
  | f + 1, pos, t, acc, h => by
    unfold Conv.runesFrom runFrom
    split
    · rename_i hp
      have e := (step_ps s pos (Utf8.decode s pos).1 t).1
      exact runes_size s f _ _ _ (by rw [e, Array.size_push, List.length_append, h]; rfl)
    · exact h
set_option maxRecDepth 100000 in
set_option maxHeartbeats 8000000 in
theorem go_main (s : ByteArray) (w : World) (hs : s.size ≤ 65536) :
    Calls Try.prog 5 #[.string s] w fun e w' => e = .returned (.bool true) ∧ Below w.heap.size w w' := by
  obtain ⟨i0, hi, hz0, hz1, hz2⟩ := info_parts Try.info3
  refine (callsIn_wide (n := 9)).1 ?_
  refine callsIn_of_wp_marks Try.func5 rfl trivial ?_ rfl
  simp only [Try.ntmps5, List.size_toArray, List.length_cons, List.length_nil, Nat.reduceAdd, Nat.reduceSub, Array.replicate_succ, Array.replicate_zero, List.push_toArray, List.append_toArray, List.nil_append, List.cons_append]
  refine wpIn_wide.2 ?_
  go_wp2_with fail
  obtain ⟨wa, hA⟩ : ∃ wa, (w.alloc (.cells #[.string s] 9)).alloc (.cells #[.bool false] 4) = wa := ⟨_, rfl⟩
  have k1 : Blk wa w.heap.size 9 #[.string s] := hA ▸ (Blk.new w _ _).alloc _
  have k2 : Blk wa (w.heap.size + 1) 4 #[.bool false] := by
    rw [← hA]; have := Blk.new (w.alloc (.cells #[.string s] 9)) 4 #[.bool false]
    simpa using this
  have ba : Below w.heap.size w wa := hA ▸ ((Below.refl _ _).alloc (Nat.le_refl _) _).alloc (by simp) _
  rw [hA]
  clear hA
  have hW := hid (works_any wa)
  with_reducible refine Calls.mono hW.out ?_
  rintro e w1 ⟨rfl, hb1⟩
  replace k1 := k1.low hb1
  replace k2 := k2.low hb1
  replace ba := ba.trans (hb1.mono ba.size)
  clear hb1 hW
  have c1 := k1.cell (k := 0) rfl
  go_wp2_with fail
  clear c1
  have hN := hid (new_map s w1 hs)
  with_reducible refine Calls.mono hN.out ?_
  rintro e w2 ⟨b, rfl, hm, hb2⟩
  replace k1 := k1.low hb2
  replace k2 := k2.low hb2
  replace ba := ba.trans (hb2.mono ba.size)
  have hM := hid hm
  clear hb2 hN hm
  have c1 := k1.cell (k := 0) rfl
  have n1 := k1.lt
  go_wp2_with fail
  clear c1 n1
  go_loopw [6] (fun u wr => ∃ pos fuel t v, MemG w2 wr w2.heap.size s pos t.ps v ∧ u = .int .i64 (t.u : Nat) ∧ Hid (runFrom s fuel pos t = fin s ∧ s.size ≤ pos + fuel ∧ Ok s pos t)) (fun _ wr => s.size - wr.iterPos (w2.heap.size + 1))
  case atStart =>
    have h0 := Blk.new w2 44 #[.slice none 0 0]
    have h1 := heap_alloc_new (w2.alloc (.cells #[.slice none 0 0] 44)) (.stringIter s 0)
    rw [World.size_alloc] at h1
    exact ⟨0, s.size, St.start, _, ⟨h1, h0.alloc _, World.ownsRow_nil _ _ _ _, ((Below.refl _ w2).alloc (Nat.le_refl _) _).alloc (by simp) _⟩, rfl, ⟨rfl, by omega, Ok.start s⟩⟩
  case round =>
    obtain ⟨pos, fuel, t, v, HM, rfl, HR⟩ := hrel
    have hpos0 := hid (iterPos_of HM.it)
    have k1r := k1.lowN HM.bel k1.lt
    have k2r := k2.lowN HM.bel k2.lt
    by_cases hp : pos < s.size
    · have hnx : ∀ ty, (Instr.next (.pointer (some ⟨w2.heap.size + 1, 0, none⟩)) true ty).run Try.prog wr = _ := fun ty => Lib.run_next_any_at wr (w2.heap.size + 1) s pos ty HM.it hp
      have HM1 := HM.next (pos + (Utf8.decode s pos).2)
      obtain ⟨W1, hW1⟩ : ∃ W1, W1 = wr.iterAt (w2.heap.size + 1) s (pos + (Utf8.decode s pos).2) := ⟨_, rfl⟩
      rw [← hW1] at hnx HM1
      clear hW1
      have hdm := dec_max s pos
      have hd1 := dec_pos s pos
      have hd2 := dec_le s pos hp
      have HD := hid (run_next2 HR.out hp)
      generalize hrr : (Utf8.decode s pos).1 = rr at hnx hdm HD
      generalize hwd : (Utf8.decode s pos).2 = wd at hnx hd1 hd2 HM1 HD
      clear hrr hwd
      have c5 := HM1.l.cell (k := 0) rfl
      have n5 := HM1.l.lt
      have hok := HR.out.2.2
      have hn5 := hok.len
      have hu5 := hok.u
      have hr5 := hok.r
      clear hok
      have HMh := hid HM1
      have hown := hid HM1.o
      have hlt := HM1.lt
      clear HM1 HM
      obtain ⟨g0, cap0, rfl⟩ := own_some hown.out
      go_wp2_with (at_builtin; refine wpList_append_own _ rfl (.tmp 32) (.tmp 34) 44 rfl (w2.heap.size + 1 + 1) 3 i0 (.int .i64 0) 1 8 Try.underlying44 hi hz0 hz1 hz2 rfl (by decide) _ _ _ rfl (hown.out.alloc _) ⟨W1.heap.size, 0, none⟩ 1 1 [.int .i64 pos] rfl rfl (cells_new1 _ _ _) (by simp [Value.oneCell']) (by unfold maxLen; omega) (by omega) (by simp; omega) ?_; refine stop_here ?_)
      refine hid ?_
      intro v' w5 hown' hgrow _
      obtain ⟨HM5, k5⟩ := HMh.out.push (p := ⟨pos, t.r, t.u, t.l, t.c⟩) hgrow hown'
      obtain ⟨g, cap, rfl⟩ := own_shape hown'
      replace HM5 := hid HM5
      clear hgrow hown' c5 n5 hown
      have c5 := k5.cell (k := 0) rfl
      have n5 := k5.lt
      have f5 := k5.froz 0
      clear hnx hi hz0 hz1 hz2 k5 k1r k2r
      have hu6 : t.u ≤ 200000 := by omega
      have hfin : Hid (∀ U : Nat, U = t.u + unitsOf rr → ∃ pos' fuel' t', MemG w2 (w5.setCell ⟨w2.heap.size, 0, none⟩ (.slice (some ⟨g, 0, none⟩) (t.ps.length + 1) cap)) w2.heap.size s pos' t'.ps (.slice (some ⟨g, 0, none⟩) (t.ps.length + 1) cap) ∧ U = t'.u ∧ Hid (runFrom s fuel' pos' t' = fin s ∧ s.size ≤ pos' + fuel' ∧ Ok s pos' t')) := fun U hU =>
        ⟨pos + wd, fuel - 1, t.step s pos rr, by rw [(step_ps s pos rr t).1]; exact HM5.out, by rw [(step_ps s pos rr t).2.2]; exact hU, HD⟩
      have hmeas : Hid ((w5.setCell ⟨w2.heap.size, 0, none⟩ (.slice (some ⟨g, 0, none⟩) (t.ps.length + 1) cap)).iterPos (w2.heap.size + 1) = pos + wd ∧ 1 ≤ wd ∧ pos < s.size) := ⟨iterPos_of HM5.out.it, hd1, hp⟩
      clear hlt hd1 hd2 hn5 hu5 hr5 HM5 HD
      by_cases hg : 65536 ≤ rr
      · have hg1 : decide ((65536 : Int) ≤ rr) = true := decide_eq_true (by omega)
        clear hdm
        go_wp2_with fail
        go_roundw
        case rel =>
          obtain ⟨pos', fuel', t', a1, a2, a3⟩ := hfin.out (t.u + 1 + 1) (by unfold unitsOf; rw [if_pos hg])
          exact ⟨pos', fuel', t', _, a1, by rw [← a2]; simp, a3⟩
        case measure =>
          have := hpos0.out
          have := hmeas.out
          omega
      · have hg1 : decide ((65536 : Int) ≤ rr) = false := decide_eq_false (by omega)
        clear hdm
        go_wp2_with fail
        go_roundw
        case rel =>
          obtain ⟨pos', fuel', t', a1, a2, a3⟩ := hfin.out (t.u + 1) (by unfold unitsOf; rw [if_neg hg])
          exact ⟨pos', fuel', t', _, a1, by rw [← a2]; simp, a3⟩
        case measure =>
          have := hpos0.out
          have := hmeas.out
          omega
    · obtain rfl : pos = s.size := by have := HR.out.2.2.hp; omega
      have hnx : ∀ ty, (Instr.next (.pointer (some ⟨w2.heap.size + 1, 0, none⟩)) true ty).run Try.prog wr = _ := fun ty => Lib.run_next_end_at wr (w2.heap.size + 1) s s.size ty HM.it hp
      have ht : t = fin s := by
        have h1 := HR.out.1
        cases fuel with
        | zero => exact h1
        | succ f => unfold runFrom at h1; rw [if_neg (by omega)] at h1; exact h1
      subst ht
      obtain ⟨g0, cap0, rfl⟩ := own_some HM.o
      have HMh := hid HM
      have k1h := hid k1r
      have k2h := hid k2r
      have hMr := hid (hM.out.below HM.bel)
      have hok := hid (fin_ok s)
      clear HM hpos0 HR hp k1r k2r
      go_wp2_with fail
      have hE := hid ((callsIn_wide (n := 8)).1 (each_in Fence.wide 8 trivial rfl b (wr.alloc (.cells #[.int .i64 0] 3))))
      with_reducible refine Calls.mono hE.out ?_
      rintro e w4 ⟨rfl, hw4⟩
      clear hE hnx
      obtain ⟨Nn, hNn⟩ : ∃ Nn, wr.heap.size = Nn := ⟨_, rfl⟩
      have kn : Blk w4 Nn 3 #[.int .i64 0] := by rw [hw4, ← hNn]; exact (Blk.new wr _ _).alloc _
      have k7 : Blk w4 (Nn + 1) 23 #[.pointer (some ⟨b, 0, none⟩)] := by
        rw [hw4]; have := Blk.new (wr.alloc (.cells #[.int .i64 0] 3)) 23 #[.pointer (some ⟨b, 0, none⟩)]
        rw [World.size_alloc, hNn] at this
        exact this
      have hr4 : Below Nn wr w4 := by
        rw [hw4, ← hNn]; exact ((Below.refl _ _).alloc (Nat.le_refl _) _).alloc (by simp) _
      have hsz4 : w4.heap.size = Nn + 1 + 1 := by rw [hw4, ← hNn]; simp
      have hNn' : w2.heap.size < Nn := by have := HMh.out.l.lt; omega
      have hMA : Hid (MapAt Nn w4 b s) := (hNn ▸ hMr.out.at).below (hNn.symm ▸ hr4)
      have hcell : Hid (∀ j p, (fin s).ps[j]? = some p → ∃ g, g0 = some ⟨g, 0, none⟩ ∧ g < Nn ∧ w4.cell? ⟨g, j, none⟩ = some (.int .i64 p.b)) := fun j p hp => by
        obtain ⟨g, cap, h1, h2, h3⟩ := own_at HMh.out.o (show (bts (fin s).ps)[j]? = some (.int .i64 p.b) by simp [bts, hp])
        cases h1
        exact ⟨g, rfl, hNn ▸ h2, (hr4.cell (p := ⟨g, j, none⟩) (hNn ▸ h2)).trans h3⟩
      have hb4 : Below w.heap.size w w4 := ba.trans ((HMh.out.bel.mono (by have := ba.size; exact this)).trans (hr4.mono (by have := k1h.out.lt; omega)))
      have k1w : Blk w4 w.heap.size 9 #[.string s] := k1h.out.lowN hr4 (by have := k1h.out.lt; omega)
      have k2w : Blk w4 (w.heap.size + 1) 4 #[.bool false] := k2h.out.lowN hr4 (by have := k2h.out.lt; omega)
      have k5w : Blk w4 w2.heap.size 44 #[.slice g0 (fin s).ps.length cap0] := HMh.out.l.lowN hr4 hNn'
      have n1w : w.heap.size + 1 < Nn := by have := k2h.out.lt; omega
      obtain ⟨N0, hN0⟩ : ∃ N0, w2.heap.size = N0 := ⟨_, rfl⟩
      have h24 : Below N0 w2 w4 := hN0 ▸ HMh.out.bel.trans (hr4.mono (by omega))
      have hm2 := hid (show (fin s).ps.length ≤ 65536 by have := hok.out.len; omega)
      rw [hN0] at k5w
      simp only [World.size_alloc, hNn, hN0]
      clear hw4 hMr k1h k2h k1 k2 HMh hi hz0 hz1 hz2
      go_wp2_with fail
      refine (wpIn_wide (n := 9)).1 ?_
      refine name_act ?_
      intro T D hT hD
      refine rangeFunc_next (F := Fence.wide) (α := Pl) rfl (by omega) (gf := 36) (lb := #[.pointer (some ⟨Nn + 1, 0, none⟩)]) (by subst hT; rfl) trivial (enters_of Try.func36 (by kernel_rfl) rfl)
        (each_next Fence.wide 8 trivial rfl (by omega) (Nn + 1) b Nn s hs w4 (by omega) (by omega) (k7.cell rfl) hMA.out) (by omega) (Below.refl _ _) (fun _ => rfl)
        (fun pre W => Blk W Nn 3 #[.int .i64 pre.length] ∧ Below Nn w4 W)
        (fun _ _ _ => False)
        (OwnFrom.and (Own.from (blk_own _ _ (fun pre : List Pl => #[.int .i64 pre.length])) _) (ownFrom_below (by omega) (by omega)))
        (fun _ => ownFrom_pure _ _)
        ⟨kn, Below.refl _ _⟩
        (fun x a' W => ∃ Bx, Nn + 1 < Bx ∧ Blk W Bx 33 (plC x) ∧ a' = { tmps := (T.setIfInBounds 44 (plV x)).setIfInBounds 10 (.pointer (some ⟨Bx, 0, none⟩)), defers := [] })
        (fun x a' _ X Y row hs hg hr => by obtain ⟨Bx, h1, h2, h3⟩ := hs; exact ⟨Bx, h1, blk_own Bx 33 (fun (_ : Unit) => plC x) () X Y row h2 hg (fun r e => (hr r e).2), h3⟩)
        ?assign ?body ?done ?stop
      case assign =>
        rintro l pre x W K ⟨kn, hB⟩ hpre hK
        subst hT hD
        gi_wp2
        have hsW := hB.size
        refine hK _ _ ((KeepsOthers.alloc _ _).from _) ((Below.refl _ W).alloc (by omega) _) ⟨kn.alloc _, hB.alloc (by omega) _⟩ ⟨W.heap.size, by omega, Blk.new W 33 _, ?_⟩
        rfl
      case body =>
        rintro l pre p a' W hl hr hnext ⟨kn, hB⟩ ⟨Bx, hBx, kx, rfl⟩
        have hsW := hB.size
        have e1 := prefix_get hnext
        have hlen := (List.getElem?_eq_some_iff.1 e1).1
        have hm3 := hm2.out
        have k1b := k1w.lowN hB (by omega)
        have k2b := k2w.lowN hB (by omega)
        have k5b := k5w.lowN hB (by omega)
        have c1 := k1b.cell (k := 0) rfl
        have c5 := k5b.cell (k := 0) rfl
        have cn := kn.cell (k := 0) rfl
        have cx := kx.cell (k := 0) rfl
        have fn0 := kn.froz 0
        have nn := kn.lt
        have hki : IntKind.i64.wrap ((pre.length : Int) + 1) = (pre.length : Int) + 1 := IntWalk.i64_in _ (by rw [plOf_len] at hlen; omega)
        subst hT hD
        dsimp only
        simp only [List.setIfInBounds_toArray, List.set_cons_succ, List.set_cons_zero]
        obtain ⟨k, hk⟩ : ∃ k, pre.length = k := ⟨_, rfl⟩
        obtain ⟨m, hm⟩ : ∃ m, (fin s).ps.length = m := ⟨_, rfl⟩
        have hcl := hcell.out k p
        have hk' := hid hk
        have hend : Hid (∀ x : Ext W, KeepsFrom w4.heap.size W (x.w.setCell ⟨Nn, 0, none⟩ (.int .i64 ((k : Int) + 1))) ∧ Below Nn W (x.w.setCell ⟨Nn, 0, none⟩ (.int .i64 ((k : Int) + 1))) ∧ (Blk (x.w.setCell ⟨Nn, 0, none⟩ (.int .i64 ((k : Int) + 1))) Nn 3 #[.int .i64 ((pre ++ [p]).length : Nat)] ∧ Below Nn w4 (x.w.setCell ⟨Nn, 0, none⟩ (.int .i64 ((k : Int) + 1))))) := fun x => by
          have q0 : Below Nn W x.w := x.h.mono (by omega)
          have q : Below Nn W (x.w.setCell ⟨Nn, 0, none⟩ (.int .i64 ((k : Int) + 1))) := q0.setCell (p := ⟨Nn, 0, none⟩) (Nat.le_refl _) _
          refine ⟨(kf_of x.h).trans ((KeepsOthers.setCell _ _ _).from _), q, ?_, hB.trans q⟩
          have e : ((pre ++ [p]).length : Nat) = k + 1 := by simp [hk]
          rw [e]
          exact (kn.low x.h).set 0 _
        rw [hm] at c5 hm3
        rw [hk] at cn hki e1
        rw [plOf_len, hk, hm] at hlen
        rcases Nat.lt_or_ge k m with hlt | hge
        · have e2 : (fin s).ps[k]? = some p := by
            unfold plOf at e1
            rw [List.getElem?_append_left (by rw [hm]; exact hlt)] at e1
            exact e1
          obtain ⟨g, rfl, hg, hgc⟩ := hcl e2
          clear hk
          replace hgc := (hB.cell (p := ⟨g, k, none⟩) hg).trans hgc
          have t1 : decide (m < k) = false := decide_eq_false (by omega)
          have t2 : decide (k < m) = true := decide_eq_true (by omega)
          have t3 : ((k : Int) == (m : Int)) = false := by rw [beq_eq_false_iff_ne]; omega
          have t4 : (k : Int) < m := by omega
          have t5 : ((k : Nat) : Int).toNat = k := Int.toNat_natCast k
          clear hcl e1 e2 hlen hm hsW hl hBx hm3 hg
          gi_wp2_with fail
          refine ext_allInB (by kernel_rfl) (WideF.round _ _ _) (by kernel_rfl) (by kernel_rfl) ?_
          repeat (refine bq_step (fun K hK => ?_); go_simp; refine ⟨hK _ ?_⟩; clear hK K)
          refine bq_nil ?_
          rintro _ ⟨x, rfl⟩
          have hx := hid (hend.out x)
          have knx := kn.low x.h
          have cnx := knx.cell (k := 0) rfl
          have fnx := knx.froz 0
          have nnx := knx.lt
          rw [hk'.out] at cnx
          gi_wp2_with fail
          exact hx.out
        · obtain rfl : k = m := by omega
          have hpl : p = lastP s := by
            have := last_get s
            rw [hm, e1] at this
            exact Option.some.inj this
          have hpb : p.b = s.size := by rw [hpl]; rfl
          clear hcl e1 hge hlen hm hsW hl hBx hm3 hpl
          gi_wp2_with fail
          refine ext_allInB (by kernel_rfl) (WideF.round _ _ _) (by kernel_rfl) (by kernel_rfl) ?_
          repeat (refine bq_step (fun K hK => ?_); go_simp; refine ⟨hK _ ?_⟩; clear hK K)
          refine bq_nil ?_
          rintro _ ⟨x, rfl⟩
          have hx := hid (hend.out x)
          have knx := kn.low x.h
          have cnx := knx.cell (k := 0) rfl
          have fnx := knx.froz 0
          have nnx := knx.lt
          rw [hk'.out] at cnx
          gi_wp2_with fail
          exact hx.out
      case done =>
        rintro Dk W hDk ⟨kn, hB⟩ hK
        have hsW := hB.size
        have hMW : Hid (MapOf W b s) := hM.out.below (hN0 ▸ h24.trans (hB.mono (by omega)))
        have k1b := k1w.lowN hB (by omega)
        have k2b := k2w.lowN hB (by omega)
        have k5b := k5w.lowN hB (by omega)
        have c1 := k1b.cell (k := 0) rfl
        have c5 := k5b.cell (k := 0) rfl
        have hE : Hid (∀ x : Ext W, Calls Try.prog 21 #[.pointer (some ⟨b, 0, none⟩)] x.w fun e w' => e = .returned (plV (lastP s)) ∧ Below x.w.heap.size x.w w') := fun x => own_end (hMW.out.below x.h) hs
        have hWk : Hid (∀ x : Ext W, Calls Try.prog 12 #[] x.w fun e w' => e = .returned (.bool true) ∧ Below x.w.heap.size x.w w') := fun x => works_any x.w
        subst hT hD
        have hrs : (Conv.runesFrom s s.size 0 #[]).size = (fin s).ps.length := runes_size s s.size 0 St.start #[] rfl
        obtain ⟨m, hm⟩ : ∃ m, (fin s).ps.length = m := ⟨_, rfl⟩
        have hm3 := hm2.out
        rw [hm] at c5 hrs hm3
        have hconv : Hid (∀ w' : World, ∃ (g : Option Addr) (cap : Nat) (o : Obj), (convert 9 45 (.string s)).run Try.prog w' = .ok (.slice g m cap) (w'.drew.alloc o)) := fun w' => by
          have := run_runes_of_string (P := Try.prog) w' 9 45 21 s Try.underlying9 Try.underlying45 Try.underlying21 (by omega)
          rw [hrs] at this
          exact ⟨_, _, _, this⟩
        have hlr : (lastP s).r = m := by rw [last_r, hm]
        have hlu : (lastP s).u = (fin s).u := rfl
        have cn := kn.cell (k := 0) rfl
        rw [plOf_len, hm] at cn
        have y1 : IntKind.i64.wrap ((m : Int) + 1) = (m : Int) + 1 := IntWalk.i64_in _ (by omega)
        have hv : plV (lastP s) = .agg #[.int .i64 s.size, .int .i64 m, .int .i64 (fin s).u, .int .i64 (fin s).l, .int .i64 (fin s).c] := by
          have e : (fin s).r = m := hlr
          show Value.agg #[.int .i64 s.size, .int .i64 (fin s).r, .int .i64 (fin s).u, .int .i64 (fin s).l, .int .i64 (fin s).c] = _
          rw [e]
        rw [hv] at hE
        have hf1 : ∀ w : World, (Instr.field 33 (.agg #[.int .i64 s.size, .int .i64 m, .int .i64 (fin s).u, .int .i64 (fin s).l, .int .i64 (fin s).c]) 1).run Try.prog w = .ok (.int .i64 m) w := fun _ => by kernel_rfl
        have hf2 : ∀ w : World, (Instr.field 33 (.agg #[.int .i64 s.size, .int .i64 m, .int .i64 (fin s).u, .int .i64 (fin s).l, .int .i64 (fin s).c]) 2).run Try.prog w = .ok (.int .i64 (fin s).u) w := fun _ => by kernel_rfl
        clear hv hrs hm hm3 kn hcell hMA hlr hlu
        go_wp2_with fail
        refine ext_some (fun f _ => if f = 21 then .agg #[.int .i64 s.size, .int .i64 m, .int .i64 (fin s).u, .int .i64 (fin s).l, .int .i64 (fin s).c] else .bool true) 24 (by kernel_rfl) (by kernel_rfl) ?_
        simp only [List.take_succ_cons, List.take_zero, List.drop_succ_cons, List.drop_zero]
        iterate 7 (refine bs_step (fun K hK => ?_); go_simp; refine ⟨hK _ ?_⟩; clear hK K)
        refine bs_step (fun K hK => ?_)
        go_simp
        refine ⟨⟨_, fun x => ⟨rfl, ?_⟩, hK _ ?_⟩⟩
        · with_reducible exact Ext.call (hE.out _)
        clear hK K
        iterate 2 (refine bs_step (fun K hK => ?_); go_simp; refine ⟨hK _ ?_⟩; clear hK K)
        refine bs_some (fun v => ∃ g cap, v = .slice g m cap) ⟨.slice none m 0, _, _, rfl⟩ rfl ?_ ?_
        · rintro w' ⟨x, rfl⟩
          obtain ⟨g, cap, o, hr⟩ := hconv.out x.w
          go_simp
          exact ⟨⟨⟨_, (x.h.alloc x.h.size o).drew⟩, rfl⟩, g, cap, rfl⟩
        rintro v ⟨g, cap, rfl⟩
        dsimp only [Act.put, List.setIfInBounds_toArray, List.set_cons_succ, List.set_cons_zero]
        iterate 5 (refine bs_step (fun K hK => ?_); go_simp; refine ⟨hK _ ?_⟩; clear hK K)
        refine bs_step (fun K hK => ?_)
        go_simp
        refine ⟨⟨_, fun x => ⟨rfl, ?_⟩, hK _ ?_⟩⟩
        · with_reducible exact Ext.call (hE.out _)
        clear hK K
        iterate 5 (refine bs_step (fun K hK => ?_); go_simp; refine ⟨hK _ ?_⟩; clear hK K)
        refine bs_step (fun K hK => ?_)
        go_simp
        refine ⟨⟨_, fun x => ⟨rfl, ?_⟩, hK _ ?_⟩⟩
        · with_reducible exact Ext.call (hWk.out _)
        clear hK K
        iterate 1 (refine bs_step (fun K hK => ?_); go_simp; refine ⟨hK _ ?_⟩; clear hK K)
        refine bs_nil ?_
        rintro _ ⟨x, rfl⟩
        have k2x := k2b.low x.h
        have hKx := (x.h.block Dk (Array.getElem?_eq_some_iff.1 hK).1).trans hK
        have c2x := k2x.cell (k := 0) rfl
        have n2x := k2x.lt
        have f2x := k2x.froz 0
        go_wp2_with fail
        have hK2 : (x.w.setCell ⟨w.heap.size + 1, 0, none⟩ (.bool true)).heap[Dk]? = some (.deferred (some [])) := (KeepsOthers.setCell _ _ _).same Dk _ hKx rfl
        refine ⟨by simp, .inl ⟨_, _, rfl, run_takeDeferred hK2, ?_⟩⟩
        have hcc : ((x.w.setCell ⟨w.heap.size + 1, 0, none⟩ (.bool true)).putObj Dk (.deferred none)).cell? ⟨w.heap.size + 1, 0, none⟩ = some (.bool true) :=
          cell_kept (World.cell?_setCell_same' _ _ _ (by rw [c2x]; rfl)) (grownBy_putObj' _ Dk (.deferred none)) (fun r e => by cases e; exact ⟨_, hK2, rfl⟩)
        have q0 : Below w.heap.size w x.w := hb4.trans ((hB.mono (by omega)).trans (x.h.mono (by omega)))
        have q1 : Below w.heap.size w (x.w.setCell ⟨w.heap.size + 1, 0, none⟩ (.bool true)) := q0.setCell (p := ⟨w.heap.size + 1, 0, none⟩) (Nat.le_succ _) _
        have hFin : Below w.heap.size w ((x.w.setCell ⟨w.heap.size + 1, 0, none⟩ (.bool true)).putObj Dk (.deferred none)) :=
          q1.trans (belowK_b (w := w4) (by omega) _ _ _ _ hDk hK2 rfl rfl)
        clear hE hWk
        exact ⟨_, by simp [results, Try.results5, go_sem, hcc], rfl, hFin⟩
      case stop =>
        rintro Dk c pre W hDk hpre h _
        exact h.elim
set_option maxRecDepth 100000 in
set_option maxHeartbeats 4000000 in
theorem go_long (s : ByteArray) (w : World) (hs : 65536 < s.size) (hm : s.size ≤ maxLen) :
    Calls Try.prog 5 #[.string s] w fun e w' => e = .returned (.bool true) ∧ Below w.heap.size w w' := by
  have d0 : decide ((65536:Int) < s.size) = true := decide_eq_true (by omega)
  go_enter Try.func5, Try.ntmps5
  go_wp2_with fail
  obtain ⟨wa, hA⟩ : ∃ wa, (w.alloc (.cells #[.string s] 9)).alloc (.cells #[.bool false] 4) = wa := ⟨_, rfl⟩
  have k1 : Blk wa w.heap.size 9 #[.string s] := hA ▸ (Blk.new w _ _).alloc _
  have k2 : Blk wa (w.heap.size + 1) 4 #[.bool false] := by
    rw [← hA]; have := Blk.new (w.alloc (.cells #[.string s] 9)) 4 #[.bool false]
    simpa using this
  have ba : Below w.heap.size w wa := hA ▸ ((Below.refl _ _).alloc (Nat.le_refl _) _).alloc (by simp) _
  rw [hA]
  clear hA
  have hW := hid (works_any wa)
  with_reducible refine Calls.mono hW.out ?_
  rintro e w1 ⟨rfl, hb1⟩
  replace k2 := k2.low hb1
  replace k1 := k1.low hb1
  have c1 := k1.cell (k := 0) rfl
  replace ba := ba.trans (hb1.mono ba.size)
  clear hb1 hW
  go_wp2_with fail
  clear c1
  have hN := hid (new_long s w1 hs hm)
  with_reducible refine Calls.mono hN.out ?_
  rintro e w2 ⟨rfl, hb2⟩
  replace k2 := k2.low hb2
  replace k1 := k1.low hb2
  have c1 := k1.cell (k := 0) rfl
  replace ba := ba.trans (hb2.mono ba.size)
  clear hb2 hN
  go_wp2_with fail
  have hW := hid (works_any w2)
  with_reducible refine Calls.mono hW.out ?_
  rintro e w4 ⟨rfl, hb4⟩
  replace k2 := k2.low hb4
  replace ba := ba.trans (hb4.mono ba.size)
  clear hb4 hW
  have c2 := k2.cell (k := 0) rfl
  have n2 := k2.lt
  have f2 := k2.froz 0
  go_wp2_with fail
  try rw [Exit.noGoto_ret]
  have hcc : (w4.setCell ⟨w.heap.size + 1, 0, none⟩ (.bool true)).cell? ⟨w.heap.size + 1, 0, none⟩ = some (.bool true) := World.cell?_setCell_same' _ _ _ (by rw [c2]; rfl)
  exact bodyPost_ret (v := .bool true) (by simp [results, Try.results5, go_sem, hcc]) rfl ⟨rfl, ba.setCell (p := ⟨w.heap.size + 1, 0, none⟩) (Nat.le_succ _) _⟩
theorem go_walk (s : ByteArray) (w : World) (hm : s.size ≤ maxLen) :
    Calls Try.prog 5 #[.string s] w fun e w' => e = .returned (.bool true) ∧ Below w.heap.size w w' := by
  by_cases hs : s.size ≤ 65536
  · exact go_main s w hs
  · exact go_long s w (by omega) hm
end Go.Proofs.Ytkobfjiadfedlaa
