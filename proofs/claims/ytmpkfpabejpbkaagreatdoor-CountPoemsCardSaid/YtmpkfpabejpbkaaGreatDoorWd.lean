/- A text's pieces as an iterator (runes.Pieces), by the law of Ks. Conditions: those of each theorem. -/
import Derived.Test.YtmpkfpabejpbkaaGreatDoorWb
import Derived.Test.YtmpkfpabejpbkaaGreatDoorRNRa
import Derived.OwnWalkIn
import Derived.TacticsInMore
import Derived.LoopNIn
import Derived.LoopIn
namespace Go.Proofs.YtmpkfpabejpbkaaGreatDoor
open Go Go.RowKit Go.Lib Go.Shelf
set_option linter.unusedVariables false
set_option linter.unusedSimpArgs false
attribute [local go_sem] Oper.semAt_some
theorem room_wide' (k : Nat) : Fence.wide.room k := fun d h => by cases h
theorem RoundIn.wide {m m' : Nat} {P : Program} {l : Nat} {f : FuncId} {tmps : Array Value} {assign body : Code} {w : World} {R : Ending → World → Prop}
    (h : RoundIn Fence.wide m P l f tmps assign body w R) : RoundIn Fence.wide m' P l f tmps assign body w R := ⟨h.1, fun c cs _ => h.2 c cs (room_wide' _)⟩
theorem YieldAt.wide {m : Nat} (m' : Nat) {P : Program} {l : Nat} {args : Array Value} {W : World} {R : Ending → World → Prop} (h : YieldAt Fence.wide m P l args W R) : YieldAt Fence.wide m' P l args W R := by
  obtain ⟨fn, tmps, assign, body, hy, hR⟩ := h
  exact ⟨fn, tmps, assign, body, hy, RoundIn.wide hR⟩
theorem RoundIn.inRound {F : Fence} {m : Nat} {P : Program} {l : Nat} {f : FuncId} {tmps : Array Value} {assign body : Code} {w : World} {R : Ending → World → Prop} (l' : Nat)
    (h : RoundIn F m P l f tmps assign body w R) : RoundIn (F.inRound l') m P l f tmps assign body w R := h
def wdN (s : ByteArray) (p : Nat) : Nat := (Utf8.decode s p).2
def rnN (s : ByteArray) (p : Nat) : Nat := (Utf8.decode s p).1
def isBr (s : ByteArray) (p : Nat) : Bool := R.brB (rnN s p) (wdN s p)
theorem wdN_pos {s : ByteArray} {p : Nat} (h : p < s.size) : 1 ≤ wdN s p ∧ wdN s p ≤ 4 ∧ p + wdN s p ≤ s.size := by
  have := R.dec_at s p h
  unfold wdN
  cases hd : Utf8.decode s p with
  | mk r w =>
    rw [hd] at this
    cases this with
    | rune _ _ h1 h2 h3 h4 h5 h6 h7 => exact ⟨h5, h6, h7⟩
    | lost h1 h2 => exact ⟨by simp, by simp, h1⟩
    | broken h0 h1 => exact ⟨by simp, by simp, h0⟩
def posL (s : ByteArray) (p : Nat) : List Nat := if h : p < s.size then p :: posL s (p + wdN s p) else []
termination_by s.size - p
decreasing_by have := wdN_pos h; omega
theorem posL_more {s : ByteArray} {p : Nat} (h : p < s.size) : posL s p = p :: posL s (p + wdN s p) := by rw [posL, dif_pos h]
theorem posL_end {s : ByteArray} {p : Nat} (h : ¬ p < s.size) : posL s p = [] := by rw [posL, dif_neg h]
def pcV (s : ByteArray) (p : Nat) : Value := .agg #[.int .i64 p, .int .i64 (wdN s p), .int .i32 (rnN s p), .bool (isBr s p)]
theorem at_lt {w : World} {m : Nat} {o : Obj} (h : w.heap[m]? = some o) : m < w.heap.size := (Array.getElem?_eq_some_iff.1 h).1
theorem iterPos_of {w : World} {k : Nat} {s : ByteArray} {p : Nat} (h : w.heap[k]? = some (.stringIter s p)) : w.iterPos k = p := by simp [World.iterPos, h]
theorem pieces53 (s : ByteArray) (w : World) : Calls Tryz.prog 53 #[.string s] w fun e w' => e = .returned (.func (.func 73) #[] #[.pointer (some ⟨w.heap.size, 0, none⟩)]) ∧ w' = w.alloc (.cells #[.string s] 9) := by
  go_enter Tryz.func53, Tryz.ntmps53
  go_wp2_with fail
  go_ret
  exact ⟨rfl, rfl⟩
set_option maxHeartbeats 1000000 in
theorem pieces73 (n : Nat) (s : ByteArray) (hs : s.size ≤ 140737488355328) (l kb : Nat) (RR : Nat → Prop) (hR : RR kb) (J Jx : List Nat → (Nat → Prop) → World → Prop) (W : World) (hJ : Free W.heap.size J) (hX : Free W.heap.size Jx)
    (hY : ∀ pre S x W1, J pre S W1 → W.heap.size ≤ W1.heap.size → (∀ k, S k → W.heap.size ≤ k ∧ k < W1.heap.size) → pre ++ [x] <+: posL s 0 → YieldAt Fence.wide (n - 1) Tryz.prog l #[pcV s x] W1 fun e W' =>
      Kept (fun k => RR k ∨ S k) W1 W' ∧ ((e = .returned (.bool true) ∧ J (pre ++ [x]) S W') ∨ (e = .returned (.bool false) ∧ Jx (pre ++ [x]) S W')))
    (hc : W.cell? ⟨kb, 0, none⟩ = some (.string s)) (h0 : J [] none' W) :
    CallsIn Fence.wide n Tryz.prog 73 #[.func (.yield l) #[] #[], .pointer (some ⟨kb, 0, none⟩)] W fun e W' => (∃ v, e = .returned v) ∧ (J (posL s 0) none' W' ∨ (∃ pre, pre <+: posL s 0 ∧ Jx pre none' W')) := by
  have hkb : kb < W.heap.size := World.block_lt_of_cell? W _ hc
  have HR := hid hR
  obtain ⟨S, hS⟩ : ∃ S : Nat → Prop, S = fun k => k = W.heap.size := ⟨_, rfl⟩
  have S1 : Hid (S W.heap.size) := hid (by rw [hS])
  have S2 : Hid (∀ k, S k → k = W.heap.size) := hid (fun k h => by rw [hS] at h; exact h)
  have hI0 : Hid (J [] S (W.alloc (.stringIter s 0))) := hid (hJ [] none' S _ _ h0 (fun k h => h.elim) (Kept.alloc _ _ _) (fun k h => .inr (by have := S2.out k h; subst this; exact ⟨Nat.le_refl _, by rw [World.size_alloc]; exact Nat.lt_succ_self _⟩)))
  clear hS h0
  refine callsIn_of_wp Tryz.func73 rfl trivial ?_ rfl
  simp only [Tryz.ntmps73, List.size_toArray, List.length_cons, List.length_nil, Nat.reduceAdd, Nat.reduceSub, Array.replicate_succ, Array.replicate_zero, List.push_toArray, List.append_toArray, List.nil_append, List.cons_append]
  have HJ := hid hJ
  have HX := hid hX
  have HY := hid hY
  clear hJ hX hY hR
  gi_wp2_with fail
  gi_loopw [] (fun wr => ∃ (pos : Nat) (ps : List Nat), Hid (posL s 0 = ps ++ posL s pos) ∧ pos ≤ s.size ∧ Hid (J ps S wr) ∧ Hid (wr.heap[W.heap.size]? = some (.stringIter s pos)) ∧ Hid (wr.cell? ⟨kb, 0, none⟩ = some (.string s)) ∧ W.heap.size < wr.heap.size) (fun wr => s.size - wr.iterPos W.heap.size)
  case atStart =>
    exact ⟨0, [], hid rfl, Nat.zero_le _, hI0, hid (heap_alloc_new W _), hid ((((Below.refl W.heap.size W).alloc (Nat.le_refl _) (.stringIter s 0)).cell (p := ⟨kb, 0, none⟩) hkb).trans hc), at_lt (heap_alloc_new W _)⟩
  case round =>
    obtain ⟨pos, ps, hL, hps, hJs, hit, hcs, hIl⟩ := hrel
    have hpos0 := hid (iterPos_of hit.out)
    by_cases hp : pos < s.size
    · have hnx : ∀ ty, (Instr.next (.pointer (some ⟨W.heap.size, 0, none⟩)) true ty).run Tryz.prog wr = _ := fun ty => Lib.run_next_any_at wr W.heap.size s pos ty hit.out hp
      change ∀ ty, (Instr.next (.pointer (some ⟨W.heap.size, 0, none⟩)) true ty).run Tryz.prog wr = .ok (.tuple #[.bool true, .int .i64 pos, .int .i32 (rnN s pos)]) (wr.iterAt W.heap.size s (pos + wdN s pos)) at hnx
      have hwd := wdN_pos hp
      have hkI : Kept (fun k => ¬ S k) wr (wr.iterAt W.heap.size s (pos + wdN s pos)) := ⟨rfl, rfl, rfl, by rw [iterAt_size]; exact Nat.le_refl _, fun k _ hk => iterAt_other wr W.heap.size k s _ (fun e => hk (e ▸ S1.out))⟩
      have hJ1 : Hid (J ps S (wr.iterAt W.heap.size s (pos + wdN s pos))) := hid (HJ.out _ _ _ _ _ hJs.out (fun k h => by have := S2.out k h; omega) hkI (fun k h => .inl h))
      have hit1 := hid (iterAt_heap wr W.heap.size s pos (pos + wdN s pos) hit.out)
      have hcs1 : (wr.iterAt W.heap.size s (pos + wdN s pos)).cell? ⟨kb, 0, none⟩ = some (.string s) := (World.cell?_of_block (a := ⟨kb, 0, none⟩) (iterAt_other wr W.heap.size kb s (pos + wdN s pos) (by omega))).trans hcs.out
      have hI1 : W.heap.size < (wr.iterAt W.heap.size s (pos + wdN s pos)).heap.size := by rw [iterAt_size]; exact hIl
      have hL2 : Hid (posL s 0 = (ps ++ [pos]) ++ posL s (pos + wdN s pos)) := by rw [hL.out, posL_more hp, List.append_assoc]; exact hid rfl
      have hpre : Hid (ps ++ [pos] <+: posL s 0) := hid ⟨_, hL2.out.symm⟩
      have hmeas : Hid (1 ≤ wdN s pos ∧ pos + wdN s pos ≤ s.size ∧ pos < s.size) := hid ⟨hwd.1, hwd.2.2, hp⟩
      obtain ⟨W1, hW1⟩ : ∃ W1, wr.iterAt W.heap.size s (pos + wdN s pos) = W1 := ⟨_, rfl⟩
      rw [hW1] at hnx hJ1 hit1 hcs1 hI1
      have HC := hid hcs1
      have hRd := hid (fun w => R.read_any s pos hp hs w)
      clear hkI hW1 hwd hL hJs hit hcs
      gi_wp2_with fail
      refine ⟨trivial, (by intro h; cases h), ?_⟩
      with_reducible refine CallsIn.mono (callsIn_wide.2 (hRd.out _)) ?_
      rintro e W2 ⟨rfl, hb2⟩
      have hJ2 : J ps S W2 := HJ.out _ _ _ _ _ hJ1.out (fun k h => by have := S2.out k h; omega) (Kept.of_all hb2 _) (fun k h => .inl h)
      have hs2 := hb2.size
      obtain ⟨fn, tmps, assign, body, hy, hRd2⟩ := HY.out _ _ pos _ hJ2 (by omega) (fun k h => by have := S2.out k h; omega) hpre.out
      have hit2 := hid ((hb2.block _ hI1).trans hit1.out)
      have hcs2 := hid ((hb2.cell (p := ⟨kb, 0, none⟩) (show kb < W1.heap.size by omega)).trans HC.out)
      clear hb2 hJ2 hJ1 hit1 hcs1 hnx hRd HC
      change (Instr.yield l #[R.decV s pos]).run Tryz.prog W2 = _ at hy
      gi_wp2_with fail
      refine ⟨(by intro h; cases h), ?_⟩
      refine hRd2.mono ?_
      rintro e W3 ⟨hk3, (⟨rfl, hJ3⟩ | ⟨rfl, hJx3⟩)⟩
      · have G1 := hid (hk3.obj hit2.out (.inr S1.out))
        have G2 := hid (hk3.cell hcs2.out (.inl HR.out))
        have G3 := hk3.size
        have GJ := hid hJ3
        clear hk3 hJ3 hRd2 hy
        gi_wp2_with fail
        go_roundw
        case rel => exact ⟨pos + wdN s pos, ps ++ [pos], hL2, hmeas.out.2.1, GJ, G1, G2, by omega⟩
        case measure =>
          have h1 := iterPos_of G1.out
          have h2 := hpos0.out
          have h3 := hmeas.out
          omega
      · have GX := hid (HX.out _ _ none' _ _ hJx3 (fun k h => by have := S2.out k h; have := hk3.size; omega) (Kept.refl _ _) (fun k h => h.elim))
        clear hk3 hJx3 hRd2 hy
        gi_wp2_with fail
        refine bodyPost_ret (results_none rfl _ _ _) rfl ?_
        exact ⟨⟨_, rfl⟩, .inr ⟨_, hpre.out, GX.out⟩⟩
    · obtain rfl : pos = s.size := by omega
      have hnx : ∀ ty, (Instr.next (.pointer (some ⟨W.heap.size, 0, none⟩)) true ty).run Tryz.prog wr = _ := fun ty => Lib.run_next_end_at wr W.heap.size s s.size ty hit.out hp
      have hJ9 : Hid (J (posL s 0) none' wr) := by
        rw [hL.out, posL_end hp, List.append_nil]
        exact hid (HJ.out _ _ none' _ _ hJs.out (fun k h => by have := S2.out k h; omega) (Kept.refl _ _) (fun k h => h.elim))
      clear hL hJs
      gi_wp2_with fail
      go_end0
      exact ⟨⟨_, rfl⟩, .inl hJ9.out⟩
theorem pieces_seq (n : Nat) (s : ByteArray) (hs : s.size ≤ 140737488355328) (kb : Nat) (w : World) (hc : w.cell? ⟨kb, 0, none⟩ = some (.string s)) :
    SeqS Fence.wide n Tryz.prog 73 #[.pointer (some ⟨kb, 0, none⟩)] (fun p => #[pcV s p]) (fun k => k = kb) (posL s 0) w := fun l J Jx W hW hJ hX hY h0 =>
  pieces73 n s hs l kb (fun k => k = kb) rfl J Jx W hJ hX hY ((hW.cell (p := ⟨kb, 0, none⟩) (World.block_lt_of_cell? w _ hc)).trans hc) h0
end Go.Proofs.YtmpkfpabejpbkaaGreatDoor
