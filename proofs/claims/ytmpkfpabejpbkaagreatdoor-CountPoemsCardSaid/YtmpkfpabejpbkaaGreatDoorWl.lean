/- poem.empty, titled, indent; a piece's kind. Conditions: those of each theorem. -/
import Derived.Test.YtmpkfpabejpbkaaGreatDoorWe
import Derived.Test.YtmpkfpabejpbkaaGreatDoorSh2
import Derived.Test.YtmpkfpabejpbkaaGreatDoorRNLfF
namespace Go.Proofs.YtmpkfpabejpbkaaGreatDoor
open Go Go.RowKit Go.Lib Go.Shelf
set_option linter.unusedVariables false
set_option linter.unusedSimpArgs false
def trimB (s : ByteArray) : ByteArray := ⟨(Lib.trimS s.data.toList [32, 9]).toArray⟩
set_option maxHeartbeats 1000000 in
theorem empty22 (s : ByteArray) (hs : s.size ≤ 140737488355328) (w : World) : Calls Tryz.prog 22 #[.string s] w fun e w' => e = .returned (.bool (trimB s).toList.isEmpty) ∧ Below w.heap.size w w' := by
  have hcon := Any.strings_Trim_laid Tryz.lays160 (by kernel_rfl) s ⟨#[32, 9]⟩ w (by omega) (by decide) (ascii_of_all (by decide))
  change Calls Tryz.prog 45 _ _ (fun e w' => e = .returned (.string (trimB s)) ∧ Below w.heap.size w w') at hcon
  generalize trimB s = r at hcon ⊢
  have hC := hid hcon
  clear hcon
  go_enter Tryz.func22, Tryz.ntmps22
  go_wp2_with (go_at_call 45; (with_reducible refine Calls.mono hC.out ?_); rintro e w' ⟨rfl, hB⟩)
  go_ret
  exact ⟨rfl, hB⟩
def titB (s : ByteArray) : Bool := (s.toList == [35]) || Lib.hasPrefix s.data.toList [35, 32]
theorem titB_pos {s : ByteArray} (h : titB s = true) : 1 ≤ s.size := by
  rcases s with ⟨⟨l⟩⟩
  cases l with
  | nil =>
    unfold titB at h
    rw [ByteArray.toList_eq] at h
    exact absurd h (by decide)
  | cons a l => show 1 ≤ (a :: l).length; simp
set_option maxHeartbeats 1000000 in
theorem titled23 (s : ByteArray) (w : World) : Calls Tryz.prog 23 #[.string s] w fun e w' => e = .returned (.bool (titB s)) ∧ w = w' := by
  have hcon := Any.strings_HasPrefix Tryz.lays99 s ⟨#[35, 32]⟩ w
  change Calls Tryz.prog 46 _ _ (fun e w' => e = .returned (.bool (Lib.hasPrefix s.data.toList [35, 32])) ∧ w' = w) at hcon
  have hC := hid hcon
  unfold titB
  generalize Lib.hasPrefix s.data.toList [35, 32] = b at *
  clear hcon
  by_cases ha : s.toList = [35]
  · rw [show (s.toList == [35]) = true by rw [ha]; rfl]
    go_enter Tryz.func23, Tryz.ntmps23
    go_wp2_with fail
    go_ret
    exact ⟨rfl, rfl⟩
  · have hf : (s.toList == [35]) = false := by simpa using ha
    have hf := hid hf
    go_enter Tryz.func23, Tryz.ntmps23
    go_wp2_with (go_at_call 46; (with_reducible refine Calls.mono hC.out ?_); rintro e w' ⟨rfl, rfl⟩)
    go_ret
    exact ⟨rkb (by first | rfl | (rw [hf.out]; cases b <;> rfl)), rfl⟩
theorem trimp24 (s : ByteArray) (w : World) : Calls Tryz.prog 24 #[.string s, .string ⟨#[32]⟩] w fun e w' => (∃ r, e = .returned (.string r)) ∧ w = w' := by
  have hcon := Any.strings_TrimPrefix Tryz.lays101 s ⟨#[32]⟩ w
  exact Calls.mono hcon (fun e w' h => ⟨⟨_, h.1⟩, h.2.symm⟩)
set_option maxHeartbeats 1000000 in
theorem indent25 (s : ByteArray) (hs : s.size ≤ 140737488355328) (W : World) : Calls Tryz.prog 25 #[.string s] W fun e w' => ∃ n : Nat, n ≤ s.size ∧ e = .returned (.int .i64 n) ∧ Below W.heap.size W w' := by
  go_enter Tryz.func25, Tryz.ntmps25
  go_wp2_with fail
  go_loopw [3] (fun i wr => ∃ (n pos : Nat), n ≤ pos ∧ pos ≤ s.size ∧ i = .int .i64 n ∧ Hid (wr.heap[W.heap.size]? = some (.stringIter s pos)) ∧ Hid (Below W.heap.size W wr) ∧ W.heap.size < wr.heap.size) (fun i wr => s.size - wr.iterPos W.heap.size)
  case atStart =>
    exact ⟨0, 0, Nat.le_refl _, Nat.zero_le _, rfl, hid (heap_alloc_new W _), hid ((Below.refl _ W).alloc (Nat.le_refl _) _), at_lt (heap_alloc_new W _)⟩
  case round =>
    obtain ⟨n, pos, hnp, hps, rfl, hit, hB, hIl⟩ := hrel
    have hpos0 := hid (iterPos_of hit.out)
    by_cases hp : pos < s.size
    · have hnx : ∀ ty, (Instr.next (.pointer (some ⟨W.heap.size, 0, none⟩)) true ty).run Tryz.prog wr = _ := fun ty => Lib.run_next_any_at wr W.heap.size s pos ty hit.out hp
      change ∀ ty, (Instr.next (.pointer (some ⟨W.heap.size, 0, none⟩)) true ty).run Tryz.prog wr = .ok (.tuple #[.bool true, .int .i64 pos, .int .i32 (rnN s pos)]) (wr.iterAt W.heap.size s (pos + wdN s pos)) at hnx
      have hwd := wdN_pos hp
      have hit1 := hid (iterAt_heap wr W.heap.size s pos (pos + wdN s pos) hit.out)
      have hB1 : Hid (Below W.heap.size W (wr.iterAt W.heap.size s (pos + wdN s pos))) := hid (hB.out.trans ⟨rfl, rfl, rfl, by rw [iterAt_size]; exact Nat.le_refl _, fun k hk => iterAt_other wr W.heap.size k s _ (by omega)⟩)
      have hI1 : W.heap.size < (wr.iterAt W.heap.size s (pos + wdN s pos)).heap.size := by rw [iterAt_size]; exact hIl
      have hmeas : Hid (1 ≤ wdN s pos ∧ pos + wdN s pos ≤ s.size ∧ pos < s.size) := hid ⟨hwd.1, hwd.2.2, hp⟩
      obtain ⟨W1, hW1⟩ : ∃ W1, wr.iterAt W.heap.size s (pos + wdN s pos) = W1 := ⟨_, rfl⟩
      rw [hW1] at hnx hit1 hB1 hI1
      clear hW1 hwd hit hB
      generalize rnN s pos = r at *
      by_cases hr : r = 32
      · have e1 : ((r : Int) != 32) = false := by subst hr; decide
        clear hr
        go_wp2_with fail
        go_roundw
        case rel => exact ⟨n + 1, pos + wdN s pos, by have := hmeas.out; omega, hmeas.out.2.1, by go_num, hit1, hB1, hI1⟩
        case measure =>
          have h1 := iterPos_of hit1.out
          have h2 := hpos0.out
          have h3 := hmeas.out
          omega
      · have e1 : ((r : Int) != 32) = true := by
          have : ¬ ((r : Int) = 32) := by omega
          simpa using this
        clear hr
        go_wp2_with fail
        go_ret
        exact ⟨n, by omega, rfl, hB1.out⟩
    · obtain rfl : pos = s.size := by omega
      have hnx : ∀ ty, (Instr.next (.pointer (some ⟨W.heap.size, 0, none⟩)) true ty).run Tryz.prog wr = _ := fun ty => Lib.run_next_end_at wr W.heap.size s s.size ty hit.out hp
      go_wp2_with fail
      go_ret
      exact ⟨n, hnp, rfl, hB.out⟩
theorem rn_bd {s : ByteArray} {p : Nat} (h : p < s.size) : rnN s p ≤ 1114111 := by
  have := R.dec_at s p h
  unfold rnN
  cases hd : Utf8.decode s p with
  | mk r w =>
    rw [hd] at this
    cases this with
    | rune _ _ h1 h2 h3 h4 h5 h6 h7 => first | omega | (dsimp only; omega)
    | lost h1 h2 => decide
    | broken h0 h1 => decide
theorem of_ok : OfOk := by
  intro s p hp w
  have hb := rn_bd hp
  unfold pcV kP
  cases hbr : isBr s p
  · have hK := hid (fun w => R.kind81 (rnN s p) (by omega) (by omega) w)
    have hB : Hid (Below w.heap.size w (w.alloc (.cells #[.int .i64 p, .int .i64 (wdN s p), .int .i32 (rnN s p), .bool false] 124))) := hid ((Below.refl _ w).alloc (Nat.le_refl _) _)
    generalize rnN s p = r at *
    generalize wdN s p = wd at *
    clear hb hbr
    go_enter Tryz.func80, Tryz.ntmps80
    go_wp2_with (go_at_call 92; (with_reducible refine Calls.mono (hK.out _) ?_); rintro e w' ⟨rfl, rfl⟩)
    go_ret
    exact ⟨rfl, hB.out⟩
  · have hB : Hid (Below w.heap.size w (w.alloc (.cells #[.int .i64 p, .int .i64 (wdN s p), .int .i32 (rnN s p), .bool true] 124))) := hid ((Below.refl _ w).alloc (Nat.le_refl _) _)
    generalize rnN s p = r at *
    generalize wdN s p = wd at *
    clear hb hbr
    go_enter Tryz.func80, Tryz.ntmps80
    go_wp2_with fail
    go_ret
    exact ⟨rfl, hB.out⟩
end Go.Proofs.YtmpkfpabejpbkaaGreatDoor
