/- The piece at a place of a text, as runes.At tells it. Conditions: those of each theorem. -/
import Derived.Test.YtieifhfgedoiaaaDoorRdA
import Derived.Test.YtieifhfgedoiaaaDoorMb
namespace Go.Proofs.YtieifhfgedoiaaaDoor
open Go.RowKit Go.Lib
set_option linter.unusedVariables false
set_option linter.unusedSimpArgs false
theorem width_rune (r : Int) (hn : (r != 65533) = true) (h4 : ((Utf8.encode r).toList == [239, 191, 189]) = false) (w : World) :
    Calls Tryd.prog 104 #[.int .i32 r] w fun e w' => e = .returned (.int .i64 (Utf8.encode r).size) ∧ w = w' := by
  go_enter Tryd.func104, Tryd.ntmps104
  go_wp2_with fail
  go_ret
  exact ⟨rfl, rfl⟩
theorem width_lost (w : World) :
    Calls Tryd.prog 104 #[.int .i32 65533] w fun e w' => e = .returned (.int .i64 3) ∧ w = w' := by
  go_enter Tryd.func104, Tryd.ntmps104
  go_wp2_with fail
  go_ret
  exact ⟨rfl, rfl⟩
/-- a piece of the program's -/
def pieceV (pos w r : Nat) (br : Bool) : Value := .agg #[.int .i64 pos, .int .i64 w, .int .i32 r, .bool br]
def brB (r w : Nat) : Bool := decide (r = 65533 ∧ w = 1)
def decV (s : ByteArray) (pos : Nat) : Value := pieceV pos (Utf8.decode s pos).2 (Utf8.decode s pos).1 (brB (Utf8.decode s pos).1 (Utf8.decode s pos).2)
set_option maxHeartbeats 1000000 in
theorem read_any (s : ByteArray) (pos : Nat) (hp : pos < s.size) (hs : s.size ≤ 140737488355328) (w : World) :
    Calls Tryd.prog 92 #[.string s, .int .i64 pos] w fun e w' => e = .returned (decV s pos) ∧ Below w.heap.size w w' := by
  have hd := dec_at s pos hp
  have ht := tail_decode s pos 0
  rw [Nat.add_zero] at ht
  have hsz := tail_size s pos
  have hnx := fun (wr : World) (k : Nat) ty h => run_next_any_at (P := Tryd.prog) wr k (s.extract pos s.size) 0 ty h (by omega)
  rw [ht] at hnx
  unfold decV
  generalize (Utf8.decode s pos).1 = r at *
  generalize (Utf8.decode s pos).2 = wd at *
  have hHd := hid hd
  clear hd
  obtain ⟨bb, hbb⟩ : ∃ bb, brB r wd = bb := ⟨_, rfl⟩
  rw [hbb]
  have hBB := hid hbb
  clear hbb
  go_enter Tryd.func92, Tryd.ntmps92
  go_wp2_with fail
  refine wp_loop_rounds 1 ?_
  rw [rounds_succ]
  have hne : ∀ ty, (Instr.next (.pointer (some ⟨w.heap.size + 1, 0, none⟩)) true ty).run Tryd.prog ((w.alloc (.cells #[.int .i64 0, .int .i64 0, .int .i32 0, .bool false] 154)).iter (s.extract pos s.size) 0) = _ := fun ty => hnx _ _ ty (by have := heap_alloc_new (w.alloc (.cells #[.int .i64 0, .int .i64 0, .int .i32 0, .bool false] 154)) (.stringIter (s.extract pos s.size) 0); rw [World.size_alloc] at this; exact this)
  clear hnx
  have hbW : Hid (Below w.heap.size w (((w.alloc (.cells #[.int .i64 0, .int .i64 0, .int .i32 0, .bool false] 154)).iter (s.extract pos s.size) 0).iterAt (w.heap.size + 1) (s.extract pos s.size) (0 + wd))) := hid (below_iterAt (((Below.refl w.heap.size w).alloc (Nat.le_refl _) (.cells #[.int .i64 0, .int .i64 0, .int .i32 0, .bool false] 154)).alloc (by simp) (.stringIter (s.extract pos s.size) 0)) (k := w.heap.size + 1) (Nat.le_succ _) (s.extract pos s.size) (0 + wd))
  have hk : Blk (((w.alloc (.cells #[.int .i64 0, .int .i64 0, .int .i32 0, .bool false] 154)).iter (s.extract pos s.size) 0).iterAt (w.heap.size + 1) (s.extract pos s.size) (0 + wd)) w.heap.size 154 #[.int .i64 0, .int .i64 0, .int .i32 0, .bool false] := (iterAt_other ((w.alloc (.cells #[.int .i64 0, .int .i64 0, .int .i32 0, .bool false] 154)).iter (s.extract pos s.size) 0) (w.heap.size + 1) w.heap.size (s.extract pos s.size) (0 + wd) (by omega)).trans ((Blk.new w 154 _).alloc (.stringIter (s.extract pos s.size) 0))
  generalize ((w.alloc (.cells #[.int .i64 0, .int .i64 0, .int .i32 0, .bool false] 154)).iter (s.extract pos s.size) 0).iterAt (w.heap.size + 1) (s.extract pos s.size) (0 + wd) = W1 at *
  have hk0 := hid hk
  have hf := hk.froz
  have c0 := hk.cell (k := 0) rfl
  have c1 := hk.cell (k := 1) rfl
  have c2 := hk.cell (k := 2) rfl
  have c3 := hk.cell (k := 3) rfl
  clear hk
  cases hHd.out with
  | rune _ _ h1 h2 h3 h4 h5 h6 h7 =>
    have q1 : ((r : Int) != 65533) = true := bne_true_of (by omega)
    have q2 : ((r : Int) == 65533) = false := beq_false_of (by omega)
    obtain rfl : bb = false := hBB.out.symm.trans (decide_eq_false (by omega))
    have hW := hid (width_rune r q1 h4)
    rw [h3] at hW
    clear h1 h2 h3 h4 h5 h6 h7 hHd hBB
    go_wp2_with (go_at_call 104; (with_reducible refine Calls.mono (hW.out _) ?_); rintro e w' ⟨rfl, rfl⟩)
    exact bodyPost_ret (v := pieceV pos wd r false) (by simp [pieceV, results, Tryd.results92, go_sem, c0, c1, c2, c3]) rfl ⟨rfl, (((hbW.out.setCell (p := ⟨w.heap.size, 0, none⟩) (Nat.le_refl _) _).setCell (p := ⟨w.heap.size, 1, none⟩) (Nat.le_refl _) _).setCell (p := ⟨w.heap.size, 2, none⟩) (Nat.le_refl _) _).setCell (p := ⟨w.heap.size, 3, none⟩) (Nat.le_refl _) _⟩
  | lost h1 h2 =>
    have q1 : decide ((s.size : Int) - pos < 3) = false := decide_eq_false (by omega)
    have q2 : ((s.extract pos (pos + 3)).toList == [239, 191, 189]) = true := h2
    obtain rfl : bb = false := hBB.out.symm.trans (decide_eq_false (by omega))
    go_wp2_with (go_at_call 104; (with_reducible refine Calls.mono (width_lost _) ?_); rintro e w' ⟨rfl, rfl⟩)
    exact bodyPost_ret (v := pieceV pos 3 65533 false) (by simp [pieceV, results, Tryd.results92, go_sem, c0, c1, c2, c3]) rfl ⟨rfl, (((hbW.out.setCell (p := ⟨w.heap.size, 0, none⟩) (Nat.le_refl _) _).setCell (p := ⟨w.heap.size, 1, none⟩) (Nat.le_refl _) _).setCell (p := ⟨w.heap.size, 2, none⟩) (Nat.le_refl _) _).setCell (p := ⟨w.heap.size, 3, none⟩) (Nat.le_refl _) _⟩
  | broken h0 h1 =>
    obtain rfl : bb = true := hBB.out.symm.trans (decide_eq_true (by omega))
    rcases h1 with h1 | ⟨h1, h2⟩
    · have q1 : decide ((s.size : Int) - pos < 3) = true := decide_eq_true (by omega)
      go_wp2_with (go_at_call 104; (with_reducible refine Calls.mono (width_lost _) ?_); rintro e w' ⟨rfl, rfl⟩)
      exact bodyPost_ret (v := pieceV pos 1 65533 true) (by simp [pieceV, results, Tryd.results92, go_sem, c0, c1, c2, c3]) rfl ⟨rfl, (((hbW.out.setCell (p := ⟨w.heap.size, 0, none⟩) (Nat.le_refl _) _).setCell (p := ⟨w.heap.size, 1, none⟩) (Nat.le_refl _) _).setCell (p := ⟨w.heap.size, 2, none⟩) (Nat.le_refl _) _).setCell (p := ⟨w.heap.size, 3, none⟩) (Nat.le_refl _) _⟩
    · have q1 : decide ((s.size : Int) - pos < 3) = false := decide_eq_false (by omega)
      have q2 : ((s.extract pos (pos + 3)).toList == [239, 191, 189]) = false := h2
      go_wp2_with (go_at_call 104; (with_reducible refine Calls.mono (width_lost _) ?_); rintro e w' ⟨rfl, rfl⟩)
      exact bodyPost_ret (v := pieceV pos 1 65533 true) (by simp [pieceV, results, Tryd.results92, go_sem, c0, c1, c2, c3]) rfl ⟨rfl, (((hbW.out.setCell (p := ⟨w.heap.size, 0, none⟩) (Nat.le_refl _) _).setCell (p := ⟨w.heap.size, 1, none⟩) (Nat.le_refl _) _).setCell (p := ⟨w.heap.size, 2, none⟩) (Nat.le_refl _) _).setCell (p := ⟨w.heap.size, 3, none⟩) (Nat.le_refl _) _⟩
end Go.Proofs.YtieifhfgedoiaaaDoor
