/- What the decoding of a rune at a place says of its form: its width, its bytes, and where a byte is broken. Conditions: those of each theorem. -/
import Derived.Test.YtmpkfpabejpbkaaGreatDoorRNLfA
import Derived.Lib.MapLaws
import Derived.Lib.RuneCountTail
import Derived.Test.YtmpkfpabejpbkaaGreatDoorRNMb
namespace Go.Proofs.YtmpkfpabejpbkaaGreatDoor.R
open Go.RowKit Go.Lib
set_option linter.unusedVariables false
set_option linter.unusedSimpArgs false
def FF : List UInt8 := [239, 191, 189]
theorem drop_take3 (l : List UInt8) (i : Nat) (h : i + 3 ≤ l.length) : (l.drop i).take 3 = [l.getD i 0, l.getD (i + 1) 0, l.getD (i + 2) 0] := by
 induction l generalizing i with
 | nil => simp at h
 | cons a t ih =>
  cases i with
  | zero =>
   match t, h with
   | b :: c :: r, _ => rfl
   | [], h => simp at h
   | [b], h => simp at h
  | succ i =>
   have := ih i (by simp at h; omega)
   simpa using this
theorem ext3 (s : ByteArray) (i : Nat) (h : i + 3 ≤ s.size) : (s.extract i (i + 3)).toList = [s.get! i, s.get! (i + 1), s.get! (i + 2)] := by
 rw [extract_toList, show i + 3 - i = 3 by omega, drop_take3 _ _ (by simpa using h), getD_get!', getD_get!', getD_get!']
theorem enc_size (r : Nat) (hv : r < 55296 ∨ 57344 ≤ r ∧ r ≤ 1114111) : (Utf8.encode (r : Int)).size = if r < 128 then 1 else if r < 2048 then 2 else if r < 65536 then 3 else 4 := by
 have h : Utf8.valid (r : Int) = true := by simp [Utf8.valid]; omega
 unfold Utf8.encode
 simp only [h, if_true, Int.toNat_natCast]
 repeat' split
 all_goals first | rfl | omega
theorem u8_ofNat_eq {a b : Nat} (ha : a < 256) (hb : b < 256) (h : UInt8.ofNat a = UInt8.ofNat b) : a = b := by
 have := congrArg UInt8.toNat h
 simpa [Nat.mod_eq_of_lt ha, Nat.mod_eq_of_lt hb] using this
theorem enc_ne (r : Nat) (hv : r < 55296 ∨ 57344 ≤ r ∧ r ≤ 1114111) (hn : r ≠ 65533) : ((Utf8.encode (r : Int)).toList == FF) = false := by
 have h : Utf8.valid (r : Int) = true := by simp [Utf8.valid]; omega
 rw [toList_data, ← Bool.not_eq_true, beq_iff_eq]
 unfold Utf8.encode FF
 simp only [h, if_true, Int.toNat_natCast]
 intro he
 split at he
 ·simp at he
 ·split at he
  ·simp at he
  ·split at he
   ·injection he with h1 he
    injection he with h2 he
    injection he with h3 he
    have e1 := u8_ofNat_eq (a := 224 + r / 4096) (b := 239) (by omega) (by omega) h1
    have e2 := u8_ofNat_eq (a := 128 + r / 64 % 64) (b := 191) (by omega) (by omega) h2
    have e3 := u8_ofNat_eq (a := 128 + r % 64) (b := 189) (by omega) (by omega) h3
    omega
   ·simp at he
theorem dN_FF (n b3 : Nat) (h : 3 ≤ n) : decodeN n 239 191 189 b3 = (65533, 3) := by
 unfold decodeN
 rw [if_neg (by omega), if_neg (by omega), if_pos (by omega), if_pos (by omega)]
inductive DecAt (s : ByteArray) (pos : Nat) : Nat → Nat → Prop
 | rune (r w : Nat) (h1 : r ≠ 65533) (h2 : r < 55296 ∨ 57344 ≤ r ∧ r ≤ 1114111) (h3 : (Utf8.encode (r : Int)).size = w) (h4 : ((Utf8.encode (r : Int)).toList == FF) = false) (h5 : 1 ≤ w) (h6 : w ≤ 4) (h7 : pos + w ≤ s.size) : DecAt s pos r w
 | lost (h1 : pos + 3 ≤ s.size) (h2 : ((s.extract pos (pos + 3)).toList == FF) = true) : DecAt s pos 65533 3
 | broken (h0 : pos + 1 ≤ s.size) (h1 : s.size < pos + 3 ∨ pos + 3 ≤ s.size ∧ ((s.extract pos (pos + 3)).toList == FF) = false) : DecAt s pos 65533 1
theorem u8_toNat_eq {a : UInt8} {n : Nat} (h : a.toNat = n) (hn : n < 256) : a = UInt8.ofNat n := by
 apply UInt8.toNat_inj.1
 simp [h, Nat.mod_eq_of_lt hn]
theorem dec_at (s : ByteArray) (pos : Nat) (hp : pos < s.size) : DecAt s pos (Utf8.decode s pos).1 (Utf8.decode s pos).2 := by
 rw [decode_at]
 have e3 := ext3 s pos
 have l0 := UInt8.toNat_lt (s.get! pos)
 have l1 := UInt8.toNat_lt (s.get! (pos + 1))
 have l2 := UInt8.toNat_lt (s.get! (pos + 2))
 have l3 := UInt8.toNat_lt (s.get! (pos + 3))
 have key : ∀ r w : Nat, r ≠ 65533 → (r < 55296 ∨ 57344 ≤ r ∧ r ≤ 1114111) → w = (if r < 128 then 1 else if r < 2048 then 2 else if r < 65536 then 3 else 4) → pos + w ≤ s.size → DecAt s pos r w := by
  intro r w h1 h2 h3 h4
  refine .rune r w h1 h2 (by rw [enc_size r h2, h3]) (enc_ne r h2 h1) ?_ ?_ h4
  ·rw [h3]; split <;> (try split) <;> (try split) <;> omega
  ·rw [h3]; split <;> (try split) <;> (try split) <;> omega
 rcases decodeN_shape (s.size - pos) (s.get! pos).toNat (s.get! (pos + 1)).toNat (s.get! (pos + 2)).toNat (s.get! (pos + 3)).toNat with ⟨h, e⟩ | ⟨a, b, c, d, e⟩ | ⟨a, b, c, c2, d, d2, e⟩ | ⟨a, b, c, c2, c3, d, d2, e⟩ | e
 ·rw [e]
  exact key _ _ (by show (s.get! pos).toNat ≠ 65533; omega) (by show (s.get! pos).toNat < 55296 ∨ _; omega) (by show 1 = _; rw [if_pos h]) (by show pos + 1 ≤ _; omega)
 ·rw [e]
  refine key _ 2 ?_ ?_ ?_ ?_
  ·omega
  ·omega
  ·rw [if_neg (by omega), if_pos (by omega)]
  ·omega
 ·rw [e]
  by_cases h5 : (s.get! pos).toNat % 16 * 4096 + (s.get! (pos + 1)).toNat % 64 * 64 + (s.get! (pos + 2)).toNat % 64 = 65533
  ·show DecAt s pos _ 3
   rw [h5]
   refine .lost (by omega) ?_
   rw [e3 (by omega), u8_toNat_eq (show (s.get! pos).toNat = 239 by omega) (by omega), u8_toNat_eq (show (s.get! (pos + 1)).toNat = 191 by omega) (by omega), u8_toNat_eq (show (s.get! (pos + 2)).toNat = 189 by omega) (by omega)]
   rfl
  ·refine key _ 3 h5 ?_ ?_ ?_
   ·omega
   ·rw [if_neg (by omega), if_neg (by omega), if_pos (by omega)]
   ·omega
 ·rw [e]
  refine key _ 4 ?_ ?_ ?_ ?_
  ·omega
  ·omega
  ·rw [if_neg (by omega), if_neg (by omega), if_neg (by omega)]
  ·omega
 ·rw [e]
  refine .broken (by omega) ?_
  by_cases h3 : pos + 3 ≤ s.size
  ·refine .inr ⟨h3, ?_⟩
   rw [← Bool.not_eq_true, beq_iff_eq, e3 h3]
   intro he
   injection he with q1 he
   injection he with q2 he
   injection he with q3 he
   rw [q1, q2, q3] at e
   have := dN_FF (s.size - pos) (s.get! (pos + 3)).toNat (by omega)
   rw [show (239 : UInt8).toNat = 239 from rfl, show (191 : UInt8).toNat = 191 from rfl, show (189 : UInt8).toNat = 189 from rfl, this] at e
   exact absurd (congrArg Prod.snd e) (by simp)
  ·exact .inl (by omega)
end Go.Proofs.YtmpkfpabejpbkaaGreatDoor.R
/- The piece at a place of a text, as runes.At tells it. Conditions: those of each theorem. -/
namespace Go.Proofs.YtmpkfpabejpbkaaGreatDoor.R
open Go.RowKit Go.Lib
set_option linter.unusedVariables false
set_option linter.unusedSimpArgs false
theorem width_rune (r : Int) (hn : (r != 65533) = true) (h4 : ((Utf8.encode r).toList == [239, 191, 189]) = false) (w : World) :
  Calls Tryz.prog 88 #[.int .i32 r] w fun e w' => e = .returned (.int .i64 (Utf8.encode r).size) ∧ w = w' := by
 go_enter Tryz.func88, Tryz.ntmps88
 go_wp2_with fail
 go_ret
 exact ⟨rfl, rfl⟩
theorem width_lost (w : World) :
  Calls Tryz.prog 88 #[.int .i32 65533] w fun e w' => e = .returned (.int .i64 3) ∧ w = w' := by
 go_enter Tryz.func88, Tryz.ntmps88
 go_wp2_with fail
 go_ret
 exact ⟨rfl, rfl⟩
def pieceV (pos w r : Nat) (br : Bool) : Value := .agg #[.int .i64 pos, .int .i64 w, .int .i32 r, .bool br]
def brB (r w : Nat) : Bool := decide (r = 65533 ∧ w = 1)
def decV (s : ByteArray) (pos : Nat) : Value := pieceV pos (Utf8.decode s pos).2 (Utf8.decode s pos).1 (brB (Utf8.decode s pos).1 (Utf8.decode s pos).2)
set_option maxHeartbeats 1000000 in
theorem read_any (s : ByteArray) (pos : Nat) (hp : pos < s.size) (hs : s.size ≤ 140737488355328) (w : World) :
  Calls Tryz.prog 74 #[.string s, .int .i64 pos] w fun e w' => e = .returned (decV s pos) ∧ Below w.heap.size w w' := by
 have hd := dec_at s pos hp
 have ht := tail_decode s pos 0
 rw [Nat.add_zero] at ht
 have hsz := tail_size s pos
 have hnx := fun (wr : World) (k : Nat) ty h => run_next_any_at (P := Tryz.prog) wr k (s.extract pos s.size) 0 ty h (by omega)
 rw [ht] at hnx
 unfold decV
 generalize (Utf8.decode s pos).1 = r at *
 generalize (Utf8.decode s pos).2 = wd at *
 have hHd := hid hd
 clear hd
 obtain ⟨bb, hbb⟩ : ∃ bb, brB r wd = bb := ⟨_, rfl⟩
 rw [hbb]
 have hBB := hid hbb
 clear hbb
 go_enter Tryz.func74, Tryz.ntmps74
 go_wp2_with fail
 refine wp_loop_rounds 1 ?_
 rw [rounds_succ]
 have hne : ∀ ty, (Instr.next (.pointer (some ⟨w.heap.size + 1, 0, none⟩)) true ty).run Tryz.prog ((w.alloc (.cells #[.int .i64 0, .int .i64 0, .int .i32 0, .bool false] 124)).iter (s.extract pos s.size) 0) = _ := fun ty => hnx _ _ ty (by have := heap_alloc_new (w.alloc (.cells #[.int .i64 0, .int .i64 0, .int .i32 0, .bool false] 124)) (.stringIter (s.extract pos s.size) 0); rw [World.size_alloc] at this; exact this)
 clear hnx
 have hbW : Hid (Below w.heap.size w (((w.alloc (.cells #[.int .i64 0, .int .i64 0, .int .i32 0, .bool false] 124)).iter (s.extract pos s.size) 0).iterAt (w.heap.size + 1) (s.extract pos s.size) (0 + wd))) := hid (below_iterAt (((Below.refl w.heap.size w).alloc (Nat.le_refl _) (.cells #[.int .i64 0, .int .i64 0, .int .i32 0, .bool false] 124)).alloc (by simp) (.stringIter (s.extract pos s.size) 0)) (k := w.heap.size + 1) (Nat.le_succ _) (s.extract pos s.size) (0 + wd))
 have hk : Blk (((w.alloc (.cells #[.int .i64 0, .int .i64 0, .int .i32 0, .bool false] 124)).iter (s.extract pos s.size) 0).iterAt (w.heap.size + 1) (s.extract pos s.size) (0 + wd)) w.heap.size 124 #[.int .i64 0, .int .i64 0, .int .i32 0, .bool false] := (iterAt_other ((w.alloc (.cells #[.int .i64 0, .int .i64 0, .int .i32 0, .bool false] 124)).iter (s.extract pos s.size) 0) (w.heap.size + 1) w.heap.size (s.extract pos s.size) (0 + wd) (by omega)).trans ((Blk.new w 124 _).alloc (.stringIter (s.extract pos s.size) 0))
 generalize ((w.alloc (.cells #[.int .i64 0, .int .i64 0, .int .i32 0, .bool false] 124)).iter (s.extract pos s.size) 0).iterAt (w.heap.size + 1) (s.extract pos s.size) (0 + wd) = W1 at *
 have hk0 := hid hk
 have hf := hk.froz
 have c0 := hk.cell (k := 0) rfl
 have c1 := hk.cell (k := 1) rfl
 have c2 := hk.cell (k := 2) rfl
 have c3 := hk.cell (k := 3) rfl
 clear hk
 cases hHd.out with
 | rune _ _ h1 h2 h3 h4 h5 h6 h7 =>
  have q1 : ((r : Int) != 65533) = true := bne_true_of (by omega)
  have q2 : ((r : Int) == 65533) = false := beq_false_of (by omega)
  obtain rfl : bb = false := hBB.out.symm.trans (decide_eq_false (by omega))
  have hW := hid (width_rune r q1 h4)
  rw [h3] at hW
  clear h1 h2 h3 h4 h5 h6 h7 hHd hBB
  go_wp2_with (go_at_call 88; (with_reducible refine Calls.mono (hW.out _) ?_); rintro e w' ⟨rfl, rfl⟩)
  exact bodyPost_ret (v := pieceV pos wd r false) (by simp [pieceV, results, Tryz.results74, go_sem, c0, c1, c2, c3]) rfl ⟨rfl, (((hbW.out.setCell (p := ⟨w.heap.size, 0, none⟩) (Nat.le_refl _) _).setCell (p := ⟨w.heap.size, 1, none⟩) (Nat.le_refl _) _).setCell (p := ⟨w.heap.size, 2, none⟩) (Nat.le_refl _) _).setCell (p := ⟨w.heap.size, 3, none⟩) (Nat.le_refl _) _⟩
 | lost h1 h2 =>
  have q1 := dF (show ¬ ((s.size : Int) - pos < 3) by omega)
  have q2 : ((s.extract pos (pos + 3)).toList == [239, 191, 189]) = true := h2
  obtain rfl : bb = false := hBB.out.symm.trans (decide_eq_false (by omega))
  go_wp2_with (go_at_call 88; (with_reducible refine Calls.mono (width_lost _) ?_); rintro e w' ⟨rfl, rfl⟩)
  exact bodyPost_ret (v := pieceV pos 3 65533 false) (by simp [pieceV, results, Tryz.results74, go_sem, c0, c1, c2, c3]) rfl ⟨rfl, (((hbW.out.setCell (p := ⟨w.heap.size, 0, none⟩) (Nat.le_refl _) _).setCell (p := ⟨w.heap.size, 1, none⟩) (Nat.le_refl _) _).setCell (p := ⟨w.heap.size, 2, none⟩) (Nat.le_refl _) _).setCell (p := ⟨w.heap.size, 3, none⟩) (Nat.le_refl _) _⟩
 | broken h0 h1 =>
  obtain rfl : bb = true := hBB.out.symm.trans (decide_eq_true (by omega))
  rcases h1 with h1 | ⟨h1, h2⟩
  ·have q1 := dT (show (s.size : Int) - pos < 3 by omega)
   go_wp2_with (go_at_call 88; (with_reducible refine Calls.mono (width_lost _) ?_); rintro e w' ⟨rfl, rfl⟩)
   exact bodyPost_ret (v := pieceV pos 1 65533 true) (by simp [pieceV, results, Tryz.results74, go_sem, c0, c1, c2, c3]) rfl ⟨rfl, (((hbW.out.setCell (p := ⟨w.heap.size, 0, none⟩) (Nat.le_refl _) _).setCell (p := ⟨w.heap.size, 1, none⟩) (Nat.le_refl _) _).setCell (p := ⟨w.heap.size, 2, none⟩) (Nat.le_refl _) _).setCell (p := ⟨w.heap.size, 3, none⟩) (Nat.le_refl _) _⟩
  ·have q1 := dF (show ¬ ((s.size : Int) - pos < 3) by omega)
   have q2 : ((s.extract pos (pos + 3)).toList == [239, 191, 189]) = false := h2
   go_wp2_with (go_at_call 88; (with_reducible refine Calls.mono (width_lost _) ?_); rintro e w' ⟨rfl, rfl⟩)
   exact bodyPost_ret (v := pieceV pos 1 65533 true) (by simp [pieceV, results, Tryz.results74, go_sem, c0, c1, c2, c3]) rfl ⟨rfl, (((hbW.out.setCell (p := ⟨w.heap.size, 0, none⟩) (Nat.le_refl _) _).setCell (p := ⟨w.heap.size, 1, none⟩) (Nat.le_refl _) _).setCell (p := ⟨w.heap.size, 2, none⟩) (Nat.le_refl _) _).setCell (p := ⟨w.heap.size, 3, none⟩) (Nat.le_refl _) _⟩
end Go.Proofs.YtmpkfpabejpbkaaGreatDoor.R
