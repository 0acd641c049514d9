/- Memory: blocks of cells as they lie, and worlds in which nothing but some blocks has turned. Conditions: those of each theorem. -/
import Derived.Test.YteodfondjogmoaaGreatDoorProg
import Derived.StillTail
import Derived.StillTailTactics
import Derived.WalkKit
import Derived.WalkSpells
import Derived.WalkLawsBesides
import Derived.Outline
import Derived.Below
import Derived.Carry
import Derived.Lib.Hide
import Derived.Lib.OthersKept
import Derived.Test.YteodfondjogmoaaGreatDoorRNLfA
import Derived.Lib.MapLaws
import Derived.Lib.RuneCountTail
import Derived.Test.YteodfondjogmoaaGreatDoorJa
import Derived.OwnWalkIn
import Derived.TacticsInMore
import Derived.LoopNIn
import Derived.LoopIn
namespace Go.Proofs.YteodfondjogmoaaGreatDoor.R
open Go.RowKit Go.Lib
set_option linter.unusedVariables false
set_option linter.unusedSimpArgs false
theorem blk_cell {w : World} {b k : Nat} {c : Array Value} {T : TypeId} {v : Value} (h : w.heap[b]? = some (.cells c T (0, 0))) (hk : c[k]? = some v) : w.cell? ⟨b, k, none⟩ = some v := by
 simp [World.cell?, h, hk]
theorem blk_froz {w : World} {b : Nat} {c : Array Value} {T : TypeId} (h : w.heap[b]? = some (.cells c T (0, 0))) : ∀ k, w.frozen? ⟨b, k, none⟩ = false := by
 intro k; simp [World.frozen?, h]
theorem stop_here {p : Prop} (h : Hid p) : p := h.out
def Blk (W : World) (B : Nat) (t : TypeId) (c : Array Value) : Prop := W.heap[B]? = some (.cells c t (0, 0))
section
variable {W W' : World} {B : Nat} {t : TypeId} {c : Array Value}
theorem Blk.lt (h : Blk W B t c) : B < W.heap.size := (Array.getElem?_eq_some_iff.1 h).1
theorem Blk.cell (h : Blk W B t c) {k : Nat} {v : Value} (hk : c[k]? = some v) : W.cell? ⟨B, k, none⟩ = some v := blk_cell h hk
theorem Blk.froz (h : Blk W B t c) (k : Nat) : W.frozen? ⟨B, k, none⟩ = false := blk_froz h k
theorem Blk.low (h : Blk W B t c) (hb : Below W.heap.size W W') : Blk W' B t c := (hb.block B h.lt).trans h
theorem Blk.lowN {n : Nat} (h : Blk W B t c) (hb : Below n W W') (hn : B < n) : Blk W' B t c := (hb.block B hn).trans h
theorem Blk.new (W : World) (t : TypeId) (c : Array Value) : Blk (W.alloc (.cells c t)) W.heap.size t c := heap_alloc_new W _
theorem Blk.alloc (h : Blk W B t c) (o : Obj) : Blk (W.alloc o) B t c := h.low ((Below.refl _ _).alloc (Nat.le_refl _) _)
theorem Blk.kept {row : Option Nat} (h : Blk W B t c) (hg : W.grownBy W' row) (hne : some B ≠ row) : Blk W' B t c := (hg.block B h.lt hne).trans h
theorem Blk.other (h : Blk W B t c) {B' k : Nat} (hne : B ≠ B') (u : Value) : Blk (W.setCell ⟨B', k, none⟩ u) B t c :=
 (Below.heap_setCell W ⟨B', k, none⟩ u B hne).trans h
theorem Blk.set (h : Blk W B t c) (k : Nat) (u : Value) : Blk (W.setCell ⟨B, k, none⟩ u) B t (c.setIfInBounds k u) := by
 obtain ⟨hlt, hk⟩ := Array.getElem?_eq_some_iff.1 h
 show (W.heap.modify B _)[B]? = _
 rw [Array.getElem?_eq_getElem (by rw [Array.size_modify]; exact hlt), Array.getElem_modify_self, hk]
 rfl
end
structure ButS (S : List Nat) (w w' : World) : Prop where
 os : w'.os = w.os
 tape : w'.tape = w.tape
 output : w'.output = w.output
 size : w.heap.size ≤ w'.heap.size
 block : ∀ k, k < w.heap.size → k ∉ S → w'.heap[k]? = w.heap[k]?
section
variable {S T : List Nat} {a b c w w' : World}
theorem ButS.refl (S : List Nat) (w : World) : ButS S w w := ⟨rfl, rfl, rfl, Nat.le_refl _, fun _ _ _ => rfl⟩
theorem ButS.trans (h : ButS S a b) (k : ButS S b c) : ButS S a c :=
 ⟨k.os.trans h.os, k.tape.trans h.tape, k.output.trans h.output, Nat.le_trans h.size k.size, fun i hi hS => (k.block i (Nat.lt_of_lt_of_le hi h.size) hS).trans (h.block i hi hS)⟩
theorem ButS.mono (h : ButS S a b) (hT : ∀ k, k ∈ S → k < a.heap.size → k ∈ T) : ButS T a b :=
 ⟨h.os, h.tape, h.output, h.size, fun i hi hn => h.block i hi (fun hs => hn (hT i hs hi))⟩
theorem ButS.of (h : Below w.heap.size w w') : ButS S w w' := ⟨h.os, h.tape, h.output, h.size, fun k hk _ => h.block k hk⟩
theorem ButS.low (h : ButS S a b) (hb : Below b.heap.size b c) : ButS S a c := h.trans (.of hb)
theorem ButS.set (h : ButS S a b) {R : Nat} (hR : R ∈ S) (k : Nat) (u : Value) : ButS S a (b.setCell ⟨R, k, none⟩ u) :=
 h.trans ⟨rfl, rfl, rfl, by simp [World.setCell], fun i _ hi => Below.heap_setCell _ _ _ _ (fun e => hi (by rw [e]; exact hR))⟩
theorem ButS.alloc (h : ButS S a b) (o : Obj) : ButS S a (b.alloc o) := h.low ((Below.refl _ _).alloc (Nat.le_refl _) o)
theorem ButS.blk (h : ButS S w w') {B : Nat} {t : TypeId} {c : Array Value} (hk : Blk w B t c) (hB : B ∉ S) : Blk w' B t c := (h.block B hk.lt hB).trans hk
theorem ButS.below {n : Nat} (h : ButS S w w') (hS : ∀ k ∈ S, n ≤ k) (hn : n ≤ w.heap.size) : Below n w w' :=
 ⟨h.os, h.tape, h.output, h.size, fun k hk => h.block k (by omega) (fun hs => by have := hS k hs; omega)⟩
end
theorem dT {p : Prop} [Decidable p] (h : p) : decide p = true := decide_eq_true h
theorem dF {p : Prop} [Decidable p] (h : ¬ p) : decide p = false := decide_eq_false h
theorem Wi64 {x : Int} (h : -9223372036854775808 ≤ x ∧ x ≤ 9223372036854775807) : IntKind.i64.wrap x = x := IntWalk.i64_in _ h
theorem Wu8 {x : Int} (h : 0 ≤ x ∧ x ≤ 255) : IntKind.u8.wrap x = x := IntWalk.u8_in _ h
end Go.Proofs.YteodfondjogmoaaGreatDoor.R
/- What the decoding of a rune at a place says of its form: its width, its bytes, and where a byte is broken. Conditions: those of each theorem. -/
namespace Go.Proofs.YteodfondjogmoaaGreatDoor.R
open Go.RowKit Go.Lib
set_option linter.unusedVariables false
set_option linter.unusedSimpArgs false
def FF : List UInt8 := [239, 191, 189]
theorem drop_take3 (l : List UInt8) (i : Nat) (h : i + 3 ≤ l.length) : (l.drop i).take 3 = [l.getD i 0, l.getD (i + 1) 0, l.getD (i + 2) 0] := by
 induction l generalizing i with
 | nil => simp at h
 | cons a t ih =>
  cases i with
  | zero =>
   match t, h with
   | b :: c :: r, _ => rfl
   | [], h => simp at h
   | [b], h => simp at h
  | succ i =>
   have := ih i (by simp at h; omega)
   simpa using this
theorem ext3 (s : ByteArray) (i : Nat) (h : i + 3 ≤ s.size) : (s.extract i (i + 3)).toList = [s.get! i, s.get! (i + 1), s.get! (i + 2)] := by
 rw [extract_toList, show i + 3 - i = 3 by omega, drop_take3 _ _ (by simpa using h), getD_get!', getD_get!', getD_get!']
theorem enc_size (r : Nat) (hv : r < 55296 ∨ 57344 ≤ r ∧ r ≤ 1114111) : (Utf8.encode (r : Int)).size = if r < 128 then 1 else if r < 2048 then 2 else if r < 65536 then 3 else 4 := by
 have h : Utf8.valid (r : Int) = true := by simp [Utf8.valid]; omega
 unfold Utf8.encode
 simp only [h, if_true, Int.toNat_natCast]
 repeat' split
 all_goals first | rfl | omega
theorem u8_ofNat_eq {a b : Nat} (ha : a < 256) (hb : b < 256) (h : UInt8.ofNat a = UInt8.ofNat b) : a = b := by
 have := congrArg UInt8.toNat h
 simpa [Nat.mod_eq_of_lt ha, Nat.mod_eq_of_lt hb] using this
theorem enc_ne (r : Nat) (hv : r < 55296 ∨ 57344 ≤ r ∧ r ≤ 1114111) (hn : r ≠ 65533) : ((Utf8.encode (r : Int)).toList == FF) = false := by
 have h : Utf8.valid (r : Int) = true := by simp [Utf8.valid]; omega
 rw [toList_data, ← Bool.not_eq_true, beq_iff_eq]
 unfold Utf8.encode FF
 simp only [h, if_true, Int.toNat_natCast]
 intro he
 split at he
 ·simp at he
 ·split at he
  ·simp at he
  ·split at he
   ·injection he with h1 he
    injection he with h2 he
    injection he with h3 he
    have e1 := u8_ofNat_eq (a := 224 + r / 4096) (b := 239) (by omega) (by omega) h1
    have e2 := u8_ofNat_eq (a := 128 + r / 64 % 64) (b := 191) (by omega) (by omega) h2
    have e3 := u8_ofNat_eq (a := 128 + r % 64) (b := 189) (by omega) (by omega) h3
    omega
   ·simp at he
theorem dN_FF (n b3 : Nat) (h : 3 ≤ n) : decodeN n 239 191 189 b3 = (65533, 3) := by
 unfold decodeN
 rw [if_neg (by omega), if_neg (by omega), if_pos (by omega), if_pos (by omega)]
inductive DecAt (s : ByteArray) (pos : Nat) : Nat → Nat → Prop
 | rune (r w : Nat) (h1 : r ≠ 65533) (h2 : r < 55296 ∨ 57344 ≤ r ∧ r ≤ 1114111) (h3 : (Utf8.encode (r : Int)).size = w) (h4 : ((Utf8.encode (r : Int)).toList == FF) = false) (h5 : 1 ≤ w) (h6 : w ≤ 4) (h7 : pos + w ≤ s.size) : DecAt s pos r w
 | lost (h1 : pos + 3 ≤ s.size) (h2 : ((s.extract pos (pos + 3)).toList == FF) = true) : DecAt s pos 65533 3
 | broken (h0 : pos + 1 ≤ s.size) (h1 : s.size < pos + 3 ∨ pos + 3 ≤ s.size ∧ ((s.extract pos (pos + 3)).toList == FF) = false) : DecAt s pos 65533 1
theorem u8_toNat_eq {a : UInt8} {n : Nat} (h : a.toNat = n) (hn : n < 256) : a = UInt8.ofNat n := by
 apply UInt8.toNat_inj.1
 simp [h, Nat.mod_eq_of_lt hn]
theorem dec_at (s : ByteArray) (pos : Nat) (hp : pos < s.size) : DecAt s pos (Utf8.decode s pos).1 (Utf8.decode s pos).2 := by
 rw [decode_at]
 have e3 := ext3 s pos
 have l0 := UInt8.toNat_lt (s.get! pos)
 have l1 := UInt8.toNat_lt (s.get! (pos + 1))
 have l2 := UInt8.toNat_lt (s.get! (pos + 2))
 have l3 := UInt8.toNat_lt (s.get! (pos + 3))
 have key : ∀ r w : Nat, r ≠ 65533 → (r < 55296 ∨ 57344 ≤ r ∧ r ≤ 1114111) → w = (if r < 128 then 1 else if r < 2048 then 2 else if r < 65536 then 3 else 4) → pos + w ≤ s.size → DecAt s pos r w := by
  intro r w h1 h2 h3 h4
  refine .rune r w h1 h2 (by rw [enc_size r h2, h3]) (enc_ne r h2 h1) ?_ ?_ h4
  ·rw [h3]; split <;> (try split) <;> (try split) <;> omega
  ·rw [h3]; split <;> (try split) <;> (try split) <;> omega
 rcases decodeN_shape (s.size - pos) (s.get! pos).toNat (s.get! (pos + 1)).toNat (s.get! (pos + 2)).toNat (s.get! (pos + 3)).toNat with ⟨h, e⟩ | ⟨a, b, c, d, e⟩ | ⟨a, b, c, c2, d, d2, e⟩ | ⟨a, b, c, c2, c3, d, d2, e⟩ | e
 ·rw [e]
  exact key _ _ (by show (s.get! pos).toNat ≠ 65533; omega) (by show (s.get! pos).toNat < 55296 ∨ _; omega) (by show 1 = _; rw [if_pos h]) (by show pos + 1 ≤ _; omega)
 ·rw [e]
  refine key _ 2 ?_ ?_ ?_ ?_
  ·omega
  ·omega
  ·rw [if_neg (by omega), if_pos (by omega)]
  ·omega
 ·rw [e]
  by_cases h5 : (s.get! pos).toNat % 16 * 4096 + (s.get! (pos + 1)).toNat % 64 * 64 + (s.get! (pos + 2)).toNat % 64 = 65533
  ·show DecAt s pos _ 3
   rw [h5]
   refine .lost (by omega) ?_
   rw [e3 (by omega), u8_toNat_eq (show (s.get! pos).toNat = 239 by omega) (by omega), u8_toNat_eq (show (s.get! (pos + 1)).toNat = 191 by omega) (by omega), u8_toNat_eq (show (s.get! (pos + 2)).toNat = 189 by omega) (by omega)]
   rfl
  ·refine key _ 3 h5 ?_ ?_ ?_
   ·omega
   ·rw [if_neg (by omega), if_neg (by omega), if_pos (by omega)]
   ·omega
 ·rw [e]
  refine key _ 4 ?_ ?_ ?_ ?_
  ·omega
  ·omega
  ·rw [if_neg (by omega), if_neg (by omega), if_neg (by omega)]
  ·omega
 ·rw [e]
  refine .broken (by omega) ?_
  by_cases h3 : pos + 3 ≤ s.size
  ·refine .inr ⟨h3, ?_⟩
   rw [← Bool.not_eq_true, beq_iff_eq, e3 h3]
   intro he
   injection he with q1 he
   injection he with q2 he
   injection he with q3 he
   rw [q1, q2, q3] at e
   have := dN_FF (s.size - pos) (s.get! (pos + 3)).toNat (by omega)
   rw [show (239 : UInt8).toNat = 239 from rfl, show (191 : UInt8).toNat = 191 from rfl, show (189 : UInt8).toNat = 189 from rfl, this] at e
   exact absurd (congrArg Prod.snd e) (by simp)
  ·exact .inl (by omega)
end Go.Proofs.YteodfondjogmoaaGreatDoor.R
/- The piece at a place of a text, as runes.At tells it. Conditions: those of each theorem. -/
namespace Go.Proofs.YteodfondjogmoaaGreatDoor.R
open Go.RowKit Go.Lib
set_option linter.unusedVariables false
set_option linter.unusedSimpArgs false
theorem width_rune (r : Int) (hn : (r != 65533) = true) (h4 : ((Utf8.encode r).toList == [239, 191, 189]) = false) (w : World) :
  Calls Tryz.prog 161 #[.int .i32 r] w fun e w' => e = .returned (.int .i64 (Utf8.encode r).size) ∧ w = w' := by
 go_enter Tryz.func161, Tryz.ntmps161
 go_wp2_with fail
 go_ret
 exact ⟨rfl, rfl⟩
theorem width_lost (w : World) :
  Calls Tryz.prog 161 #[.int .i32 65533] w fun e w' => e = .returned (.int .i64 3) ∧ w = w' := by
 go_enter Tryz.func161, Tryz.ntmps161
 go_wp2_with fail
 go_ret
 exact ⟨rfl, rfl⟩
def pieceV (pos w r : Nat) (br : Bool) : Value := .agg #[.int .i64 pos, .int .i64 w, .int .i32 r, .bool br]
def brB (r w : Nat) : Bool := decide (r = 65533 ∧ w = 1)
def decV (s : ByteArray) (pos : Nat) : Value := pieceV pos (Utf8.decode s pos).2 (Utf8.decode s pos).1 (brB (Utf8.decode s pos).1 (Utf8.decode s pos).2)
set_option maxHeartbeats 1000000 in
theorem read_any (s : ByteArray) (pos : Nat) (hp : pos < s.size) (hs : s.size ≤ 140737488355328) (w : World) :
  Calls Tryz.prog 126 #[.string s, .int .i64 pos] w fun e w' => e = .returned (decV s pos) ∧ Below w.heap.size w w' := by
 have hd := dec_at s pos hp
 have ht := tail_decode s pos 0
 rw [Nat.add_zero] at ht
 have hsz := tail_size s pos
 have hnx := fun (wr : World) (k : Nat) ty h => run_next_any_at (P := Tryz.prog) wr k (s.extract pos s.size) 0 ty h (by omega)
 rw [ht] at hnx
 unfold decV
 generalize (Utf8.decode s pos).1 = r at *
 generalize (Utf8.decode s pos).2 = wd at *
 have hHd := hid hd
 clear hd
 obtain ⟨bb, hbb⟩ : ∃ bb, brB r wd = bb := ⟨_, rfl⟩
 rw [hbb]
 have hBB := hid hbb
 clear hbb
 go_enter Tryz.func126, Tryz.ntmps126
 go_wp2_with fail
 refine wp_loop_rounds 1 ?_
 rw [rounds_succ]
 have hne : ∀ ty, (Instr.next (.pointer (some ⟨w.heap.size + 1, 0, none⟩)) true ty).run Tryz.prog ((w.alloc (.cells #[.int .i64 0, .int .i64 0, .int .i32 0, .bool false] 149)).iter (s.extract pos s.size) 0) = _ := fun ty => hnx _ _ ty (by have := heap_alloc_new (w.alloc (.cells #[.int .i64 0, .int .i64 0, .int .i32 0, .bool false] 149)) (.stringIter (s.extract pos s.size) 0); rw [World.size_alloc] at this; exact this)
 clear hnx
 have hbW : Hid (Below w.heap.size w (((w.alloc (.cells #[.int .i64 0, .int .i64 0, .int .i32 0, .bool false] 149)).iter (s.extract pos s.size) 0).iterAt (w.heap.size + 1) (s.extract pos s.size) (0 + wd))) := hid (below_iterAt (((Below.refl w.heap.size w).alloc (Nat.le_refl _) (.cells #[.int .i64 0, .int .i64 0, .int .i32 0, .bool false] 149)).alloc (by simp) (.stringIter (s.extract pos s.size) 0)) (k := w.heap.size + 1) (Nat.le_succ _) (s.extract pos s.size) (0 + wd))
 have hk : Blk (((w.alloc (.cells #[.int .i64 0, .int .i64 0, .int .i32 0, .bool false] 149)).iter (s.extract pos s.size) 0).iterAt (w.heap.size + 1) (s.extract pos s.size) (0 + wd)) w.heap.size 149 #[.int .i64 0, .int .i64 0, .int .i32 0, .bool false] := (iterAt_other ((w.alloc (.cells #[.int .i64 0, .int .i64 0, .int .i32 0, .bool false] 149)).iter (s.extract pos s.size) 0) (w.heap.size + 1) w.heap.size (s.extract pos s.size) (0 + wd) (by omega)).trans ((Blk.new w 149 _).alloc (.stringIter (s.extract pos s.size) 0))
 generalize ((w.alloc (.cells #[.int .i64 0, .int .i64 0, .int .i32 0, .bool false] 149)).iter (s.extract pos s.size) 0).iterAt (w.heap.size + 1) (s.extract pos s.size) (0 + wd) = W1 at *
 have hk0 := hid hk
 have hf := hk.froz
 have c0 := hk.cell (k := 0) rfl
 have c1 := hk.cell (k := 1) rfl
 have c2 := hk.cell (k := 2) rfl
 have c3 := hk.cell (k := 3) rfl
 clear hk
 cases hHd.out with
 | rune _ _ h1 h2 h3 h4 h5 h6 h7 =>
  have q1 : ((r : Int) != 65533) = true := bne_true_of (by omega)
  have q2 : ((r : Int) == 65533) = false := beq_false_of (by omega)
  obtain rfl : bb = false := hBB.out.symm.trans (decide_eq_false (by omega))
  have hW := hid (width_rune r q1 h4)
  rw [h3] at hW
  clear h1 h2 h3 h4 h5 h6 h7 hHd hBB
  go_wp2_with (go_at_call 161; (with_reducible refine Calls.mono (hW.out _) ?_); rintro e w' ⟨rfl, rfl⟩)
  exact bodyPost_ret (v := pieceV pos wd r false) (by simp [pieceV, results, Tryz.results126, go_sem, c0, c1, c2, c3]) rfl ⟨rfl, (((hbW.out.setCell (p := ⟨w.heap.size, 0, none⟩) (Nat.le_refl _) _).setCell (p := ⟨w.heap.size, 1, none⟩) (Nat.le_refl _) _).setCell (p := ⟨w.heap.size, 2, none⟩) (Nat.le_refl _) _).setCell (p := ⟨w.heap.size, 3, none⟩) (Nat.le_refl _) _⟩
 | lost h1 h2 =>
  have q1 := dF (show ¬ ((s.size : Int) - pos < 3) by omega)
  have q2 : ((s.extract pos (pos + 3)).toList == [239, 191, 189]) = true := h2
  obtain rfl : bb = false := hBB.out.symm.trans (decide_eq_false (by omega))
  go_wp2_with (go_at_call 161; (with_reducible refine Calls.mono (width_lost _) ?_); rintro e w' ⟨rfl, rfl⟩)
  exact bodyPost_ret (v := pieceV pos 3 65533 false) (by simp [pieceV, results, Tryz.results126, go_sem, c0, c1, c2, c3]) rfl ⟨rfl, (((hbW.out.setCell (p := ⟨w.heap.size, 0, none⟩) (Nat.le_refl _) _).setCell (p := ⟨w.heap.size, 1, none⟩) (Nat.le_refl _) _).setCell (p := ⟨w.heap.size, 2, none⟩) (Nat.le_refl _) _).setCell (p := ⟨w.heap.size, 3, none⟩) (Nat.le_refl _) _⟩
 | broken h0 h1 =>
  obtain rfl : bb = true := hBB.out.symm.trans (decide_eq_true (by omega))
  rcases h1 with h1 | ⟨h1, h2⟩
  ·have q1 := dT (show (s.size : Int) - pos < 3 by omega)
   go_wp2_with (go_at_call 161; (with_reducible refine Calls.mono (width_lost _) ?_); rintro e w' ⟨rfl, rfl⟩)
   exact bodyPost_ret (v := pieceV pos 1 65533 true) (by simp [pieceV, results, Tryz.results126, go_sem, c0, c1, c2, c3]) rfl ⟨rfl, (((hbW.out.setCell (p := ⟨w.heap.size, 0, none⟩) (Nat.le_refl _) _).setCell (p := ⟨w.heap.size, 1, none⟩) (Nat.le_refl _) _).setCell (p := ⟨w.heap.size, 2, none⟩) (Nat.le_refl _) _).setCell (p := ⟨w.heap.size, 3, none⟩) (Nat.le_refl _) _⟩
  ·have q1 := dF (show ¬ ((s.size : Int) - pos < 3) by omega)
   have q2 : ((s.extract pos (pos + 3)).toList == [239, 191, 189]) = false := h2
   go_wp2_with (go_at_call 161; (with_reducible refine Calls.mono (width_lost _) ?_); rintro e w' ⟨rfl, rfl⟩)
   exact bodyPost_ret (v := pieceV pos 1 65533 true) (by simp [pieceV, results, Tryz.results126, go_sem, c0, c1, c2, c3]) rfl ⟨rfl, (((hbW.out.setCell (p := ⟨w.heap.size, 0, none⟩) (Nat.le_refl _) _).setCell (p := ⟨w.heap.size, 1, none⟩) (Nat.le_refl _) _).setCell (p := ⟨w.heap.size, 2, none⟩) (Nat.le_refl _) _).setCell (p := ⟨w.heap.size, 3, none⟩) (Nat.le_refl _) _⟩
end Go.Proofs.YteodfondjogmoaaGreatDoor.R
/- A text's pieces as an iterator (runes.Pieces), by the law of Ks. Conditions: those of each theorem. -/
namespace Go.Proofs.YteodfondjogmoaaGreatDoor
open Go Go.RowKit Go.Lib Go.Shelf
set_option linter.unusedVariables false
set_option linter.unusedSimpArgs false
attribute [local go_sem] Oper.semAt_some
theorem room_wide' (k : Nat) : Fence.wide.room k := fun d h => by cases h
theorem RoundIn.wide {m m' : Nat} {P : Program} {l : Nat} {f : FuncId} {tmps : Array Value} {assign body : Code} {w : World} {R : Ending → World → Prop}
    (h : RoundIn Fence.wide m P l f tmps assign body w R) : RoundIn Fence.wide m' P l f tmps assign body w R := ⟨h.1, fun c cs _ => h.2 c cs (room_wide' _)⟩
theorem YieldAt.wide {m : Nat} (m' : Nat) {P : Program} {l : Nat} {args : Array Value} {W : World} {R : Ending → World → Prop} (h : YieldAt Fence.wide m P l args W R) : YieldAt Fence.wide m' P l args W R := by
  obtain ⟨fn, tmps, assign, body, hy, hR⟩ := h
  exact ⟨fn, tmps, assign, body, hy, RoundIn.wide hR⟩
theorem RoundIn.inRound {F : Fence} {m : Nat} {P : Program} {l : Nat} {f : FuncId} {tmps : Array Value} {assign body : Code} {w : World} {R : Ending → World → Prop} (l' : Nat)
    (h : RoundIn F m P l f tmps assign body w R) : RoundIn (F.inRound l') m P l f tmps assign body w R := h
def wdN (s : ByteArray) (p : Nat) : Nat := (Utf8.decode s p).2
def rnN (s : ByteArray) (p : Nat) : Nat := (Utf8.decode s p).1
def isBr (s : ByteArray) (p : Nat) : Bool := R.brB (rnN s p) (wdN s p)
theorem wdN_pos {s : ByteArray} {p : Nat} (h : p < s.size) : 1 ≤ wdN s p ∧ wdN s p ≤ 4 ∧ p + wdN s p ≤ s.size := by
  have := R.dec_at s p h
  unfold wdN
  cases hd : Utf8.decode s p with
  | mk r w =>
    rw [hd] at this
    cases this with
    | rune _ _ h1 h2 h3 h4 h5 h6 h7 => exact ⟨h5, h6, h7⟩
    | lost h1 h2 => exact ⟨by simp, by simp, h1⟩
    | broken h0 h1 => exact ⟨by simp, by simp, h0⟩
def posL (s : ByteArray) (p : Nat) : List Nat := if h : p < s.size then p :: posL s (p + wdN s p) else []
termination_by s.size - p
decreasing_by have := wdN_pos h; omega
theorem posL_more {s : ByteArray} {p : Nat} (h : p < s.size) : posL s p = p :: posL s (p + wdN s p) := by rw [posL, dif_pos h]
theorem posL_end {s : ByteArray} {p : Nat} (h : ¬ p < s.size) : posL s p = [] := by rw [posL, dif_neg h]
def pcV (s : ByteArray) (p : Nat) : Value := .agg #[.int .i64 p, .int .i64 (wdN s p), .int .i32 (rnN s p), .bool (isBr s p)]
theorem at_lt {w : World} {m : Nat} {o : Obj} (h : w.heap[m]? = some o) : m < w.heap.size := (Array.getElem?_eq_some_iff.1 h).1
theorem iterPos_of {w : World} {k : Nat} {s : ByteArray} {p : Nat} (h : w.heap[k]? = some (.stringIter s p)) : w.iterPos k = p := by simp [World.iterPos, h]
theorem pieces53 (s : ByteArray) (w : World) : Calls Tryz.prog 116 #[.string s] w fun e w' => e = .returned (.func (.func 150) #[] #[.pointer (some ⟨w.heap.size, 0, none⟩)]) ∧ w' = w.alloc (.cells #[.string s] 9) := by
  go_enter Tryz.func116, Tryz.ntmps116
  go_wp2_with fail
  go_ret
  exact ⟨rfl, rfl⟩
set_option maxHeartbeats 1000000 in
theorem pieces73 (n : Nat) (s : ByteArray) (hs : s.size ≤ 140737488355328) (l kb : Nat) (RR : Nat → Prop) (hR : RR kb) (J Jx : List Nat → (Nat → Prop) → World → Prop) (W : World) (hJ : Free W.heap.size J) (hX : Free W.heap.size Jx)
    (hY : ∀ pre S x W1, J pre S W1 → W.heap.size ≤ W1.heap.size → (∀ k, S k → W.heap.size ≤ k ∧ k < W1.heap.size) → pre ++ [x] <+: posL s 0 → YieldAt Fence.wide (n - 1) Tryz.prog l #[pcV s x] W1 fun e W' =>
      Kept (fun k => RR k ∨ S k) W1 W' ∧ ((e = .returned (.bool true) ∧ J (pre ++ [x]) S W') ∨ (e = .returned (.bool false) ∧ Jx (pre ++ [x]) S W')))
    (hc : W.cell? ⟨kb, 0, none⟩ = some (.string s)) (h0 : J [] none' W) :
    CallsIn Fence.wide n Tryz.prog 150 #[.func (.yield l) #[] #[], .pointer (some ⟨kb, 0, none⟩)] W fun e W' => (∃ v, e = .returned v) ∧ (J (posL s 0) none' W' ∨ (∃ pre, pre <+: posL s 0 ∧ Jx pre none' W')) := by
  have hkb : kb < W.heap.size := World.block_lt_of_cell? W _ hc
  have HR := hid hR
  obtain ⟨S, hS⟩ : ∃ S : Nat → Prop, S = fun k => k = W.heap.size := ⟨_, rfl⟩
  have S1 : Hid (S W.heap.size) := hid (by rw [hS])
  have S2 : Hid (∀ k, S k → k = W.heap.size) := hid (fun k h => by rw [hS] at h; exact h)
  have hI0 : Hid (J [] S (W.alloc (.stringIter s 0))) := hid (hJ [] none' S _ _ h0 (fun k h => h.elim) (Kept.alloc _ _ _) (fun k h => .inr (by have := S2.out k h; subst this; exact ⟨Nat.le_refl _, by rw [World.size_alloc]; exact Nat.lt_succ_self _⟩)))
  clear hS h0
  refine callsIn_of_wp Tryz.func150 rfl trivial ?_ rfl
  simp only [Tryz.ntmps150, List.size_toArray, List.length_cons, List.length_nil, Nat.reduceAdd, Nat.reduceSub, Array.replicate_succ, Array.replicate_zero, List.push_toArray, List.append_toArray, List.nil_append, List.cons_append]
  have HJ := hid hJ
  have HX := hid hX
  have HY := hid hY
  clear hJ hX hY hR
  gi_wp2_with fail
  gi_loopw [] (fun wr => ∃ (pos : Nat) (ps : List Nat), Hid (posL s 0 = ps ++ posL s pos) ∧ pos ≤ s.size ∧ Hid (J ps S wr) ∧ Hid (wr.heap[W.heap.size]? = some (.stringIter s pos)) ∧ Hid (wr.cell? ⟨kb, 0, none⟩ = some (.string s)) ∧ W.heap.size < wr.heap.size) (fun wr => s.size - wr.iterPos W.heap.size)
  case atStart =>
    exact ⟨0, [], hid rfl, Nat.zero_le _, hI0, hid (heap_alloc_new W _), hid ((((Below.refl W.heap.size W).alloc (Nat.le_refl _) (.stringIter s 0)).cell (p := ⟨kb, 0, none⟩) hkb).trans hc), at_lt (heap_alloc_new W _)⟩
  case round =>
    obtain ⟨pos, ps, hL, hps, hJs, hit, hcs, hIl⟩ := hrel
    have hpos0 := hid (iterPos_of hit.out)
    by_cases hp : pos < s.size
    · have hnx : ∀ ty, (Instr.next (.pointer (some ⟨W.heap.size, 0, none⟩)) true ty).run Tryz.prog wr = _ := fun ty => Lib.run_next_any_at wr W.heap.size s pos ty hit.out hp
      change ∀ ty, (Instr.next (.pointer (some ⟨W.heap.size, 0, none⟩)) true ty).run Tryz.prog wr = .ok (.tuple #[.bool true, .int .i64 pos, .int .i32 (rnN s pos)]) (wr.iterAt W.heap.size s (pos + wdN s pos)) at hnx
      have hwd := wdN_pos hp
      have hkI : Kept (fun k => ¬ S k) wr (wr.iterAt W.heap.size s (pos + wdN s pos)) := ⟨rfl, rfl, rfl, by rw [iterAt_size]; exact Nat.le_refl _, fun k _ hk => iterAt_other wr W.heap.size k s _ (fun e => hk (e ▸ S1.out))⟩
      have hJ1 : Hid (J ps S (wr.iterAt W.heap.size s (pos + wdN s pos))) := hid (HJ.out _ _ _ _ _ hJs.out (fun k h => by have := S2.out k h; omega) hkI (fun k h => .inl h))
      have hit1 := hid (iterAt_heap wr W.heap.size s pos (pos + wdN s pos) hit.out)
      have hcs1 : (wr.iterAt W.heap.size s (pos + wdN s pos)).cell? ⟨kb, 0, none⟩ = some (.string s) := (World.cell?_of_block (a := ⟨kb, 0, none⟩) (iterAt_other wr W.heap.size kb s (pos + wdN s pos) (by omega))).trans hcs.out
      have hI1 : W.heap.size < (wr.iterAt W.heap.size s (pos + wdN s pos)).heap.size := by rw [iterAt_size]; exact hIl
      have hL2 : Hid (posL s 0 = (ps ++ [pos]) ++ posL s (pos + wdN s pos)) := by rw [hL.out, posL_more hp, List.append_assoc]; exact hid rfl
      have hpre : Hid (ps ++ [pos] <+: posL s 0) := hid ⟨_, hL2.out.symm⟩
      have hmeas : Hid (1 ≤ wdN s pos ∧ pos + wdN s pos ≤ s.size ∧ pos < s.size) := hid ⟨hwd.1, hwd.2.2, hp⟩
      obtain ⟨W1, hW1⟩ : ∃ W1, wr.iterAt W.heap.size s (pos + wdN s pos) = W1 := ⟨_, rfl⟩
      rw [hW1] at hnx hJ1 hit1 hcs1 hI1
      have HC := hid hcs1
      have hRd := hid (fun w => R.read_any s pos hp hs w)
      clear hkI hW1 hwd hL hJs hit hcs
      gi_wp2_with fail
      refine ⟨trivial, (by intro h; cases h), ?_⟩
      with_reducible refine CallsIn.mono (callsIn_wide.2 (hRd.out _)) ?_
      rintro e W2 ⟨rfl, hb2⟩
      have hJ2 : J ps S W2 := HJ.out _ _ _ _ _ hJ1.out (fun k h => by have := S2.out k h; omega) (Kept.of_all hb2 _) (fun k h => .inl h)
      have hs2 := hb2.size
      obtain ⟨fn, tmps, assign, body, hy, hRd2⟩ := HY.out _ _ pos _ hJ2 (by omega) (fun k h => by have := S2.out k h; omega) hpre.out
      have hit2 := hid ((hb2.block _ hI1).trans hit1.out)
      have hcs2 := hid ((hb2.cell (p := ⟨kb, 0, none⟩) (show kb < W1.heap.size by omega)).trans HC.out)
      clear hb2 hJ2 hJ1 hit1 hcs1 hnx hRd HC
      change (Instr.yield l #[R.decV s pos]).run Tryz.prog W2 = _ at hy
      gi_wp2_with fail
      refine ⟨(by intro h; cases h), ?_⟩
      refine hRd2.mono ?_
      rintro e W3 ⟨hk3, (⟨rfl, hJ3⟩ | ⟨rfl, hJx3⟩)⟩
      · have G1 := hid (hk3.obj hit2.out (.inr S1.out))
        have G2 := hid (hk3.cell hcs2.out (.inl HR.out))
        have G3 := hk3.size
        have GJ := hid hJ3
        clear hk3 hJ3 hRd2 hy
        gi_wp2_with fail
        go_roundw
        case rel => exact ⟨pos + wdN s pos, ps ++ [pos], hL2, hmeas.out.2.1, GJ, G1, G2, by omega⟩
        case measure =>
          have h1 := iterPos_of G1.out
          have h2 := hpos0.out
          have h3 := hmeas.out
          omega
      · have GX := hid (HX.out _ _ none' _ _ hJx3 (fun k h => by have := S2.out k h; have := hk3.size; omega) (Kept.refl _ _) (fun k h => h.elim))
        clear hk3 hJx3 hRd2 hy
        gi_wp2_with fail
        refine bodyPost_ret (results_none rfl _ _ _) rfl ?_
        exact ⟨⟨_, rfl⟩, .inr ⟨_, hpre.out, GX.out⟩⟩
    · obtain rfl : pos = s.size := by omega
      have hnx : ∀ ty, (Instr.next (.pointer (some ⟨W.heap.size, 0, none⟩)) true ty).run Tryz.prog wr = _ := fun ty => Lib.run_next_end_at wr W.heap.size s s.size ty hit.out hp
      have hJ9 : Hid (J (posL s 0) none' wr) := by
        rw [hL.out, posL_end hp, List.append_nil]
        exact hid (HJ.out _ _ none' _ _ hJs.out (fun k h => by have := S2.out k h; omega) (Kept.refl _ _) (fun k h => h.elim))
      clear hL hJs
      gi_wp2_with fail
      go_end0
      exact ⟨⟨_, rfl⟩, .inl hJ9.out⟩
theorem pieces_seq (n : Nat) (s : ByteArray) (hs : s.size ≤ 140737488355328) (kb : Nat) (w : World) (hc : w.cell? ⟨kb, 0, none⟩ = some (.string s)) :
    SeqS Fence.wide n Tryz.prog 150 #[.pointer (some ⟨kb, 0, none⟩)] (fun p => #[pcV s p]) (fun k => k = kb) (posL s 0) w := fun l J Jx W hW hJ hX hY h0 =>
  pieces73 n s hs l kb (fun k => k = kb) rfl J Jx W hJ hX hY ((hW.cell (p := ⟨kb, 0, none⟩) (World.block_lt_of_cell? w _ hc)).trans hc) h0
end Go.Proofs.YteodfondjogmoaaGreatDoor
