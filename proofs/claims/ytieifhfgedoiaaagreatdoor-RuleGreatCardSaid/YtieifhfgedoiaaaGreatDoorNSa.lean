/- The program's rules: how many, their lines; one answer that wakes the laws. Conditions: those of each theorem. -/
import Derived.Test.YtieifhfgedoiaaaGreatDoorNFa
namespace Go.Proofs.YtieifhfgedoiaaaGreatDoor
open Go.RowKit Go.Lib
set_option linter.unusedVariables false
set_option linter.unusedSimpArgs false
attribute [local go_sem] ExtS.cell ExtS.froz upE_value upE_skip upE_enter Ext.cell Ext.froz
structure PAt (w : World) (X base : Nat) (x : Rs) : Prop where
 ex : ∃ mc ml v k, RsAt w X mc ml v x k ∧ RowsAt w base v x.rules
theorem PAt.low {w w' : World} {X base : Nat} {x : Rs} (h : PAt w X base x) (hb : Below w.heap.size w w') : PAt w' X base x := by
 obtain ⟨mc, ml, v, k, h1, h2⟩ := h.ex
 exact ⟨mc, ml, v, k, h1.low hb, h2.low hb⟩
theorem PAt.slice {w : World} {X base : Nat} {x : Rs} (h : PAt w X base x) : ∃ pv cv, w.cell? ⟨X, 2, none⟩ = some (.slice pv x.rules.length cv) ∧ (∀ k, w.frozen? ⟨X, k, none⟩ = false) ∧ RowsAt w base (.slice pv x.rules.length cv) x.rules := by
 obtain ⟨mc, ml, v, k, h1, h2⟩ := h.ex
 obtain ⟨Vs, g1, g2, g3⟩ := h2
 obtain ⟨pv, cv, rfl⟩ := own_shape g2
 exact ⟨pv, cv, h1.b.cell (k := 2) rfl, h1.b.froz, Vs, g1, g2, g3⟩
theorem len14 {w : World} {X base : Nat} {x : Rs} (h : PAt w X base x) : Calls Tryz.prog 15 #[.pointer (some ⟨X, 0, none⟩)] w fun e w' => e = .returned (.int .i64 x.rules.length) ∧ w = w' := by
 obtain ⟨pv, cv, c2, cf, _⟩ := h.slice
 clear h
 go_enter Tryz.func15, Tryz.ntmps15
 go_wp2_with fail
 go_ret
 exact ⟨rfl, rfl⟩
end Go.Proofs.YtieifhfgedoiaaaGreatDoor
/- What the laws ask first: the rules of one text. Conditions: those of each theorem. -/
namespace Go.Proofs.YtieifhfgedoiaaaGreatDoor
open Go.RowKit Go.Lib
set_option linter.unusedVariables false
set_option linter.unusedSimpArgs false
attribute [local go_sem] ExtS.cell ExtS.froz upE_value upE_skip upE_enter Ext.cell Ext.froz
def wakeT : ByteArray := ⟨#[40, 97, 41, 32, 62, 32, 97, 10]⟩
def wakeL : ByteArray := ⟨#[40, 97, 41, 32, 62, 32, 97]⟩
theorem wake_cut : cutL wakeT 0 0 = [wakeL, wakeT.extract 8 8] := by
 rw [cutL_go (by decide) (by decide), cutL_go (by decide) (by decide), cutL_go (by decide) (by decide), cutL_go (by decide) (by decide), cutL_go (by decide) (by decide), cutL_go (by decide) (by decide), cutL_go (by decide) (by decide), cutL_nl (by decide) (by decide), cutL_end (by decide)]
 have h1 : wakeT.extract 0 (0 + 1 + 1 + 1 + 1 + 1 + 1 + 1) = wakeL := by apply ByteArray.ext; rw [ByteArray.data_extract]; decide
 rw [h1]
 rfl
def wakeR : Rl := ⟨wakeL, false, [], [⟨97, false, 0⟩], [], false, [⟨97, false, 0⟩]⟩
theorem wake_parts : partsR (fun _ => false) wakeL = .ok wakeR 7 := by
 have h0 : hashR wakeL 0 = (false, 0) := hash_no (by kernel_rfl)
 have h3 : hashR wakeL 3 = (false, 3) := hash_no (by kernel_rfl)
 rw [partsR_eq, h0]
 dsimp only
 rw [itemsR_end (by kernel_rfl) (by kernel_rfl)]
 show (bodyR wakeL 0).bind _ = _
 unfold bodyR
 rw [mustR_yes (by kernel_rfl)]
 show ((piecesR wakeL 1 []).bind _).bind _ = _
 rw [piecesR_more (by kernel_rfl) (by decide), show (1 + wdN wakeL 1) = 2 by kernel_rfl, piecesR_no (by kernel_rfl)]
 rw [show oneAt wakeL 1 = ⟨97, false, 0⟩ by kernel_rfl]
 show ((mustR wakeL 2 41).bind fun _ p => Res.ok [(⟨97, false, 0⟩ : One)] p).bind _ = _
 rw [mustR_yes (by kernel_rfl)]
 show (itemsR (fun _ => false) wakeL 3 []).bind _ = _
 rw [itemsR_end (by kernel_rfl) (by kernel_rfl)]
 show (endR wakeL 3).bind _ = _
 unfold endR
 rw [h3]
 show ((mustL wakeL [32, 62] 3).bind _).bind _ = _
 rw [show mustL wakeL [32, 62] 3 = .ok () 5 by kernel_rfl]
 show (saysR wakeL 5).bind _ = _
 unfold saysR
 rw [if_neg (by decide), mustR_yes (by kernel_rfl)]
 show ((if 6 = wakeL.size then (.bad 90 6 : Res (List Ph)) else phR wakeL 6)).bind _ = _
 rw [if_neg (by decide)]
 have hp : phAt wakeL 6 = some (⟨97, false, 0⟩, 1) := by
  unfold phAt
  rw [show trOf (rnN wakeL 6) = some (vow 0 1 false) by kernel_rfl]
  dsimp only
  rw [show wdN wakeL 6 = 1 by kernel_rfl, show stB wakeL (6 + 1) [203, 144] = false by kernel_rfl]
  simp only [Bool.false_eq_true, if_false]
  rw [if_neg (by decide), show stB wakeL (6 + 1) [105, 204, 175] = false by kernel_rfl, show stB wakeL (6 + 1) [117, 204, 175] = false by kernel_rfl]
  simp only [Bool.false_eq_true, if_false]
  kernel_rfl
 unfold phR
 rw [phsR_more (by decide) hp, phsR_end (by decide)]
 dsimp only
 rfl
theorem wake_lines : linesR Rs.empty 0 (linesB wakeT) = .ok (Rs.empty.addR wakeR) := by
 rw [linesB_eq, wake_cut]
 have h1 : lineR Rs.empty wakeL = .ok (Rs.empty.addR wakeR) := by
  unfold lineR
  rw [if_neg (by decide), if_neg (by decide)]
  unfold ruleR
  rw [show Rs.empty.said = fun _ => false from rfl, wake_parts]
  rfl
 have h2 : lineR (Rs.empty.addR wakeR) (wakeT.extract 8 8) = .ok (Rs.empty.addR wakeR) := by
  unfold lineR
  rw [if_pos (.inl (by rw [ByteArray.size_extract]; rfl))]
 show (match lineR Rs.empty wakeL with | .ok y => linesR y (0 + wakeL.size + 1) [wakeT.extract 8 8] | .bad e q => .bad e (0 + q)) = _
 rw [h1]
 show (match lineR (Rs.empty.addR wakeR) (wakeT.extract 8 8) with | .ok y => linesR y (0 + wakeL.size + 1 + (wakeT.extract 8 8).size + 1) [] | .bad e q => .bad e (0 + wakeL.size + 1 + q)) = _
 rw [h2]
 rfl
theorem GetPost.at {w w' : World} {y : Rs} {e : Ending} (h : GetPost w w' (.ok y) e) : ∃ X, e = .returned (.tuple #[.pointer (some ⟨X, 0, none⟩), .agg #[.int .i64 0, .int .i64 0]]) ∧ PAt w' X w.heap.size y := by
 obtain ⟨X, h1, mc, ml, v, k, h2, h3⟩ := h
 exact ⟨X, h1, mc, ml, v, k, h2, h3⟩
set_option maxHeartbeats 2000000 in
theorem wakes11 (w : World) (m : Int) (hm : w.cell? ⟨0, 0, none⟩ = some (.int .i64 m)) : Calls Tryz.prog 4 #[] w fun e w' => e = .returned (.bool true) ∧ Below w.heap.size w w' := by
 have hR := hid (read_text wakeT w (by decide) m hm)
 rw [wake_lines] at hR
 unfold wakeT at hR
 clear hm
 go_enter Tryz.func4, Tryz.ntmps4
 go_wp2_with fail
 go_at_call 14
 with_reducible refine Calls.mono (hR.out) ?_
 rintro e w1 ⟨hG, hb⟩
 skip
 obtain ⟨X, rfl, hP⟩ := hG.at
 have HP := hid hP
 have HB := hid hb
 have hbA := hid ((Below.refl w1.heap.size w1).alloc (Nat.le_refl _) (.cells #[.int .i64 0, .int .i64 0] 44))
 have hLen := hid (len14 (hP.low hbA.out))
 have hE : Hid ((Rs.empty.addR wakeR).rules.length = 1) := hid rfl
 rw [hE.out] at hLen
 clear hP hb hG
 go_wp2_with fail
 go_at_call 15
 with_reducible refine Calls.mono (hLen.out) ?_
 rintro e w2 ⟨rfl, rfl⟩
 skip
 go_wp2_with fail
 go_ret
 exact ⟨rfl, HB.out.trans (hbA.out.mono HB.out.size)⟩
theorem long12 (s : ByteArray) (w : World) : Calls Tryz.prog 5 #[.string s] w fun e w' => e = .returned (.bool (decide ((8000 : Int) < s.size))) ∧ w = w' := by
 go_enter Tryz.func5, Tryz.ntmps5
 go_wp2_with fail
 go_ret
 exact ⟨rfl, rfl⟩
end Go.Proofs.YtieifhfgedoiaaaGreatDoor
