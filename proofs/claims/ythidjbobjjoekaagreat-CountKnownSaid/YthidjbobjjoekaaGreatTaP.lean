/- (*Tally).Add of any word and number: what it answers, what is there behind it. Conditions: the tally's own; the word is a string of the machine. -/
import Derived.Test.YthidjbobjjoekaaGreatTaN
namespace Go.Proofs.YthidjbobjjoekaaGreat
open Go.RowKit Go.Lib Go.Sort Go.Shelf
set_option linter.unusedVariables false
set_option linter.unusedSimpArgs false
theorem But2.refl (b m : Nat) (w : World) : But2 b m w w := ⟨rfl, rfl, rfl, Nat.le_refl _, fun _ _ _ _ => rfl⟩
set_option maxRecDepth 100000 in
set_option maxHeartbeats 1000000 in
theorem add_any {w : World} {b m : Nat} {L : List Ent} (h : Tal w b m L) (k : ByteArray) (n : Int) (hk : k.size ≤ maxLen) :
    Calls Tryz.prog 19 #[.pointer (some ⟨b, 0, none⟩), .string k, .int .i64 n] w fun e w' => e = .returned (.int .i64 (addE L k n)) ∧ Tal w' b m (addR L k n) ∧ But2 b m w w' ∧ w'.heap.size = w.heap.size := by
  by_cases c1 : n < 1 ∨ 2147483648 < n
  · have hE : addE L k n = 2 := if_pos c1
    have hR : addR L k n = L := by unfold addR; rw [hE]; rfl
    rw [hE, hR]
    have hW := hid (show Tal w b m L ∧ But2 b m w w from ⟨h, But2.refl _ _ _⟩)
    clear h hE hR
    rcases c1 with c1 | c1
    · have t1 : decide (n < 1) = true := decide_eq_true c1
      go_enter Tryz.func19, Tryz.ntmps19
      go_wp2_with fail
      go_ret
      exact ⟨rfl, hW.out.1, hW.out.2, rfl⟩
    · have t1 : decide (n < 1) = false := decide_eq_false (by omega)
      have t2 : decide (2147483648 < n) = true := decide_eq_true c1
      go_enter Tryz.func19, Tryz.ntmps19
      go_wp2_with fail
      go_ret
      exact ⟨rfl, hW.out.1, hW.out.2, rfl⟩
  by_cases c2 : (k ∉ keysL L ∧ 4096 ≤ L.length) ∨ 2147483648 < sumL L + n
  case' neg =>
    have hE : addE L k n = 0 := by unfold addE; rw [if_neg c1, if_neg c2]
    have hR : addR L k n = putL L k n := by unfold addR; rw [hE]; rfl
    rw [hE, hR]
    refine add_ok h k n hk (by omega) (by omega) ?_
    by_cases hm : k ∈ keysL L
    · exact .inl hm
    · refine .inr ?_
      rcases Nat.lt_or_ge L.length 4096 with h3 | h3
      · exact h3
      · exact absurd (.inl ⟨hm, h3⟩) c2
  have hE : addE L k n = 3 := by unfold addE; rw [if_neg c1, if_pos c2]
  have hR : addR L k n = L := by unfold addR; rw [hE]; rfl
  rw [hE, hR]
  have hW := hid (show Tal w b m L ∧ But2 b m w w from ⟨h, But2.refl _ _ _⟩)
  have hs0 := sumL_pos h.he.pos
  have ht0 := h.he.tot
  have hlen := h.he.len
  obtain ⟨l1, l2⟩ := h.look k hk
  have c0 := h.hb.cell (k := 0) rfl
  have c1' := h.hb.cell (k := 1) rfl
  have hl : ∀ ty, _ := fun ty => (h.hm.elim fun D hD => by have := hD.1.len (e := 3) Tryz.underlying68 ty; rw [hD.2.size] at this; exact this)
  clear h hE hR
  have t1 : decide (n < 1) = false := decide_eq_false (by omega)
  have t2 : decide (2147483648 < n) = false := decide_eq_false (by omega)
  generalize sumL L = S at *
  generalize L.length = q at *
  by_cases hm : k ∈ keysL L
  · have h4 : decide (k ∈ keysL L) = true := decide_eq_true hm
    have h5 : 2147483648 < S + n := by
      rcases c2 with c2 | c2
      · exact absurd hm c2.1
      · exact c2
    rw [h4] at l2
    clear c2 hm h4
    have t3 : decide (2147483648 < S + n) = true := decide_eq_true h5
    have t4 : IntKind.i64.wrap (S + n) = S + n := IntWalk.i64_in _ (by omega)
    go_enter Tryz.func19, Tryz.ntmps19
    go_wp2_with fail
    go_ret
    exact ⟨rfl, hW.out.1, hW.out.2, rfl⟩
  · have h4 : decide (k ∈ keysL L) = false := decide_eq_false hm
    rw [h4] at l2
    by_cases h6 : 4096 ≤ q
    · clear c2 hm h4
      go_enter Tryz.func19, Tryz.ntmps19
      go_wp2_with fail
      go_ret
      exact ⟨rfl, hW.out.1, hW.out.2, rfl⟩
    · have h5 : 2147483648 < S + n := by
        rcases c2 with c2 | c2
        · exact absurd c2.2 h6
        · exact c2
      clear c2 hm h4
      have t3 : decide (2147483648 < S + n) = true := decide_eq_true h5
      have t4 : IntKind.i64.wrap (S + n) = S + n := IntWalk.i64_in _ (by omega)
      go_enter Tryz.func19, Tryz.ntmps19
      go_wp2_with fail
      go_ret
      exact ⟨rfl, hW.out.1, hW.out.2, rfl⟩
end Go.Proofs.YthidjbobjjoekaaGreat
