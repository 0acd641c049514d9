/- Small functions of word (bare, joint, dot) and the plain scanner. Conditions: those of the theorems. -/
import Derived.Test.YtmpkfpabejpbkaaGreatDoorProg
import Derived.WalkKit
import Derived.WalkSpells
import Derived.WalkMore
import Derived.WalkLawsBesides
import Derived.Deep.QuietTactic
import Derived.BigQuiet
import Derived.Deep.RegionHeld3
import Derived.Deep.RegionLawGrows
import Derived.StillTailTactics
import Derived.Lib.Hide
namespace Go.Proofs.YtmpkfpabejpbkaaGreatDoor
open Go Go.RowKit Go.Lib
set_option linter.unusedVariables false
set_option linter.unusedSimpArgs false
/-- a piece with the marks behind it -/
structure Un where
  k : Int
  r : Int
  f : Int
  t : Int
  al : Bool
abbrev Un.v (u : Un) : Value := .agg #[.int .i64 u.k, .int .i32 u.r, .int .i64 u.f, .int .i64 u.t, .bool u.al]
theorem rkb {a b : Bool} (h : a = b) : Ending.returned (.bool a) = Ending.returned (.bool b) := by rw [h]
def bareU (k : Int) : Bool := k == 11 || (k == 4 || k == 9)
theorem bare81 (k : Int) (w : World) : Calls Tryz.prog 81 #[.int .i64 k] w fun e w' => e = .returned (.bool (bareU k)) ∧ w = w' := by
  obtain ⟨a, ha⟩ : ∃ a, (k == 11) = a := ⟨_, rfl⟩
  obtain ⟨b, hb⟩ : ∃ b, (k == 4) = b := ⟨_, rfl⟩
  obtain ⟨c, hc⟩ : ∃ c, (k == 9) = c := ⟨_, rfl⟩
  have hv : Hid (bareU k = (a || (b || c))) := hid (by unfold bareU; rw [ha, hb, hc])
  cases a <;> cases b <;> cases c
  all_goals
    go_enter Tryz.func81, Tryz.ntmps81
    go_wp2_with fail
    go_ret
    exact ⟨by rw [hv.out]; rfl, rfl⟩
def jointU (u : Un) : Bool := (u.r == 39 || (u.r == 8217 || (u.r == 45 || u.r == 8208))) && u.al
theorem joint82 (u : Un) (w : World) : Calls Tryz.prog 82 #[u.v] w fun e w' => e = .returned (.bool (jointU u)) ∧ Below w.heap.size w w' := by
  obtain ⟨k, r, f, t, al⟩ := u
  obtain ⟨a, ha⟩ : ∃ a, (r == 39) = a := ⟨_, rfl⟩
  obtain ⟨b, hb⟩ : ∃ b, (r == 8217) = b := ⟨_, rfl⟩
  obtain ⟨c, hc⟩ : ∃ c, (r == 45) = c := ⟨_, rfl⟩
  obtain ⟨d, hd⟩ : ∃ d, (r == 8208) = d := ⟨_, rfl⟩
  have hv : Hid (jointU ⟨k, r, f, t, al⟩ = ((a || (b || (c || d))) && al)) := hid (by unfold jointU; dsimp only; rw [ha, hb, hc, hd])
  cases a <;> cases b <;> cases c <;> cases d
  all_goals
    go_enter Tryz.func82, Tryz.ntmps82
    go_wp2_with fail
    go_ret
    exact ⟨by rw [hv.out]; first | rfl | (cases al <;> rfl), by first | exact (Below.refl _ w).alloc (Nat.le_refl _) _⟩
def dotU (u : Un) : Bool := u.al && (u.r == 44 || u.r == 46)
theorem dot83 (u : Un) (w : World) : Calls Tryz.prog 83 #[u.v] w fun e w' => e = .returned (.bool (dotU u)) ∧ Below w.heap.size w w' := by
  obtain ⟨k, r, f, t, al⟩ := u
  obtain ⟨a, ha⟩ : ∃ a, (r == 44) = a := ⟨_, rfl⟩
  obtain ⟨b, hb⟩ : ∃ b, (r == 46) = b := ⟨_, rfl⟩
  have hv : Hid (dotU ⟨k, r, f, t, al⟩ = (al && (a || b))) := hid (by unfold dotU; dsimp only; rw [ha, hb])
  cases al <;> cases a <;> cases b
  all_goals
    go_enter Tryz.func83, Tryz.ntmps83
    go_wp2_with fail
    go_ret
    exact ⟨by rw [hv.out]; rfl, by first | exact (Below.refl _ w).alloc (Nat.le_refl _) _⟩
end Go.Proofs.YtmpkfpabejpbkaaGreatDoor
