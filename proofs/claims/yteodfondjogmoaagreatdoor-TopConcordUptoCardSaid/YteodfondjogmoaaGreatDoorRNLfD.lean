/- Lower. Conditions: those of each theorem. -/
import Derived.Test.YteodfondjogmoaaGreatDoorRNLfB
namespace Go.Proofs.YteodfondjogmoaaGreatDoor.R
open Go.RowKit Go.Lib
set_option linter.unusedVariables false
set_option linter.unusedSimpArgs false

theorem lower54_n (r : Int) (hg : ¬ GreatP r) (h0 : 0 ≤ r) (h9 : r ≤ 1114111) (w : World) : Calls Tryz.prog 121 #[.int .i32 r] w fun e w' => e = .returned (.int .i32 (lowI r)) ∧ w = w' := by
  have hG := hid (fun w => great71 r h0 h9 w)
  rw [show greatB r = false from decide_eq_false hg] at hG
  have hv : lowI r = r := by unfold lowI; rw [if_pos hg]
  rw [hv]
  go_enter Tryz.func121, Tryz.ntmps121
  go_wp2_with (go_at_call 154; (with_reducible refine Calls.mono (hG.out _) ?_); rintro e w' ⟨rfl, rfl⟩)
  go_ret
  exact ⟨rfl, rfl⟩
def Cx54 (r : Int) (w : World) : Prop := Calls Tryz.prog 121 #[.int .i32 r] w fun e w' => e = .returned (.int .i32 (lowI r)) ∧ w = w'
set_option maxHeartbeats 8000000 in
theorem lower54_g_0 (r : Int) (hg : GreatP r) (h1 : 65 ≤ r) (h2 : r ≤ 906) (w : World) : Cx54 r w := by
 unfold Cx54
 refine sp r 256 (fun _ => ?_) fun _ => sp r 304 (fun _ => ?_) fun _ => sp r 305 (fun _ => ?_) fun _ => sp r 376 (fun _ => ?_) fun _ => sp r 377 (fun _ => ?_) fun _ => sp r 384 (fun _ => ?_) fun _ => sp r 902 (fun _ => ?_) fun _ => sp r 903 (fun _ => ?_) fun _ => sp r 904 (fun _ => ?_) fun _ => ?_
 all_goals
  have : greatB r = true := decide_eq_true hg
  first | have := e1 r 304 (by omega) | have := n1 r 304 (by omega)
  first | have := e1 r 376 (by omega) | have := n1 r 376 (by omega)
  first | have := e1 r 902 (by omega) | have := n1 r 902 (by omega)
  first | have := e1 r 908 (by omega) | have := n1 r 908 (by omega)
  first | have := dgt r 904 (by omega) | have := dgf r 904 (by omega)
  first | have := e1 r 910 (by omega) | have := n1 r 910 (by omega)
  first | have := e1 r 911 (by omega) | have := n1 r 911 (by omega)
  first | have := dgt r 1024 (by omega) | have := dgf r 1024 (by omega)
  first | have := dmt r 256 (by omega) | have := dmf r 256 (by omega)
  first | have := dnt r 383 (by omega) | have := dnf r 383 (by omega)
  first | have := dlt r 906 (by omega) | have := dlf r 906 (by omega)
  go_enter Tryz.func121, Tryz.ntmps121
  go_wp2_with ((go_at_call 154; with_reducible refine cr (great71 r (by omega) (by omega) _) ?_))
  go_ret
  exact ⟨rk (by unfold lowI; rw [if_neg (fun h => h hg)]; (repeat' split) <;> first | rfl | omega | (unfold wrap32; omega) | (exfalso; unfold GreatP at hg; omega)), rfl⟩
set_option maxHeartbeats 8000000 in
theorem lower54_g_1 (r : Int) (hg : GreatP r) (h1 : 907 ≤ r) (h2 : r ≤ 1071) (w : World) : Cx54 r w := by
 unfold Cx54
 refine sp r 908 (fun _ => ?_) fun _ => sp r 909 (fun _ => ?_) fun _ => sp r 910 (fun _ => ?_) fun _ => sp r 911 (fun _ => ?_) fun _ => sp r 912 (fun _ => ?_) fun _ => sp r 1024 (fun _ => ?_) fun _ => sp r 1040 (fun _ => ?_) fun _ => ?_
 all_goals
  have : greatB r = true := decide_eq_true hg
  first | have := e1 r 304 (by omega) | have := n1 r 304 (by omega)
  first | have := e1 r 376 (by omega) | have := n1 r 376 (by omega)
  first | have := e1 r 902 (by omega) | have := n1 r 902 (by omega)
  first | have := e1 r 908 (by omega) | have := n1 r 908 (by omega)
  first | have := dgt r 904 (by omega) | have := dgf r 904 (by omega)
  first | have := dlt r 906 (by omega) | have := dlf r 906 (by omega)
  first | have := e1 r 910 (by omega) | have := n1 r 910 (by omega)
  first | have := e1 r 911 (by omega) | have := n1 r 911 (by omega)
  first | have := dgt r 1024 (by omega) | have := dgf r 1024 (by omega)
  first | have := dmt r 256 (by omega) | have := dmf r 256 (by omega)
  first | have := dnt r 383 (by omega) | have := dnf r 383 (by omega)
  first | have := dlt r 1039 (by omega) | have := dlf r 1039 (by omega)
  go_enter Tryz.func121, Tryz.ntmps121
  go_wp2_with ((go_at_call 154; with_reducible refine cr (great71 r (by omega) (by omega) _) ?_))
  go_ret
  exact ⟨rk (by unfold lowI; rw [if_neg (fun h => h hg)]; (repeat' split) <;> first | rfl | omega | (unfold wrap32; omega) | (exfalso; unfold GreatP at hg; omega)), rfl⟩
theorem lower54_g (r : Int) (hg : GreatP r) (h0 : 65 ≤ r) (h9 : r ≤ 1071) (w : World) : Calls Tryz.prog 121 #[.int .i32 r] w fun e w' => e = .returned (.int .i32 (lowI r)) ∧ w = w' := by
 exact sp r 907 (fun _ => lower54_g_0 r hg (by omega) (by omega) w) fun _ => lower54_g_1 r hg (by omega) (by omega) w
theorem lower54 (r : Int) (h0 : 0 ≤ r) (h9 : r ≤ 1114111) (w : World) : Calls Tryz.prog 121 #[.int .i32 r] w fun e w' => e = .returned (.int .i32 (lowI r)) ∧ w = w' := by
  by_cases hg : GreatP r
  · exact lower54_g r hg (by unfold GreatP at hg; omega) (by unfold GreatP at hg; omega) w
  · exact lower54_n r hg h0 h9 w
end Go.Proofs.YteodfondjogmoaaGreatDoor.R
