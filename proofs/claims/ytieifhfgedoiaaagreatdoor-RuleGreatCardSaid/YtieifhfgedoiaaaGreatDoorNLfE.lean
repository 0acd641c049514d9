/- Lower. Conditions: those of each theorem. -/
import Derived.Test.YtieifhfgedoiaaaGreatDoorNLfC
namespace Go.Proofs.YtieifhfgedoiaaaGreatDoor
open Go.RowKit Go.Lib
set_option linter.unusedVariables false
set_option linter.unusedSimpArgs false

theorem rlower36_n (r : Int) (hg : ¬ GreatP r) (h0 : 0 ≤ r) (h9 : r ≤ 1114111) (w : World) : Calls Tryz.prog 78 #[.int .i32 r] w fun e w' => e = .returned (.int .i32 (lowI r)) ∧ w = w' := by
  have hG := hid (fun w => rgreat52 r h0 h9 w)
  rw [show greatB r = false from decide_eq_false hg] at hG
  have hv : lowI r = r := by unfold lowI; rw [if_pos hg]
  rw [hv]
  go_enter Tryz.func78, Tryz.ntmps78
  go_wp2_with (go_at_call 89; (with_reducible refine Calls.mono (hG.out _) ?_); rintro e w' ⟨rfl, rfl⟩)
  go_ret
  exact ⟨rfl, rfl⟩
def Cx36 (r : Int) (w : World) : Prop := Calls Tryz.prog 78 #[.int .i32 r] w fun e w' => e = .returned (.int .i32 (lowI r)) ∧ w = w'
set_option maxHeartbeats 8000000 in
theorem rlower36_g_0 (r : Int) (hg : GreatP r) (h1 : 65 ≤ r) (h2 : r ≤ 903) (w : World) : Cx36 r w := by
 unfold Cx36
 refine sp r 91 (fun _ => ?_) fun _ => sp r 192 (fun _ => ?_) fun _ => sp r 223 (fun _ => ?_) fun _ => sp r 304 (fun _ => ?_) fun _ => sp r 305 (fun _ => ?_) fun _ => sp r 376 (fun _ => ?_) fun _ => sp r 377 (fun _ => ?_) fun _ => sp r 902 (fun _ => ?_) fun _ => sp r 903 (fun _ => ?_) fun _ => ?_
 all_goals
  have : greatB r = true := decide_eq_true hg
  first | have := e1 r 304 (by omega) | have := n1 r 304 (by omega)
  first | have := e1 r 376 (by omega) | have := n1 r 376 (by omega)
  first | have := e1 r 902 (by omega) | have := n1 r 902 (by omega)
  first | have := it r 904 906 (by omega) | have := inf r 904 906 (by omega)
  first | have := e1 r 908 (by omega) | have := n1 r 908 (by omega)
  first | have := e1 r 910 (by omega) | have := n1 r 910 (by omega)
  first | have := e1 r 911 (by omega) | have := n1 r 911 (by omega)
  first | have := it r 65 90 (by omega) | have := inf r 65 90 (by omega)
  first | have := it r 192 222 (by omega) | have := inf r 192 222 (by omega)
  first | have := it r 913 939 (by omega) | have := inf r 913 939 (by omega)
  first | have := it r 1040 1071 (by omega) | have := inf r 1040 1071 (by omega)
  first | have := it r 1024 1039 (by omega) | have := inf r 1024 1039 (by omega)
  go_enter Tryz.func78, Tryz.ntmps78
  go_wp2_with (first | (go_at_call 89; with_reducible refine cr (rgreat52 r (by omega) (by omega) _) ?_) | (go_at_call 90; with_reducible refine cr (in53_any _ _ _ _) ?_))
  go_ret
  exact ⟨rk (by unfold lowI; rw [if_neg (fun h => h hg)]; (repeat' split) <;> first | rfl | omega | (unfold wrap32; omega) | (exfalso; unfold GreatP at hg; omega)), rfl⟩
set_option maxHeartbeats 8000000 in
theorem rlower36_g_1 (r : Int) (hg : GreatP r) (h1 : 904 ≤ r) (h2 : r ≤ 1039) (w : World) : Cx36 r w := by
 unfold Cx36
 refine sp r 907 (fun _ => ?_) fun _ => sp r 908 (fun _ => ?_) fun _ => sp r 909 (fun _ => ?_) fun _ => sp r 910 (fun _ => ?_) fun _ => sp r 911 (fun _ => ?_) fun _ => sp r 912 (fun _ => ?_) fun _ => sp r 913 (fun _ => ?_) fun _ => sp r 940 (fun _ => ?_) fun _ => sp r 1024 (fun _ => ?_) fun _ => ?_
 all_goals
  have : greatB r = true := decide_eq_true hg
  first | have := e1 r 304 (by omega) | have := n1 r 304 (by omega)
  first | have := e1 r 376 (by omega) | have := n1 r 376 (by omega)
  first | have := e1 r 902 (by omega) | have := n1 r 902 (by omega)
  first | have := it r 904 906 (by omega) | have := inf r 904 906 (by omega)
  first | have := e1 r 908 (by omega) | have := n1 r 908 (by omega)
  first | have := e1 r 910 (by omega) | have := n1 r 910 (by omega)
  first | have := e1 r 911 (by omega) | have := n1 r 911 (by omega)
  first | have := it r 65 90 (by omega) | have := inf r 65 90 (by omega)
  first | have := it r 192 222 (by omega) | have := inf r 192 222 (by omega)
  first | have := it r 913 939 (by omega) | have := inf r 913 939 (by omega)
  first | have := it r 1040 1071 (by omega) | have := inf r 1040 1071 (by omega)
  first | have := it r 1024 1039 (by omega) | have := inf r 1024 1039 (by omega)
  go_enter Tryz.func78, Tryz.ntmps78
  go_wp2_with (first | (go_at_call 89; with_reducible refine cr (rgreat52 r (by omega) (by omega) _) ?_) | (go_at_call 90; with_reducible refine cr (in53_any _ _ _ _) ?_))
  go_ret
  exact ⟨rk (by unfold lowI; rw [if_neg (fun h => h hg)]; (repeat' split) <;> first | rfl | omega | (unfold wrap32; omega) | (exfalso; unfold GreatP at hg; omega)), rfl⟩
set_option maxHeartbeats 8000000 in
theorem rlower36_g_2 (r : Int) (hg : GreatP r) (h1 : 1040 ≤ r) (h2 : r ≤ 1071) (w : World) : Cx36 r w := by
 unfold Cx36
 skip
 all_goals
  have : greatB r = true := decide_eq_true hg
  first | have := e1 r 304 (by omega) | have := n1 r 304 (by omega)
  first | have := e1 r 376 (by omega) | have := n1 r 376 (by omega)
  first | have := e1 r 902 (by omega) | have := n1 r 902 (by omega)
  first | have := it r 904 906 (by omega) | have := inf r 904 906 (by omega)
  first | have := e1 r 908 (by omega) | have := n1 r 908 (by omega)
  first | have := e1 r 910 (by omega) | have := n1 r 910 (by omega)
  first | have := e1 r 911 (by omega) | have := n1 r 911 (by omega)
  first | have := it r 65 90 (by omega) | have := inf r 65 90 (by omega)
  first | have := it r 192 222 (by omega) | have := inf r 192 222 (by omega)
  first | have := it r 913 939 (by omega) | have := inf r 913 939 (by omega)
  first | have := it r 1040 1071 (by omega) | have := inf r 1040 1071 (by omega)
  go_enter Tryz.func78, Tryz.ntmps78
  go_wp2_with (first | (go_at_call 89; with_reducible refine cr (rgreat52 r (by omega) (by omega) _) ?_) | (go_at_call 90; with_reducible refine cr (in53_any _ _ _ _) ?_))
  go_ret
  exact ⟨rk (by unfold lowI; rw [if_neg (fun h => h hg)]; (repeat' split) <;> first | rfl | omega | (unfold wrap32; omega) | (exfalso; unfold GreatP at hg; omega)), rfl⟩
theorem rlower36_g (r : Int) (hg : GreatP r) (h0 : 65 ≤ r) (h9 : r ≤ 1071) (w : World) : Calls Tryz.prog 78 #[.int .i32 r] w fun e w' => e = .returned (.int .i32 (lowI r)) ∧ w = w' := by
 exact sp r 904 (fun _ => rlower36_g_0 r hg (by omega) (by omega) w) fun _ => sp r 1040 (fun _ => rlower36_g_1 r hg (by omega) (by omega) w) fun _ => rlower36_g_2 r hg (by omega) (by omega) w
theorem rlower36 (r : Int) (h0 : 0 ≤ r) (h9 : r ≤ 1114111) (w : World) : Calls Tryz.prog 78 #[.int .i32 r] w fun e w' => e = .returned (.int .i32 (lowI r)) ∧ w = w' := by
  by_cases hg : GreatP r
  · exact rlower36_g r hg (by unfold GreatP at hg; omega) (by unfold GreatP at hg; omega) w
  · exact rlower36_n r hg h0 h9 w
end Go.Proofs.YtieifhfgedoiaaaGreatDoor
