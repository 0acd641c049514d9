/- class.Great and Small. Conditions: those of each theorem. -/
import Derived.Test.YteodfondjogmoaaGreatDoorRNLfA
namespace Go.Proofs.YteodfondjogmoaaGreatDoor.R
open Go.RowKit Go.Lib
set_option linter.unusedVariables false
set_option linter.unusedSimpArgs false

def Cx71 (r : Int) (w : World) : Prop := Calls Tryz.prog 154 #[.int .i32 r] w fun e w' => e = .returned (.bool (greatB r)) ∧ w = w'
set_option maxHeartbeats 8000000 in
theorem great71_0 (r : Int) (h1 : 0 ≤ r) (h2 : r ≤ 381) (w : World) : Cx71 r w := by
 unfold Cx71
 refine sp r 65 (fun _ => ?_) fun _ => sp r 91 (fun _ => ?_) fun _ => sp r 192 (fun _ => ?_) fun _ => sp r 215 (fun _ => ?_) fun _ => sp r 216 (fun _ => ?_) fun _ => sp r 223 (fun _ => ?_) fun _ => sp r 256 (fun _ => ?_) fun _ => sp r 312 (fun _ => pe r (fun _ => ?_) fun _ => ?_) fun _ => sp r 313 (fun _ => ?_) fun _ => sp r 329 (fun _ => pe r (fun _ => ?_) fun _ => ?_) fun _ => sp r 330 (fun _ => ?_) fun _ => sp r 376 (fun _ => pe r (fun _ => ?_) fun _ => ?_) fun _ => sp r 377 (fun _ => ?_) fun _ => pe r (fun _ => ?_) fun _ => ?_
 all_goals
  first | have := dgt r 65 (by omega) | have := dgf r 65 (by omega)
  first | have := dgt r 192 (by omega) | have := dgf r 192 (by omega)
  first | have := dgt r 256 (by omega) | have := dgf r 256 (by omega)
  first | have := dgt r 330 (by omega) | have := dgf r 330 (by omega)
  first | have := dgt r 313 (by omega) | have := dgf r 313 (by omega)
  first | have := dgt r 376 (by omega) | have := dgf r 376 (by omega)
  first | have := dgt r 902 (by omega) | have := dgf r 902 (by omega)
  first | have := dgt r 913 (by omega) | have := dgf r 913 (by omega)
  first | have := dgt r 1024 (by omega) | have := dgf r 1024 (by omega)
  first | have := dlt r 90 (by omega) | have := dlf r 90 (by omega)
  first | have := b1 r 215 (by omega) | have := b0 r 215 (by omega)
  first | have := dlt r 222 (by omega) | have := dlf r 222 (by omega)
  first | have := dlt r 311 (by omega) | have := dlf r 311 (by omega)
  first | have := v1 r (by omega) | have := v0 r (by omega) | skip
  first | have := dlt r 328 (by omega) | have := dlf r 328 (by omega)
  first | have := dlt r 375 (by omega) | have := dlf r 375 (by omega)
  first | have := dlt r 381 (by omega) | have := dlf r 381 (by omega)
  first | have := e1 r 376 (by omega) | have := n1 r 376 (by omega)
  first | rw [show greatB r = true from decide_eq_true (by unfold GreatP; omega)] | rw [show greatB r = false from decide_eq_false (by unfold GreatP; omega)]
  go_enter Tryz.func154, Tryz.ntmps154
  go_wp2_with ((go_at_call 188; with_reducible refine cr (even86_any r (by omega) (by omega) _) ?_))
  go_ret
  exact ⟨rfl, rfl⟩
set_option maxHeartbeats 8000000 in
theorem great71_1 (r : Int) (h1 : 382 ≤ r) (h2 : r ≤ 1114111) (w : World) : Cx71 r w := by
 unfold Cx71
 refine sp r 902 (fun _ => ?_) fun _ => sp r 903 (fun _ => ?_) fun _ => sp r 904 (fun _ => ?_) fun _ => sp r 907 (fun _ => ?_) fun _ => sp r 908 (fun _ => ?_) fun _ => sp r 909 (fun _ => ?_) fun _ => sp r 910 (fun _ => ?_) fun _ => sp r 912 (fun _ => ?_) fun _ => sp r 913 (fun _ => ?_) fun _ => sp r 930 (fun _ => ?_) fun _ => sp r 931 (fun _ => ?_) fun _ => sp r 940 (fun _ => ?_) fun _ => sp r 1024 (fun _ => ?_) fun _ => sp r 1072 (fun _ => ?_) fun _ => ?_
 all_goals
  first | have := dgt r 65 (by omega) | have := dgf r 65 (by omega)
  first | have := dlt r 90 (by omega) | have := dlf r 90 (by omega)
  first | have := dgt r 192 (by omega) | have := dgf r 192 (by omega)
  first | have := dlt r 222 (by omega) | have := dlf r 222 (by omega)
  first | have := dgt r 256 (by omega) | have := dgf r 256 (by omega)
  first | have := dlt r 311 (by omega) | have := dlf r 311 (by omega)
  first | have := dgt r 330 (by omega) | have := dgf r 330 (by omega)
  first | have := dlt r 375 (by omega) | have := dlf r 375 (by omega)
  first | have := dgt r 313 (by omega) | have := dgf r 313 (by omega)
  first | have := dlt r 328 (by omega) | have := dlf r 328 (by omega)
  first | have := dgt r 376 (by omega) | have := dgf r 376 (by omega)
  first | have := dlt r 381 (by omega) | have := dlf r 381 (by omega)
  first | have := dgt r 902 (by omega) | have := dgf r 902 (by omega)
  first | have := dgt r 913 (by omega) | have := dgf r 913 (by omega)
  first | have := dgt r 1024 (by omega) | have := dgf r 1024 (by omega)
  first | have := dlt r 911 (by omega) | have := dlf r 911 (by omega)
  first | have := b1 r 903 (by omega) | have := b0 r 903 (by omega)
  first | have := b1 r 907 (by omega) | have := b0 r 907 (by omega)
  first | have := b1 r 909 (by omega) | have := b0 r 909 (by omega)
  first | have := dlt r 939 (by omega) | have := dlf r 939 (by omega)
  first | have := b1 r 930 (by omega) | have := b0 r 930 (by omega)
  first | have := dlt r 1071 (by omega) | have := dlf r 1071 (by omega)
  first | rw [show greatB r = true from decide_eq_true (by unfold GreatP; omega)] | rw [show greatB r = false from decide_eq_false (by unfold GreatP; omega)]
  go_enter Tryz.func154, Tryz.ntmps154
  go_wp2_with ((go_at_call 188; with_reducible refine cr (even86_any r (by omega) (by omega) _) ?_))
  go_ret
  exact ⟨rfl, rfl⟩
theorem great71 (r : Int) (h0 : 0 ≤ r) (h9 : r ≤ 1114111) (w : World) : Calls Tryz.prog 154 #[.int .i32 r] w fun e w' => e = .returned (.bool (greatB r)) ∧ w = w' := by
 exact sp r 382 (fun _ => great71_0 r  (by omega) (by omega) w) fun _ => great71_1 r  (by omega) (by omega) w
def Cx105 (r : Int) (w : World) : Prop := Calls Tryz.prog 159 #[.int .i32 r] w fun e w' => e = .returned (.bool (smallB r)) ∧ w = w'
set_option maxHeartbeats 8000000 in
theorem small105_0 (r : Int) (h1 : 0 ≤ r) (h2 : r ≤ 375) (w : World) : Cx105 r w := by
 unfold Cx105
 refine sp r 97 (fun _ => ?_) fun _ => sp r 123 (fun _ => ?_) fun _ => sp r 223 (fun _ => ?_) fun _ => sp r 247 (fun _ => ?_) fun _ => sp r 248 (fun _ => ?_) fun _ => sp r 256 (fun _ => ?_) fun _ => sp r 312 (fun _ => pe r (fun _ => ?_) fun _ => ?_) fun _ => sp r 313 (fun _ => ?_) fun _ => sp r 329 (fun _ => pe r (fun _ => ?_) fun _ => ?_) fun _ => sp r 330 (fun _ => ?_) fun _ => pe r (fun _ => ?_) fun _ => ?_
 all_goals
  first | have := dgt r 97 (by omega) | have := dgf r 97 (by omega)
  first | have := dgt r 223 (by omega) | have := dgf r 223 (by omega)
  first | have := dgt r 256 (by omega) | have := dgf r 256 (by omega)
  first | have := dgt r 330 (by omega) | have := dgf r 330 (by omega)
  first | have := e1 r 312 (by omega) | have := n1 r 312 (by omega)
  first | have := e1 r 329 (by omega) | have := n1 r 329 (by omega)
  first | have := e1 r 383 (by omega) | have := n1 r 383 (by omega)
  first | have := e1 r 912 (by omega) | have := n1 r 912 (by omega)
  first | have := dgt r 313 (by omega) | have := dgf r 313 (by omega)
  first | have := dgt r 378 (by omega) | have := dgf r 378 (by omega)
  first | have := dgt r 940 (by omega) | have := dgf r 940 (by omega)
  first | have := dgt r 1072 (by omega) | have := dgf r 1072 (by omega)
  first | have := dlt r 122 (by omega) | have := dlf r 122 (by omega)
  first | have := b1 r 247 (by omega) | have := b0 r 247 (by omega)
  first | have := dlt r 255 (by omega) | have := dlf r 255 (by omega)
  first | have := dlt r 311 (by omega) | have := dlf r 311 (by omega)
  first | have := v1 r (by omega) | have := v0 r (by omega) | skip
  first | have := dlt r 328 (by omega) | have := dlf r 328 (by omega)
  first | have := dlt r 375 (by omega) | have := dlf r 375 (by omega)
  first | rw [show smallB r = true from decide_eq_true (by unfold SmallP; omega)] | rw [show smallB r = false from decide_eq_false (by unfold SmallP; omega)]
  go_enter Tryz.func159, Tryz.ntmps159
  go_wp2_with ((go_at_call 188; with_reducible refine cr (even86_any r (by omega) (by omega) _) ?_))
  go_ret
  exact ⟨rfl, rfl⟩
set_option maxHeartbeats 8000000 in
theorem small105_1 (r : Int) (h1 : 376 ≤ r) (h2 : r ≤ 1114111) (w : World) : Cx105 r w := by
 unfold Cx105
 refine sp r 378 (fun _ => ?_) fun _ => sp r 383 (fun _ => pe r (fun _ => ?_) fun _ => ?_) fun _ => sp r 384 (fun _ => ?_) fun _ => sp r 912 (fun _ => ?_) fun _ => sp r 913 (fun _ => ?_) fun _ => sp r 940 (fun _ => ?_) fun _ => sp r 975 (fun _ => ?_) fun _ => sp r 1072 (fun _ => ?_) fun _ => sp r 1120 (fun _ => ?_) fun _ => ?_
 all_goals
  first | have := dgt r 97 (by omega) | have := dgf r 97 (by omega)
  first | have := dlt r 122 (by omega) | have := dlf r 122 (by omega)
  first | have := dgt r 223 (by omega) | have := dgf r 223 (by omega)
  first | have := dlt r 255 (by omega) | have := dlf r 255 (by omega)
  first | have := dgt r 256 (by omega) | have := dgf r 256 (by omega)
  first | have := dlt r 311 (by omega) | have := dlf r 311 (by omega)
  first | have := dgt r 330 (by omega) | have := dgf r 330 (by omega)
  first | have := dlt r 375 (by omega) | have := dlf r 375 (by omega)
  first | have := e1 r 312 (by omega) | have := n1 r 312 (by omega)
  first | have := e1 r 329 (by omega) | have := n1 r 329 (by omega)
  first | have := e1 r 383 (by omega) | have := n1 r 383 (by omega)
  first | have := e1 r 912 (by omega) | have := n1 r 912 (by omega)
  first | have := dgt r 313 (by omega) | have := dgf r 313 (by omega)
  first | have := dlt r 328 (by omega) | have := dlf r 328 (by omega)
  first | have := dgt r 378 (by omega) | have := dgf r 378 (by omega)
  first | have := dgt r 940 (by omega) | have := dgf r 940 (by omega)
  first | have := dgt r 1072 (by omega) | have := dgf r 1072 (by omega)
  first | have := dlt r 382 (by omega) | have := dlf r 382 (by omega)
  first | have := v1 r (by omega) | have := v0 r (by omega) | skip
  first | have := dlt r 974 (by omega) | have := dlf r 974 (by omega)
  first | have := dlt r 1119 (by omega) | have := dlf r 1119 (by omega)
  first | rw [show smallB r = true from decide_eq_true (by unfold SmallP; omega)] | rw [show smallB r = false from decide_eq_false (by unfold SmallP; omega)]
  go_enter Tryz.func159, Tryz.ntmps159
  go_wp2_with ((go_at_call 188; with_reducible refine cr (even86_any r (by omega) (by omega) _) ?_))
  go_ret
  exact ⟨rfl, rfl⟩
theorem small105 (r : Int) (h0 : 0 ≤ r) (h9 : r ≤ 1114111) (w : World) : Calls Tryz.prog 159 #[.int .i32 r] w fun e w' => e = .returned (.bool (smallB r)) ∧ w = w' := by
 exact sp r 376 (fun _ => small105_0 r  (by omega) (by omega) w) fun _ => small105_1 r  (by omega) (by omega) w
theorem letter93 (r : Int) (h0 : 0 ≤ r) (h9 : r ≤ 1114111) (w : World) : Calls Tryz.prog 151 #[.int .i32 r] w fun e w' => e = .returned (.bool (greatB r || smallB r)) ∧ w = w' := by
  have hG := hid (fun w => great71 r h0 h9 w)
  have hS := hid (fun w => small105 r h0 h9 w)
  cases hb : greatB r
  all_goals
    rw [hb] at hG
    go_enter Tryz.func151, Tryz.ntmps151
    go_wp2_with (first | (go_at_call 154; (with_reducible refine Calls.mono (hG.out _) ?_); rintro e w' ⟨rfl, rfl⟩) | (go_at_call 159; (with_reducible refine Calls.mono (hS.out _) ?_); rintro e w' ⟨rfl, rfl⟩))
    go_ret
    exact ⟨rfl, rfl⟩
end Go.Proofs.YteodfondjogmoaaGreatDoor.R
