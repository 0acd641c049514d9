/- The document's Great and Small. Conditions: those of each theorem. -/
import Derived.Test.YtieifhfgedoiaaaGreatDoorNLfA
namespace Go.Proofs.YtieifhfgedoiaaaGreatDoor
open Go.RowKit Go.Lib
set_option linter.unusedVariables false
set_option linter.unusedSimpArgs false

def Cx52 (r : Int) (w : World) : Prop := Calls Tryz.prog 89 #[.int .i32 r] w fun e w' => e = .returned (.bool (greatB r)) ∧ w = w'
set_option maxHeartbeats 8000000 in
theorem rgreat52_0 (r : Int) (h1 : 0 ≤ r) (h2 : r ≤ 377) (w : World) : Cx52 r w := by
 unfold Cx52
 refine sp r 65 (fun _ => ?_) fun _ => sp r 91 (fun _ => ?_) fun _ => sp r 192 (fun _ => ?_) fun _ => sp r 215 (fun _ => ?_) fun _ => sp r 216 (fun _ => ?_) fun _ => sp r 223 (fun _ => ?_) fun _ => sp r 256 (fun _ => ?_) fun _ => sp r 312 (fun _ => pe r (fun _ => ?_) fun _ => ?_) fun _ => sp r 313 (fun _ => ?_) fun _ => sp r 329 (fun _ => pe r (fun _ => ?_) fun _ => ?_) fun _ => sp r 330 (fun _ => ?_) fun _ => sp r 376 (fun _ => pe r (fun _ => ?_) fun _ => ?_) fun _ => sp r 377 (fun _ => ?_) fun _ => ?_
 all_goals
  first | have := it r 65 90 (by omega) | have := inf r 65 90 (by omega)
  first | have := it r 192 222 (by omega) | have := inf r 192 222 (by omega)
  first | have := it r 256 311 (by omega) | have := inf r 256 311 (by omega)
  first | have := it r 330 375 (by omega) | have := inf r 330 375 (by omega)
  first | have := it r 313 328 (by omega) | have := inf r 313 328 (by omega)
  first | have := e1 r 376 (by omega) | have := n1 r 376 (by omega)
  first | have := e1 r 377 (by omega) | have := n1 r 377 (by omega)
  first | have := e1 r 379 (by omega) | have := n1 r 379 (by omega)
  first | have := e1 r 381 (by omega) | have := n1 r 381 (by omega)
  first | have := e1 r 902 (by omega) | have := n1 r 902 (by omega)
  first | have := it r 904 906 (by omega) | have := inf r 904 906 (by omega)
  first | have := e1 r 908 (by omega) | have := n1 r 908 (by omega)
  first | have := e1 r 910 (by omega) | have := n1 r 910 (by omega)
  first | have := e1 r 911 (by omega) | have := n1 r 911 (by omega)
  first | have := it r 913 939 (by omega) | have := inf r 913 939 (by omega)
  first | have := it r 1024 1071 (by omega) | have := inf r 1024 1071 (by omega)
  first | have := b1 r 215 (by omega) | have := b0 r 215 (by omega)
  first | have := m1 r 0 (by omega) (by omega) | have := m0 r 0 (by omega) (by omega) | skip
  first | have := m1 r 1 (by omega) (by omega) | have := m0 r 1 (by omega) (by omega) | skip
  first | rw [show greatB r = true from decide_eq_true (by unfold GreatP; omega)] | rw [show greatB r = false from decide_eq_false (by unfold GreatP; omega)]
  go_enter Tryz.func89, Tryz.ntmps89
  go_wp2_with ((go_at_call 90; with_reducible refine cr (in53_any _ _ _ _) ?_))
  go_ret
  exact ⟨rfl, rfl⟩
set_option maxHeartbeats 8000000 in
theorem rgreat52_1 (r : Int) (h1 : 378 ≤ r) (h2 : r ≤ 939) (w : World) : Cx52 r w := by
 unfold Cx52
 refine sp r 379 (fun _ => ?_) fun _ => sp r 380 (fun _ => ?_) fun _ => sp r 381 (fun _ => ?_) fun _ => sp r 382 (fun _ => ?_) fun _ => sp r 902 (fun _ => ?_) fun _ => sp r 903 (fun _ => ?_) fun _ => sp r 904 (fun _ => ?_) fun _ => sp r 907 (fun _ => ?_) fun _ => sp r 908 (fun _ => ?_) fun _ => sp r 909 (fun _ => ?_) fun _ => sp r 910 (fun _ => ?_) fun _ => sp r 911 (fun _ => ?_) fun _ => sp r 912 (fun _ => ?_) fun _ => sp r 913 (fun _ => ?_) fun _ => sp r 930 (fun _ => ?_) fun _ => sp r 931 (fun _ => ?_) fun _ => ?_
 all_goals
  first | have := it r 65 90 (by omega) | have := inf r 65 90 (by omega)
  first | have := it r 192 222 (by omega) | have := inf r 192 222 (by omega)
  first | have := it r 256 311 (by omega) | have := inf r 256 311 (by omega)
  first | have := it r 330 375 (by omega) | have := inf r 330 375 (by omega)
  first | have := it r 313 328 (by omega) | have := inf r 313 328 (by omega)
  first | have := e1 r 376 (by omega) | have := n1 r 376 (by omega)
  first | have := e1 r 377 (by omega) | have := n1 r 377 (by omega)
  first | have := e1 r 379 (by omega) | have := n1 r 379 (by omega)
  first | have := e1 r 381 (by omega) | have := n1 r 381 (by omega)
  first | have := e1 r 902 (by omega) | have := n1 r 902 (by omega)
  first | have := it r 904 906 (by omega) | have := inf r 904 906 (by omega)
  first | have := e1 r 908 (by omega) | have := n1 r 908 (by omega)
  first | have := e1 r 910 (by omega) | have := n1 r 910 (by omega)
  first | have := e1 r 911 (by omega) | have := n1 r 911 (by omega)
  first | have := it r 913 939 (by omega) | have := inf r 913 939 (by omega)
  first | have := it r 1024 1071 (by omega) | have := inf r 1024 1071 (by omega)
  first | have := b1 r 930 (by omega) | have := b0 r 930 (by omega)
  first | rw [show greatB r = true from decide_eq_true (by unfold GreatP; omega)] | rw [show greatB r = false from decide_eq_false (by unfold GreatP; omega)]
  go_enter Tryz.func89, Tryz.ntmps89
  go_wp2_with ((go_at_call 90; with_reducible refine cr (in53_any _ _ _ _) ?_))
  go_ret
  exact ⟨rfl, rfl⟩
set_option maxHeartbeats 8000000 in
theorem rgreat52_2 (r : Int) (h1 : 940 ≤ r) (h2 : r ≤ 1114111) (w : World) : Cx52 r w := by
 unfold Cx52
 refine sp r 1024 (fun _ => ?_) fun _ => sp r 1072 (fun _ => ?_) fun _ => ?_
 all_goals
  first | have := it r 65 90 (by omega) | have := inf r 65 90 (by omega)
  first | have := it r 192 222 (by omega) | have := inf r 192 222 (by omega)
  first | have := it r 256 311 (by omega) | have := inf r 256 311 (by omega)
  first | have := it r 330 375 (by omega) | have := inf r 330 375 (by omega)
  first | have := it r 313 328 (by omega) | have := inf r 313 328 (by omega)
  first | have := e1 r 376 (by omega) | have := n1 r 376 (by omega)
  first | have := e1 r 377 (by omega) | have := n1 r 377 (by omega)
  first | have := e1 r 379 (by omega) | have := n1 r 379 (by omega)
  first | have := e1 r 381 (by omega) | have := n1 r 381 (by omega)
  first | have := e1 r 902 (by omega) | have := n1 r 902 (by omega)
  first | have := it r 904 906 (by omega) | have := inf r 904 906 (by omega)
  first | have := e1 r 908 (by omega) | have := n1 r 908 (by omega)
  first | have := e1 r 910 (by omega) | have := n1 r 910 (by omega)
  first | have := e1 r 911 (by omega) | have := n1 r 911 (by omega)
  first | have := it r 913 939 (by omega) | have := inf r 913 939 (by omega)
  first | have := it r 1024 1071 (by omega) | have := inf r 1024 1071 (by omega)
  first | rw [show greatB r = true from decide_eq_true (by unfold GreatP; omega)] | rw [show greatB r = false from decide_eq_false (by unfold GreatP; omega)]
  go_enter Tryz.func89, Tryz.ntmps89
  go_wp2_with ((go_at_call 90; with_reducible refine cr (in53_any _ _ _ _) ?_))
  go_ret
  exact ⟨rfl, rfl⟩
theorem rgreat52 (r : Int) (h0 : 0 ≤ r) (h9 : r ≤ 1114111) (w : World) : Calls Tryz.prog 89 #[.int .i32 r] w fun e w' => e = .returned (.bool (greatB r)) ∧ w = w' := by
 exact sp r 378 (fun _ => rgreat52_0 r  (by omega) (by omega) w) fun _ => sp r 940 (fun _ => rgreat52_1 r  (by omega) (by omega) w) fun _ => rgreat52_2 r  (by omega) (by omega) w
def Cx114 (r : Int) (w : World) : Prop := Calls Tryz.prog 98 #[.int .i32 r] w fun e w' => e = .returned (.bool (smallB r)) ∧ w = w'
set_option maxHeartbeats 8000000 in
theorem rsmall114_0 (r : Int) (h1 : 0 ≤ r) (h2 : r ≤ 375) (w : World) : Cx114 r w := by
 unfold Cx114
 refine sp r 97 (fun _ => ?_) fun _ => sp r 123 (fun _ => ?_) fun _ => sp r 223 (fun _ => ?_) fun _ => sp r 247 (fun _ => ?_) fun _ => sp r 248 (fun _ => ?_) fun _ => sp r 256 (fun _ => ?_) fun _ => sp r 312 (fun _ => pe r (fun _ => ?_) fun _ => ?_) fun _ => sp r 313 (fun _ => ?_) fun _ => sp r 329 (fun _ => pe r (fun _ => ?_) fun _ => ?_) fun _ => sp r 330 (fun _ => ?_) fun _ => pe r (fun _ => ?_) fun _ => ?_
 all_goals
  first | have := it r 97 122 (by omega) | have := inf r 97 122 (by omega)
  first | have := it r 223 255 (by omega) | have := inf r 223 255 (by omega)
  first | have := it r 256 311 (by omega) | have := inf r 256 311 (by omega)
  first | have := it r 330 375 (by omega) | have := inf r 330 375 (by omega)
  first | have := it r 313 328 (by omega) | have := inf r 313 328 (by omega)
  first | have := e1 r 312 (by omega) | have := n1 r 312 (by omega)
  first | have := e1 r 329 (by omega) | have := n1 r 329 (by omega)
  first | have := e1 r 378 (by omega) | have := n1 r 378 (by omega)
  first | have := e1 r 380 (by omega) | have := n1 r 380 (by omega)
  first | have := e1 r 382 (by omega) | have := n1 r 382 (by omega)
  first | have := e1 r 383 (by omega) | have := n1 r 383 (by omega)
  first | have := e1 r 912 (by omega) | have := n1 r 912 (by omega)
  first | have := it r 940 974 (by omega) | have := inf r 940 974 (by omega)
  first | have := it r 1072 1119 (by omega) | have := inf r 1072 1119 (by omega)
  first | have := b1 r 247 (by omega) | have := b0 r 247 (by omega)
  first | have := m1 r 1 (by omega) (by omega) | have := m0 r 1 (by omega) (by omega) | skip
  first | have := m1 r 0 (by omega) (by omega) | have := m0 r 0 (by omega) (by omega) | skip
  first | rw [show smallB r = true from decide_eq_true (by unfold SmallP; omega)] | rw [show smallB r = false from decide_eq_false (by unfold SmallP; omega)]
  go_enter Tryz.func98, Tryz.ntmps98
  go_wp2_with ((go_at_call 90; with_reducible refine cr (in53_any _ _ _ _) ?_))
  go_ret
  exact ⟨rfl, rfl⟩
set_option maxHeartbeats 8000000 in
theorem rsmall114_1 (r : Int) (h1 : 376 ≤ r) (h2 : r ≤ 1119) (w : World) : Cx114 r w := by
 unfold Cx114
 refine sp r 378 (fun _ => ?_) fun _ => sp r 379 (fun _ => ?_) fun _ => sp r 380 (fun _ => ?_) fun _ => sp r 381 (fun _ => ?_) fun _ => sp r 382 (fun _ => ?_) fun _ => sp r 383 (fun _ => ?_) fun _ => sp r 384 (fun _ => ?_) fun _ => sp r 912 (fun _ => ?_) fun _ => sp r 913 (fun _ => ?_) fun _ => sp r 940 (fun _ => ?_) fun _ => sp r 975 (fun _ => ?_) fun _ => sp r 1072 (fun _ => ?_) fun _ => ?_
 all_goals
  first | have := it r 97 122 (by omega) | have := inf r 97 122 (by omega)
  first | have := it r 223 255 (by omega) | have := inf r 223 255 (by omega)
  first | have := it r 256 311 (by omega) | have := inf r 256 311 (by omega)
  first | have := it r 330 375 (by omega) | have := inf r 330 375 (by omega)
  first | have := it r 313 328 (by omega) | have := inf r 313 328 (by omega)
  first | have := e1 r 312 (by omega) | have := n1 r 312 (by omega)
  first | have := e1 r 329 (by omega) | have := n1 r 329 (by omega)
  first | have := e1 r 378 (by omega) | have := n1 r 378 (by omega)
  first | have := e1 r 380 (by omega) | have := n1 r 380 (by omega)
  first | have := e1 r 382 (by omega) | have := n1 r 382 (by omega)
  first | have := e1 r 383 (by omega) | have := n1 r 383 (by omega)
  first | have := e1 r 912 (by omega) | have := n1 r 912 (by omega)
  first | have := it r 940 974 (by omega) | have := inf r 940 974 (by omega)
  first | have := it r 1072 1119 (by omega) | have := inf r 1072 1119 (by omega)
  first | rw [show smallB r = true from decide_eq_true (by unfold SmallP; omega)] | rw [show smallB r = false from decide_eq_false (by unfold SmallP; omega)]
  go_enter Tryz.func98, Tryz.ntmps98
  go_wp2_with ((go_at_call 90; with_reducible refine cr (in53_any _ _ _ _) ?_))
  go_ret
  exact ⟨rfl, rfl⟩
set_option maxHeartbeats 8000000 in
theorem rsmall114_2 (r : Int) (h1 : 1120 ≤ r) (h2 : r ≤ 1114111) (w : World) : Cx114 r w := by
 unfold Cx114
 skip
 all_goals
  first | have := it r 97 122 (by omega) | have := inf r 97 122 (by omega)
  first | have := it r 223 255 (by omega) | have := inf r 223 255 (by omega)
  first | have := it r 256 311 (by omega) | have := inf r 256 311 (by omega)
  first | have := it r 330 375 (by omega) | have := inf r 330 375 (by omega)
  first | have := it r 313 328 (by omega) | have := inf r 313 328 (by omega)
  first | have := e1 r 312 (by omega) | have := n1 r 312 (by omega)
  first | have := e1 r 329 (by omega) | have := n1 r 329 (by omega)
  first | have := e1 r 378 (by omega) | have := n1 r 378 (by omega)
  first | have := e1 r 380 (by omega) | have := n1 r 380 (by omega)
  first | have := e1 r 382 (by omega) | have := n1 r 382 (by omega)
  first | have := e1 r 383 (by omega) | have := n1 r 383 (by omega)
  first | have := e1 r 912 (by omega) | have := n1 r 912 (by omega)
  first | have := it r 940 974 (by omega) | have := inf r 940 974 (by omega)
  first | have := it r 1072 1119 (by omega) | have := inf r 1072 1119 (by omega)
  first | rw [show smallB r = true from decide_eq_true (by unfold SmallP; omega)] | rw [show smallB r = false from decide_eq_false (by unfold SmallP; omega)]
  go_enter Tryz.func98, Tryz.ntmps98
  go_wp2_with ((go_at_call 90; with_reducible refine cr (in53_any _ _ _ _) ?_))
  go_ret
  exact ⟨rfl, rfl⟩
theorem rsmall114 (r : Int) (h0 : 0 ≤ r) (h9 : r ≤ 1114111) (w : World) : Calls Tryz.prog 98 #[.int .i32 r] w fun e w' => e = .returned (.bool (smallB r)) ∧ w = w' := by
 exact sp r 376 (fun _ => rsmall114_0 r  (by omega) (by omega) w) fun _ => sp r 1120 (fun _ => rsmall114_1 r  (by omega) (by omega) w) fun _ => rsmall114_2 r  (by omega) (by omega) w
end Go.Proofs.YtieifhfgedoiaaaGreatDoor
