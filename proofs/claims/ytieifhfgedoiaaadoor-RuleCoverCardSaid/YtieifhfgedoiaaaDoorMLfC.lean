/- The document's Great and Small. Conditions: those of each theorem. -/
import Derived.Test.YtieifhfgedoiaaaDoorMLfA
namespace Go.Proofs.YtieifhfgedoiaaaDoor
open Go.RowKit Go.Lib
set_option linter.unusedVariables false
set_option linter.unusedSimpArgs false

def Cx52 (r : Int) (w : World) : Prop := Calls Tryd.prog 52 #[.int .i32 r] w fun e w' => e = .returned (.bool (greatB r)) ∧ w = w'
theorem rgreat52_0 (r : Int) (h1 : 0 ≤ r) (h2 : r ≤ 64) (w : World) : Cx52 r w := by
 unfold Cx52
 have := inf r 65 90 (by omega)
 have := inf r 192 222 (by omega)
 have := inf r 256 311 (by omega)
 have := inf r 330 375 (by omega)
 have := inf r 313 328 (by omega)
 have := inf r 904 906 (by omega)
 have := inf r 913 939 (by omega)
 have := inf r 1024 1071 (by omega)
 have ⟨_, _, _, _, _, _, _, _⟩ := n8 r 376 377 379 381 902 908 910 911 (by omega)
 have hv : greatB r = false := decide_eq_false (by unfold GreatP; omega)
 rw [hv]
 go_enter Tryd.func52, Tryd.ntmps52
 go_wp2_with ((go_at_call 53; with_reducible refine cr (in53_any _ _ _ _) ?_))
 go_ret
 exact ⟨rfl, rfl⟩
theorem rgreat52_1 (r : Int) (h1 : 65 ≤ r) (h2 : r ≤ 90) (w : World) : Cx52 r w := by
 unfold Cx52
 have := it r 65 90 (by omega)
 have hv : greatB r = true := decide_eq_true (by unfold GreatP; omega)
 rw [hv]
 go_enter Tryd.func52, Tryd.ntmps52
 go_wp2_with ((go_at_call 53; with_reducible refine cr (in53_any _ _ _ _) ?_))
 go_ret
 exact ⟨rfl, rfl⟩
theorem rgreat52_2 (r : Int) (h1 : 91 ≤ r) (h2 : r ≤ 191) (w : World) : Cx52 r w := by
 unfold Cx52
 have := inf r 65 90 (by omega)
 have := inf r 192 222 (by omega)
 have := inf r 256 311 (by omega)
 have := inf r 330 375 (by omega)
 have := inf r 313 328 (by omega)
 have := inf r 904 906 (by omega)
 have := inf r 913 939 (by omega)
 have := inf r 1024 1071 (by omega)
 have ⟨_, _, _, _, _, _, _, _⟩ := n8 r 376 377 379 381 902 908 910 911 (by omega)
 have hv : greatB r = false := decide_eq_false (by unfold GreatP; omega)
 rw [hv]
 go_enter Tryd.func52, Tryd.ntmps52
 go_wp2_with ((go_at_call 53; with_reducible refine cr (in53_any _ _ _ _) ?_))
 go_ret
 exact ⟨rfl, rfl⟩
theorem rgreat52_3 (r : Int) (h1 : 192 ≤ r) (h2 : r ≤ 214) (w : World) : Cx52 r w := by
 unfold Cx52
 have := inf r 65 90 (by omega)
 have := it r 192 222 (by omega)
 have : (r != 215) = true := bne_true_of (by omega)
 have hv : greatB r = true := decide_eq_true (by unfold GreatP; omega)
 rw [hv]
 go_enter Tryd.func52, Tryd.ntmps52
 go_wp2_with ((go_at_call 53; with_reducible refine cr (in53_any _ _ _ _) ?_))
 go_ret
 exact ⟨rfl, rfl⟩
theorem rgreat52_4 (r : Int) (h1 : 215 ≤ r) (h2 : r ≤ 215) (w : World) : Cx52 r w := by
 unfold Cx52
 have := inf r 65 90 (by omega)
 have := it r 192 222 (by omega)
 have : (r != 215) = false := bne_false_of (by omega)
 have := inf r 256 311 (by omega)
 have := inf r 330 375 (by omega)
 have := inf r 313 328 (by omega)
 have := inf r 904 906 (by omega)
 have := inf r 913 939 (by omega)
 have := inf r 1024 1071 (by omega)
 have ⟨_, _, _, _, _, _, _, _⟩ := n8 r 376 377 379 381 902 908 910 911 (by omega)
 have hv : greatB r = false := decide_eq_false (by unfold GreatP; omega)
 rw [hv]
 go_enter Tryd.func52, Tryd.ntmps52
 go_wp2_with ((go_at_call 53; with_reducible refine cr (in53_any _ _ _ _) ?_))
 go_ret
 exact ⟨rfl, rfl⟩
theorem rgreat52_5 (r : Int) (h1 : 216 ≤ r) (h2 : r ≤ 222) (w : World) : Cx52 r w := by
 unfold Cx52
 have := inf r 65 90 (by omega)
 have := it r 192 222 (by omega)
 have : (r != 215) = true := bne_true_of (by omega)
 have hv : greatB r = true := decide_eq_true (by unfold GreatP; omega)
 rw [hv]
 go_enter Tryd.func52, Tryd.ntmps52
 go_wp2_with ((go_at_call 53; with_reducible refine cr (in53_any _ _ _ _) ?_))
 go_ret
 exact ⟨rfl, rfl⟩
theorem rgreat52_6 (r : Int) (h1 : 223 ≤ r) (h2 : r ≤ 255) (w : World) : Cx52 r w := by
 unfold Cx52
 have := inf r 65 90 (by omega)
 have := inf r 192 222 (by omega)
 have := inf r 256 311 (by omega)
 have := inf r 330 375 (by omega)
 have := inf r 313 328 (by omega)
 have := inf r 904 906 (by omega)
 have := inf r 913 939 (by omega)
 have := inf r 1024 1071 (by omega)
 have ⟨_, _, _, _, _, _, _, _⟩ := n8 r 376 377 379 381 902 908 910 911 (by omega)
 have hv : greatB r = false := decide_eq_false (by unfold GreatP; omega)
 rw [hv]
 go_enter Tryd.func52, Tryd.ntmps52
 go_wp2_with ((go_at_call 53; with_reducible refine cr (in53_any _ _ _ _) ?_))
 go_ret
 exact ⟨rfl, rfl⟩
theorem rgreat52_7 (r : Int) (h1 : 256 ≤ r) (h2 : r ≤ 311) (hp : r % 2 = 0) (w : World) : Cx52 r w := by
 unfold Cx52
 have := inf r 65 90 (by omega)
 have := inf r 192 222 (by omega)
 have := it r 256 311 (by omega)
 have : (r.tmod 2 == 0) = true := rem_true_of (by omega) (by omega)
 have hv : greatB r = true := decide_eq_true (by unfold GreatP; omega)
 rw [hv]
 go_enter Tryd.func52, Tryd.ntmps52
 go_wp2_with ((go_at_call 53; with_reducible refine cr (in53_any _ _ _ _) ?_))
 go_ret
 exact ⟨rfl, rfl⟩
theorem rgreat52_8 (r : Int) (h1 : 256 ≤ r) (h2 : r ≤ 311) (hp : r % 2 = 1) (w : World) : Cx52 r w := by
 unfold Cx52
 have := inf r 65 90 (by omega)
 have := inf r 192 222 (by omega)
 have := it r 256 311 (by omega)
 have : (r.tmod 2 == 0) = false := rem_false_of (by omega) (by omega)
 have hv : greatB r = false := decide_eq_false (by unfold GreatP; omega)
 rw [hv]
 go_enter Tryd.func52, Tryd.ntmps52
 go_wp2_with ((go_at_call 53; with_reducible refine cr (in53_any _ _ _ _) ?_))
 go_ret
 exact ⟨rfl, rfl⟩
theorem rgreat52_9 (r : Int) (h1 : 312 ≤ r) (h2 : r ≤ 312) (w : World) : Cx52 r w := by
 unfold Cx52
 have := inf r 65 90 (by omega)
 have := inf r 192 222 (by omega)
 have := inf r 256 311 (by omega)
 have := inf r 330 375 (by omega)
 have := inf r 313 328 (by omega)
 have := inf r 904 906 (by omega)
 have := inf r 913 939 (by omega)
 have := inf r 1024 1071 (by omega)
 have ⟨_, _, _, _, _, _, _, _⟩ := n8 r 376 377 379 381 902 908 910 911 (by omega)
 have hv : greatB r = false := decide_eq_false (by unfold GreatP; omega)
 rw [hv]
 go_enter Tryd.func52, Tryd.ntmps52
 go_wp2_with ((go_at_call 53; with_reducible refine cr (in53_any _ _ _ _) ?_))
 go_ret
 exact ⟨rfl, rfl⟩
theorem rgreat52_10 (r : Int) (h1 : 313 ≤ r) (h2 : r ≤ 328) (hp : r % 2 = 0) (w : World) : Cx52 r w := by
 unfold Cx52
 have := inf r 65 90 (by omega)
 have := inf r 192 222 (by omega)
 have := inf r 256 311 (by omega)
 have := inf r 330 375 (by omega)
 have := it r 313 328 (by omega)
 have : (r.tmod 2 == 1) = false := rem_false_of (by omega) (by omega)
 have hv : greatB r = false := decide_eq_false (by unfold GreatP; omega)
 rw [hv]
 go_enter Tryd.func52, Tryd.ntmps52
 go_wp2_with ((go_at_call 53; with_reducible refine cr (in53_any _ _ _ _) ?_))
 go_ret
 exact ⟨rfl, rfl⟩
theorem rgreat52_11 (r : Int) (h1 : 313 ≤ r) (h2 : r ≤ 328) (hp : r % 2 = 1) (w : World) : Cx52 r w := by
 unfold Cx52
 have := inf r 65 90 (by omega)
 have := inf r 192 222 (by omega)
 have := inf r 256 311 (by omega)
 have := inf r 330 375 (by omega)
 have := it r 313 328 (by omega)
 have : (r.tmod 2 == 1) = true := rem_true_of (by omega) (by omega)
 have hv : greatB r = true := decide_eq_true (by unfold GreatP; omega)
 rw [hv]
 go_enter Tryd.func52, Tryd.ntmps52
 go_wp2_with ((go_at_call 53; with_reducible refine cr (in53_any _ _ _ _) ?_))
 go_ret
 exact ⟨rfl, rfl⟩
theorem rgreat52_12 (r : Int) (h1 : 329 ≤ r) (h2 : r ≤ 329) (w : World) : Cx52 r w := by
 unfold Cx52
 have := inf r 65 90 (by omega)
 have := inf r 192 222 (by omega)
 have := inf r 256 311 (by omega)
 have := inf r 330 375 (by omega)
 have := inf r 313 328 (by omega)
 have := inf r 904 906 (by omega)
 have := inf r 913 939 (by omega)
 have := inf r 1024 1071 (by omega)
 have ⟨_, _, _, _, _, _, _, _⟩ := n8 r 376 377 379 381 902 908 910 911 (by omega)
 have hv : greatB r = false := decide_eq_false (by unfold GreatP; omega)
 rw [hv]
 go_enter Tryd.func52, Tryd.ntmps52
 go_wp2_with ((go_at_call 53; with_reducible refine cr (in53_any _ _ _ _) ?_))
 go_ret
 exact ⟨rfl, rfl⟩
theorem rgreat52_13 (r : Int) (h1 : 330 ≤ r) (h2 : r ≤ 375) (hp : r % 2 = 0) (w : World) : Cx52 r w := by
 unfold Cx52
 have := inf r 65 90 (by omega)
 have := inf r 192 222 (by omega)
 have := inf r 256 311 (by omega)
 have := it r 330 375 (by omega)
 have : (r.tmod 2 == 0) = true := rem_true_of (by omega) (by omega)
 have hv : greatB r = true := decide_eq_true (by unfold GreatP; omega)
 rw [hv]
 go_enter Tryd.func52, Tryd.ntmps52
 go_wp2_with ((go_at_call 53; with_reducible refine cr (in53_any _ _ _ _) ?_))
 go_ret
 exact ⟨rfl, rfl⟩
theorem rgreat52_14 (r : Int) (h1 : 330 ≤ r) (h2 : r ≤ 375) (hp : r % 2 = 1) (w : World) : Cx52 r w := by
 unfold Cx52
 have := inf r 65 90 (by omega)
 have := inf r 192 222 (by omega)
 have := inf r 256 311 (by omega)
 have := it r 330 375 (by omega)
 have : (r.tmod 2 == 0) = false := rem_false_of (by omega) (by omega)
 have hv : greatB r = false := decide_eq_false (by unfold GreatP; omega)
 rw [hv]
 go_enter Tryd.func52, Tryd.ntmps52
 go_wp2_with ((go_at_call 53; with_reducible refine cr (in53_any _ _ _ _) ?_))
 go_ret
 exact ⟨rfl, rfl⟩
theorem rgreat52_15 (r : Int) (h1 : 376 ≤ r) (h2 : r ≤ 376) (w : World) : Cx52 r w := by
 unfold Cx52
 have := inf r 65 90 (by omega)
 have := inf r 192 222 (by omega)
 have := inf r 256 311 (by omega)
 have := inf r 330 375 (by omega)
 have := inf r 313 328 (by omega)
 have : (r == 376) = true := beq_true_of (by omega)
 have hv : greatB r = true := decide_eq_true (by unfold GreatP; omega)
 rw [hv]
 go_enter Tryd.func52, Tryd.ntmps52
 go_wp2_with ((go_at_call 53; with_reducible refine cr (in53_any _ _ _ _) ?_))
 go_ret
 exact ⟨rfl, rfl⟩
theorem rgreat52_16 (r : Int) (h1 : 377 ≤ r) (h2 : r ≤ 377) (w : World) : Cx52 r w := by
 unfold Cx52
 have := inf r 65 90 (by omega)
 have := inf r 192 222 (by omega)
 have := inf r 256 311 (by omega)
 have := inf r 330 375 (by omega)
 have := inf r 313 328 (by omega)
 have : (r == 377) = true := beq_true_of (by omega)
 have := n1 r 376 (by omega)
 have hv : greatB r = true := decide_eq_true (by unfold GreatP; omega)
 rw [hv]
 go_enter Tryd.func52, Tryd.ntmps52
 go_wp2_with ((go_at_call 53; with_reducible refine cr (in53_any _ _ _ _) ?_))
 go_ret
 exact ⟨rfl, rfl⟩
theorem rgreat52_17 (r : Int) (h1 : 378 ≤ r) (h2 : r ≤ 378) (w : World) : Cx52 r w := by
 unfold Cx52
 have := inf r 65 90 (by omega)
 have := inf r 192 222 (by omega)
 have := inf r 256 311 (by omega)
 have := inf r 330 375 (by omega)
 have := inf r 313 328 (by omega)
 have := inf r 904 906 (by omega)
 have := inf r 913 939 (by omega)
 have := inf r 1024 1071 (by omega)
 have ⟨_, _, _, _, _, _, _, _⟩ := n8 r 376 377 379 381 902 908 910 911 (by omega)
 have hv : greatB r = false := decide_eq_false (by unfold GreatP; omega)
 rw [hv]
 go_enter Tryd.func52, Tryd.ntmps52
 go_wp2_with ((go_at_call 53; with_reducible refine cr (in53_any _ _ _ _) ?_))
 go_ret
 exact ⟨rfl, rfl⟩
theorem rgreat52_18 (r : Int) (h1 : 379 ≤ r) (h2 : r ≤ 379) (w : World) : Cx52 r w := by
 unfold Cx52
 have := inf r 65 90 (by omega)
 have := inf r 192 222 (by omega)
 have := inf r 256 311 (by omega)
 have := inf r 330 375 (by omega)
 have := inf r 313 328 (by omega)
 have : (r == 379) = true := beq_true_of (by omega)
 have ⟨_, _⟩ := n2 r 376 377 (by omega)
 have hv : greatB r = true := decide_eq_true (by unfold GreatP; omega)
 rw [hv]
 go_enter Tryd.func52, Tryd.ntmps52
 go_wp2_with ((go_at_call 53; with_reducible refine cr (in53_any _ _ _ _) ?_))
 go_ret
 exact ⟨rfl, rfl⟩
theorem rgreat52_19 (r : Int) (h1 : 380 ≤ r) (h2 : r ≤ 380) (w : World) : Cx52 r w := by
 unfold Cx52
 have := inf r 65 90 (by omega)
 have := inf r 192 222 (by omega)
 have := inf r 256 311 (by omega)
 have := inf r 330 375 (by omega)
 have := inf r 313 328 (by omega)
 have := inf r 904 906 (by omega)
 have := inf r 913 939 (by omega)
 have := inf r 1024 1071 (by omega)
 have ⟨_, _, _, _, _, _, _, _⟩ := n8 r 376 377 379 381 902 908 910 911 (by omega)
 have hv : greatB r = false := decide_eq_false (by unfold GreatP; omega)
 rw [hv]
 go_enter Tryd.func52, Tryd.ntmps52
 go_wp2_with ((go_at_call 53; with_reducible refine cr (in53_any _ _ _ _) ?_))
 go_ret
 exact ⟨rfl, rfl⟩
theorem rgreat52_20 (r : Int) (h1 : 381 ≤ r) (h2 : r ≤ 381) (w : World) : Cx52 r w := by
 unfold Cx52
 have := inf r 65 90 (by omega)
 have := inf r 192 222 (by omega)
 have := inf r 256 311 (by omega)
 have := inf r 330 375 (by omega)
 have := inf r 313 328 (by omega)
 have : (r == 381) = true := beq_true_of (by omega)
 have ⟨_, _, _⟩ := n3 r 376 377 379 (by omega)
 have hv : greatB r = true := decide_eq_true (by unfold GreatP; omega)
 rw [hv]
 go_enter Tryd.func52, Tryd.ntmps52
 go_wp2_with ((go_at_call 53; with_reducible refine cr (in53_any _ _ _ _) ?_))
 go_ret
 exact ⟨rfl, rfl⟩
theorem rgreat52_21 (r : Int) (h1 : 382 ≤ r) (h2 : r ≤ 901) (w : World) : Cx52 r w := by
 unfold Cx52
 have := inf r 65 90 (by omega)
 have := inf r 192 222 (by omega)
 have := inf r 256 311 (by omega)
 have := inf r 330 375 (by omega)
 have := inf r 313 328 (by omega)
 have := inf r 904 906 (by omega)
 have := inf r 913 939 (by omega)
 have := inf r 1024 1071 (by omega)
 have ⟨_, _, _, _, _, _, _, _⟩ := n8 r 376 377 379 381 902 908 910 911 (by omega)
 have hv : greatB r = false := decide_eq_false (by unfold GreatP; omega)
 rw [hv]
 go_enter Tryd.func52, Tryd.ntmps52
 go_wp2_with ((go_at_call 53; with_reducible refine cr (in53_any _ _ _ _) ?_))
 go_ret
 exact ⟨rfl, rfl⟩
theorem rgreat52_22 (r : Int) (h1 : 902 ≤ r) (h2 : r ≤ 902) (w : World) : Cx52 r w := by
 unfold Cx52
 have := inf r 65 90 (by omega)
 have := inf r 192 222 (by omega)
 have := inf r 256 311 (by omega)
 have := inf r 330 375 (by omega)
 have := inf r 313 328 (by omega)
 have : (r == 902) = true := beq_true_of (by omega)
 have ⟨_, _, _, _⟩ := n4 r 376 377 379 381 (by omega)
 have hv : greatB r = true := decide_eq_true (by unfold GreatP; omega)
 rw [hv]
 go_enter Tryd.func52, Tryd.ntmps52
 go_wp2_with ((go_at_call 53; with_reducible refine cr (in53_any _ _ _ _) ?_))
 go_ret
 exact ⟨rfl, rfl⟩
theorem rgreat52_23 (r : Int) (h1 : 903 ≤ r) (h2 : r ≤ 903) (w : World) : Cx52 r w := by
 unfold Cx52
 have := inf r 65 90 (by omega)
 have := inf r 192 222 (by omega)
 have := inf r 256 311 (by omega)
 have := inf r 330 375 (by omega)
 have := inf r 313 328 (by omega)
 have := inf r 904 906 (by omega)
 have := inf r 913 939 (by omega)
 have := inf r 1024 1071 (by omega)
 have ⟨_, _, _, _, _, _, _, _⟩ := n8 r 376 377 379 381 902 908 910 911 (by omega)
 have hv : greatB r = false := decide_eq_false (by unfold GreatP; omega)
 rw [hv]
 go_enter Tryd.func52, Tryd.ntmps52
 go_wp2_with ((go_at_call 53; with_reducible refine cr (in53_any _ _ _ _) ?_))
 go_ret
 exact ⟨rfl, rfl⟩
theorem rgreat52_24 (r : Int) (h1 : 904 ≤ r) (h2 : r ≤ 906) (w : World) : Cx52 r w := by
 unfold Cx52
 have := inf r 65 90 (by omega)
 have := inf r 192 222 (by omega)
 have := inf r 256 311 (by omega)
 have := inf r 330 375 (by omega)
 have := inf r 313 328 (by omega)
 have := it r 904 906 (by omega)
 have ⟨_, _, _, _, _⟩ := n5 r 376 377 379 381 902 (by omega)
 have hv : greatB r = true := decide_eq_true (by unfold GreatP; omega)
 rw [hv]
 go_enter Tryd.func52, Tryd.ntmps52
 go_wp2_with ((go_at_call 53; with_reducible refine cr (in53_any _ _ _ _) ?_))
 go_ret
 exact ⟨rfl, rfl⟩
theorem rgreat52_25 (r : Int) (h1 : 907 ≤ r) (h2 : r ≤ 907) (w : World) : Cx52 r w := by
 unfold Cx52
 have := inf r 65 90 (by omega)
 have := inf r 192 222 (by omega)
 have := inf r 256 311 (by omega)
 have := inf r 330 375 (by omega)
 have := inf r 313 328 (by omega)
 have := inf r 904 906 (by omega)
 have := inf r 913 939 (by omega)
 have := inf r 1024 1071 (by omega)
 have ⟨_, _, _, _, _, _, _, _⟩ := n8 r 376 377 379 381 902 908 910 911 (by omega)
 have hv : greatB r = false := decide_eq_false (by unfold GreatP; omega)
 rw [hv]
 go_enter Tryd.func52, Tryd.ntmps52
 go_wp2_with ((go_at_call 53; with_reducible refine cr (in53_any _ _ _ _) ?_))
 go_ret
 exact ⟨rfl, rfl⟩
theorem rgreat52_26 (r : Int) (h1 : 908 ≤ r) (h2 : r ≤ 908) (w : World) : Cx52 r w := by
 unfold Cx52
 have := inf r 65 90 (by omega)
 have := inf r 192 222 (by omega)
 have := inf r 256 311 (by omega)
 have := inf r 330 375 (by omega)
 have := inf r 313 328 (by omega)
 have := inf r 904 906 (by omega)
 have : (r == 908) = true := beq_true_of (by omega)
 have ⟨_, _, _, _, _⟩ := n5 r 376 377 379 381 902 (by omega)
 have hv : greatB r = true := decide_eq_true (by unfold GreatP; omega)
 rw [hv]
 go_enter Tryd.func52, Tryd.ntmps52
 go_wp2_with ((go_at_call 53; with_reducible refine cr (in53_any _ _ _ _) ?_))
 go_ret
 exact ⟨rfl, rfl⟩
theorem rgreat52_27 (r : Int) (h1 : 909 ≤ r) (h2 : r ≤ 909) (w : World) : Cx52 r w := by
 unfold Cx52
 have := inf r 65 90 (by omega)
 have := inf r 192 222 (by omega)
 have := inf r 256 311 (by omega)
 have := inf r 330 375 (by omega)
 have := inf r 313 328 (by omega)
 have := inf r 904 906 (by omega)
 have := inf r 913 939 (by omega)
 have := inf r 1024 1071 (by omega)
 have ⟨_, _, _, _, _, _, _, _⟩ := n8 r 376 377 379 381 902 908 910 911 (by omega)
 have hv : greatB r = false := decide_eq_false (by unfold GreatP; omega)
 rw [hv]
 go_enter Tryd.func52, Tryd.ntmps52
 go_wp2_with ((go_at_call 53; with_reducible refine cr (in53_any _ _ _ _) ?_))
 go_ret
 exact ⟨rfl, rfl⟩
theorem rgreat52_28 (r : Int) (h1 : 910 ≤ r) (h2 : r ≤ 910) (w : World) : Cx52 r w := by
 unfold Cx52
 have := inf r 65 90 (by omega)
 have := inf r 192 222 (by omega)
 have := inf r 256 311 (by omega)
 have := inf r 330 375 (by omega)
 have := inf r 313 328 (by omega)
 have := inf r 904 906 (by omega)
 have : (r == 910) = true := beq_true_of (by omega)
 have ⟨_, _, _, _, _, _⟩ := n6 r 376 377 379 381 902 908 (by omega)
 have hv : greatB r = true := decide_eq_true (by unfold GreatP; omega)
 rw [hv]
 go_enter Tryd.func52, Tryd.ntmps52
 go_wp2_with ((go_at_call 53; with_reducible refine cr (in53_any _ _ _ _) ?_))
 go_ret
 exact ⟨rfl, rfl⟩
theorem rgreat52_29 (r : Int) (h1 : 911 ≤ r) (h2 : r ≤ 911) (w : World) : Cx52 r w := by
 unfold Cx52
 have := inf r 65 90 (by omega)
 have := inf r 192 222 (by omega)
 have := inf r 256 311 (by omega)
 have := inf r 330 375 (by omega)
 have := inf r 313 328 (by omega)
 have := inf r 904 906 (by omega)
 have : (r == 911) = true := beq_true_of (by omega)
 have ⟨_, _, _, _, _, _, _⟩ := n7 r 376 377 379 381 902 908 910 (by omega)
 have hv : greatB r = true := decide_eq_true (by unfold GreatP; omega)
 rw [hv]
 go_enter Tryd.func52, Tryd.ntmps52
 go_wp2_with ((go_at_call 53; with_reducible refine cr (in53_any _ _ _ _) ?_))
 go_ret
 exact ⟨rfl, rfl⟩
theorem rgreat52_30 (r : Int) (h1 : 912 ≤ r) (h2 : r ≤ 912) (w : World) : Cx52 r w := by
 unfold Cx52
 have := inf r 65 90 (by omega)
 have := inf r 192 222 (by omega)
 have := inf r 256 311 (by omega)
 have := inf r 330 375 (by omega)
 have := inf r 313 328 (by omega)
 have := inf r 904 906 (by omega)
 have := inf r 913 939 (by omega)
 have := inf r 1024 1071 (by omega)
 have ⟨_, _, _, _, _, _, _, _⟩ := n8 r 376 377 379 381 902 908 910 911 (by omega)
 have hv : greatB r = false := decide_eq_false (by unfold GreatP; omega)
 rw [hv]
 go_enter Tryd.func52, Tryd.ntmps52
 go_wp2_with ((go_at_call 53; with_reducible refine cr (in53_any _ _ _ _) ?_))
 go_ret
 exact ⟨rfl, rfl⟩
theorem rgreat52_31 (r : Int) (h1 : 913 ≤ r) (h2 : r ≤ 929) (w : World) : Cx52 r w := by
 unfold Cx52
 have := inf r 65 90 (by omega)
 have := inf r 192 222 (by omega)
 have := inf r 256 311 (by omega)
 have := inf r 330 375 (by omega)
 have := inf r 313 328 (by omega)
 have := inf r 904 906 (by omega)
 have := it r 913 939 (by omega)
 have : (r != 930) = true := bne_true_of (by omega)
 have ⟨_, _, _, _, _, _, _, _⟩ := n8 r 376 377 379 381 902 908 910 911 (by omega)
 have hv : greatB r = true := decide_eq_true (by unfold GreatP; omega)
 rw [hv]
 go_enter Tryd.func52, Tryd.ntmps52
 go_wp2_with ((go_at_call 53; with_reducible refine cr (in53_any _ _ _ _) ?_))
 go_ret
 exact ⟨rfl, rfl⟩
theorem rgreat52_32 (r : Int) (h1 : 930 ≤ r) (h2 : r ≤ 930) (w : World) : Cx52 r w := by
 unfold Cx52
 have := inf r 65 90 (by omega)
 have := inf r 192 222 (by omega)
 have := inf r 256 311 (by omega)
 have := inf r 330 375 (by omega)
 have := inf r 313 328 (by omega)
 have := inf r 904 906 (by omega)
 have := it r 913 939 (by omega)
 have : (r != 930) = false := bne_false_of (by omega)
 have := inf r 1024 1071 (by omega)
 have ⟨_, _, _, _, _, _, _, _⟩ := n8 r 376 377 379 381 902 908 910 911 (by omega)
 have hv : greatB r = false := decide_eq_false (by unfold GreatP; omega)
 rw [hv]
 go_enter Tryd.func52, Tryd.ntmps52
 go_wp2_with ((go_at_call 53; with_reducible refine cr (in53_any _ _ _ _) ?_))
 go_ret
 exact ⟨rfl, rfl⟩
theorem rgreat52_33 (r : Int) (h1 : 931 ≤ r) (h2 : r ≤ 939) (w : World) : Cx52 r w := by
 unfold Cx52
 have := inf r 65 90 (by omega)
 have := inf r 192 222 (by omega)
 have := inf r 256 311 (by omega)
 have := inf r 330 375 (by omega)
 have := inf r 313 328 (by omega)
 have := inf r 904 906 (by omega)
 have := it r 913 939 (by omega)
 have : (r != 930) = true := bne_true_of (by omega)
 have ⟨_, _, _, _, _, _, _, _⟩ := n8 r 376 377 379 381 902 908 910 911 (by omega)
 have hv : greatB r = true := decide_eq_true (by unfold GreatP; omega)
 rw [hv]
 go_enter Tryd.func52, Tryd.ntmps52
 go_wp2_with ((go_at_call 53; with_reducible refine cr (in53_any _ _ _ _) ?_))
 go_ret
 exact ⟨rfl, rfl⟩
theorem rgreat52_34 (r : Int) (h1 : 940 ≤ r) (h2 : r ≤ 1023) (w : World) : Cx52 r w := by
 unfold Cx52
 have := inf r 65 90 (by omega)
 have := inf r 192 222 (by omega)
 have := inf r 256 311 (by omega)
 have := inf r 330 375 (by omega)
 have := inf r 313 328 (by omega)
 have := inf r 904 906 (by omega)
 have := inf r 913 939 (by omega)
 have := inf r 1024 1071 (by omega)
 have ⟨_, _, _, _, _, _, _, _⟩ := n8 r 376 377 379 381 902 908 910 911 (by omega)
 have hv : greatB r = false := decide_eq_false (by unfold GreatP; omega)
 rw [hv]
 go_enter Tryd.func52, Tryd.ntmps52
 go_wp2_with ((go_at_call 53; with_reducible refine cr (in53_any _ _ _ _) ?_))
 go_ret
 exact ⟨rfl, rfl⟩
theorem rgreat52_35 (r : Int) (h1 : 1024 ≤ r) (h2 : r ≤ 1071) (w : World) : Cx52 r w := by
 unfold Cx52
 have := inf r 65 90 (by omega)
 have := inf r 192 222 (by omega)
 have := inf r 256 311 (by omega)
 have := inf r 330 375 (by omega)
 have := inf r 313 328 (by omega)
 have := inf r 904 906 (by omega)
 have := inf r 913 939 (by omega)
 have := it r 1024 1071 (by omega)
 have ⟨_, _, _, _, _, _, _, _⟩ := n8 r 376 377 379 381 902 908 910 911 (by omega)
 have hv : greatB r = true := decide_eq_true (by unfold GreatP; omega)
 rw [hv]
 go_enter Tryd.func52, Tryd.ntmps52
 go_wp2_with ((go_at_call 53; with_reducible refine cr (in53_any _ _ _ _) ?_))
 go_ret
 exact ⟨rfl, rfl⟩
theorem rgreat52_36 (r : Int) (h1 : 1072 ≤ r) (h2 : r ≤ 1114111) (w : World) : Cx52 r w := by
 unfold Cx52
 have := inf r 65 90 (by omega)
 have := inf r 192 222 (by omega)
 have := inf r 256 311 (by omega)
 have := inf r 330 375 (by omega)
 have := inf r 313 328 (by omega)
 have := inf r 904 906 (by omega)
 have := inf r 913 939 (by omega)
 have := inf r 1024 1071 (by omega)
 have ⟨_, _, _, _, _, _, _, _⟩ := n8 r 376 377 379 381 902 908 910 911 (by omega)
 have hv : greatB r = false := decide_eq_false (by unfold GreatP; omega)
 rw [hv]
 go_enter Tryd.func52, Tryd.ntmps52
 go_wp2_with ((go_at_call 53; with_reducible refine cr (in53_any _ _ _ _) ?_))
 go_ret
 exact ⟨rfl, rfl⟩
theorem rgreat52 (r : Int) (h0 : 0 ≤ r) (h9 : r ≤ 1114111) (w : World) : Calls Tryd.prog 52 #[.int .i32 r] w fun e w' => e = .returned (.bool (greatB r)) ∧ w = w' := by
 by_cases k1 : r ≤ 64
 ·exact rgreat52_0 r  (by omega) (by omega) w
 by_cases k2 : r ≤ 90
 ·exact rgreat52_1 r  (by omega) (by omega) w
 by_cases k3 : r ≤ 191
 ·exact rgreat52_2 r  (by omega) (by omega) w
 by_cases k4 : r ≤ 214
 ·exact rgreat52_3 r  (by omega) (by omega) w
 by_cases k5 : r ≤ 215
 ·exact rgreat52_4 r  (by omega) (by omega) w
 by_cases k6 : r ≤ 222
 ·exact rgreat52_5 r  (by omega) (by omega) w
 by_cases k7 : r ≤ 255
 ·exact rgreat52_6 r  (by omega) (by omega) w
 by_cases k9 : r ≤ 311
 ·by_cases hp : r % 2 = 0
  exact rgreat52_7 r  (by omega) (by omega) hp w
  exact rgreat52_8 r  (by omega) (by omega) (by omega) w
 by_cases k10 : r ≤ 312
 ·exact rgreat52_9 r  (by omega) (by omega) w
 by_cases k12 : r ≤ 328
 ·by_cases hp : r % 2 = 0
  exact rgreat52_10 r  (by omega) (by omega) hp w
  exact rgreat52_11 r  (by omega) (by omega) (by omega) w
 by_cases k13 : r ≤ 329
 ·exact rgreat52_12 r  (by omega) (by omega) w
 by_cases k15 : r ≤ 375
 ·by_cases hp : r % 2 = 0
  exact rgreat52_13 r  (by omega) (by omega) hp w
  exact rgreat52_14 r  (by omega) (by omega) (by omega) w
 by_cases k16 : r ≤ 376
 ·exact rgreat52_15 r  (by omega) (by omega) w
 by_cases k17 : r ≤ 377
 ·exact rgreat52_16 r  (by omega) (by omega) w
 by_cases k18 : r ≤ 378
 ·exact rgreat52_17 r  (by omega) (by omega) w
 by_cases k19 : r ≤ 379
 ·exact rgreat52_18 r  (by omega) (by omega) w
 by_cases k20 : r ≤ 380
 ·exact rgreat52_19 r  (by omega) (by omega) w
 by_cases k21 : r ≤ 381
 ·exact rgreat52_20 r  (by omega) (by omega) w
 by_cases k22 : r ≤ 901
 ·exact rgreat52_21 r  (by omega) (by omega) w
 by_cases k23 : r ≤ 902
 ·exact rgreat52_22 r  (by omega) (by omega) w
 by_cases k24 : r ≤ 903
 ·exact rgreat52_23 r  (by omega) (by omega) w
 by_cases k25 : r ≤ 906
 ·exact rgreat52_24 r  (by omega) (by omega) w
 by_cases k26 : r ≤ 907
 ·exact rgreat52_25 r  (by omega) (by omega) w
 by_cases k27 : r ≤ 908
 ·exact rgreat52_26 r  (by omega) (by omega) w
 by_cases k28 : r ≤ 909
 ·exact rgreat52_27 r  (by omega) (by omega) w
 by_cases k29 : r ≤ 910
 ·exact rgreat52_28 r  (by omega) (by omega) w
 by_cases k30 : r ≤ 911
 ·exact rgreat52_29 r  (by omega) (by omega) w
 by_cases k31 : r ≤ 912
 ·exact rgreat52_30 r  (by omega) (by omega) w
 by_cases k32 : r ≤ 929
 ·exact rgreat52_31 r  (by omega) (by omega) w
 by_cases k33 : r ≤ 930
 ·exact rgreat52_32 r  (by omega) (by omega) w
 by_cases k34 : r ≤ 939
 ·exact rgreat52_33 r  (by omega) (by omega) w
 by_cases k35 : r ≤ 1023
 ·exact rgreat52_34 r  (by omega) (by omega) w
 by_cases k36 : r ≤ 1071
 ·exact rgreat52_35 r  (by omega) (by omega) w
 exact rgreat52_36 r  (by omega) (by omega) w
def Cx114 (r : Int) (w : World) : Prop := Calls Tryd.prog 114 #[.int .i32 r] w fun e w' => e = .returned (.bool (smallB r)) ∧ w = w'
theorem rsmall114_0 (r : Int) (h1 : 0 ≤ r) (h2 : r ≤ 96) (w : World) : Cx114 r w := by
 unfold Cx114
 have := inf r 97 122 (by omega)
 have := inf r 223 255 (by omega)
 have := inf r 256 311 (by omega)
 have := inf r 330 375 (by omega)
 have := inf r 313 328 (by omega)
 have := inf r 940 974 (by omega)
 have := inf r 1072 1119 (by omega)
 have ⟨_, _, _, _, _, _, _⟩ := n7 r 312 329 378 380 382 383 912 (by omega)
 have hv : smallB r = false := decide_eq_false (by unfold SmallP; omega)
 rw [hv]
 go_enter Tryd.func114, Tryd.ntmps114
 go_wp2_with ((go_at_call 53; with_reducible refine cr (in53_any _ _ _ _) ?_))
 go_ret
 exact ⟨rfl, rfl⟩
theorem rsmall114_1 (r : Int) (h1 : 97 ≤ r) (h2 : r ≤ 122) (w : World) : Cx114 r w := by
 unfold Cx114
 have := it r 97 122 (by omega)
 have hv : smallB r = true := decide_eq_true (by unfold SmallP; omega)
 rw [hv]
 go_enter Tryd.func114, Tryd.ntmps114
 go_wp2_with ((go_at_call 53; with_reducible refine cr (in53_any _ _ _ _) ?_))
 go_ret
 exact ⟨rfl, rfl⟩
theorem rsmall114_2 (r : Int) (h1 : 123 ≤ r) (h2 : r ≤ 222) (w : World) : Cx114 r w := by
 unfold Cx114
 have := inf r 97 122 (by omega)
 have := inf r 223 255 (by omega)
 have := inf r 256 311 (by omega)
 have := inf r 330 375 (by omega)
 have := inf r 313 328 (by omega)
 have := inf r 940 974 (by omega)
 have := inf r 1072 1119 (by omega)
 have ⟨_, _, _, _, _, _, _⟩ := n7 r 312 329 378 380 382 383 912 (by omega)
 have hv : smallB r = false := decide_eq_false (by unfold SmallP; omega)
 rw [hv]
 go_enter Tryd.func114, Tryd.ntmps114
 go_wp2_with ((go_at_call 53; with_reducible refine cr (in53_any _ _ _ _) ?_))
 go_ret
 exact ⟨rfl, rfl⟩
theorem rsmall114_3 (r : Int) (h1 : 223 ≤ r) (h2 : r ≤ 246) (w : World) : Cx114 r w := by
 unfold Cx114
 have := inf r 97 122 (by omega)
 have := it r 223 255 (by omega)
 have : (r != 247) = true := bne_true_of (by omega)
 have hv : smallB r = true := decide_eq_true (by unfold SmallP; omega)
 rw [hv]
 go_enter Tryd.func114, Tryd.ntmps114
 go_wp2_with ((go_at_call 53; with_reducible refine cr (in53_any _ _ _ _) ?_))
 go_ret
 exact ⟨rfl, rfl⟩
theorem rsmall114_4 (r : Int) (h1 : 247 ≤ r) (h2 : r ≤ 247) (w : World) : Cx114 r w := by
 unfold Cx114
 have := inf r 97 122 (by omega)
 have := it r 223 255 (by omega)
 have : (r != 247) = false := bne_false_of (by omega)
 have := inf r 256 311 (by omega)
 have := inf r 330 375 (by omega)
 have := inf r 313 328 (by omega)
 have := inf r 940 974 (by omega)
 have := inf r 1072 1119 (by omega)
 have ⟨_, _, _, _, _, _, _⟩ := n7 r 312 329 378 380 382 383 912 (by omega)
 have hv : smallB r = false := decide_eq_false (by unfold SmallP; omega)
 rw [hv]
 go_enter Tryd.func114, Tryd.ntmps114
 go_wp2_with ((go_at_call 53; with_reducible refine cr (in53_any _ _ _ _) ?_))
 go_ret
 exact ⟨rfl, rfl⟩
theorem rsmall114_5 (r : Int) (h1 : 248 ≤ r) (h2 : r ≤ 255) (w : World) : Cx114 r w := by
 unfold Cx114
 have := inf r 97 122 (by omega)
 have := it r 223 255 (by omega)
 have : (r != 247) = true := bne_true_of (by omega)
 have hv : smallB r = true := decide_eq_true (by unfold SmallP; omega)
 rw [hv]
 go_enter Tryd.func114, Tryd.ntmps114
 go_wp2_with ((go_at_call 53; with_reducible refine cr (in53_any _ _ _ _) ?_))
 go_ret
 exact ⟨rfl, rfl⟩
theorem rsmall114_6 (r : Int) (h1 : 256 ≤ r) (h2 : r ≤ 311) (hp : r % 2 = 0) (w : World) : Cx114 r w := by
 unfold Cx114
 have := inf r 97 122 (by omega)
 have := inf r 223 255 (by omega)
 have := it r 256 311 (by omega)
 have : (r.tmod 2 == 1) = false := rem_false_of (by omega) (by omega)
 have hv : smallB r = false := decide_eq_false (by unfold SmallP; omega)
 rw [hv]
 go_enter Tryd.func114, Tryd.ntmps114
 go_wp2_with ((go_at_call 53; with_reducible refine cr (in53_any _ _ _ _) ?_))
 go_ret
 exact ⟨rfl, rfl⟩
theorem rsmall114_7 (r : Int) (h1 : 256 ≤ r) (h2 : r ≤ 311) (hp : r % 2 = 1) (w : World) : Cx114 r w := by
 unfold Cx114
 have := inf r 97 122 (by omega)
 have := inf r 223 255 (by omega)
 have := it r 256 311 (by omega)
 have : (r.tmod 2 == 1) = true := rem_true_of (by omega) (by omega)
 have hv : smallB r = true := decide_eq_true (by unfold SmallP; omega)
 rw [hv]
 go_enter Tryd.func114, Tryd.ntmps114
 go_wp2_with ((go_at_call 53; with_reducible refine cr (in53_any _ _ _ _) ?_))
 go_ret
 exact ⟨rfl, rfl⟩
theorem rsmall114_8 (r : Int) (h1 : 312 ≤ r) (h2 : r ≤ 312) (w : World) : Cx114 r w := by
 unfold Cx114
 have := inf r 97 122 (by omega)
 have := inf r 223 255 (by omega)
 have := inf r 256 311 (by omega)
 have := inf r 330 375 (by omega)
 have := inf r 313 328 (by omega)
 have : (r == 312) = true := beq_true_of (by omega)
 have hv : smallB r = true := decide_eq_true (by unfold SmallP; omega)
 rw [hv]
 go_enter Tryd.func114, Tryd.ntmps114
 go_wp2_with ((go_at_call 53; with_reducible refine cr (in53_any _ _ _ _) ?_))
 go_ret
 exact ⟨rfl, rfl⟩
theorem rsmall114_9 (r : Int) (h1 : 313 ≤ r) (h2 : r ≤ 328) (hp : r % 2 = 0) (w : World) : Cx114 r w := by
 unfold Cx114
 have := inf r 97 122 (by omega)
 have := inf r 223 255 (by omega)
 have := inf r 256 311 (by omega)
 have := inf r 330 375 (by omega)
 have := it r 313 328 (by omega)
 have : (r.tmod 2 == 0) = true := rem_true_of (by omega) (by omega)
 have hv : smallB r = true := decide_eq_true (by unfold SmallP; omega)
 rw [hv]
 go_enter Tryd.func114, Tryd.ntmps114
 go_wp2_with ((go_at_call 53; with_reducible refine cr (in53_any _ _ _ _) ?_))
 go_ret
 exact ⟨rfl, rfl⟩
theorem rsmall114_10 (r : Int) (h1 : 313 ≤ r) (h2 : r ≤ 328) (hp : r % 2 = 1) (w : World) : Cx114 r w := by
 unfold Cx114
 have := inf r 97 122 (by omega)
 have := inf r 223 255 (by omega)
 have := inf r 256 311 (by omega)
 have := inf r 330 375 (by omega)
 have := it r 313 328 (by omega)
 have : (r.tmod 2 == 0) = false := rem_false_of (by omega) (by omega)
 have hv : smallB r = false := decide_eq_false (by unfold SmallP; omega)
 rw [hv]
 go_enter Tryd.func114, Tryd.ntmps114
 go_wp2_with ((go_at_call 53; with_reducible refine cr (in53_any _ _ _ _) ?_))
 go_ret
 exact ⟨rfl, rfl⟩
theorem rsmall114_11 (r : Int) (h1 : 329 ≤ r) (h2 : r ≤ 329) (w : World) : Cx114 r w := by
 unfold Cx114
 have := inf r 97 122 (by omega)
 have := inf r 223 255 (by omega)
 have := inf r 256 311 (by omega)
 have := inf r 330 375 (by omega)
 have := inf r 313 328 (by omega)
 have : (r == 329) = true := beq_true_of (by omega)
 have := n1 r 312 (by omega)
 have hv : smallB r = true := decide_eq_true (by unfold SmallP; omega)
 rw [hv]
 go_enter Tryd.func114, Tryd.ntmps114
 go_wp2_with ((go_at_call 53; with_reducible refine cr (in53_any _ _ _ _) ?_))
 go_ret
 exact ⟨rfl, rfl⟩
theorem rsmall114_12 (r : Int) (h1 : 330 ≤ r) (h2 : r ≤ 375) (hp : r % 2 = 0) (w : World) : Cx114 r w := by
 unfold Cx114
 have := inf r 97 122 (by omega)
 have := inf r 223 255 (by omega)
 have := inf r 256 311 (by omega)
 have := it r 330 375 (by omega)
 have : (r.tmod 2 == 1) = false := rem_false_of (by omega) (by omega)
 have hv : smallB r = false := decide_eq_false (by unfold SmallP; omega)
 rw [hv]
 go_enter Tryd.func114, Tryd.ntmps114
 go_wp2_with ((go_at_call 53; with_reducible refine cr (in53_any _ _ _ _) ?_))
 go_ret
 exact ⟨rfl, rfl⟩
theorem rsmall114_13 (r : Int) (h1 : 330 ≤ r) (h2 : r ≤ 375) (hp : r % 2 = 1) (w : World) : Cx114 r w := by
 unfold Cx114
 have := inf r 97 122 (by omega)
 have := inf r 223 255 (by omega)
 have := inf r 256 311 (by omega)
 have := it r 330 375 (by omega)
 have : (r.tmod 2 == 1) = true := rem_true_of (by omega) (by omega)
 have hv : smallB r = true := decide_eq_true (by unfold SmallP; omega)
 rw [hv]
 go_enter Tryd.func114, Tryd.ntmps114
 go_wp2_with ((go_at_call 53; with_reducible refine cr (in53_any _ _ _ _) ?_))
 go_ret
 exact ⟨rfl, rfl⟩
theorem rsmall114_14 (r : Int) (h1 : 376 ≤ r) (h2 : r ≤ 377) (w : World) : Cx114 r w := by
 unfold Cx114
 have := inf r 97 122 (by omega)
 have := inf r 223 255 (by omega)
 have := inf r 256 311 (by omega)
 have := inf r 330 375 (by omega)
 have := inf r 313 328 (by omega)
 have := inf r 940 974 (by omega)
 have := inf r 1072 1119 (by omega)
 have ⟨_, _, _, _, _, _, _⟩ := n7 r 312 329 378 380 382 383 912 (by omega)
 have hv : smallB r = false := decide_eq_false (by unfold SmallP; omega)
 rw [hv]
 go_enter Tryd.func114, Tryd.ntmps114
 go_wp2_with ((go_at_call 53; with_reducible refine cr (in53_any _ _ _ _) ?_))
 go_ret
 exact ⟨rfl, rfl⟩
theorem rsmall114_15 (r : Int) (h1 : 378 ≤ r) (h2 : r ≤ 378) (w : World) : Cx114 r w := by
 unfold Cx114
 have := inf r 97 122 (by omega)
 have := inf r 223 255 (by omega)
 have := inf r 256 311 (by omega)
 have := inf r 330 375 (by omega)
 have := inf r 313 328 (by omega)
 have : (r == 378) = true := beq_true_of (by omega)
 have ⟨_, _⟩ := n2 r 312 329 (by omega)
 have hv : smallB r = true := decide_eq_true (by unfold SmallP; omega)
 rw [hv]
 go_enter Tryd.func114, Tryd.ntmps114
 go_wp2_with ((go_at_call 53; with_reducible refine cr (in53_any _ _ _ _) ?_))
 go_ret
 exact ⟨rfl, rfl⟩
theorem rsmall114_16 (r : Int) (h1 : 379 ≤ r) (h2 : r ≤ 379) (w : World) : Cx114 r w := by
 unfold Cx114
 have := inf r 97 122 (by omega)
 have := inf r 223 255 (by omega)
 have := inf r 256 311 (by omega)
 have := inf r 330 375 (by omega)
 have := inf r 313 328 (by omega)
 have := inf r 940 974 (by omega)
 have := inf r 1072 1119 (by omega)
 have ⟨_, _, _, _, _, _, _⟩ := n7 r 312 329 378 380 382 383 912 (by omega)
 have hv : smallB r = false := decide_eq_false (by unfold SmallP; omega)
 rw [hv]
 go_enter Tryd.func114, Tryd.ntmps114
 go_wp2_with ((go_at_call 53; with_reducible refine cr (in53_any _ _ _ _) ?_))
 go_ret
 exact ⟨rfl, rfl⟩
theorem rsmall114_17 (r : Int) (h1 : 380 ≤ r) (h2 : r ≤ 380) (w : World) : Cx114 r w := by
 unfold Cx114
 have := inf r 97 122 (by omega)
 have := inf r 223 255 (by omega)
 have := inf r 256 311 (by omega)
 have := inf r 330 375 (by omega)
 have := inf r 313 328 (by omega)
 have : (r == 380) = true := beq_true_of (by omega)
 have ⟨_, _, _⟩ := n3 r 312 329 378 (by omega)
 have hv : smallB r = true := decide_eq_true (by unfold SmallP; omega)
 rw [hv]
 go_enter Tryd.func114, Tryd.ntmps114
 go_wp2_with ((go_at_call 53; with_reducible refine cr (in53_any _ _ _ _) ?_))
 go_ret
 exact ⟨rfl, rfl⟩
theorem rsmall114_18 (r : Int) (h1 : 381 ≤ r) (h2 : r ≤ 381) (w : World) : Cx114 r w := by
 unfold Cx114
 have := inf r 97 122 (by omega)
 have := inf r 223 255 (by omega)
 have := inf r 256 311 (by omega)
 have := inf r 330 375 (by omega)
 have := inf r 313 328 (by omega)
 have := inf r 940 974 (by omega)
 have := inf r 1072 1119 (by omega)
 have ⟨_, _, _, _, _, _, _⟩ := n7 r 312 329 378 380 382 383 912 (by omega)
 have hv : smallB r = false := decide_eq_false (by unfold SmallP; omega)
 rw [hv]
 go_enter Tryd.func114, Tryd.ntmps114
 go_wp2_with ((go_at_call 53; with_reducible refine cr (in53_any _ _ _ _) ?_))
 go_ret
 exact ⟨rfl, rfl⟩
theorem rsmall114_19 (r : Int) (h1 : 382 ≤ r) (h2 : r ≤ 382) (w : World) : Cx114 r w := by
 unfold Cx114
 have := inf r 97 122 (by omega)
 have := inf r 223 255 (by omega)
 have := inf r 256 311 (by omega)
 have := inf r 330 375 (by omega)
 have := inf r 313 328 (by omega)
 have : (r == 382) = true := beq_true_of (by omega)
 have ⟨_, _, _, _⟩ := n4 r 312 329 378 380 (by omega)
 have hv : smallB r = true := decide_eq_true (by unfold SmallP; omega)
 rw [hv]
 go_enter Tryd.func114, Tryd.ntmps114
 go_wp2_with ((go_at_call 53; with_reducible refine cr (in53_any _ _ _ _) ?_))
 go_ret
 exact ⟨rfl, rfl⟩
theorem rsmall114_20 (r : Int) (h1 : 383 ≤ r) (h2 : r ≤ 383) (w : World) : Cx114 r w := by
 unfold Cx114
 have := inf r 97 122 (by omega)
 have := inf r 223 255 (by omega)
 have := inf r 256 311 (by omega)
 have := inf r 330 375 (by omega)
 have := inf r 313 328 (by omega)
 have : (r == 383) = true := beq_true_of (by omega)
 have ⟨_, _, _, _, _⟩ := n5 r 312 329 378 380 382 (by omega)
 have hv : smallB r = true := decide_eq_true (by unfold SmallP; omega)
 rw [hv]
 go_enter Tryd.func114, Tryd.ntmps114
 go_wp2_with ((go_at_call 53; with_reducible refine cr (in53_any _ _ _ _) ?_))
 go_ret
 exact ⟨rfl, rfl⟩
theorem rsmall114_21 (r : Int) (h1 : 384 ≤ r) (h2 : r ≤ 911) (w : World) : Cx114 r w := by
 unfold Cx114
 have := inf r 97 122 (by omega)
 have := inf r 223 255 (by omega)
 have := inf r 256 311 (by omega)
 have := inf r 330 375 (by omega)
 have := inf r 313 328 (by omega)
 have := inf r 940 974 (by omega)
 have := inf r 1072 1119 (by omega)
 have ⟨_, _, _, _, _, _, _⟩ := n7 r 312 329 378 380 382 383 912 (by omega)
 have hv : smallB r = false := decide_eq_false (by unfold SmallP; omega)
 rw [hv]
 go_enter Tryd.func114, Tryd.ntmps114
 go_wp2_with ((go_at_call 53; with_reducible refine cr (in53_any _ _ _ _) ?_))
 go_ret
 exact ⟨rfl, rfl⟩
theorem rsmall114_22 (r : Int) (h1 : 912 ≤ r) (h2 : r ≤ 912) (w : World) : Cx114 r w := by
 unfold Cx114
 have := inf r 97 122 (by omega)
 have := inf r 223 255 (by omega)
 have := inf r 256 311 (by omega)
 have := inf r 330 375 (by omega)
 have := inf r 313 328 (by omega)
 have : (r == 912) = true := beq_true_of (by omega)
 have ⟨_, _, _, _, _, _⟩ := n6 r 312 329 378 380 382 383 (by omega)
 have hv : smallB r = true := decide_eq_true (by unfold SmallP; omega)
 rw [hv]
 go_enter Tryd.func114, Tryd.ntmps114
 go_wp2_with ((go_at_call 53; with_reducible refine cr (in53_any _ _ _ _) ?_))
 go_ret
 exact ⟨rfl, rfl⟩
theorem rsmall114_23 (r : Int) (h1 : 913 ≤ r) (h2 : r ≤ 939) (w : World) : Cx114 r w := by
 unfold Cx114
 have := inf r 97 122 (by omega)
 have := inf r 223 255 (by omega)
 have := inf r 256 311 (by omega)
 have := inf r 330 375 (by omega)
 have := inf r 313 328 (by omega)
 have := inf r 940 974 (by omega)
 have := inf r 1072 1119 (by omega)
 have ⟨_, _, _, _, _, _, _⟩ := n7 r 312 329 378 380 382 383 912 (by omega)
 have hv : smallB r = false := decide_eq_false (by unfold SmallP; omega)
 rw [hv]
 go_enter Tryd.func114, Tryd.ntmps114
 go_wp2_with ((go_at_call 53; with_reducible refine cr (in53_any _ _ _ _) ?_))
 go_ret
 exact ⟨rfl, rfl⟩
theorem rsmall114_24 (r : Int) (h1 : 940 ≤ r) (h2 : r ≤ 974) (w : World) : Cx114 r w := by
 unfold Cx114
 have := inf r 97 122 (by omega)
 have := inf r 223 255 (by omega)
 have := inf r 256 311 (by omega)
 have := inf r 330 375 (by omega)
 have := inf r 313 328 (by omega)
 have := it r 940 974 (by omega)
 have ⟨_, _, _, _, _, _, _⟩ := n7 r 312 329 378 380 382 383 912 (by omega)
 have hv : smallB r = true := decide_eq_true (by unfold SmallP; omega)
 rw [hv]
 go_enter Tryd.func114, Tryd.ntmps114
 go_wp2_with ((go_at_call 53; with_reducible refine cr (in53_any _ _ _ _) ?_))
 go_ret
 exact ⟨rfl, rfl⟩
theorem rsmall114_25 (r : Int) (h1 : 975 ≤ r) (h2 : r ≤ 1071) (w : World) : Cx114 r w := by
 unfold Cx114
 have := inf r 97 122 (by omega)
 have := inf r 223 255 (by omega)
 have := inf r 256 311 (by omega)
 have := inf r 330 375 (by omega)
 have := inf r 313 328 (by omega)
 have := inf r 940 974 (by omega)
 have := inf r 1072 1119 (by omega)
 have ⟨_, _, _, _, _, _, _⟩ := n7 r 312 329 378 380 382 383 912 (by omega)
 have hv : smallB r = false := decide_eq_false (by unfold SmallP; omega)
 rw [hv]
 go_enter Tryd.func114, Tryd.ntmps114
 go_wp2_with ((go_at_call 53; with_reducible refine cr (in53_any _ _ _ _) ?_))
 go_ret
 exact ⟨rfl, rfl⟩
theorem rsmall114_26 (r : Int) (h1 : 1072 ≤ r) (h2 : r ≤ 1119) (w : World) : Cx114 r w := by
 unfold Cx114
 have := inf r 97 122 (by omega)
 have := inf r 223 255 (by omega)
 have := inf r 256 311 (by omega)
 have := inf r 330 375 (by omega)
 have := inf r 313 328 (by omega)
 have := inf r 940 974 (by omega)
 have := it r 1072 1119 (by omega)
 have ⟨_, _, _, _, _, _, _⟩ := n7 r 312 329 378 380 382 383 912 (by omega)
 have hv : smallB r = true := decide_eq_true (by unfold SmallP; omega)
 rw [hv]
 go_enter Tryd.func114, Tryd.ntmps114
 go_wp2_with ((go_at_call 53; with_reducible refine cr (in53_any _ _ _ _) ?_))
 go_ret
 exact ⟨rfl, rfl⟩
theorem rsmall114_27 (r : Int) (h1 : 1120 ≤ r) (h2 : r ≤ 1114111) (w : World) : Cx114 r w := by
 unfold Cx114
 have := inf r 97 122 (by omega)
 have := inf r 223 255 (by omega)
 have := inf r 256 311 (by omega)
 have := inf r 330 375 (by omega)
 have := inf r 313 328 (by omega)
 have := inf r 940 974 (by omega)
 have := inf r 1072 1119 (by omega)
 have ⟨_, _, _, _, _, _, _⟩ := n7 r 312 329 378 380 382 383 912 (by omega)
 have hv : smallB r = false := decide_eq_false (by unfold SmallP; omega)
 rw [hv]
 go_enter Tryd.func114, Tryd.ntmps114
 go_wp2_with ((go_at_call 53; with_reducible refine cr (in53_any _ _ _ _) ?_))
 go_ret
 exact ⟨rfl, rfl⟩
theorem rsmall114 (r : Int) (h0 : 0 ≤ r) (h9 : r ≤ 1114111) (w : World) : Calls Tryd.prog 114 #[.int .i32 r] w fun e w' => e = .returned (.bool (smallB r)) ∧ w = w' := by
 by_cases k1 : r ≤ 96
 ·exact rsmall114_0 r  (by omega) (by omega) w
 by_cases k2 : r ≤ 122
 ·exact rsmall114_1 r  (by omega) (by omega) w
 by_cases k3 : r ≤ 222
 ·exact rsmall114_2 r  (by omega) (by omega) w
 by_cases k4 : r ≤ 246
 ·exact rsmall114_3 r  (by omega) (by omega) w
 by_cases k5 : r ≤ 247
 ·exact rsmall114_4 r  (by omega) (by omega) w
 by_cases k6 : r ≤ 255
 ·exact rsmall114_5 r  (by omega) (by omega) w
 by_cases k8 : r ≤ 311
 ·by_cases hp : r % 2 = 0
  exact rsmall114_6 r  (by omega) (by omega) hp w
  exact rsmall114_7 r  (by omega) (by omega) (by omega) w
 by_cases k9 : r ≤ 312
 ·exact rsmall114_8 r  (by omega) (by omega) w
 by_cases k11 : r ≤ 328
 ·by_cases hp : r % 2 = 0
  exact rsmall114_9 r  (by omega) (by omega) hp w
  exact rsmall114_10 r  (by omega) (by omega) (by omega) w
 by_cases k12 : r ≤ 329
 ·exact rsmall114_11 r  (by omega) (by omega) w
 by_cases k14 : r ≤ 375
 ·by_cases hp : r % 2 = 0
  exact rsmall114_12 r  (by omega) (by omega) hp w
  exact rsmall114_13 r  (by omega) (by omega) (by omega) w
 by_cases k15 : r ≤ 377
 ·exact rsmall114_14 r  (by omega) (by omega) w
 by_cases k16 : r ≤ 378
 ·exact rsmall114_15 r  (by omega) (by omega) w
 by_cases k17 : r ≤ 379
 ·exact rsmall114_16 r  (by omega) (by omega) w
 by_cases k18 : r ≤ 380
 ·exact rsmall114_17 r  (by omega) (by omega) w
 by_cases k19 : r ≤ 381
 ·exact rsmall114_18 r  (by omega) (by omega) w
 by_cases k20 : r ≤ 382
 ·exact rsmall114_19 r  (by omega) (by omega) w
 by_cases k21 : r ≤ 383
 ·exact rsmall114_20 r  (by omega) (by omega) w
 by_cases k22 : r ≤ 911
 ·exact rsmall114_21 r  (by omega) (by omega) w
 by_cases k23 : r ≤ 912
 ·exact rsmall114_22 r  (by omega) (by omega) w
 by_cases k24 : r ≤ 939
 ·exact rsmall114_23 r  (by omega) (by omega) w
 by_cases k25 : r ≤ 974
 ·exact rsmall114_24 r  (by omega) (by omega) w
 by_cases k26 : r ≤ 1071
 ·exact rsmall114_25 r  (by omega) (by omega) w
 by_cases k27 : r ≤ 1119
 ·exact rsmall114_26 r  (by omega) (by omega) w
 exact rsmall114_27 r  (by omega) (by omega) w
end Go.Proofs.YtieifhfgedoiaaaDoor
