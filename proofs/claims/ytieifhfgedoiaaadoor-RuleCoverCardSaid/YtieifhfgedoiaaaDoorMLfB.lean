/- class.Great and Small. Conditions: those of each theorem. -/
import Derived.Test.YtieifhfgedoiaaaDoorMLfA
namespace Go.Proofs.YtieifhfgedoiaaaDoor
open Go.RowKit Go.Lib
set_option linter.unusedVariables false
set_option linter.unusedSimpArgs false

def Cx71 (r : Int) (w : World) : Prop := Calls Tryd.prog 71 #[.int .i32 r] w fun e w' => e = .returned (.bool (greatB r)) ∧ w = w'
theorem great71_0 (r : Int) (h1 : 0 ≤ r) (h2 : r ≤ 64) (w : World) : Cx71 r w := by
 unfold Cx71
 have := dgf r 65 (by omega)
 have := dgf r 192 (by omega)
 have := dgf r 256 (by omega)
 have := dgf r 330 (by omega)
 have := dgf r 313 (by omega)
 have := dgf r 376 (by omega)
 have := dgf r 902 (by omega)
 have := dgf r 913 (by omega)
 have := dgf r 1024 (by omega)
 have hv : greatB r = false := decide_eq_false (by unfold GreatP; omega)
 rw [hv]
 go_enter Tryd.func71, Tryd.ntmps71
 go_wp2_with ((go_at_call 86; with_reducible refine cr (even86_any r (by omega) (by omega) _) ?_))
 go_ret
 exact ⟨rfl, rfl⟩
theorem great71_1 (r : Int) (h1 : 65 ≤ r) (h2 : r ≤ 90) (w : World) : Cx71 r w := by
 unfold Cx71
 have := dgt r 65 (by omega)
 have := dlt r 90 (by omega)
 have : (r != 215) = true := bne_true_of (by omega)
 have hv : greatB r = true := decide_eq_true (by unfold GreatP; omega)
 rw [hv]
 go_enter Tryd.func71, Tryd.ntmps71
 go_wp2_with ((go_at_call 86; with_reducible refine cr (even86_any r (by omega) (by omega) _) ?_))
 go_ret
 exact ⟨rfl, rfl⟩
theorem great71_2 (r : Int) (h1 : 91 ≤ r) (h2 : r ≤ 191) (w : World) : Cx71 r w := by
 unfold Cx71
 have := dgt r 65 (by omega)
 have := dlf r 90 (by omega)
 have := dgf r 192 (by omega)
 have := dgf r 256 (by omega)
 have := dgf r 330 (by omega)
 have := dgf r 313 (by omega)
 have := dgf r 376 (by omega)
 have := dgf r 902 (by omega)
 have := dgf r 913 (by omega)
 have := dgf r 1024 (by omega)
 have hv : greatB r = false := decide_eq_false (by unfold GreatP; omega)
 rw [hv]
 go_enter Tryd.func71, Tryd.ntmps71
 go_wp2_with ((go_at_call 86; with_reducible refine cr (even86_any r (by omega) (by omega) _) ?_))
 go_ret
 exact ⟨rfl, rfl⟩
theorem great71_3 (r : Int) (h1 : 192 ≤ r) (h2 : r ≤ 214) (w : World) : Cx71 r w := by
 unfold Cx71
 have := dgt r 65 (by omega)
 have := dlf r 90 (by omega)
 have := dgt r 192 (by omega)
 have := dlt r 222 (by omega)
 have : (r != 215) = true := bne_true_of (by omega)
 have hv : greatB r = true := decide_eq_true (by unfold GreatP; omega)
 rw [hv]
 go_enter Tryd.func71, Tryd.ntmps71
 go_wp2_with ((go_at_call 86; with_reducible refine cr (even86_any r (by omega) (by omega) _) ?_))
 go_ret
 exact ⟨rfl, rfl⟩
theorem great71_4 (r : Int) (h1 : 215 ≤ r) (h2 : r ≤ 215) (w : World) : Cx71 r w := by
 unfold Cx71
 have := dgt r 65 (by omega)
 have := dlf r 90 (by omega)
 have := dgt r 192 (by omega)
 have := dlt r 222 (by omega)
 have : (r != 215) = false := bne_false_of (by omega)
 have hv : greatB r = false := decide_eq_false (by unfold GreatP; omega)
 rw [hv]
 go_enter Tryd.func71, Tryd.ntmps71
 go_wp2_with ((go_at_call 86; with_reducible refine cr (even86_any r (by omega) (by omega) _) ?_))
 go_ret
 exact ⟨rfl, rfl⟩
theorem great71_5 (r : Int) (h1 : 216 ≤ r) (h2 : r ≤ 222) (w : World) : Cx71 r w := by
 unfold Cx71
 have := dgt r 65 (by omega)
 have := dlf r 90 (by omega)
 have := dgt r 192 (by omega)
 have := dlt r 222 (by omega)
 have : (r != 215) = true := bne_true_of (by omega)
 have hv : greatB r = true := decide_eq_true (by unfold GreatP; omega)
 rw [hv]
 go_enter Tryd.func71, Tryd.ntmps71
 go_wp2_with ((go_at_call 86; with_reducible refine cr (even86_any r (by omega) (by omega) _) ?_))
 go_ret
 exact ⟨rfl, rfl⟩
theorem great71_6 (r : Int) (h1 : 223 ≤ r) (h2 : r ≤ 255) (w : World) : Cx71 r w := by
 unfold Cx71
 have := dgt r 65 (by omega)
 have := dlf r 90 (by omega)
 have := dgt r 192 (by omega)
 have := dlf r 222 (by omega)
 have := dgf r 256 (by omega)
 have := dgf r 330 (by omega)
 have := dgf r 313 (by omega)
 have := dgf r 376 (by omega)
 have := dgf r 902 (by omega)
 have := dgf r 913 (by omega)
 have := dgf r 1024 (by omega)
 have hv : greatB r = false := decide_eq_false (by unfold GreatP; omega)
 rw [hv]
 go_enter Tryd.func71, Tryd.ntmps71
 go_wp2_with ((go_at_call 86; with_reducible refine cr (even86_any r (by omega) (by omega) _) ?_))
 go_ret
 exact ⟨rfl, rfl⟩
theorem great71_7 (r : Int) (h1 : 256 ≤ r) (h2 : r ≤ 311) (hp : r % 2 = 0) (w : World) : Cx71 r w := by
 unfold Cx71
 have := dgt r 65 (by omega)
 have := dlf r 90 (by omega)
 have := dgt r 192 (by omega)
 have := dlf r 222 (by omega)
 have := dgt r 256 (by omega)
 have := dlt r 311 (by omega)
 have : evenB r = true := decide_eq_true (by omega)
 have hv : greatB r = true := decide_eq_true (by unfold GreatP; omega)
 rw [hv]
 go_enter Tryd.func71, Tryd.ntmps71
 go_wp2_with ((go_at_call 86; with_reducible refine cr (even86_any r (by omega) (by omega) _) ?_))
 go_ret
 exact ⟨rfl, rfl⟩
theorem great71_8 (r : Int) (h1 : 256 ≤ r) (h2 : r ≤ 311) (hp : r % 2 = 1) (w : World) : Cx71 r w := by
 unfold Cx71
 have := dgt r 65 (by omega)
 have := dlf r 90 (by omega)
 have := dgt r 192 (by omega)
 have := dlf r 222 (by omega)
 have := dgt r 256 (by omega)
 have := dlt r 311 (by omega)
 have : evenB r = false := decide_eq_false (by omega)
 have hv : greatB r = false := decide_eq_false (by unfold GreatP; omega)
 rw [hv]
 go_enter Tryd.func71, Tryd.ntmps71
 go_wp2_with ((go_at_call 86; with_reducible refine cr (even86_any r (by omega) (by omega) _) ?_))
 go_ret
 exact ⟨rfl, rfl⟩
theorem great71_9 (r : Int) (h1 : 312 ≤ r) (h2 : r ≤ 312) (w : World) : Cx71 r w := by
 unfold Cx71
 have := dgt r 65 (by omega)
 have := dlf r 90 (by omega)
 have := dgt r 192 (by omega)
 have := dlf r 222 (by omega)
 have := dgt r 256 (by omega)
 have := dlf r 311 (by omega)
 have := dgf r 330 (by omega)
 have := dgf r 313 (by omega)
 have := dgf r 376 (by omega)
 have := dgf r 902 (by omega)
 have := dgf r 913 (by omega)
 have := dgf r 1024 (by omega)
 have hv : greatB r = false := decide_eq_false (by unfold GreatP; omega)
 rw [hv]
 go_enter Tryd.func71, Tryd.ntmps71
 go_wp2_with ((go_at_call 86; with_reducible refine cr (even86_any r (by omega) (by omega) _) ?_))
 go_ret
 exact ⟨rfl, rfl⟩
theorem great71_10 (r : Int) (h1 : 313 ≤ r) (h2 : r ≤ 328) (hp : r % 2 = 0) (w : World) : Cx71 r w := by
 unfold Cx71
 have := dgt r 65 (by omega)
 have := dlf r 90 (by omega)
 have := dgt r 192 (by omega)
 have := dlf r 222 (by omega)
 have := dgt r 256 (by omega)
 have := dlf r 311 (by omega)
 have := dgf r 330 (by omega)
 have := dgt r 313 (by omega)
 have := dlt r 328 (by omega)
 have : evenB r = true := decide_eq_true (by omega)
 have hv : greatB r = false := decide_eq_false (by unfold GreatP; omega)
 rw [hv]
 go_enter Tryd.func71, Tryd.ntmps71
 go_wp2_with ((go_at_call 86; with_reducible refine cr (even86_any r (by omega) (by omega) _) ?_))
 go_ret
 exact ⟨rfl, rfl⟩
theorem great71_11 (r : Int) (h1 : 313 ≤ r) (h2 : r ≤ 328) (hp : r % 2 = 1) (w : World) : Cx71 r w := by
 unfold Cx71
 have := dgt r 65 (by omega)
 have := dlf r 90 (by omega)
 have := dgt r 192 (by omega)
 have := dlf r 222 (by omega)
 have := dgt r 256 (by omega)
 have := dlf r 311 (by omega)
 have := dgf r 330 (by omega)
 have := dgt r 313 (by omega)
 have := dlt r 328 (by omega)
 have : evenB r = false := decide_eq_false (by omega)
 have hv : greatB r = true := decide_eq_true (by unfold GreatP; omega)
 rw [hv]
 go_enter Tryd.func71, Tryd.ntmps71
 go_wp2_with ((go_at_call 86; with_reducible refine cr (even86_any r (by omega) (by omega) _) ?_))
 go_ret
 exact ⟨rfl, rfl⟩
theorem great71_12 (r : Int) (h1 : 329 ≤ r) (h2 : r ≤ 329) (w : World) : Cx71 r w := by
 unfold Cx71
 have := dgt r 65 (by omega)
 have := dlf r 90 (by omega)
 have := dgt r 192 (by omega)
 have := dlf r 222 (by omega)
 have := dgt r 256 (by omega)
 have := dlf r 311 (by omega)
 have := dgf r 330 (by omega)
 have := dgt r 313 (by omega)
 have := dlf r 328 (by omega)
 have := dgf r 376 (by omega)
 have := dgf r 902 (by omega)
 have := dgf r 913 (by omega)
 have := dgf r 1024 (by omega)
 have hv : greatB r = false := decide_eq_false (by unfold GreatP; omega)
 rw [hv]
 go_enter Tryd.func71, Tryd.ntmps71
 go_wp2_with ((go_at_call 86; with_reducible refine cr (even86_any r (by omega) (by omega) _) ?_))
 go_ret
 exact ⟨rfl, rfl⟩
theorem great71_13 (r : Int) (h1 : 330 ≤ r) (h2 : r ≤ 375) (hp : r % 2 = 0) (w : World) : Cx71 r w := by
 unfold Cx71
 have := dgt r 65 (by omega)
 have := dlf r 90 (by omega)
 have := dgt r 192 (by omega)
 have := dlf r 222 (by omega)
 have := dgt r 256 (by omega)
 have := dlf r 311 (by omega)
 have := dgt r 330 (by omega)
 have := dlt r 375 (by omega)
 have : evenB r = true := decide_eq_true (by omega)
 have hv : greatB r = true := decide_eq_true (by unfold GreatP; omega)
 rw [hv]
 go_enter Tryd.func71, Tryd.ntmps71
 go_wp2_with ((go_at_call 86; with_reducible refine cr (even86_any r (by omega) (by omega) _) ?_))
 go_ret
 exact ⟨rfl, rfl⟩
theorem great71_14 (r : Int) (h1 : 330 ≤ r) (h2 : r ≤ 375) (hp : r % 2 = 1) (w : World) : Cx71 r w := by
 unfold Cx71
 have := dgt r 65 (by omega)
 have := dlf r 90 (by omega)
 have := dgt r 192 (by omega)
 have := dlf r 222 (by omega)
 have := dgt r 256 (by omega)
 have := dlf r 311 (by omega)
 have := dgt r 330 (by omega)
 have := dlt r 375 (by omega)
 have : evenB r = false := decide_eq_false (by omega)
 have hv : greatB r = false := decide_eq_false (by unfold GreatP; omega)
 rw [hv]
 go_enter Tryd.func71, Tryd.ntmps71
 go_wp2_with ((go_at_call 86; with_reducible refine cr (even86_any r (by omega) (by omega) _) ?_))
 go_ret
 exact ⟨rfl, rfl⟩
theorem great71_15 (r : Int) (h1 : 376 ≤ r) (h2 : r ≤ 376) (w : World) : Cx71 r w := by
 unfold Cx71
 have := dgt r 65 (by omega)
 have := dlf r 90 (by omega)
 have := dgt r 192 (by omega)
 have := dlf r 222 (by omega)
 have := dgt r 256 (by omega)
 have := dlf r 311 (by omega)
 have := dgt r 330 (by omega)
 have := dlf r 375 (by omega)
 have := dgt r 313 (by omega)
 have := dlf r 328 (by omega)
 have := dgt r 376 (by omega)
 have := dlt r 381 (by omega)
 have : (r == 376) = true := beq_true_of (by omega)
 have hv : greatB r = true := decide_eq_true (by unfold GreatP; omega)
 rw [hv]
 go_enter Tryd.func71, Tryd.ntmps71
 go_wp2_with ((go_at_call 86; with_reducible refine cr (even86_any r (by omega) (by omega) _) ?_))
 go_ret
 exact ⟨rfl, rfl⟩
theorem great71_16 (r : Int) (h1 : 377 ≤ r) (h2 : r ≤ 381) (hp : r % 2 = 0) (w : World) : Cx71 r w := by
 unfold Cx71
 have := dgt r 65 (by omega)
 have := dlf r 90 (by omega)
 have := dgt r 192 (by omega)
 have := dlf r 222 (by omega)
 have := dgt r 256 (by omega)
 have := dlf r 311 (by omega)
 have := dgt r 330 (by omega)
 have := dlf r 375 (by omega)
 have := dgt r 313 (by omega)
 have := dlf r 328 (by omega)
 have := dgt r 376 (by omega)
 have := dlt r 381 (by omega)
 have : evenB r = true := decide_eq_true (by omega)
 have := n1 r 376 (by omega)
 have hv : greatB r = false := decide_eq_false (by unfold GreatP; omega)
 rw [hv]
 go_enter Tryd.func71, Tryd.ntmps71
 go_wp2_with ((go_at_call 86; with_reducible refine cr (even86_any r (by omega) (by omega) _) ?_))
 go_ret
 exact ⟨rfl, rfl⟩
theorem great71_17 (r : Int) (h1 : 377 ≤ r) (h2 : r ≤ 381) (hp : r % 2 = 1) (w : World) : Cx71 r w := by
 unfold Cx71
 have := dgt r 65 (by omega)
 have := dlf r 90 (by omega)
 have := dgt r 192 (by omega)
 have := dlf r 222 (by omega)
 have := dgt r 256 (by omega)
 have := dlf r 311 (by omega)
 have := dgt r 330 (by omega)
 have := dlf r 375 (by omega)
 have := dgt r 313 (by omega)
 have := dlf r 328 (by omega)
 have := dgt r 376 (by omega)
 have := dlt r 381 (by omega)
 have : evenB r = false := decide_eq_false (by omega)
 have := n1 r 376 (by omega)
 have hv : greatB r = true := decide_eq_true (by unfold GreatP; omega)
 rw [hv]
 go_enter Tryd.func71, Tryd.ntmps71
 go_wp2_with ((go_at_call 86; with_reducible refine cr (even86_any r (by omega) (by omega) _) ?_))
 go_ret
 exact ⟨rfl, rfl⟩
theorem great71_18 (r : Int) (h1 : 382 ≤ r) (h2 : r ≤ 901) (w : World) : Cx71 r w := by
 unfold Cx71
 have := dgt r 65 (by omega)
 have := dlf r 90 (by omega)
 have := dgt r 192 (by omega)
 have := dlf r 222 (by omega)
 have := dgt r 256 (by omega)
 have := dlf r 311 (by omega)
 have := dgt r 330 (by omega)
 have := dlf r 375 (by omega)
 have := dgt r 313 (by omega)
 have := dlf r 328 (by omega)
 have := dgt r 376 (by omega)
 have := dlf r 381 (by omega)
 have := dgf r 902 (by omega)
 have := dgf r 913 (by omega)
 have := dgf r 1024 (by omega)
 have hv : greatB r = false := decide_eq_false (by unfold GreatP; omega)
 rw [hv]
 go_enter Tryd.func71, Tryd.ntmps71
 go_wp2_with ((go_at_call 86; with_reducible refine cr (even86_any r (by omega) (by omega) _) ?_))
 go_ret
 exact ⟨rfl, rfl⟩
theorem great71_19 (r : Int) (h1 : 902 ≤ r) (h2 : r ≤ 902) (w : World) : Cx71 r w := by
 unfold Cx71
 have := dgt r 65 (by omega)
 have := dlf r 90 (by omega)
 have := dgt r 192 (by omega)
 have := dlf r 222 (by omega)
 have := dgt r 256 (by omega)
 have := dlf r 311 (by omega)
 have := dgt r 330 (by omega)
 have := dlf r 375 (by omega)
 have := dgt r 313 (by omega)
 have := dlf r 328 (by omega)
 have := dgt r 376 (by omega)
 have := dlf r 381 (by omega)
 have := dgt r 902 (by omega)
 have := dlt r 911 (by omega)
 have : (r != 903) = true := bne_true_of (by omega)
 have : (r != 907) = true := bne_true_of (by omega)
 have : (r != 909) = true := bne_true_of (by omega)
 have hv : greatB r = true := decide_eq_true (by unfold GreatP; omega)
 rw [hv]
 go_enter Tryd.func71, Tryd.ntmps71
 go_wp2_with ((go_at_call 86; with_reducible refine cr (even86_any r (by omega) (by omega) _) ?_))
 go_ret
 exact ⟨rfl, rfl⟩
theorem great71_20 (r : Int) (h1 : 903 ≤ r) (h2 : r ≤ 903) (w : World) : Cx71 r w := by
 unfold Cx71
 have := dgt r 65 (by omega)
 have := dlf r 90 (by omega)
 have := dgt r 192 (by omega)
 have := dlf r 222 (by omega)
 have := dgt r 256 (by omega)
 have := dlf r 311 (by omega)
 have := dgt r 330 (by omega)
 have := dlf r 375 (by omega)
 have := dgt r 313 (by omega)
 have := dlf r 328 (by omega)
 have := dgt r 376 (by omega)
 have := dlf r 381 (by omega)
 have := dgt r 902 (by omega)
 have := dlt r 911 (by omega)
 have : (r != 903) = false := bne_false_of (by omega)
 have hv : greatB r = false := decide_eq_false (by unfold GreatP; omega)
 rw [hv]
 go_enter Tryd.func71, Tryd.ntmps71
 go_wp2_with ((go_at_call 86; with_reducible refine cr (even86_any r (by omega) (by omega) _) ?_))
 go_ret
 exact ⟨rfl, rfl⟩
theorem great71_21 (r : Int) (h1 : 904 ≤ r) (h2 : r ≤ 906) (w : World) : Cx71 r w := by
 unfold Cx71
 have := dgt r 65 (by omega)
 have := dlf r 90 (by omega)
 have := dgt r 192 (by omega)
 have := dlf r 222 (by omega)
 have := dgt r 256 (by omega)
 have := dlf r 311 (by omega)
 have := dgt r 330 (by omega)
 have := dlf r 375 (by omega)
 have := dgt r 313 (by omega)
 have := dlf r 328 (by omega)
 have := dgt r 376 (by omega)
 have := dlf r 381 (by omega)
 have := dgt r 902 (by omega)
 have := dlt r 911 (by omega)
 have : (r != 903) = true := bne_true_of (by omega)
 have : (r != 907) = true := bne_true_of (by omega)
 have : (r != 909) = true := bne_true_of (by omega)
 have hv : greatB r = true := decide_eq_true (by unfold GreatP; omega)
 rw [hv]
 go_enter Tryd.func71, Tryd.ntmps71
 go_wp2_with ((go_at_call 86; with_reducible refine cr (even86_any r (by omega) (by omega) _) ?_))
 go_ret
 exact ⟨rfl, rfl⟩
theorem great71_22 (r : Int) (h1 : 907 ≤ r) (h2 : r ≤ 907) (w : World) : Cx71 r w := by
 unfold Cx71
 have := dgt r 65 (by omega)
 have := dlf r 90 (by omega)
 have := dgt r 192 (by omega)
 have := dlf r 222 (by omega)
 have := dgt r 256 (by omega)
 have := dlf r 311 (by omega)
 have := dgt r 330 (by omega)
 have := dlf r 375 (by omega)
 have := dgt r 313 (by omega)
 have := dlf r 328 (by omega)
 have := dgt r 376 (by omega)
 have := dlf r 381 (by omega)
 have := dgt r 902 (by omega)
 have := dlt r 911 (by omega)
 have : (r != 903) = true := bne_true_of (by omega)
 have : (r != 907) = false := bne_false_of (by omega)
 have hv : greatB r = false := decide_eq_false (by unfold GreatP; omega)
 rw [hv]
 go_enter Tryd.func71, Tryd.ntmps71
 go_wp2_with ((go_at_call 86; with_reducible refine cr (even86_any r (by omega) (by omega) _) ?_))
 go_ret
 exact ⟨rfl, rfl⟩
theorem great71_23 (r : Int) (h1 : 908 ≤ r) (h2 : r ≤ 908) (w : World) : Cx71 r w := by
 unfold Cx71
 have := dgt r 65 (by omega)
 have := dlf r 90 (by omega)
 have := dgt r 192 (by omega)
 have := dlf r 222 (by omega)
 have := dgt r 256 (by omega)
 have := dlf r 311 (by omega)
 have := dgt r 330 (by omega)
 have := dlf r 375 (by omega)
 have := dgt r 313 (by omega)
 have := dlf r 328 (by omega)
 have := dgt r 376 (by omega)
 have := dlf r 381 (by omega)
 have := dgt r 902 (by omega)
 have := dlt r 911 (by omega)
 have : (r != 903) = true := bne_true_of (by omega)
 have : (r != 907) = true := bne_true_of (by omega)
 have : (r != 909) = true := bne_true_of (by omega)
 have hv : greatB r = true := decide_eq_true (by unfold GreatP; omega)
 rw [hv]
 go_enter Tryd.func71, Tryd.ntmps71
 go_wp2_with ((go_at_call 86; with_reducible refine cr (even86_any r (by omega) (by omega) _) ?_))
 go_ret
 exact ⟨rfl, rfl⟩
theorem great71_24 (r : Int) (h1 : 909 ≤ r) (h2 : r ≤ 909) (w : World) : Cx71 r w := by
 unfold Cx71
 have := dgt r 65 (by omega)
 have := dlf r 90 (by omega)
 have := dgt r 192 (by omega)
 have := dlf r 222 (by omega)
 have := dgt r 256 (by omega)
 have := dlf r 311 (by omega)
 have := dgt r 330 (by omega)
 have := dlf r 375 (by omega)
 have := dgt r 313 (by omega)
 have := dlf r 328 (by omega)
 have := dgt r 376 (by omega)
 have := dlf r 381 (by omega)
 have := dgt r 902 (by omega)
 have := dlt r 911 (by omega)
 have : (r != 903) = true := bne_true_of (by omega)
 have : (r != 907) = true := bne_true_of (by omega)
 have : (r != 909) = false := bne_false_of (by omega)
 have hv : greatB r = false := decide_eq_false (by unfold GreatP; omega)
 rw [hv]
 go_enter Tryd.func71, Tryd.ntmps71
 go_wp2_with ((go_at_call 86; with_reducible refine cr (even86_any r (by omega) (by omega) _) ?_))
 go_ret
 exact ⟨rfl, rfl⟩
theorem great71_25 (r : Int) (h1 : 910 ≤ r) (h2 : r ≤ 911) (w : World) : Cx71 r w := by
 unfold Cx71
 have := dgt r 65 (by omega)
 have := dlf r 90 (by omega)
 have := dgt r 192 (by omega)
 have := dlf r 222 (by omega)
 have := dgt r 256 (by omega)
 have := dlf r 311 (by omega)
 have := dgt r 330 (by omega)
 have := dlf r 375 (by omega)
 have := dgt r 313 (by omega)
 have := dlf r 328 (by omega)
 have := dgt r 376 (by omega)
 have := dlf r 381 (by omega)
 have := dgt r 902 (by omega)
 have := dlt r 911 (by omega)
 have : (r != 903) = true := bne_true_of (by omega)
 have : (r != 907) = true := bne_true_of (by omega)
 have : (r != 909) = true := bne_true_of (by omega)
 have hv : greatB r = true := decide_eq_true (by unfold GreatP; omega)
 rw [hv]
 go_enter Tryd.func71, Tryd.ntmps71
 go_wp2_with ((go_at_call 86; with_reducible refine cr (even86_any r (by omega) (by omega) _) ?_))
 go_ret
 exact ⟨rfl, rfl⟩
theorem great71_26 (r : Int) (h1 : 912 ≤ r) (h2 : r ≤ 912) (w : World) : Cx71 r w := by
 unfold Cx71
 have := dgt r 65 (by omega)
 have := dlf r 90 (by omega)
 have := dgt r 192 (by omega)
 have := dlf r 222 (by omega)
 have := dgt r 256 (by omega)
 have := dlf r 311 (by omega)
 have := dgt r 330 (by omega)
 have := dlf r 375 (by omega)
 have := dgt r 313 (by omega)
 have := dlf r 328 (by omega)
 have := dgt r 376 (by omega)
 have := dlf r 381 (by omega)
 have := dgt r 902 (by omega)
 have := dlf r 911 (by omega)
 have := dgf r 913 (by omega)
 have := dgf r 1024 (by omega)
 have hv : greatB r = false := decide_eq_false (by unfold GreatP; omega)
 rw [hv]
 go_enter Tryd.func71, Tryd.ntmps71
 go_wp2_with ((go_at_call 86; with_reducible refine cr (even86_any r (by omega) (by omega) _) ?_))
 go_ret
 exact ⟨rfl, rfl⟩
theorem great71_27 (r : Int) (h1 : 913 ≤ r) (h2 : r ≤ 929) (w : World) : Cx71 r w := by
 unfold Cx71
 have := dgt r 65 (by omega)
 have := dlf r 90 (by omega)
 have := dgt r 192 (by omega)
 have := dlf r 222 (by omega)
 have := dgt r 256 (by omega)
 have := dlf r 311 (by omega)
 have := dgt r 330 (by omega)
 have := dlf r 375 (by omega)
 have := dgt r 313 (by omega)
 have := dlf r 328 (by omega)
 have := dgt r 376 (by omega)
 have := dlf r 381 (by omega)
 have := dgt r 902 (by omega)
 have := dlf r 911 (by omega)
 have := dgt r 913 (by omega)
 have := dlt r 939 (by omega)
 have : (r != 930) = true := bne_true_of (by omega)
 have hv : greatB r = true := decide_eq_true (by unfold GreatP; omega)
 rw [hv]
 go_enter Tryd.func71, Tryd.ntmps71
 go_wp2_with ((go_at_call 86; with_reducible refine cr (even86_any r (by omega) (by omega) _) ?_))
 go_ret
 exact ⟨rfl, rfl⟩
theorem great71_28 (r : Int) (h1 : 930 ≤ r) (h2 : r ≤ 930) (w : World) : Cx71 r w := by
 unfold Cx71
 have := dgt r 65 (by omega)
 have := dlf r 90 (by omega)
 have := dgt r 192 (by omega)
 have := dlf r 222 (by omega)
 have := dgt r 256 (by omega)
 have := dlf r 311 (by omega)
 have := dgt r 330 (by omega)
 have := dlf r 375 (by omega)
 have := dgt r 313 (by omega)
 have := dlf r 328 (by omega)
 have := dgt r 376 (by omega)
 have := dlf r 381 (by omega)
 have := dgt r 902 (by omega)
 have := dlf r 911 (by omega)
 have := dgt r 913 (by omega)
 have := dlt r 939 (by omega)
 have : (r != 930) = false := bne_false_of (by omega)
 have hv : greatB r = false := decide_eq_false (by unfold GreatP; omega)
 rw [hv]
 go_enter Tryd.func71, Tryd.ntmps71
 go_wp2_with ((go_at_call 86; with_reducible refine cr (even86_any r (by omega) (by omega) _) ?_))
 go_ret
 exact ⟨rfl, rfl⟩
theorem great71_29 (r : Int) (h1 : 931 ≤ r) (h2 : r ≤ 939) (w : World) : Cx71 r w := by
 unfold Cx71
 have := dgt r 65 (by omega)
 have := dlf r 90 (by omega)
 have := dgt r 192 (by omega)
 have := dlf r 222 (by omega)
 have := dgt r 256 (by omega)
 have := dlf r 311 (by omega)
 have := dgt r 330 (by omega)
 have := dlf r 375 (by omega)
 have := dgt r 313 (by omega)
 have := dlf r 328 (by omega)
 have := dgt r 376 (by omega)
 have := dlf r 381 (by omega)
 have := dgt r 902 (by omega)
 have := dlf r 911 (by omega)
 have := dgt r 913 (by omega)
 have := dlt r 939 (by omega)
 have : (r != 930) = true := bne_true_of (by omega)
 have hv : greatB r = true := decide_eq_true (by unfold GreatP; omega)
 rw [hv]
 go_enter Tryd.func71, Tryd.ntmps71
 go_wp2_with ((go_at_call 86; with_reducible refine cr (even86_any r (by omega) (by omega) _) ?_))
 go_ret
 exact ⟨rfl, rfl⟩
theorem great71_30 (r : Int) (h1 : 940 ≤ r) (h2 : r ≤ 1023) (w : World) : Cx71 r w := by
 unfold Cx71
 have := dgt r 65 (by omega)
 have := dlf r 90 (by omega)
 have := dgt r 192 (by omega)
 have := dlf r 222 (by omega)
 have := dgt r 256 (by omega)
 have := dlf r 311 (by omega)
 have := dgt r 330 (by omega)
 have := dlf r 375 (by omega)
 have := dgt r 313 (by omega)
 have := dlf r 328 (by omega)
 have := dgt r 376 (by omega)
 have := dlf r 381 (by omega)
 have := dgt r 902 (by omega)
 have := dlf r 911 (by omega)
 have := dgt r 913 (by omega)
 have := dlf r 939 (by omega)
 have := dgf r 1024 (by omega)
 have hv : greatB r = false := decide_eq_false (by unfold GreatP; omega)
 rw [hv]
 go_enter Tryd.func71, Tryd.ntmps71
 go_wp2_with ((go_at_call 86; with_reducible refine cr (even86_any r (by omega) (by omega) _) ?_))
 go_ret
 exact ⟨rfl, rfl⟩
theorem great71_31 (r : Int) (h1 : 1024 ≤ r) (h2 : r ≤ 1071) (w : World) : Cx71 r w := by
 unfold Cx71
 have := dgt r 65 (by omega)
 have := dlf r 90 (by omega)
 have := dgt r 192 (by omega)
 have := dlf r 222 (by omega)
 have := dgt r 256 (by omega)
 have := dlf r 311 (by omega)
 have := dgt r 330 (by omega)
 have := dlf r 375 (by omega)
 have := dgt r 313 (by omega)
 have := dlf r 328 (by omega)
 have := dgt r 376 (by omega)
 have := dlf r 381 (by omega)
 have := dgt r 902 (by omega)
 have := dlf r 911 (by omega)
 have := dgt r 913 (by omega)
 have := dlf r 939 (by omega)
 have := dgt r 1024 (by omega)
 have := dlt r 1071 (by omega)
 have hv : greatB r = true := decide_eq_true (by unfold GreatP; omega)
 rw [hv]
 go_enter Tryd.func71, Tryd.ntmps71
 go_wp2_with ((go_at_call 86; with_reducible refine cr (even86_any r (by omega) (by omega) _) ?_))
 go_ret
 exact ⟨rfl, rfl⟩
theorem great71_32 (r : Int) (h1 : 1072 ≤ r) (h2 : r ≤ 1114111) (w : World) : Cx71 r w := by
 unfold Cx71
 have := dgt r 65 (by omega)
 have := dlf r 90 (by omega)
 have := dgt r 192 (by omega)
 have := dlf r 222 (by omega)
 have := dgt r 256 (by omega)
 have := dlf r 311 (by omega)
 have := dgt r 330 (by omega)
 have := dlf r 375 (by omega)
 have := dgt r 313 (by omega)
 have := dlf r 328 (by omega)
 have := dgt r 376 (by omega)
 have := dlf r 381 (by omega)
 have := dgt r 902 (by omega)
 have := dlf r 911 (by omega)
 have := dgt r 913 (by omega)
 have := dlf r 939 (by omega)
 have := dgt r 1024 (by omega)
 have := dlf r 1071 (by omega)
 have hv : greatB r = false := decide_eq_false (by unfold GreatP; omega)
 rw [hv]
 go_enter Tryd.func71, Tryd.ntmps71
 go_wp2_with ((go_at_call 86; with_reducible refine cr (even86_any r (by omega) (by omega) _) ?_))
 go_ret
 exact ⟨rfl, rfl⟩
theorem great71 (r : Int) (h0 : 0 ≤ r) (h9 : r ≤ 1114111) (w : World) : Calls Tryd.prog 71 #[.int .i32 r] w fun e w' => e = .returned (.bool (greatB r)) ∧ w = w' := by
 by_cases k1 : r ≤ 64
 ·exact great71_0 r  (by omega) (by omega) w
 by_cases k2 : r ≤ 90
 ·exact great71_1 r  (by omega) (by omega) w
 by_cases k3 : r ≤ 191
 ·exact great71_2 r  (by omega) (by omega) w
 by_cases k4 : r ≤ 214
 ·exact great71_3 r  (by omega) (by omega) w
 by_cases k5 : r ≤ 215
 ·exact great71_4 r  (by omega) (by omega) w
 by_cases k6 : r ≤ 222
 ·exact great71_5 r  (by omega) (by omega) w
 by_cases k7 : r ≤ 255
 ·exact great71_6 r  (by omega) (by omega) w
 by_cases k9 : r ≤ 311
 ·by_cases hp : r % 2 = 0
  exact great71_7 r  (by omega) (by omega) hp w
  exact great71_8 r  (by omega) (by omega) (by omega) w
 by_cases k10 : r ≤ 312
 ·exact great71_9 r  (by omega) (by omega) w
 by_cases k12 : r ≤ 328
 ·by_cases hp : r % 2 = 0
  exact great71_10 r  (by omega) (by omega) hp w
  exact great71_11 r  (by omega) (by omega) (by omega) w
 by_cases k13 : r ≤ 329
 ·exact great71_12 r  (by omega) (by omega) w
 by_cases k15 : r ≤ 375
 ·by_cases hp : r % 2 = 0
  exact great71_13 r  (by omega) (by omega) hp w
  exact great71_14 r  (by omega) (by omega) (by omega) w
 by_cases k16 : r ≤ 376
 ·exact great71_15 r  (by omega) (by omega) w
 by_cases k18 : r ≤ 381
 ·by_cases hp : r % 2 = 0
  exact great71_16 r  (by omega) (by omega) hp w
  exact great71_17 r  (by omega) (by omega) (by omega) w
 by_cases k19 : r ≤ 901
 ·exact great71_18 r  (by omega) (by omega) w
 by_cases k20 : r ≤ 902
 ·exact great71_19 r  (by omega) (by omega) w
 by_cases k21 : r ≤ 903
 ·exact great71_20 r  (by omega) (by omega) w
 by_cases k22 : r ≤ 906
 ·exact great71_21 r  (by omega) (by omega) w
 by_cases k23 : r ≤ 907
 ·exact great71_22 r  (by omega) (by omega) w
 by_cases k24 : r ≤ 908
 ·exact great71_23 r  (by omega) (by omega) w
 by_cases k25 : r ≤ 909
 ·exact great71_24 r  (by omega) (by omega) w
 by_cases k26 : r ≤ 911
 ·exact great71_25 r  (by omega) (by omega) w
 by_cases k27 : r ≤ 912
 ·exact great71_26 r  (by omega) (by omega) w
 by_cases k28 : r ≤ 929
 ·exact great71_27 r  (by omega) (by omega) w
 by_cases k29 : r ≤ 930
 ·exact great71_28 r  (by omega) (by omega) w
 by_cases k30 : r ≤ 939
 ·exact great71_29 r  (by omega) (by omega) w
 by_cases k31 : r ≤ 1023
 ·exact great71_30 r  (by omega) (by omega) w
 by_cases k32 : r ≤ 1071
 ·exact great71_31 r  (by omega) (by omega) w
 exact great71_32 r  (by omega) (by omega) w
def Cx105 (r : Int) (w : World) : Prop := Calls Tryd.prog 105 #[.int .i32 r] w fun e w' => e = .returned (.bool (smallB r)) ∧ w = w'
theorem small105_0 (r : Int) (h1 : 0 ≤ r) (h2 : r ≤ 96) (w : World) : Cx105 r w := by
 unfold Cx105
 have := dgf r 97 (by omega)
 have := dgf r 223 (by omega)
 have := dgf r 256 (by omega)
 have := dgf r 330 (by omega)
 have := dgf r 313 (by omega)
 have := dgf r 378 (by omega)
 have := dgf r 940 (by omega)
 have := dgf r 1072 (by omega)
 have ⟨_, _, _, _⟩ := n4 r 312 329 383 912 (by omega)
 have hv : smallB r = false := decide_eq_false (by unfold SmallP; omega)
 rw [hv]
 go_enter Tryd.func105, Tryd.ntmps105
 go_wp2_with ((go_at_call 86; with_reducible refine cr (even86_any r (by omega) (by omega) _) ?_))
 go_ret
 exact ⟨rfl, rfl⟩
theorem small105_1 (r : Int) (h1 : 97 ≤ r) (h2 : r ≤ 122) (w : World) : Cx105 r w := by
 unfold Cx105
 have := dgt r 97 (by omega)
 have := dlt r 122 (by omega)
 have : (r != 247) = true := bne_true_of (by omega)
 have hv : smallB r = true := decide_eq_true (by unfold SmallP; omega)
 rw [hv]
 go_enter Tryd.func105, Tryd.ntmps105
 go_wp2_with ((go_at_call 86; with_reducible refine cr (even86_any r (by omega) (by omega) _) ?_))
 go_ret
 exact ⟨rfl, rfl⟩
theorem small105_2 (r : Int) (h1 : 123 ≤ r) (h2 : r ≤ 222) (w : World) : Cx105 r w := by
 unfold Cx105
 have := dgt r 97 (by omega)
 have := dlf r 122 (by omega)
 have := dgf r 223 (by omega)
 have := dgf r 256 (by omega)
 have := dgf r 330 (by omega)
 have := dgf r 313 (by omega)
 have := dgf r 378 (by omega)
 have := dgf r 940 (by omega)
 have := dgf r 1072 (by omega)
 have ⟨_, _, _, _⟩ := n4 r 312 329 383 912 (by omega)
 have hv : smallB r = false := decide_eq_false (by unfold SmallP; omega)
 rw [hv]
 go_enter Tryd.func105, Tryd.ntmps105
 go_wp2_with ((go_at_call 86; with_reducible refine cr (even86_any r (by omega) (by omega) _) ?_))
 go_ret
 exact ⟨rfl, rfl⟩
theorem small105_3 (r : Int) (h1 : 223 ≤ r) (h2 : r ≤ 246) (w : World) : Cx105 r w := by
 unfold Cx105
 have := dgt r 97 (by omega)
 have := dlf r 122 (by omega)
 have := dgt r 223 (by omega)
 have := dlt r 255 (by omega)
 have : (r != 247) = true := bne_true_of (by omega)
 have hv : smallB r = true := decide_eq_true (by unfold SmallP; omega)
 rw [hv]
 go_enter Tryd.func105, Tryd.ntmps105
 go_wp2_with ((go_at_call 86; with_reducible refine cr (even86_any r (by omega) (by omega) _) ?_))
 go_ret
 exact ⟨rfl, rfl⟩
theorem small105_4 (r : Int) (h1 : 247 ≤ r) (h2 : r ≤ 247) (w : World) : Cx105 r w := by
 unfold Cx105
 have := dgt r 97 (by omega)
 have := dlf r 122 (by omega)
 have := dgt r 223 (by omega)
 have := dlt r 255 (by omega)
 have : (r != 247) = false := bne_false_of (by omega)
 have hv : smallB r = false := decide_eq_false (by unfold SmallP; omega)
 rw [hv]
 go_enter Tryd.func105, Tryd.ntmps105
 go_wp2_with ((go_at_call 86; with_reducible refine cr (even86_any r (by omega) (by omega) _) ?_))
 go_ret
 exact ⟨rfl, rfl⟩
theorem small105_5 (r : Int) (h1 : 248 ≤ r) (h2 : r ≤ 255) (w : World) : Cx105 r w := by
 unfold Cx105
 have := dgt r 97 (by omega)
 have := dlf r 122 (by omega)
 have := dgt r 223 (by omega)
 have := dlt r 255 (by omega)
 have : (r != 247) = true := bne_true_of (by omega)
 have hv : smallB r = true := decide_eq_true (by unfold SmallP; omega)
 rw [hv]
 go_enter Tryd.func105, Tryd.ntmps105
 go_wp2_with ((go_at_call 86; with_reducible refine cr (even86_any r (by omega) (by omega) _) ?_))
 go_ret
 exact ⟨rfl, rfl⟩
theorem small105_6 (r : Int) (h1 : 256 ≤ r) (h2 : r ≤ 311) (hp : r % 2 = 0) (w : World) : Cx105 r w := by
 unfold Cx105
 have := dgt r 97 (by omega)
 have := dlf r 122 (by omega)
 have := dgt r 223 (by omega)
 have := dlf r 255 (by omega)
 have := dgt r 256 (by omega)
 have := dlt r 311 (by omega)
 have : evenB r = true := decide_eq_true (by omega)
 have hv : smallB r = false := decide_eq_false (by unfold SmallP; omega)
 rw [hv]
 go_enter Tryd.func105, Tryd.ntmps105
 go_wp2_with ((go_at_call 86; with_reducible refine cr (even86_any r (by omega) (by omega) _) ?_))
 go_ret
 exact ⟨rfl, rfl⟩
theorem small105_7 (r : Int) (h1 : 256 ≤ r) (h2 : r ≤ 311) (hp : r % 2 = 1) (w : World) : Cx105 r w := by
 unfold Cx105
 have := dgt r 97 (by omega)
 have := dlf r 122 (by omega)
 have := dgt r 223 (by omega)
 have := dlf r 255 (by omega)
 have := dgt r 256 (by omega)
 have := dlt r 311 (by omega)
 have : evenB r = false := decide_eq_false (by omega)
 have hv : smallB r = true := decide_eq_true (by unfold SmallP; omega)
 rw [hv]
 go_enter Tryd.func105, Tryd.ntmps105
 go_wp2_with ((go_at_call 86; with_reducible refine cr (even86_any r (by omega) (by omega) _) ?_))
 go_ret
 exact ⟨rfl, rfl⟩
theorem small105_8 (r : Int) (h1 : 312 ≤ r) (h2 : r ≤ 312) (w : World) : Cx105 r w := by
 unfold Cx105
 have := dgt r 97 (by omega)
 have := dlf r 122 (by omega)
 have := dgt r 223 (by omega)
 have := dlf r 255 (by omega)
 have := dgt r 256 (by omega)
 have := dlf r 311 (by omega)
 have := dgf r 330 (by omega)
 have : (r == 312) = true := beq_true_of (by omega)
 have hv : smallB r = true := decide_eq_true (by unfold SmallP; omega)
 rw [hv]
 go_enter Tryd.func105, Tryd.ntmps105
 go_wp2_with ((go_at_call 86; with_reducible refine cr (even86_any r (by omega) (by omega) _) ?_))
 go_ret
 exact ⟨rfl, rfl⟩
theorem small105_9 (r : Int) (h1 : 313 ≤ r) (h2 : r ≤ 328) (hp : r % 2 = 0) (w : World) : Cx105 r w := by
 unfold Cx105
 have := dgt r 97 (by omega)
 have := dlf r 122 (by omega)
 have := dgt r 223 (by omega)
 have := dlf r 255 (by omega)
 have := dgt r 256 (by omega)
 have := dlf r 311 (by omega)
 have := dgf r 330 (by omega)
 have := dgt r 313 (by omega)
 have := dlt r 328 (by omega)
 have : evenB r = true := decide_eq_true (by omega)
 have ⟨_, _, _, _⟩ := n4 r 312 329 383 912 (by omega)
 have hv : smallB r = true := decide_eq_true (by unfold SmallP; omega)
 rw [hv]
 go_enter Tryd.func105, Tryd.ntmps105
 go_wp2_with ((go_at_call 86; with_reducible refine cr (even86_any r (by omega) (by omega) _) ?_))
 go_ret
 exact ⟨rfl, rfl⟩
theorem small105_10 (r : Int) (h1 : 313 ≤ r) (h2 : r ≤ 328) (hp : r % 2 = 1) (w : World) : Cx105 r w := by
 unfold Cx105
 have := dgt r 97 (by omega)
 have := dlf r 122 (by omega)
 have := dgt r 223 (by omega)
 have := dlf r 255 (by omega)
 have := dgt r 256 (by omega)
 have := dlf r 311 (by omega)
 have := dgf r 330 (by omega)
 have := dgt r 313 (by omega)
 have := dlt r 328 (by omega)
 have : evenB r = false := decide_eq_false (by omega)
 have ⟨_, _, _, _⟩ := n4 r 312 329 383 912 (by omega)
 have hv : smallB r = false := decide_eq_false (by unfold SmallP; omega)
 rw [hv]
 go_enter Tryd.func105, Tryd.ntmps105
 go_wp2_with ((go_at_call 86; with_reducible refine cr (even86_any r (by omega) (by omega) _) ?_))
 go_ret
 exact ⟨rfl, rfl⟩
theorem small105_11 (r : Int) (h1 : 329 ≤ r) (h2 : r ≤ 329) (w : World) : Cx105 r w := by
 unfold Cx105
 have := dgt r 97 (by omega)
 have := dlf r 122 (by omega)
 have := dgt r 223 (by omega)
 have := dlf r 255 (by omega)
 have := dgt r 256 (by omega)
 have := dlf r 311 (by omega)
 have := dgf r 330 (by omega)
 have : (r == 329) = true := beq_true_of (by omega)
 have := n1 r 312 (by omega)
 have hv : smallB r = true := decide_eq_true (by unfold SmallP; omega)
 rw [hv]
 go_enter Tryd.func105, Tryd.ntmps105
 go_wp2_with ((go_at_call 86; with_reducible refine cr (even86_any r (by omega) (by omega) _) ?_))
 go_ret
 exact ⟨rfl, rfl⟩
theorem small105_12 (r : Int) (h1 : 330 ≤ r) (h2 : r ≤ 375) (hp : r % 2 = 0) (w : World) : Cx105 r w := by
 unfold Cx105
 have := dgt r 97 (by omega)
 have := dlf r 122 (by omega)
 have := dgt r 223 (by omega)
 have := dlf r 255 (by omega)
 have := dgt r 256 (by omega)
 have := dlf r 311 (by omega)
 have := dgt r 330 (by omega)
 have := dlt r 375 (by omega)
 have : evenB r = true := decide_eq_true (by omega)
 have hv : smallB r = false := decide_eq_false (by unfold SmallP; omega)
 rw [hv]
 go_enter Tryd.func105, Tryd.ntmps105
 go_wp2_with ((go_at_call 86; with_reducible refine cr (even86_any r (by omega) (by omega) _) ?_))
 go_ret
 exact ⟨rfl, rfl⟩
theorem small105_13 (r : Int) (h1 : 330 ≤ r) (h2 : r ≤ 375) (hp : r % 2 = 1) (w : World) : Cx105 r w := by
 unfold Cx105
 have := dgt r 97 (by omega)
 have := dlf r 122 (by omega)
 have := dgt r 223 (by omega)
 have := dlf r 255 (by omega)
 have := dgt r 256 (by omega)
 have := dlf r 311 (by omega)
 have := dgt r 330 (by omega)
 have := dlt r 375 (by omega)
 have : evenB r = false := decide_eq_false (by omega)
 have hv : smallB r = true := decide_eq_true (by unfold SmallP; omega)
 rw [hv]
 go_enter Tryd.func105, Tryd.ntmps105
 go_wp2_with ((go_at_call 86; with_reducible refine cr (even86_any r (by omega) (by omega) _) ?_))
 go_ret
 exact ⟨rfl, rfl⟩
theorem small105_14 (r : Int) (h1 : 376 ≤ r) (h2 : r ≤ 377) (w : World) : Cx105 r w := by
 unfold Cx105
 have := dgt r 97 (by omega)
 have := dlf r 122 (by omega)
 have := dgt r 223 (by omega)
 have := dlf r 255 (by omega)
 have := dgt r 256 (by omega)
 have := dlf r 311 (by omega)
 have := dgt r 330 (by omega)
 have := dlf r 375 (by omega)
 have := dgt r 313 (by omega)
 have := dlf r 328 (by omega)
 have := dgf r 378 (by omega)
 have := dgf r 940 (by omega)
 have := dgf r 1072 (by omega)
 have ⟨_, _, _, _⟩ := n4 r 312 329 383 912 (by omega)
 have hv : smallB r = false := decide_eq_false (by unfold SmallP; omega)
 rw [hv]
 go_enter Tryd.func105, Tryd.ntmps105
 go_wp2_with ((go_at_call 86; with_reducible refine cr (even86_any r (by omega) (by omega) _) ?_))
 go_ret
 exact ⟨rfl, rfl⟩
theorem small105_15 (r : Int) (h1 : 378 ≤ r) (h2 : r ≤ 382) (hp : r % 2 = 0) (w : World) : Cx105 r w := by
 unfold Cx105
 have := dgt r 97 (by omega)
 have := dlf r 122 (by omega)
 have := dgt r 223 (by omega)
 have := dlf r 255 (by omega)
 have := dgt r 256 (by omega)
 have := dlf r 311 (by omega)
 have := dgt r 330 (by omega)
 have := dlf r 375 (by omega)
 have := dgt r 313 (by omega)
 have := dlf r 328 (by omega)
 have := dgt r 378 (by omega)
 have := dlt r 382 (by omega)
 have : evenB r = true := decide_eq_true (by omega)
 have ⟨_, _, _, _⟩ := n4 r 312 329 383 912 (by omega)
 have hv : smallB r = true := decide_eq_true (by unfold SmallP; omega)
 rw [hv]
 go_enter Tryd.func105, Tryd.ntmps105
 go_wp2_with ((go_at_call 86; with_reducible refine cr (even86_any r (by omega) (by omega) _) ?_))
 go_ret
 exact ⟨rfl, rfl⟩
theorem small105_16 (r : Int) (h1 : 378 ≤ r) (h2 : r ≤ 382) (hp : r % 2 = 1) (w : World) : Cx105 r w := by
 unfold Cx105
 have := dgt r 97 (by omega)
 have := dlf r 122 (by omega)
 have := dgt r 223 (by omega)
 have := dlf r 255 (by omega)
 have := dgt r 256 (by omega)
 have := dlf r 311 (by omega)
 have := dgt r 330 (by omega)
 have := dlf r 375 (by omega)
 have := dgt r 313 (by omega)
 have := dlf r 328 (by omega)
 have := dgt r 378 (by omega)
 have := dlt r 382 (by omega)
 have : evenB r = false := decide_eq_false (by omega)
 have ⟨_, _, _, _⟩ := n4 r 312 329 383 912 (by omega)
 have hv : smallB r = false := decide_eq_false (by unfold SmallP; omega)
 rw [hv]
 go_enter Tryd.func105, Tryd.ntmps105
 go_wp2_with ((go_at_call 86; with_reducible refine cr (even86_any r (by omega) (by omega) _) ?_))
 go_ret
 exact ⟨rfl, rfl⟩
theorem small105_17 (r : Int) (h1 : 383 ≤ r) (h2 : r ≤ 383) (w : World) : Cx105 r w := by
 unfold Cx105
 have := dgt r 97 (by omega)
 have := dlf r 122 (by omega)
 have := dgt r 223 (by omega)
 have := dlf r 255 (by omega)
 have := dgt r 256 (by omega)
 have := dlf r 311 (by omega)
 have := dgt r 330 (by omega)
 have := dlf r 375 (by omega)
 have : (r == 383) = true := beq_true_of (by omega)
 have ⟨_, _⟩ := n2 r 312 329 (by omega)
 have hv : smallB r = true := decide_eq_true (by unfold SmallP; omega)
 rw [hv]
 go_enter Tryd.func105, Tryd.ntmps105
 go_wp2_with ((go_at_call 86; with_reducible refine cr (even86_any r (by omega) (by omega) _) ?_))
 go_ret
 exact ⟨rfl, rfl⟩
theorem small105_18 (r : Int) (h1 : 384 ≤ r) (h2 : r ≤ 911) (w : World) : Cx105 r w := by
 unfold Cx105
 have := dgt r 97 (by omega)
 have := dlf r 122 (by omega)
 have := dgt r 223 (by omega)
 have := dlf r 255 (by omega)
 have := dgt r 256 (by omega)
 have := dlf r 311 (by omega)
 have := dgt r 330 (by omega)
 have := dlf r 375 (by omega)
 have := dgt r 313 (by omega)
 have := dlf r 328 (by omega)
 have := dgt r 378 (by omega)
 have := dlf r 382 (by omega)
 have := dgf r 940 (by omega)
 have := dgf r 1072 (by omega)
 have ⟨_, _, _, _⟩ := n4 r 312 329 383 912 (by omega)
 have hv : smallB r = false := decide_eq_false (by unfold SmallP; omega)
 rw [hv]
 go_enter Tryd.func105, Tryd.ntmps105
 go_wp2_with ((go_at_call 86; with_reducible refine cr (even86_any r (by omega) (by omega) _) ?_))
 go_ret
 exact ⟨rfl, rfl⟩
theorem small105_19 (r : Int) (h1 : 912 ≤ r) (h2 : r ≤ 912) (w : World) : Cx105 r w := by
 unfold Cx105
 have := dgt r 97 (by omega)
 have := dlf r 122 (by omega)
 have := dgt r 223 (by omega)
 have := dlf r 255 (by omega)
 have := dgt r 256 (by omega)
 have := dlf r 311 (by omega)
 have := dgt r 330 (by omega)
 have := dlf r 375 (by omega)
 have : (r == 912) = true := beq_true_of (by omega)
 have ⟨_, _, _⟩ := n3 r 312 329 383 (by omega)
 have hv : smallB r = true := decide_eq_true (by unfold SmallP; omega)
 rw [hv]
 go_enter Tryd.func105, Tryd.ntmps105
 go_wp2_with ((go_at_call 86; with_reducible refine cr (even86_any r (by omega) (by omega) _) ?_))
 go_ret
 exact ⟨rfl, rfl⟩
theorem small105_20 (r : Int) (h1 : 913 ≤ r) (h2 : r ≤ 939) (w : World) : Cx105 r w := by
 unfold Cx105
 have := dgt r 97 (by omega)
 have := dlf r 122 (by omega)
 have := dgt r 223 (by omega)
 have := dlf r 255 (by omega)
 have := dgt r 256 (by omega)
 have := dlf r 311 (by omega)
 have := dgt r 330 (by omega)
 have := dlf r 375 (by omega)
 have := dgt r 313 (by omega)
 have := dlf r 328 (by omega)
 have := dgt r 378 (by omega)
 have := dlf r 382 (by omega)
 have := dgf r 940 (by omega)
 have := dgf r 1072 (by omega)
 have ⟨_, _, _, _⟩ := n4 r 312 329 383 912 (by omega)
 have hv : smallB r = false := decide_eq_false (by unfold SmallP; omega)
 rw [hv]
 go_enter Tryd.func105, Tryd.ntmps105
 go_wp2_with ((go_at_call 86; with_reducible refine cr (even86_any r (by omega) (by omega) _) ?_))
 go_ret
 exact ⟨rfl, rfl⟩
theorem small105_21 (r : Int) (h1 : 940 ≤ r) (h2 : r ≤ 974) (w : World) : Cx105 r w := by
 unfold Cx105
 have := dgt r 97 (by omega)
 have := dlf r 122 (by omega)
 have := dgt r 223 (by omega)
 have := dlf r 255 (by omega)
 have := dgt r 256 (by omega)
 have := dlf r 311 (by omega)
 have := dgt r 330 (by omega)
 have := dlf r 375 (by omega)
 have := dgt r 313 (by omega)
 have := dlf r 328 (by omega)
 have := dgt r 378 (by omega)
 have := dlf r 382 (by omega)
 have := dgt r 940 (by omega)
 have := dlt r 974 (by omega)
 have ⟨_, _, _, _⟩ := n4 r 312 329 383 912 (by omega)
 have hv : smallB r = true := decide_eq_true (by unfold SmallP; omega)
 rw [hv]
 go_enter Tryd.func105, Tryd.ntmps105
 go_wp2_with ((go_at_call 86; with_reducible refine cr (even86_any r (by omega) (by omega) _) ?_))
 go_ret
 exact ⟨rfl, rfl⟩
theorem small105_22 (r : Int) (h1 : 975 ≤ r) (h2 : r ≤ 1071) (w : World) : Cx105 r w := by
 unfold Cx105
 have := dgt r 97 (by omega)
 have := dlf r 122 (by omega)
 have := dgt r 223 (by omega)
 have := dlf r 255 (by omega)
 have := dgt r 256 (by omega)
 have := dlf r 311 (by omega)
 have := dgt r 330 (by omega)
 have := dlf r 375 (by omega)
 have := dgt r 313 (by omega)
 have := dlf r 328 (by omega)
 have := dgt r 378 (by omega)
 have := dlf r 382 (by omega)
 have := dgt r 940 (by omega)
 have := dlf r 974 (by omega)
 have := dgf r 1072 (by omega)
 have ⟨_, _, _, _⟩ := n4 r 312 329 383 912 (by omega)
 have hv : smallB r = false := decide_eq_false (by unfold SmallP; omega)
 rw [hv]
 go_enter Tryd.func105, Tryd.ntmps105
 go_wp2_with ((go_at_call 86; with_reducible refine cr (even86_any r (by omega) (by omega) _) ?_))
 go_ret
 exact ⟨rfl, rfl⟩
theorem small105_23 (r : Int) (h1 : 1072 ≤ r) (h2 : r ≤ 1119) (w : World) : Cx105 r w := by
 unfold Cx105
 have := dgt r 97 (by omega)
 have := dlf r 122 (by omega)
 have := dgt r 223 (by omega)
 have := dlf r 255 (by omega)
 have := dgt r 256 (by omega)
 have := dlf r 311 (by omega)
 have := dgt r 330 (by omega)
 have := dlf r 375 (by omega)
 have := dgt r 313 (by omega)
 have := dlf r 328 (by omega)
 have := dgt r 378 (by omega)
 have := dlf r 382 (by omega)
 have := dgt r 940 (by omega)
 have := dlf r 974 (by omega)
 have := dgt r 1072 (by omega)
 have := dlt r 1119 (by omega)
 have ⟨_, _, _, _⟩ := n4 r 312 329 383 912 (by omega)
 have hv : smallB r = true := decide_eq_true (by unfold SmallP; omega)
 rw [hv]
 go_enter Tryd.func105, Tryd.ntmps105
 go_wp2_with ((go_at_call 86; with_reducible refine cr (even86_any r (by omega) (by omega) _) ?_))
 go_ret
 exact ⟨rfl, rfl⟩
theorem small105_24 (r : Int) (h1 : 1120 ≤ r) (h2 : r ≤ 1114111) (w : World) : Cx105 r w := by
 unfold Cx105
 have := dgt r 97 (by omega)
 have := dlf r 122 (by omega)
 have := dgt r 223 (by omega)
 have := dlf r 255 (by omega)
 have := dgt r 256 (by omega)
 have := dlf r 311 (by omega)
 have := dgt r 330 (by omega)
 have := dlf r 375 (by omega)
 have := dgt r 313 (by omega)
 have := dlf r 328 (by omega)
 have := dgt r 378 (by omega)
 have := dlf r 382 (by omega)
 have := dgt r 940 (by omega)
 have := dlf r 974 (by omega)
 have := dgt r 1072 (by omega)
 have := dlf r 1119 (by omega)
 have ⟨_, _, _, _⟩ := n4 r 312 329 383 912 (by omega)
 have hv : smallB r = false := decide_eq_false (by unfold SmallP; omega)
 rw [hv]
 go_enter Tryd.func105, Tryd.ntmps105
 go_wp2_with ((go_at_call 86; with_reducible refine cr (even86_any r (by omega) (by omega) _) ?_))
 go_ret
 exact ⟨rfl, rfl⟩
theorem small105 (r : Int) (h0 : 0 ≤ r) (h9 : r ≤ 1114111) (w : World) : Calls Tryd.prog 105 #[.int .i32 r] w fun e w' => e = .returned (.bool (smallB r)) ∧ w = w' := by
 by_cases k1 : r ≤ 96
 ·exact small105_0 r  (by omega) (by omega) w
 by_cases k2 : r ≤ 122
 ·exact small105_1 r  (by omega) (by omega) w
 by_cases k3 : r ≤ 222
 ·exact small105_2 r  (by omega) (by omega) w
 by_cases k4 : r ≤ 246
 ·exact small105_3 r  (by omega) (by omega) w
 by_cases k5 : r ≤ 247
 ·exact small105_4 r  (by omega) (by omega) w
 by_cases k6 : r ≤ 255
 ·exact small105_5 r  (by omega) (by omega) w
 by_cases k8 : r ≤ 311
 ·by_cases hp : r % 2 = 0
  exact small105_6 r  (by omega) (by omega) hp w
  exact small105_7 r  (by omega) (by omega) (by omega) w
 by_cases k9 : r ≤ 312
 ·exact small105_8 r  (by omega) (by omega) w
 by_cases k11 : r ≤ 328
 ·by_cases hp : r % 2 = 0
  exact small105_9 r  (by omega) (by omega) hp w
  exact small105_10 r  (by omega) (by omega) (by omega) w
 by_cases k12 : r ≤ 329
 ·exact small105_11 r  (by omega) (by omega) w
 by_cases k14 : r ≤ 375
 ·by_cases hp : r % 2 = 0
  exact small105_12 r  (by omega) (by omega) hp w
  exact small105_13 r  (by omega) (by omega) (by omega) w
 by_cases k15 : r ≤ 377
 ·exact small105_14 r  (by omega) (by omega) w
 by_cases k17 : r ≤ 382
 ·by_cases hp : r % 2 = 0
  exact small105_15 r  (by omega) (by omega) hp w
  exact small105_16 r  (by omega) (by omega) (by omega) w
 by_cases k18 : r ≤ 383
 ·exact small105_17 r  (by omega) (by omega) w
 by_cases k19 : r ≤ 911
 ·exact small105_18 r  (by omega) (by omega) w
 by_cases k20 : r ≤ 912
 ·exact small105_19 r  (by omega) (by omega) w
 by_cases k21 : r ≤ 939
 ·exact small105_20 r  (by omega) (by omega) w
 by_cases k22 : r ≤ 974
 ·exact small105_21 r  (by omega) (by omega) w
 by_cases k23 : r ≤ 1071
 ·exact small105_22 r  (by omega) (by omega) w
 by_cases k24 : r ≤ 1119
 ·exact small105_23 r  (by omega) (by omega) w
 exact small105_24 r  (by omega) (by omega) w
theorem letter93 (r : Int) (h0 : 0 ≤ r) (h9 : r ≤ 1114111) (w : World) : Calls Tryd.prog 93 #[.int .i32 r] w fun e w' => e = .returned (.bool (greatB r || smallB r)) ∧ w = w' := by
 have hG := hid (fun w => great71 r h0 h9 w)
 have hS := hid (fun w => small105 r h0 h9 w)
 cases hb : greatB r
 all_goals
  rw [hb] at hG
  go_enter Tryd.func93, Tryd.ntmps93
  go_wp2_with (first | (go_at_call 71; with_reducible refine cr (hG.out _) ?_) | (go_at_call 105; with_reducible refine cr (hS.out _) ?_))
  go_ret
  exact ⟨rfl, rfl⟩
end Go.Proofs.YtieifhfgedoiaaaDoor
