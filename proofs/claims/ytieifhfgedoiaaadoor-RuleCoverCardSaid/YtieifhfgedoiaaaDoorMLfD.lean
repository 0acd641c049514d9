/- Lower. Conditions: those of each theorem. -/
import Derived.Test.YtieifhfgedoiaaaDoorMLfB
namespace Go.Proofs.YtieifhfgedoiaaaDoor
open Go.RowKit Go.Lib
set_option linter.unusedVariables false
set_option linter.unusedSimpArgs false

theorem lower54_n (r : Int) (hg : ¬ GreatP r) (h0 : 0 ≤ r) (h9 : r ≤ 1114111) (w : World) : Calls Tryd.prog 54 #[.int .i32 r] w fun e w' => e = .returned (.int .i32 (lowI r)) ∧ w = w' := by
 have hG := hid (fun w => great71 r h0 h9 w)
 rw [show greatB r = false from decide_eq_false hg] at hG
 have hv : lowI r = r := by unfold lowI; rw [if_pos hg]
 rw [hv]
 go_enter Tryd.func54, Tryd.ntmps54
 go_wp2_with (go_at_call 71; with_reducible refine cr (hG.out _) ?_)
 go_ret
 exact ⟨rfl, rfl⟩
def Cx54 (r : Int) (w : World) : Prop := Calls Tryd.prog 54 #[.int .i32 r] w fun e w' => e = .returned (.int .i32 (lowI r)) ∧ w = w'
theorem lower54_g_0 (r : Int) (hg : GreatP r) (h1 : 65 ≤ r) (h2 : r ≤ 255) (w : World) : Cx54 r w := by
 unfold Cx54
 have : greatB r = true := decide_eq_true hg
 have := dgf r 904 (by omega)
 have := dgf r 1024 (by omega)
 have := dmt r 256 (by omega)
 have ⟨_, _, _, _, _, _⟩ := n6 r 304 376 902 908 910 911 (by omega)
 have hv : lowI r = r + 32 := by unfold lowI; rw [if_neg (fun h => h hg)]; (repeat' split) <;> first | rfl | omega | (exfalso; unfold GreatP at hg; omega)
 have hwr : wrap32 (r + 32) = r + 32 := by unfold wrap32; omega
 rw [hv]
 go_enter Tryd.func54, Tryd.ntmps54
 go_wp2_with ((go_at_call 71; with_reducible refine cr (great71 r (by omega) (by omega) _) ?_))
 go_ret
 exact ⟨by first | rfl | rw [hwr], rfl⟩
theorem lower54_g_1 (r : Int) (hg : GreatP r) (h1 : 256 ≤ r) (h2 : r ≤ 303) (w : World) : Cx54 r w := by
 unfold Cx54
 have : greatB r = true := decide_eq_true hg
 have := dgf r 904 (by omega)
 have := dgf r 1024 (by omega)
 have := dmf r 256 (by omega)
 have := dnf r 383 (by omega)
 have ⟨_, _, _, _, _, _⟩ := n6 r 304 376 902 908 910 911 (by omega)
 have hv : lowI r = r + 1 := by unfold lowI; rw [if_neg (fun h => h hg)]; (repeat' split) <;> first | rfl | omega | (exfalso; unfold GreatP at hg; omega)
 have hwr : wrap32 (r + 1) = r + 1 := by unfold wrap32; omega
 rw [hv]
 go_enter Tryd.func54, Tryd.ntmps54
 go_wp2_with ((go_at_call 71; with_reducible refine cr (great71 r (by omega) (by omega) _) ?_))
 go_ret
 exact ⟨by first | rfl | rw [hwr], rfl⟩
theorem lower54_g_2 (r : Int) (hg : GreatP r) (h1 : 304 ≤ r) (h2 : r ≤ 304) (w : World) : Cx54 r w := by
 unfold Cx54
 have : greatB r = true := decide_eq_true hg
 have : (r == 304) = true := beq_true_of (by omega)
 have hv : lowI r = 105 := by unfold lowI; rw [if_neg (fun h => h hg)]; (repeat' split) <;> first | rfl | omega | (exfalso; unfold GreatP at hg; omega)
 rw [hv]
 go_enter Tryd.func54, Tryd.ntmps54
 go_wp2_with ((go_at_call 71; with_reducible refine cr (great71 r (by omega) (by omega) _) ?_))
 go_ret
 exact ⟨rfl, rfl⟩
theorem lower54_g_3 (r : Int) (hg : GreatP r) (h1 : 305 ≤ r) (h2 : r ≤ 375) (w : World) : Cx54 r w := by
 unfold Cx54
 have : greatB r = true := decide_eq_true hg
 have := dgf r 904 (by omega)
 have := dgf r 1024 (by omega)
 have := dmf r 256 (by omega)
 have := dnf r 383 (by omega)
 have ⟨_, _, _, _, _, _⟩ := n6 r 304 376 902 908 910 911 (by omega)
 have hv : lowI r = r + 1 := by unfold lowI; rw [if_neg (fun h => h hg)]; (repeat' split) <;> first | rfl | omega | (exfalso; unfold GreatP at hg; omega)
 have hwr : wrap32 (r + 1) = r + 1 := by unfold wrap32; omega
 rw [hv]
 go_enter Tryd.func54, Tryd.ntmps54
 go_wp2_with ((go_at_call 71; with_reducible refine cr (great71 r (by omega) (by omega) _) ?_))
 go_ret
 exact ⟨by first | rfl | rw [hwr], rfl⟩
theorem lower54_g_4 (r : Int) (hg : GreatP r) (h1 : 376 ≤ r) (h2 : r ≤ 376) (w : World) : Cx54 r w := by
 unfold Cx54
 have : greatB r = true := decide_eq_true hg
 have : (r == 376) = true := beq_true_of (by omega)
 have := n1 r 304 (by omega)
 have hv : lowI r = 255 := by unfold lowI; rw [if_neg (fun h => h hg)]; (repeat' split) <;> first | rfl | omega | (exfalso; unfold GreatP at hg; omega)
 rw [hv]
 go_enter Tryd.func54, Tryd.ntmps54
 go_wp2_with ((go_at_call 71; with_reducible refine cr (great71 r (by omega) (by omega) _) ?_))
 go_ret
 exact ⟨rfl, rfl⟩
theorem lower54_g_5 (r : Int) (hg : GreatP r) (h1 : 377 ≤ r) (h2 : r ≤ 383) (w : World) : Cx54 r w := by
 unfold Cx54
 have : greatB r = true := decide_eq_true hg
 have := dgf r 904 (by omega)
 have := dgf r 1024 (by omega)
 have := dmf r 256 (by omega)
 have := dnf r 383 (by omega)
 have ⟨_, _, _, _, _, _⟩ := n6 r 304 376 902 908 910 911 (by omega)
 have hv : lowI r = r + 1 := by unfold lowI; rw [if_neg (fun h => h hg)]; (repeat' split) <;> first | rfl | omega | (exfalso; unfold GreatP at hg; omega)
 have hwr : wrap32 (r + 1) = r + 1 := by unfold wrap32; omega
 rw [hv]
 go_enter Tryd.func54, Tryd.ntmps54
 go_wp2_with ((go_at_call 71; with_reducible refine cr (great71 r (by omega) (by omega) _) ?_))
 go_ret
 exact ⟨by first | rfl | rw [hwr], rfl⟩
theorem lower54_g_6 (r : Int) (hg : GreatP r) (h1 : 384 ≤ r) (h2 : r ≤ 901) (w : World) : Cx54 r w := by
 unfold Cx54
 have : greatB r = true := decide_eq_true hg
 have := dgf r 904 (by omega)
 have := dgf r 1024 (by omega)
 have := dmf r 256 (by omega)
 have := dnt r 383 (by omega)
 have ⟨_, _, _, _, _, _⟩ := n6 r 304 376 902 908 910 911 (by omega)
 have hv : lowI r = r + 32 := by unfold lowI; rw [if_neg (fun h => h hg)]; (repeat' split) <;> first | rfl | omega | (exfalso; unfold GreatP at hg; omega)
 have hwr : wrap32 (r + 32) = r + 32 := by unfold wrap32; omega
 rw [hv]
 go_enter Tryd.func54, Tryd.ntmps54
 go_wp2_with ((go_at_call 71; with_reducible refine cr (great71 r (by omega) (by omega) _) ?_))
 go_ret
 exact ⟨by first | rfl | rw [hwr], rfl⟩
theorem lower54_g_7 (r : Int) (hg : GreatP r) (h1 : 902 ≤ r) (h2 : r ≤ 902) (w : World) : Cx54 r w := by
 unfold Cx54
 have : greatB r = true := decide_eq_true hg
 have : (r == 902) = true := beq_true_of (by omega)
 have ⟨_, _⟩ := n2 r 304 376 (by omega)
 have hv : lowI r = 940 := by unfold lowI; rw [if_neg (fun h => h hg)]; (repeat' split) <;> first | rfl | omega | (exfalso; unfold GreatP at hg; omega)
 rw [hv]
 go_enter Tryd.func54, Tryd.ntmps54
 go_wp2_with ((go_at_call 71; with_reducible refine cr (great71 r (by omega) (by omega) _) ?_))
 go_ret
 exact ⟨rfl, rfl⟩
theorem lower54_g_8 (r : Int) (hg : GreatP r) (h1 : 903 ≤ r) (h2 : r ≤ 903) (w : World) : Cx54 r w := by
 unfold Cx54
 have : greatB r = true := decide_eq_true hg
 have := dgf r 904 (by omega)
 have := dgf r 1024 (by omega)
 have := dmf r 256 (by omega)
 have := dnt r 383 (by omega)
 have ⟨_, _, _, _, _, _⟩ := n6 r 304 376 902 908 910 911 (by omega)
 have hv : lowI r = r + 32 := by unfold lowI; rw [if_neg (fun h => h hg)]; (repeat' split) <;> first | rfl | omega | (exfalso; unfold GreatP at hg; omega)
 have hwr : wrap32 (r + 32) = r + 32 := by unfold wrap32; omega
 rw [hv]
 go_enter Tryd.func54, Tryd.ntmps54
 go_wp2_with ((go_at_call 71; with_reducible refine cr (great71 r (by omega) (by omega) _) ?_))
 go_ret
 exact ⟨by first | rfl | rw [hwr], rfl⟩
theorem lower54_g_9 (r : Int) (hg : GreatP r) (h1 : 904 ≤ r) (h2 : r ≤ 906) (w : World) : Cx54 r w := by
 unfold Cx54
 have : greatB r = true := decide_eq_true hg
 have := dgt r 904 (by omega)
 have := dlt r 906 (by omega)
 have ⟨_, _, _, _⟩ := n4 r 304 376 902 908 (by omega)
 have hv : lowI r = r + 37 := by unfold lowI; rw [if_neg (fun h => h hg)]; (repeat' split) <;> first | rfl | omega | (exfalso; unfold GreatP at hg; omega)
 have hwr : wrap32 (r + 37) = r + 37 := by unfold wrap32; omega
 rw [hv]
 go_enter Tryd.func54, Tryd.ntmps54
 go_wp2_with ((go_at_call 71; with_reducible refine cr (great71 r (by omega) (by omega) _) ?_))
 go_ret
 exact ⟨by first | rfl | rw [hwr], rfl⟩
theorem lower54_g_10 (r : Int) (hg : GreatP r) (h1 : 907 ≤ r) (h2 : r ≤ 907) (w : World) : Cx54 r w := by
 unfold Cx54
 have : greatB r = true := decide_eq_true hg
 have := dgt r 904 (by omega)
 have := dlf r 906 (by omega)
 have := dgf r 1024 (by omega)
 have := dmf r 256 (by omega)
 have := dnt r 383 (by omega)
 have ⟨_, _, _, _, _, _⟩ := n6 r 304 376 902 908 910 911 (by omega)
 have hv : lowI r = r + 32 := by unfold lowI; rw [if_neg (fun h => h hg)]; (repeat' split) <;> first | rfl | omega | (exfalso; unfold GreatP at hg; omega)
 have hwr : wrap32 (r + 32) = r + 32 := by unfold wrap32; omega
 rw [hv]
 go_enter Tryd.func54, Tryd.ntmps54
 go_wp2_with ((go_at_call 71; with_reducible refine cr (great71 r (by omega) (by omega) _) ?_))
 go_ret
 exact ⟨by first | rfl | rw [hwr], rfl⟩
theorem lower54_g_11 (r : Int) (hg : GreatP r) (h1 : 908 ≤ r) (h2 : r ≤ 908) (w : World) : Cx54 r w := by
 unfold Cx54
 have : greatB r = true := decide_eq_true hg
 have : (r == 908) = true := beq_true_of (by omega)
 have ⟨_, _, _⟩ := n3 r 304 376 902 (by omega)
 have hv : lowI r = 972 := by unfold lowI; rw [if_neg (fun h => h hg)]; (repeat' split) <;> first | rfl | omega | (exfalso; unfold GreatP at hg; omega)
 rw [hv]
 go_enter Tryd.func54, Tryd.ntmps54
 go_wp2_with ((go_at_call 71; with_reducible refine cr (great71 r (by omega) (by omega) _) ?_))
 go_ret
 exact ⟨rfl, rfl⟩
theorem lower54_g_12 (r : Int) (hg : GreatP r) (h1 : 909 ≤ r) (h2 : r ≤ 909) (w : World) : Cx54 r w := by
 unfold Cx54
 have : greatB r = true := decide_eq_true hg
 have := dgt r 904 (by omega)
 have := dlf r 906 (by omega)
 have := dgf r 1024 (by omega)
 have := dmf r 256 (by omega)
 have := dnt r 383 (by omega)
 have ⟨_, _, _, _, _, _⟩ := n6 r 304 376 902 908 910 911 (by omega)
 have hv : lowI r = r + 32 := by unfold lowI; rw [if_neg (fun h => h hg)]; (repeat' split) <;> first | rfl | omega | (exfalso; unfold GreatP at hg; omega)
 have hwr : wrap32 (r + 32) = r + 32 := by unfold wrap32; omega
 rw [hv]
 go_enter Tryd.func54, Tryd.ntmps54
 go_wp2_with ((go_at_call 71; with_reducible refine cr (great71 r (by omega) (by omega) _) ?_))
 go_ret
 exact ⟨by first | rfl | rw [hwr], rfl⟩
theorem lower54_g_13 (r : Int) (hg : GreatP r) (h1 : 910 ≤ r) (h2 : r ≤ 910) (w : World) : Cx54 r w := by
 unfold Cx54
 have : greatB r = true := decide_eq_true hg
 have := dgt r 904 (by omega)
 have := dlf r 906 (by omega)
 have : (r == 910) = true := beq_true_of (by omega)
 have ⟨_, _, _, _⟩ := n4 r 304 376 902 908 (by omega)
 have hv : lowI r = r + 63 := by unfold lowI; rw [if_neg (fun h => h hg)]; (repeat' split) <;> first | rfl | omega | (exfalso; unfold GreatP at hg; omega)
 have hwr : wrap32 (r + 63) = r + 63 := by unfold wrap32; omega
 rw [hv]
 go_enter Tryd.func54, Tryd.ntmps54
 go_wp2_with ((go_at_call 71; with_reducible refine cr (great71 r (by omega) (by omega) _) ?_))
 go_ret
 exact ⟨by first | rfl | rw [hwr], rfl⟩
theorem lower54_g_14 (r : Int) (hg : GreatP r) (h1 : 911 ≤ r) (h2 : r ≤ 911) (w : World) : Cx54 r w := by
 unfold Cx54
 have : greatB r = true := decide_eq_true hg
 have := dgt r 904 (by omega)
 have := dlf r 906 (by omega)
 have : (r == 911) = true := beq_true_of (by omega)
 have ⟨_, _, _, _, _⟩ := n5 r 304 376 902 908 910 (by omega)
 have hv : lowI r = r + 63 := by unfold lowI; rw [if_neg (fun h => h hg)]; (repeat' split) <;> first | rfl | omega | (exfalso; unfold GreatP at hg; omega)
 have hwr : wrap32 (r + 63) = r + 63 := by unfold wrap32; omega
 rw [hv]
 go_enter Tryd.func54, Tryd.ntmps54
 go_wp2_with ((go_at_call 71; with_reducible refine cr (great71 r (by omega) (by omega) _) ?_))
 go_ret
 exact ⟨by first | rfl | rw [hwr], rfl⟩
theorem lower54_g_15 (r : Int) (hg : GreatP r) (h1 : 912 ≤ r) (h2 : r ≤ 1023) (w : World) : Cx54 r w := by
 unfold Cx54
 have : greatB r = true := decide_eq_true hg
 have := dgt r 904 (by omega)
 have := dlf r 906 (by omega)
 have := dgf r 1024 (by omega)
 have := dmf r 256 (by omega)
 have := dnt r 383 (by omega)
 have ⟨_, _, _, _, _, _⟩ := n6 r 304 376 902 908 910 911 (by omega)
 have hv : lowI r = r + 32 := by unfold lowI; rw [if_neg (fun h => h hg)]; (repeat' split) <;> first | rfl | omega | (exfalso; unfold GreatP at hg; omega)
 have hwr : wrap32 (r + 32) = r + 32 := by unfold wrap32; omega
 rw [hv]
 go_enter Tryd.func54, Tryd.ntmps54
 go_wp2_with ((go_at_call 71; with_reducible refine cr (great71 r (by omega) (by omega) _) ?_))
 go_ret
 exact ⟨by first | rfl | rw [hwr], rfl⟩
theorem lower54_g_16 (r : Int) (hg : GreatP r) (h1 : 1024 ≤ r) (h2 : r ≤ 1039) (w : World) : Cx54 r w := by
 unfold Cx54
 have : greatB r = true := decide_eq_true hg
 have := dgt r 904 (by omega)
 have := dlf r 906 (by omega)
 have := dgt r 1024 (by omega)
 have := dlt r 1039 (by omega)
 have ⟨_, _, _, _, _, _⟩ := n6 r 304 376 902 908 910 911 (by omega)
 have hv : lowI r = r + 80 := by unfold lowI; rw [if_neg (fun h => h hg)]; (repeat' split) <;> first | rfl | omega | (exfalso; unfold GreatP at hg; omega)
 have hwr : wrap32 (r + 80) = r + 80 := by unfold wrap32; omega
 rw [hv]
 go_enter Tryd.func54, Tryd.ntmps54
 go_wp2_with ((go_at_call 71; with_reducible refine cr (great71 r (by omega) (by omega) _) ?_))
 go_ret
 exact ⟨by first | rfl | rw [hwr], rfl⟩
theorem lower54_g_17 (r : Int) (hg : GreatP r) (h1 : 1040 ≤ r) (h2 : r ≤ 1071) (w : World) : Cx54 r w := by
 unfold Cx54
 have : greatB r = true := decide_eq_true hg
 have := dgt r 904 (by omega)
 have := dlf r 906 (by omega)
 have := dgt r 1024 (by omega)
 have := dlf r 1039 (by omega)
 have := dmf r 256 (by omega)
 have := dnt r 383 (by omega)
 have ⟨_, _, _, _, _, _⟩ := n6 r 304 376 902 908 910 911 (by omega)
 have hv : lowI r = r + 32 := by unfold lowI; rw [if_neg (fun h => h hg)]; (repeat' split) <;> first | rfl | omega | (exfalso; unfold GreatP at hg; omega)
 have hwr : wrap32 (r + 32) = r + 32 := by unfold wrap32; omega
 rw [hv]
 go_enter Tryd.func54, Tryd.ntmps54
 go_wp2_with ((go_at_call 71; with_reducible refine cr (great71 r (by omega) (by omega) _) ?_))
 go_ret
 exact ⟨by first | rfl | rw [hwr], rfl⟩
theorem lower54_g (r : Int) (hg : GreatP r) (h0 : 65 ≤ r) (h9 : r ≤ 1071) (w : World) : Calls Tryd.prog 54 #[.int .i32 r] w fun e w' => e = .returned (.int .i32 (lowI r)) ∧ w = w' := by
 by_cases k1 : r ≤ 255
 ·exact lower54_g_0 r hg (by omega) (by omega) w
 by_cases k2 : r ≤ 303
 ·exact lower54_g_1 r hg (by omega) (by omega) w
 by_cases k3 : r ≤ 304
 ·exact lower54_g_2 r hg (by omega) (by omega) w
 by_cases k4 : r ≤ 375
 ·exact lower54_g_3 r hg (by omega) (by omega) w
 by_cases k5 : r ≤ 376
 ·exact lower54_g_4 r hg (by omega) (by omega) w
 by_cases k6 : r ≤ 383
 ·exact lower54_g_5 r hg (by omega) (by omega) w
 by_cases k7 : r ≤ 901
 ·exact lower54_g_6 r hg (by omega) (by omega) w
 by_cases k8 : r ≤ 902
 ·exact lower54_g_7 r hg (by omega) (by omega) w
 by_cases k9 : r ≤ 903
 ·exact lower54_g_8 r hg (by omega) (by omega) w
 by_cases k10 : r ≤ 906
 ·exact lower54_g_9 r hg (by omega) (by omega) w
 by_cases k11 : r ≤ 907
 ·exact lower54_g_10 r hg (by omega) (by omega) w
 by_cases k12 : r ≤ 908
 ·exact lower54_g_11 r hg (by omega) (by omega) w
 by_cases k13 : r ≤ 909
 ·exact lower54_g_12 r hg (by omega) (by omega) w
 by_cases k14 : r ≤ 910
 ·exact lower54_g_13 r hg (by omega) (by omega) w
 by_cases k15 : r ≤ 911
 ·exact lower54_g_14 r hg (by omega) (by omega) w
 by_cases k16 : r ≤ 1023
 ·exact lower54_g_15 r hg (by omega) (by omega) w
 by_cases k17 : r ≤ 1039
 ·exact lower54_g_16 r hg (by omega) (by omega) w
 exact lower54_g_17 r hg (by omega) (by omega) w
theorem lower54 (r : Int) (h0 : 0 ≤ r) (h9 : r ≤ 1114111) (w : World) : Calls Tryd.prog 54 #[.int .i32 r] w fun e w' => e = .returned (.int .i32 (lowI r)) ∧ w = w' := by
 by_cases hg : GreatP r
 ·exact lower54_g r hg (by unfold GreatP at hg; omega) (by unfold GreatP at hg; omega) w
 ·exact lower54_n r hg h0 h9 w
end Go.Proofs.YtieifhfgedoiaaaDoor
