/- Lower. Conditions: those of each theorem. -/
import Derived.Test.YtieifhfgedoiaaaDoorMLfC
namespace Go.Proofs.YtieifhfgedoiaaaDoor
open Go.RowKit Go.Lib
set_option linter.unusedVariables false
set_option linter.unusedSimpArgs false

theorem rlower36_n (r : Int) (hg : ¬ GreatP r) (h0 : 0 ≤ r) (h9 : r ≤ 1114111) (w : World) : Calls Tryd.prog 36 #[.int .i32 r] w fun e w' => e = .returned (.int .i32 (lowI r)) ∧ w = w' := by
 have hG := hid (fun w => rgreat52 r h0 h9 w)
 rw [show greatB r = false from decide_eq_false hg] at hG
 have hv : lowI r = r := by unfold lowI; rw [if_pos hg]
 rw [hv]
 go_enter Tryd.func36, Tryd.ntmps36
 go_wp2_with (go_at_call 52; with_reducible refine cr (hG.out _) ?_)
 go_ret
 exact ⟨rfl, rfl⟩
def Cx36 (r : Int) (w : World) : Prop := Calls Tryd.prog 36 #[.int .i32 r] w fun e w' => e = .returned (.int .i32 (lowI r)) ∧ w = w'
theorem rlower36_g_0 (r : Int) (hg : GreatP r) (h1 : 65 ≤ r) (h2 : r ≤ 90) (w : World) : Cx36 r w := by
 unfold Cx36
 have : greatB r = true := decide_eq_true hg
 have := inf r 904 906 (by omega)
 have := it r 65 90 (by omega)
 have ⟨_, _, _, _, _, _⟩ := n6 r 304 376 902 908 910 911 (by omega)
 have hv : lowI r = r + 32 := by unfold lowI; rw [if_neg (fun h => h hg)]; (repeat' split) <;> first | rfl | omega | (exfalso; unfold GreatP at hg; omega)
 have hwr : wrap32 (r + 32) = r + 32 := by unfold wrap32; omega
 rw [hv]
 go_enter Tryd.func36, Tryd.ntmps36
 go_wp2_with (first | (go_at_call 52; with_reducible refine cr (rgreat52 r (by omega) (by omega) _) ?_) | (go_at_call 53; with_reducible refine cr (in53_any _ _ _ _) ?_))
 go_ret
 exact ⟨by first | rfl | rw [hwr], rfl⟩
theorem rlower36_g_1 (r : Int) (hg : GreatP r) (h1 : 91 ≤ r) (h2 : r ≤ 191) (w : World) : Cx36 r w := by
 unfold Cx36
 have : greatB r = true := decide_eq_true hg
 have := inf r 904 906 (by omega)
 have := inf r 65 90 (by omega)
 have := inf r 192 222 (by omega)
 have := inf r 913 939 (by omega)
 have := inf r 1040 1071 (by omega)
 have := inf r 1024 1039 (by omega)
 have ⟨_, _, _, _, _, _⟩ := n6 r 304 376 902 908 910 911 (by omega)
 have hv : lowI r = r + 1 := by unfold lowI; rw [if_neg (fun h => h hg)]; (repeat' split) <;> first | rfl | omega | (exfalso; unfold GreatP at hg; omega)
 have hwr : wrap32 (r + 1) = r + 1 := by unfold wrap32; omega
 rw [hv]
 go_enter Tryd.func36, Tryd.ntmps36
 go_wp2_with (first | (go_at_call 52; with_reducible refine cr (rgreat52 r (by omega) (by omega) _) ?_) | (go_at_call 53; with_reducible refine cr (in53_any _ _ _ _) ?_))
 go_ret
 exact ⟨by first | rfl | rw [hwr], rfl⟩
theorem rlower36_g_2 (r : Int) (hg : GreatP r) (h1 : 192 ≤ r) (h2 : r ≤ 222) (w : World) : Cx36 r w := by
 unfold Cx36
 have : greatB r = true := decide_eq_true hg
 have := inf r 904 906 (by omega)
 have := inf r 65 90 (by omega)
 have := it r 192 222 (by omega)
 have ⟨_, _, _, _, _, _⟩ := n6 r 304 376 902 908 910 911 (by omega)
 have hv : lowI r = r + 32 := by unfold lowI; rw [if_neg (fun h => h hg)]; (repeat' split) <;> first | rfl | omega | (exfalso; unfold GreatP at hg; omega)
 have hwr : wrap32 (r + 32) = r + 32 := by unfold wrap32; omega
 rw [hv]
 go_enter Tryd.func36, Tryd.ntmps36
 go_wp2_with (first | (go_at_call 52; with_reducible refine cr (rgreat52 r (by omega) (by omega) _) ?_) | (go_at_call 53; with_reducible refine cr (in53_any _ _ _ _) ?_))
 go_ret
 exact ⟨by first | rfl | rw [hwr], rfl⟩
theorem rlower36_g_3 (r : Int) (hg : GreatP r) (h1 : 223 ≤ r) (h2 : r ≤ 303) (w : World) : Cx36 r w := by
 unfold Cx36
 have : greatB r = true := decide_eq_true hg
 have := inf r 904 906 (by omega)
 have := inf r 65 90 (by omega)
 have := inf r 192 222 (by omega)
 have := inf r 913 939 (by omega)
 have := inf r 1040 1071 (by omega)
 have := inf r 1024 1039 (by omega)
 have ⟨_, _, _, _, _, _⟩ := n6 r 304 376 902 908 910 911 (by omega)
 have hv : lowI r = r + 1 := by unfold lowI; rw [if_neg (fun h => h hg)]; (repeat' split) <;> first | rfl | omega | (exfalso; unfold GreatP at hg; omega)
 have hwr : wrap32 (r + 1) = r + 1 := by unfold wrap32; omega
 rw [hv]
 go_enter Tryd.func36, Tryd.ntmps36
 go_wp2_with (first | (go_at_call 52; with_reducible refine cr (rgreat52 r (by omega) (by omega) _) ?_) | (go_at_call 53; with_reducible refine cr (in53_any _ _ _ _) ?_))
 go_ret
 exact ⟨by first | rfl | rw [hwr], rfl⟩
theorem rlower36_g_4 (r : Int) (hg : GreatP r) (h1 : 304 ≤ r) (h2 : r ≤ 304) (w : World) : Cx36 r w := by
 unfold Cx36
 have : greatB r = true := decide_eq_true hg
 have : (r == 304) = true := beq_true_of (by omega)
 have hv : lowI r = 105 := by unfold lowI; rw [if_neg (fun h => h hg)]; (repeat' split) <;> first | rfl | omega | (exfalso; unfold GreatP at hg; omega)
 rw [hv]
 go_enter Tryd.func36, Tryd.ntmps36
 go_wp2_with (first | (go_at_call 52; with_reducible refine cr (rgreat52 r (by omega) (by omega) _) ?_) | (go_at_call 53; with_reducible refine cr (in53_any _ _ _ _) ?_))
 go_ret
 exact ⟨rfl, rfl⟩
theorem rlower36_g_5 (r : Int) (hg : GreatP r) (h1 : 305 ≤ r) (h2 : r ≤ 375) (w : World) : Cx36 r w := by
 unfold Cx36
 have : greatB r = true := decide_eq_true hg
 have := inf r 904 906 (by omega)
 have := inf r 65 90 (by omega)
 have := inf r 192 222 (by omega)
 have := inf r 913 939 (by omega)
 have := inf r 1040 1071 (by omega)
 have := inf r 1024 1039 (by omega)
 have ⟨_, _, _, _, _, _⟩ := n6 r 304 376 902 908 910 911 (by omega)
 have hv : lowI r = r + 1 := by unfold lowI; rw [if_neg (fun h => h hg)]; (repeat' split) <;> first | rfl | omega | (exfalso; unfold GreatP at hg; omega)
 have hwr : wrap32 (r + 1) = r + 1 := by unfold wrap32; omega
 rw [hv]
 go_enter Tryd.func36, Tryd.ntmps36
 go_wp2_with (first | (go_at_call 52; with_reducible refine cr (rgreat52 r (by omega) (by omega) _) ?_) | (go_at_call 53; with_reducible refine cr (in53_any _ _ _ _) ?_))
 go_ret
 exact ⟨by first | rfl | rw [hwr], rfl⟩
theorem rlower36_g_6 (r : Int) (hg : GreatP r) (h1 : 376 ≤ r) (h2 : r ≤ 376) (w : World) : Cx36 r w := by
 unfold Cx36
 have : greatB r = true := decide_eq_true hg
 have : (r == 376) = true := beq_true_of (by omega)
 have := n1 r 304 (by omega)
 have hv : lowI r = 255 := by unfold lowI; rw [if_neg (fun h => h hg)]; (repeat' split) <;> first | rfl | omega | (exfalso; unfold GreatP at hg; omega)
 rw [hv]
 go_enter Tryd.func36, Tryd.ntmps36
 go_wp2_with (first | (go_at_call 52; with_reducible refine cr (rgreat52 r (by omega) (by omega) _) ?_) | (go_at_call 53; with_reducible refine cr (in53_any _ _ _ _) ?_))
 go_ret
 exact ⟨rfl, rfl⟩
theorem rlower36_g_7 (r : Int) (hg : GreatP r) (h1 : 377 ≤ r) (h2 : r ≤ 901) (w : World) : Cx36 r w := by
 unfold Cx36
 have : greatB r = true := decide_eq_true hg
 have := inf r 904 906 (by omega)
 have := inf r 65 90 (by omega)
 have := inf r 192 222 (by omega)
 have := inf r 913 939 (by omega)
 have := inf r 1040 1071 (by omega)
 have := inf r 1024 1039 (by omega)
 have ⟨_, _, _, _, _, _⟩ := n6 r 304 376 902 908 910 911 (by omega)
 have hv : lowI r = r + 1 := by unfold lowI; rw [if_neg (fun h => h hg)]; (repeat' split) <;> first | rfl | omega | (exfalso; unfold GreatP at hg; omega)
 have hwr : wrap32 (r + 1) = r + 1 := by unfold wrap32; omega
 rw [hv]
 go_enter Tryd.func36, Tryd.ntmps36
 go_wp2_with (first | (go_at_call 52; with_reducible refine cr (rgreat52 r (by omega) (by omega) _) ?_) | (go_at_call 53; with_reducible refine cr (in53_any _ _ _ _) ?_))
 go_ret
 exact ⟨by first | rfl | rw [hwr], rfl⟩
theorem rlower36_g_8 (r : Int) (hg : GreatP r) (h1 : 902 ≤ r) (h2 : r ≤ 902) (w : World) : Cx36 r w := by
 unfold Cx36
 have : greatB r = true := decide_eq_true hg
 have : (r == 902) = true := beq_true_of (by omega)
 have ⟨_, _⟩ := n2 r 304 376 (by omega)
 have hv : lowI r = 940 := by unfold lowI; rw [if_neg (fun h => h hg)]; (repeat' split) <;> first | rfl | omega | (exfalso; unfold GreatP at hg; omega)
 rw [hv]
 go_enter Tryd.func36, Tryd.ntmps36
 go_wp2_with (first | (go_at_call 52; with_reducible refine cr (rgreat52 r (by omega) (by omega) _) ?_) | (go_at_call 53; with_reducible refine cr (in53_any _ _ _ _) ?_))
 go_ret
 exact ⟨rfl, rfl⟩
theorem rlower36_g_9 (r : Int) (hg : GreatP r) (h1 : 903 ≤ r) (h2 : r ≤ 903) (w : World) : Cx36 r w := by
 unfold Cx36
 have : greatB r = true := decide_eq_true hg
 have := inf r 904 906 (by omega)
 have := inf r 65 90 (by omega)
 have := inf r 192 222 (by omega)
 have := inf r 913 939 (by omega)
 have := inf r 1040 1071 (by omega)
 have := inf r 1024 1039 (by omega)
 have ⟨_, _, _, _, _, _⟩ := n6 r 304 376 902 908 910 911 (by omega)
 have hv : lowI r = r + 1 := by unfold lowI; rw [if_neg (fun h => h hg)]; (repeat' split) <;> first | rfl | omega | (exfalso; unfold GreatP at hg; omega)
 have hwr : wrap32 (r + 1) = r + 1 := by unfold wrap32; omega
 rw [hv]
 go_enter Tryd.func36, Tryd.ntmps36
 go_wp2_with (first | (go_at_call 52; with_reducible refine cr (rgreat52 r (by omega) (by omega) _) ?_) | (go_at_call 53; with_reducible refine cr (in53_any _ _ _ _) ?_))
 go_ret
 exact ⟨by first | rfl | rw [hwr], rfl⟩
theorem rlower36_g_10 (r : Int) (hg : GreatP r) (h1 : 904 ≤ r) (h2 : r ≤ 906) (w : World) : Cx36 r w := by
 unfold Cx36
 have : greatB r = true := decide_eq_true hg
 have := it r 904 906 (by omega)
 have ⟨_, _, _⟩ := n3 r 304 376 902 (by omega)
 have hv : lowI r = r + 37 := by unfold lowI; rw [if_neg (fun h => h hg)]; (repeat' split) <;> first | rfl | omega | (exfalso; unfold GreatP at hg; omega)
 have hwr : wrap32 (r + 37) = r + 37 := by unfold wrap32; omega
 rw [hv]
 go_enter Tryd.func36, Tryd.ntmps36
 go_wp2_with (first | (go_at_call 52; with_reducible refine cr (rgreat52 r (by omega) (by omega) _) ?_) | (go_at_call 53; with_reducible refine cr (in53_any _ _ _ _) ?_))
 go_ret
 exact ⟨by first | rfl | rw [hwr], rfl⟩
theorem rlower36_g_11 (r : Int) (hg : GreatP r) (h1 : 907 ≤ r) (h2 : r ≤ 907) (w : World) : Cx36 r w := by
 unfold Cx36
 have : greatB r = true := decide_eq_true hg
 have := inf r 904 906 (by omega)
 have := inf r 65 90 (by omega)
 have := inf r 192 222 (by omega)
 have := inf r 913 939 (by omega)
 have := inf r 1040 1071 (by omega)
 have := inf r 1024 1039 (by omega)
 have ⟨_, _, _, _, _, _⟩ := n6 r 304 376 902 908 910 911 (by omega)
 have hv : lowI r = r + 1 := by unfold lowI; rw [if_neg (fun h => h hg)]; (repeat' split) <;> first | rfl | omega | (exfalso; unfold GreatP at hg; omega)
 have hwr : wrap32 (r + 1) = r + 1 := by unfold wrap32; omega
 rw [hv]
 go_enter Tryd.func36, Tryd.ntmps36
 go_wp2_with (first | (go_at_call 52; with_reducible refine cr (rgreat52 r (by omega) (by omega) _) ?_) | (go_at_call 53; with_reducible refine cr (in53_any _ _ _ _) ?_))
 go_ret
 exact ⟨by first | rfl | rw [hwr], rfl⟩
theorem rlower36_g_12 (r : Int) (hg : GreatP r) (h1 : 908 ≤ r) (h2 : r ≤ 908) (w : World) : Cx36 r w := by
 unfold Cx36
 have : greatB r = true := decide_eq_true hg
 have := inf r 904 906 (by omega)
 have : (r == 908) = true := beq_true_of (by omega)
 have ⟨_, _, _⟩ := n3 r 304 376 902 (by omega)
 have hv : lowI r = 972 := by unfold lowI; rw [if_neg (fun h => h hg)]; (repeat' split) <;> first | rfl | omega | (exfalso; unfold GreatP at hg; omega)
 rw [hv]
 go_enter Tryd.func36, Tryd.ntmps36
 go_wp2_with (first | (go_at_call 52; with_reducible refine cr (rgreat52 r (by omega) (by omega) _) ?_) | (go_at_call 53; with_reducible refine cr (in53_any _ _ _ _) ?_))
 go_ret
 exact ⟨rfl, rfl⟩
theorem rlower36_g_13 (r : Int) (hg : GreatP r) (h1 : 909 ≤ r) (h2 : r ≤ 909) (w : World) : Cx36 r w := by
 unfold Cx36
 have : greatB r = true := decide_eq_true hg
 have := inf r 904 906 (by omega)
 have := inf r 65 90 (by omega)
 have := inf r 192 222 (by omega)
 have := inf r 913 939 (by omega)
 have := inf r 1040 1071 (by omega)
 have := inf r 1024 1039 (by omega)
 have ⟨_, _, _, _, _, _⟩ := n6 r 304 376 902 908 910 911 (by omega)
 have hv : lowI r = r + 1 := by unfold lowI; rw [if_neg (fun h => h hg)]; (repeat' split) <;> first | rfl | omega | (exfalso; unfold GreatP at hg; omega)
 have hwr : wrap32 (r + 1) = r + 1 := by unfold wrap32; omega
 rw [hv]
 go_enter Tryd.func36, Tryd.ntmps36
 go_wp2_with (first | (go_at_call 52; with_reducible refine cr (rgreat52 r (by omega) (by omega) _) ?_) | (go_at_call 53; with_reducible refine cr (in53_any _ _ _ _) ?_))
 go_ret
 exact ⟨by first | rfl | rw [hwr], rfl⟩
theorem rlower36_g_14 (r : Int) (hg : GreatP r) (h1 : 910 ≤ r) (h2 : r ≤ 910) (w : World) : Cx36 r w := by
 unfold Cx36
 have : greatB r = true := decide_eq_true hg
 have := inf r 904 906 (by omega)
 have : (r == 910) = true := beq_true_of (by omega)
 have ⟨_, _, _, _⟩ := n4 r 304 376 902 908 (by omega)
 have hv : lowI r = r + 63 := by unfold lowI; rw [if_neg (fun h => h hg)]; (repeat' split) <;> first | rfl | omega | (exfalso; unfold GreatP at hg; omega)
 have hwr : wrap32 (r + 63) = r + 63 := by unfold wrap32; omega
 rw [hv]
 go_enter Tryd.func36, Tryd.ntmps36
 go_wp2_with (first | (go_at_call 52; with_reducible refine cr (rgreat52 r (by omega) (by omega) _) ?_) | (go_at_call 53; with_reducible refine cr (in53_any _ _ _ _) ?_))
 go_ret
 exact ⟨by first | rfl | rw [hwr], rfl⟩
theorem rlower36_g_15 (r : Int) (hg : GreatP r) (h1 : 911 ≤ r) (h2 : r ≤ 911) (w : World) : Cx36 r w := by
 unfold Cx36
 have : greatB r = true := decide_eq_true hg
 have := inf r 904 906 (by omega)
 have : (r == 911) = true := beq_true_of (by omega)
 have ⟨_, _, _, _, _⟩ := n5 r 304 376 902 908 910 (by omega)
 have hv : lowI r = r + 63 := by unfold lowI; rw [if_neg (fun h => h hg)]; (repeat' split) <;> first | rfl | omega | (exfalso; unfold GreatP at hg; omega)
 have hwr : wrap32 (r + 63) = r + 63 := by unfold wrap32; omega
 rw [hv]
 go_enter Tryd.func36, Tryd.ntmps36
 go_wp2_with (first | (go_at_call 52; with_reducible refine cr (rgreat52 r (by omega) (by omega) _) ?_) | (go_at_call 53; with_reducible refine cr (in53_any _ _ _ _) ?_))
 go_ret
 exact ⟨by first | rfl | rw [hwr], rfl⟩
theorem rlower36_g_16 (r : Int) (hg : GreatP r) (h1 : 912 ≤ r) (h2 : r ≤ 912) (w : World) : Cx36 r w := by
 unfold Cx36
 have : greatB r = true := decide_eq_true hg
 have := inf r 904 906 (by omega)
 have := inf r 65 90 (by omega)
 have := inf r 192 222 (by omega)
 have := inf r 913 939 (by omega)
 have := inf r 1040 1071 (by omega)
 have := inf r 1024 1039 (by omega)
 have ⟨_, _, _, _, _, _⟩ := n6 r 304 376 902 908 910 911 (by omega)
 have hv : lowI r = r + 1 := by unfold lowI; rw [if_neg (fun h => h hg)]; (repeat' split) <;> first | rfl | omega | (exfalso; unfold GreatP at hg; omega)
 have hwr : wrap32 (r + 1) = r + 1 := by unfold wrap32; omega
 rw [hv]
 go_enter Tryd.func36, Tryd.ntmps36
 go_wp2_with (first | (go_at_call 52; with_reducible refine cr (rgreat52 r (by omega) (by omega) _) ?_) | (go_at_call 53; with_reducible refine cr (in53_any _ _ _ _) ?_))
 go_ret
 exact ⟨by first | rfl | rw [hwr], rfl⟩
theorem rlower36_g_17 (r : Int) (hg : GreatP r) (h1 : 913 ≤ r) (h2 : r ≤ 939) (w : World) : Cx36 r w := by
 unfold Cx36
 have : greatB r = true := decide_eq_true hg
 have := inf r 904 906 (by omega)
 have := inf r 65 90 (by omega)
 have := inf r 192 222 (by omega)
 have := it r 913 939 (by omega)
 have ⟨_, _, _, _, _, _⟩ := n6 r 304 376 902 908 910 911 (by omega)
 have hv : lowI r = r + 32 := by unfold lowI; rw [if_neg (fun h => h hg)]; (repeat' split) <;> first | rfl | omega | (exfalso; unfold GreatP at hg; omega)
 have hwr : wrap32 (r + 32) = r + 32 := by unfold wrap32; omega
 rw [hv]
 go_enter Tryd.func36, Tryd.ntmps36
 go_wp2_with (first | (go_at_call 52; with_reducible refine cr (rgreat52 r (by omega) (by omega) _) ?_) | (go_at_call 53; with_reducible refine cr (in53_any _ _ _ _) ?_))
 go_ret
 exact ⟨by first | rfl | rw [hwr], rfl⟩
theorem rlower36_g_18 (r : Int) (hg : GreatP r) (h1 : 940 ≤ r) (h2 : r ≤ 1023) (w : World) : Cx36 r w := by
 unfold Cx36
 have : greatB r = true := decide_eq_true hg
 have := inf r 904 906 (by omega)
 have := inf r 65 90 (by omega)
 have := inf r 192 222 (by omega)
 have := inf r 913 939 (by omega)
 have := inf r 1040 1071 (by omega)
 have := inf r 1024 1039 (by omega)
 have ⟨_, _, _, _, _, _⟩ := n6 r 304 376 902 908 910 911 (by omega)
 have hv : lowI r = r + 1 := by unfold lowI; rw [if_neg (fun h => h hg)]; (repeat' split) <;> first | rfl | omega | (exfalso; unfold GreatP at hg; omega)
 have hwr : wrap32 (r + 1) = r + 1 := by unfold wrap32; omega
 rw [hv]
 go_enter Tryd.func36, Tryd.ntmps36
 go_wp2_with (first | (go_at_call 52; with_reducible refine cr (rgreat52 r (by omega) (by omega) _) ?_) | (go_at_call 53; with_reducible refine cr (in53_any _ _ _ _) ?_))
 go_ret
 exact ⟨by first | rfl | rw [hwr], rfl⟩
theorem rlower36_g_19 (r : Int) (hg : GreatP r) (h1 : 1024 ≤ r) (h2 : r ≤ 1039) (w : World) : Cx36 r w := by
 unfold Cx36
 have : greatB r = true := decide_eq_true hg
 have := inf r 904 906 (by omega)
 have := inf r 65 90 (by omega)
 have := inf r 192 222 (by omega)
 have := inf r 913 939 (by omega)
 have := inf r 1040 1071 (by omega)
 have := it r 1024 1039 (by omega)
 have ⟨_, _, _, _, _, _⟩ := n6 r 304 376 902 908 910 911 (by omega)
 have hv : lowI r = r + 80 := by unfold lowI; rw [if_neg (fun h => h hg)]; (repeat' split) <;> first | rfl | omega | (exfalso; unfold GreatP at hg; omega)
 have hwr : wrap32 (r + 80) = r + 80 := by unfold wrap32; omega
 rw [hv]
 go_enter Tryd.func36, Tryd.ntmps36
 go_wp2_with (first | (go_at_call 52; with_reducible refine cr (rgreat52 r (by omega) (by omega) _) ?_) | (go_at_call 53; with_reducible refine cr (in53_any _ _ _ _) ?_))
 go_ret
 exact ⟨by first | rfl | rw [hwr], rfl⟩
theorem rlower36_g_20 (r : Int) (hg : GreatP r) (h1 : 1040 ≤ r) (h2 : r ≤ 1071) (w : World) : Cx36 r w := by
 unfold Cx36
 have : greatB r = true := decide_eq_true hg
 have := inf r 904 906 (by omega)
 have := inf r 65 90 (by omega)
 have := inf r 192 222 (by omega)
 have := inf r 913 939 (by omega)
 have := it r 1040 1071 (by omega)
 have ⟨_, _, _, _, _, _⟩ := n6 r 304 376 902 908 910 911 (by omega)
 have hv : lowI r = r + 32 := by unfold lowI; rw [if_neg (fun h => h hg)]; (repeat' split) <;> first | rfl | omega | (exfalso; unfold GreatP at hg; omega)
 have hwr : wrap32 (r + 32) = r + 32 := by unfold wrap32; omega
 rw [hv]
 go_enter Tryd.func36, Tryd.ntmps36
 go_wp2_with (first | (go_at_call 52; with_reducible refine cr (rgreat52 r (by omega) (by omega) _) ?_) | (go_at_call 53; with_reducible refine cr (in53_any _ _ _ _) ?_))
 go_ret
 exact ⟨by first | rfl | rw [hwr], rfl⟩
theorem rlower36_g (r : Int) (hg : GreatP r) (h0 : 65 ≤ r) (h9 : r ≤ 1071) (w : World) : Calls Tryd.prog 36 #[.int .i32 r] w fun e w' => e = .returned (.int .i32 (lowI r)) ∧ w = w' := by
 by_cases k1 : r ≤ 90
 ·exact rlower36_g_0 r hg (by omega) (by omega) w
 by_cases k2 : r ≤ 191
 ·exact rlower36_g_1 r hg (by omega) (by omega) w
 by_cases k3 : r ≤ 222
 ·exact rlower36_g_2 r hg (by omega) (by omega) w
 by_cases k4 : r ≤ 303
 ·exact rlower36_g_3 r hg (by omega) (by omega) w
 by_cases k5 : r ≤ 304
 ·exact rlower36_g_4 r hg (by omega) (by omega) w
 by_cases k6 : r ≤ 375
 ·exact rlower36_g_5 r hg (by omega) (by omega) w
 by_cases k7 : r ≤ 376
 ·exact rlower36_g_6 r hg (by omega) (by omega) w
 by_cases k8 : r ≤ 901
 ·exact rlower36_g_7 r hg (by omega) (by omega) w
 by_cases k9 : r ≤ 902
 ·exact rlower36_g_8 r hg (by omega) (by omega) w
 by_cases k10 : r ≤ 903
 ·exact rlower36_g_9 r hg (by omega) (by omega) w
 by_cases k11 : r ≤ 906
 ·exact rlower36_g_10 r hg (by omega) (by omega) w
 by_cases k12 : r ≤ 907
 ·exact rlower36_g_11 r hg (by omega) (by omega) w
 by_cases k13 : r ≤ 908
 ·exact rlower36_g_12 r hg (by omega) (by omega) w
 by_cases k14 : r ≤ 909
 ·exact rlower36_g_13 r hg (by omega) (by omega) w
 by_cases k15 : r ≤ 910
 ·exact rlower36_g_14 r hg (by omega) (by omega) w
 by_cases k16 : r ≤ 911
 ·exact rlower36_g_15 r hg (by omega) (by omega) w
 by_cases k17 : r ≤ 912
 ·exact rlower36_g_16 r hg (by omega) (by omega) w
 by_cases k18 : r ≤ 939
 ·exact rlower36_g_17 r hg (by omega) (by omega) w
 by_cases k19 : r ≤ 1023
 ·exact rlower36_g_18 r hg (by omega) (by omega) w
 by_cases k20 : r ≤ 1039
 ·exact rlower36_g_19 r hg (by omega) (by omega) w
 exact rlower36_g_20 r hg (by omega) (by omega) w
theorem rlower36 (r : Int) (h0 : 0 ≤ r) (h9 : r ≤ 1114111) (w : World) : Calls Tryd.prog 36 #[.int .i32 r] w fun e w' => e = .returned (.int .i32 (lowI r)) ∧ w = w' := by
 by_cases hg : GreatP r
 ·exact rlower36_g r hg (by unfold GreatP at hg; omega) (by unfold GreatP at hg; omega) w
 ·exact rlower36_n r hg h0 h9 w
end Go.Proofs.YtieifhfgedoiaaaDoor
