/- Kind. Conditions: those of each theorem. -/
import Derived.Test.YtieifhfgedoiaaaDoorMLfD
namespace Go.Proofs.YtieifhfgedoiaaaDoor
open Go.RowKit Go.Lib
set_option linter.unusedVariables false
set_option linter.unusedSimpArgs false

def Cx81 (r : Int) (w : World) : Prop := Calls Tryd.prog 81 #[.int .i32 r] w fun e w' => e = .returned (.int .i64 (kindI r)) ∧ w = w'
theorem kind81_o_0 (r : Int) (hg : ¬ GreatP r) (hs : ¬ SmallP r) (h1 : 0 ≤ r) (h2 : r ≤ 8) (w : World) : Cx81 r w := by
 unfold Cx81
 have := dmf r 0 (by omega)
 have := dgf r 55296 (by omega)
 have := dnf r 1114111 (by omega)
 have : (greatB r || smallB r) = false := by rw [show greatB r = false from decide_eq_false hg, show smallB r = false from decide_eq_false hs]; rfl
 have := inf r 768 879 (by omega)
 have := dgf r 48 (by omega)
 have := dgf r 8192 (by omega)
 have := dgf r 8216 (by omega)
 have := dmt r 32 (by omega)
 have ⟨_, _, _, _, _, _, _, _⟩ := n8 r 10 13 9 32 160 8239 8287 12288 (by omega)
 have ⟨_, _, _, _, _, _, _, _⟩ := n8 r 45 8208 8209 8210 8211 8212 8213 34 (by omega)
 have ⟨_, _, _, _, _, _, _, _⟩ := n8 r 39 171 187 8249 8250 33 44 46 (by omega)
 have ⟨_, _, _, _, _, _, _⟩ := n7 r 58 59 63 161 183 191 8230 (by omega)
 have hv : kindI r = 9 := by unfold kindI; simp only [hg, hs, or_self, if_false]; (repeat' split) <;> first | rfl | omega
 rw [hv]
 go_enter Tryd.func81, Tryd.ntmps81
 go_wp2_with (first | (go_at_call 93; with_reducible refine cr (letter93 r (by omega) (by omega) _) ?_) | (go_at_call 94; with_reducible refine cr (mark94_any _ _) ?_))
 go_ret
 exact ⟨rfl, rfl⟩
theorem kind81_o_1 (r : Int) (hg : ¬ GreatP r) (hs : ¬ SmallP r) (h1 : 9 ≤ r) (h2 : r ≤ 9) (w : World) : Cx81 r w := by
 unfold Cx81
 have := dmf r 0 (by omega)
 have := dgf r 55296 (by omega)
 have := dnf r 1114111 (by omega)
 have : (greatB r || smallB r) = false := by rw [show greatB r = false from decide_eq_false hg, show smallB r = false from decide_eq_false hs]; rfl
 have := inf r 768 879 (by omega)
 have := dgf r 48 (by omega)
 have : (r == 9) = true := beq_true_of (by omega)
 have ⟨_, _⟩ := n2 r 10 13 (by omega)
 have hv : kindI r = 5 := by unfold kindI; simp only [hg, hs, or_self, if_false]; (repeat' split) <;> first | rfl | omega
 rw [hv]
 go_enter Tryd.func81, Tryd.ntmps81
 go_wp2_with (first | (go_at_call 93; with_reducible refine cr (letter93 r (by omega) (by omega) _) ?_) | (go_at_call 94; with_reducible refine cr (mark94_any _ _) ?_))
 go_ret
 exact ⟨rfl, rfl⟩
theorem kind81_o_2 (r : Int) (hg : ¬ GreatP r) (hs : ¬ SmallP r) (h1 : 10 ≤ r) (h2 : r ≤ 10) (w : World) : Cx81 r w := by
 unfold Cx81
 have := dmf r 0 (by omega)
 have := dgf r 55296 (by omega)
 have := dnf r 1114111 (by omega)
 have : (greatB r || smallB r) = false := by rw [show greatB r = false from decide_eq_false hg, show smallB r = false from decide_eq_false hs]; rfl
 have := inf r 768 879 (by omega)
 have := dgf r 48 (by omega)
 have : (r == 10) = true := beq_true_of (by omega)
 have hv : kindI r = 4 := by unfold kindI; simp only [hg, hs, or_self, if_false]; (repeat' split) <;> first | rfl | omega
 rw [hv]
 go_enter Tryd.func81, Tryd.ntmps81
 go_wp2_with (first | (go_at_call 93; with_reducible refine cr (letter93 r (by omega) (by omega) _) ?_) | (go_at_call 94; with_reducible refine cr (mark94_any _ _) ?_))
 go_ret
 exact ⟨rfl, rfl⟩
theorem kind81_o_3 (r : Int) (hg : ¬ GreatP r) (hs : ¬ SmallP r) (h1 : 11 ≤ r) (h2 : r ≤ 12) (w : World) : Cx81 r w := by
 unfold Cx81
 have := dmf r 0 (by omega)
 have := dgf r 55296 (by omega)
 have := dnf r 1114111 (by omega)
 have : (greatB r || smallB r) = false := by rw [show greatB r = false from decide_eq_false hg, show smallB r = false from decide_eq_false hs]; rfl
 have := inf r 768 879 (by omega)
 have := dgf r 48 (by omega)
 have := dgf r 8192 (by omega)
 have := dgf r 8216 (by omega)
 have := dmt r 32 (by omega)
 have ⟨_, _, _, _, _, _, _, _⟩ := n8 r 10 13 9 32 160 8239 8287 12288 (by omega)
 have ⟨_, _, _, _, _, _, _, _⟩ := n8 r 45 8208 8209 8210 8211 8212 8213 34 (by omega)
 have ⟨_, _, _, _, _, _, _, _⟩ := n8 r 39 171 187 8249 8250 33 44 46 (by omega)
 have ⟨_, _, _, _, _, _, _⟩ := n7 r 58 59 63 161 183 191 8230 (by omega)
 have hv : kindI r = 9 := by unfold kindI; simp only [hg, hs, or_self, if_false]; (repeat' split) <;> first | rfl | omega
 rw [hv]
 go_enter Tryd.func81, Tryd.ntmps81
 go_wp2_with (first | (go_at_call 93; with_reducible refine cr (letter93 r (by omega) (by omega) _) ?_) | (go_at_call 94; with_reducible refine cr (mark94_any _ _) ?_))
 go_ret
 exact ⟨rfl, rfl⟩
theorem kind81_o_4 (r : Int) (hg : ¬ GreatP r) (hs : ¬ SmallP r) (h1 : 13 ≤ r) (h2 : r ≤ 13) (w : World) : Cx81 r w := by
 unfold Cx81
 have := dmf r 0 (by omega)
 have := dgf r 55296 (by omega)
 have := dnf r 1114111 (by omega)
 have : (greatB r || smallB r) = false := by rw [show greatB r = false from decide_eq_false hg, show smallB r = false from decide_eq_false hs]; rfl
 have := inf r 768 879 (by omega)
 have := dgf r 48 (by omega)
 have : (r == 13) = true := beq_true_of (by omega)
 have := n1 r 10 (by omega)
 have hv : kindI r = 4 := by unfold kindI; simp only [hg, hs, or_self, if_false]; (repeat' split) <;> first | rfl | omega
 rw [hv]
 go_enter Tryd.func81, Tryd.ntmps81
 go_wp2_with (first | (go_at_call 93; with_reducible refine cr (letter93 r (by omega) (by omega) _) ?_) | (go_at_call 94; with_reducible refine cr (mark94_any _ _) ?_))
 go_ret
 exact ⟨rfl, rfl⟩
theorem kind81_o_5 (r : Int) (hg : ¬ GreatP r) (hs : ¬ SmallP r) (h1 : 14 ≤ r) (h2 : r ≤ 31) (w : World) : Cx81 r w := by
 unfold Cx81
 have := dmf r 0 (by omega)
 have := dgf r 55296 (by omega)
 have := dnf r 1114111 (by omega)
 have : (greatB r || smallB r) = false := by rw [show greatB r = false from decide_eq_false hg, show smallB r = false from decide_eq_false hs]; rfl
 have := inf r 768 879 (by omega)
 have := dgf r 48 (by omega)
 have := dgf r 8192 (by omega)
 have := dgf r 8216 (by omega)
 have := dmt r 32 (by omega)
 have ⟨_, _, _, _, _, _, _, _⟩ := n8 r 10 13 9 32 160 8239 8287 12288 (by omega)
 have ⟨_, _, _, _, _, _, _, _⟩ := n8 r 45 8208 8209 8210 8211 8212 8213 34 (by omega)
 have ⟨_, _, _, _, _, _, _, _⟩ := n8 r 39 171 187 8249 8250 33 44 46 (by omega)
 have ⟨_, _, _, _, _, _, _⟩ := n7 r 58 59 63 161 183 191 8230 (by omega)
 have hv : kindI r = 9 := by unfold kindI; simp only [hg, hs, or_self, if_false]; (repeat' split) <;> first | rfl | omega
 rw [hv]
 go_enter Tryd.func81, Tryd.ntmps81
 go_wp2_with (first | (go_at_call 93; with_reducible refine cr (letter93 r (by omega) (by omega) _) ?_) | (go_at_call 94; with_reducible refine cr (mark94_any _ _) ?_))
 go_ret
 exact ⟨rfl, rfl⟩
theorem kind81_o_6 (r : Int) (hg : ¬ GreatP r) (hs : ¬ SmallP r) (h1 : 32 ≤ r) (h2 : r ≤ 32) (w : World) : Cx81 r w := by
 unfold Cx81
 have := dmf r 0 (by omega)
 have := dgf r 55296 (by omega)
 have := dnf r 1114111 (by omega)
 have : (greatB r || smallB r) = false := by rw [show greatB r = false from decide_eq_false hg, show smallB r = false from decide_eq_false hs]; rfl
 have := inf r 768 879 (by omega)
 have := dgf r 48 (by omega)
 have : (r == 32) = true := beq_true_of (by omega)
 have ⟨_, _, _⟩ := n3 r 10 13 9 (by omega)
 have hv : kindI r = 5 := by unfold kindI; simp only [hg, hs, or_self, if_false]; (repeat' split) <;> first | rfl | omega
 rw [hv]
 go_enter Tryd.func81, Tryd.ntmps81
 go_wp2_with (first | (go_at_call 93; with_reducible refine cr (letter93 r (by omega) (by omega) _) ?_) | (go_at_call 94; with_reducible refine cr (mark94_any _ _) ?_))
 go_ret
 exact ⟨rfl, rfl⟩
theorem kind81_o_7 (r : Int) (hg : ¬ GreatP r) (hs : ¬ SmallP r) (h1 : 33 ≤ r) (h2 : r ≤ 33) (w : World) : Cx81 r w := by
 unfold Cx81
 have := dmf r 0 (by omega)
 have := dgf r 55296 (by omega)
 have := dnf r 1114111 (by omega)
 have : (greatB r || smallB r) = false := by rw [show greatB r = false from decide_eq_false hg, show smallB r = false from decide_eq_false hs]; rfl
 have := inf r 768 879 (by omega)
 have := dgf r 48 (by omega)
 have : (r == 33) = true := beq_true_of (by omega)
 have ⟨_, _, _, _, _, _, _, _⟩ := n8 r 10 13 9 32 160 8239 8287 12288 (by omega)
 have ⟨_, _, _, _, _, _, _, _⟩ := n8 r 45 8208 8209 8210 8211 8212 8213 34 (by omega)
 have ⟨_, _, _, _, _⟩ := n5 r 39 171 187 8249 8250 (by omega)
 have hv : kindI r = 8 := by unfold kindI; simp only [hg, hs, or_self, if_false]; (repeat' split) <;> first | rfl | omega
 rw [hv]
 go_enter Tryd.func81, Tryd.ntmps81
 go_wp2_with (first | (go_at_call 93; with_reducible refine cr (letter93 r (by omega) (by omega) _) ?_) | (go_at_call 94; with_reducible refine cr (mark94_any _ _) ?_))
 go_ret
 exact ⟨rfl, rfl⟩
theorem kind81_o_8 (r : Int) (hg : ¬ GreatP r) (hs : ¬ SmallP r) (h1 : 34 ≤ r) (h2 : r ≤ 34) (w : World) : Cx81 r w := by
 unfold Cx81
 have := dmf r 0 (by omega)
 have := dgf r 55296 (by omega)
 have := dnf r 1114111 (by omega)
 have : (greatB r || smallB r) = false := by rw [show greatB r = false from decide_eq_false hg, show smallB r = false from decide_eq_false hs]; rfl
 have := inf r 768 879 (by omega)
 have := dgf r 48 (by omega)
 have : (r == 34) = true := beq_true_of (by omega)
 have ⟨_, _, _, _, _, _, _, _⟩ := n8 r 10 13 9 32 160 8239 8287 12288 (by omega)
 have ⟨_, _, _, _, _, _, _⟩ := n7 r 45 8208 8209 8210 8211 8212 8213 (by omega)
 have hv : kindI r = 7 := by unfold kindI; simp only [hg, hs, or_self, if_false]; (repeat' split) <;> first | rfl | omega
 rw [hv]
 go_enter Tryd.func81, Tryd.ntmps81
 go_wp2_with (first | (go_at_call 93; with_reducible refine cr (letter93 r (by omega) (by omega) _) ?_) | (go_at_call 94; with_reducible refine cr (mark94_any _ _) ?_))
 go_ret
 exact ⟨rfl, rfl⟩
theorem kind81_o_9 (r : Int) (hg : ¬ GreatP r) (hs : ¬ SmallP r) (h1 : 35 ≤ r) (h2 : r ≤ 38) (w : World) : Cx81 r w := by
 unfold Cx81
 have := dmf r 0 (by omega)
 have := dgf r 55296 (by omega)
 have := dnf r 1114111 (by omega)
 have : (greatB r || smallB r) = false := by rw [show greatB r = false from decide_eq_false hg, show smallB r = false from decide_eq_false hs]; rfl
 have := inf r 768 879 (by omega)
 have := dgf r 48 (by omega)
 have := dgf r 8192 (by omega)
 have := dgf r 8216 (by omega)
 have := dmf r 32 (by omega)
 have := dgf r 127 (by omega)
 have := dgf r 8203 (by omega)
 have ⟨_, _, _, _, _, _, _, _⟩ := n8 r 10 13 9 32 160 8239 8287 12288 (by omega)
 have ⟨_, _, _, _, _, _, _, _⟩ := n8 r 45 8208 8209 8210 8211 8212 8213 34 (by omega)
 have ⟨_, _, _, _, _, _, _, _⟩ := n8 r 39 171 187 8249 8250 33 44 46 (by omega)
 have ⟨_, _, _, _, _, _, _, _⟩ := n8 r 58 59 63 161 183 191 8230 65279 (by omega)
 have hv : kindI r = 10 := by unfold kindI; simp only [hg, hs, or_self, if_false]; (repeat' split) <;> first | rfl | omega
 rw [hv]
 go_enter Tryd.func81, Tryd.ntmps81
 go_wp2_with (first | (go_at_call 93; with_reducible refine cr (letter93 r (by omega) (by omega) _) ?_) | (go_at_call 94; with_reducible refine cr (mark94_any _ _) ?_))
 go_ret
 exact ⟨rfl, rfl⟩
theorem kind81_o_10 (r : Int) (hg : ¬ GreatP r) (hs : ¬ SmallP r) (h1 : 39 ≤ r) (h2 : r ≤ 39) (w : World) : Cx81 r w := by
 unfold Cx81
 have := dmf r 0 (by omega)
 have := dgf r 55296 (by omega)
 have := dnf r 1114111 (by omega)
 have : (greatB r || smallB r) = false := by rw [show greatB r = false from decide_eq_false hg, show smallB r = false from decide_eq_false hs]; rfl
 have := inf r 768 879 (by omega)
 have := dgf r 48 (by omega)
 have : (r == 39) = true := beq_true_of (by omega)
 have ⟨_, _, _, _, _, _, _, _⟩ := n8 r 10 13 9 32 160 8239 8287 12288 (by omega)
 have ⟨_, _, _, _, _, _, _, _⟩ := n8 r 45 8208 8209 8210 8211 8212 8213 34 (by omega)
 have hv : kindI r = 7 := by unfold kindI; simp only [hg, hs, or_self, if_false]; (repeat' split) <;> first | rfl | omega
 rw [hv]
 go_enter Tryd.func81, Tryd.ntmps81
 go_wp2_with (first | (go_at_call 93; with_reducible refine cr (letter93 r (by omega) (by omega) _) ?_) | (go_at_call 94; with_reducible refine cr (mark94_any _ _) ?_))
 go_ret
 exact ⟨rfl, rfl⟩
theorem kind81_o_11 (r : Int) (hg : ¬ GreatP r) (hs : ¬ SmallP r) (h1 : 40 ≤ r) (h2 : r ≤ 43) (w : World) : Cx81 r w := by
 unfold Cx81
 have := dmf r 0 (by omega)
 have := dgf r 55296 (by omega)
 have := dnf r 1114111 (by omega)
 have : (greatB r || smallB r) = false := by rw [show greatB r = false from decide_eq_false hg, show smallB r = false from decide_eq_false hs]; rfl
 have := inf r 768 879 (by omega)
 have := dgf r 48 (by omega)
 have := dgf r 8192 (by omega)
 have := dgf r 8216 (by omega)
 have := dmf r 32 (by omega)
 have := dgf r 127 (by omega)
 have := dgf r 8203 (by omega)
 have ⟨_, _, _, _, _, _, _, _⟩ := n8 r 10 13 9 32 160 8239 8287 12288 (by omega)
 have ⟨_, _, _, _, _, _, _, _⟩ := n8 r 45 8208 8209 8210 8211 8212 8213 34 (by omega)
 have ⟨_, _, _, _, _, _, _, _⟩ := n8 r 39 171 187 8249 8250 33 44 46 (by omega)
 have ⟨_, _, _, _, _, _, _, _⟩ := n8 r 58 59 63 161 183 191 8230 65279 (by omega)
 have hv : kindI r = 10 := by unfold kindI; simp only [hg, hs, or_self, if_false]; (repeat' split) <;> first | rfl | omega
 rw [hv]
 go_enter Tryd.func81, Tryd.ntmps81
 go_wp2_with (first | (go_at_call 93; with_reducible refine cr (letter93 r (by omega) (by omega) _) ?_) | (go_at_call 94; with_reducible refine cr (mark94_any _ _) ?_))
 go_ret
 exact ⟨rfl, rfl⟩
theorem kind81_o_12 (r : Int) (hg : ¬ GreatP r) (hs : ¬ SmallP r) (h1 : 44 ≤ r) (h2 : r ≤ 44) (w : World) : Cx81 r w := by
 unfold Cx81
 have := dmf r 0 (by omega)
 have := dgf r 55296 (by omega)
 have := dnf r 1114111 (by omega)
 have : (greatB r || smallB r) = false := by rw [show greatB r = false from decide_eq_false hg, show smallB r = false from decide_eq_false hs]; rfl
 have := inf r 768 879 (by omega)
 have := dgf r 48 (by omega)
 have : (r == 44) = true := beq_true_of (by omega)
 have ⟨_, _, _, _, _, _, _, _⟩ := n8 r 10 13 9 32 160 8239 8287 12288 (by omega)
 have ⟨_, _, _, _, _, _, _, _⟩ := n8 r 45 8208 8209 8210 8211 8212 8213 34 (by omega)
 have ⟨_, _, _, _, _, _⟩ := n6 r 39 171 187 8249 8250 33 (by omega)
 have hv : kindI r = 8 := by unfold kindI; simp only [hg, hs, or_self, if_false]; (repeat' split) <;> first | rfl | omega
 rw [hv]
 go_enter Tryd.func81, Tryd.ntmps81
 go_wp2_with (first | (go_at_call 93; with_reducible refine cr (letter93 r (by omega) (by omega) _) ?_) | (go_at_call 94; with_reducible refine cr (mark94_any _ _) ?_))
 go_ret
 exact ⟨rfl, rfl⟩
theorem kind81_o_13 (r : Int) (hg : ¬ GreatP r) (hs : ¬ SmallP r) (h1 : 45 ≤ r) (h2 : r ≤ 45) (w : World) : Cx81 r w := by
 unfold Cx81
 have := dmf r 0 (by omega)
 have := dgf r 55296 (by omega)
 have := dnf r 1114111 (by omega)
 have : (greatB r || smallB r) = false := by rw [show greatB r = false from decide_eq_false hg, show smallB r = false from decide_eq_false hs]; rfl
 have := inf r 768 879 (by omega)
 have := dgf r 48 (by omega)
 have : (r == 45) = true := beq_true_of (by omega)
 have ⟨_, _, _, _, _, _, _, _⟩ := n8 r 10 13 9 32 160 8239 8287 12288 (by omega)
 have hv : kindI r = 6 := by unfold kindI; simp only [hg, hs, or_self, if_false]; (repeat' split) <;> first | rfl | omega
 rw [hv]
 go_enter Tryd.func81, Tryd.ntmps81
 go_wp2_with (first | (go_at_call 93; with_reducible refine cr (letter93 r (by omega) (by omega) _) ?_) | (go_at_call 94; with_reducible refine cr (mark94_any _ _) ?_))
 go_ret
 exact ⟨rfl, rfl⟩
theorem kind81_o_14 (r : Int) (hg : ¬ GreatP r) (hs : ¬ SmallP r) (h1 : 46 ≤ r) (h2 : r ≤ 46) (w : World) : Cx81 r w := by
 unfold Cx81
 have := dmf r 0 (by omega)
 have := dgf r 55296 (by omega)
 have := dnf r 1114111 (by omega)
 have : (greatB r || smallB r) = false := by rw [show greatB r = false from decide_eq_false hg, show smallB r = false from decide_eq_false hs]; rfl
 have := inf r 768 879 (by omega)
 have := dgf r 48 (by omega)
 have : (r == 46) = true := beq_true_of (by omega)
 have ⟨_, _, _, _, _, _, _, _⟩ := n8 r 10 13 9 32 160 8239 8287 12288 (by omega)
 have ⟨_, _, _, _, _, _, _, _⟩ := n8 r 45 8208 8209 8210 8211 8212 8213 34 (by omega)
 have ⟨_, _, _, _, _, _, _⟩ := n7 r 39 171 187 8249 8250 33 44 (by omega)
 have hv : kindI r = 8 := by unfold kindI; simp only [hg, hs, or_self, if_false]; (repeat' split) <;> first | rfl | omega
 rw [hv]
 go_enter Tryd.func81, Tryd.ntmps81
 go_wp2_with (first | (go_at_call 93; with_reducible refine cr (letter93 r (by omega) (by omega) _) ?_) | (go_at_call 94; with_reducible refine cr (mark94_any _ _) ?_))
 go_ret
 exact ⟨rfl, rfl⟩
theorem kind81_o_15 (r : Int) (hg : ¬ GreatP r) (hs : ¬ SmallP r) (h1 : 47 ≤ r) (h2 : r ≤ 47) (w : World) : Cx81 r w := by
 unfold Cx81
 have := dmf r 0 (by omega)
 have := dgf r 55296 (by omega)
 have := dnf r 1114111 (by omega)
 have : (greatB r || smallB r) = false := by rw [show greatB r = false from decide_eq_false hg, show smallB r = false from decide_eq_false hs]; rfl
 have := inf r 768 879 (by omega)
 have := dgf r 48 (by omega)
 have := dgf r 8192 (by omega)
 have := dgf r 8216 (by omega)
 have := dmf r 32 (by omega)
 have := dgf r 127 (by omega)
 have := dgf r 8203 (by omega)
 have ⟨_, _, _, _, _, _, _, _⟩ := n8 r 10 13 9 32 160 8239 8287 12288 (by omega)
 have ⟨_, _, _, _, _, _, _, _⟩ := n8 r 45 8208 8209 8210 8211 8212 8213 34 (by omega)
 have ⟨_, _, _, _, _, _, _, _⟩ := n8 r 39 171 187 8249 8250 33 44 46 (by omega)
 have ⟨_, _, _, _, _, _, _, _⟩ := n8 r 58 59 63 161 183 191 8230 65279 (by omega)
 have hv : kindI r = 10 := by unfold kindI; simp only [hg, hs, or_self, if_false]; (repeat' split) <;> first | rfl | omega
 rw [hv]
 go_enter Tryd.func81, Tryd.ntmps81
 go_wp2_with (first | (go_at_call 93; with_reducible refine cr (letter93 r (by omega) (by omega) _) ?_) | (go_at_call 94; with_reducible refine cr (mark94_any _ _) ?_))
 go_ret
 exact ⟨rfl, rfl⟩
theorem kind81_o_16 (r : Int) (hg : ¬ GreatP r) (hs : ¬ SmallP r) (h1 : 48 ≤ r) (h2 : r ≤ 57) (w : World) : Cx81 r w := by
 unfold Cx81
 have := dmf r 0 (by omega)
 have := dgf r 55296 (by omega)
 have := dnf r 1114111 (by omega)
 have : (greatB r || smallB r) = false := by rw [show greatB r = false from decide_eq_false hg, show smallB r = false from decide_eq_false hs]; rfl
 have := inf r 768 879 (by omega)
 have := dgt r 48 (by omega)
 have := dlt r 57 (by omega)
 have hv : kindI r = 3 := by unfold kindI; simp only [hg, hs, or_self, if_false]; (repeat' split) <;> first | rfl | omega
 rw [hv]
 go_enter Tryd.func81, Tryd.ntmps81
 go_wp2_with (first | (go_at_call 93; with_reducible refine cr (letter93 r (by omega) (by omega) _) ?_) | (go_at_call 94; with_reducible refine cr (mark94_any _ _) ?_))
 go_ret
 exact ⟨rfl, rfl⟩
theorem kind81_o_17 (r : Int) (hg : ¬ GreatP r) (hs : ¬ SmallP r) (h1 : 58 ≤ r) (h2 : r ≤ 58) (w : World) : Cx81 r w := by
 unfold Cx81
 have := dmf r 0 (by omega)
 have := dgf r 55296 (by omega)
 have := dnf r 1114111 (by omega)
 have : (greatB r || smallB r) = false := by rw [show greatB r = false from decide_eq_false hg, show smallB r = false from decide_eq_false hs]; rfl
 have := inf r 768 879 (by omega)
 have := dgt r 48 (by omega)
 have := dlf r 57 (by omega)
 have : (r == 58) = true := beq_true_of (by omega)
 have ⟨_, _, _, _, _, _, _, _⟩ := n8 r 10 13 9 32 160 8239 8287 12288 (by omega)
 have ⟨_, _, _, _, _, _, _, _⟩ := n8 r 45 8208 8209 8210 8211 8212 8213 34 (by omega)
 have ⟨_, _, _, _, _, _, _, _⟩ := n8 r 39 171 187 8249 8250 33 44 46 (by omega)
 have hv : kindI r = 8 := by unfold kindI; simp only [hg, hs, or_self, if_false]; (repeat' split) <;> first | rfl | omega
 rw [hv]
 go_enter Tryd.func81, Tryd.ntmps81
 go_wp2_with (first | (go_at_call 93; with_reducible refine cr (letter93 r (by omega) (by omega) _) ?_) | (go_at_call 94; with_reducible refine cr (mark94_any _ _) ?_))
 go_ret
 exact ⟨rfl, rfl⟩
theorem kind81_o_18 (r : Int) (hg : ¬ GreatP r) (hs : ¬ SmallP r) (h1 : 59 ≤ r) (h2 : r ≤ 59) (w : World) : Cx81 r w := by
 unfold Cx81
 have := dmf r 0 (by omega)
 have := dgf r 55296 (by omega)
 have := dnf r 1114111 (by omega)
 have : (greatB r || smallB r) = false := by rw [show greatB r = false from decide_eq_false hg, show smallB r = false from decide_eq_false hs]; rfl
 have := inf r 768 879 (by omega)
 have := dgt r 48 (by omega)
 have := dlf r 57 (by omega)
 have : (r == 59) = true := beq_true_of (by omega)
 have ⟨_, _, _, _, _, _, _, _⟩ := n8 r 10 13 9 32 160 8239 8287 12288 (by omega)
 have ⟨_, _, _, _, _, _, _, _⟩ := n8 r 45 8208 8209 8210 8211 8212 8213 34 (by omega)
 have ⟨_, _, _, _, _, _, _, _⟩ := n8 r 39 171 187 8249 8250 33 44 46 (by omega)
 have := n1 r 58 (by omega)
 have hv : kindI r = 8 := by unfold kindI; simp only [hg, hs, or_self, if_false]; (repeat' split) <;> first | rfl | omega
 rw [hv]
 go_enter Tryd.func81, Tryd.ntmps81
 go_wp2_with (first | (go_at_call 93; with_reducible refine cr (letter93 r (by omega) (by omega) _) ?_) | (go_at_call 94; with_reducible refine cr (mark94_any _ _) ?_))
 go_ret
 exact ⟨rfl, rfl⟩
theorem kind81_o_19 (r : Int) (hg : ¬ GreatP r) (hs : ¬ SmallP r) (h1 : 60 ≤ r) (h2 : r ≤ 62) (w : World) : Cx81 r w := by
 unfold Cx81
 have := dmf r 0 (by omega)
 have := dgf r 55296 (by omega)
 have := dnf r 1114111 (by omega)
 have : (greatB r || smallB r) = false := by rw [show greatB r = false from decide_eq_false hg, show smallB r = false from decide_eq_false hs]; rfl
 have := inf r 768 879 (by omega)
 have := dgt r 48 (by omega)
 have := dlf r 57 (by omega)
 have := dgf r 8192 (by omega)
 have := dgf r 8216 (by omega)
 have := dmf r 32 (by omega)
 have := dgf r 127 (by omega)
 have := dgf r 8203 (by omega)
 have ⟨_, _, _, _, _, _, _, _⟩ := n8 r 10 13 9 32 160 8239 8287 12288 (by omega)
 have ⟨_, _, _, _, _, _, _, _⟩ := n8 r 45 8208 8209 8210 8211 8212 8213 34 (by omega)
 have ⟨_, _, _, _, _, _, _, _⟩ := n8 r 39 171 187 8249 8250 33 44 46 (by omega)
 have ⟨_, _, _, _, _, _, _, _⟩ := n8 r 58 59 63 161 183 191 8230 65279 (by omega)
 have hv : kindI r = 10 := by unfold kindI; simp only [hg, hs, or_self, if_false]; (repeat' split) <;> first | rfl | omega
 rw [hv]
 go_enter Tryd.func81, Tryd.ntmps81
 go_wp2_with (first | (go_at_call 93; with_reducible refine cr (letter93 r (by omega) (by omega) _) ?_) | (go_at_call 94; with_reducible refine cr (mark94_any _ _) ?_))
 go_ret
 exact ⟨rfl, rfl⟩
theorem kind81_o_20 (r : Int) (hg : ¬ GreatP r) (hs : ¬ SmallP r) (h1 : 63 ≤ r) (h2 : r ≤ 63) (w : World) : Cx81 r w := by
 unfold Cx81
 have := dmf r 0 (by omega)
 have := dgf r 55296 (by omega)
 have := dnf r 1114111 (by omega)
 have : (greatB r || smallB r) = false := by rw [show greatB r = false from decide_eq_false hg, show smallB r = false from decide_eq_false hs]; rfl
 have := inf r 768 879 (by omega)
 have := dgt r 48 (by omega)
 have := dlf r 57 (by omega)
 have : (r == 63) = true := beq_true_of (by omega)
 have ⟨_, _, _, _, _, _, _, _⟩ := n8 r 10 13 9 32 160 8239 8287 12288 (by omega)
 have ⟨_, _, _, _, _, _, _, _⟩ := n8 r 45 8208 8209 8210 8211 8212 8213 34 (by omega)
 have ⟨_, _, _, _, _, _, _, _⟩ := n8 r 39 171 187 8249 8250 33 44 46 (by omega)
 have ⟨_, _⟩ := n2 r 58 59 (by omega)
 have hv : kindI r = 8 := by unfold kindI; simp only [hg, hs, or_self, if_false]; (repeat' split) <;> first | rfl | omega
 rw [hv]
 go_enter Tryd.func81, Tryd.ntmps81
 go_wp2_with (first | (go_at_call 93; with_reducible refine cr (letter93 r (by omega) (by omega) _) ?_) | (go_at_call 94; with_reducible refine cr (mark94_any _ _) ?_))
 go_ret
 exact ⟨rfl, rfl⟩
theorem kind81_o_21 (r : Int) (hg : ¬ GreatP r) (hs : ¬ SmallP r) (h1 : 64 ≤ r) (h2 : r ≤ 126) (w : World) : Cx81 r w := by
 unfold Cx81
 have := dmf r 0 (by omega)
 have := dgf r 55296 (by omega)
 have := dnf r 1114111 (by omega)
 have : (greatB r || smallB r) = false := by rw [show greatB r = false from decide_eq_false hg, show smallB r = false from decide_eq_false hs]; rfl
 have := inf r 768 879 (by omega)
 have := dgt r 48 (by omega)
 have := dlf r 57 (by omega)
 have := dgf r 8192 (by omega)
 have := dgf r 8216 (by omega)
 have := dmf r 32 (by omega)
 have := dgf r 127 (by omega)
 have := dgf r 8203 (by omega)
 have ⟨_, _, _, _, _, _, _, _⟩ := n8 r 10 13 9 32 160 8239 8287 12288 (by omega)
 have ⟨_, _, _, _, _, _, _, _⟩ := n8 r 45 8208 8209 8210 8211 8212 8213 34 (by omega)
 have ⟨_, _, _, _, _, _, _, _⟩ := n8 r 39 171 187 8249 8250 33 44 46 (by omega)
 have ⟨_, _, _, _, _, _, _, _⟩ := n8 r 58 59 63 161 183 191 8230 65279 (by omega)
 have hv : kindI r = 10 := by unfold kindI; simp only [hg, hs, or_self, if_false]; (repeat' split) <;> first | rfl | omega
 rw [hv]
 go_enter Tryd.func81, Tryd.ntmps81
 go_wp2_with (first | (go_at_call 93; with_reducible refine cr (letter93 r (by omega) (by omega) _) ?_) | (go_at_call 94; with_reducible refine cr (mark94_any _ _) ?_))
 go_ret
 exact ⟨rfl, rfl⟩
theorem kind81_o_22 (r : Int) (hg : ¬ GreatP r) (hs : ¬ SmallP r) (h1 : 127 ≤ r) (h2 : r ≤ 159) (w : World) : Cx81 r w := by
 unfold Cx81
 have := dmf r 0 (by omega)
 have := dgf r 55296 (by omega)
 have := dnf r 1114111 (by omega)
 have : (greatB r || smallB r) = false := by rw [show greatB r = false from decide_eq_false hg, show smallB r = false from decide_eq_false hs]; rfl
 have := inf r 768 879 (by omega)
 have := dgt r 48 (by omega)
 have := dlf r 57 (by omega)
 have := dgf r 8192 (by omega)
 have := dgf r 8216 (by omega)
 have := dmf r 32 (by omega)
 have := dgt r 127 (by omega)
 have := dlt r 159 (by omega)
 have ⟨_, _, _, _, _, _, _, _⟩ := n8 r 10 13 9 32 160 8239 8287 12288 (by omega)
 have ⟨_, _, _, _, _, _, _, _⟩ := n8 r 45 8208 8209 8210 8211 8212 8213 34 (by omega)
 have ⟨_, _, _, _, _, _, _, _⟩ := n8 r 39 171 187 8249 8250 33 44 46 (by omega)
 have ⟨_, _, _, _, _, _, _⟩ := n7 r 58 59 63 161 183 191 8230 (by omega)
 have hv : kindI r = 9 := by unfold kindI; simp only [hg, hs, or_self, if_false]; (repeat' split) <;> first | rfl | omega
 rw [hv]
 go_enter Tryd.func81, Tryd.ntmps81
 go_wp2_with (first | (go_at_call 93; with_reducible refine cr (letter93 r (by omega) (by omega) _) ?_) | (go_at_call 94; with_reducible refine cr (mark94_any _ _) ?_))
 go_ret
 exact ⟨rfl, rfl⟩
theorem kind81_o_23 (r : Int) (hg : ¬ GreatP r) (hs : ¬ SmallP r) (h1 : 160 ≤ r) (h2 : r ≤ 160) (w : World) : Cx81 r w := by
 unfold Cx81
 have := dmf r 0 (by omega)
 have := dgf r 55296 (by omega)
 have := dnf r 1114111 (by omega)
 have : (greatB r || smallB r) = false := by rw [show greatB r = false from decide_eq_false hg, show smallB r = false from decide_eq_false hs]; rfl
 have := inf r 768 879 (by omega)
 have := dgt r 48 (by omega)
 have := dlf r 57 (by omega)
 have : (r == 160) = true := beq_true_of (by omega)
 have ⟨_, _, _, _⟩ := n4 r 10 13 9 32 (by omega)
 have hv : kindI r = 5 := by unfold kindI; simp only [hg, hs, or_self, if_false]; (repeat' split) <;> first | rfl | omega
 rw [hv]
 go_enter Tryd.func81, Tryd.ntmps81
 go_wp2_with (first | (go_at_call 93; with_reducible refine cr (letter93 r (by omega) (by omega) _) ?_) | (go_at_call 94; with_reducible refine cr (mark94_any _ _) ?_))
 go_ret
 exact ⟨rfl, rfl⟩
theorem kind81_o_24 (r : Int) (hg : ¬ GreatP r) (hs : ¬ SmallP r) (h1 : 161 ≤ r) (h2 : r ≤ 161) (w : World) : Cx81 r w := by
 unfold Cx81
 have := dmf r 0 (by omega)
 have := dgf r 55296 (by omega)
 have := dnf r 1114111 (by omega)
 have : (greatB r || smallB r) = false := by rw [show greatB r = false from decide_eq_false hg, show smallB r = false from decide_eq_false hs]; rfl
 have := inf r 768 879 (by omega)
 have := dgt r 48 (by omega)
 have := dlf r 57 (by omega)
 have : (r == 161) = true := beq_true_of (by omega)
 have ⟨_, _, _, _, _, _, _, _⟩ := n8 r 10 13 9 32 160 8239 8287 12288 (by omega)
 have ⟨_, _, _, _, _, _, _, _⟩ := n8 r 45 8208 8209 8210 8211 8212 8213 34 (by omega)
 have ⟨_, _, _, _, _, _, _, _⟩ := n8 r 39 171 187 8249 8250 33 44 46 (by omega)
 have ⟨_, _, _⟩ := n3 r 58 59 63 (by omega)
 have hv : kindI r = 8 := by unfold kindI; simp only [hg, hs, or_self, if_false]; (repeat' split) <;> first | rfl | omega
 rw [hv]
 go_enter Tryd.func81, Tryd.ntmps81
 go_wp2_with (first | (go_at_call 93; with_reducible refine cr (letter93 r (by omega) (by omega) _) ?_) | (go_at_call 94; with_reducible refine cr (mark94_any _ _) ?_))
 go_ret
 exact ⟨rfl, rfl⟩
theorem kind81_o_25 (r : Int) (hg : ¬ GreatP r) (hs : ¬ SmallP r) (h1 : 162 ≤ r) (h2 : r ≤ 170) (w : World) : Cx81 r w := by
 unfold Cx81
 have := dmf r 0 (by omega)
 have := dgf r 55296 (by omega)
 have := dnf r 1114111 (by omega)
 have : (greatB r || smallB r) = false := by rw [show greatB r = false from decide_eq_false hg, show smallB r = false from decide_eq_false hs]; rfl
 have := inf r 768 879 (by omega)
 have := dgt r 48 (by omega)
 have := dlf r 57 (by omega)
 have := dgf r 8192 (by omega)
 have := dgf r 8216 (by omega)
 have := dmf r 32 (by omega)
 have := dgt r 127 (by omega)
 have := dlf r 159 (by omega)
 have := dgf r 8203 (by omega)
 have ⟨_, _, _, _, _, _, _, _⟩ := n8 r 10 13 9 32 160 8239 8287 12288 (by omega)
 have ⟨_, _, _, _, _, _, _, _⟩ := n8 r 45 8208 8209 8210 8211 8212 8213 34 (by omega)
 have ⟨_, _, _, _, _, _, _, _⟩ := n8 r 39 171 187 8249 8250 33 44 46 (by omega)
 have ⟨_, _, _, _, _, _, _, _⟩ := n8 r 58 59 63 161 183 191 8230 65279 (by omega)
 have hv : kindI r = 10 := by unfold kindI; simp only [hg, hs, or_self, if_false]; (repeat' split) <;> first | rfl | omega
 rw [hv]
 go_enter Tryd.func81, Tryd.ntmps81
 go_wp2_with (first | (go_at_call 93; with_reducible refine cr (letter93 r (by omega) (by omega) _) ?_) | (go_at_call 94; with_reducible refine cr (mark94_any _ _) ?_))
 go_ret
 exact ⟨rfl, rfl⟩
theorem kind81_o_26 (r : Int) (hg : ¬ GreatP r) (hs : ¬ SmallP r) (h1 : 171 ≤ r) (h2 : r ≤ 171) (w : World) : Cx81 r w := by
 unfold Cx81
 have := dmf r 0 (by omega)
 have := dgf r 55296 (by omega)
 have := dnf r 1114111 (by omega)
 have : (greatB r || smallB r) = false := by rw [show greatB r = false from decide_eq_false hg, show smallB r = false from decide_eq_false hs]; rfl
 have := inf r 768 879 (by omega)
 have := dgt r 48 (by omega)
 have := dlf r 57 (by omega)
 have : (r == 171) = true := beq_true_of (by omega)
 have ⟨_, _, _, _, _, _, _, _⟩ := n8 r 10 13 9 32 160 8239 8287 12288 (by omega)
 have ⟨_, _, _, _, _, _, _, _⟩ := n8 r 45 8208 8209 8210 8211 8212 8213 34 (by omega)
 have := n1 r 39 (by omega)
 have hv : kindI r = 7 := by unfold kindI; simp only [hg, hs, or_self, if_false]; (repeat' split) <;> first | rfl | omega
 rw [hv]
 go_enter Tryd.func81, Tryd.ntmps81
 go_wp2_with (first | (go_at_call 93; with_reducible refine cr (letter93 r (by omega) (by omega) _) ?_) | (go_at_call 94; with_reducible refine cr (mark94_any _ _) ?_))
 go_ret
 exact ⟨rfl, rfl⟩
theorem kind81_o_27 (r : Int) (hg : ¬ GreatP r) (hs : ¬ SmallP r) (h1 : 172 ≤ r) (h2 : r ≤ 182) (w : World) : Cx81 r w := by
 unfold Cx81
 have := dmf r 0 (by omega)
 have := dgf r 55296 (by omega)
 have := dnf r 1114111 (by omega)
 have : (greatB r || smallB r) = false := by rw [show greatB r = false from decide_eq_false hg, show smallB r = false from decide_eq_false hs]; rfl
 have := inf r 768 879 (by omega)
 have := dgt r 48 (by omega)
 have := dlf r 57 (by omega)
 have := dgf r 8192 (by omega)
 have := dgf r 8216 (by omega)
 have := dmf r 32 (by omega)
 have := dgt r 127 (by omega)
 have := dlf r 159 (by omega)
 have := dgf r 8203 (by omega)
 have ⟨_, _, _, _, _, _, _, _⟩ := n8 r 10 13 9 32 160 8239 8287 12288 (by omega)
 have ⟨_, _, _, _, _, _, _, _⟩ := n8 r 45 8208 8209 8210 8211 8212 8213 34 (by omega)
 have ⟨_, _, _, _, _, _, _, _⟩ := n8 r 39 171 187 8249 8250 33 44 46 (by omega)
 have ⟨_, _, _, _, _, _, _, _⟩ := n8 r 58 59 63 161 183 191 8230 65279 (by omega)
 have hv : kindI r = 10 := by unfold kindI; simp only [hg, hs, or_self, if_false]; (repeat' split) <;> first | rfl | omega
 rw [hv]
 go_enter Tryd.func81, Tryd.ntmps81
 go_wp2_with (first | (go_at_call 93; with_reducible refine cr (letter93 r (by omega) (by omega) _) ?_) | (go_at_call 94; with_reducible refine cr (mark94_any _ _) ?_))
 go_ret
 exact ⟨rfl, rfl⟩
theorem kind81_o_28 (r : Int) (hg : ¬ GreatP r) (hs : ¬ SmallP r) (h1 : 183 ≤ r) (h2 : r ≤ 183) (w : World) : Cx81 r w := by
 unfold Cx81
 have := dmf r 0 (by omega)
 have := dgf r 55296 (by omega)
 have := dnf r 1114111 (by omega)
 have : (greatB r || smallB r) = false := by rw [show greatB r = false from decide_eq_false hg, show smallB r = false from decide_eq_false hs]; rfl
 have := inf r 768 879 (by omega)
 have := dgt r 48 (by omega)
 have := dlf r 57 (by omega)
 have : (r == 183) = true := beq_true_of (by omega)
 have ⟨_, _, _, _, _, _, _, _⟩ := n8 r 10 13 9 32 160 8239 8287 12288 (by omega)
 have ⟨_, _, _, _, _, _, _, _⟩ := n8 r 45 8208 8209 8210 8211 8212 8213 34 (by omega)
 have ⟨_, _, _, _, _, _, _, _⟩ := n8 r 39 171 187 8249 8250 33 44 46 (by omega)
 have ⟨_, _, _, _⟩ := n4 r 58 59 63 161 (by omega)
 have hv : kindI r = 8 := by unfold kindI; simp only [hg, hs, or_self, if_false]; (repeat' split) <;> first | rfl | omega
 rw [hv]
 go_enter Tryd.func81, Tryd.ntmps81
 go_wp2_with (first | (go_at_call 93; with_reducible refine cr (letter93 r (by omega) (by omega) _) ?_) | (go_at_call 94; with_reducible refine cr (mark94_any _ _) ?_))
 go_ret
 exact ⟨rfl, rfl⟩
theorem kind81_o_29 (r : Int) (hg : ¬ GreatP r) (hs : ¬ SmallP r) (h1 : 184 ≤ r) (h2 : r ≤ 186) (w : World) : Cx81 r w := by
 unfold Cx81
 have := dmf r 0 (by omega)
 have := dgf r 55296 (by omega)
 have := dnf r 1114111 (by omega)
 have : (greatB r || smallB r) = false := by rw [show greatB r = false from decide_eq_false hg, show smallB r = false from decide_eq_false hs]; rfl
 have := inf r 768 879 (by omega)
 have := dgt r 48 (by omega)
 have := dlf r 57 (by omega)
 have := dgf r 8192 (by omega)
 have := dgf r 8216 (by omega)
 have := dmf r 32 (by omega)
 have := dgt r 127 (by omega)
 have := dlf r 159 (by omega)
 have := dgf r 8203 (by omega)
 have ⟨_, _, _, _, _, _, _, _⟩ := n8 r 10 13 9 32 160 8239 8287 12288 (by omega)
 have ⟨_, _, _, _, _, _, _, _⟩ := n8 r 45 8208 8209 8210 8211 8212 8213 34 (by omega)
 have ⟨_, _, _, _, _, _, _, _⟩ := n8 r 39 171 187 8249 8250 33 44 46 (by omega)
 have ⟨_, _, _, _, _, _, _, _⟩ := n8 r 58 59 63 161 183 191 8230 65279 (by omega)
 have hv : kindI r = 10 := by unfold kindI; simp only [hg, hs, or_self, if_false]; (repeat' split) <;> first | rfl | omega
 rw [hv]
 go_enter Tryd.func81, Tryd.ntmps81
 go_wp2_with (first | (go_at_call 93; with_reducible refine cr (letter93 r (by omega) (by omega) _) ?_) | (go_at_call 94; with_reducible refine cr (mark94_any _ _) ?_))
 go_ret
 exact ⟨rfl, rfl⟩
theorem kind81_o_30 (r : Int) (hg : ¬ GreatP r) (hs : ¬ SmallP r) (h1 : 187 ≤ r) (h2 : r ≤ 187) (w : World) : Cx81 r w := by
 unfold Cx81
 have := dmf r 0 (by omega)
 have := dgf r 55296 (by omega)
 have := dnf r 1114111 (by omega)
 have : (greatB r || smallB r) = false := by rw [show greatB r = false from decide_eq_false hg, show smallB r = false from decide_eq_false hs]; rfl
 have := inf r 768 879 (by omega)
 have := dgt r 48 (by omega)
 have := dlf r 57 (by omega)
 have : (r == 187) = true := beq_true_of (by omega)
 have ⟨_, _, _, _, _, _, _, _⟩ := n8 r 10 13 9 32 160 8239 8287 12288 (by omega)
 have ⟨_, _, _, _, _, _, _, _⟩ := n8 r 45 8208 8209 8210 8211 8212 8213 34 (by omega)
 have ⟨_, _⟩ := n2 r 39 171 (by omega)
 have hv : kindI r = 7 := by unfold kindI; simp only [hg, hs, or_self, if_false]; (repeat' split) <;> first | rfl | omega
 rw [hv]
 go_enter Tryd.func81, Tryd.ntmps81
 go_wp2_with (first | (go_at_call 93; with_reducible refine cr (letter93 r (by omega) (by omega) _) ?_) | (go_at_call 94; with_reducible refine cr (mark94_any _ _) ?_))
 go_ret
 exact ⟨rfl, rfl⟩
theorem kind81_o_31 (r : Int) (hg : ¬ GreatP r) (hs : ¬ SmallP r) (h1 : 188 ≤ r) (h2 : r ≤ 190) (w : World) : Cx81 r w := by
 unfold Cx81
 have := dmf r 0 (by omega)
 have := dgf r 55296 (by omega)
 have := dnf r 1114111 (by omega)
 have : (greatB r || smallB r) = false := by rw [show greatB r = false from decide_eq_false hg, show smallB r = false from decide_eq_false hs]; rfl
 have := inf r 768 879 (by omega)
 have := dgt r 48 (by omega)
 have := dlf r 57 (by omega)
 have := dgf r 8192 (by omega)
 have := dgf r 8216 (by omega)
 have := dmf r 32 (by omega)
 have := dgt r 127 (by omega)
 have := dlf r 159 (by omega)
 have := dgf r 8203 (by omega)
 have ⟨_, _, _, _, _, _, _, _⟩ := n8 r 10 13 9 32 160 8239 8287 12288 (by omega)
 have ⟨_, _, _, _, _, _, _, _⟩ := n8 r 45 8208 8209 8210 8211 8212 8213 34 (by omega)
 have ⟨_, _, _, _, _, _, _, _⟩ := n8 r 39 171 187 8249 8250 33 44 46 (by omega)
 have ⟨_, _, _, _, _, _, _, _⟩ := n8 r 58 59 63 161 183 191 8230 65279 (by omega)
 have hv : kindI r = 10 := by unfold kindI; simp only [hg, hs, or_self, if_false]; (repeat' split) <;> first | rfl | omega
 rw [hv]
 go_enter Tryd.func81, Tryd.ntmps81
 go_wp2_with (first | (go_at_call 93; with_reducible refine cr (letter93 r (by omega) (by omega) _) ?_) | (go_at_call 94; with_reducible refine cr (mark94_any _ _) ?_))
 go_ret
 exact ⟨rfl, rfl⟩
theorem kind81_o_32 (r : Int) (hg : ¬ GreatP r) (hs : ¬ SmallP r) (h1 : 191 ≤ r) (h2 : r ≤ 191) (w : World) : Cx81 r w := by
 unfold Cx81
 have := dmf r 0 (by omega)
 have := dgf r 55296 (by omega)
 have := dnf r 1114111 (by omega)
 have : (greatB r || smallB r) = false := by rw [show greatB r = false from decide_eq_false hg, show smallB r = false from decide_eq_false hs]; rfl
 have := inf r 768 879 (by omega)
 have := dgt r 48 (by omega)
 have := dlf r 57 (by omega)
 have : (r == 191) = true := beq_true_of (by omega)
 have ⟨_, _, _, _, _, _, _, _⟩ := n8 r 10 13 9 32 160 8239 8287 12288 (by omega)
 have ⟨_, _, _, _, _, _, _, _⟩ := n8 r 45 8208 8209 8210 8211 8212 8213 34 (by omega)
 have ⟨_, _, _, _, _, _, _, _⟩ := n8 r 39 171 187 8249 8250 33 44 46 (by omega)
 have ⟨_, _, _, _, _⟩ := n5 r 58 59 63 161 183 (by omega)
 have hv : kindI r = 8 := by unfold kindI; simp only [hg, hs, or_self, if_false]; (repeat' split) <;> first | rfl | omega
 rw [hv]
 go_enter Tryd.func81, Tryd.ntmps81
 go_wp2_with (first | (go_at_call 93; with_reducible refine cr (letter93 r (by omega) (by omega) _) ?_) | (go_at_call 94; with_reducible refine cr (mark94_any _ _) ?_))
 go_ret
 exact ⟨rfl, rfl⟩
theorem kind81_o_33 (r : Int) (hg : ¬ GreatP r) (hs : ¬ SmallP r) (h1 : 192 ≤ r) (h2 : r ≤ 767) (w : World) : Cx81 r w := by
 unfold Cx81
 have := dmf r 0 (by omega)
 have := dgf r 55296 (by omega)
 have := dnf r 1114111 (by omega)
 have : (greatB r || smallB r) = false := by rw [show greatB r = false from decide_eq_false hg, show smallB r = false from decide_eq_false hs]; rfl
 have := inf r 768 879 (by omega)
 have := dgt r 48 (by omega)
 have := dlf r 57 (by omega)
 have := dgf r 8192 (by omega)
 have := dgf r 8216 (by omega)
 have := dmf r 32 (by omega)
 have := dgt r 127 (by omega)
 have := dlf r 159 (by omega)
 have := dgf r 8203 (by omega)
 have ⟨_, _, _, _, _, _, _, _⟩ := n8 r 10 13 9 32 160 8239 8287 12288 (by omega)
 have ⟨_, _, _, _, _, _, _, _⟩ := n8 r 45 8208 8209 8210 8211 8212 8213 34 (by omega)
 have ⟨_, _, _, _, _, _, _, _⟩ := n8 r 39 171 187 8249 8250 33 44 46 (by omega)
 have ⟨_, _, _, _, _, _, _, _⟩ := n8 r 58 59 63 161 183 191 8230 65279 (by omega)
 have hv : kindI r = 10 := by unfold kindI; simp only [hg, hs, or_self, if_false]; (repeat' split) <;> first | rfl | omega
 rw [hv]
 go_enter Tryd.func81, Tryd.ntmps81
 go_wp2_with (first | (go_at_call 93; with_reducible refine cr (letter93 r (by omega) (by omega) _) ?_) | (go_at_call 94; with_reducible refine cr (mark94_any _ _) ?_))
 go_ret
 exact ⟨rfl, rfl⟩
theorem kind81_o_34 (r : Int) (hg : ¬ GreatP r) (hs : ¬ SmallP r) (h1 : 768 ≤ r) (h2 : r ≤ 879) (w : World) : Cx81 r w := by
 unfold Cx81
 have := dmf r 0 (by omega)
 have := dgf r 55296 (by omega)
 have := dnf r 1114111 (by omega)
 have : (greatB r || smallB r) = false := by rw [show greatB r = false from decide_eq_false hg, show smallB r = false from decide_eq_false hs]; rfl
 have := it r 768 879 (by omega)
 have hv : kindI r = 2 := by unfold kindI; simp only [hg, hs, or_self, if_false]; (repeat' split) <;> first | rfl | omega
 rw [hv]
 go_enter Tryd.func81, Tryd.ntmps81
 go_wp2_with (first | (go_at_call 93; with_reducible refine cr (letter93 r (by omega) (by omega) _) ?_) | (go_at_call 94; with_reducible refine cr (mark94_any _ _) ?_))
 go_ret
 exact ⟨rfl, rfl⟩
theorem kind81_o_35 (r : Int) (hg : ¬ GreatP r) (hs : ¬ SmallP r) (h1 : 880 ≤ r) (h2 : r ≤ 8191) (w : World) : Cx81 r w := by
 unfold Cx81
 have := dmf r 0 (by omega)
 have := dgf r 55296 (by omega)
 have := dnf r 1114111 (by omega)
 have : (greatB r || smallB r) = false := by rw [show greatB r = false from decide_eq_false hg, show smallB r = false from decide_eq_false hs]; rfl
 have := inf r 768 879 (by omega)
 have := dgt r 48 (by omega)
 have := dlf r 57 (by omega)
 have := dgf r 8192 (by omega)
 have := dgf r 8216 (by omega)
 have := dmf r 32 (by omega)
 have := dgt r 127 (by omega)
 have := dlf r 159 (by omega)
 have := dgf r 8203 (by omega)
 have ⟨_, _, _, _, _, _, _, _⟩ := n8 r 10 13 9 32 160 8239 8287 12288 (by omega)
 have ⟨_, _, _, _, _, _, _, _⟩ := n8 r 45 8208 8209 8210 8211 8212 8213 34 (by omega)
 have ⟨_, _, _, _, _, _, _, _⟩ := n8 r 39 171 187 8249 8250 33 44 46 (by omega)
 have ⟨_, _, _, _, _, _, _, _⟩ := n8 r 58 59 63 161 183 191 8230 65279 (by omega)
 have hv : kindI r = 10 := by unfold kindI; simp only [hg, hs, or_self, if_false]; (repeat' split) <;> first | rfl | omega
 rw [hv]
 go_enter Tryd.func81, Tryd.ntmps81
 go_wp2_with (first | (go_at_call 93; with_reducible refine cr (letter93 r (by omega) (by omega) _) ?_) | (go_at_call 94; with_reducible refine cr (mark94_any _ _) ?_))
 go_ret
 exact ⟨rfl, rfl⟩
theorem kind81_o_36 (r : Int) (hg : ¬ GreatP r) (hs : ¬ SmallP r) (h1 : 8192 ≤ r) (h2 : r ≤ 8202) (w : World) : Cx81 r w := by
 unfold Cx81
 have := dmf r 0 (by omega)
 have := dgf r 55296 (by omega)
 have := dnf r 1114111 (by omega)
 have : (greatB r || smallB r) = false := by rw [show greatB r = false from decide_eq_false hg, show smallB r = false from decide_eq_false hs]; rfl
 have := inf r 768 879 (by omega)
 have := dgt r 48 (by omega)
 have := dlf r 57 (by omega)
 have := dgt r 8192 (by omega)
 have := dlt r 8202 (by omega)
 have ⟨_, _, _, _, _, _, _, _⟩ := n8 r 10 13 9 32 160 8239 8287 12288 (by omega)
 have ⟨_, _, _, _, _, _, _, _⟩ := n8 r 45 8208 8209 8210 8211 8212 8213 34 (by omega)
 have ⟨_, _, _, _, _, _, _, _⟩ := n8 r 39 171 187 8249 8250 33 44 46 (by omega)
 have ⟨_, _, _, _, _, _, _⟩ := n7 r 58 59 63 161 183 191 8230 (by omega)
 have hv : kindI r = 5 := by unfold kindI; simp only [hg, hs, or_self, if_false]; (repeat' split) <;> first | rfl | omega
 rw [hv]
 go_enter Tryd.func81, Tryd.ntmps81
 go_wp2_with (first | (go_at_call 93; with_reducible refine cr (letter93 r (by omega) (by omega) _) ?_) | (go_at_call 94; with_reducible refine cr (mark94_any _ _) ?_))
 go_ret
 exact ⟨rfl, rfl⟩
theorem kind81_o_37 (r : Int) (hg : ¬ GreatP r) (hs : ¬ SmallP r) (h1 : 8203 ≤ r) (h2 : r ≤ 8207) (w : World) : Cx81 r w := by
 unfold Cx81
 have := dmf r 0 (by omega)
 have := dgf r 55296 (by omega)
 have := dnf r 1114111 (by omega)
 have : (greatB r || smallB r) = false := by rw [show greatB r = false from decide_eq_false hg, show smallB r = false from decide_eq_false hs]; rfl
 have := inf r 768 879 (by omega)
 have := dgt r 48 (by omega)
 have := dlf r 57 (by omega)
 have := dgt r 8192 (by omega)
 have := dlf r 8202 (by omega)
 have := dgf r 8216 (by omega)
 have := dmf r 32 (by omega)
 have := dgt r 127 (by omega)
 have := dlf r 159 (by omega)
 have := dgt r 8203 (by omega)
 have := dlt r 8207 (by omega)
 have ⟨_, _, _, _, _, _, _, _⟩ := n8 r 10 13 9 32 160 8239 8287 12288 (by omega)
 have ⟨_, _, _, _, _, _, _, _⟩ := n8 r 45 8208 8209 8210 8211 8212 8213 34 (by omega)
 have ⟨_, _, _, _, _, _, _, _⟩ := n8 r 39 171 187 8249 8250 33 44 46 (by omega)
 have ⟨_, _, _, _, _, _, _⟩ := n7 r 58 59 63 161 183 191 8230 (by omega)
 have hv : kindI r = 9 := by unfold kindI; simp only [hg, hs, or_self, if_false]; (repeat' split) <;> first | rfl | omega
 rw [hv]
 go_enter Tryd.func81, Tryd.ntmps81
 go_wp2_with (first | (go_at_call 93; with_reducible refine cr (letter93 r (by omega) (by omega) _) ?_) | (go_at_call 94; with_reducible refine cr (mark94_any _ _) ?_))
 go_ret
 exact ⟨rfl, rfl⟩
theorem kind81_o_38 (r : Int) (hg : ¬ GreatP r) (hs : ¬ SmallP r) (h1 : 8208 ≤ r) (h2 : r ≤ 8208) (w : World) : Cx81 r w := by
 unfold Cx81
 have := dmf r 0 (by omega)
 have := dgf r 55296 (by omega)
 have := dnf r 1114111 (by omega)
 have : (greatB r || smallB r) = false := by rw [show greatB r = false from decide_eq_false hg, show smallB r = false from decide_eq_false hs]; rfl
 have := inf r 768 879 (by omega)
 have := dgt r 48 (by omega)
 have := dlf r 57 (by omega)
 have : (r == 8208) = true := beq_true_of (by omega)
 have ⟨_, _, _, _, _, _, _, _⟩ := n8 r 10 13 9 32 160 8239 8287 12288 (by omega)
 have := n1 r 45 (by omega)
 have hv : kindI r = 6 := by unfold kindI; simp only [hg, hs, or_self, if_false]; (repeat' split) <;> first | rfl | omega
 rw [hv]
 go_enter Tryd.func81, Tryd.ntmps81
 go_wp2_with (first | (go_at_call 93; with_reducible refine cr (letter93 r (by omega) (by omega) _) ?_) | (go_at_call 94; with_reducible refine cr (mark94_any _ _) ?_))
 go_ret
 exact ⟨rfl, rfl⟩
theorem kind81_o_39 (r : Int) (hg : ¬ GreatP r) (hs : ¬ SmallP r) (h1 : 8209 ≤ r) (h2 : r ≤ 8209) (w : World) : Cx81 r w := by
 unfold Cx81
 have := dmf r 0 (by omega)
 have := dgf r 55296 (by omega)
 have := dnf r 1114111 (by omega)
 have : (greatB r || smallB r) = false := by rw [show greatB r = false from decide_eq_false hg, show smallB r = false from decide_eq_false hs]; rfl
 have := inf r 768 879 (by omega)
 have := dgt r 48 (by omega)
 have := dlf r 57 (by omega)
 have : (r == 8209) = true := beq_true_of (by omega)
 have ⟨_, _, _, _, _, _, _, _⟩ := n8 r 10 13 9 32 160 8239 8287 12288 (by omega)
 have ⟨_, _⟩ := n2 r 45 8208 (by omega)
 have hv : kindI r = 6 := by unfold kindI; simp only [hg, hs, or_self, if_false]; (repeat' split) <;> first | rfl | omega
 rw [hv]
 go_enter Tryd.func81, Tryd.ntmps81
 go_wp2_with (first | (go_at_call 93; with_reducible refine cr (letter93 r (by omega) (by omega) _) ?_) | (go_at_call 94; with_reducible refine cr (mark94_any _ _) ?_))
 go_ret
 exact ⟨rfl, rfl⟩
theorem kind81_o_40 (r : Int) (hg : ¬ GreatP r) (hs : ¬ SmallP r) (h1 : 8210 ≤ r) (h2 : r ≤ 8210) (w : World) : Cx81 r w := by
 unfold Cx81
 have := dmf r 0 (by omega)
 have := dgf r 55296 (by omega)
 have := dnf r 1114111 (by omega)
 have : (greatB r || smallB r) = false := by rw [show greatB r = false from decide_eq_false hg, show smallB r = false from decide_eq_false hs]; rfl
 have := inf r 768 879 (by omega)
 have := dgt r 48 (by omega)
 have := dlf r 57 (by omega)
 have : (r == 8210) = true := beq_true_of (by omega)
 have ⟨_, _, _, _, _, _, _, _⟩ := n8 r 10 13 9 32 160 8239 8287 12288 (by omega)
 have ⟨_, _, _⟩ := n3 r 45 8208 8209 (by omega)
 have hv : kindI r = 6 := by unfold kindI; simp only [hg, hs, or_self, if_false]; (repeat' split) <;> first | rfl | omega
 rw [hv]
 go_enter Tryd.func81, Tryd.ntmps81
 go_wp2_with (first | (go_at_call 93; with_reducible refine cr (letter93 r (by omega) (by omega) _) ?_) | (go_at_call 94; with_reducible refine cr (mark94_any _ _) ?_))
 go_ret
 exact ⟨rfl, rfl⟩
theorem kind81_o_41 (r : Int) (hg : ¬ GreatP r) (hs : ¬ SmallP r) (h1 : 8211 ≤ r) (h2 : r ≤ 8211) (w : World) : Cx81 r w := by
 unfold Cx81
 have := dmf r 0 (by omega)
 have := dgf r 55296 (by omega)
 have := dnf r 1114111 (by omega)
 have : (greatB r || smallB r) = false := by rw [show greatB r = false from decide_eq_false hg, show smallB r = false from decide_eq_false hs]; rfl
 have := inf r 768 879 (by omega)
 have := dgt r 48 (by omega)
 have := dlf r 57 (by omega)
 have : (r == 8211) = true := beq_true_of (by omega)
 have ⟨_, _, _, _, _, _, _, _⟩ := n8 r 10 13 9 32 160 8239 8287 12288 (by omega)
 have ⟨_, _, _, _⟩ := n4 r 45 8208 8209 8210 (by omega)
 have hv : kindI r = 6 := by unfold kindI; simp only [hg, hs, or_self, if_false]; (repeat' split) <;> first | rfl | omega
 rw [hv]
 go_enter Tryd.func81, Tryd.ntmps81
 go_wp2_with (first | (go_at_call 93; with_reducible refine cr (letter93 r (by omega) (by omega) _) ?_) | (go_at_call 94; with_reducible refine cr (mark94_any _ _) ?_))
 go_ret
 exact ⟨rfl, rfl⟩
theorem kind81_o_42 (r : Int) (hg : ¬ GreatP r) (hs : ¬ SmallP r) (h1 : 8212 ≤ r) (h2 : r ≤ 8212) (w : World) : Cx81 r w := by
 unfold Cx81
 have := dmf r 0 (by omega)
 have := dgf r 55296 (by omega)
 have := dnf r 1114111 (by omega)
 have : (greatB r || smallB r) = false := by rw [show greatB r = false from decide_eq_false hg, show smallB r = false from decide_eq_false hs]; rfl
 have := inf r 768 879 (by omega)
 have := dgt r 48 (by omega)
 have := dlf r 57 (by omega)
 have : (r == 8212) = true := beq_true_of (by omega)
 have ⟨_, _, _, _, _, _, _, _⟩ := n8 r 10 13 9 32 160 8239 8287 12288 (by omega)
 have ⟨_, _, _, _, _⟩ := n5 r 45 8208 8209 8210 8211 (by omega)
 have hv : kindI r = 6 := by unfold kindI; simp only [hg, hs, or_self, if_false]; (repeat' split) <;> first | rfl | omega
 rw [hv]
 go_enter Tryd.func81, Tryd.ntmps81
 go_wp2_with (first | (go_at_call 93; with_reducible refine cr (letter93 r (by omega) (by omega) _) ?_) | (go_at_call 94; with_reducible refine cr (mark94_any _ _) ?_))
 go_ret
 exact ⟨rfl, rfl⟩
theorem kind81_o_43 (r : Int) (hg : ¬ GreatP r) (hs : ¬ SmallP r) (h1 : 8213 ≤ r) (h2 : r ≤ 8213) (w : World) : Cx81 r w := by
 unfold Cx81
 have := dmf r 0 (by omega)
 have := dgf r 55296 (by omega)
 have := dnf r 1114111 (by omega)
 have : (greatB r || smallB r) = false := by rw [show greatB r = false from decide_eq_false hg, show smallB r = false from decide_eq_false hs]; rfl
 have := inf r 768 879 (by omega)
 have := dgt r 48 (by omega)
 have := dlf r 57 (by omega)
 have : (r == 8213) = true := beq_true_of (by omega)
 have ⟨_, _, _, _, _, _, _, _⟩ := n8 r 10 13 9 32 160 8239 8287 12288 (by omega)
 have ⟨_, _, _, _, _, _⟩ := n6 r 45 8208 8209 8210 8211 8212 (by omega)
 have hv : kindI r = 6 := by unfold kindI; simp only [hg, hs, or_self, if_false]; (repeat' split) <;> first | rfl | omega
 rw [hv]
 go_enter Tryd.func81, Tryd.ntmps81
 go_wp2_with (first | (go_at_call 93; with_reducible refine cr (letter93 r (by omega) (by omega) _) ?_) | (go_at_call 94; with_reducible refine cr (mark94_any _ _) ?_))
 go_ret
 exact ⟨rfl, rfl⟩
theorem kind81_o_44 (r : Int) (hg : ¬ GreatP r) (hs : ¬ SmallP r) (h1 : 8214 ≤ r) (h2 : r ≤ 8215) (w : World) : Cx81 r w := by
 unfold Cx81
 have := dmf r 0 (by omega)
 have := dgf r 55296 (by omega)
 have := dnf r 1114111 (by omega)
 have : (greatB r || smallB r) = false := by rw [show greatB r = false from decide_eq_false hg, show smallB r = false from decide_eq_false hs]; rfl
 have := inf r 768 879 (by omega)
 have := dgt r 48 (by omega)
 have := dlf r 57 (by omega)
 have := dgt r 8192 (by omega)
 have := dlf r 8202 (by omega)
 have := dgf r 8216 (by omega)
 have := dmf r 32 (by omega)
 have := dgt r 127 (by omega)
 have := dlf r 159 (by omega)
 have := dgt r 8203 (by omega)
 have := dlf r 8207 (by omega)
 have ⟨_, _, _, _, _, _, _, _⟩ := n8 r 10 13 9 32 160 8239 8287 12288 (by omega)
 have ⟨_, _, _, _, _, _, _, _⟩ := n8 r 45 8208 8209 8210 8211 8212 8213 34 (by omega)
 have ⟨_, _, _, _, _, _, _, _⟩ := n8 r 39 171 187 8249 8250 33 44 46 (by omega)
 have ⟨_, _, _, _, _, _, _, _⟩ := n8 r 58 59 63 161 183 191 8230 65279 (by omega)
 have hv : kindI r = 10 := by unfold kindI; simp only [hg, hs, or_self, if_false]; (repeat' split) <;> first | rfl | omega
 rw [hv]
 go_enter Tryd.func81, Tryd.ntmps81
 go_wp2_with (first | (go_at_call 93; with_reducible refine cr (letter93 r (by omega) (by omega) _) ?_) | (go_at_call 94; with_reducible refine cr (mark94_any _ _) ?_))
 go_ret
 exact ⟨rfl, rfl⟩
theorem kind81_o_45 (r : Int) (hg : ¬ GreatP r) (hs : ¬ SmallP r) (h1 : 8216 ≤ r) (h2 : r ≤ 8223) (w : World) : Cx81 r w := by
 unfold Cx81
 have := dmf r 0 (by omega)
 have := dgf r 55296 (by omega)
 have := dnf r 1114111 (by omega)
 have : (greatB r || smallB r) = false := by rw [show greatB r = false from decide_eq_false hg, show smallB r = false from decide_eq_false hs]; rfl
 have := inf r 768 879 (by omega)
 have := dgt r 48 (by omega)
 have := dlf r 57 (by omega)
 have := dgt r 8192 (by omega)
 have := dlf r 8202 (by omega)
 have := dgt r 8216 (by omega)
 have := dlt r 8223 (by omega)
 have ⟨_, _, _, _, _, _, _, _⟩ := n8 r 10 13 9 32 160 8239 8287 12288 (by omega)
 have ⟨_, _, _, _, _, _, _, _⟩ := n8 r 45 8208 8209 8210 8211 8212 8213 34 (by omega)
 have ⟨_, _, _, _, _, _, _, _⟩ := n8 r 39 171 187 8249 8250 33 44 46 (by omega)
 have ⟨_, _, _, _, _, _, _⟩ := n7 r 58 59 63 161 183 191 8230 (by omega)
 have hv : kindI r = 7 := by unfold kindI; simp only [hg, hs, or_self, if_false]; (repeat' split) <;> first | rfl | omega
 rw [hv]
 go_enter Tryd.func81, Tryd.ntmps81
 go_wp2_with (first | (go_at_call 93; with_reducible refine cr (letter93 r (by omega) (by omega) _) ?_) | (go_at_call 94; with_reducible refine cr (mark94_any _ _) ?_))
 go_ret
 exact ⟨rfl, rfl⟩
theorem kind81_o_46 (r : Int) (hg : ¬ GreatP r) (hs : ¬ SmallP r) (h1 : 8224 ≤ r) (h2 : r ≤ 8229) (w : World) : Cx81 r w := by
 unfold Cx81
 have := dmf r 0 (by omega)
 have := dgf r 55296 (by omega)
 have := dnf r 1114111 (by omega)
 have : (greatB r || smallB r) = false := by rw [show greatB r = false from decide_eq_false hg, show smallB r = false from decide_eq_false hs]; rfl
 have := inf r 768 879 (by omega)
 have := dgt r 48 (by omega)
 have := dlf r 57 (by omega)
 have := dgt r 8192 (by omega)
 have := dlf r 8202 (by omega)
 have := dgt r 8216 (by omega)
 have := dlf r 8223 (by omega)
 have := dmf r 32 (by omega)
 have := dgt r 127 (by omega)
 have := dlf r 159 (by omega)
 have := dgt r 8203 (by omega)
 have := dlf r 8207 (by omega)
 have ⟨_, _, _, _, _, _, _, _⟩ := n8 r 10 13 9 32 160 8239 8287 12288 (by omega)
 have ⟨_, _, _, _, _, _, _, _⟩ := n8 r 45 8208 8209 8210 8211 8212 8213 34 (by omega)
 have ⟨_, _, _, _, _, _, _, _⟩ := n8 r 39 171 187 8249 8250 33 44 46 (by omega)
 have ⟨_, _, _, _, _, _, _, _⟩ := n8 r 58 59 63 161 183 191 8230 65279 (by omega)
 have hv : kindI r = 10 := by unfold kindI; simp only [hg, hs, or_self, if_false]; (repeat' split) <;> first | rfl | omega
 rw [hv]
 go_enter Tryd.func81, Tryd.ntmps81
 go_wp2_with (first | (go_at_call 93; with_reducible refine cr (letter93 r (by omega) (by omega) _) ?_) | (go_at_call 94; with_reducible refine cr (mark94_any _ _) ?_))
 go_ret
 exact ⟨rfl, rfl⟩
theorem kind81_o_47 (r : Int) (hg : ¬ GreatP r) (hs : ¬ SmallP r) (h1 : 8230 ≤ r) (h2 : r ≤ 8230) (w : World) : Cx81 r w := by
 unfold Cx81
 have := dmf r 0 (by omega)
 have := dgf r 55296 (by omega)
 have := dnf r 1114111 (by omega)
 have : (greatB r || smallB r) = false := by rw [show greatB r = false from decide_eq_false hg, show smallB r = false from decide_eq_false hs]; rfl
 have := inf r 768 879 (by omega)
 have := dgt r 48 (by omega)
 have := dlf r 57 (by omega)
 have : (r == 8230) = true := beq_true_of (by omega)
 have ⟨_, _, _, _, _, _, _, _⟩ := n8 r 10 13 9 32 160 8239 8287 12288 (by omega)
 have ⟨_, _, _, _, _, _, _, _⟩ := n8 r 45 8208 8209 8210 8211 8212 8213 34 (by omega)
 have ⟨_, _, _, _, _, _, _, _⟩ := n8 r 39 171 187 8249 8250 33 44 46 (by omega)
 have ⟨_, _, _, _, _, _⟩ := n6 r 58 59 63 161 183 191 (by omega)
 have hv : kindI r = 8 := by unfold kindI; simp only [hg, hs, or_self, if_false]; (repeat' split) <;> first | rfl | omega
 rw [hv]
 go_enter Tryd.func81, Tryd.ntmps81
 go_wp2_with (first | (go_at_call 93; with_reducible refine cr (letter93 r (by omega) (by omega) _) ?_) | (go_at_call 94; with_reducible refine cr (mark94_any _ _) ?_))
 go_ret
 exact ⟨rfl, rfl⟩
theorem kind81_o_48 (r : Int) (hg : ¬ GreatP r) (hs : ¬ SmallP r) (h1 : 8231 ≤ r) (h2 : r ≤ 8238) (w : World) : Cx81 r w := by
 unfold Cx81
 have := dmf r 0 (by omega)
 have := dgf r 55296 (by omega)
 have := dnf r 1114111 (by omega)
 have : (greatB r || smallB r) = false := by rw [show greatB r = false from decide_eq_false hg, show smallB r = false from decide_eq_false hs]; rfl
 have := inf r 768 879 (by omega)
 have := dgt r 48 (by omega)
 have := dlf r 57 (by omega)
 have := dgt r 8192 (by omega)
 have := dlf r 8202 (by omega)
 have := dgt r 8216 (by omega)
 have := dlf r 8223 (by omega)
 have := dmf r 32 (by omega)
 have := dgt r 127 (by omega)
 have := dlf r 159 (by omega)
 have := dgt r 8203 (by omega)
 have := dlf r 8207 (by omega)
 have ⟨_, _, _, _, _, _, _, _⟩ := n8 r 10 13 9 32 160 8239 8287 12288 (by omega)
 have ⟨_, _, _, _, _, _, _, _⟩ := n8 r 45 8208 8209 8210 8211 8212 8213 34 (by omega)
 have ⟨_, _, _, _, _, _, _, _⟩ := n8 r 39 171 187 8249 8250 33 44 46 (by omega)
 have ⟨_, _, _, _, _, _, _, _⟩ := n8 r 58 59 63 161 183 191 8230 65279 (by omega)
 have hv : kindI r = 10 := by unfold kindI; simp only [hg, hs, or_self, if_false]; (repeat' split) <;> first | rfl | omega
 rw [hv]
 go_enter Tryd.func81, Tryd.ntmps81
 go_wp2_with (first | (go_at_call 93; with_reducible refine cr (letter93 r (by omega) (by omega) _) ?_) | (go_at_call 94; with_reducible refine cr (mark94_any _ _) ?_))
 go_ret
 exact ⟨rfl, rfl⟩
theorem kind81_o_49 (r : Int) (hg : ¬ GreatP r) (hs : ¬ SmallP r) (h1 : 8239 ≤ r) (h2 : r ≤ 8239) (w : World) : Cx81 r w := by
 unfold Cx81
 have := dmf r 0 (by omega)
 have := dgf r 55296 (by omega)
 have := dnf r 1114111 (by omega)
 have : (greatB r || smallB r) = false := by rw [show greatB r = false from decide_eq_false hg, show smallB r = false from decide_eq_false hs]; rfl
 have := inf r 768 879 (by omega)
 have := dgt r 48 (by omega)
 have := dlf r 57 (by omega)
 have : (r == 8239) = true := beq_true_of (by omega)
 have ⟨_, _, _, _, _⟩ := n5 r 10 13 9 32 160 (by omega)
 have hv : kindI r = 5 := by unfold kindI; simp only [hg, hs, or_self, if_false]; (repeat' split) <;> first | rfl | omega
 rw [hv]
 go_enter Tryd.func81, Tryd.ntmps81
 go_wp2_with (first | (go_at_call 93; with_reducible refine cr (letter93 r (by omega) (by omega) _) ?_) | (go_at_call 94; with_reducible refine cr (mark94_any _ _) ?_))
 go_ret
 exact ⟨rfl, rfl⟩
theorem kind81_o_50 (r : Int) (hg : ¬ GreatP r) (hs : ¬ SmallP r) (h1 : 8240 ≤ r) (h2 : r ≤ 8248) (w : World) : Cx81 r w := by
 unfold Cx81
 have := dmf r 0 (by omega)
 have := dgf r 55296 (by omega)
 have := dnf r 1114111 (by omega)
 have : (greatB r || smallB r) = false := by rw [show greatB r = false from decide_eq_false hg, show smallB r = false from decide_eq_false hs]; rfl
 have := inf r 768 879 (by omega)
 have := dgt r 48 (by omega)
 have := dlf r 57 (by omega)
 have := dgt r 8192 (by omega)
 have := dlf r 8202 (by omega)
 have := dgt r 8216 (by omega)
 have := dlf r 8223 (by omega)
 have := dmf r 32 (by omega)
 have := dgt r 127 (by omega)
 have := dlf r 159 (by omega)
 have := dgt r 8203 (by omega)
 have := dlf r 8207 (by omega)
 have ⟨_, _, _, _, _, _, _, _⟩ := n8 r 10 13 9 32 160 8239 8287 12288 (by omega)
 have ⟨_, _, _, _, _, _, _, _⟩ := n8 r 45 8208 8209 8210 8211 8212 8213 34 (by omega)
 have ⟨_, _, _, _, _, _, _, _⟩ := n8 r 39 171 187 8249 8250 33 44 46 (by omega)
 have ⟨_, _, _, _, _, _, _, _⟩ := n8 r 58 59 63 161 183 191 8230 65279 (by omega)
 have hv : kindI r = 10 := by unfold kindI; simp only [hg, hs, or_self, if_false]; (repeat' split) <;> first | rfl | omega
 rw [hv]
 go_enter Tryd.func81, Tryd.ntmps81
 go_wp2_with (first | (go_at_call 93; with_reducible refine cr (letter93 r (by omega) (by omega) _) ?_) | (go_at_call 94; with_reducible refine cr (mark94_any _ _) ?_))
 go_ret
 exact ⟨rfl, rfl⟩
theorem kind81_o_51 (r : Int) (hg : ¬ GreatP r) (hs : ¬ SmallP r) (h1 : 8249 ≤ r) (h2 : r ≤ 8249) (w : World) : Cx81 r w := by
 unfold Cx81
 have := dmf r 0 (by omega)
 have := dgf r 55296 (by omega)
 have := dnf r 1114111 (by omega)
 have : (greatB r || smallB r) = false := by rw [show greatB r = false from decide_eq_false hg, show smallB r = false from decide_eq_false hs]; rfl
 have := inf r 768 879 (by omega)
 have := dgt r 48 (by omega)
 have := dlf r 57 (by omega)
 have : (r == 8249) = true := beq_true_of (by omega)
 have ⟨_, _, _, _, _, _, _, _⟩ := n8 r 10 13 9 32 160 8239 8287 12288 (by omega)
 have ⟨_, _, _, _, _, _, _, _⟩ := n8 r 45 8208 8209 8210 8211 8212 8213 34 (by omega)
 have ⟨_, _, _⟩ := n3 r 39 171 187 (by omega)
 have hv : kindI r = 7 := by unfold kindI; simp only [hg, hs, or_self, if_false]; (repeat' split) <;> first | rfl | omega
 rw [hv]
 go_enter Tryd.func81, Tryd.ntmps81
 go_wp2_with (first | (go_at_call 93; with_reducible refine cr (letter93 r (by omega) (by omega) _) ?_) | (go_at_call 94; with_reducible refine cr (mark94_any _ _) ?_))
 go_ret
 exact ⟨rfl, rfl⟩
theorem kind81_o_52 (r : Int) (hg : ¬ GreatP r) (hs : ¬ SmallP r) (h1 : 8250 ≤ r) (h2 : r ≤ 8250) (w : World) : Cx81 r w := by
 unfold Cx81
 have := dmf r 0 (by omega)
 have := dgf r 55296 (by omega)
 have := dnf r 1114111 (by omega)
 have : (greatB r || smallB r) = false := by rw [show greatB r = false from decide_eq_false hg, show smallB r = false from decide_eq_false hs]; rfl
 have := inf r 768 879 (by omega)
 have := dgt r 48 (by omega)
 have := dlf r 57 (by omega)
 have : (r == 8250) = true := beq_true_of (by omega)
 have ⟨_, _, _, _, _, _, _, _⟩ := n8 r 10 13 9 32 160 8239 8287 12288 (by omega)
 have ⟨_, _, _, _, _, _, _, _⟩ := n8 r 45 8208 8209 8210 8211 8212 8213 34 (by omega)
 have ⟨_, _, _, _⟩ := n4 r 39 171 187 8249 (by omega)
 have hv : kindI r = 7 := by unfold kindI; simp only [hg, hs, or_self, if_false]; (repeat' split) <;> first | rfl | omega
 rw [hv]
 go_enter Tryd.func81, Tryd.ntmps81
 go_wp2_with (first | (go_at_call 93; with_reducible refine cr (letter93 r (by omega) (by omega) _) ?_) | (go_at_call 94; with_reducible refine cr (mark94_any _ _) ?_))
 go_ret
 exact ⟨rfl, rfl⟩
theorem kind81_o_53 (r : Int) (hg : ¬ GreatP r) (hs : ¬ SmallP r) (h1 : 8251 ≤ r) (h2 : r ≤ 8286) (w : World) : Cx81 r w := by
 unfold Cx81
 have := dmf r 0 (by omega)
 have := dgf r 55296 (by omega)
 have := dnf r 1114111 (by omega)
 have : (greatB r || smallB r) = false := by rw [show greatB r = false from decide_eq_false hg, show smallB r = false from decide_eq_false hs]; rfl
 have := inf r 768 879 (by omega)
 have := dgt r 48 (by omega)
 have := dlf r 57 (by omega)
 have := dgt r 8192 (by omega)
 have := dlf r 8202 (by omega)
 have := dgt r 8216 (by omega)
 have := dlf r 8223 (by omega)
 have := dmf r 32 (by omega)
 have := dgt r 127 (by omega)
 have := dlf r 159 (by omega)
 have := dgt r 8203 (by omega)
 have := dlf r 8207 (by omega)
 have ⟨_, _, _, _, _, _, _, _⟩ := n8 r 10 13 9 32 160 8239 8287 12288 (by omega)
 have ⟨_, _, _, _, _, _, _, _⟩ := n8 r 45 8208 8209 8210 8211 8212 8213 34 (by omega)
 have ⟨_, _, _, _, _, _, _, _⟩ := n8 r 39 171 187 8249 8250 33 44 46 (by omega)
 have ⟨_, _, _, _, _, _, _, _⟩ := n8 r 58 59 63 161 183 191 8230 65279 (by omega)
 have hv : kindI r = 10 := by unfold kindI; simp only [hg, hs, or_self, if_false]; (repeat' split) <;> first | rfl | omega
 rw [hv]
 go_enter Tryd.func81, Tryd.ntmps81
 go_wp2_with (first | (go_at_call 93; with_reducible refine cr (letter93 r (by omega) (by omega) _) ?_) | (go_at_call 94; with_reducible refine cr (mark94_any _ _) ?_))
 go_ret
 exact ⟨rfl, rfl⟩
theorem kind81_o_54 (r : Int) (hg : ¬ GreatP r) (hs : ¬ SmallP r) (h1 : 8287 ≤ r) (h2 : r ≤ 8287) (w : World) : Cx81 r w := by
 unfold Cx81
 have := dmf r 0 (by omega)
 have := dgf r 55296 (by omega)
 have := dnf r 1114111 (by omega)
 have : (greatB r || smallB r) = false := by rw [show greatB r = false from decide_eq_false hg, show smallB r = false from decide_eq_false hs]; rfl
 have := inf r 768 879 (by omega)
 have := dgt r 48 (by omega)
 have := dlf r 57 (by omega)
 have : (r == 8287) = true := beq_true_of (by omega)
 have ⟨_, _, _, _, _, _⟩ := n6 r 10 13 9 32 160 8239 (by omega)
 have hv : kindI r = 5 := by unfold kindI; simp only [hg, hs, or_self, if_false]; (repeat' split) <;> first | rfl | omega
 rw [hv]
 go_enter Tryd.func81, Tryd.ntmps81
 go_wp2_with (first | (go_at_call 93; with_reducible refine cr (letter93 r (by omega) (by omega) _) ?_) | (go_at_call 94; with_reducible refine cr (mark94_any _ _) ?_))
 go_ret
 exact ⟨rfl, rfl⟩
theorem kind81_o_55 (r : Int) (hg : ¬ GreatP r) (hs : ¬ SmallP r) (h1 : 8288 ≤ r) (h2 : r ≤ 12287) (w : World) : Cx81 r w := by
 unfold Cx81
 have := dmf r 0 (by omega)
 have := dgf r 55296 (by omega)
 have := dnf r 1114111 (by omega)
 have : (greatB r || smallB r) = false := by rw [show greatB r = false from decide_eq_false hg, show smallB r = false from decide_eq_false hs]; rfl
 have := inf r 768 879 (by omega)
 have := dgt r 48 (by omega)
 have := dlf r 57 (by omega)
 have := dgt r 8192 (by omega)
 have := dlf r 8202 (by omega)
 have := dgt r 8216 (by omega)
 have := dlf r 8223 (by omega)
 have := dmf r 32 (by omega)
 have := dgt r 127 (by omega)
 have := dlf r 159 (by omega)
 have := dgt r 8203 (by omega)
 have := dlf r 8207 (by omega)
 have ⟨_, _, _, _, _, _, _, _⟩ := n8 r 10 13 9 32 160 8239 8287 12288 (by omega)
 have ⟨_, _, _, _, _, _, _, _⟩ := n8 r 45 8208 8209 8210 8211 8212 8213 34 (by omega)
 have ⟨_, _, _, _, _, _, _, _⟩ := n8 r 39 171 187 8249 8250 33 44 46 (by omega)
 have ⟨_, _, _, _, _, _, _, _⟩ := n8 r 58 59 63 161 183 191 8230 65279 (by omega)
 have hv : kindI r = 10 := by unfold kindI; simp only [hg, hs, or_self, if_false]; (repeat' split) <;> first | rfl | omega
 rw [hv]
 go_enter Tryd.func81, Tryd.ntmps81
 go_wp2_with (first | (go_at_call 93; with_reducible refine cr (letter93 r (by omega) (by omega) _) ?_) | (go_at_call 94; with_reducible refine cr (mark94_any _ _) ?_))
 go_ret
 exact ⟨rfl, rfl⟩
theorem kind81_o_56 (r : Int) (hg : ¬ GreatP r) (hs : ¬ SmallP r) (h1 : 12288 ≤ r) (h2 : r ≤ 12288) (w : World) : Cx81 r w := by
 unfold Cx81
 have := dmf r 0 (by omega)
 have := dgf r 55296 (by omega)
 have := dnf r 1114111 (by omega)
 have : (greatB r || smallB r) = false := by rw [show greatB r = false from decide_eq_false hg, show smallB r = false from decide_eq_false hs]; rfl
 have := inf r 768 879 (by omega)
 have := dgt r 48 (by omega)
 have := dlf r 57 (by omega)
 have : (r == 12288) = true := beq_true_of (by omega)
 have ⟨_, _, _, _, _, _, _⟩ := n7 r 10 13 9 32 160 8239 8287 (by omega)
 have hv : kindI r = 5 := by unfold kindI; simp only [hg, hs, or_self, if_false]; (repeat' split) <;> first | rfl | omega
 rw [hv]
 go_enter Tryd.func81, Tryd.ntmps81
 go_wp2_with (first | (go_at_call 93; with_reducible refine cr (letter93 r (by omega) (by omega) _) ?_) | (go_at_call 94; with_reducible refine cr (mark94_any _ _) ?_))
 go_ret
 exact ⟨rfl, rfl⟩
theorem kind81_o_57 (r : Int) (hg : ¬ GreatP r) (hs : ¬ SmallP r) (h1 : 12289 ≤ r) (h2 : r ≤ 55295) (w : World) : Cx81 r w := by
 unfold Cx81
 have := dmf r 0 (by omega)
 have := dgf r 55296 (by omega)
 have := dnf r 1114111 (by omega)
 have : (greatB r || smallB r) = false := by rw [show greatB r = false from decide_eq_false hg, show smallB r = false from decide_eq_false hs]; rfl
 have := inf r 768 879 (by omega)
 have := dgt r 48 (by omega)
 have := dlf r 57 (by omega)
 have := dgt r 8192 (by omega)
 have := dlf r 8202 (by omega)
 have := dgt r 8216 (by omega)
 have := dlf r 8223 (by omega)
 have := dmf r 32 (by omega)
 have := dgt r 127 (by omega)
 have := dlf r 159 (by omega)
 have := dgt r 8203 (by omega)
 have := dlf r 8207 (by omega)
 have ⟨_, _, _, _, _, _, _, _⟩ := n8 r 10 13 9 32 160 8239 8287 12288 (by omega)
 have ⟨_, _, _, _, _, _, _, _⟩ := n8 r 45 8208 8209 8210 8211 8212 8213 34 (by omega)
 have ⟨_, _, _, _, _, _, _, _⟩ := n8 r 39 171 187 8249 8250 33 44 46 (by omega)
 have ⟨_, _, _, _, _, _, _, _⟩ := n8 r 58 59 63 161 183 191 8230 65279 (by omega)
 have hv : kindI r = 10 := by unfold kindI; simp only [hg, hs, or_self, if_false]; (repeat' split) <;> first | rfl | omega
 rw [hv]
 go_enter Tryd.func81, Tryd.ntmps81
 go_wp2_with (first | (go_at_call 93; with_reducible refine cr (letter93 r (by omega) (by omega) _) ?_) | (go_at_call 94; with_reducible refine cr (mark94_any _ _) ?_))
 go_ret
 exact ⟨rfl, rfl⟩
theorem kind81_o_58 (r : Int) (hg : ¬ GreatP r) (hs : ¬ SmallP r) (h1 : 55296 ≤ r) (h2 : r ≤ 57343) (w : World) : Cx81 r w := by
 unfold Cx81
 have := dmf r 0 (by omega)
 have := dgt r 55296 (by omega)
 have := dlt r 57343 (by omega)
 have hv : kindI r = 0 := by unfold kindI; simp only [hg, hs, or_self, if_false]; (repeat' split) <;> first | rfl | omega
 rw [hv]
 go_enter Tryd.func81, Tryd.ntmps81
 go_wp2_with (first | (go_at_call 93; with_reducible refine cr (letter93 r (by omega) (by omega) _) ?_) | (go_at_call 94; with_reducible refine cr (mark94_any _ _) ?_))
 go_ret
 exact ⟨rfl, rfl⟩
theorem kind81_o_59 (r : Int) (hg : ¬ GreatP r) (hs : ¬ SmallP r) (h1 : 57344 ≤ r) (h2 : r ≤ 65278) (w : World) : Cx81 r w := by
 unfold Cx81
 have := dmf r 0 (by omega)
 have := dgt r 55296 (by omega)
 have := dlf r 57343 (by omega)
 have := dnf r 1114111 (by omega)
 have : (greatB r || smallB r) = false := by rw [show greatB r = false from decide_eq_false hg, show smallB r = false from decide_eq_false hs]; rfl
 have := inf r 768 879 (by omega)
 have := dgt r 48 (by omega)
 have := dlf r 57 (by omega)
 have := dgt r 8192 (by omega)
 have := dlf r 8202 (by omega)
 have := dgt r 8216 (by omega)
 have := dlf r 8223 (by omega)
 have := dmf r 32 (by omega)
 have := dgt r 127 (by omega)
 have := dlf r 159 (by omega)
 have := dgt r 8203 (by omega)
 have := dlf r 8207 (by omega)
 have ⟨_, _, _, _, _, _, _, _⟩ := n8 r 10 13 9 32 160 8239 8287 12288 (by omega)
 have ⟨_, _, _, _, _, _, _, _⟩ := n8 r 45 8208 8209 8210 8211 8212 8213 34 (by omega)
 have ⟨_, _, _, _, _, _, _, _⟩ := n8 r 39 171 187 8249 8250 33 44 46 (by omega)
 have ⟨_, _, _, _, _, _, _, _⟩ := n8 r 58 59 63 161 183 191 8230 65279 (by omega)
 have hv : kindI r = 10 := by unfold kindI; simp only [hg, hs, or_self, if_false]; (repeat' split) <;> first | rfl | omega
 rw [hv]
 go_enter Tryd.func81, Tryd.ntmps81
 go_wp2_with (first | (go_at_call 93; with_reducible refine cr (letter93 r (by omega) (by omega) _) ?_) | (go_at_call 94; with_reducible refine cr (mark94_any _ _) ?_))
 go_ret
 exact ⟨rfl, rfl⟩
theorem kind81_o_60 (r : Int) (hg : ¬ GreatP r) (hs : ¬ SmallP r) (h1 : 65279 ≤ r) (h2 : r ≤ 65279) (w : World) : Cx81 r w := by
 unfold Cx81
 have := dmf r 0 (by omega)
 have := dgt r 55296 (by omega)
 have := dlf r 57343 (by omega)
 have := dnf r 1114111 (by omega)
 have : (greatB r || smallB r) = false := by rw [show greatB r = false from decide_eq_false hg, show smallB r = false from decide_eq_false hs]; rfl
 have := inf r 768 879 (by omega)
 have := dgt r 48 (by omega)
 have := dlf r 57 (by omega)
 have := dgt r 8192 (by omega)
 have := dlf r 8202 (by omega)
 have := dgt r 8216 (by omega)
 have := dlf r 8223 (by omega)
 have := dmf r 32 (by omega)
 have := dgt r 127 (by omega)
 have := dlf r 159 (by omega)
 have := dgt r 8203 (by omega)
 have := dlf r 8207 (by omega)
 have : (r == 65279) = true := beq_true_of (by omega)
 have ⟨_, _, _, _, _, _, _, _⟩ := n8 r 10 13 9 32 160 8239 8287 12288 (by omega)
 have ⟨_, _, _, _, _, _, _, _⟩ := n8 r 45 8208 8209 8210 8211 8212 8213 34 (by omega)
 have ⟨_, _, _, _, _, _, _, _⟩ := n8 r 39 171 187 8249 8250 33 44 46 (by omega)
 have ⟨_, _, _, _, _, _, _⟩ := n7 r 58 59 63 161 183 191 8230 (by omega)
 have hv : kindI r = 9 := by unfold kindI; simp only [hg, hs, or_self, if_false]; (repeat' split) <;> first | rfl | omega
 rw [hv]
 go_enter Tryd.func81, Tryd.ntmps81
 go_wp2_with (first | (go_at_call 93; with_reducible refine cr (letter93 r (by omega) (by omega) _) ?_) | (go_at_call 94; with_reducible refine cr (mark94_any _ _) ?_))
 go_ret
 exact ⟨rfl, rfl⟩
theorem kind81_o_61 (r : Int) (hg : ¬ GreatP r) (hs : ¬ SmallP r) (h1 : 65280 ≤ r) (h2 : r ≤ 1114111) (w : World) : Cx81 r w := by
 unfold Cx81
 have := dmf r 0 (by omega)
 have := dgt r 55296 (by omega)
 have := dlf r 57343 (by omega)
 have := dnf r 1114111 (by omega)
 have : (greatB r || smallB r) = false := by rw [show greatB r = false from decide_eq_false hg, show smallB r = false from decide_eq_false hs]; rfl
 have := inf r 768 879 (by omega)
 have := dgt r 48 (by omega)
 have := dlf r 57 (by omega)
 have := dgt r 8192 (by omega)
 have := dlf r 8202 (by omega)
 have := dgt r 8216 (by omega)
 have := dlf r 8223 (by omega)
 have := dmf r 32 (by omega)
 have := dgt r 127 (by omega)
 have := dlf r 159 (by omega)
 have := dgt r 8203 (by omega)
 have := dlf r 8207 (by omega)
 have ⟨_, _, _, _, _, _, _, _⟩ := n8 r 10 13 9 32 160 8239 8287 12288 (by omega)
 have ⟨_, _, _, _, _, _, _, _⟩ := n8 r 45 8208 8209 8210 8211 8212 8213 34 (by omega)
 have ⟨_, _, _, _, _, _, _, _⟩ := n8 r 39 171 187 8249 8250 33 44 46 (by omega)
 have ⟨_, _, _, _, _, _, _, _⟩ := n8 r 58 59 63 161 183 191 8230 65279 (by omega)
 have hv : kindI r = 10 := by unfold kindI; simp only [hg, hs, or_self, if_false]; (repeat' split) <;> first | rfl | omega
 rw [hv]
 go_enter Tryd.func81, Tryd.ntmps81
 go_wp2_with (first | (go_at_call 93; with_reducible refine cr (letter93 r (by omega) (by omega) _) ?_) | (go_at_call 94; with_reducible refine cr (mark94_any _ _) ?_))
 go_ret
 exact ⟨rfl, rfl⟩
theorem kind81_o (r : Int) (hg : ¬ GreatP r) (hs : ¬ SmallP r) (h0 : 0 ≤ r) (h9 : r ≤ 1114111) (w : World) : Calls Tryd.prog 81 #[.int .i32 r] w fun e w' => e = .returned (.int .i64 (kindI r)) ∧ w = w' := by
 by_cases k1 : r ≤ 8
 ·exact kind81_o_0 r hg hs (by omega) (by omega) w
 by_cases k2 : r ≤ 9
 ·exact kind81_o_1 r hg hs (by omega) (by omega) w
 by_cases k3 : r ≤ 10
 ·exact kind81_o_2 r hg hs (by omega) (by omega) w
 by_cases k4 : r ≤ 12
 ·exact kind81_o_3 r hg hs (by omega) (by omega) w
 by_cases k5 : r ≤ 13
 ·exact kind81_o_4 r hg hs (by omega) (by omega) w
 by_cases k6 : r ≤ 31
 ·exact kind81_o_5 r hg hs (by omega) (by omega) w
 by_cases k7 : r ≤ 32
 ·exact kind81_o_6 r hg hs (by omega) (by omega) w
 by_cases k8 : r ≤ 33
 ·exact kind81_o_7 r hg hs (by omega) (by omega) w
 by_cases k9 : r ≤ 34
 ·exact kind81_o_8 r hg hs (by omega) (by omega) w
 by_cases k10 : r ≤ 38
 ·exact kind81_o_9 r hg hs (by omega) (by omega) w
 by_cases k11 : r ≤ 39
 ·exact kind81_o_10 r hg hs (by omega) (by omega) w
 by_cases k12 : r ≤ 43
 ·exact kind81_o_11 r hg hs (by omega) (by omega) w
 by_cases k13 : r ≤ 44
 ·exact kind81_o_12 r hg hs (by omega) (by omega) w
 by_cases k14 : r ≤ 45
 ·exact kind81_o_13 r hg hs (by omega) (by omega) w
 by_cases k15 : r ≤ 46
 ·exact kind81_o_14 r hg hs (by omega) (by omega) w
 by_cases k16 : r ≤ 47
 ·exact kind81_o_15 r hg hs (by omega) (by omega) w
 by_cases k17 : r ≤ 57
 ·exact kind81_o_16 r hg hs (by omega) (by omega) w
 by_cases k18 : r ≤ 58
 ·exact kind81_o_17 r hg hs (by omega) (by omega) w
 by_cases k19 : r ≤ 59
 ·exact kind81_o_18 r hg hs (by omega) (by omega) w
 by_cases k20 : r ≤ 62
 ·exact kind81_o_19 r hg hs (by omega) (by omega) w
 by_cases k21 : r ≤ 63
 ·exact kind81_o_20 r hg hs (by omega) (by omega) w
 by_cases k22 : r ≤ 126
 ·exact kind81_o_21 r hg hs (by omega) (by omega) w
 by_cases k23 : r ≤ 159
 ·exact kind81_o_22 r hg hs (by omega) (by omega) w
 by_cases k24 : r ≤ 160
 ·exact kind81_o_23 r hg hs (by omega) (by omega) w
 by_cases k25 : r ≤ 161
 ·exact kind81_o_24 r hg hs (by omega) (by omega) w
 by_cases k26 : r ≤ 170
 ·exact kind81_o_25 r hg hs (by omega) (by omega) w
 by_cases k27 : r ≤ 171
 ·exact kind81_o_26 r hg hs (by omega) (by omega) w
 by_cases k28 : r ≤ 182
 ·exact kind81_o_27 r hg hs (by omega) (by omega) w
 by_cases k29 : r ≤ 183
 ·exact kind81_o_28 r hg hs (by omega) (by omega) w
 by_cases k30 : r ≤ 186
 ·exact kind81_o_29 r hg hs (by omega) (by omega) w
 by_cases k31 : r ≤ 187
 ·exact kind81_o_30 r hg hs (by omega) (by omega) w
 by_cases k32 : r ≤ 190
 ·exact kind81_o_31 r hg hs (by omega) (by omega) w
 by_cases k33 : r ≤ 191
 ·exact kind81_o_32 r hg hs (by omega) (by omega) w
 by_cases k34 : r ≤ 767
 ·exact kind81_o_33 r hg hs (by omega) (by omega) w
 by_cases k35 : r ≤ 879
 ·exact kind81_o_34 r hg hs (by omega) (by omega) w
 by_cases k36 : r ≤ 8191
 ·exact kind81_o_35 r hg hs (by omega) (by omega) w
 by_cases k37 : r ≤ 8202
 ·exact kind81_o_36 r hg hs (by omega) (by omega) w
 by_cases k38 : r ≤ 8207
 ·exact kind81_o_37 r hg hs (by omega) (by omega) w
 by_cases k39 : r ≤ 8208
 ·exact kind81_o_38 r hg hs (by omega) (by omega) w
 by_cases k40 : r ≤ 8209
 ·exact kind81_o_39 r hg hs (by omega) (by omega) w
 by_cases k41 : r ≤ 8210
 ·exact kind81_o_40 r hg hs (by omega) (by omega) w
 by_cases k42 : r ≤ 8211
 ·exact kind81_o_41 r hg hs (by omega) (by omega) w
 by_cases k43 : r ≤ 8212
 ·exact kind81_o_42 r hg hs (by omega) (by omega) w
 by_cases k44 : r ≤ 8213
 ·exact kind81_o_43 r hg hs (by omega) (by omega) w
 by_cases k45 : r ≤ 8215
 ·exact kind81_o_44 r hg hs (by omega) (by omega) w
 by_cases k46 : r ≤ 8223
 ·exact kind81_o_45 r hg hs (by omega) (by omega) w
 by_cases k47 : r ≤ 8229
 ·exact kind81_o_46 r hg hs (by omega) (by omega) w
 by_cases k48 : r ≤ 8230
 ·exact kind81_o_47 r hg hs (by omega) (by omega) w
 by_cases k49 : r ≤ 8238
 ·exact kind81_o_48 r hg hs (by omega) (by omega) w
 by_cases k50 : r ≤ 8239
 ·exact kind81_o_49 r hg hs (by omega) (by omega) w
 by_cases k51 : r ≤ 8248
 ·exact kind81_o_50 r hg hs (by omega) (by omega) w
 by_cases k52 : r ≤ 8249
 ·exact kind81_o_51 r hg hs (by omega) (by omega) w
 by_cases k53 : r ≤ 8250
 ·exact kind81_o_52 r hg hs (by omega) (by omega) w
 by_cases k54 : r ≤ 8286
 ·exact kind81_o_53 r hg hs (by omega) (by omega) w
 by_cases k55 : r ≤ 8287
 ·exact kind81_o_54 r hg hs (by omega) (by omega) w
 by_cases k56 : r ≤ 12287
 ·exact kind81_o_55 r hg hs (by omega) (by omega) w
 by_cases k57 : r ≤ 12288
 ·exact kind81_o_56 r hg hs (by omega) (by omega) w
 by_cases k58 : r ≤ 55295
 ·exact kind81_o_57 r hg hs (by omega) (by omega) w
 by_cases k59 : r ≤ 57343
 ·exact kind81_o_58 r hg hs (by omega) (by omega) w
 by_cases k60 : r ≤ 65278
 ·exact kind81_o_59 r hg hs (by omega) (by omega) w
 by_cases k61 : r ≤ 65279
 ·exact kind81_o_60 r hg hs (by omega) (by omega) w
 exact kind81_o_61 r hg hs (by omega) (by omega) w
theorem kind81_l (r : Int) (hg : GreatP r ∨ SmallP r) (h0 : 65 ≤ r) (h9 : r ≤ 1119) (w : World) : Calls Tryd.prog 81 #[.int .i32 r] w fun e w' => e = .returned (.int .i64 (kindI r)) ∧ w = w' := by
 have : (greatB r || smallB r) = true := by rcases hg with h | h; rw [show greatB r = true from decide_eq_true h]; rfl; rw [show smallB r = true from decide_eq_true h, Bool.or_true]
 have : decide ((55296:Int) ≤ r) = false := decide_eq_false (by omega)
 have : decide (r < (0:Int)) = false := decide_eq_false (by omega)
 have : decide ((1114111:Int) < r) = false := decide_eq_false (by omega)
 have hv : kindI r = 1 := by unfold kindI; rw [if_neg (by omega), if_pos hg]
 rw [hv]
 go_enter Tryd.func81, Tryd.ntmps81
 go_wp2_with (first | (go_at_call 93; with_reducible refine cr (letter93 r (by omega) (by omega) _) ?_) | (go_at_call 94; with_reducible refine cr (mark94_any _ _) ?_))
 go_ret
 exact ⟨rfl, rfl⟩
theorem kind81 (r : Int) (h0 : 0 ≤ r) (h9 : r ≤ 1114111) (w : World) : Calls Tryd.prog 81 #[.int .i32 r] w fun e w' => e = .returned (.int .i64 (kindI r)) ∧ w = w' := by
 by_cases hg : GreatP r ∨ SmallP r
 ·exact kind81_l r hg (by unfold GreatP SmallP at hg; omega) (by unfold GreatP SmallP at hg; omega) w
 ·exact kind81_o r (fun h => hg (.inl h)) (fun h => hg (.inr h)) h0 h9 w
end Go.Proofs.YtieifhfgedoiaaaDoor
