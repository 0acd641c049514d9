/- Kind. Conditions: those of each theorem. -/
import Derived.Test.YtieifhfgedoiaaaGreatDoorNLfE
namespace Go.Proofs.YtieifhfgedoiaaaGreatDoor
open Go.RowKit Go.Lib
set_option linter.unusedVariables false
set_option linter.unusedSimpArgs false

def Cx106 (r : Int) (w : World) : Prop := Calls Tryz.prog 88 #[.int .i32 r] w fun e w' => e = .returned (.int .i64 (kindI r)) ∧ w = w'
set_option maxHeartbeats 8000000 in
theorem rkind106_o_0 (r : Int) (hg : ¬ GreatP r) (hs : ¬ SmallP r) (h1 : 0 ≤ r) (h2 : r ≤ 47) (w : World) : Cx106 r w := by
 unfold Cx106
 refine sp r 9 (fun _ => ?_) fun _ => sp r 10 (fun _ => ?_) fun _ => sp r 11 (fun _ => ?_) fun _ => sp r 13 (fun _ => ?_) fun _ => sp r 14 (fun _ => ?_) fun _ => sp r 32 (fun _ => ?_) fun _ => sp r 33 (fun _ => ?_) fun _ => sp r 34 (fun _ => ?_) fun _ => sp r 35 (fun _ => ?_) fun _ => sp r 39 (fun _ => ?_) fun _ => sp r 40 (fun _ => ?_) fun _ => sp r 44 (fun _ => ?_) fun _ => sp r 45 (fun _ => ?_) fun _ => sp r 46 (fun _ => ?_) fun _ => sp r 47 (fun _ => ?_) fun _ => ?_
 all_goals
  first | have := dmt r 0 (by omega) | have := dmf r 0 (by omega)
  first | have := it r 55296 57343 (by omega) | have := inf r 55296 57343 (by omega)
  first | have := dnt r 1114111 (by omega) | have := dnf r 1114111 (by omega)
  have : greatB r = false := decide_eq_false hg
  have : smallB r = false := decide_eq_false hs
  first | have := it r 768 879 (by omega) | have := inf r 768 879 (by omega)
  first | have := it r 48 57 (by omega) | have := inf r 48 57 (by omega)
  first | have := e1 r 10 (by omega) | have := n1 r 10 (by omega)
  first | have := e1 r 13 (by omega) | have := n1 r 13 (by omega)
  first | have := e1 r 9 (by omega) | have := n1 r 9 (by omega)
  first | have := e1 r 32 (by omega) | have := n1 r 32 (by omega)
  first | have := e1 r 160 (by omega) | have := n1 r 160 (by omega)
  first | have := it r 8192 8202 (by omega) | have := inf r 8192 8202 (by omega)
  first | have := e1 r 8239 (by omega) | have := n1 r 8239 (by omega)
  first | have := e1 r 8287 (by omega) | have := n1 r 8287 (by omega)
  first | have := e1 r 12288 (by omega) | have := n1 r 12288 (by omega)
  first | have := e1 r 45 (by omega) | have := n1 r 45 (by omega)
  first | have := it r 8208 8213 (by omega) | have := inf r 8208 8213 (by omega)
  first | have := e1 r 34 (by omega) | have := n1 r 34 (by omega)
  first | have := e1 r 39 (by omega) | have := n1 r 39 (by omega)
  first | have := e1 r 171 (by omega) | have := n1 r 171 (by omega)
  first | have := e1 r 187 (by omega) | have := n1 r 187 (by omega)
  first | have := it r 8216 8223 (by omega) | have := inf r 8216 8223 (by omega)
  first | have := e1 r 8249 (by omega) | have := n1 r 8249 (by omega)
  first | have := e1 r 8250 (by omega) | have := n1 r 8250 (by omega)
  first | have := e1 r 33 (by omega) | have := n1 r 33 (by omega)
  first | have := e1 r 44 (by omega) | have := n1 r 44 (by omega)
  first | have := e1 r 46 (by omega) | have := n1 r 46 (by omega)
  first | have := e1 r 58 (by omega) | have := n1 r 58 (by omega)
  first | have := e1 r 59 (by omega) | have := n1 r 59 (by omega)
  first | have := e1 r 63 (by omega) | have := n1 r 63 (by omega)
  first | have := e1 r 161 (by omega) | have := n1 r 161 (by omega)
  first | have := e1 r 183 (by omega) | have := n1 r 183 (by omega)
  first | have := e1 r 191 (by omega) | have := n1 r 191 (by omega)
  first | have := e1 r 8230 (by omega) | have := n1 r 8230 (by omega)
  first | have := it r 0 31 (by omega) | have := inf r 0 31 (by omega)
  first | have := it r 127 159 (by omega) | have := inf r 127 159 (by omega)
  first | have := it r 8203 8207 (by omega) | have := inf r 8203 8207 (by omega)
  first | have := e1 r 65279 (by omega) | have := n1 r 65279 (by omega)
  go_enter Tryz.func88, Tryz.ntmps88
  go_wp2_with (first | (go_at_call 89; with_reducible refine cr (rgreat52 r (by omega) (by omega) _) ?_) | (go_at_call 98; with_reducible refine cr (rsmall114 r (by omega) (by omega) _) ?_) | (go_at_call 90; with_reducible refine cr (in53_any _ _ _ _) ?_))
  go_ret
  exact ⟨rk (by unfold kindI; simp only [hg, hs, or_self, if_false]; (repeat' split) <;> first | rfl | omega), rfl⟩
set_option maxHeartbeats 8000000 in
theorem rkind106_o_1 (r : Int) (hg : ¬ GreatP r) (hs : ¬ SmallP r) (h1 : 48 ≤ r) (h2 : r ≤ 190) (w : World) : Cx106 r w := by
 unfold Cx106
 refine sp r 58 (fun _ => ?_) fun _ => sp r 59 (fun _ => ?_) fun _ => sp r 60 (fun _ => ?_) fun _ => sp r 63 (fun _ => ?_) fun _ => sp r 64 (fun _ => ?_) fun _ => sp r 127 (fun _ => ?_) fun _ => sp r 160 (fun _ => ?_) fun _ => sp r 161 (fun _ => ?_) fun _ => sp r 162 (fun _ => ?_) fun _ => sp r 171 (fun _ => ?_) fun _ => sp r 172 (fun _ => ?_) fun _ => sp r 183 (fun _ => ?_) fun _ => sp r 184 (fun _ => ?_) fun _ => sp r 187 (fun _ => ?_) fun _ => sp r 188 (fun _ => ?_) fun _ => ?_
 all_goals
  first | have := dmt r 0 (by omega) | have := dmf r 0 (by omega)
  first | have := it r 55296 57343 (by omega) | have := inf r 55296 57343 (by omega)
  first | have := dnt r 1114111 (by omega) | have := dnf r 1114111 (by omega)
  have : greatB r = false := decide_eq_false hg
  have : smallB r = false := decide_eq_false hs
  first | have := it r 768 879 (by omega) | have := inf r 768 879 (by omega)
  first | have := it r 48 57 (by omega) | have := inf r 48 57 (by omega)
  first | have := e1 r 10 (by omega) | have := n1 r 10 (by omega)
  first | have := e1 r 13 (by omega) | have := n1 r 13 (by omega)
  first | have := e1 r 9 (by omega) | have := n1 r 9 (by omega)
  first | have := e1 r 32 (by omega) | have := n1 r 32 (by omega)
  first | have := e1 r 160 (by omega) | have := n1 r 160 (by omega)
  first | have := it r 8192 8202 (by omega) | have := inf r 8192 8202 (by omega)
  first | have := e1 r 8239 (by omega) | have := n1 r 8239 (by omega)
  first | have := e1 r 8287 (by omega) | have := n1 r 8287 (by omega)
  first | have := e1 r 12288 (by omega) | have := n1 r 12288 (by omega)
  first | have := e1 r 45 (by omega) | have := n1 r 45 (by omega)
  first | have := it r 8208 8213 (by omega) | have := inf r 8208 8213 (by omega)
  first | have := e1 r 34 (by omega) | have := n1 r 34 (by omega)
  first | have := e1 r 39 (by omega) | have := n1 r 39 (by omega)
  first | have := e1 r 171 (by omega) | have := n1 r 171 (by omega)
  first | have := e1 r 187 (by omega) | have := n1 r 187 (by omega)
  first | have := it r 8216 8223 (by omega) | have := inf r 8216 8223 (by omega)
  first | have := e1 r 8249 (by omega) | have := n1 r 8249 (by omega)
  first | have := e1 r 8250 (by omega) | have := n1 r 8250 (by omega)
  first | have := e1 r 33 (by omega) | have := n1 r 33 (by omega)
  first | have := e1 r 44 (by omega) | have := n1 r 44 (by omega)
  first | have := e1 r 46 (by omega) | have := n1 r 46 (by omega)
  first | have := e1 r 58 (by omega) | have := n1 r 58 (by omega)
  first | have := e1 r 59 (by omega) | have := n1 r 59 (by omega)
  first | have := e1 r 63 (by omega) | have := n1 r 63 (by omega)
  first | have := e1 r 161 (by omega) | have := n1 r 161 (by omega)
  first | have := e1 r 183 (by omega) | have := n1 r 183 (by omega)
  first | have := e1 r 191 (by omega) | have := n1 r 191 (by omega)
  first | have := e1 r 8230 (by omega) | have := n1 r 8230 (by omega)
  first | have := it r 0 31 (by omega) | have := inf r 0 31 (by omega)
  first | have := it r 127 159 (by omega) | have := inf r 127 159 (by omega)
  first | have := it r 8203 8207 (by omega) | have := inf r 8203 8207 (by omega)
  first | have := e1 r 65279 (by omega) | have := n1 r 65279 (by omega)
  go_enter Tryz.func88, Tryz.ntmps88
  go_wp2_with (first | (go_at_call 89; with_reducible refine cr (rgreat52 r (by omega) (by omega) _) ?_) | (go_at_call 98; with_reducible refine cr (rsmall114 r (by omega) (by omega) _) ?_) | (go_at_call 90; with_reducible refine cr (in53_any _ _ _ _) ?_))
  go_ret
  exact ⟨rk (by unfold kindI; simp only [hg, hs, or_self, if_false]; (repeat' split) <;> first | rfl | omega), rfl⟩
set_option maxHeartbeats 8000000 in
theorem rkind106_o_2 (r : Int) (hg : ¬ GreatP r) (hs : ¬ SmallP r) (h1 : 191 ≤ r) (h2 : r ≤ 8250) (w : World) : Cx106 r w := by
 unfold Cx106
 refine sp r 192 (fun _ => ?_) fun _ => sp r 768 (fun _ => ?_) fun _ => sp r 880 (fun _ => ?_) fun _ => sp r 8192 (fun _ => ?_) fun _ => sp r 8203 (fun _ => ?_) fun _ => sp r 8208 (fun _ => ?_) fun _ => sp r 8214 (fun _ => ?_) fun _ => sp r 8216 (fun _ => ?_) fun _ => sp r 8224 (fun _ => ?_) fun _ => sp r 8230 (fun _ => ?_) fun _ => sp r 8231 (fun _ => ?_) fun _ => sp r 8239 (fun _ => ?_) fun _ => sp r 8240 (fun _ => ?_) fun _ => sp r 8249 (fun _ => ?_) fun _ => sp r 8250 (fun _ => ?_) fun _ => ?_
 all_goals
  first | have := dmt r 0 (by omega) | have := dmf r 0 (by omega)
  first | have := it r 55296 57343 (by omega) | have := inf r 55296 57343 (by omega)
  first | have := dnt r 1114111 (by omega) | have := dnf r 1114111 (by omega)
  have : greatB r = false := decide_eq_false hg
  have : smallB r = false := decide_eq_false hs
  first | have := it r 768 879 (by omega) | have := inf r 768 879 (by omega)
  first | have := it r 48 57 (by omega) | have := inf r 48 57 (by omega)
  first | have := e1 r 10 (by omega) | have := n1 r 10 (by omega)
  first | have := e1 r 13 (by omega) | have := n1 r 13 (by omega)
  first | have := e1 r 9 (by omega) | have := n1 r 9 (by omega)
  first | have := e1 r 32 (by omega) | have := n1 r 32 (by omega)
  first | have := e1 r 160 (by omega) | have := n1 r 160 (by omega)
  first | have := it r 8192 8202 (by omega) | have := inf r 8192 8202 (by omega)
  first | have := e1 r 8239 (by omega) | have := n1 r 8239 (by omega)
  first | have := e1 r 8287 (by omega) | have := n1 r 8287 (by omega)
  first | have := e1 r 12288 (by omega) | have := n1 r 12288 (by omega)
  first | have := e1 r 45 (by omega) | have := n1 r 45 (by omega)
  first | have := it r 8208 8213 (by omega) | have := inf r 8208 8213 (by omega)
  first | have := e1 r 34 (by omega) | have := n1 r 34 (by omega)
  first | have := e1 r 39 (by omega) | have := n1 r 39 (by omega)
  first | have := e1 r 171 (by omega) | have := n1 r 171 (by omega)
  first | have := e1 r 187 (by omega) | have := n1 r 187 (by omega)
  first | have := it r 8216 8223 (by omega) | have := inf r 8216 8223 (by omega)
  first | have := e1 r 8249 (by omega) | have := n1 r 8249 (by omega)
  first | have := e1 r 8250 (by omega) | have := n1 r 8250 (by omega)
  first | have := e1 r 33 (by omega) | have := n1 r 33 (by omega)
  first | have := e1 r 44 (by omega) | have := n1 r 44 (by omega)
  first | have := e1 r 46 (by omega) | have := n1 r 46 (by omega)
  first | have := e1 r 58 (by omega) | have := n1 r 58 (by omega)
  first | have := e1 r 59 (by omega) | have := n1 r 59 (by omega)
  first | have := e1 r 63 (by omega) | have := n1 r 63 (by omega)
  first | have := e1 r 161 (by omega) | have := n1 r 161 (by omega)
  first | have := e1 r 183 (by omega) | have := n1 r 183 (by omega)
  first | have := e1 r 191 (by omega) | have := n1 r 191 (by omega)
  first | have := e1 r 8230 (by omega) | have := n1 r 8230 (by omega)
  first | have := it r 0 31 (by omega) | have := inf r 0 31 (by omega)
  first | have := it r 127 159 (by omega) | have := inf r 127 159 (by omega)
  first | have := it r 8203 8207 (by omega) | have := inf r 8203 8207 (by omega)
  first | have := e1 r 65279 (by omega) | have := n1 r 65279 (by omega)
  go_enter Tryz.func88, Tryz.ntmps88
  go_wp2_with (first | (go_at_call 89; with_reducible refine cr (rgreat52 r (by omega) (by omega) _) ?_) | (go_at_call 98; with_reducible refine cr (rsmall114 r (by omega) (by omega) _) ?_) | (go_at_call 90; with_reducible refine cr (in53_any _ _ _ _) ?_))
  go_ret
  exact ⟨rk (by unfold kindI; simp only [hg, hs, or_self, if_false]; (repeat' split) <;> first | rfl | omega), rfl⟩
set_option maxHeartbeats 8000000 in
theorem rkind106_o_3 (r : Int) (hg : ¬ GreatP r) (hs : ¬ SmallP r) (h1 : 8251 ≤ r) (h2 : r ≤ 1114111) (w : World) : Cx106 r w := by
 unfold Cx106
 refine sp r 8287 (fun _ => ?_) fun _ => sp r 8288 (fun _ => ?_) fun _ => sp r 12288 (fun _ => ?_) fun _ => sp r 12289 (fun _ => ?_) fun _ => sp r 55296 (fun _ => ?_) fun _ => sp r 57344 (fun _ => ?_) fun _ => sp r 65279 (fun _ => ?_) fun _ => sp r 65280 (fun _ => ?_) fun _ => ?_
 all_goals
  first | have := dmt r 0 (by omega) | have := dmf r 0 (by omega)
  first | have := it r 55296 57343 (by omega) | have := inf r 55296 57343 (by omega)
  first | have := dnt r 1114111 (by omega) | have := dnf r 1114111 (by omega)
  have : greatB r = false := decide_eq_false hg
  have : smallB r = false := decide_eq_false hs
  first | have := it r 768 879 (by omega) | have := inf r 768 879 (by omega)
  first | have := it r 48 57 (by omega) | have := inf r 48 57 (by omega)
  first | have := e1 r 10 (by omega) | have := n1 r 10 (by omega)
  first | have := e1 r 13 (by omega) | have := n1 r 13 (by omega)
  first | have := e1 r 9 (by omega) | have := n1 r 9 (by omega)
  first | have := e1 r 32 (by omega) | have := n1 r 32 (by omega)
  first | have := e1 r 160 (by omega) | have := n1 r 160 (by omega)
  first | have := it r 8192 8202 (by omega) | have := inf r 8192 8202 (by omega)
  first | have := e1 r 8239 (by omega) | have := n1 r 8239 (by omega)
  first | have := e1 r 8287 (by omega) | have := n1 r 8287 (by omega)
  first | have := e1 r 12288 (by omega) | have := n1 r 12288 (by omega)
  first | have := e1 r 45 (by omega) | have := n1 r 45 (by omega)
  first | have := it r 8208 8213 (by omega) | have := inf r 8208 8213 (by omega)
  first | have := e1 r 34 (by omega) | have := n1 r 34 (by omega)
  first | have := e1 r 39 (by omega) | have := n1 r 39 (by omega)
  first | have := e1 r 171 (by omega) | have := n1 r 171 (by omega)
  first | have := e1 r 187 (by omega) | have := n1 r 187 (by omega)
  first | have := it r 8216 8223 (by omega) | have := inf r 8216 8223 (by omega)
  first | have := e1 r 8249 (by omega) | have := n1 r 8249 (by omega)
  first | have := e1 r 8250 (by omega) | have := n1 r 8250 (by omega)
  first | have := e1 r 33 (by omega) | have := n1 r 33 (by omega)
  first | have := e1 r 44 (by omega) | have := n1 r 44 (by omega)
  first | have := e1 r 46 (by omega) | have := n1 r 46 (by omega)
  first | have := e1 r 58 (by omega) | have := n1 r 58 (by omega)
  first | have := e1 r 59 (by omega) | have := n1 r 59 (by omega)
  first | have := e1 r 63 (by omega) | have := n1 r 63 (by omega)
  first | have := e1 r 161 (by omega) | have := n1 r 161 (by omega)
  first | have := e1 r 183 (by omega) | have := n1 r 183 (by omega)
  first | have := e1 r 191 (by omega) | have := n1 r 191 (by omega)
  first | have := e1 r 8230 (by omega) | have := n1 r 8230 (by omega)
  first | have := it r 0 31 (by omega) | have := inf r 0 31 (by omega)
  first | have := it r 127 159 (by omega) | have := inf r 127 159 (by omega)
  first | have := it r 8203 8207 (by omega) | have := inf r 8203 8207 (by omega)
  first | have := e1 r 65279 (by omega) | have := n1 r 65279 (by omega)
  go_enter Tryz.func88, Tryz.ntmps88
  go_wp2_with (first | (go_at_call 89; with_reducible refine cr (rgreat52 r (by omega) (by omega) _) ?_) | (go_at_call 98; with_reducible refine cr (rsmall114 r (by omega) (by omega) _) ?_) | (go_at_call 90; with_reducible refine cr (in53_any _ _ _ _) ?_))
  go_ret
  exact ⟨rk (by unfold kindI; simp only [hg, hs, or_self, if_false]; (repeat' split) <;> first | rfl | omega), rfl⟩
theorem rkind106_o (r : Int) (hg : ¬ GreatP r) (hs : ¬ SmallP r) (h0 : 0 ≤ r) (h9 : r ≤ 1114111) (w : World) : Calls Tryz.prog 88 #[.int .i32 r] w fun e w' => e = .returned (.int .i64 (kindI r)) ∧ w = w' := by
 exact sp r 48 (fun _ => rkind106_o_0 r hg hs (by omega) (by omega) w) fun _ => sp r 191 (fun _ => rkind106_o_1 r hg hs (by omega) (by omega) w) fun _ => sp r 8251 (fun _ => rkind106_o_2 r hg hs (by omega) (by omega) w) fun _ => rkind106_o_3 r hg hs (by omega) (by omega) w
theorem rkind106_l (r : Int) (hg : GreatP r ∨ SmallP r) (h0 : 65 ≤ r) (h9 : r ≤ 1119) (w : World) : Calls Tryz.prog 88 #[.int .i32 r] w fun e w' => e = .returned (.int .i64 (kindI r)) ∧ w = w' := by
  have : inB r 55296 57343 = false := decide_eq_false (by omega)
  have : decide (r < (0:Int)) = false := decide_eq_false (by omega)
  have : decide ((1114111:Int) < r) = false := decide_eq_false (by omega)
  have hv : kindI r = 1 := by unfold kindI; rw [if_neg (by omega), if_pos hg]
  rw [hv]
  by_cases h : GreatP r
  · have : greatB r = true := decide_eq_true h
    go_enter Tryz.func88, Tryz.ntmps88
    go_wp2_with (first | (go_at_call 89; with_reducible refine cr (rgreat52 r (by omega) (by omega) _) ?_) | (go_at_call 98; with_reducible refine cr (rsmall114 r (by omega) (by omega) _) ?_) | (go_at_call 90; with_reducible refine cr (in53_any _ _ _ _) ?_))
    go_ret
    exact ⟨rfl, rfl⟩
  · have : greatB r = false := decide_eq_false h
    have : smallB r = true := decide_eq_true (hg.resolve_left h)
    go_enter Tryz.func88, Tryz.ntmps88
    go_wp2_with (first | (go_at_call 89; with_reducible refine cr (rgreat52 r (by omega) (by omega) _) ?_) | (go_at_call 98; with_reducible refine cr (rsmall114 r (by omega) (by omega) _) ?_) | (go_at_call 90; with_reducible refine cr (in53_any _ _ _ _) ?_))
    go_ret
    exact ⟨rfl, rfl⟩
theorem rkind106 (r : Int) (h0 : 0 ≤ r) (h9 : r ≤ 1114111) (w : World) : Calls Tryz.prog 88 #[.int .i32 r] w fun e w' => e = .returned (.int .i64 (kindI r)) ∧ w = w' := by
  by_cases hg : GreatP r ∨ SmallP r
  · exact rkind106_l r hg (by unfold GreatP SmallP at hg; omega) (by unfold GreatP SmallP at hg; omega) w
  · exact rkind106_o r (fun h => hg (.inl h)) (fun h => hg (.inr h)) h0 h9 w
end Go.Proofs.YtieifhfgedoiaaaGreatDoor
