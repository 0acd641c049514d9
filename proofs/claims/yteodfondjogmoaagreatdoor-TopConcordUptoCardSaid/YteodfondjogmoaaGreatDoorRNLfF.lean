/- Kind. Conditions: those of each theorem. -/
import Derived.Test.YteodfondjogmoaaGreatDoorRNLfB
namespace Go.Proofs.YteodfondjogmoaaGreatDoor.R
open Go.RowKit Go.Lib
set_option linter.unusedVariables false
set_option linter.unusedSimpArgs false

def Cx81 (r : Int) (w : World) : Prop := Calls Tryz.prog 118 #[.int .i32 r] w fun e w' => e = .returned (.int .i64 (kindI r)) ∧ w = w'
set_option maxHeartbeats 8000000 in
theorem kind81_o_0 (r : Int) (hg : ¬ GreatP r) (hs : ¬ SmallP r) (h1 : 0 ≤ r) (h2 : r ≤ 47) (w : World) : Cx81 r w := by
 unfold Cx81
 refine sp r 9 (fun _ => ?_) fun _ => sp r 10 (fun _ => ?_) fun _ => sp r 11 (fun _ => ?_) fun _ => sp r 13 (fun _ => ?_) fun _ => sp r 14 (fun _ => ?_) fun _ => sp r 32 (fun _ => ?_) fun _ => sp r 33 (fun _ => ?_) fun _ => sp r 34 (fun _ => ?_) fun _ => sp r 35 (fun _ => ?_) fun _ => sp r 39 (fun _ => ?_) fun _ => sp r 40 (fun _ => ?_) fun _ => sp r 44 (fun _ => ?_) fun _ => sp r 45 (fun _ => ?_) fun _ => sp r 46 (fun _ => ?_) fun _ => sp r 47 (fun _ => ?_) fun _ => ?_
 all_goals
  first | have := dmt r 0 (by omega) | have := dmf r 0 (by omega)
  first | have := dgt r 55296 (by omega) | have := dgf r 55296 (by omega)
  first | have := dnt r 1114111 (by omega) | have := dnf r 1114111 (by omega)
  have : (greatB r || smallB r) = false := by rw [show greatB r = false from decide_eq_false hg, show smallB r = false from decide_eq_false hs]; rfl
  first | have := it r 768 879 (by omega) | have := inf r 768 879 (by omega)
  first | have := dgt r 48 (by omega) | have := dgf r 48 (by omega)
  first | have := e1 r 10 (by omega) | have := n1 r 10 (by omega)
  first | have := e1 r 13 (by omega) | have := n1 r 13 (by omega)
  first | have := e1 r 9 (by omega) | have := n1 r 9 (by omega)
  first | have := e1 r 32 (by omega) | have := n1 r 32 (by omega)
  first | have := e1 r 160 (by omega) | have := n1 r 160 (by omega)
  first | have := e1 r 8239 (by omega) | have := n1 r 8239 (by omega)
  first | have := e1 r 8287 (by omega) | have := n1 r 8287 (by omega)
  first | have := e1 r 12288 (by omega) | have := n1 r 12288 (by omega)
  first | have := e1 r 45 (by omega) | have := n1 r 45 (by omega)
  first | have := e1 r 8208 (by omega) | have := n1 r 8208 (by omega)
  first | have := e1 r 8209 (by omega) | have := n1 r 8209 (by omega)
  first | have := e1 r 8210 (by omega) | have := n1 r 8210 (by omega)
  first | have := e1 r 8211 (by omega) | have := n1 r 8211 (by omega)
  first | have := e1 r 8212 (by omega) | have := n1 r 8212 (by omega)
  first | have := e1 r 8213 (by omega) | have := n1 r 8213 (by omega)
  first | have := e1 r 34 (by omega) | have := n1 r 34 (by omega)
  first | have := e1 r 39 (by omega) | have := n1 r 39 (by omega)
  first | have := e1 r 171 (by omega) | have := n1 r 171 (by omega)
  first | have := e1 r 187 (by omega) | have := n1 r 187 (by omega)
  first | have := e1 r 8249 (by omega) | have := n1 r 8249 (by omega)
  first | have := e1 r 8250 (by omega) | have := n1 r 8250 (by omega)
  first | have := e1 r 33 (by omega) | have := n1 r 33 (by omega)
  first | have := e1 r 44 (by omega) | have := n1 r 44 (by omega)
  first | have := e1 r 46 (by omega) | have := n1 r 46 (by omega)
  first | have := e1 r 58 (by omega) | have := n1 r 58 (by omega)
  first | have := e1 r 59 (by omega) | have := n1 r 59 (by omega)
  first | have := e1 r 63 (by omega) | have := n1 r 63 (by omega)
  first | have := e1 r 161 (by omega) | have := n1 r 161 (by omega)
  first | have := e1 r 183 (by omega) | have := n1 r 183 (by omega)
  first | have := e1 r 191 (by omega) | have := n1 r 191 (by omega)
  first | have := e1 r 8230 (by omega) | have := n1 r 8230 (by omega)
  first | have := dgt r 8192 (by omega) | have := dgf r 8192 (by omega)
  first | have := dgt r 8216 (by omega) | have := dgf r 8216 (by omega)
  first | have := dmt r 32 (by omega) | have := dmf r 32 (by omega)
  first | have := dgt r 127 (by omega) | have := dgf r 127 (by omega)
  first | have := dgt r 8203 (by omega) | have := dgf r 8203 (by omega)
  first | have := e1 r 65279 (by omega) | have := n1 r 65279 (by omega)
  go_enter Tryz.func118, Tryz.ntmps118
  go_wp2_with (first | (go_at_call 151; with_reducible refine cr (letter93 r (by omega) (by omega) _) ?_) | (go_at_call 152; with_reducible refine cr (mark94_any _ _) ?_))
  go_ret
  exact ⟨rk (by unfold kindI; simp only [hg, hs, or_self, if_false]; (repeat' split) <;> first | rfl | omega), rfl⟩
set_option maxHeartbeats 8000000 in
theorem kind81_o_1 (r : Int) (hg : ¬ GreatP r) (hs : ¬ SmallP r) (h1 : 48 ≤ r) (h2 : r ≤ 190) (w : World) : Cx81 r w := by
 unfold Cx81
 refine sp r 58 (fun _ => ?_) fun _ => sp r 59 (fun _ => ?_) fun _ => sp r 60 (fun _ => ?_) fun _ => sp r 63 (fun _ => ?_) fun _ => sp r 64 (fun _ => ?_) fun _ => sp r 127 (fun _ => ?_) fun _ => sp r 160 (fun _ => ?_) fun _ => sp r 161 (fun _ => ?_) fun _ => sp r 162 (fun _ => ?_) fun _ => sp r 171 (fun _ => ?_) fun _ => sp r 172 (fun _ => ?_) fun _ => sp r 183 (fun _ => ?_) fun _ => sp r 184 (fun _ => ?_) fun _ => sp r 187 (fun _ => ?_) fun _ => sp r 188 (fun _ => ?_) fun _ => ?_
 all_goals
  first | have := dmt r 0 (by omega) | have := dmf r 0 (by omega)
  first | have := dgt r 55296 (by omega) | have := dgf r 55296 (by omega)
  first | have := dnt r 1114111 (by omega) | have := dnf r 1114111 (by omega)
  have : (greatB r || smallB r) = false := by rw [show greatB r = false from decide_eq_false hg, show smallB r = false from decide_eq_false hs]; rfl
  first | have := it r 768 879 (by omega) | have := inf r 768 879 (by omega)
  first | have := dgt r 48 (by omega) | have := dgf r 48 (by omega)
  first | have := dlt r 57 (by omega) | have := dlf r 57 (by omega)
  first | have := e1 r 10 (by omega) | have := n1 r 10 (by omega)
  first | have := e1 r 13 (by omega) | have := n1 r 13 (by omega)
  first | have := e1 r 9 (by omega) | have := n1 r 9 (by omega)
  first | have := e1 r 32 (by omega) | have := n1 r 32 (by omega)
  first | have := e1 r 160 (by omega) | have := n1 r 160 (by omega)
  first | have := e1 r 8239 (by omega) | have := n1 r 8239 (by omega)
  first | have := e1 r 8287 (by omega) | have := n1 r 8287 (by omega)
  first | have := e1 r 12288 (by omega) | have := n1 r 12288 (by omega)
  first | have := e1 r 45 (by omega) | have := n1 r 45 (by omega)
  first | have := e1 r 8208 (by omega) | have := n1 r 8208 (by omega)
  first | have := e1 r 8209 (by omega) | have := n1 r 8209 (by omega)
  first | have := e1 r 8210 (by omega) | have := n1 r 8210 (by omega)
  first | have := e1 r 8211 (by omega) | have := n1 r 8211 (by omega)
  first | have := e1 r 8212 (by omega) | have := n1 r 8212 (by omega)
  first | have := e1 r 8213 (by omega) | have := n1 r 8213 (by omega)
  first | have := e1 r 34 (by omega) | have := n1 r 34 (by omega)
  first | have := e1 r 39 (by omega) | have := n1 r 39 (by omega)
  first | have := e1 r 171 (by omega) | have := n1 r 171 (by omega)
  first | have := e1 r 187 (by omega) | have := n1 r 187 (by omega)
  first | have := e1 r 8249 (by omega) | have := n1 r 8249 (by omega)
  first | have := e1 r 8250 (by omega) | have := n1 r 8250 (by omega)
  first | have := e1 r 33 (by omega) | have := n1 r 33 (by omega)
  first | have := e1 r 44 (by omega) | have := n1 r 44 (by omega)
  first | have := e1 r 46 (by omega) | have := n1 r 46 (by omega)
  first | have := e1 r 58 (by omega) | have := n1 r 58 (by omega)
  first | have := e1 r 59 (by omega) | have := n1 r 59 (by omega)
  first | have := e1 r 63 (by omega) | have := n1 r 63 (by omega)
  first | have := e1 r 161 (by omega) | have := n1 r 161 (by omega)
  first | have := e1 r 183 (by omega) | have := n1 r 183 (by omega)
  first | have := e1 r 191 (by omega) | have := n1 r 191 (by omega)
  first | have := e1 r 8230 (by omega) | have := n1 r 8230 (by omega)
  first | have := dgt r 8192 (by omega) | have := dgf r 8192 (by omega)
  first | have := dgt r 8216 (by omega) | have := dgf r 8216 (by omega)
  first | have := dmt r 32 (by omega) | have := dmf r 32 (by omega)
  first | have := dgt r 127 (by omega) | have := dgf r 127 (by omega)
  first | have := dgt r 8203 (by omega) | have := dgf r 8203 (by omega)
  first | have := e1 r 65279 (by omega) | have := n1 r 65279 (by omega)
  first | have := dlt r 159 (by omega) | have := dlf r 159 (by omega)
  go_enter Tryz.func118, Tryz.ntmps118
  go_wp2_with (first | (go_at_call 151; with_reducible refine cr (letter93 r (by omega) (by omega) _) ?_) | (go_at_call 152; with_reducible refine cr (mark94_any _ _) ?_))
  go_ret
  exact ⟨rk (by unfold kindI; simp only [hg, hs, or_self, if_false]; (repeat' split) <;> first | rfl | omega), rfl⟩
set_option maxHeartbeats 8000000 in
theorem kind81_o_2 (r : Int) (hg : ¬ GreatP r) (hs : ¬ SmallP r) (h1 : 191 ≤ r) (h2 : r ≤ 8230) (w : World) : Cx81 r w := by
 unfold Cx81
 refine sp r 192 (fun _ => ?_) fun _ => sp r 768 (fun _ => ?_) fun _ => sp r 880 (fun _ => ?_) fun _ => sp r 8192 (fun _ => ?_) fun _ => sp r 8203 (fun _ => ?_) fun _ => sp r 8208 (fun _ => ?_) fun _ => sp r 8209 (fun _ => ?_) fun _ => sp r 8210 (fun _ => ?_) fun _ => sp r 8211 (fun _ => ?_) fun _ => sp r 8212 (fun _ => ?_) fun _ => sp r 8213 (fun _ => ?_) fun _ => sp r 8214 (fun _ => ?_) fun _ => sp r 8216 (fun _ => ?_) fun _ => sp r 8224 (fun _ => ?_) fun _ => sp r 8230 (fun _ => ?_) fun _ => ?_
 all_goals
  first | have := dmt r 0 (by omega) | have := dmf r 0 (by omega)
  first | have := dgt r 55296 (by omega) | have := dgf r 55296 (by omega)
  first | have := dnt r 1114111 (by omega) | have := dnf r 1114111 (by omega)
  have : (greatB r || smallB r) = false := by rw [show greatB r = false from decide_eq_false hg, show smallB r = false from decide_eq_false hs]; rfl
  first | have := it r 768 879 (by omega) | have := inf r 768 879 (by omega)
  first | have := dgt r 48 (by omega) | have := dgf r 48 (by omega)
  first | have := dlt r 57 (by omega) | have := dlf r 57 (by omega)
  first | have := e1 r 10 (by omega) | have := n1 r 10 (by omega)
  first | have := e1 r 13 (by omega) | have := n1 r 13 (by omega)
  first | have := e1 r 9 (by omega) | have := n1 r 9 (by omega)
  first | have := e1 r 32 (by omega) | have := n1 r 32 (by omega)
  first | have := e1 r 160 (by omega) | have := n1 r 160 (by omega)
  first | have := e1 r 8239 (by omega) | have := n1 r 8239 (by omega)
  first | have := e1 r 8287 (by omega) | have := n1 r 8287 (by omega)
  first | have := e1 r 12288 (by omega) | have := n1 r 12288 (by omega)
  first | have := e1 r 45 (by omega) | have := n1 r 45 (by omega)
  first | have := e1 r 8208 (by omega) | have := n1 r 8208 (by omega)
  first | have := e1 r 8209 (by omega) | have := n1 r 8209 (by omega)
  first | have := e1 r 8210 (by omega) | have := n1 r 8210 (by omega)
  first | have := e1 r 8211 (by omega) | have := n1 r 8211 (by omega)
  first | have := e1 r 8212 (by omega) | have := n1 r 8212 (by omega)
  first | have := e1 r 8213 (by omega) | have := n1 r 8213 (by omega)
  first | have := e1 r 34 (by omega) | have := n1 r 34 (by omega)
  first | have := e1 r 39 (by omega) | have := n1 r 39 (by omega)
  first | have := e1 r 171 (by omega) | have := n1 r 171 (by omega)
  first | have := e1 r 187 (by omega) | have := n1 r 187 (by omega)
  first | have := e1 r 8249 (by omega) | have := n1 r 8249 (by omega)
  first | have := e1 r 8250 (by omega) | have := n1 r 8250 (by omega)
  first | have := e1 r 33 (by omega) | have := n1 r 33 (by omega)
  first | have := e1 r 44 (by omega) | have := n1 r 44 (by omega)
  first | have := e1 r 46 (by omega) | have := n1 r 46 (by omega)
  first | have := e1 r 58 (by omega) | have := n1 r 58 (by omega)
  first | have := e1 r 59 (by omega) | have := n1 r 59 (by omega)
  first | have := e1 r 63 (by omega) | have := n1 r 63 (by omega)
  first | have := e1 r 161 (by omega) | have := n1 r 161 (by omega)
  first | have := e1 r 183 (by omega) | have := n1 r 183 (by omega)
  first | have := e1 r 191 (by omega) | have := n1 r 191 (by omega)
  first | have := e1 r 8230 (by omega) | have := n1 r 8230 (by omega)
  first | have := dgt r 8192 (by omega) | have := dgf r 8192 (by omega)
  first | have := dgt r 8216 (by omega) | have := dgf r 8216 (by omega)
  first | have := dmt r 32 (by omega) | have := dmf r 32 (by omega)
  first | have := dgt r 127 (by omega) | have := dgf r 127 (by omega)
  first | have := dlt r 159 (by omega) | have := dlf r 159 (by omega)
  first | have := dgt r 8203 (by omega) | have := dgf r 8203 (by omega)
  first | have := e1 r 65279 (by omega) | have := n1 r 65279 (by omega)
  first | have := dlt r 8202 (by omega) | have := dlf r 8202 (by omega)
  first | have := dlt r 8207 (by omega) | have := dlf r 8207 (by omega)
  first | have := dlt r 8223 (by omega) | have := dlf r 8223 (by omega)
  go_enter Tryz.func118, Tryz.ntmps118
  go_wp2_with (first | (go_at_call 151; with_reducible refine cr (letter93 r (by omega) (by omega) _) ?_) | (go_at_call 152; with_reducible refine cr (mark94_any _ _) ?_))
  go_ret
  exact ⟨rk (by unfold kindI; simp only [hg, hs, or_self, if_false]; (repeat' split) <;> first | rfl | omega), rfl⟩
set_option maxHeartbeats 8000000 in
theorem kind81_o_3 (r : Int) (hg : ¬ GreatP r) (hs : ¬ SmallP r) (h1 : 8231 ≤ r) (h2 : r ≤ 1114111) (w : World) : Cx81 r w := by
 unfold Cx81
 refine sp r 8239 (fun _ => ?_) fun _ => sp r 8240 (fun _ => ?_) fun _ => sp r 8249 (fun _ => ?_) fun _ => sp r 8250 (fun _ => ?_) fun _ => sp r 8251 (fun _ => ?_) fun _ => sp r 8287 (fun _ => ?_) fun _ => sp r 8288 (fun _ => ?_) fun _ => sp r 12288 (fun _ => ?_) fun _ => sp r 12289 (fun _ => ?_) fun _ => sp r 55296 (fun _ => ?_) fun _ => sp r 57344 (fun _ => ?_) fun _ => sp r 65279 (fun _ => ?_) fun _ => sp r 65280 (fun _ => ?_) fun _ => ?_
 all_goals
  first | have := dmt r 0 (by omega) | have := dmf r 0 (by omega)
  first | have := dgt r 55296 (by omega) | have := dgf r 55296 (by omega)
  first | have := dnt r 1114111 (by omega) | have := dnf r 1114111 (by omega)
  have : (greatB r || smallB r) = false := by rw [show greatB r = false from decide_eq_false hg, show smallB r = false from decide_eq_false hs]; rfl
  first | have := it r 768 879 (by omega) | have := inf r 768 879 (by omega)
  first | have := dgt r 48 (by omega) | have := dgf r 48 (by omega)
  first | have := dlt r 57 (by omega) | have := dlf r 57 (by omega)
  first | have := e1 r 10 (by omega) | have := n1 r 10 (by omega)
  first | have := e1 r 13 (by omega) | have := n1 r 13 (by omega)
  first | have := e1 r 9 (by omega) | have := n1 r 9 (by omega)
  first | have := e1 r 32 (by omega) | have := n1 r 32 (by omega)
  first | have := e1 r 160 (by omega) | have := n1 r 160 (by omega)
  first | have := e1 r 8239 (by omega) | have := n1 r 8239 (by omega)
  first | have := e1 r 8287 (by omega) | have := n1 r 8287 (by omega)
  first | have := e1 r 12288 (by omega) | have := n1 r 12288 (by omega)
  first | have := e1 r 45 (by omega) | have := n1 r 45 (by omega)
  first | have := e1 r 8208 (by omega) | have := n1 r 8208 (by omega)
  first | have := e1 r 8209 (by omega) | have := n1 r 8209 (by omega)
  first | have := e1 r 8210 (by omega) | have := n1 r 8210 (by omega)
  first | have := e1 r 8211 (by omega) | have := n1 r 8211 (by omega)
  first | have := e1 r 8212 (by omega) | have := n1 r 8212 (by omega)
  first | have := e1 r 8213 (by omega) | have := n1 r 8213 (by omega)
  first | have := e1 r 34 (by omega) | have := n1 r 34 (by omega)
  first | have := e1 r 39 (by omega) | have := n1 r 39 (by omega)
  first | have := e1 r 171 (by omega) | have := n1 r 171 (by omega)
  first | have := e1 r 187 (by omega) | have := n1 r 187 (by omega)
  first | have := e1 r 8249 (by omega) | have := n1 r 8249 (by omega)
  first | have := e1 r 8250 (by omega) | have := n1 r 8250 (by omega)
  first | have := e1 r 33 (by omega) | have := n1 r 33 (by omega)
  first | have := e1 r 44 (by omega) | have := n1 r 44 (by omega)
  first | have := e1 r 46 (by omega) | have := n1 r 46 (by omega)
  first | have := e1 r 58 (by omega) | have := n1 r 58 (by omega)
  first | have := e1 r 59 (by omega) | have := n1 r 59 (by omega)
  first | have := e1 r 63 (by omega) | have := n1 r 63 (by omega)
  first | have := e1 r 161 (by omega) | have := n1 r 161 (by omega)
  first | have := e1 r 183 (by omega) | have := n1 r 183 (by omega)
  first | have := e1 r 191 (by omega) | have := n1 r 191 (by omega)
  first | have := e1 r 8230 (by omega) | have := n1 r 8230 (by omega)
  first | have := dgt r 8192 (by omega) | have := dgf r 8192 (by omega)
  first | have := dlt r 8202 (by omega) | have := dlf r 8202 (by omega)
  first | have := dgt r 8216 (by omega) | have := dgf r 8216 (by omega)
  first | have := dlt r 8223 (by omega) | have := dlf r 8223 (by omega)
  first | have := dmt r 32 (by omega) | have := dmf r 32 (by omega)
  first | have := dgt r 127 (by omega) | have := dgf r 127 (by omega)
  first | have := dlt r 159 (by omega) | have := dlf r 159 (by omega)
  first | have := dgt r 8203 (by omega) | have := dgf r 8203 (by omega)
  first | have := dlt r 8207 (by omega) | have := dlf r 8207 (by omega)
  first | have := e1 r 65279 (by omega) | have := n1 r 65279 (by omega)
  first | have := dlt r 57343 (by omega) | have := dlf r 57343 (by omega)
  go_enter Tryz.func118, Tryz.ntmps118
  go_wp2_with (first | (go_at_call 151; with_reducible refine cr (letter93 r (by omega) (by omega) _) ?_) | (go_at_call 152; with_reducible refine cr (mark94_any _ _) ?_))
  go_ret
  exact ⟨rk (by unfold kindI; simp only [hg, hs, or_self, if_false]; (repeat' split) <;> first | rfl | omega), rfl⟩
theorem kind81_o (r : Int) (hg : ¬ GreatP r) (hs : ¬ SmallP r) (h0 : 0 ≤ r) (h9 : r ≤ 1114111) (w : World) : Calls Tryz.prog 118 #[.int .i32 r] w fun e w' => e = .returned (.int .i64 (kindI r)) ∧ w = w' := by
 exact sp r 48 (fun _ => kind81_o_0 r hg hs (by omega) (by omega) w) fun _ => sp r 191 (fun _ => kind81_o_1 r hg hs (by omega) (by omega) w) fun _ => sp r 8231 (fun _ => kind81_o_2 r hg hs (by omega) (by omega) w) fun _ => kind81_o_3 r hg hs (by omega) (by omega) w
theorem kind81_l (r : Int) (hg : GreatP r ∨ SmallP r) (h0 : 65 ≤ r) (h9 : r ≤ 1119) (w : World) : Calls Tryz.prog 118 #[.int .i32 r] w fun e w' => e = .returned (.int .i64 (kindI r)) ∧ w = w' := by
  have : (greatB r || smallB r) = true := by rcases hg with h | h; rw [show greatB r = true from decide_eq_true h]; rfl; rw [show smallB r = true from decide_eq_true h, Bool.or_true]
  have : decide ((55296:Int) ≤ r) = false := decide_eq_false (by omega)
  have : decide (r < (0:Int)) = false := decide_eq_false (by omega)
  have : decide ((1114111:Int) < r) = false := decide_eq_false (by omega)
  have hv : kindI r = 1 := by unfold kindI; rw [if_neg (by omega), if_pos hg]
  rw [hv]
  go_enter Tryz.func118, Tryz.ntmps118
  go_wp2_with (first | (go_at_call 151; with_reducible refine cr (letter93 r (by omega) (by omega) _) ?_) | (go_at_call 152; with_reducible refine cr (mark94_any _ _) ?_))
  go_ret
  exact ⟨rfl, rfl⟩
theorem kind81 (r : Int) (h0 : 0 ≤ r) (h9 : r ≤ 1114111) (w : World) : Calls Tryz.prog 118 #[.int .i32 r] w fun e w' => e = .returned (.int .i64 (kindI r)) ∧ w = w' := by
  by_cases hg : GreatP r ∨ SmallP r
  · exact kind81_l r hg (by unfold GreatP SmallP at hg; omega) (by unfold GreatP SmallP at hg; omega) w
  · exact kind81_o r (fun h => hg (.inl h)) (fun h => hg (.inr h)) h0 h9 w
end Go.Proofs.YteodfondjogmoaaGreatDoor.R
