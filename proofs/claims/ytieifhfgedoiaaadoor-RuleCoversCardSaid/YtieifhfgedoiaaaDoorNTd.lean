/- The first rule that fits: both hands; Fits. Conditions: those of each theorem. -/
import Derived.Test.YtieifhfgedoiaaaDoorNTc
import Derived.Test.YtieifhfgedoiaaaDoorNTa
import Derived.Test.YtieifhfgedoiaaaDoorNSa
import Derived.Test.YtieifhfgedoiaaaDoorNFd
import Derived.Deep.DeepCutAuto
namespace Go.Proofs.YtieifhfgedoiaaaDoor
open Go.RowKit Go.Lib
open Go.ChangeMaps
set_option linter.unusedVariables false
set_option linter.unusedSimpArgs false
attribute [local go_sem] ExtS.cell ExtS.froz upE_value upE_skip upE_enter Ext.cell Ext.froz one_neq
theorem firstF_hit {x : Rs} {W : List One} {k i : Nat} {L : List Rl} {u : Rl} (h : L[i]? = some u) (hf : fitB x u W k = true) : firstF x W k (L.drop i) i = i + 1 := by
 obtain ⟨hl, rfl⟩ := List.getElem?_eq_some_iff.1 h
 rw [List.drop_eq_getElem_cons hl]
 show (if _ then _ else _) = _
 rw [if_pos hf]
theorem firstF_miss {x : Rs} {W : List One} {k i : Nat} {L : List Rl} {u : Rl} (h : L[i]? = some u) (hf : fitB x u W k = false) : firstF x W k (L.drop i) i = firstF x W k (L.drop (i + 1)) (i + 1) := by
 obtain ⟨hl, rfl⟩ := List.getElem?_eq_some_iff.1 h
 rw [List.drop_eq_getElem_cons hl]
 show (if _ then _ else _) = _
 rw [if_neg (by rw [hf]; simp)]
set_option maxRecDepth 100000 in
set_option maxHeartbeats 4000000 in
theorem first39 {w : World} {X base : Nat} {x : Rs} (h : PAt w X base x) (gx : RsG x) (hl : x.rules.length ≤ 256)
  (W : List One) {pu pa : Option Addr} {cu na ca : Nat} (hW : OneR w pu W) (hWb : ∀ o ∈ W, OneB o) (hc : W.length ≤ cu) (hn : W.length ≤ 100000000) (k : Nat) (hk : k ≤ W.length) :
  Calls Tryd.prog 39 #[.pointer (some ⟨X, 0, none⟩), .agg #[.slice pu W.length cu, .slice pa na ca], .int .i64 k] w fun e w' => e = .returned (.int .i64 (firstN x W k)) ∧ Below w.heap.size w w' := by
 have hb1 := hid ((Below.refl w.heap.size w).alloc (Nat.le_refl _) (.cells #[.slice pu W.length cu, .slice pa na ca] 101))
 have KB := hid (Blk.new w 101 #[.slice pu W.length cu, .slice pa na ca])
 have HX := hid (h.low hb1.out)
 have HW := hid (hW.low hb1.out)
 have HWb := hid hWb
 obtain ⟨mc, ml, v, kk, _, _⟩ := h.ex
 obtain ⟨pv, cv, d2, df, HR⟩ := HX.out.slice
 have HR1 := hid HR
 obtain ⟨n, hnn⟩ : ∃ n, x.rules.length = n := ⟨_, rfl⟩
 rw [hnn] at d2 HR1 hl
 have HNN := hid hnn
 clear h hW hWb HR hnn
 go_enter Tryd.func39, Tryd.ntmps39
 go_wp2_with fail
 obtain ⟨B, hBn⟩ : ∃ B, w.heap.size = B := ⟨_, rfl⟩
 have hbB := hid (Nat.le_of_eq hBn)
 rw [hBn] at KB
 simp only [hBn]
 clear hBn
 generalize w.alloc (.cells #[.slice pu W.length cu, .slice pa na ca] 101) = W0 at *
 go_loopw [13] (fun v wr => ∃ i : Nat, i ≤ n ∧ v = .int .i64 i ∧ Hid (firstN x W k = firstF x W k (x.rules.drop i) i) ∧ Hid (Below W0.heap.size W0 wr)) (fun v _ => n - (RowKit.intOf v).toNat)
 case atStart => exact ⟨0, Nat.zero_le _, rfl, hid rfl, hid (Below.refl _ _)⟩
 case round =>
  clear d2 df
  obtain ⟨i, hi, rfl, hT, hB⟩ := hrel
  have hw1 : IntKind.i64.wrap ((i : Int) + 1) = (i : Int) + 1 := Wi64 (by omega)
  have hbr := hid (hb1.out.trans (hB.out.mono hb1.out.size))
  by_cases hlt : i < n
  ·have q1 := dT (show (i : Int) < n by omega)
   have q2 : (i : Int) < n := by omega
   obtain ⟨u, hu⟩ : ∃ u, x.rules[i]? = some u := ⟨_, List.getElem?_eq_getElem (by rw [HNN.out]; exact hlt)⟩
   have HX2 := hid (HX.out.low hB.out)
   obtain ⟨mc2, ml2, v2, kk2, hRs, _⟩ := HX2.out.ex
   have HRs := hid hRs
   obtain ⟨pv2, cv2, d2, df, HR⟩ := HX2.out.slice
   obtain ⟨G, p1, p2, p3, p4, c1, c2, c3, c4, rfl, hRu⟩ := rows_ruM HR hu
   rw [HNN.out] at d2
   have HRu := hid hRu
   have HW2 := hid (HW.out.low hB.out)
   have z0 := (KB.out.low hB.out).cell (k := 0) rfl
   have z1 := (KB.out.low hB.out).cell (k := 1) rfl
   have zf := (KB.out.low hB.out).froz
   have hC := hid (fun xx : Ext wr => fits56 (HRs.out.low xx.h) (HRu.out.low xx.h) (gx.r u (List.mem_of_getElem? hu)) W (pu := pu) (pa := pa) (cu := cu) (na := na) (ca := ca) (HW2.out.low xx.h) HWb.out hc hn k hk)
   obtain ⟨ft, hft⟩ : ∃ ft, fitB x u W k = ft := ⟨_, rfl⟩
   rw [hft] at hC
   have HFT := hid hft
   have HU := hid hu
   clear hRs hRu HR hu hft
   go_wp2_with fail
   refine ext_all (by kernel_rfl) (by kernel_rfl) ?_
   repeat (go_big_quiet_step (first | with_reducible exact Ext.call (hC.out _)))
   refine wpQuiet_nil ?_
   rintro _ ⟨xx, rfl⟩
   have hB5 := hid (bnext hB.out xx.h)
   have hb5 := hid (bnext hbr.out xx.h)
   generalize xx.w = W5 at *
   clear hC hB hbr z0 z1 zf d2 df HX2 HW2 HRs HRu
   cases ft with
   | true =>
    have hE := hid (hT.out.trans (firstF_hit HU.out HFT.out))
    go_wp2_with fail
    go_ret
    exact ⟨by rw [hE.out]; rfl, hb5.out⟩
   | false =>
    have hE := hid (hT.out.trans (firstF_miss HU.out HFT.out))
    go_wp2_with fail
    go_roundw
    case rel => exact ⟨i + 1, by omega, by go_num, hE, hB5⟩
    case measure => simp [RowKit.intOf] <;> omega
  ·obtain rfl : i = n := by omega
   have q1 : decide ((i : Int) < i) = false := by simp
   have hE : Hid (firstN x W k = 0) := hid (by rw [hT.out, List.drop_of_length_le (Nat.le_of_eq HNN.out)]; rfl)
   go_wp2_with fail
   go_ret
   exact ⟨by rw [hE.out]; rfl, hbr.out⟩
end Go.Proofs.YtieifhfgedoiaaaDoor
/- The first rule that fits: the document's hand. Conditions: those of each theorem. -/
namespace Go.Proofs.YtieifhfgedoiaaaDoor
open Go.RowKit Go.Lib
set_option linter.unusedVariables false
set_option linter.unusedSimpArgs false
attribute [local go_sem] ExtS.cell ExtS.froz upE_value upE_skip upE_enter Ext.cell Ext.froz one_neq
structure RuD (w : World) (G q : Nat) (u : Rl) (p1 p2 p3 p4 : Option Addr) (c1 c2 c3 c4 : Nat) : Prop where
 y0 : w.cell? ⟨G, q, none⟩ = some (.string u.line)
 y1 : w.cell? ⟨G, q + 1, none⟩ = some (.bool u.begins)
 y2 : w.cell? ⟨G, q + 2, none⟩ = some (.slice p1 u.left.length c1)
 y3 : w.cell? ⟨G, q + 3, none⟩ = some (.slice p3 u.body.length c3)
 y4 : w.cell? ⟨G, q + 4, none⟩ = some (.slice p2 u.right.length c2)
 y5 : w.cell? ⟨G, q + 5, none⟩ = some (.bool u.ends)
 y6 : w.cell? ⟨G, q + 6, none⟩ = some (.slice p4 u.phones.length c4)
 l : ItemR w p1 u.left
 r : ItemR w p2 u.right
 b : OneR w p3 u.body
 p : PhR w p4 u.phones
theorem RuD.low {w w' : World} {G q : Nat} {u : Rl} {p1 p2 p3 p4 : Option Addr} {c1 c2 c3 c4 : Nat} (h : RuD w G q u p1 p2 p3 p4 c1 c2 c3 c4) (hb : Below w.heap.size w w') : RuD w' G q u p1 p2 p3 p4 c1 c2 c3 c4 :=
 ⟨cell_low hb h.y0, cell_low hb h.y1, cell_low hb h.y2, cell_low hb h.y3, cell_low hb h.y4, cell_low hb h.y5, cell_low hb h.y6, h.l.low hb, h.r.low hb, h.b.low hb, h.p.low hb⟩
theorem drows_ruD {w : World} {base n cv : Nat} {pv : Option Addr} {L : List Rl} (h : DRows w base (.slice pv n cv) L) {j : Nat} {u : Rl} (hj : L[j]? = some u) :
  ∃ G p1 p2 p3 p4 c1 c2 c3 c4, pv = some ⟨G, 0, none⟩ ∧ RuD w G (j * 7) u p1 p2 p3 p4 c1 c2 c3 c4 := by
 obtain ⟨Vs, g1, g2, g3⟩ := h
 have hl : L.length ≠ 0 := by have := (List.getElem?_eq_some_iff.1 hj).1; omega
 obtain ⟨m, hm⟩ : ∃ m, L.length = m + 1 := ⟨L.length - 1, by omega⟩
 rw [hm] at g2
 obtain ⟨g, cap, hg⟩ := own_block g2
 cases hg
 have hV : ∃ y, Vs[j]? = some y ∧ y.1 = u := by
  rw [← g1, List.getElem?_map] at hj
  cases hv : Vs[j]? with
  | none => rw [hv] at hj; cases hj
  | some y => rw [hv] at hj; exact ⟨y, rfl, by simpa using hj⟩
 obtain ⟨⟨u', V⟩, hy, rfl⟩ := hV
 have hok := g3 _ (List.mem_of_getElem? hy)
 obtain ⟨p1, c1, e1⟩ := own_shape hok.l
 obtain ⟨p2, c2, e2⟩ := own_shape hok.r
 obtain ⟨p3, c3, e3⟩ := own_shape hok.b
 obtain ⟨p4, c4, e4⟩ := own_shape hok.p
 have hc := fun i v hv => own_cell (j := j * 7 + i) g2 (flatE_get (fun y : Rl × RlV => Rl.dcells y.1 y.2) 7 (fun _ => rfl) Vs j _ hy i v hv)
 have k1 := hok.l
 have k2 := hok.r
 have k3 := hok.b
 have k4 := hok.p
 rw [e1] at k1
 rw [e2] at k2
 rw [e3] at k3
 rw [e4] at k4
 refine ⟨g, p1, p2, p3, p4, c1, c2, c3, c4, rfl, hc 0 _ rfl, hc 1 _ rfl, ?_, ?_, ?_, hc 5 _ rfl, ?_, own_itemR k1, own_itemR k2, own_oneR k3, own_phR k4⟩
 ·rw [← e1]; exact hc 2 _ rfl
 ·rw [← e3]; exact hc 3 _ rfl
 ·rw [← e2]; exact hc 4 _ rfl
 ·rw [← e4]; exact hc 6 _ rfl
set_option maxRecDepth 100000 in
set_option maxHeartbeats 4000000 in
theorem first21 {w : World} {base : Nat} {c : Array Value} {x : Rs} (h : DVal w base c x) (gx : RsG x) (hl : x.rules.length ≤ 256)
  (W : List One) {pu : Option Addr} {cu : Nat} (hW : OneR w pu W) (hn : W.length ≤ 100000000) (k : Nat) (hk : k ≤ W.length) :
  Calls Tryd.prog 21 #[.agg c, .slice pu W.length cu, .int .i64 k] w fun e w' => e = .returned (.int .i64 (firstN x W k)) ∧ Below w.heap.size w w' := by
 have hV1 := h.one
 have hi31 : (Tryd.prog.info? 31).map (·.size) = some c.size := by rw [hV1.1]; kernel_rfl
 have hb1 := hid ((Below.refl w.heap.size w).alloc (Nat.le_refl _) (.cells c 31))
 have KB := hid (Blk.new w 31 c)
 have HX := hid (h.low hb1.out)
 have HW := hid (hW.low hb1.out)
 obtain ⟨Vc, v, e2, e3, e4, e5⟩ := HX.out.ex
 obtain ⟨pv, cv, rfl⟩ : ∃ pv cv, v = .slice pv x.rules.length cv := by obtain ⟨Vs, g1, g2, g3⟩ := e5; exact own_shape g2
 have HR := hid e5
 obtain ⟨n, hnn⟩ : ∃ n, x.rules.length = n := ⟨_, rfl⟩
 rw [hnn] at HR hl e4
 have HNN := hid hnn
 have HC78 := hid e4
 have d2 := KB.out.cell e4
 have df := KB.out.froz
 clear h hW e2 e3 e4 e5 hnn
 go_enter Tryd.func21, Tryd.ntmps21
 go_wp2_with fail
 obtain ⟨B, hBn⟩ : ∃ B, w.heap.size = B := ⟨_, rfl⟩
 have hbB := hid (Nat.le_of_eq hBn)
 rw [hBn] at KB d2
 simp only [hBn] at df ⊢
 clear hBn
 generalize w.alloc (.cells c 31) = W0 at *
 go_loopw [7] (fun v wr => ∃ i : Nat, i ≤ n ∧ v = .int .i64 i ∧ Hid (firstN x W k = firstF x W k (x.rules.drop i) i) ∧ Hid (Below W0.heap.size W0 wr)) (fun v _ => n - (RowKit.intOf v).toNat)
 case atStart => exact ⟨0, Nat.zero_le _, rfl, hid rfl, hid (Below.refl _ _)⟩
 case round =>
  clear d2 df
  obtain ⟨i, hi, rfl, hT, hB⟩ := hrel
  have hw1 : IntKind.i64.wrap ((i : Int) + 1) = (i : Int) + 1 := Wi64 (by omega)
  have hbr := hid (hb1.out.trans (hB.out.mono hb1.out.size))
  have KB2 := hid (KB.out.low hB.out)
  have d2 := KB2.out.cell HC78.out
  have df := KB2.out.froz
  by_cases hlt : i < n
  ·have q1 := dT (show (i : Int) < n by omega)
   have q2 : (i : Int) < n := by omega
   obtain ⟨u, hu⟩ : ∃ u, x.rules[i]? = some u := ⟨_, List.getElem?_eq_getElem (by rw [HNN.out]; exact hlt)⟩
   have HX2 := hid (HX.out.low hB.out)
   obtain ⟨G, p1, p2, p3, p4, c1, c2, c3, c4, rfl, hRu⟩ := drows_ruD (HR.out.low hB.out) hu
   have y0 := hRu.y0
   have y1 := hRu.y1
   have y2 := hRu.y2
   have y3 := hRu.y3
   have y4 := hRu.y4
   have y5 := hRu.y5
   have y6 := hRu.y6
   have HRu := hid hRu
   have HW2 := hid (HW.out.low hB.out)
   have hC := hid (fun xx : Ext wr => fit30 (HX2.out.low xx.h) gx (gx.r u (List.mem_of_getElem? hu)) (c1 := c1) (c2 := c2) (c3 := c3) (c4 := c4) (p4 := p4) (HRu.out.l.low xx.h) (HRu.out.r.low xx.h) (HRu.out.b.low xx.h) W (pu := pu) (cu := cu) (HW2.out.low xx.h) hn k hk)
   obtain ⟨ft, hft⟩ : ∃ ft, fitB x u W k = ft := ⟨_, rfl⟩
   rw [hft] at hC
   have HFT := hid hft
   have HU := hid hu
   clear hRu hu hft
   go_wp2_with fail
   refine ext_all (by kernel_rfl) (by kernel_rfl) ?_
   refine wpQuiet_load_row rfl 31 _ rfl B rfl 31 c (0, 0) _ (fun w hw => by obtain ⟨xx, rfl⟩ := hw; exact KB2.out.low xx.h) Tryd.underlying31 rfl hi31 ?_
   go_simp
   repeat (go_big_quiet_step (with_reducible exact Ext.call (hC.out _)))
   refine wpQuiet_nil ?_
   first | rintro _ ⟨xx, rfl⟩ | intro xx
   have hB5 := hid (bnext hB.out xx.h)
   have hb5 := hid (bnext hbr.out xx.h)
   generalize xx.w = W5 at *
   clear hC hB hbr y0 y1 y2 y3 y4 y5 y6 d2 df HX2 HW2 HRu KB2
   cases ft with
   | true =>
    have hE := hid (hT.out.trans (firstF_hit HU.out HFT.out))
    go_wp2_with fail
    go_ret
    exact ⟨by rw [hE.out]; rfl, hb5.out⟩
   | false =>
    have hE := hid (hT.out.trans (firstF_miss HU.out HFT.out))
    go_wp2_with fail
    go_roundw
    case rel => exact ⟨i + 1, by omega, by go_num, hE, hB5⟩
    case measure => simp [RowKit.intOf] <;> omega
  ·obtain rfl : i = n := by omega
   have q1 : decide ((i : Int) < i) = false := by simp
   have hE : Hid (firstN x W k = 0) := hid (by rw [hT.out, List.drop_of_length_le (Nat.le_of_eq HNN.out)]; rfl)
   go_wp2_with fail
   go_ret
   exact ⟨by rw [hE.out]; rfl, hbr.out⟩
end Go.Proofs.YtieifhfgedoiaaaDoor
/- Fits: the program's hand. Conditions: those of each theorem. -/
namespace Go.Proofs.YtieifhfgedoiaaaDoor
open Go.RowKit Go.Lib
set_option linter.unusedVariables false
set_option linter.unusedSimpArgs false
attribute [local go_sem] ExtS.cell ExtS.froz upE_value upE_skip upE_enter Ext.cell Ext.froz one_neq
theorem own_len {w : World} {base n cap : Nat} {e : TypeId} {size m : Nat} {p : Option Addr} {xs : List Value} (h : w.ownsRow base e size (.slice p m cap) n xs) : m = n ∧ n ≤ cap := by
 obtain ⟨p', cap', he⟩ := own_shape h
 injection he with h1 h2 h3
 have hm : m = n := h2
 rw [hm] at h
 refine ⟨hm, ?_⟩
 cases n with
 | zero => exact Nat.zero_le _
 | succ k =>
  obtain ⟨g, cap'', hg⟩ := own_block h
  injection hg with h4 h5 h6
  subst h4
  exact own_cap h
def fitsA (x : Rs) (s : ByteArray) (z : Int) : Int × Int :=
 if (wordL s).length > 64 then (0, 3)
 else if idxF (atL s) z 0 < 0 ∨ idxF (atL s) z 0 = (wordL s).length then (0, 5)
 else (firstN x (wordL s) (idxF (atL s) z 0).toNat, 0)
theorem idxF_bd : ∀ (L : List Nat) (z : Int) (n : Nat), idxF L z n = -1 ∨ ((n : Int) ≤ idxF L z n ∧ idxF L z n < n + L.length)
 | [], z, n => .inl rfl
 | p :: r, z, n => by
  unfold idxF
  by_cases h : (p : Int) = z
  ·rw [if_pos h]; right; simp; omega
  ·rw [if_neg h]
   rcases idxF_bd r z (n + 1) with h1 | h1
   ·exact .inl h1
   ·right; simp; omega
theorem wordL_bd {s : ByteArray} : ∀ o ∈ wordL s, OneB o := by
 intro o ho
 unfold wordL at ho
 obtain ⟨p, hp, rfl⟩ := List.mem_map.1 ho
 exact word_bd (posL_lt _ 0 rfl p hp)
theorem wordL_le (s : ByteArray) : (wordL s).length ≤ s.size := by rw [wordL_len]; have := posL_len s _ 0 rfl; omega
set_option maxRecDepth 100000 in
set_option maxHeartbeats 4000000 in
theorem fits20 {w : World} {X base : Nat} {x : Rs} (h : PAt w X base x) (gx : RsG x) (hl : x.rules.length ≤ 256) (s : ByteArray) (hs : s.size ≤ 100000000) (z : Int) :
  Calls Tryd.prog 20 #[.pointer (some ⟨X, 0, none⟩), .string s, .int .i64 z] w fun e w' => e = .returned (.tuple #[.int .i64 (fitsA x s z).1, .int .i64 (fitsA x s z).2]) ∧ Below w.heap.size w w' := by
 have hO := hid (of37 s w hs)
 have H := hid h
 clear h
 go_enter Tryd.func20, Tryd.ntmps20
 go_wp2_with fail
 go_at_call 37
 with_reducible refine Calls.mono (hO.out) ?_
 rintro e w1 ⟨⟨v1, v2, rfl, hW⟩, hb1⟩
 skip
 obtain ⟨pu, cu, rfl⟩ := own_shape hW.u
 obtain ⟨pa, ca, rfl⟩ := own_shape hW.a
 have hWl := wordL_le s
 obtain ⟨n, hnn⟩ : ∃ n, (wordL s).length = n := ⟨_, rfl⟩
 have hal : (atL s).length = n + 1 := by rw [atL_len, hnn]
 have hcu : n ≤ cu := by have := (own_len hW.u).2; rw [hnn] at this; exact this
 have HOr := hid (own_oneR hW.u)
 have HNr := hid (own_numR hW.a)
 rw [hnn, hal]
 have HNN := hid hnn
 have HAL := hid hal
 rw [hnn] at hWl
 have hb2 : Below w1.heap.size w1 (w1.alloc (.cells #[.slice pu n cu, .slice pa (n + 1) ca] 101)) := (Below.refl _ _).alloc (Nat.le_refl _) _
 have KB := hid (Blk.new w1 101 #[.slice pu n cu, .slice pa (n + 1) ca])
 have HO2 := hid (HOr.out.low hb2)
 have HX := hid ((H.out.low hb1).low hb2)
 have HN2 : Hid (NumR (w1.alloc (.cells #[.slice pu n cu, .slice pa (n + 1) ca] 101)) pa (atL s)) := hid (fun hL => by
  obtain ⟨g, h1, h2⟩ := HNr.out hL
  exact ⟨g, h1, fun i u hu => cell_low hb2 (h2 i u hu)⟩)
 have hbb := hid (bnext hb1 hb2)
 have z0 := KB.out.cell (k := 0) rfl
 have z1 := KB.out.cell (k := 1) rfl
 have zf := KB.out.froz
 clear hO H hW hnn hal HOr HNr hb1
 have hA : fitsA x s z = if n > 64 then ((0, 3) : Int × Int) else if idxF (atL s) z 0 < 0 ∨ idxF (atL s) z 0 = n then (0, 5) else (firstN x (wordL s) (idxF (atL s) z 0).toNat, 0) := by unfold fitsA; rw [HNN.out]
 have HA := hid hA
 clear hA hb2
 by_cases h64 : 64 < n
 ·have q1 := dT (show (64 : Int) < n by omega)
  have q2 : decide (64 < n) = true := decide_eq_true h64
  go_wp2_with fail
  refine bodyPost_ret_by (v := .tuple #[.int .i64 0, .int .i64 3]) (by simp [results, Tryd.results20, go_sem]) rfl ?_
  exact ⟨by rw [HA.out, if_pos h64], hbb.out⟩
 ·have q1 := dF (show ¬ ((64 : Int) < n) by omega)
  have q2 : decide (64 < n) = false := decide_eq_false h64
  have hI := hid (index38 (w := w1.alloc (.cells #[.slice pu n cu, .slice pa (n + 1) ca] 101)) (p1 := pa) (c1 := ca) (atL s) HN2.out (by rw [HAL.out]; omega) z)
  rw [HAL.out] at hI
  obtain ⟨r, hr⟩ : ∃ r, idxF (atL s) z 0 = r := ⟨_, rfl⟩
  have hbd := idxF_bd (atL s) z 0
  rw [HAL.out] at hbd
  rw [hr] at hI hbd
  have HR := hid hr
  clear hr
  have HBD := hid hbd
  have HI := hid hI
  clear hbd
  by_cases hr0 : r < 0
  ·have q3 : decide (r < 0) = true := decide_eq_true hr0
   go_wp2_with (go_at_call 38; (with_reducible refine Calls.mono hI.out ?_); rintro e w2 ⟨rfl, rfl⟩)
   refine bodyPost_ret_by (v := .tuple #[.int .i64 0, .int .i64 5]) (by simp [results, Tryd.results20, go_sem]) rfl ?_
   exact ⟨by rw [HA.out, if_neg h64, HR.out, if_pos (.inl hr0)], hbb.out⟩
  ·have q3 : decide (r < 0) = false := decide_eq_false hr0
   by_cases hrn : r = (n : Int)
   ·have q4 : (r == (n : Int)) = true := beq_true_of hrn
    have HRN := hid hrn
    clear hrn
    go_wp2_with (go_at_call 38; (with_reducible refine Calls.mono hI.out ?_); rintro e w2 ⟨rfl, rfl⟩)
    refine bodyPost_ret_by (v := .tuple #[.int .i64 0, .int .i64 5]) (by simp [results, Tryd.results20, go_sem]) rfl ?_
    exact ⟨by rw [HA.out, if_neg h64, HR.out, if_pos (.inr HRN.out)], hbb.out⟩
   ·have q4 : (r == (n : Int)) = false := beq_false_of hrn
    have hA2 : Hid (fitsA x s z = (((firstN x (wordL s) r.toNat : Nat) : Int), (0 : Int))) := hid (by rw [HA.out, if_neg h64, HR.out, if_neg (by omega)])
    obtain ⟨k, rfl⟩ : ∃ k : Nat, r = k := ⟨r.toNat, by omega⟩
    have hkn : k < n := by have := HBD.out; omega
    have hF := hid (first39 (w := w1.alloc (.cells #[.slice pu n cu, .slice pa (n + 1) ca] 101)) HX.out gx hl (wordL s) (pu := pu) (pa := pa) (cu := cu) (na := n + 1) (ca := ca) HO2.out wordL_bd (by rw [HNN.out]; exact hcu) (by rw [HNN.out]; omega) k (by rw [HNN.out]; omega))
    rw [HNN.out] at hF
    go_wp2_with (first | (go_at_call 38; (with_reducible refine Calls.mono hI.out ?_); rintro e w2 ⟨rfl, rfl⟩) | (go_at_call 39; (with_reducible refine Calls.mono hF.out ?_); rintro e w2 ⟨rfl, hb9⟩))
    refine bodyPost_ret_by (v := .tuple #[.int .i64 (firstN x (wordL s) k), .int .i64 0]) (by simp [results, Tryd.results20, go_sem]) rfl ?_
    exact ⟨by rw [hA2.out, Int.toNat_natCast], bnext hbb.out hb9⟩
end Go.Proofs.YtieifhfgedoiaaaDoor
/- RuleFits: the first rule that fits, at each place of a word and beside them. Conditions: those of each theorem. -/
namespace Go.Proofs.YtieifhfgedoiaaaDoor
open Go.RowKit Go.Lib
set_option linter.unusedVariables false
set_option linter.unusedSimpArgs false
attribute [local go_sem] ExtS.cell ExtS.froz upE_value upE_skip upE_enter Ext.cell Ext.froz
theorem wpList_load_rowH {P : Program} {ops : Array Oper} {rest : List Oper} {o : Oper} {a : Act} {w : World} {Q : Exit → Act → World → Prop} (hgd : Region.wanted o (yielded ops a.tmps) = true) (ty : TypeId) (x : Operand) (ho : o.op = .load ty x)
  (g : Nat) (hx : a.eval x = .pointer (some ⟨g, 0, none⟩)) (t : TypeId) (cs : Array Value) (fr : Nat × Nat) (d : TypeDesc) (hg : w.heap[g]? = some (.cells cs t fr))
  (hu : P.underlying ty = some d) (hd : (match d with | .struct _ | .array _ _ => true | _ => false) = true) (hi : (P.info? ty).map (·.size) = some cs.size)
  (h : wpList P ops Q rest (a.put o.dst (.agg cs)) w) : wpList P ops Q (o :: rest) a w :=
 wpList_step fun K hK => by rw [if_pos hgd]; exact wp_load_row ty x ho g hx t cs fr d hg hu hd hi (hK _ _ h)
theorem posL_ge {s : ByteArray} : ∀ (k p : Nat), s.size - p = k → ∀ q ∈ posL s p, p ≤ q := by
 intro k
 induction k using Nat.strongRecOn with
 | ind k ih =>
  intro p hk q hq
  by_cases hp : p < s.size
  ·rw [posL_more hp] at hq
   have hw := wdN_pos hp
   rcases List.mem_cons.1 hq with rfl | h
   ·exact Nat.le_refl _
   ·have := ih _ (by omega) _ rfl q h; omega
  ·rw [posL_end hp] at hq; cases hq
theorem posL_inc {s : ByteArray} : ∀ (k p : Nat), s.size - p = k → (posL s p).Pairwise (· < ·) := by
 intro k
 induction k using Nat.strongRecOn with
 | ind k ih =>
  intro p hk
  by_cases hp : p < s.size
  ·rw [posL_more hp]
   have hw := wdN_pos hp
   refine List.pairwise_cons.2 ⟨fun q hq => ?_, ih _ (by omega) _ rfl⟩
   have := posL_ge _ _ rfl q hq; omega
  ·rw [posL_end hp]; exact List.Pairwise.nil
theorem posL_lt2 {s : ByteArray} {i j p q : Nat} (h : i < j) (hp : (posL s 0)[i]? = some p) (hq : (posL s 0)[j]? = some q) : p < q := by
 obtain ⟨h1, rfl⟩ := List.getElem?_eq_some_iff.1 hp
 obtain ⟨h2, rfl⟩ := List.getElem?_eq_some_iff.1 hq
 exact List.pairwise_iff_getElem.1 (posL_inc _ 0 rfl) i j h1 h2 h
theorem idxF_at : ∀ {L : List Nat} {z : Int} {i n p : Nat}, L[i]? = some p → (p : Int) = z → (∀ (j q : Nat), j < i → L[j]? = some q → (q : Int) ≠ z) → idxF L z n = ((n + i : Nat) : Int)
 | a :: r, z, 0, n, p, h, he, hj => by
  injection h with h
  subst h
  unfold idxF
  rw [if_pos he]; rfl
 | a :: r, z, i + 1, n, p, h, he, hj => by
  unfold idxF
  rw [if_neg (hj 0 a (by omega) rfl), idxF_at (n := n + 1) (show r[i]? = some p from h) he (fun j q hji hq => hj (j + 1) q (by omega) hq)]
  omega
theorem idxF_out : ∀ {L : List Nat} {z : Int} {n q : Nat}, (∀ (j p : Nat), L[j]? = some p → (p : Int) ≠ z) → idxF (L ++ [q]) z n = -1 ∨ idxF (L ++ [q]) z n = ((n + L.length : Nat) : Int)
 | [], z, n, q, h => by
  show (if (q : Int) = z then (n : Int) else -1) = -1 ∨ (if (q : Int) = z then (n : Int) else -1) = _
  by_cases hq : (q : Int) = z
  ·rw [if_pos hq]; right; rfl
  ·rw [if_neg hq]; left; rfl
 | a :: r, z, n, q, h => by
  have h1 := idxF_out (L := r) (z := z) (n := n + 1) (q := q) (fun j p hp => h (j + 1) p hp)
  have h2 : idxF (a :: r ++ [q]) z n = idxF (r ++ [q]) z (n + 1) := by
   show (if (a : Int) = z then (n : Int) else _) = _
   rw [if_neg (h 0 a rfl)]; rfl
  rw [h2]
  rcases h1 with h1 | h1
  ·exact .inl h1
  ·right; rw [h1, List.length_cons]; omega
structure Nxp (s : ByteArray) (z : Int) (k : Nat) : Prop where
 le : k ≤ (posL s 0).length
 lo : ∀ (i p : Nat), i < k → (posL s 0)[i]? = some p → (p : Int) < z
 hi : ∀ (i p : Nat), k ≤ i → (posL s 0)[i]? = some p → z ≤ (p : Int)
theorem Nxp.start (s : ByteArray) : Nxp s (-1) 0 := ⟨Nat.zero_le _, fun i p h _ => absurd h (by omega), fun i p _ _ => by omega⟩
theorem Nxp.hit {s : ByteArray} {z : Int} {k p : Nat} (h : Nxp s z k) (hp : (posL s 0)[k]? = some p) (he : (p : Int) = z) : Nxp s (z + 1) (k + 1) ∧ idxF (atL s) z 0 = k := by
 have hk := (List.getElem?_eq_some_iff.1 hp).1
 refine ⟨⟨hk, fun i q hi hq => ?_, fun i q hi hq => ?_⟩, ?_⟩
 ·by_cases hik : i = k
  ·subst hik; rw [hp] at hq; injection hq with hq; omega
  ·have := h.lo i q (by omega) hq; omega
 ·have := posL_lt2 (by omega : k < i) hp hq; omega
 ·have h1 : (atL s)[k]? = some p := by unfold atL; rw [List.getElem?_append_left hk]; exact hp
  have := idxF_at (n := 0) h1 he (fun j q hj hq => by
   have hq2 : (posL s 0)[j]? = some q := by unfold atL at hq; rw [List.getElem?_append_left (by omega)] at hq; exact hq
   have := h.lo j q hj hq2; omega)
  rw [this]; simp
theorem Nxp.miss {s : ByteArray} {z : Int} {k : Nat} (h : Nxp s z k) (hn : ∀ (p : Nat), (posL s 0)[k]? = some p → (p : Int) ≠ z) : Nxp s (z + 1) k ∧ (idxF (atL s) z 0 = -1 ∨ idxF (atL s) z 0 = (posL s 0).length) := by
 have hne : ∀ (j p : Nat), (posL s 0)[j]? = some p → (p : Int) ≠ z := fun j p hp => by
  rcases Nat.lt_trichotomy j k with hj | hj | hj
  ·have := h.lo j p hj hp; omega
  ·subst hj; exact hn p hp
  ·have hjl := (List.getElem?_eq_some_iff.1 hp).1
   have hkk : (posL s 0)[k]? = some ((posL s 0)[k]'(by omega)) := List.getElem?_eq_getElem (by omega)
   have h1 := posL_lt2 hj hkk hp
   have h2 := h.hi k _ (Nat.le_refl _) hkk
   omega
 refine ⟨⟨h.le, fun i p hi hp => by have := h.lo i p hi hp; omega, fun i p hi hp => by have := h.hi i p hi hp; have := hne i p hp; omega⟩, ?_⟩
 have := idxF_out (L := posL s 0) (z := z) (n := 0) (q := s.size) hne
 unfold atL
 simpa using this
set_option maxRecDepth 100000 in
set_option maxHeartbeats 8000000 in
theorem fits4 (s t : ByteArray) (w : World) (m : Int) (hm : w.cell? ⟨0, 0, none⟩ = some (.int .i64 m)) :
  Calls Tryd.prog 4 #[.string s, .string t] w fun e w' => e = .returned (.bool true) ∧ Below w.heap.size w w' := by
 have h0 : 0 < w.heap.size := World.block_lt_of_cell? w _ hm
 have hW := hid (wakes11 w m hm)
 have hL := hid (fun W => long12 s W)
 have hR := hid (fun W (hb : Below w.heap.size w W) (hs : s.size ≤ 8000) => read13 s (by omega) W m (by rw [hb.cell (p := ⟨0, 0, none⟩) h0]; exact hm))
 clear hm
 go_enter Tryd.func4, Tryd.ntmps4
 go_wp2_with fail
 go_at_call 11
 with_reducible refine Calls.mono (hW.out) ?_
 rintro e w1 ⟨rfl, hb1⟩
 skip
 have hb1H := hid hb1
 clear hb1 hW
 by_cases hlong : 8000 < s.size
 ·have q1 := dT (show (8000 : Int) < s.size by omega)
  have q2 : decide (8000 < s.size) = true := decide_eq_true hlong
  clear hR
  go_wp2_with (go_at_call 12; (with_reducible refine Calls.mono (hL.out _) ?_); rintro e w2 ⟨rfl, rfl⟩)
  go_ret
  exact ⟨rfl, hb1H.out⟩
 have q1 := dF (show ¬ ((8000 : Int) < s.size) by omega)
 have q2 : decide (8000 < s.size) = false := decide_eq_false hlong
 have hR2 := hid (hR.out _ hb1H.out (by omega))
 clear hR
 by_cases hlt : 1000 < t.size
 ·have q3 := dT (show (1000 : Int) < t.size by omega)
  have q4 : decide (1000 < t.size) = true := decide_eq_true hlt
  clear hR2
  go_wp2_with (go_at_call 12; (with_reducible refine Calls.mono (hL.out _) ?_); rintro e w2 ⟨rfl, rfl⟩)
  go_ret
  exact ⟨rfl, hb1H.out⟩
 have q3 := dF (show ¬ ((1000 : Int) < t.size) by omega)
 have q4 : decide (1000 < t.size) = false := decide_eq_false hlt
 obtain ⟨o, ho⟩ : ∃ o, linesR Rs.empty 0 (linesB s) = o := ⟨_, rfl⟩
 rw [ho] at hR2
 have HO := hid ho
 clear ho
 go_wp2_with (go_at_call 12; (with_reducible refine Calls.mono (hL.out _) ?_); rintro e w2 ⟨rfl, rfl⟩)
 cases o with
 | bad er q =>
  go_at_call 13
  with_reducible refine Calls.mono (hR2.out) ?_
  rintro e w3 ⟨⟨c, rfl, hV1⟩, hb3⟩
  skip
  have hi31 : (Tryd.prog.info? 31).map (·.size) = some c.size := by rw [hV1.1]; kernel_rfl
  have hb3H := hid hb3
  clear hb3 hR2
  go_wp2_with (refine wpList_store_row rfl 31 _ _ rfl w3.heap.size c rfl rfl 31 Tryd.zeroCells31 (heap_alloc_new _ _) hi31 (by rw [hV1.1]; kernel_rfl) hV1.2 ?_)
  have hBR := hid (setRow_but (w3.alloc (.cells Tryd.zeroCells31 31)) w3.heap.size c)
  have hbA : Below w3.heap.size w3 (w3.alloc (.cells Tryd.zeroCells31 31)) := (Below.refl _ _).alloc (Nat.le_refl _) _
  have hB3 := hid (hbA.trans (hBR.out.below (fun k hk => by rw [List.mem_singleton] at hk; omega) hbA.size))
  go_ret
  exact ⟨rfl, bnext (bnext hb1H.out hb3H.out) hB3.out⟩
 | ok y =>
  have gy := hid (linesR_good HO.out empty_good)
  go_at_call 13
  with_reducible refine Calls.mono (hR2.out) ?_
  rintro e w3 ⟨⟨X, c, rfl, hP, hV, hn⟩, hb3⟩
  skip
  have hV1 := hV.one
  have hi31 : (Tryd.prog.info? 31).map (·.size) = some c.size := by rw [hV1.1]; kernel_rfl
  have hb3H := hid hb3
  have hPH := hid hP
  have hVH := hid hV
  clear hb3 hR2 hP hV
  go_wp2_with (first | refine wpList_store_row rfl 31 _ _ rfl w3.heap.size c rfl rfl 31 Tryd.zeroCells31 (heap_alloc_new _ _) hi31 (by rw [hV1.1]; kernel_rfl) hV1.2 ?_)
  have hBR := hid (setRow_but (w3.alloc (.cells Tryd.zeroCells31 31)) w3.heap.size c)
  have hk4 := hid (setRow_heap _ w3.heap.size Tryd.zeroCells31 c 31 _ (heap_alloc_new w3 (.cells Tryd.zeroCells31 31)))
  have hbA : Below w3.heap.size w3 (w3.alloc (.cells Tryd.zeroCells31 31)) := (Below.refl _ _).alloc (Nat.le_refl _) _
  have hB3 := hid (hbA.trans (hBR.out.below (fun k hk => by rw [List.mem_singleton] at hk; omega) hbA.size))
  have hb4 := hid (bnext (bnext hb1H.out hb3H.out) hB3.out)
  have hP4 := hid (hPH.out.low hB3.out)
  have hV4 := hid (hVH.out.low hB3.out)
  clear hbA hBR hB3 hb3H hPH hVH hb1H
  generalize (w3.alloc (.cells Tryd.zeroCells31 31)).setRow w3.heap.size c = W4 at *
  generalize w3.heap.size = T at *
  have hts : t.size ≤ 1000 := by omega
  have hPc := hid (pieces_own t W4 (by omega))
  go_at_call 18
  with_reducible refine Calls.mono (hPc.out) ?_
  rintro e w5 ⟨v0, rfl, hO5, hb5⟩
  skip
  obtain ⟨p5, c5, rfl⟩ := own_shape hO5
  have hOf := hid (of19 t w5 (by omega))
  have HO5 := hid hO5
  have HB5 := hid hb5
  clear hPc hO5 hb5
  go_wp2_with fail
  go_at_call 19
  with_reducible refine Calls.mono (hOf.out) ?_
  rintro e w6 ⟨⟨v6, rfl, hO6⟩, hb6⟩
  skip
  obtain ⟨p6, c6, rfl⟩ := own_shape hO6
  have hWl := wordL_le t
  obtain ⟨n, hnn⟩ : ∃ n, (wordL t).length = n := ⟨_, rfl⟩
  have hpn : (posL t 0).length = n := by rw [← wordL_len, hnn]
  have HOr := hid (own_oneR hO6)
  have HOp := hid (own_low HO5.out hb6)
  have hk6 := hid (((show Blk W4 T 31 c from hk4.out).low HB5.out).low hb6)
  have hP6 := hid ((hP4.out.low HB5.out).low hb6)
  have hV6 := hid ((hV4.out.low HB5.out).low hb6)
  have hb7 := hid (bnext (bnext hb4.out HB5.out) hb6)
  rw [hnn] at hWl ⊢
  rw [hpn] at HOp ⊢
  have HNN := hid hnn
  have HPN := hid hpn
  clear hOf hO6 HO5 HB5 hb6 hk4 hP4 hV4 hb4 hnn hpn
  have hw2 : IntKind.i64.wrap ((t.size : Int) + 1) = t.size + 1 := Wi64 (by omega)
  go_wp2_with fail
  go_loopw [11, 12] (fun v11 v12 wr => ∃ (z : Int) (k : Nat), -1 ≤ z ∧ z ≤ (t.size : Int) + 2 ∧ v12 = .int .i64 z ∧ v11 = .int .i64 k ∧ Hid (n ≤ 64 → Nxp t z k) ∧ Hid (Below w6.heap.size w6 wr)) (fun _ v _ => ((t.size : Int) + 2 - RowKit.intOf v).toNat)
  case atStart => exact ⟨-1, 0, by omega, by omega, rfl, rfl, hid (fun _ => Nxp.start t), hid (Below.refl _ _)⟩
  case round =>
   obtain ⟨z, k, hz0, hz1, rfl, rfl, hN, hB⟩ := hrel
   have hw1 : IntKind.i64.wrap (z + 1) = z + 1 := Wi64 (by omega)
   have hbr := hid (hb7.out.trans (hB.out.mono hb7.out.size))
   by_cases hend : z ≤ (t.size : Int) + 1
   ·have q0 : decide (z ≤ (t.size : Int) + 1) = true := decide_eq_true hend
    have hC := hid (fits20 (hP6.out.low hB.out) gy.out hn t (by omega) z)
    by_cases h64 : 64 < n
    ·have q5 := dT (show (64 : Int) < n by omega)
     have q6 : decide (64 < n) = true := decide_eq_true h64
     have hA : fitsA y t z = (0, 3) := by unfold fitsA; rw [HNN.out, if_pos h64]
     rw [hA] at hC
     go_wp2_with fail
     go_at_call 20
     with_reducible refine Calls.mono (hC.out) ?_
     rintro e w9 ⟨rfl, hb9⟩
     skip
     have hB9 := hid (bnext hB.out hb9)
     clear hb9 hB hbr hC hA
     go_wp2_with fail
     go_roundw
     case rel => exact ⟨z + 1, k, by omega, by omega, rfl, rfl, hid (fun h => absurd h (by omega)), hB9⟩
     case measure => simp [RowKit.intOf]; omega
    ·have q5 := dF (show ¬ ((64 : Int) < n) by omega)
     have q6 : decide (64 < n) = false := decide_eq_false h64
     have hNx := hN.out (by omega)
     have hkn : k ≤ n := by have := hNx.le; rw [HPN.out] at this; exact this
     have miss : (∀ (p : Nat), (posL t 0)[k]? = some p → (p : Int) ≠ z) → fitsA y t z = (0, 5) ∧ Nxp t (z + 1) k := fun hm => by
      obtain ⟨h1, h2⟩ := hNx.miss hm
      refine ⟨?_, h1⟩
      unfold fitsA
      rw [HNN.out, if_neg h64, if_pos]
      rw [HPN.out] at h2
      rcases h2 with h2 | h2
      ·left; omega
      ·exact .inr h2
     by_cases hk : k < n
     ·have q7 := dT (show (k : Int) < n by omega)
      have q8 : (k : Int) < n := by omega
      have q9 : decide (k < n) = true := decide_eq_true hk
      obtain ⟨p, hp⟩ : ∃ p, (posL t 0)[k]? = some p := ⟨_, List.getElem?_eq_getElem (by rw [HPN.out]; exact hk)⟩
      have hO2 := own_low HOp.out hB.out
      obtain ⟨k1, hk1⟩ : ∃ k1, n = k1 + 1 := ⟨n - 1, by omega⟩
      obtain ⟨g, cap, hg⟩ := own_block (m := k1) (by rw [← hk1]; exact hO2)
      injection hg with hg1 hg2 hg3
      subst hg1
      have y0 := (show wr.cell? ⟨g, k * 4, none⟩ = some (.int .i64 p) from own_cell (j := k * 4 + 0) hO2 (flatE_get (pcC t) 4 (fun _ => rfl) (posL t 0) k p hp 0 _ rfl))
      have Y0 := hid y0
      clear hg2 hg3 hk1 hO2 y0
      by_cases hpz : (p : Int) = z
      ·obtain ⟨hN2, hI⟩ := hNx.hit hp hpz
       have HN2 := hid hN2
       have hA : fitsA y t z = (((firstN y (wordL t) k : Nat) : Int), (0 : Int)) := by
        unfold fitsA
        rw [HNN.out, if_neg h64, hI, if_neg (by omega), Int.toNat_natCast]
       rw [hA] at hC
       clear hA hI hN2 miss hNx hp
       subst hpz
       go_wp2_with fail
       go_at_call 20
       with_reducible refine Calls.mono (hC.out) ?_
       rintro e w9 ⟨rfl, hb9⟩
       skip
       have hB9 := hid (bnext hB.out hb9)
       have hbr9 := hid (bnext hbr.out hb9)
       have y0 := cell_low hb9 Y0.out
       have hk9 := hid ((show Blk w6 T 31 c from hk6.out).low hB9.out)
       have hF := hid (first21 (hV6.out.low hB9.out) gy.out hn (wordL t) (pu := p6) (cu := c6) (HOr.out.low hB9.out) (by rw [HNN.out]; omega) k (by rw [HNN.out]; omega))
       rw [HNN.out] at hF
       clear hb9 hB hbr hC Y0
       go_wp2_with (first | (refine wpList_load_rowH rfl 31 _ rfl T rfl 31 c (0, 0) _ hk9.out Tryd.underlying31 rfl hi31 ?_) | (go_at_call 21; (with_reducible refine Calls.mono hF.out ?_); rintro e wa ⟨rfl, hba⟩; have hBa := hid (bnext hB9.out hba); clear hba))
       go_roundw
       case rel => exact ⟨p + 1, k + 1, by omega, by omega, rfl, by go_num, hid (fun _ => HN2.out), hBa⟩
       case measure => simp [RowKit.intOf]; omega
      ·obtain ⟨hA, hN2⟩ := miss (fun q hq => by rw [hp] at hq; injection hq with hq; subst hq; exact hpz)
       have HN2 := hid hN2
       rw [hA] at hC
       have qz : ((p : Int) == z) = false := beq_false_of hpz
       clear hA hN2 miss hNx hp hpz
       go_wp2_with fail
       go_at_call 20
       with_reducible refine Calls.mono (hC.out) ?_
       rintro e w9 ⟨rfl, hb9⟩
       skip
       have hB9 := hid (bnext hB.out hb9)
       have y0 := cell_low hb9 Y0.out
       clear hb9 hB hbr hC Y0
       go_wp2_with fail
       go_roundw
       case rel => exact ⟨z + 1, k, by omega, by omega, rfl, rfl, hid (fun _ => HN2.out), hB9⟩
       case measure => simp [RowKit.intOf]; omega
     ·have q7 := dF (show ¬ ((k : Int) < n) by omega)
      have q9 : decide (k < n) = false := decide_eq_false hk
      obtain ⟨hA, hN2⟩ := miss (fun q hq => absurd (List.getElem?_eq_some_iff.1 hq).1 (by rw [HPN.out]; exact hk))
      have HN2 := hid hN2
      rw [hA] at hC
      clear hA hN2 miss hNx
      go_wp2_with fail
      go_at_call 20
      with_reducible refine Calls.mono (hC.out) ?_
      rintro e w9 ⟨rfl, hb9⟩
      skip
      have hB9 := hid (bnext hB.out hb9)
      clear hb9 hB hbr hC
      go_wp2_with fail
      go_roundw
      case rel => exact ⟨z + 1, k, by omega, by omega, rfl, rfl, hid (fun _ => HN2.out), hB9⟩
      case measure => simp [RowKit.intOf]; omega
   ·have q0 : decide (z ≤ (t.size : Int) + 1) = false := decide_eq_false hend
    go_wp2_with fail
    go_ret
    exact ⟨rfl, hbr.out⟩
end Go.Proofs.YtieifhfgedoiaaaDoor
