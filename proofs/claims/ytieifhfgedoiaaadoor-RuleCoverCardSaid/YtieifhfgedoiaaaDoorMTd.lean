/- The first rule that fits: both hands; Fits. Conditions: those of each theorem. -/
import Derived.Test.YtieifhfgedoiaaaDoorMTc
import Derived.Test.YtieifhfgedoiaaaDoorMTa
import Derived.Test.YtieifhfgedoiaaaDoorMSa
import Derived.Test.YtieifhfgedoiaaaDoorMFd
import Derived.Deep.DeepCutAuto
namespace Go.Proofs.YtieifhfgedoiaaaDoor
open Go.RowKit Go.Lib
open Go.ChangeMaps
set_option linter.unusedVariables false
set_option linter.unusedSimpArgs false
attribute [local go_sem] ExtS.cell ExtS.froz upE_value upE_skip upE_enter Ext.cell Ext.froz one_neq
theorem firstF_hit {x : Rs} {W : List One} {k i : Nat} {L : List Rl} {u : Rl} (h : L[i]? = some u) (hf : fitB x u W k = true) : firstF x W k (L.drop i) i = i + 1 := by
 obtain ⟨hl, rfl⟩ := List.getElem?_eq_some_iff.1 h
 rw [List.drop_eq_getElem_cons hl]
 show (if _ then _ else _) = _
 rw [if_pos hf]
theorem firstF_miss {x : Rs} {W : List One} {k i : Nat} {L : List Rl} {u : Rl} (h : L[i]? = some u) (hf : fitB x u W k = false) : firstF x W k (L.drop i) i = firstF x W k (L.drop (i + 1)) (i + 1) := by
 obtain ⟨hl, rfl⟩ := List.getElem?_eq_some_iff.1 h
 rw [List.drop_eq_getElem_cons hl]
 show (if _ then _ else _) = _
 rw [if_neg (by rw [hf]; simp)]
set_option maxRecDepth 100000 in
set_option maxHeartbeats 4000000 in
theorem first39 {w : World} {X base : Nat} {x : Rs} (h : PAt w X base x) (gx : RsG x) (hl : x.rules.length ≤ 256)
  (W : List One) {pu pa : Option Addr} {cu na ca : Nat} (hW : OneR w pu W) (hWb : ∀ o ∈ W, OneB o) (hc : W.length ≤ cu) (hn : W.length ≤ 100000000) (k : Nat) (hk : k ≤ W.length) :
  Calls Tryd.prog 39 #[.pointer (some ⟨X, 0, none⟩), .agg #[.slice pu W.length cu, .slice pa na ca], .int .i64 k] w fun e w' => e = .returned (.int .i64 (firstN x W k)) ∧ Below w.heap.size w w' := by
 have hb1 := hid ((Below.refl w.heap.size w).alloc (Nat.le_refl _) (.cells #[.slice pu W.length cu, .slice pa na ca] 101))
 have KB := hid (Blk.new w 101 #[.slice pu W.length cu, .slice pa na ca])
 have HX := hid (h.low hb1.out)
 have HW := hid (hW.low hb1.out)
 have HWb := hid hWb
 obtain ⟨mc, ml, v, kk, _, _⟩ := h.ex
 obtain ⟨pv, cv, d2, df, HR⟩ := HX.out.slice
 have HR1 := hid HR
 obtain ⟨n, hnn⟩ : ∃ n, x.rules.length = n := ⟨_, rfl⟩
 rw [hnn] at d2 HR1 hl
 have HNN := hid hnn
 clear h hW hWb HR hnn
 go_enter Tryd.func39, Tryd.ntmps39
 go_wp2_with fail
 obtain ⟨B, hBn⟩ : ∃ B, w.heap.size = B := ⟨_, rfl⟩
 have hbB := hid (Nat.le_of_eq hBn)
 rw [hBn] at KB
 simp only [hBn]
 clear hBn
 generalize w.alloc (.cells #[.slice pu W.length cu, .slice pa na ca] 101) = W0 at *
 go_loopw [13] (fun v wr => ∃ i : Nat, i ≤ n ∧ v = .int .i64 i ∧ Hid (firstN x W k = firstF x W k (x.rules.drop i) i) ∧ Hid (Below W0.heap.size W0 wr)) (fun v _ => n - (RowKit.intOf v).toNat)
 case atStart => exact ⟨0, Nat.zero_le _, rfl, hid rfl, hid (Below.refl _ _)⟩
 case round =>
  clear d2 df
  obtain ⟨i, hi, rfl, hT, hB⟩ := hrel
  have hw1 : IntKind.i64.wrap ((i : Int) + 1) = (i : Int) + 1 := Wi64 (by omega)
  have hbr := hid (hb1.out.trans (hB.out.mono hb1.out.size))
  by_cases hlt : i < n
  ·have q1 := dT (show (i : Int) < n by omega)
   have q2 : (i : Int) < n := by omega
   obtain ⟨u, hu⟩ : ∃ u, x.rules[i]? = some u := ⟨_, List.getElem?_eq_getElem (by rw [HNN.out]; exact hlt)⟩
   have HX2 := hid (HX.out.low hB.out)
   obtain ⟨mc2, ml2, v2, kk2, hRs, _⟩ := HX2.out.ex
   have HRs := hid hRs
   obtain ⟨pv2, cv2, d2, df, HR⟩ := HX2.out.slice
   obtain ⟨G, p1, p2, p3, p4, c1, c2, c3, c4, rfl, hRu⟩ := rows_ruM HR hu
   rw [HNN.out] at d2
   have HRu := hid hRu
   have HW2 := hid (HW.out.low hB.out)
   have z0 := (KB.out.low hB.out).cell (k := 0) rfl
   have z1 := (KB.out.low hB.out).cell (k := 1) rfl
   have zf := (KB.out.low hB.out).froz
   have hC := hid (fun xx : Ext wr => fits56 (HRs.out.low xx.h) (HRu.out.low xx.h) (gx.r u (List.mem_of_getElem? hu)) W (pu := pu) (pa := pa) (cu := cu) (na := na) (ca := ca) (HW2.out.low xx.h) HWb.out hc hn k hk)
   obtain ⟨ft, hft⟩ : ∃ ft, fitB x u W k = ft := ⟨_, rfl⟩
   rw [hft] at hC
   have HFT := hid hft
   have HU := hid hu
   clear hRs hRu HR hu hft
   go_wp2_with fail
   refine ext_all (by kernel_rfl) (by kernel_rfl) ?_
   repeat (go_big_quiet_step (first | with_reducible exact Ext.call (hC.out _)))
   refine wpQuiet_nil ?_
   rintro _ ⟨xx, rfl⟩
   have hB5 := hid (bnext hB.out xx.h)
   have hb5 := hid (bnext hbr.out xx.h)
   generalize xx.w = W5 at *
   clear hC hB hbr z0 z1 zf d2 df HX2 HW2 HRs HRu
   cases ft with
   | true =>
    have hE := hid (hT.out.trans (firstF_hit HU.out HFT.out))
    go_wp2_with fail
    go_ret
    exact ⟨by rw [hE.out]; rfl, hb5.out⟩
   | false =>
    have hE := hid (hT.out.trans (firstF_miss HU.out HFT.out))
    go_wp2_with fail
    go_roundw
    case rel => exact ⟨i + 1, by omega, by go_num, hE, hB5⟩
    case measure => simp [RowKit.intOf] <;> omega
  ·obtain rfl : i = n := by omega
   have q1 : decide ((i : Int) < i) = false := by simp
   have hE : Hid (firstN x W k = 0) := hid (by rw [hT.out, List.drop_of_length_le (Nat.le_of_eq HNN.out)]; rfl)
   go_wp2_with fail
   go_ret
   exact ⟨by rw [hE.out]; rfl, hbr.out⟩
end Go.Proofs.YtieifhfgedoiaaaDoor
/- The first rule that fits: the document's hand. Conditions: those of each theorem. -/
namespace Go.Proofs.YtieifhfgedoiaaaDoor
open Go.RowKit Go.Lib
set_option linter.unusedVariables false
set_option linter.unusedSimpArgs false
attribute [local go_sem] ExtS.cell ExtS.froz upE_value upE_skip upE_enter Ext.cell Ext.froz one_neq
structure RuD (w : World) (G q : Nat) (u : Rl) (p1 p2 p3 p4 : Option Addr) (c1 c2 c3 c4 : Nat) : Prop where
 y0 : w.cell? ⟨G, q, none⟩ = some (.string u.line)
 y1 : w.cell? ⟨G, q + 1, none⟩ = some (.bool u.begins)
 y2 : w.cell? ⟨G, q + 2, none⟩ = some (.slice p1 u.left.length c1)
 y3 : w.cell? ⟨G, q + 3, none⟩ = some (.slice p3 u.body.length c3)
 y4 : w.cell? ⟨G, q + 4, none⟩ = some (.slice p2 u.right.length c2)
 y5 : w.cell? ⟨G, q + 5, none⟩ = some (.bool u.ends)
 y6 : w.cell? ⟨G, q + 6, none⟩ = some (.slice p4 u.phones.length c4)
 l : ItemR w p1 u.left
 r : ItemR w p2 u.right
 b : OneR w p3 u.body
 p : PhR w p4 u.phones
theorem RuD.low {w w' : World} {G q : Nat} {u : Rl} {p1 p2 p3 p4 : Option Addr} {c1 c2 c3 c4 : Nat} (h : RuD w G q u p1 p2 p3 p4 c1 c2 c3 c4) (hb : Below w.heap.size w w') : RuD w' G q u p1 p2 p3 p4 c1 c2 c3 c4 :=
 ⟨cell_low hb h.y0, cell_low hb h.y1, cell_low hb h.y2, cell_low hb h.y3, cell_low hb h.y4, cell_low hb h.y5, cell_low hb h.y6, h.l.low hb, h.r.low hb, h.b.low hb, h.p.low hb⟩
end Go.Proofs.YtieifhfgedoiaaaDoor
/- Fits: the program's hand. Conditions: those of each theorem. -/
namespace Go.Proofs.YtieifhfgedoiaaaDoor
open Go.RowKit Go.Lib
set_option linter.unusedVariables false
set_option linter.unusedSimpArgs false
attribute [local go_sem] ExtS.cell ExtS.froz upE_value upE_skip upE_enter Ext.cell Ext.froz one_neq
theorem own_len {w : World} {base n cap : Nat} {e : TypeId} {size m : Nat} {p : Option Addr} {xs : List Value} (h : w.ownsRow base e size (.slice p m cap) n xs) : m = n ∧ n ≤ cap := by
 obtain ⟨p', cap', he⟩ := own_shape h
 injection he with h1 h2 h3
 have hm : m = n := h2
 rw [hm] at h
 refine ⟨hm, ?_⟩
 cases n with
 | zero => exact Nat.zero_le _
 | succ k =>
  obtain ⟨g, cap'', hg⟩ := own_block h
  injection hg with h4 h5 h6
  subst h4
  exact own_cap h
def fitsA (x : Rs) (s : ByteArray) (z : Int) : Int × Int :=
 if (wordL s).length > 64 then (0, 3)
 else if idxF (atL s) z 0 < 0 ∨ idxF (atL s) z 0 = (wordL s).length then (0, 5)
 else (firstN x (wordL s) (idxF (atL s) z 0).toNat, 0)
theorem idxF_bd : ∀ (L : List Nat) (z : Int) (n : Nat), idxF L z n = -1 ∨ ((n : Int) ≤ idxF L z n ∧ idxF L z n < n + L.length)
 | [], z, n => .inl rfl
 | p :: r, z, n => by
  unfold idxF
  by_cases h : (p : Int) = z
  ·rw [if_pos h]; right; simp; omega
  ·rw [if_neg h]
   rcases idxF_bd r z (n + 1) with h1 | h1
   ·exact .inl h1
   ·right; simp; omega
theorem wordL_bd {s : ByteArray} : ∀ o ∈ wordL s, OneB o := by
 intro o ho
 unfold wordL at ho
 obtain ⟨p, hp, rfl⟩ := List.mem_map.1 ho
 exact word_bd (posL_lt _ 0 rfl p hp)
theorem wordL_le (s : ByteArray) : (wordL s).length ≤ s.size := by rw [wordL_len]; have := posL_len s _ 0 rfl; omega
set_option maxRecDepth 100000 in
set_option maxHeartbeats 4000000 in
theorem fits20 {w : World} {X base : Nat} {x : Rs} (h : PAt w X base x) (gx : RsG x) (hl : x.rules.length ≤ 256) (s : ByteArray) (hs : s.size ≤ 100000000) (z : Int) :
  Calls Tryd.prog 20 #[.pointer (some ⟨X, 0, none⟩), .string s, .int .i64 z] w fun e w' => e = .returned (.tuple #[.int .i64 (fitsA x s z).1, .int .i64 (fitsA x s z).2]) ∧ Below w.heap.size w w' := by
 have hO := hid (of37 s w hs)
 have H := hid h
 clear h
 go_enter Tryd.func20, Tryd.ntmps20
 go_wp2_with fail
 go_at_call 37
 with_reducible refine Calls.mono (hO.out) ?_
 rintro e w1 ⟨⟨v1, v2, rfl, hW⟩, hb1⟩
 skip
 obtain ⟨pu, cu, rfl⟩ := own_shape hW.u
 obtain ⟨pa, ca, rfl⟩ := own_shape hW.a
 have hWl := wordL_le s
 obtain ⟨n, hnn⟩ : ∃ n, (wordL s).length = n := ⟨_, rfl⟩
 have hal : (atL s).length = n + 1 := by rw [atL_len, hnn]
 have hcu : n ≤ cu := by have := (own_len hW.u).2; rw [hnn] at this; exact this
 have HOr := hid (own_oneR hW.u)
 have HNr := hid (own_numR hW.a)
 rw [hnn, hal]
 have HNN := hid hnn
 have HAL := hid hal
 rw [hnn] at hWl
 have hb2 : Below w1.heap.size w1 (w1.alloc (.cells #[.slice pu n cu, .slice pa (n + 1) ca] 101)) := (Below.refl _ _).alloc (Nat.le_refl _) _
 have KB := hid (Blk.new w1 101 #[.slice pu n cu, .slice pa (n + 1) ca])
 have HO2 := hid (HOr.out.low hb2)
 have HX := hid ((H.out.low hb1).low hb2)
 have HN2 : Hid (NumR (w1.alloc (.cells #[.slice pu n cu, .slice pa (n + 1) ca] 101)) pa (atL s)) := hid (fun hL => by
  obtain ⟨g, h1, h2⟩ := HNr.out hL
  exact ⟨g, h1, fun i u hu => cell_low hb2 (h2 i u hu)⟩)
 have hbb := hid (bnext hb1 hb2)
 have z0 := KB.out.cell (k := 0) rfl
 have z1 := KB.out.cell (k := 1) rfl
 have zf := KB.out.froz
 clear hO H hW hnn hal HOr HNr hb1
 have hA : fitsA x s z = if n > 64 then ((0, 3) : Int × Int) else if idxF (atL s) z 0 < 0 ∨ idxF (atL s) z 0 = n then (0, 5) else (firstN x (wordL s) (idxF (atL s) z 0).toNat, 0) := by unfold fitsA; rw [HNN.out]
 have HA := hid hA
 clear hA hb2
 by_cases h64 : 64 < n
 ·have q1 := dT (show (64 : Int) < n by omega)
  have q2 : decide (64 < n) = true := decide_eq_true h64
  go_wp2_with fail
  refine bodyPost_ret_by (v := .tuple #[.int .i64 0, .int .i64 3]) (by simp [results, Tryd.results20, go_sem]) rfl ?_
  exact ⟨by rw [HA.out, if_pos h64], hbb.out⟩
 ·have q1 := dF (show ¬ ((64 : Int) < n) by omega)
  have q2 : decide (64 < n) = false := decide_eq_false h64
  have hI := hid (index38 (w := w1.alloc (.cells #[.slice pu n cu, .slice pa (n + 1) ca] 101)) (p1 := pa) (c1 := ca) (atL s) HN2.out (by rw [HAL.out]; omega) z)
  rw [HAL.out] at hI
  obtain ⟨r, hr⟩ : ∃ r, idxF (atL s) z 0 = r := ⟨_, rfl⟩
  have hbd := idxF_bd (atL s) z 0
  rw [HAL.out] at hbd
  rw [hr] at hI hbd
  have HR := hid hr
  clear hr
  have HBD := hid hbd
  have HI := hid hI
  clear hbd
  by_cases hr0 : r < 0
  ·have q3 : decide (r < 0) = true := decide_eq_true hr0
   go_wp2_with (go_at_call 38; (with_reducible refine Calls.mono hI.out ?_); rintro e w2 ⟨rfl, rfl⟩)
   refine bodyPost_ret_by (v := .tuple #[.int .i64 0, .int .i64 5]) (by simp [results, Tryd.results20, go_sem]) rfl ?_
   exact ⟨by rw [HA.out, if_neg h64, HR.out, if_pos (.inl hr0)], hbb.out⟩
  ·have q3 : decide (r < 0) = false := decide_eq_false hr0
   by_cases hrn : r = (n : Int)
   ·have q4 : (r == (n : Int)) = true := beq_true_of hrn
    have HRN := hid hrn
    clear hrn
    go_wp2_with (go_at_call 38; (with_reducible refine Calls.mono hI.out ?_); rintro e w2 ⟨rfl, rfl⟩)
    refine bodyPost_ret_by (v := .tuple #[.int .i64 0, .int .i64 5]) (by simp [results, Tryd.results20, go_sem]) rfl ?_
    exact ⟨by rw [HA.out, if_neg h64, HR.out, if_pos (.inr HRN.out)], hbb.out⟩
   ·have q4 : (r == (n : Int)) = false := beq_false_of hrn
    have hA2 : Hid (fitsA x s z = (((firstN x (wordL s) r.toNat : Nat) : Int), (0 : Int))) := hid (by rw [HA.out, if_neg h64, HR.out, if_neg (by omega)])
    obtain ⟨k, rfl⟩ : ∃ k : Nat, r = k := ⟨r.toNat, by omega⟩
    have hkn : k < n := by have := HBD.out; omega
    have hF := hid (first39 (w := w1.alloc (.cells #[.slice pu n cu, .slice pa (n + 1) ca] 101)) HX.out gx hl (wordL s) (pu := pu) (pa := pa) (cu := cu) (na := n + 1) (ca := ca) HO2.out wordL_bd (by rw [HNN.out]; exact hcu) (by rw [HNN.out]; omega) k (by rw [HNN.out]; omega))
    rw [HNN.out] at hF
    go_wp2_with (first | (go_at_call 38; (with_reducible refine Calls.mono hI.out ?_); rintro e w2 ⟨rfl, rfl⟩) | (go_at_call 39; (with_reducible refine Calls.mono hF.out ?_); rintro e w2 ⟨rfl, hb9⟩))
    refine bodyPost_ret_by (v := .tuple #[.int .i64 (firstN x (wordL s) k), .int .i64 0]) (by simp [results, Tryd.results20, go_sem]) rfl ?_
    exact ⟨by rw [hA2.out, Int.toNat_natCast], bnext hbb.out hb9⟩
end Go.Proofs.YtieifhfgedoiaaaDoor
/- RuleFits: the first rule that fits, at each place of a word and beside them. Conditions: those of each theorem. -/
namespace Go.Proofs.YtieifhfgedoiaaaDoor
open Go.RowKit Go.Lib
set_option linter.unusedVariables false
set_option linter.unusedSimpArgs false
attribute [local go_sem] ExtS.cell ExtS.froz upE_value upE_skip upE_enter Ext.cell Ext.froz
theorem posL_ge {s : ByteArray} : ∀ (k p : Nat), s.size - p = k → ∀ q ∈ posL s p, p ≤ q := by
 intro k
 induction k using Nat.strongRecOn with
 | ind k ih =>
  intro p hk q hq
  by_cases hp : p < s.size
  ·rw [posL_more hp] at hq
   have hw := wdN_pos hp
   rcases List.mem_cons.1 hq with rfl | h
   ·exact Nat.le_refl _
   ·have := ih _ (by omega) _ rfl q h; omega
  ·rw [posL_end hp] at hq; cases hq
theorem posL_inc {s : ByteArray} : ∀ (k p : Nat), s.size - p = k → (posL s p).Pairwise (· < ·) := by
 intro k
 induction k using Nat.strongRecOn with
 | ind k ih =>
  intro p hk
  by_cases hp : p < s.size
  ·rw [posL_more hp]
   have hw := wdN_pos hp
   refine List.pairwise_cons.2 ⟨fun q hq => ?_, ih _ (by omega) _ rfl⟩
   have := posL_ge _ _ rfl q hq; omega
  ·rw [posL_end hp]; exact List.Pairwise.nil
theorem posL_lt2 {s : ByteArray} {i j p q : Nat} (h : i < j) (hp : (posL s 0)[i]? = some p) (hq : (posL s 0)[j]? = some q) : p < q := by
 obtain ⟨h1, rfl⟩ := List.getElem?_eq_some_iff.1 hp
 obtain ⟨h2, rfl⟩ := List.getElem?_eq_some_iff.1 hq
 exact List.pairwise_iff_getElem.1 (posL_inc _ 0 rfl) i j h1 h2 h
theorem idxF_at : ∀ {L : List Nat} {z : Int} {i n p : Nat}, L[i]? = some p → (p : Int) = z → (∀ (j q : Nat), j < i → L[j]? = some q → (q : Int) ≠ z) → idxF L z n = ((n + i : Nat) : Int)
 | a :: r, z, 0, n, p, h, he, hj => by
  injection h with h
  subst h
  unfold idxF
  rw [if_pos he]; rfl
 | a :: r, z, i + 1, n, p, h, he, hj => by
  unfold idxF
  rw [if_neg (hj 0 a (by omega) rfl), idxF_at (n := n + 1) (show r[i]? = some p from h) he (fun j q hji hq => hj (j + 1) q (by omega) hq)]
  omega
structure Nxp (s : ByteArray) (z : Int) (k : Nat) : Prop where
 le : k ≤ (posL s 0).length
 lo : ∀ (i p : Nat), i < k → (posL s 0)[i]? = some p → (p : Int) < z
 hi : ∀ (i p : Nat), k ≤ i → (posL s 0)[i]? = some p → z ≤ (p : Int)
theorem Nxp.start (s : ByteArray) : Nxp s (-1) 0 := ⟨Nat.zero_le _, fun i p h _ => absurd h (by omega), fun i p _ _ => by omega⟩
theorem Nxp.hit {s : ByteArray} {z : Int} {k p : Nat} (h : Nxp s z k) (hp : (posL s 0)[k]? = some p) (he : (p : Int) = z) : Nxp s (z + 1) (k + 1) ∧ idxF (atL s) z 0 = k := by
 have hk := (List.getElem?_eq_some_iff.1 hp).1
 refine ⟨⟨hk, fun i q hi hq => ?_, fun i q hi hq => ?_⟩, ?_⟩
 ·by_cases hik : i = k
  ·subst hik; rw [hp] at hq; injection hq with hq; omega
  ·have := h.lo i q (by omega) hq; omega
 ·have := posL_lt2 (by omega : k < i) hp hq; omega
 ·have h1 : (atL s)[k]? = some p := by unfold atL; rw [List.getElem?_append_left hk]; exact hp
  have := idxF_at (n := 0) h1 he (fun j q hj hq => by
   have hq2 : (posL s 0)[j]? = some q := by unfold atL at hq; rw [List.getElem?_append_left (by omega)] at hq; exact hq
   have := h.lo j q hj hq2; omega)
  rw [this]; simp
end Go.Proofs.YtieifhfgedoiaaaDoor
