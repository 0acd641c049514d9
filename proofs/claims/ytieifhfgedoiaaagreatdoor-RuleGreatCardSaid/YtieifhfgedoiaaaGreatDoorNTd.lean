/- The first rule that fits: both hands; Fits. Conditions: those of each theorem. -/
import Derived.Test.YtieifhfgedoiaaaGreatDoorNTc
import Derived.Test.YtieifhfgedoiaaaGreatDoorNTa
import Derived.Test.YtieifhfgedoiaaaGreatDoorNSa
import Derived.Test.YtieifhfgedoiaaaGreatDoorNFd
import Derived.Deep.DeepCutAuto
namespace Go.Proofs.YtieifhfgedoiaaaGreatDoor
open Go.RowKit Go.Lib
open Go.ChangeMaps
set_option linter.unusedVariables false
set_option linter.unusedSimpArgs false
attribute [local go_sem] ExtS.cell ExtS.froz upE_value upE_skip upE_enter Ext.cell Ext.froz one_neq
theorem firstF_hit {x : Rs} {W : List One} {k i : Nat} {L : List Rl} {u : Rl} (h : L[i]? = some u) (hf : fitB x u W k = true) : firstF x W k (L.drop i) i = i + 1 := by
 obtain ⟨hl, rfl⟩ := List.getElem?_eq_some_iff.1 h
 rw [List.drop_eq_getElem_cons hl]
 show (if _ then _ else _) = _
 rw [if_pos hf]
theorem firstF_miss {x : Rs} {W : List One} {k i : Nat} {L : List Rl} {u : Rl} (h : L[i]? = some u) (hf : fitB x u W k = false) : firstF x W k (L.drop i) i = firstF x W k (L.drop (i + 1)) (i + 1) := by
 obtain ⟨hl, rfl⟩ := List.getElem?_eq_some_iff.1 h
 rw [List.drop_eq_getElem_cons hl]
 show (if _ then _ else _) = _
 rw [if_neg (by rw [hf]; simp)]
set_option maxRecDepth 100000 in
set_option maxHeartbeats 4000000 in
theorem first39 {w : World} {X base : Nat} {x : Rs} (h : PAt w X base x) (gx : RsG x) (hl : x.rules.length ≤ 256)
  (W : List One) {pu pa : Option Addr} {cu na ca : Nat} (hW : OneR w pu W) (hWb : ∀ o ∈ W, OneB o) (hc : W.length ≤ cu) (hn : W.length ≤ 100000000) (k : Nat) (hk : k ≤ W.length) :
  Calls Tryz.prog 30 #[.pointer (some ⟨X, 0, none⟩), .agg #[.slice pu W.length cu, .slice pa na ca], .int .i64 k] w fun e w' => e = .returned (.int .i64 (firstN x W k)) ∧ Below w.heap.size w w' := by
 have hb1 := hid ((Below.refl w.heap.size w).alloc (Nat.le_refl _) (.cells #[.slice pu W.length cu, .slice pa na ca] 80))
 have KB := hid (Blk.new w 80 #[.slice pu W.length cu, .slice pa na ca])
 have HX := hid (h.low hb1.out)
 have HW := hid (hW.low hb1.out)
 have HWb := hid hWb
 obtain ⟨mc, ml, v, kk, _, _⟩ := h.ex
 obtain ⟨pv, cv, d2, df, HR⟩ := HX.out.slice
 have HR1 := hid HR
 obtain ⟨n, hnn⟩ : ∃ n, x.rules.length = n := ⟨_, rfl⟩
 rw [hnn] at d2 HR1 hl
 have HNN := hid hnn
 clear h hW hWb HR hnn
 go_enter Tryz.func30, Tryz.ntmps30
 go_wp2_with fail
 obtain ⟨B, hBn⟩ : ∃ B, w.heap.size = B := ⟨_, rfl⟩
 have hbB := hid (Nat.le_of_eq hBn)
 rw [hBn] at KB
 simp only [hBn]
 clear hBn
 generalize w.alloc (.cells #[.slice pu W.length cu, .slice pa na ca] 80) = W0 at *
 go_loopw [13] (fun v wr => ∃ i : Nat, i ≤ n ∧ v = .int .i64 i ∧ Hid (firstN x W k = firstF x W k (x.rules.drop i) i) ∧ Hid (Below W0.heap.size W0 wr)) (fun v _ => n - (RowKit.intOf v).toNat)
 case atStart => exact ⟨0, Nat.zero_le _, rfl, hid rfl, hid (Below.refl _ _)⟩
 case round =>
  clear d2 df
  obtain ⟨i, hi, rfl, hT, hB⟩ := hrel
  have hw1 : IntKind.i64.wrap ((i : Int) + 1) = (i : Int) + 1 := Wi64 (by omega)
  have hbr := hid (hb1.out.trans (hB.out.mono hb1.out.size))
  by_cases hlt : i < n
  ·have q1 := dT (show (i : Int) < n by omega)
   have q2 : (i : Int) < n := by omega
   obtain ⟨u, hu⟩ : ∃ u, x.rules[i]? = some u := ⟨_, List.getElem?_eq_getElem (by rw [HNN.out]; exact hlt)⟩
   have HX2 := hid (HX.out.low hB.out)
   obtain ⟨mc2, ml2, v2, kk2, hRs, _⟩ := HX2.out.ex
   have HRs := hid hRs
   obtain ⟨pv2, cv2, d2, df, HR⟩ := HX2.out.slice
   obtain ⟨G, p1, p2, p3, p4, c1, c2, c3, c4, rfl, hRu⟩ := rows_ruM HR hu
   rw [HNN.out] at d2
   have HRu := hid hRu
   have HW2 := hid (HW.out.low hB.out)
   have z0 := (KB.out.low hB.out).cell (k := 0) rfl
   have z1 := (KB.out.low hB.out).cell (k := 1) rfl
   have zf := (KB.out.low hB.out).froz
   have hC := hid (fun xx : Ext wr => fits56 (HRs.out.low xx.h) (HRu.out.low xx.h) (gx.r u (List.mem_of_getElem? hu)) W (pu := pu) (pa := pa) (cu := cu) (na := na) (ca := ca) (HW2.out.low xx.h) HWb.out hc hn k hk)
   obtain ⟨ft, hft⟩ : ∃ ft, fitB x u W k = ft := ⟨_, rfl⟩
   rw [hft] at hC
   have HFT := hid hft
   have HU := hid hu
   clear hRs hRu HR hu hft
   go_wp2_with fail
   refine ext_all (by kernel_rfl) (by kernel_rfl) ?_
   repeat (go_big_quiet_step (first | with_reducible exact Ext.call (hC.out _)))
   refine wpQuiet_nil ?_
   rintro _ ⟨xx, rfl⟩
   have hB5 := hid (bnext hB.out xx.h)
   have hb5 := hid (bnext hbr.out xx.h)
   generalize xx.w = W5 at *
   clear hC hB hbr z0 z1 zf d2 df HX2 HW2 HRs HRu
   cases ft with
   | true =>
    have hE := hid (hT.out.trans (firstF_hit HU.out HFT.out))
    go_wp2_with fail
    go_ret
    exact ⟨by rw [hE.out]; rfl, hb5.out⟩
   | false =>
    have hE := hid (hT.out.trans (firstF_miss HU.out HFT.out))
    go_wp2_with fail
    go_roundw
    case rel => exact ⟨i + 1, by omega, by go_num, hE, hB5⟩
    case measure => simp [RowKit.intOf] <;> omega
  ·obtain rfl : i = n := by omega
   have q1 : decide ((i : Int) < i) = false := by simp
   have hE : Hid (firstN x W k = 0) := hid (by rw [hT.out, List.drop_of_length_le (Nat.le_of_eq HNN.out)]; rfl)
   go_wp2_with fail
   go_ret
   exact ⟨by rw [hE.out]; rfl, hbr.out⟩
end Go.Proofs.YtieifhfgedoiaaaGreatDoor
/- The first rule that fits: the document's hand. Conditions: those of each theorem. -/
namespace Go.Proofs.YtieifhfgedoiaaaGreatDoor
open Go.RowKit Go.Lib
set_option linter.unusedVariables false
set_option linter.unusedSimpArgs false
attribute [local go_sem] ExtS.cell ExtS.froz upE_value upE_skip upE_enter Ext.cell Ext.froz one_neq
structure RuD (w : World) (G q : Nat) (u : Rl) (p1 p2 p3 p4 : Option Addr) (c1 c2 c3 c4 : Nat) : Prop where
 y0 : w.cell? ⟨G, q, none⟩ = some (.string u.line)
 y1 : w.cell? ⟨G, q + 1, none⟩ = some (.bool u.begins)
 y2 : w.cell? ⟨G, q + 2, none⟩ = some (.slice p1 u.left.length c1)
 y3 : w.cell? ⟨G, q + 3, none⟩ = some (.slice p3 u.body.length c3)
 y4 : w.cell? ⟨G, q + 4, none⟩ = some (.slice p2 u.right.length c2)
 y5 : w.cell? ⟨G, q + 5, none⟩ = some (.bool u.ends)
 y6 : w.cell? ⟨G, q + 6, none⟩ = some (.slice p4 u.phones.length c4)
 l : ItemR w p1 u.left
 r : ItemR w p2 u.right
 b : OneR w p3 u.body
 p : PhR w p4 u.phones
theorem RuD.low {w w' : World} {G q : Nat} {u : Rl} {p1 p2 p3 p4 : Option Addr} {c1 c2 c3 c4 : Nat} (h : RuD w G q u p1 p2 p3 p4 c1 c2 c3 c4) (hb : Below w.heap.size w w') : RuD w' G q u p1 p2 p3 p4 c1 c2 c3 c4 :=
 ⟨cell_low hb h.y0, cell_low hb h.y1, cell_low hb h.y2, cell_low hb h.y3, cell_low hb h.y4, cell_low hb h.y5, cell_low hb h.y6, h.l.low hb, h.r.low hb, h.b.low hb, h.p.low hb⟩
end Go.Proofs.YtieifhfgedoiaaaGreatDoor
/- Fits: the program's hand. Conditions: those of each theorem. -/
namespace Go.Proofs.YtieifhfgedoiaaaGreatDoor
open Go.RowKit Go.Lib
set_option linter.unusedVariables false
set_option linter.unusedSimpArgs false
attribute [local go_sem] ExtS.cell ExtS.froz upE_value upE_skip upE_enter Ext.cell Ext.froz one_neq
theorem own_len {w : World} {base n cap : Nat} {e : TypeId} {size m : Nat} {p : Option Addr} {xs : List Value} (h : w.ownsRow base e size (.slice p m cap) n xs) : m = n ∧ n ≤ cap := by
 obtain ⟨p', cap', he⟩ := own_shape h
 injection he with h1 h2 h3
 have hm : m = n := h2
 rw [hm] at h
 refine ⟨hm, ?_⟩
 cases n with
 | zero => exact Nat.zero_le _
 | succ k =>
  obtain ⟨g, cap'', hg⟩ := own_block h
  injection hg with h4 h5 h6
  subst h4
  exact own_cap h
theorem wordL_bd {s : ByteArray} : ∀ o ∈ wordL s, OneB o := by
 intro o ho
 unfold wordL at ho
 obtain ⟨p, hp, rfl⟩ := List.mem_map.1 ho
 exact word_bd (posL_lt _ 0 rfl p hp)
theorem wordL_le (s : ByteArray) : (wordL s).length ≤ s.size := by rw [wordL_len]; have := posL_len s _ 0 rfl; omega
end Go.Proofs.YtieifhfgedoiaaaGreatDoor
/- RuleFits: the first rule that fits, at each place of a word and beside them. Conditions: those of each theorem. -/
namespace Go.Proofs.YtieifhfgedoiaaaGreatDoor
open Go.RowKit Go.Lib
set_option linter.unusedVariables false
set_option linter.unusedSimpArgs false
attribute [local go_sem] ExtS.cell ExtS.froz upE_value upE_skip upE_enter Ext.cell Ext.froz
theorem posL_ge {s : ByteArray} : ∀ (k p : Nat), s.size - p = k → ∀ q ∈ posL s p, p ≤ q := by
 intro k
 induction k using Nat.strongRecOn with
 | ind k ih =>
  intro p hk q hq
  by_cases hp : p < s.size
  ·rw [posL_more hp] at hq
   have hw := wdN_pos hp
   rcases List.mem_cons.1 hq with rfl | h
   ·exact Nat.le_refl _
   ·have := ih _ (by omega) _ rfl q h; omega
  ·rw [posL_end hp] at hq; cases hq
theorem posL_inc {s : ByteArray} : ∀ (k p : Nat), s.size - p = k → (posL s p).Pairwise (· < ·) := by
 intro k
 induction k using Nat.strongRecOn with
 | ind k ih =>
  intro p hk
  by_cases hp : p < s.size
  ·rw [posL_more hp]
   have hw := wdN_pos hp
   refine List.pairwise_cons.2 ⟨fun q hq => ?_, ih _ (by omega) _ rfl⟩
   have := posL_ge _ _ rfl q hq; omega
  ·rw [posL_end hp]; exact List.Pairwise.nil
theorem posL_lt2 {s : ByteArray} {i j p q : Nat} (h : i < j) (hp : (posL s 0)[i]? = some p) (hq : (posL s 0)[j]? = some q) : p < q := by
 obtain ⟨h1, rfl⟩ := List.getElem?_eq_some_iff.1 hp
 obtain ⟨h2, rfl⟩ := List.getElem?_eq_some_iff.1 hq
 exact List.pairwise_iff_getElem.1 (posL_inc _ 0 rfl) i j h1 h2 h
theorem idxF_at : ∀ {L : List Nat} {z : Int} {i n p : Nat}, L[i]? = some p → (p : Int) = z → (∀ (j q : Nat), j < i → L[j]? = some q → (q : Int) ≠ z) → idxF L z n = ((n + i : Nat) : Int)
 | a :: r, z, 0, n, p, h, he, hj => by
  injection h with h
  subst h
  unfold idxF
  rw [if_pos he]; rfl
 | a :: r, z, i + 1, n, p, h, he, hj => by
  unfold idxF
  rw [if_neg (hj 0 a (by omega) rfl), idxF_at (n := n + 1) (show r[i]? = some p from h) he (fun j q hji hq => hj (j + 1) q (by omega) hq)]
  omega
structure Nxp (s : ByteArray) (z : Int) (k : Nat) : Prop where
 le : k ≤ (posL s 0).length
 lo : ∀ (i p : Nat), i < k → (posL s 0)[i]? = some p → (p : Int) < z
 hi : ∀ (i p : Nat), k ≤ i → (posL s 0)[i]? = some p → z ≤ (p : Int)
theorem Nxp.start (s : ByteArray) : Nxp s (-1) 0 := ⟨Nat.zero_le _, fun i p h _ => absurd h (by omega), fun i p _ _ => by omega⟩
theorem Nxp.hit {s : ByteArray} {z : Int} {k p : Nat} (h : Nxp s z k) (hp : (posL s 0)[k]? = some p) (he : (p : Int) = z) : Nxp s (z + 1) (k + 1) ∧ idxF (atL s) z 0 = k := by
 have hk := (List.getElem?_eq_some_iff.1 hp).1
 refine ⟨⟨hk, fun i q hi hq => ?_, fun i q hi hq => ?_⟩, ?_⟩
 ·by_cases hik : i = k
  ·subst hik; rw [hp] at hq; injection hq with hq; omega
  ·have := h.lo i q (by omega) hq; omega
 ·have := posL_lt2 (by omega : k < i) hp hq; omega
 ·have h1 : (atL s)[k]? = some p := by unfold atL; rw [List.getElem?_append_left hk]; exact hp
  have := idxF_at (n := 0) h1 he (fun j q hj hq => by
   have hq2 : (posL s 0)[j]? = some q := by unfold atL at hq; rw [List.getElem?_append_left (by omega)] at hq; exact hq
   have := h.lo j q hj hq2; omega)
  rw [this]; simp
end Go.Proofs.YtieifhfgedoiaaaGreatDoor
