/- The document's insertion sort. Conditions: none beyond each theorem's own. -/
import Derived.Test.YthidjbobjjoekaaCoQ
import Derived.Laws.OwnMore
import Derived.BigRegion
namespace Go.Proofs.Ythidjbobjjoekaa
open Go.RowKit Go.Lib Go.Sort Go.Shelf
set_option linter.unusedVariables false
set_option linter.unusedSimpArgs false
set_option maxHeartbeats 1000000
open Ieee (infR)
/-- sorted but for what stands at k -/
def Ins (zs : List Nat) (k : Nat) : Prop := ∀ (a b x y : Nat), a < b → zs[a]? = some x → zs[b]? = some y → b ≠ k → rank x ≤ rank y
theorem Ins.push {ys : List Nat} (h : ys.Pairwise fun a b => rank a ≤ rank b) (x : Nat) : Ins (ys ++ [x]) ys.length := by
  intro a b u v hab hu hv hb
  have hbl : b < ys.length := by
    have := (List.getElem?_eq_some_iff.1 hv).1
    simp at this
    omega
  rw [List.getElem?_append_left (by omega)] at hu
  rw [List.getElem?_append_left hbl] at hv
  exact up_get h hab hu hv
theorem Ins.done {zs : List Nat} {k : Nat} (h : Ins zs k) (hk : k = 0 ∨ ∃ x0 x1, zs[k - 1]? = some x0 ∧ zs[k]? = some x1 ∧ rank x0 ≤ rank x1) : zs.Pairwise fun a b => rank a ≤ rank b := by
  rw [List.pairwise_iff_getElem]
  intro a b ha hb hab
  have ea : zs[a]? = some zs[a] := List.getElem?_eq_getElem ha
  have eb : zs[b]? = some zs[b] := List.getElem?_eq_getElem hb
  by_cases hbk : b = k
  · rcases hk with h0 | ⟨x0, x1, e0, e1, hle⟩
    · omega
    · subst hbk
      rw [eb] at e1
      cases e1
      by_cases hak : a = b - 1
      · subst hak
        rw [ea] at e0
        cases e0
        exact hle
      · exact Int.le_trans (h a (b - 1) _ _ (by omega) ea e0 (by omega)) hle
  · exact h a b _ _ hab ea eb hbk
def swp (zs : List Nat) (k x0 x1 : Nat) : List Nat := (zs.set k x0).set (k - 1) x1
theorem swp_perm {zs : List Nat} {k x0 x1 : Nat} (hk : 0 < k) (e0 : zs[k - 1]? = some x0) (e1 : zs[k]? = some x1) : (swp zs k x0 x1).Perm zs := by
  obtain ⟨h0, rfl⟩ := List.getElem?_eq_some_iff.1 e0
  obtain ⟨h1, rfl⟩ := List.getElem?_eq_some_iff.1 e1
  exact List.set_set_perm h1 h0
theorem swp_get {zs : List Nat} {k x0 x1 : Nat} (hk : 0 < k) (e0 : zs[k - 1]? = some x0) (e1 : zs[k]? = some x1) (j : Nat) : (swp zs k x0 x1)[j]? = if j = k - 1 then some x1 else if j = k then some x0 else zs[j]? := by
  obtain ⟨h0, _⟩ := List.getElem?_eq_some_iff.1 e0
  obtain ⟨h1, _⟩ := List.getElem?_eq_some_iff.1 e1
  unfold swp
  rw [List.getElem?_set, List.getElem?_set, List.length_set]
  by_cases a : j = k - 1
  · subst a
    rw [if_pos rfl, if_pos (by omega), if_pos rfl]
  · by_cases b : j = k
    · subst b
      rw [if_neg (by omega), if_pos rfl, if_pos h1, if_neg a, if_pos rfl]
    · rw [if_neg (fun h => a h.symm), if_neg (fun h => b h.symm), if_neg a, if_neg b]
theorem Ins.swap {zs : List Nat} {k x0 x1 : Nat} (h : Ins zs k) (hk : 0 < k) (e0 : zs[k - 1]? = some x0) (e1 : zs[k]? = some x1) (hlt : rank x1 ≤ rank x0) : Ins (swp zs k x0 x1) (k - 1) := by
  intro a b x y hab hx hy hb
  rw [swp_get hk e0 e1] at hx hy
  rw [if_neg hb] at hy
  by_cases hbk : b = k
  · rw [if_pos hbk] at hy
    cases hy
    by_cases hak : a = k - 1
    · rw [if_pos hak] at hx
      cases hx
      exact hlt
    · rw [if_neg hak, if_neg (by omega)] at hx
      exact h a (k - 1) _ _ (by omega) hx e0 (by omega)
  · rw [if_neg hbk] at hy
    by_cases hak : a = k - 1
    · rw [if_pos hak] at hx
      cases hx
      exact h k b _ _ (by omega) e1 hy hbk
    · rw [if_neg hak] at hx
      by_cases hak2 : a = k
      · rw [if_pos hak2] at hx
        cases hx
        exact h (k - 1) b _ _ (by omega) e0 hy hbk
      · rw [if_neg hak2] at hx
        exact h a b _ _ hab hx hy hbk
theorem cells_new1 (w : World) (v : Value) (T : TypeId) : ∀ j u, [v][j]? = some u → (w.alloc (.cells #[v] T)).cell? ((⟨w.heap.size, 0, none⟩ : Addr).add j) = some u := by
  intro j u hj
  match j, hj with
  | 0, hj => simp at hj; subst hj; simp [Addr.add]
/-- a sorted copy under way, in memory -/
structure Own (w0 w : World) (v : Value) (zs : List Nat) : Prop where
  own : w.ownsRow w0.heap.size 22 1 v zs.length (zs.map encF)
  low : Below w0.heap.size w0 w
theorem Own.drewN {w0 w : World} {v : Value} {zs : List Nat} (h : Own w0 w v zs) (q : Nat) : Own w0 (w.drewN q) v zs := ⟨h.own, below_drewN h.low q⟩
theorem Own.at_ {w0 w : World} {g cap : Nat} {zs : List Nat} (h : Own w0 w (.slice (some ⟨g, 0, none⟩) zs.length cap) zs) {j x : Nat} (hx : zs[j]? = some x) : w.cell? ⟨g, j, none⟩ = some (.float .f64 x) ∧ w.frozen? ⟨g, j, none⟩ = false := by
  have hj := (List.getElem?_eq_some_iff.1 hx).1
  refine ⟨?_, h.own.frozenAt j⟩
  rw [h.own.cellAt j (by omega), List.getElem?_map, hx]; rfl
theorem Own.put {w0 w : World} {g cap : Nat} {zs : List Nat} (h : Own w0 w (.slice (some ⟨g, 0, none⟩) zs.length cap) zs) (j x : Nat) : Own w0 (w.setCell ⟨g, j, none⟩ (.float .f64 x)) (.slice (some ⟨g, 0, none⟩) (zs.set j x).length cap) (zs.set j x) := by
  have s := h.own.stored j (.float .f64 x)
  have hg := (h.own.lt g rfl).1
  have e : (zs.set j x).map encF = (zs.map encF).set j (.float .f64 x) := by rw [List.map_set]; rfl
  exact ⟨by rw [List.length_set, e]; exact s.1, h.low.grown s.2 h.low.size (fun k e => by cases e; exact hg)⟩
theorem run_store_flt (P : Program) (w : World) (a : Addr) (m : Mode) (k : FloatKind) (b : Nat) : (store a (.float k b) m).run P w = stored P w a (.float k b) m := run_store P w a _ m rfl
attribute [local go_sem] run_store_flt
set_option maxRecDepth 100000 in
theorem sorted68 (w : World) (p : Option Addr) (c : Nat) (xs : List Nat) (h : FloatsIn w p xs) (hl : xs.length * 8 ≤ 140737488355328) :
    Calls Try.prog 68 #[.slice p xs.length c] w fun e w' => ∃ ys v, e = .returned v ∧ SrtP xs ys ∧ Own w w' v ys := by
  obtain ⟨i0, hi, hz0, hz1, hz2⟩ := info_parts infoF
  have X := hid h
  clear h
  generalize hn : xs.length = n at *
  have hN := hid hn
  clear hn
  go_enter Try.func68, Try.ntmps68
  go_wp2_with fail
  go_loopw [3, 4] (fun v i wr => ∃ (k : Nat) (ys : List Nat), k ≤ n ∧ i = .int .i64 k ∧ SrtP (xs.take k) ys ∧ Own w wr v ys) (fun _ i _ => n - (intOf i).toNat)
  case atStart => exact ⟨0, [], by omega, rfl, ⟨by simp, .nil⟩, World.ownsRow_nil _ _ _ _, Below.refl _ _⟩
  case round =>
    obtain ⟨k, ys, hk, rfl, hs, ho⟩ := hrel
    have S := hid hs
    have O := hid ho
    clear hs ho
    by_cases hlt : k < n
    · obtain ⟨x, hx⟩ : ∃ x, xs[k]? = some x := ⟨_, List.getElem?_eq_getElem (by rw [hN.out]; exact hlt)⟩
      obtain ⟨g0, off, rfl, hg, hc⟩ := (X.out.low (Nat.le_refl _) O.out.low).at_ k x hx
      have hylen : ys.length = k := by rw [S.out.perm.length_eq, List.length_take, hN.out]; omega
      have hO := hid O.out.own
      rw [hylen] at hO
      have hX := hid hx
      clear hx
      go_wp2_with (first | (at_builtin; refine wpList_append_own _ rfl (.tmp 12) (.tmp 17) 41 rfl w.heap.size 22 i0 _ 1 8 Try.underlying41 hi hz0 hz1 hz2 rfl (by decide) _ k (ys.map encF) rfl (hO.out.alloc _) ⟨wr.heap.size, 0, none⟩ 1 1 [.float .f64 x] rfl rfl (cells_new1 _ _ _) (by intro u hu; simp at hu; subst hu; rfl) (by unfold maxLen; omega) (by omega) (by have := O.out.low.size; simp; omega) ?_; refine stop_here ?_) | fail)
      refine hid ?_
      intro v' w5 hown' hgrow hnil
      have hlow := hid (Below.grown (Below.alloc O.out.low O.out.low.size (.cells #[.float .f64 x] 22)) hgrow (by have := O.out.low.size; simp; omega) (fun j e => (O.out.own.lt j e).1))
      have hO5 := hid hown'
      clear hgrow hnil
      rcases hown'.2 with ⟨_, h0⟩ | ⟨g, cap, cur, hv, _⟩
      · omega
      subst hv
      have hzl : (ys ++ [x]).length = k + 1 := by rw [List.length_append, hylen]; rfl
      have O1 : Hid (Own w w5 (.slice (some ⟨g, 0, none⟩) (ys ++ [x]).length cap) (ys ++ [x])) := hid ⟨by rw [hzl, List.map_append]; exact hO5.out, hlow.out⟩
      have P1 : Hid ((ys ++ [x]).Perm (xs.take (k + 1))) := hid (by rw [List.take_add_one, hX.out]; exact S.out.perm.append_right [x])
      have I1 : Hid (Ins (ys ++ [x]) k) := hid (by have := Ins.push S.out.up x; rw [hylen] at this; exact this)
      have Z1 := hid hzl
      clear hown' hO5 hO hzl
      go_wp2_with fail
      go_loopw [5] (fun j wr2 => ∃ (m : Nat) (zs : List Nat), m ≤ k ∧ j = .int .i64 m ∧ zs.length = k + 1 ∧ zs.Perm (xs.take (k + 1)) ∧ Ins zs m ∧ Own w wr2 (.slice (some ⟨g, 0, none⟩) zs.length cap) zs) (fun j _ => (intOf j).toNat)
      case atStart => exact ⟨k, _, Nat.le_refl _, rfl, Z1.out, P1.out, I1.out, O1.out⟩
      case round =>
        obtain ⟨m, zs, hm, rfl, hzl, hpm, hin, how⟩ := hrel
        have ZL := hid hzl
        have PM := hid hpm
        have IN := hid hin
        have OW := hid how
        clear hzl hpm hin how
        by_cases h0 : m = 0
        · subst h0
          have hd : Hid (SrtP (xs.take (k + 1)) zs) := hid ⟨PM.out, IN.out.done (.inl rfl)⟩
          have hv : Hid (Own w wr (.slice (some ⟨g, 0, none⟩) (k + 1) cap) zs) := hid (by have := OW.out; rw [ZL.out] at this; exact this)
          go_wp2_with fail
          go_quiet (fail)
          go_wp2_with fail
          go_roundw
          case rel => exact ⟨k + 1, zs, by omega, by go_num, hd.out, hv.out.drewN _⟩
          case measure => simp [intOf]; omega
        · obtain ⟨x1, e1⟩ : ∃ y, zs[m]? = some y := ⟨_, List.getElem?_eq_getElem (by rw [ZL.out]; omega)⟩
          obtain ⟨x0, e0⟩ : ∃ y, zs[m - 1]? = some y := ⟨_, List.getElem?_eq_getElem (by rw [ZL.out]; omega)⟩
          have c1 := (OW.out.at_ e1).1
          have c0 := (OW.out.at_ e0).1
          have f1 := (OW.out.at_ e1).2
          have f0 := (OW.out.at_ e0).2
          have E1 := hid e1
          have E0 := hid e0
          have hm0 : (0 : Int) < (m : Int) := by omega
          have hm1 : 1 ≤ m := by omega
          have hm2 : 0 < m := by omega
          have hdm : decide (0 < m) = true := decide_eq_true hm2
          have hmk : (m : Int) < (k : Int) + 1 := by omega
          have hmk2 : (m : Int) - 1 < (k : Int) + 1 := by omega
          have hor : Hid (∀ W, Calls Try.prog 14 #[.float .f64 x1, .float .f64 x0] W fun e w' => e = .returned (.int .i64 (ordV x1 x0)) ∧ w' = W) := hid fun W => (rorder_any x1 x0 W).mono fun _ _ ⟨a, b⟩ => ⟨a, b.symm⟩
          have hrk := ord_rank x1 x0
          unfold ltOf at hrk
          have hR := hid hrk
          clear e1 e0 hrk
          generalize ordV x1 x0 = o at *
          by_cases ho : o < 0
          · go_wp2_with fail
            go_quiet (first | (go_at_call 14; exact Calls.quiet_of_same (hor.out _)))
            go_wp2_with fail
            go_region
            have hle : rank x1 ≤ rank x0 := by
              have := hR.out
              rw [decide_eq_true ho] at this
              have := of_decide_eq_true this.symm
              omega
            have IN2 := hid (IN.out.swap hm2 E0.out E1.out hle)
            have PM2 := hid ((swp_perm hm2 E0.out E1.out).trans PM.out)
            have ZL2 : Hid ((swp zs m x0 x1).length = k + 1) := hid (by unfold swp; rw [List.length_set, List.length_set, ZL.out])
            have OW2 : Hid (∀ q, Own w (((wr.drewN q).setCell ⟨g, m, none⟩ (.float .f64 x0)).setCell ⟨g, m - 1, none⟩ (.float .f64 x1)) (.slice (some ⟨g, 0, none⟩) (swp zs m x0 x1).length cap) (swp zs m x0 x1)) := hid fun q => ((OW.out.drewN q).put m x0).put (m - 1) x1
            clear hle c0 c1 f0 f1
            go_wp2_with fail
            go_roundw
            case rel => exact ⟨m - 1, _, by omega, by go_num, ZL2.out, PM2.out, IN2.out, OW2.out _⟩
            case measure => simp [intOf]; omega
          · have hof : decide (o < 0) = false := decide_eq_false ho
            have hd : Hid (SrtP (xs.take (k + 1)) zs) := hid ⟨PM.out, IN.out.done (.inr ⟨x0, x1, E0.out, E1.out, by have := hR.out; rw [hof] at this; have := of_decide_eq_false this.symm; omega⟩)⟩
            have hv : Hid (Own w wr (.slice (some ⟨g, 0, none⟩) (k + 1) cap) zs) := hid (by have := OW.out; rw [ZL.out] at this; exact this)
            go_wp2_with fail
            go_quiet (first | (go_at_call 14; exact Calls.quiet_of_same (hor.out _)))
            go_wp2_with fail
            go_roundw
            case rel => exact ⟨k + 1, zs, by omega, by go_num, hd.out, hv.out.drewN _⟩
            case measure => simp [intOf]; omega
    · obtain rfl : k = n := by omega
      go_wp2_with fail
      go_ret
      exact ⟨ys, _, rfl, by have := S.out; rw [← hN.out, List.take_length] at this; exact this, O.out⟩
end Go.Proofs.Ythidjbobjjoekaa
