/- The numbers copied and sorted. Conditions: none beyond each theorem's own. -/
import Derived.Test.YthidjbobjjoekaaGreatCoG
import Derived.Test.YthidjbobjjoekaaGreatSh
import Derived.Test.YthidjbobjjoekaaGreatTaI
import Derived.OwnWalk
import Derived.Lib.SliceRun
namespace Go.Proofs.YthidjbobjjoekaaGreat
open Go.RowKit Go.Lib Go.Sort Go.Shelf
set_option linter.unusedVariables false
set_option linter.unusedSimpArgs false
set_option maxHeartbeats 1000000
open Ieee (infR)
/-- where a float stands among floats: a NaN ahead of all -/
def rank (x : Nat) : Int := if Ieee.rung x ≤ infR then Ieee.key x else -18446744073709551616
theorem ord_rank (x y : Nat) : ltOf ordV x y = decide (rank x < rank y) := by
  have hi : infR = 2047 * 2 ^ 52 := rfl
  unfold ltOf ordV rank
  by_cases hx : Ieee.rung x ≤ infR
  · have bx := Ieee.key_bd x hx
    rw [if_pos hx, show ford x x = some .eq from Ieee.order_self x hx]
    by_cases hy : Ieee.rung y ≤ infR
    · rw [if_pos hy, show ford y y = some .eq from Ieee.order_self y hy]
      have h : ford x y = some (compare (Ieee.key x) (Ieee.key y)) := Ieee.order_key x y hx hy
      rw [h]
      rcases Int.lt_trichotomy (Ieee.key x) (Ieee.key y) with h | h | h
      · rw [Ieee.cmp_lt h]; have e := decide_eq_true h; rw [e]; rfl
      · rw [Ieee.cmp_eq h]; have e := decide_eq_false (p := Ieee.key x < Ieee.key y) (by omega); rw [e]; rfl
      · rw [Ieee.cmp_gt h]; have e := decide_eq_false (p := Ieee.key x < Ieee.key y) (by omega); rw [e]; rfl
    · rw [if_neg hy, show ford y y = none from Ieee.order_nan_left y y hy]; have e := decide_eq_false (p := Ieee.key x < -18446744073709551616) (by omega); rw [e]; rfl
  · rw [if_neg hx, show ford x x = none from Ieee.order_nan_left x x hx]
    by_cases hy : Ieee.rung y ≤ infR
    · have by' := Ieee.key_bd y hy
      rw [if_pos hy, show ford y y = some .eq from Ieee.order_self y hy]; have e := decide_eq_true (p := -18446744073709551616 < Ieee.key y) (by omega); rw [e]; rfl
    · rw [if_neg hy, show ford y y = none from Ieee.order_nan_left y y hy]; rfl
theorem swoF : SWO (ltOf ordV) where
  irrefl x := by rw [ord_rank]; exact decide_eq_false (by omega)
  trans x y z h1 h2 := by
    rw [ord_rank] at *
    have a := of_decide_eq_true h1
    have b := of_decide_eq_true h2
    exact decide_eq_true (by omega)
  ntrans x y z h1 h2 := by
    rw [ord_rank] at *
    have a := of_decide_eq_false h1
    have b := of_decide_eq_false h2
    exact decide_eq_false (by omega)
def encF (x : Nat) : Value := .float .f64 x
/-- what a sorted copy is -/
structure Srt (xs ys : List Nat) : Prop where
  len : ys.length = xs.length
  mem : ∀ x, x ∈ ys ↔ x ∈ xs
  up : ∀ (i j x y : Nat), i ≤ j → ys[i]? = some x → ys[j]? = some y → rank x ≤ rank y
theorem infoF : (Tryz.prog.info? 23).map (fun i => (i.zero, i.size, i.bytes)) = some (some (.float .f64 0), 1, 8) := by kernel_rfl
set_option maxRecDepth 100000 in
theorem clone_any (w : World) (p : Option Addr) (c : Nat) (xs : List Nat) (h : FloatsIn w p xs) (h1 : 1 ≤ xs.length) (hl : xs.length * 8 ≤ 140737488355328) :
    Calls Tryz.prog 38 #[.slice p xs.length c] w fun e w' => ∃ g cap, e = .returned (.slice (some ⟨g, 0, none⟩) xs.length cap) ∧ w.heap.size ≤ g ∧ g < w'.heap.size ∧ Below w.heap.size w w' ∧
      (∀ k x, xs[k]? = some x → w'.cell? ⟨g, k, none⟩ = some (.float .f64 x)) ∧ (∀ k, w'.frozen? ⟨g, k, none⟩ = false) := by
  obtain ⟨i0, hi, hz0, hz1, hz2⟩ := info_parts infoF
  obtain ⟨x0, hx0⟩ : ∃ x, xs[0]? = some x := ⟨_, List.getElem?_eq_getElem (by omega)⟩
  obtain ⟨g0, off, rfl, hg, hc⟩ := h.at_ 0 x0 hx0
  have H := hid h
  clear h hx0 hc
  go_enter Tryz.func38, Tryz.ntmps38
  have hnil : ∀ W, (binOp .eql 35 (.slice (some ⟨g0, off, none⟩) xs.length c) (.slice none 0 0)).run Tryz.prog W = .ok (.bool false) W := fun W => by simpa using Lib.run_eql_slice_nil W 35 23 (some ⟨g0, off, none⟩) xs.length c 0 0 Tryz.underlying35
  have hF2 := hid (H.out.low (Nat.le_refl _) (Below.alloc (Below.refl w.heap.size w) (Nat.le_refl _) (.cells #[] 23)))
  have hown : (w.alloc (.cells #[] 23)).ownsRow w.heap.size 23 1 (.slice (some ⟨w.heap.size, 0, none⟩) 0 0) 0 [] := ⟨rfl, .inr ⟨w.heap.size, 0, #[], rfl, Nat.le_refl _, heap_alloc_new w _, Nat.le_refl _, Nat.zero_le _, rfl, rfl⟩⟩
  have hnews : ∀ j u, (xs.map encF)[j]? = some u → (w.alloc (.cells #[] 23)).cell? ((⟨g0, off, none⟩ : Addr).add j) = some u := fun j u hu => by
    rw [List.getElem?_map] at hu
    cases hx : xs[j]? with
    | none => rw [hx] at hu; cases hu
    | some x =>
      rw [hx] at hu
      obtain ⟨g, o, e, _, hc⟩ := hF2.out.at_ j x hx
      cases e
      cases hu
      show (w.alloc (.cells #[] 23)).cell? (({ block := g0, off := off } : Addr).add j) = some (.float .f64 x)
      by_cases hj : j = 0
      · subst hj; simpa [Addr.add] using hc
      · simpa [Addr.add, hj] using hc
  have hO := hid hown
  have hNw := hid hnews
  clear hown hnews
  go_wp2_with (first | (at_builtin; refine wpList_append_own _ rfl (.tmp 5) (.tmp 6) 35 rfl w.heap.size 23 i0 _ 1 8 Tryz.underlying35 hi hz0 hz1 hz2 rfl (by decide) _ 0 [] rfl hO.out ⟨g0, off, none⟩ xs.length c (xs.map encF) rfl (by simp) hNw.out (by intro u hu; obtain ⟨x, _, rfl⟩ := List.mem_map.1 hu; rfl) (by unfold maxLen; omega) (by omega) (by simp) ?_; refine stop_here ?_) | fail)
  refine hid ?_
  intro v' w5 hown' hgrow hnil
  have hB := hid (Below.grown (Below.alloc (Below.refl w.heap.size w) (Nat.le_refl _) (.cells #[] 23)) hgrow (by simp) (fun k e => by cases e; exact Nat.le_refl _))
  rcases hown'.2 with ⟨_, h0⟩ | ⟨g, cap, cur, hv, hbase, hb, k1, k2, k3, k4⟩
  · omega
  · subst hv
    have hG := hid hb
    have hlt : g < w5.heap.size := (Array.getElem?_eq_some_iff.1 hb).1
    have hcells := hid (fun (k x : Nat) (hx : xs[k]? = some x) => blk_cell hb (take_get k4 (show ([] ++ xs.map encF)[k]? = some (encF x) by rw [List.nil_append, List.getElem?_map, hx]; rfl)))
    have hfr := hid (blk_froz hb)
    clear hown' hgrow hnil hb k1 k2 k3 k4 hO hNw hF2
    go_wp2_with fail
    go_ret
    exact ⟨g, cap, rfl, hbase, hlt, hB.out, hcells.out, hfr.out⟩
theorem grownBy_sorted {w : World} {g n : Nat} {os : Array Obj} (d : Array Nat) : w.grownBy (sortWorld encF w g 0 n d os) (some g) := by
  unfold sortWorld
  refine ⟨rfl, rfl, rfl, by simp, fun k hk hne => ?_⟩
  rw [heap_grow_old _ _ (by simpa using hk)]
  have : g ≠ k := fun e => hne (by rw [e])
  simp [putRow, mapBlock, Sort.ahead, Array.getElem?_modify, this]
theorem sort_floats (w : World) (g cap : Nat) (xs : List Nat) (h : ∀ k x, xs[k]? = some x → w.cell? ⟨g, k, none⟩ = some (.float .f64 x)) (hf : ∀ k, w.frozen? ⟨g, k, none⟩ = false) (hg : g < w.heap.size) (hl : xs.length < 4611686018427387904) :
    Calls Tryz.prog 39 #[.slice (some ⟨g, 0, none⟩) xs.length cap, .func (.func 11) #[] #[]] w fun e w' => e = .returned (.tuple #[]) ∧ (∀ n, n ≤ g → Below n w w') ∧ g < w'.heap.size ∧
      ∃ ys, Srt xs ys ∧ ∀ k x, ys[k]? = some x → w'.cell? ⟨g, k, none⟩ = some (.float .f64 x) := by
  have eg : ∀ args w, (callFunc 11 args).run Tryz.prog w = .ok (.enter 11 args) w := enters_of Tryz.func11 (by kernel_rfl) rfl
  have one : OneCell encF := fun x => rfl
  have hcmp : CmpLays1 Tryz.prog 11 #[] encF ordV g 0 xs.toArray.size w := CmpReads.lays fun m os dk hs x y => (order_any x y _).mono fun e w' ⟨he, hw⟩ => ⟨he, 0, hw.symm⟩
  have hH : Holds encF w g 0 xs.toArray := fun j hj => by
    have hj' : j < xs.length := by simpa using hj
    rw [Nat.zero_add, getElem!_pos xs.toArray j hj]
    exact ⟨h j _ (by rw [List.getElem?_eq_getElem hj']; simp), hf j⟩
  have hcon := Any.slices_SortFunc Tryz.sortF encF one ordV swoF 11 #[] g 0 cap xs.toArray w eg hcmp hH hg (by simpa using hl)
  have hsz : xs.toArray.size = xs.length := by simp
  rw [hsz] at hcon
  change Calls Tryz.prog 39 _ _ _ at hcon
  refine hcon.mono fun e w' ⟨he, d, n, os, hp, hs, hw⟩ => ?_
  have hds : d.size = xs.length := by rw [hp.1]; simp
  have hH2 : Holds encF w' g 0 d := by rw [hw]; exact holds_sortWorld encF w g 0 n xs.toArray d os hg hH (by rw [hds]; simp)
  have hperm : d.toList.Perm xs := by
    have := hp.2.2
    have e1 : d.extract 0 xs.length = d := by rw [← hds]; simp
    have e2 : xs.toArray.extract 0 xs.length = xs.toArray := by simp
    rw [e1, e2] at this
    simpa using this
  refine ⟨he, fun N hN => ?_, ?_, d.toList, ⟨by simpa using hds, fun x => hperm.mem_iff, fun i j x y hij hx hy => ?_⟩, fun k x hx => ?_⟩
  · rw [hw]
    exact Below.grown (Below.refl N w) (grownBy_sorted d) (by omega) (fun k e => by cases e; exact hN)
  · have := (grownBy_sorted (w := w) (g := g) (n := n) (os := os) d).size
    rw [← hw] at this
    omega
  · rw [Array.getElem?_toList] at hx hy
    obtain ⟨h1, e1⟩ := Array.getElem?_eq_some_iff.1 hx
    obtain ⟨h2, e2⟩ := Array.getElem?_eq_some_iff.1 hy
    rcases Nat.lt_or_eq_of_le hij with h3 | h3
    · have := hs i j (Nat.zero_le _) h3 (by omega)
      rw [getElem!_pos d j h2, getElem!_pos d i h1, e1, e2, ord_rank] at this
      have := of_decide_eq_false this
      omega
    · subst h3
      rw [e1] at e2
      subst e2
      exact Int.le_refl _
  · rw [Array.getElem?_toList] at hx
    obtain ⟨h1, e1⟩ := Array.getElem?_eq_some_iff.1 hx
    have := (hH2 k h1).1
    rw [Nat.zero_add, getElem!_pos d k h1, e1] at this
    exact this
end Go.Proofs.YthidjbobjjoekaaGreat
