/- works() of the Count statements: true in any world. Conditions: none. -/
import Derived.Test.YtmpkfpabejpbkaaGreatDoorJCQs
import Derived.Test.YtmpkfpabejpbkaaGreatDoorJCCoA
import Derived.Shelf.Abstract
import Derived.Test.YtmpkfpabejpbkaaGreatDoorWr
import Derived.Test.YtmpkfpabejpbkaaGreatDoorWn
import Derived.Test.YtmpkfpabejpbkaaGreatDoorJCQw
import Derived.Laws.IdiomStrings
namespace Go.Proofs.YtmpkfpabejpbkaaGreatDoor.C
open Go.RowKit Go.Lib Go.Sort Go.Shelf
set_option linter.unusedVariables false
set_option linter.unusedSimpArgs false
theorem rate_any {w : World} {b m : Nat} {L : List Ent} (h : Tal w b m L) (h0 : L ≠ []) (r : Nat) (hr : Ieee.double.div (floatOfInt .f64 L.length) (floatOfInt .f64 (sumL L)) = some r) :
    Calls Tryz.prog 16 #[.pointer (some ⟨b, 0, none⟩)] w fun e w' => e = .returned (.float .f64 r) ∧ w = w' := by
  have hL := hid (len_any h)
  have hS := hid (total_any h)
  have hq : ∀ t w, (binOp .quo t (.float .f64 (floatOfInt .f64 L.length)) (.float .f64 (floatOfInt .f64 (sumL L)))).run Tryz.prog w = .ok (.float .f64 r) w := fun t w => run_float_arith w .quo t .f64 _ _ r hr
  have hz : ((L.length : Int) == 0) = false := by
    rw [beq_eq_false_iff_ne]; intro e; apply h0; apply List.eq_nil_of_length_eq_zero; omega
  have hz' : (L.length == 0) = false := by
    rw [beq_eq_false_iff_ne]; intro e; apply h0; apply List.eq_nil_of_length_eq_zero; omega
  clear h h0 hr
  generalize sumL L = S at *
  generalize L.length = n at *
  go_enter Tryz.func16, Tryz.ntmps16
  go_wp2_with fail
  with_reducible refine Calls.mono hL.out ?_
  rintro e w' ⟨rfl, rfl⟩
  go_wp2_with fail
  with_reducible refine Calls.mono hL.out ?_
  rintro e w' ⟨rfl, rfl⟩
  go_wp2_with fail
  with_reducible refine Calls.mono hS.out ?_
  rintro e w' ⟨rfl, rfl⟩
  go_wp2_with fail
  go_ret
  exact ⟨rfl, rfl⟩
theorem mean_124 {w : World} {g : Nat} (h : Blk w g 50 #[.float .f64 4607182418800017408, .float .f64 4611686018427387904, .float .f64 4616189618054758400]) :
    Calls Tryz.prog 17 #[.slice (some ⟨g, 0, none⟩) 3 3] w fun e w' => e = .returned (.float .f64 4612436618365282987) ∧ w = w' := by
  have c0 := h.cell (k := 0) (v := .float .f64 4607182418800017408) rfl
  have c1 := h.cell (k := 1) (v := .float .f64 4611686018427387904) rfl
  have c2 := h.cell (k := 2) (v := .float .f64 4616189618054758400) rfl
  have a1 : ∀ t w, (binOp .add t (.float .f64 0) (.float .f64 4607182418800017408)).run Tryz.prog w = .ok (.float .f64 4607182418800017408) w := fun t w => run_float_arith w .add t .f64 _ _ _ (by decide +kernel)
  have a2 : ∀ t w, (binOp .add t (.float .f64 4607182418800017408) (.float .f64 4611686018427387904)).run Tryz.prog w = .ok (.float .f64 4613937818241073152) w := fun t w => run_float_arith w .add t .f64 _ _ _ (by decide +kernel)
  have a3 : ∀ t w, (binOp .add t (.float .f64 4613937818241073152) (.float .f64 4616189618054758400)).run Tryz.prog w = .ok (.float .f64 4619567317775286272) w := fun t w => run_float_arith w .add t .f64 _ _ _ (by decide +kernel)
  have a4 : ∀ t w, (binOp .quo t (.float .f64 4619567317775286272) (.float .f64 4613937818241073152)).run Tryz.prog w = .ok (.float .f64 4612436618365282987) w := fun t w => run_float_arith w .quo t .f64 _ _ _ (by decide +kernel)
  have f3 : floatOfInt .f64 3 = 4613937818241073152 := by decide +kernel
  have hm : Hid (Calls Tryz.prog 41 #[.slice (some ⟨g, 0, none⟩) 3 3] w fun e w' => e = .returned (.float .f64 4612436618365282987) ∧ w = w') := by
    clear h
    go_enter Tryz.func41, Tryz.ntmps41
    go_wp2_with fail
    refine wp_loop_rounds 4 ?_
    rw [rounds_succ]
    go_wp2_with fail
    rw [rounds_succ]
    go_wp2_with fail
    rw [rounds_succ]
    go_wp2_with fail
    rw [rounds_succ]
    go_wp2_with fail
    go_ret
    exact ⟨rfl, rfl⟩
  have hT := hid (told_any 4612436618365282987)
  have hz : zeroV 4612436618365282987 = 4612436618365282987 := by decide +kernel
  rw [hz] at hT
  clear a1 a2 a3 a4 f3 c0 c1 c2 h hz
  go_enter Tryz.func17, Tryz.ntmps17
  go_wp2_with fail
  with_reducible refine Calls.mono hm.out ?_
  rintro e w' ⟨rfl, rfl⟩
  go_wp2_with fail
  with_reducible refine Calls.mono (hT.out _) ?_
  rintro e w' ⟨rfl, rfl⟩
  go_wp2_with fail
  go_ret
  exact ⟨rfl, rfl⟩
abbrev kA : ByteArray := ⟨#[97]⟩
abbrev kB : ByteArray := ⟨#[98]⟩
abbrev kC : ByteArray := ⟨#[99]⟩
theorem put3 : putL (putL (putL [] kA 2) kB 1) kC 2 = [(kA, 2), (kC, 2), (kB, 1)] := by decide +kernel
theorem put2 : putL (putL [] kA 2) kB 1 = [(kA, 2), (kB, 1)] := by decide +kernel
theorem put1 : putL [] kA 2 = [(kA, 2)] := by decide +kernel
theorem log8 : log2V 4620693217682128896 = 4613937818241073152 := by decide +kernel
theorem rate35 : Ieee.double.div (floatOfInt .f64 3) (floatOfInt .f64 5) = some 4603579539098121011 := by decide +kernel
set_option maxRecDepth 100000 in
set_option maxHeartbeats 2000000 in
theorem works_any (w : World) : Calls Tryz.prog 4 #[] w fun e w' => e = .returned (.bool true) ∧ Below w.heap.size w w' := by
  have hN := hid (new_any w)
  go_enter Tryz.func4, Tryz.ntmps4
  go_wp2_with fail
  with_reducible refine Calls.mono hN.out ?_
  rintro e w1 ⟨rfl, hT1, hb1, -⟩
  have HT := hid hT1
  have HB := hid hb1
  clear hN hT1 hb1
  go_wp2_with fail
  have hA := hid (add_ok HT.out kA 2 (by decide) (by decide) (by decide) (.inr (by decide)))
  rw [put1] at hA
  with_reducible refine Calls.mono hA.out ?_
  rintro e w2 ⟨rfl, hT2, hc2, -⟩
  have hs1 := HT.out.blt
  replace HB := hid (HB.out.trans (hc2.below (by omega) (by omega) (by omega)))
  replace HT := hid hT2
  clear hA hT2 hc2
  go_wp2_with fail
  have hA := hid (add_ok HT.out kB 1 (by decide) (by decide) (by decide +kernel) (.inr (by decide)))
  rw [show putL [(kA, 2)] kB 1 = [(kA, 2), (kB, 1)] by decide +kernel] at hA
  with_reducible refine Calls.mono hA.out ?_
  rintro e w3 ⟨rfl, hT2, hc2, -⟩
  have hs2 := HT.out.blt
  replace HB := hid (HB.out.trans (hc2.below (by omega) (by omega) (by omega)))
  replace HT := hid hT2
  clear hA hT2 hc2
  go_wp2_with fail
  have hA := hid (add_ok HT.out kC 2 (by decide) (by decide) (by decide +kernel) (.inr (by decide)))
  rw [show putL [(kA, 2), (kB, 1)] kC 2 = [(kA, 2), (kC, 2), (kB, 1)] by decide +kernel] at hA
  with_reducible refine Calls.mono hA.out ?_
  rintro e w4 ⟨rfl, hT2, hc2, -⟩
  have hs3 := HT.out.blt
  replace HB := hid (HB.out.trans (hc2.below (by omega) (by omega) (by omega)))
  replace HT := hid hT2
  clear hA hT2 hc2
  go_wp2_with fail
  have hs4 := HT.out.blt
  have hT5 := hid (HT.out.low (((Below.refl w4.heap.size w4)).alloc (Nat.le_refl _) (.cells #[.string kA, .int .i64 2, .string kC, .int .i64 2, .string kB, .int .i64 1] 57)))
  have hV5 : Hid (EntsIn (w4.alloc (.cells #[.string kA, .int .i64 2, .string kC, .int .i64 2, .string kB, .int .i64 1] 57)) (.slice (some ⟨w4.heap.size, 0, none⟩) ([(kA, 2), (kC, 2), (kB, 1)] : List Ent).length 3) [(kA, 2), (kC, 2), (kB, 1)]) := by
    refine .inr ⟨_, _, rfl, by simp, fun k x hx => ?_⟩
    have hk := Blk.new w4 57 #[.string kA, .int .i64 2, .string kC, .int .i64 2, .string kB, .int .i64 1]
    match k, hx with
    | 0, hx => simp at hx; subst hx; exact ⟨hk.cell rfl, hk.cell rfl⟩
    | 1, hx => simp at hx; subst hx; exact ⟨hk.cell rfl, hk.cell rfl⟩
    | 2, hx => simp at hx; subst hx; exact ⟨hk.cell rfl, hk.cell rfl⟩
  have hI := hid (is_any hT5.out hV5.out)
  with_reducible refine Calls.mono hI.out ?_
  rintro e w5 ⟨rfl, hb5⟩
  replace HB := hid (HB.out.trans ((((Below.refl w4.heap.size w4)).alloc (Nat.le_refl _) (.cells #[.string kA, .int .i64 2, .string kC, .int .i64 2, .string kB, .int .i64 1] 57)).mono (by omega)))
  replace HT := hid (hT5.out.low hb5)
  replace HB := hid (HB.out.trans (hb5.mono (by simp; omega)))
  clear hI hT5 hV5 hb5
  go_wp2_with fail
  have hR := hid (rate_any HT.out (by simp) 4603579539098121011 rate35)
  with_reducible refine Calls.mono hR.out ?_
  rintro e w6 ⟨rfl, rfl⟩
  clear hR
  go_wp2_with fail
  have hS := hid same_refl
  with_reducible refine Calls.mono (hS.out _ _) ?_
  rintro e w6 ⟨rfl, rfl⟩
  go_wp2_with fail
  have hM := hid (mean_124 (Blk.new w5 50 #[.float .f64 4607182418800017408, .float .f64 4611686018427387904, .float .f64 4616189618054758400]))
  with_reducible refine Calls.mono hM.out ?_
  rintro e w6 ⟨rfl, rfl⟩
  clear hM
  go_wp2_with fail
  with_reducible refine Calls.mono (hS.out _ _) ?_
  rintro e w6 ⟨rfl, rfl⟩
  go_wp2_with fail
  have hG := hid (log2_any 4620693217682128896 (by decide))
  rw [log8] at hG
  with_reducible refine Calls.mono (hG.out _) ?_
  rintro e w6 ⟨rfl, rfl⟩
  clear hG
  go_wp2_with fail
  with_reducible refine Calls.mono (hS.out _ _) ?_
  rintro e w6 ⟨rfl, rfl⟩
  go_wp2_with fail
  go_ret
  exact ⟨rfl, HB.out.alloc HB.out.size _⟩
end Go.Proofs.YtmpkfpabejpbkaaGreatDoor.C
/- slices.EqualFunc of numbers. Conditions: none beyond each theorem's own. -/
namespace Go.Proofs.YtmpkfpabejpbkaaGreatDoor.C
open Go.RowKit Go.Lib Go.Shelf
set_option linter.unusedVariables false
set_option linter.unusedSimpArgs false
set_option maxHeartbeats 600000
/-- floats that lie in memory -/
structure FloatsIn (w : World) (p : Option Addr) (xs : List Nat) : Prop where
  at_ : ∀ k x, xs[k]? = some x → ∃ g off, p = some ⟨g, off, none⟩ ∧ g < w.heap.size ∧ w.cell? ⟨g, off + k, none⟩ = some (.float .f64 x)
theorem FloatsIn.low {w w' : World} {p : Option Addr} {xs : List Nat} (h : FloatsIn w p xs) {n : Nat} (hn : w.heap.size ≤ n) (hb : Below n w w') : FloatsIn w' p xs :=
  ⟨fun k x hx => by
    obtain ⟨g, off, e, hg, hc⟩ := h.at_ k x hx
    refine ⟨g, off, e, Nat.lt_of_lt_of_le hg hb.size, ?_⟩
    have e1 := hb.block g (by omega)
    exact (World.cell?_of_block (a := ⟨g, off + k, none⟩) e1).trans hc⟩
theorem equal_floats (w : World) (p p' : Option Addr) (c c' : Nat) (xs : List Nat) (h : FloatsIn w p xs) (h' : FloatsIn w p' xs) (hl : xs.length < 9007199254740992) :
    Calls Tryz.prog 12 #[.slice p xs.length c, .slice p' xs.length c', .func (.func 13) #[] #[]] w fun e w' => e = .returned (.bool true) ∧ w = w' := by
  have H := hid h
  have H' := hid h'
  clear h h'
  generalize hn : xs.length = n at *
  have hN := hid hn
  clear hn
  have hs := hid (fun x => same_refl x w)
  have eg : ∀ args w, (callFunc 13 args).run Tryz.prog w = .ok (.enter 13 args) w := enters_of Tryz.func13 (by kernel_rfl) rfl
  go_enter Tryz.func12, Tryz.ntmps12
  go_wp2_with fail
  go_loop [17] (fun i => ∃ (k : Nat), k ≤ n ∧ i = .int .i64 k) (fun i => n - (intOf i).toNat)
  case atStart => exact ⟨0, by omega, rfl⟩
  case round =>
    obtain ⟨k, hk, rfl⟩ := hrel
    by_cases hlt : k < n
    · obtain ⟨x, hx⟩ : ∃ x, xs[k]? = some x := ⟨_, List.getElem?_eq_getElem (by rw [hN.out]; exact hlt)⟩
      obtain ⟨g, off, rfl, hg, hc⟩ := H.out.at_ k x hx
      obtain ⟨g', off', rfl, hg', hc'⟩ := H'.out.at_ k x hx
      clear hx
      go_wp2_with fail
      with_reducible refine Calls.mono (hs.out x) ?_
      rintro e w' ⟨rfl, rfl⟩
      go_wp2_with fail
      go_round
      case rel => exact ⟨k + 1, by omega, by go_num⟩
      case measure => simp [intOf]; omega
    · obtain rfl : k = n := by omega
      go_wp2_with fail
      go_ret
      exact ⟨rfl, rfl⟩
end Go.Proofs.YtmpkfpabejpbkaaGreatDoor.C
/- What CountPoems does with a poem: the list of entries beside the tally, the lengths of lines. Conditions: those of each theorem. -/
namespace Go.Proofs.YtmpkfpabejpbkaaGreatDoor
open Go Go.RowKit Go.Lib Go.Shelf
set_option linter.unusedVariables false
set_option linter.unusedSimpArgs false
attribute [local go_sem] Oper.semAt_some C.Ext.cell C.Ext.froz
theorem ents_keep {T : Nat → Prop} {W W' : World} {v : Value} {L : List C.Ent} (h : C.EntsIn W v L) (hk : Kept T W W') (hT : ∀ g, v.ownBlock = some g → T g) : C.EntsIn W' v L := by
  rcases h with h | ⟨g, cap, rfl, hg, hat⟩
  · exact .inl h
  · exact .inr ⟨g, cap, rfl, Nat.lt_of_lt_of_le hg hk.size, hat.kept (hk.block g hg (hT g rfl))⟩
theorem ents_lt {W : World} {v : Value} {L : List C.Ent} (h : C.EntsIn W v L) : ∀ g, v.ownBlock = some g → g < W.heap.size := by
  rcases h with ⟨_, rfl⟩ | ⟨g, cap, rfl, hg, hat⟩
  · intro g hg; cases hg
  · intro g' hg'
    obtain rfl : g = g' := by simpa [Value.ownBlock] using hg'
    exact hg
/-- a good list of entries -/
structure LiOk (L : List C.Ent) : Prop where
  e : C.Ents L
  nd : (C.keysL L).Nodup
theorem LiOk.add {L : List C.Ent} (h : LiOk L) {k : ByteArray} (hk : k.size ≤ maxLen) (h0 : C.addE L k 1 = 0) : LiOk (C.addR L k 1) := by
  have hR : C.addR L k 1 = C.putL L k 1 := by unfold C.addR; rw [if_pos h0]
  rw [hR]
  unfold C.addE at h0
  rw [if_neg (by omega)] at h0
  have h1 : ¬ ((k ∉ C.keysL L ∧ 4096 ≤ L.length) ∨ 2147483648 < C.sumL L + 1) := fun h => by rw [if_pos h] at h0; exact absurd h0 (by decide)
  have h2 : k ∈ C.keysL L ∨ L.length < 4096 := by
    by_cases hk' : k ∈ C.keysL L
    · exact .inl hk'
    · refine .inr ?_
      have : ¬ 4096 ≤ L.length := fun h => h1 (.inl ⟨hk', h⟩)
      omega
  have h3 : C.sumL L + 1 ≤ 2147483648 := by
    have : ¬ 2147483648 < C.sumL L + 1 := fun h => h1 (.inr h)
    omega
  exact ⟨h.e.put h.nd k 1 hk (by omega) h3 h2, C.put_nd h.nd k 1⟩
theorem LiOk.nil : LiOk [] := ⟨⟨List.Pairwise.nil, by simp, by simp [C.sumL], by simp, by simp⟩, List.nodup_nil⟩
theorem runes_len (s : ByteArray) : ∀ (f i : Nat) (acc : Array Value), s.size - i ≤ f → (Conv.runesFrom s f i acc).size = acc.size + (posL s i).length
  | 0, i, acc, h => by
    rw [posL_end (by omega)]; simp [Conv.runesFrom]
  | f + 1, i, acc, h => by
    unfold Conv.runesFrom
    by_cases hp : i < s.size
    · have hw := wdN_pos hp
      rw [if_pos hp, posL_more hp]
      show (Conv.runesFrom s f (i + wdN s i) _).size = _
      rw [runes_len s f (i + wdN s i) _ (by omega), Array.size_push, List.length_cons]
      omega
    · rw [if_neg hp, posL_end hp]; simp
theorem conv_runes (s : ByteArray) (hs : s.size ≤ 1000000) (W : World) : ∃ W6 cc, (convert 9 49 (.string s)).run Tryz.prog W = .ok (.slice (some ⟨W.heap.size, 0, none⟩) (posL s 0).length cc) W6 ∧ Below W.heap.size W W6 := by
  have hl := runes_len s s.size 0 #[] (by omega)
  have hp := posL_len s _ 0 rfl
  have h := run_runes_of_string (P := Tryz.prog) W 9 49 21 s Tryz.underlying9 Tryz.underlying49 Tryz.underlying21 (by rw [hl]; simp; omega)
  have e : (Conv.runesFrom s s.size 0 #[]).size = (posL s 0).length := by rw [hl]; simp
  rw [e] at h
  exact ⟨_, _, h, (Below.drew (Below.refl _ W)).alloc (by show W.heap.size ≤ W.heap.size; exact Nat.le_refl _) _⟩
/-- how many words of a line a walk over all words meets -/
theorem cnt_words : ∀ (L : List Vs) (k j : Nat), ((pW (eachL k L)).filter fun x => decide (x.1 = j)).length = if h : k ≤ j ∧ j - k < L.length then (wordsL (L[j - k]'h.2).tx).length else 0 := by
  intro L
  induction L with
  | nil => intro k j; simp [eachL, pW]
  | cons v r ih =>
    intro k j
    have hsplit : pW (eachL k (v :: r)) = lnW (k, v) ++ pW (eachL (k + 1) r) := by
      show pW ((k, v) :: eachL (k + 1) r) = _
      unfold pW; simp
    rw [hsplit, List.filter_append, List.length_append, ih (k + 1) j]
    by_cases hkj : k = j
    · subst hkj
      have h1 : ((lnW (k, v)).filter fun x => decide (x.1 = k)).length = (wordsL v.tx).length := by
        unfold lnW prW
        rw [List.filter_eq_self.2]
        · simp
        · intro x hx
          obtain ⟨y, hy, rfl⟩ := List.mem_map.1 hx
          simp
      rw [h1, dif_neg (by omega), dif_pos ⟨Nat.le_refl _, by simp⟩]
      simp
    · have h1 : ((lnW (k, v)).filter fun x => decide (x.1 = j)).length = 0 := by
        rw [List.length_eq_zero_iff, List.filter_eq_nil_iff]
        intro x hx
        unfold lnW at hx
        obtain ⟨y, hy, rfl⟩ := List.mem_map.1 hx
        simp [prW, hkj]
      rw [h1, Nat.zero_add]
      by_cases hlt : k + 1 ≤ j ∧ j - (k + 1) < r.length
      · rw [dif_pos hlt, dif_pos ⟨by omega, by rw [List.length_cons]; omega⟩]
        congr 2
        have e : j - k = (j - (k + 1)) + 1 := by omega
        simp [e]
      · rw [dif_neg hlt, dif_neg (fun h => hlt (by rw [List.length_cons] at h; omega))]
theorem eachL_ix : ∀ (L : List Vs) (k : Nat) (x : Nat × Vs), x ∈ eachL k L → L[x.1 - k]? = some x.2 ∧ k ≤ x.1
  | [], _, x, h => by simp [eachL] at h
  | v :: r, k, x, h => by
    unfold eachL at h
    rcases List.mem_cons.1 h with rfl | h
    · simp
    · obtain ⟨h1, h2⟩ := eachL_ix r (k + 1) x h
      refine ⟨?_, by omega⟩
      have e : x.1 - k = (x.1 - (k + 1)) + 1 := by omega
      rw [e, List.getElem?_cons_succ]; exact h1
theorem floats_row {W : World} {b : Nat} {p : Option Addr} {n c : Nat} {xs : List Nat} (h : W.ownsRow b 50 1 (.slice p n c) n (xs.map fun x => .float .f64 x)) : C.FloatsIn W p xs := by
  obtain ⟨h1, h2⟩ := h
  rw [List.length_map, Nat.mul_one] at h1
  rcases h2 with ⟨h3, h4⟩ | ⟨g, cap, cur, h3, hb, hg, hn, hcap, hsz, htk⟩
  · have : xs = [] := List.length_eq_zero_iff.1 (by omega)
    subst this
    exact ⟨fun k x hx => by simp at hx⟩
  · injection h3 with e1 e2 e3
    subst e1
    refine ⟨fun k x hx => ⟨g, 0, rfl, (Array.getElem?_eq_some_iff.1 hg).1, ?_⟩⟩
    have hk : k < n := by have := (List.getElem?_eq_some_iff.1 hx).1; omega
    have hB : Blk W g 50 cur := hg
    rw [Nat.zero_add]
    refine hB.cell ?_
    have h5 : (cur.toList.take (n * 1))[k]? = some (.float .f64 x) := by rw [htk, List.getElem?_map, hx]; rfl
    rw [List.getElem?_take, if_pos (by omega)] at h5
    simpa using h5
theorem lensV_map (way : Int) (l : List (Nat × Vs)) : lensV way l = (l.map fun x => floatOfInt .f64 (lenN way x.2)).map fun x => .float .f64 x := by
  unfold lensV; rw [List.map_map]; rfl
end Go.Proofs.YtmpkfpabejpbkaaGreatDoor
