/- The document's answer Span, walked. Conditions: the text has at most 65536 bytes. -/
import Derived.Test.YtkobfjiadfedlaaPlRf
namespace Go.Proofs.Ytkobfjiadfedlaa
open Go.RowKit
set_option linter.unusedVariables false
set_option linter.unusedSimpArgs false
attribute [local go_sem] Ext.cell Ext.froz
abbrev zeroS : Value := .agg #[.int .i64 0, .int .i64 0]
theorem ends_at (s : ByteArray) (w : World) (hs : s.size ≤ 65536) :
    Calls Try.prog 26 #[.string s] w fun e w' => ∃ gE cap, e = .returned (.slice gE (fin s).ls.length cap) ∧ (∀ k ln, (fin s).ls[k]? = some ln → ∃ g, gE = some ⟨g, 0, none⟩ ∧ w.heap.size ≤ g ∧ w'.cell? ⟨g, k * 2, none⟩ = some (.int .i64 ln.t) ∧ w'.cell? ⟨g, k * 2 + 1, none⟩ = some (.int .i64 (ln.t + ln.e : Nat))) ∧ Below w.heap.size w w' := by
  refine Calls.mono (ends_own s w hs) ?_
  rintro e w' ⟨v, rfl, ho, hb⟩
  obtain ⟨gE, cap, rfl⟩ := own_some ho
  refine ⟨gE, cap, rfl, fun k ln hl => ?_, hb⟩
  have hk := (List.getElem?_eq_some_iff.1 hl).1
  obtain ⟨g, cap, h1, h2, h3⟩ := own_at3 ho (by omega)
  cases h1
  obtain ⟨a1, a2⟩ := flatE_get _ k ln hl
  exact ⟨g, rfl, (ho.lt g rfl).1, h3 _ _ a1, h3 _ _ a2⟩
set_option maxRecDepth 100000 in
set_option maxHeartbeats 2000000 in
theorem ref_span_bad (s : ByteArray) (k : Int) (w : World) (hs : s.size ≤ 65536) (hk : k < 0 ∨ ((fin s).ls.length : Int) < k) :
    Calls Try.prog 31 #[.string s, .int .i64 k] w fun e w' => e = .returned (.tuple #[zeroS, .int .i64 0, .bool false]) ∧ Below w.heap.size w w' := by
  go_enter Try.func31, Try.ntmps31
  go_wp2_with fail
  obtain ⟨wa, hA0⟩ : ∃ wa, w.alloc (.cells #[.int .i64 0, .int .i64 0] 29) = wa := ⟨_, rfl⟩
  have k4 : Blk wa w.heap.size 29 #[.int .i64 0, .int .i64 0] := hA0 ▸ Blk.new w _ _
  have ba : Below w.heap.size w wa := hA0 ▸ (Below.refl _ _).alloc (Nat.le_refl _) _
  have hwa : wa.heap.size = w.heap.size + 1 := by rw [← hA0]; simp
  rw [hA0]
  clear hA0
  have hE := hid (ends_at s wa hs)
  with_reducible refine Calls.mono hE.out ?_
  rintro e w1 ⟨gE, cap, rfl, hec, hb1⟩
  replace k4 := k4.low hb1
  replace ba := ba.trans (hb1.mono ba.size)
  have hlt1 := hb1.size
  clear hE hb1
  obtain ⟨n, hn⟩ : ∃ n, (fin s).ls.length = n := ⟨_, rfl⟩
  simp only [hn]
  rw [hn] at hk
  have cb0 := k4.cell (k := 0) rfl
  have cb1 := k4.cell (k := 1) rfl
  have nb := k4.lt
  have fb := k4.froz
  have hF : Blk ((w1.setCell ⟨w.heap.size, 0, none⟩ (.int .i64 0)).setCell ⟨w.heap.size, 1, none⟩ (.int .i64 0)) w.heap.size 29 #[.int .i64 0, .int .i64 0] := (k4.set 0 _).set 1 _
  have hL : Below w.heap.size w ((w1.setCell ⟨w.heap.size, 0, none⟩ (.int .i64 0)).setCell ⟨w.heap.size, 1, none⟩ (.int .i64 0)) := set_low (set_low ba (Nat.le_refl _) _) (Nat.le_refl _) _
  have d0 := hid (hF.cell (k := 0) rfl)
  have d1 := hid (hF.cell (k := 1) rfl)
  clear hec hn hF
  by_cases h0 : k < 0
  · have h1 : decide (k < 0) = true := decide_eq_true h0
    clear hk
    go_wp2
    exact bodyPost_ret (v := .tuple #[zeroS, .int .i64 0, .bool false]) (by simp [results, Try.results31, go_sem, d0.out, d1.out]) rfl ⟨rfl, hL⟩
  · have h1 : decide (k < 0) = false := decide_eq_false h0
    have h2 : (n : Int) < k := by omega
    have h3 : decide ((n : Int) < k) = true := decide_eq_true h2
    clear hk
    go_wp2
    exact bodyPost_ret (v := .tuple #[zeroS, .int .i64 0, .bool false]) (by simp [results, Try.results31, go_sem, d0.out, d1.out]) rfl ⟨rfl, hL⟩
set_option maxRecDepth 100000 in
set_option maxHeartbeats 4000000 in
theorem ref_span (s : ByteArray) (w : World) (hs : s.size ≤ 65536) {k : Nat} {ln : Ln} (hl : (lnOf s)[k]? = some ln) :
    Calls Try.prog 31 #[.string s, .int .i64 k] w fun e w' => e = .returned (.tuple #[.agg #[.int .i64 ln.f, .int .i64 ln.t], .int .i64 ln.e, .bool true]) ∧ Below w.heap.size w w' := by
  have hok := ln_ok s hl
  have hkl := (List.getElem?_eq_some_iff.1 hl).1
  have hll := lnOf_len s
  have hsm := (plOf_small s hs).2
  have old : ∀ (m : Nat) (x : Ln), (lnOf s)[m]? = some x → m < (fin s).ls.length → (fin s).ls[m]? = some x := fun m x h hk => by
    unfold lnOf at h
    rw [List.getElem?_append_left hk] at h
    exact h
  -- what stands ahead
  have hprev : Hid (k = 0 ∧ ln.f = 0 ∨ ∃ (k1 : Nat) (x : Ln), k = k1 + 1 ∧ (fin s).ls[k1]? = some x ∧ x.t + x.e = ln.f) := by
    cases k with
    | zero => exact .inl ⟨rfl, by rw [hok.f]; rfl⟩
    | succ k1 =>
      obtain ⟨x, hx⟩ : ∃ x, (lnOf s)[k1]? = some x := ⟨_, List.getElem?_eq_getElem (by omega)⟩
      exact .inr ⟨k1, x, rfl, old k1 x hx (by omega), by rw [(ln_ok s hx).next, hok.f]⟩
  have hnext : Hid (k = (fin s).ls.length ∧ ln.t = s.size ∧ ln.e = 0 ∨ k < (fin s).ls.length ∧ (fin s).ls[k]? = some ln) := by
    rcases hok.fin with ⟨a, b, c⟩ | ⟨a, _⟩
    · exact .inl ⟨by omega, b, c⟩
    · exact .inr ⟨by omega, old k ln hl (by omega)⟩
  have hft := hok.ft
  have hsz := hok.sz
  clear hok old
  go_enter Try.func31, Try.ntmps31
  go_wp2_with fail
  obtain ⟨wa, hA0⟩ : ∃ wa, w.alloc (.cells #[.int .i64 0, .int .i64 0] 29) = wa := ⟨_, rfl⟩
  have k4 : Blk wa w.heap.size 29 #[.int .i64 0, .int .i64 0] := hA0 ▸ Blk.new w _ _
  have ba : Below w.heap.size w wa := hA0 ▸ (Below.refl _ _).alloc (Nat.le_refl _) _
  have hwa : wa.heap.size = w.heap.size + 1 := by rw [← hA0]; simp
  rw [hA0]
  clear hA0
  have hE := hid (ends_at s wa hs)
  with_reducible refine Calls.mono hE.out ?_
  rintro e w1 ⟨gE, cap, rfl, hec, hb1⟩
  replace k4 := k4.low hb1
  replace ba := ba.trans (hb1.mono ba.size)
  have hlt1 := hb1.size
  clear hE hb1
  obtain ⟨n, hn⟩ : ∃ n, (fin s).ls.length = n := ⟨_, rfl⟩
  rw [hn] at hnext hll
  simp only [hn]
  have hech := hid hec
  have q1 : decide ((k : Int) < 0) = false := decide_eq_false (by omega)
  have q2 : decide (n < k) = false := decide_eq_false (by omega)
  have q2b : ¬ (n : Int) < k := by omega
  have q6 : ((k : Nat) : Int).toNat = k := Int.toNat_natCast k
  have nb4 := k4.lt
  have hwlt : w.heap.size < w1.heap.size := nb4
  clear hec hl hn
  rcases hprev.out with ⟨rfl, hf0⟩ | ⟨k1, x, rfl, hx, hxe⟩
  · rcases hnext.out with ⟨hkn, hlt, hle⟩ | ⟨hkn, hln⟩
    · have p1 : decide ((n : Int) < 0) = false := decide_eq_false (by omega)
      have p2 : ¬ (n : Int) < 0 := by omega
      have p7 : ((0 : Int) == (n : Int)) = true := by rw [beq_iff_eq]; omega
      replace hlt := hid hlt
      clear q2 q2b
      subst hkn
      have cb0 := k4.cell (k := 0) rfl
      have cb1 := k4.cell (k := 1) rfl
      have fb := k4.froz
      go_wp2_with fail
      try rw [Exit.noGoto_ret]
      have hF : Blk (((w1.setCell ⟨w.heap.size, 0, none⟩ (.int .i64 0)).setCell ⟨w.heap.size, 1, none⟩ (.int .i64 s.size)).alloc (.cells #[.int .i64 0, .int .i64 s.size] 29)) w.heap.size 29 #[.int .i64 0, .int .i64 s.size] := ((k4.set 0 _).set 1 _).alloc _
      have hL : Below w.heap.size w (((w1.setCell ⟨w.heap.size, 0, none⟩ (.int .i64 0)).setCell ⟨w.heap.size, 1, none⟩ (.int .i64 s.size)).alloc (.cells #[.int .i64 0, .int .i64 s.size] 29)) := (set_low (set_low ba (Nat.le_refl _) _) (Nat.le_refl _) _).alloc (by simp; omega) _
      have d0 := hF.cell (k := 0) rfl
      have d1 := hF.cell (k := 1) rfl
      exact bodyPost_ret (v := .tuple #[.agg #[.int .i64 0, .int .i64 s.size], .int .i64 0, .bool true]) (by simp [results, Try.results31, go_sem, d0, d1]) rfl ⟨by rw [hlt.out], hL⟩
    · have p1 : decide ((n : Int) < 0) = false := decide_eq_false (by omega)
      have p2 : ¬ (n : Int) < 0 := by omega
      obtain ⟨g, rfl, hg, e2, e3⟩ := hech.out 0 ln hln
      simp only [Nat.zero_mul, Nat.zero_add] at e2 e3
      have hgw2 : g < w1.heap.size := by have := World.block_lt_of_cell? w1 _ e2; exact this
      have hgw : ¬ g = w1.heap.size := by omega
      have p7 : ((0 : Int) == (n : Int)) = false := by rw [beq_eq_false_iff_ne]; omega
      have p8 : (0 : Int) < n := by omega
      have p9 : (0 : Int) ≤ (0 : Int) := by omega
      have p10 : IntKind.i64.wrap (((ln.t + ln.e : Nat) : Int) - ln.t) = ln.e := by rw [IntWalk.i64_in _ (by omega)]; omega
      have p11 : (ln.t : Int) + ln.e - ln.t = ln.e := by omega
      have cb0 := k4.cell (k := 0) rfl
      have cb1 := k4.cell (k := 1) rfl
      have fb := k4.froz
      have hne1 : ¬ w.heap.size = w1.heap.size := by omega
      have hne2 : ¬ w1.heap.size = w.heap.size := by omega
      have hne3 : ¬ w.heap.size = g := by omega
      have hne4 : ¬ g = w.heap.size := by omega
      have hne5 : ¬ w1.heap.size = g := by omega
      go_wp2_with fail
      obtain ⟨w2, hA⟩ : ∃ w2, w1.alloc (.cells #[.int .i64 0, .int .i64 ln.t] 29) = w2 := ⟨_, rfl⟩
      have k8 : Blk w2 w1.heap.size 29 #[.int .i64 0, .int .i64 ln.t] := hA ▸ Blk.new w1 _ _
      have hb2 : Below w1.heap.size w1 w2 := hA ▸ (Below.refl _ _).alloc (Nat.le_refl _) _
      have f2 := (hb2.cell (p := ⟨g, 0, none⟩) hgw2).trans e2
      have f3 := (hb2.cell (p := ⟨g, 1, none⟩) hgw2).trans e3
      rw [hA]
      replace k4 := k4.low hb2
      replace ba := ba.trans (hb2.mono ba.size)
      clear cb0 cb1 fb hA hb2 e2 e3
      have cb0 := k4.cell (k := 0) rfl
      have cb1 := k4.cell (k := 1) rfl
      have fb := k4.froz
      have nb := k4.lt
      have c80 := k8.cell (k := 0) rfl
      have c81 := k8.cell (k := 1) rfl
      have n8 := k8.lt
      go_region
      all_goals go_wp2
      all_goals try rw [Exit.noGoto_ret]
      all_goals exact bodyPost_ret (v := .tuple #[.agg #[.int .i64 0, .int .i64 ln.t], .int .i64 ln.e, .bool true]) (by simp [results, Try.results31, go_sem, *]) rfl ⟨by rw [hf0]; rfl, (set_low (set_low ba (Nat.le_refl _) _) (Nat.le_refl _) _).drew⟩
  · rcases hnext.out with ⟨hkn, hlt, hle⟩ | ⟨hkn, hln⟩
    · obtain ⟨g, rfl, hg, _, e1⟩ := hech.out k1 x hx
      rw [hxe] at e1
      have p1 : decide (0 < k1 + 1) = true := decide_eq_true (by omega)
      have p2 : (0 : Int) < (k1 : Int) + 1 := by omega
      have p3 : IntKind.i64.wrap (k1 : Int) = k1 := IntWalk.i64_in _ (by omega)
      have p4 : (0 : Int) ≤ k1 := by omega
      have p5 : (k1 : Int) < n := by omega
      have p6 : ((k1 : Nat) : Int).toNat = k1 := by omega
      have hgw : ¬ g = w1.heap.size := by have := World.block_lt_of_cell? w1 _ e1; have : g < w1.heap.size := this; omega
      have hgw2 : g < w1.heap.size := by have := World.block_lt_of_cell? w1 _ e1; exact this
      have p7 : (((k1 : Int) + 1) == (n : Int)) = true := by rw [beq_iff_eq]; omega
      replace hlt := hid hlt
      clear q2 q2b
      subst hkn
      have cb0 := k4.cell (k := 0) rfl
      have cb1 := k4.cell (k := 1) rfl
      have fb := k4.froz
      go_wp2_with fail
      try rw [Exit.noGoto_ret]
      have hF : Blk (((w1.setCell ⟨w.heap.size, 0, none⟩ (.int .i64 ln.f)).setCell ⟨w.heap.size, 1, none⟩ (.int .i64 s.size)).alloc (.cells #[.int .i64 ln.f, .int .i64 s.size] 29)) w.heap.size 29 #[.int .i64 ln.f, .int .i64 s.size] := ((k4.set 0 _).set 1 _).alloc _
      have hL : Below w.heap.size w (((w1.setCell ⟨w.heap.size, 0, none⟩ (.int .i64 ln.f)).setCell ⟨w.heap.size, 1, none⟩ (.int .i64 s.size)).alloc (.cells #[.int .i64 ln.f, .int .i64 s.size] 29)) := (set_low (set_low ba (Nat.le_refl _) _) (Nat.le_refl _) _).alloc (by simp; omega) _
      have d0 := hF.cell (k := 0) rfl
      have d1 := hF.cell (k := 1) rfl
      exact bodyPost_ret (v := .tuple #[.agg #[.int .i64 ln.f, .int .i64 s.size], .int .i64 0, .bool true]) (by simp [results, Try.results31, go_sem, d0, d1]) rfl ⟨by rw [hlt.out], hL⟩
    · obtain ⟨g, rfl, hg, _, e1⟩ := hech.out k1 x hx
      rw [hxe] at e1
      have p1 : decide (0 < k1 + 1) = true := decide_eq_true (by omega)
      have p2 : (0 : Int) < (k1 : Int) + 1 := by omega
      have p3 : IntKind.i64.wrap (k1 : Int) = k1 := IntWalk.i64_in _ (by omega)
      have p4 : (0 : Int) ≤ k1 := by omega
      have p5 : (k1 : Int) < n := by omega
      have p6 : ((k1 : Nat) : Int).toNat = k1 := by omega
      have hgw : ¬ g = w1.heap.size := by have := World.block_lt_of_cell? w1 _ e1; have : g < w1.heap.size := this; omega
      have hgw2 : g < w1.heap.size := by have := World.block_lt_of_cell? w1 _ e1; exact this
      obtain ⟨g', hgg, hg', e2, e3⟩ := hech.out (k1 + 1) ln hln
      cases hgg
      have p7 : (((k1 : Int) + 1) == (n : Int)) = false := by rw [beq_eq_false_iff_ne]; omega
      have p8 : ((k1 : Int) + 1) < n := by omega
      have p9 : (0 : Int) ≤ ((k1 : Int) + 1) := by omega
      have p10 : IntKind.i64.wrap (((ln.t + ln.e : Nat) : Int) - ln.t) = ln.e := by rw [IntWalk.i64_in _ (by omega)]; omega
      have p11 : (ln.t : Int) + ln.e - ln.t = ln.e := by omega
      have cb0 := k4.cell (k := 0) rfl
      have cb1 := k4.cell (k := 1) rfl
      have fb := k4.froz
      have hne1 : ¬ w.heap.size = w1.heap.size := by omega
      have hne2 : ¬ w1.heap.size = w.heap.size := by omega
      have hne3 : ¬ w.heap.size = g := by omega
      have hne4 : ¬ g = w.heap.size := by omega
      have hne5 : ¬ w1.heap.size = g := by omega
      go_wp2_with fail
      obtain ⟨w2, hA⟩ : ∃ w2, w1.alloc (.cells #[.int .i64 ln.f, .int .i64 ln.t] 29) = w2 := ⟨_, rfl⟩
      have k8 : Blk w2 w1.heap.size 29 #[.int .i64 ln.f, .int .i64 ln.t] := hA ▸ Blk.new w1 _ _
      have hb2 : Below w1.heap.size w1 w2 := hA ▸ (Below.refl _ _).alloc (Nat.le_refl _) _
      have f2 := (hb2.cell (p := ⟨g, (k1 + 1) * 2, none⟩) hgw2).trans e2
      have f3 := (hb2.cell (p := ⟨g, (k1 + 1) * 2 + 1, none⟩) hgw2).trans e3
      rw [hA]
      replace k4 := k4.low hb2
      replace ba := ba.trans (hb2.mono ba.size)
      clear cb0 cb1 fb hA hb2 e2 e3 e1
      have cb0 := k4.cell (k := 0) rfl
      have cb1 := k4.cell (k := 1) rfl
      have fb := k4.froz
      have nb := k4.lt
      have c80 := k8.cell (k := 0) rfl
      have c81 := k8.cell (k := 1) rfl
      have n8 := k8.lt
      go_region
      all_goals go_wp2
      all_goals try rw [Exit.noGoto_ret]
      all_goals exact bodyPost_ret (v := .tuple #[.agg #[.int .i64 ln.f, .int .i64 ln.t], .int .i64 ln.e, .bool true]) (by simp [results, Try.results31, go_sem, *]) rfl ⟨rfl, (set_low (set_low ba (Nat.le_refl _) _) (Nat.le_refl _) _).drew⟩
end Go.Proofs.Ytkobfjiadfedlaa
