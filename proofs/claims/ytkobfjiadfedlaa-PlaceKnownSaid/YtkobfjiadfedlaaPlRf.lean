/- The document's answers Unit (out of range), Line, Span, sum, walked. Conditions: the text has at most 65536 bytes. -/
import Derived.Test.YtkobfjiadfedlaaPlRe
namespace Go.Proofs.Ytkobfjiadfedlaa
open Go.RowKit
set_option linter.unusedVariables false
set_option linter.unusedSimpArgs false
attribute [local go_sem] Ext.cell Ext.froz
set_option maxRecDepth 100000 in
set_option maxHeartbeats 2000000 in
theorem ref_unit_bad (s : ByteArray) (k : Int) (w : World) (hs : s.size ≤ 65536) (hk : k < 0 ∨ ((lastP s).u : Int) < k) :
    Calls Try.prog 29 #[.string s, .int .i64 k] w fun e w' => e = .returned (.tuple #[zeroP, .int .i64 0, .bool false]) ∧ Below w.heap.size w w' := by
  have hlast := last_get s
  have hln := hid (plOf_small s hs).1
  go_enter Try.func29, Try.ntmps29
  go_wp2_with fail
  obtain ⟨wa, hA0⟩ : ∃ wa, w.alloc (.cells #[.int .i64 0, .int .i64 0, .int .i64 0, .int .i64 0, .int .i64 0] 33) = wa := ⟨_, rfl⟩
  have k4 : Blk wa w.heap.size 33 #[.int .i64 0, .int .i64 0, .int .i64 0, .int .i64 0, .int .i64 0] := hA0 ▸ Blk.new w _ _
  have ba : Below w.heap.size w wa := hA0 ▸ (Below.refl _ _).alloc (Nat.le_refl _) _
  rw [hA0]
  clear hA0
  have hP := hid (places_at s wa hs)
  with_reducible refine Calls.mono hP.out ?_
  rintro e w1 ⟨g, cap, rfl, hg, hA, hb1⟩
  replace k4 := k4.low hb1
  replace ba := ba.trans (hb1.mono ba.size)
  obtain ⟨m, hm⟩ : ∃ m, (fin s).ps.length = m := ⟨_, rfl⟩
  have hn : (plOf s).length = m + 1 := by rw [plOf_len, hm]
  obtain ⟨_, _, y2, _⟩ := hA m (lastP s) (by rw [← hm]; exact hlast)
  simp only [hn]
  have hm6 : m ≤ 65536 := by have := hln.out; rw [hn] at this; omega
  have t1 : IntKind.i64.wrap (m : Int) = m := IntWalk.i64_in _ (by omega)
  have t2 : (0 : Int) ≤ m := by omega
  have t3 : ((m : Nat) : Int) < (m : Int) + 1 := by omega
  have t4 : ((m : Nat) : Int).toNat = m := by omega
  have cb0 := k4.cell (k := 0) rfl
  have cb1 := k4.cell (k := 1) rfl
  have cb2 := k4.cell (k := 2) rfl
  have cb3 := k4.cell (k := 3) rfl
  have cb4 := k4.cell (k := 4) rfl
  have nb := k4.lt
  have fb := k4.froz
  have hF := set5r k4 (.int .i64 0) (.int .i64 0) (.int .i64 0) (.int .i64 0) (.int .i64 0)
  have d0 := hid (hF.cell (k := 0) rfl)
  have d1 := hid (hF.cell (k := 1) rfl)
  have d2 := hid (hF.cell (k := 2) rfl)
  have d3 := hid (hF.cell (k := 3) rfl)
  have d4 := hid (hF.cell (k := 4) rfl)
  clear hP hA hb1 hn hm hlast hF
  by_cases h0 : k < 0
  · have h1 : decide (k < 0) = true := decide_eq_true h0
    clear hk
    go_wp2
    exact bodyPost_ret (v := .tuple #[zeroP, .int .i64 0, .bool false]) (by simp [results, Try.results29, go_sem, d0.out, d1.out, d2.out, d3.out, d4.out]) rfl ⟨rfl, low5r ba (Nat.le_refl _) _ _ _ _ _⟩
  · have h1 : decide (k < 0) = false := decide_eq_false h0
    have h2 : ((lastP s).u : Int) < k := by omega
    have h3 : decide (((lastP s).u : Int) < k) = true := decide_eq_true h2
    clear hk
    go_wp2
    exact bodyPost_ret (v := .tuple #[zeroP, .int .i64 0, .bool false]) (by simp [results, Try.results29, go_sem, d0.out, d1.out, d2.out, d3.out, d4.out]) rfl ⟨rfl, low5r ba (Nat.le_refl _) _ _ _ _ _⟩
/-- one line and one column, one place -/
theorem lc_one (s : ByteArray) {i j : Nat} {x y : Pl} (hx : (plOf s)[i]? = some x) (hy : (plOf s)[j]? = some y) (hl : x.l = y.l) (hc : x.c = y.c) : i = j := by
  obtain ⟨a, a1, a2, _⟩ := pl_line s hx
  obtain ⟨b, b1, b2, _⟩ := pl_line s hy
  rw [hl, b1] at a1
  cases a1
  omega
set_option maxRecDepth 100000 in
set_option maxHeartbeats 2000000 in
theorem ref_line (s : ByteArray) (w : World) (hs : s.size ≤ 65536) {j : Nat} {p : Pl} (hp : (plOf s)[j]? = some p) :
    Calls Try.prog 30 #[.string s, .int .i64 p.l, .int .i64 p.c] w fun e w' => e = .returned (.tuple #[plV p, .bool true]) ∧ Below w.heap.size w w' := by
  have hlt := (List.getElem?_eq_some_iff.1 hp).1
  have hln := (plOf_small s hs).1
  go_enter Try.func30, Try.ntmps30
  go_wp2_with fail
  obtain ⟨wa, hA0⟩ : ∃ wa, w.alloc (.cells #[.int .i64 0, .int .i64 0, .int .i64 0, .int .i64 0, .int .i64 0] 33) = wa := ⟨_, rfl⟩
  have k4 : Blk wa w.heap.size 33 #[.int .i64 0, .int .i64 0, .int .i64 0, .int .i64 0, .int .i64 0] := hA0 ▸ Blk.new w _ _
  have ba : Below w.heap.size w wa := hA0 ▸ (Below.refl _ _).alloc (Nat.le_refl _) _
  rw [hA0]
  clear hA0
  have hP := hid (places_at s wa hs)
  with_reducible refine Calls.mono hP.out ?_
  rintro e w1 ⟨g, cap, rfl, hg, hA, hb1⟩
  replace k4 := k4.low hb1
  replace ba := ba.trans (hb1.mono ba.size)
  have hAA := hid hA
  have hph := hid hp
  obtain ⟨n, hn⟩ : ∃ n, (plOf s).length = n := ⟨_, rfl⟩
  have hnh := hid hn
  simp only [hn]
  rw [hn] at hlt hln
  clear hP hA hb1 hn hp
  go_wp2_with fail
  go_loop [9] (fun i => ∃ q : Nat, i = .int .i64 q ∧ q ≤ j) (fun i => j - (intOf i).toNat)
  case atStart => exact ⟨0, rfl, Nat.zero_le _⟩
  case round =>
    obtain ⟨q, rfl, h1⟩ := hrel
    obtain ⟨x, hx⟩ : ∃ x, (plOf s)[q]? = some x := ⟨_, List.getElem?_eq_getElem (by rw [hnh.out]; omega)⟩
    obtain ⟨a0, a1, a2, a3, a4⟩ := hAA.out q x hx
    have r3 : (q : Int) < n := by omega
    have r4 : ((q : Nat) : Int).toNat = q := Int.toNat_natCast q
    rcases Nat.lt_or_eq_of_le h1 with h1 | h1
    · have r5 : IntKind.i64.wrap ((q : Int) + 1) = (q : Int) + 1 := IntWalk.i64_in _ (by omega)
      by_cases hl : x.l = p.l
      · have hc : ¬ x.c = p.c := fun hc => by have := lc_one s hx hph.out hl hc; omega
        have e1 : ((x.l : Int) == (p.l : Int)) = true := by rw [beq_iff_eq]; omega
        have e2 : ((x.c : Int) == (p.c : Int)) = false := by rw [beq_eq_false_iff_ne]; omega
        clear hx hl hc a0 a1 a2
        go_wp2_with fail
        go_round
        case rel => exact ⟨q + 1, by go_num, by omega⟩
        case measure => simp [intOf] <;> omega
      · have e1 : ((x.l : Int) == (p.l : Int)) = false := by rw [beq_eq_false_iff_ne]; omega
        clear hx hl a0 a1 a2
        go_wp2_with fail
        go_round
        case rel => exact ⟨q + 1, by go_num, by omega⟩
        case measure => simp [intOf] <;> omega
    · subst h1
      obtain rfl : x = p := by have := hph.out; rw [hx] at this; exact Option.some.inj this
      have cb0 := k4.cell (k := 0) rfl
      have cb1 := k4.cell (k := 1) rfl
      have cb2 := k4.cell (k := 2) rfl
      have cb3 := k4.cell (k := 3) rfl
      have cb4 := k4.cell (k := 4) rfl
      have nb := k4.lt
      have fb := k4.froz
      have hF := set5r k4 (.int .i64 x.b) (.int .i64 x.r) (.int .i64 x.u) (.int .i64 x.l) (.int .i64 x.c)
      have d0 := hid (hF.cell (k := 0) rfl)
      have d1 := hid (hF.cell (k := 1) rfl)
      have d2 := hid (hF.cell (k := 2) rfl)
      have d3 := hid (hF.cell (k := 3) rfl)
      have d4 := hid (hF.cell (k := 4) rfl)
      clear hx hF
      go_wp2
      try rw [Exit.noGoto_ret]
      exact bodyPost_ret (v := .tuple #[plV x, .bool true]) (by simp [results, Try.results30, go_sem, d0.out, d1.out, d2.out, d3.out, d4.out]) rfl ⟨rfl, low5r ba (Nat.le_refl _) _ _ _ _ _⟩
set_option maxRecDepth 100000 in
set_option maxHeartbeats 2000000 in
theorem ref_line_bad (s : ByteArray) (l c : Int) (w : World) (hs : s.size ≤ 65536) (hno : ∀ (j : Nat) (p : Pl), (plOf s)[j]? = some p → ¬ ((p.l : Int) = l ∧ (p.c : Int) = c)) :
    Calls Try.prog 30 #[.string s, .int .i64 l, .int .i64 c] w fun e w' => e = .returned (.tuple #[zeroP, .bool false]) ∧ Below w.heap.size w w' := by
  have hln := (plOf_small s hs).1
  have hnoh := hid hno
  clear hno
  go_enter Try.func30, Try.ntmps30
  go_wp2_with fail
  obtain ⟨wa, hA0⟩ : ∃ wa, w.alloc (.cells #[.int .i64 0, .int .i64 0, .int .i64 0, .int .i64 0, .int .i64 0] 33) = wa := ⟨_, rfl⟩
  have k4 : Blk wa w.heap.size 33 #[.int .i64 0, .int .i64 0, .int .i64 0, .int .i64 0, .int .i64 0] := hA0 ▸ Blk.new w _ _
  have ba : Below w.heap.size w wa := hA0 ▸ (Below.refl _ _).alloc (Nat.le_refl _) _
  rw [hA0]
  clear hA0
  have hP := hid (places_at s wa hs)
  with_reducible refine Calls.mono hP.out ?_
  rintro e w1 ⟨g, cap, rfl, hg, hA, hb1⟩
  replace k4 := k4.low hb1
  replace ba := ba.trans (hb1.mono ba.size)
  have hAA := hid hA
  obtain ⟨n, hn⟩ : ∃ n, (plOf s).length = n := ⟨_, rfl⟩
  have hnh := hid hn
  simp only [hn]
  rw [hn] at hln
  clear hP hA hb1 hn
  go_wp2_with fail
  go_loop [9] (fun i => ∃ q : Nat, i = .int .i64 q ∧ q ≤ n) (fun i => n - (intOf i).toNat)
  case atStart => exact ⟨0, rfl, Nat.zero_le _⟩
  case round =>
    obtain ⟨q, rfl, h1⟩ := hrel
    by_cases hq : q < n
    · obtain ⟨x, hx⟩ : ∃ x, (plOf s)[q]? = some x := ⟨_, List.getElem?_eq_getElem (by rw [hnh.out]; omega)⟩
      obtain ⟨a0, a1, a2, a3, a4⟩ := hAA.out q x hx
      have hnot := hnoh.out q x hx
      have r3 : (q : Int) < n := by omega
      have r4 : ((q : Nat) : Int).toNat = q := Int.toNat_natCast q
      have r5 : IntKind.i64.wrap ((q : Int) + 1) = (q : Int) + 1 := IntWalk.i64_in _ (by omega)
      by_cases hl : (x.l : Int) = l
      · have e2 : ((x.c : Int) == c) = false := by rw [beq_eq_false_iff_ne]; exact fun hc => hnot ⟨hl, hc⟩
        subst hl
        clear hx hnot a0 a1 a2
        go_wp2_with fail
        go_round
        case rel => exact ⟨q + 1, by go_num, by omega⟩
        case measure => simp [intOf] <;> omega
      · have e1 : ((x.l : Int) == l) = false := by rw [beq_eq_false_iff_ne]; exact hl
        clear hx hl hnot a0 a1 a2
        go_wp2_with fail
        go_round
        case rel => exact ⟨q + 1, by go_num, by omega⟩
        case measure => simp [intOf] <;> omega
    · obtain rfl : q = n := by omega
      have r3 : ¬ (q : Int) < q := by omega
      have cb0 := k4.cell (k := 0) rfl
      have cb1 := k4.cell (k := 1) rfl
      have cb2 := k4.cell (k := 2) rfl
      have cb3 := k4.cell (k := 3) rfl
      have cb4 := k4.cell (k := 4) rfl
      have nb := k4.lt
      have fb := k4.froz
      have hF := set5r k4 (.int .i64 0) (.int .i64 0) (.int .i64 0) (.int .i64 0) (.int .i64 0)
      have d0 := hid (hF.cell (k := 0) rfl)
      have d1 := hid (hF.cell (k := 1) rfl)
      have d2 := hid (hF.cell (k := 2) rfl)
      have d3 := hid (hF.cell (k := 3) rfl)
      have d4 := hid (hF.cell (k := 4) rfl)
      clear hF hq
      go_wp2
      try rw [Exit.noGoto_ret]
      exact bodyPost_ret (v := .tuple #[zeroP, .bool false]) (by simp [results, Try.results30, go_sem, d0.out, d1.out, d2.out, d3.out, d4.out]) rfl ⟨rfl, low5r ba (Nat.le_refl _) _ _ _ _ _⟩
theorem ref_sum (a n m : Int) (w : World) (a0 : 0 ≤ a) (am : a ≤ m) (m1 : m ≤ 200000) (n0 : -9223372036854775808 ≤ n) (n1 : n ≤ 9223372036854775807) :
    Calls Try.prog 41 #[.int .i64 a, .int .i64 n, .int .i64 m] w fun e w' => e = .returned (.int .i64 (if m < a + n then m + 1 else if a + n < 0 then -1 else a + n)) ∧ w = w' := by
  have hn0 := hid n0
  have hn1 := hid n1
  clear n0 n1
  have t1 : IntKind.i64.wrap (m - a) = m - a := IntWalk.i64_in _ (by omega)
  have t2 : IntKind.i64.wrap (-a) = -a := IntWalk.i64_in _ (by omega)
  have t3 : IntKind.i64.wrap (m + 1) = m + 1 := IntWalk.i64_in _ (by omega)
  by_cases h1 : m < a + n
  · have e1 : decide (m - a < n) = true := decide_eq_true (by omega)
    have e2 : m - a < n := by omega
    rw [if_pos h1]
    clear h1
    go_enter Try.func41, Try.ntmps41
    go_wp2
    go_ret
    exact ⟨rfl, rfl⟩
  · have e1 : decide (m - a < n) = false := decide_eq_false (by omega)
    have e2 : ¬ m - a < n := by omega
    rw [if_neg h1]
    by_cases h2 : a + n < 0
    · have e3 : decide (n < -a) = true := decide_eq_true (by omega)
      have e4 : n < -a := by omega
      rw [if_pos h2]
      clear h1 h2
      go_enter Try.func41, Try.ntmps41
      go_wp2
      go_ret
      exact ⟨rfl, rfl⟩
    · have e3 : decide (n < -a) = false := decide_eq_false (by omega)
      have e4 : ¬ n < -a := by omega
      have t4 : IntKind.i64.wrap (a + n) = a + n := IntWalk.i64_in _ (by omega)
      rw [if_neg h2]
      clear h1 h2
      go_enter Try.func41, Try.ntmps41
      go_wp2
      go_ret
      exact ⟨rfl, rfl⟩
end Go.Proofs.Ytkobfjiadfedlaa
