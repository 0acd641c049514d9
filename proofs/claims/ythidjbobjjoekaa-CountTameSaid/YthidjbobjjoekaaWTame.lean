/- CountTame walked: it answers true of any numbers. Conditions: the numbers take no more room than a slice may. -/
import Derived.Test.YthidjbobjjoekaaTaI
import Derived.Test.YthidjbobjjoekaaCoI
namespace Go.Proofs.Ythidjbobjjoekaa
open Go.RowKit Go.Lib Go.Sort Go.Shelf
set_option linter.unusedVariables false
set_option linter.unusedSimpArgs false
set_option maxHeartbeats 4000000
open Ieee (infR ONE)
theorem inq0 : InQ 0 := ⟨.inr (by decide +kernel), .inl (by decide +kernel)⟩
theorem inq1 : InQ 4607182418800017408 := ⟨.inl (by decide +kernel), .inr (by decide +kernel)⟩
theorem real_self {x : Nat} (h : Ieee.Real x) : FloatKind.f64.format.order x x = some .eq := Ieee.order_self x h
/-- how one number of the list stands to the least and the greatest -/
theorem round_ord {xs : List Nat} {lo hi y : Nat} (hT : ∀ x ∈ xs, Tame x) (L : Low xs lo) (H : High xs hi) (hy : y ∈ xs) :
    ((FloatKind.f64.format.order y lo = some .gt ∧ Ieee.key y ≠ Ieee.key lo) ∨ FloatKind.f64.format.order y lo = some .eq) ∧ ((FloatKind.f64.format.order y hi = some .lt ∧ Ieee.key y ≠ Ieee.key hi) ∨ FloatKind.f64.format.order y hi = some .eq) := by
  have ry : Ieee.Real y := Nat.le_of_lt (tame_fin (hT y hy))
  have e1 : FloatKind.f64.format.order y lo = some (compare (Ieee.key y) (Ieee.key lo)) := Ieee.order_key y lo ry L.real
  have e2 : FloatKind.f64.format.order y hi = some (compare (Ieee.key y) (Ieee.key hi)) := Ieee.order_key y hi ry H.real
  have h1 := L.le y hy
  have h2 := H.le y hy
  constructor
  · rcases Int.lt_or_eq_of_le h1 with h | h
    · exact .inl ⟨by rw [e1, Ieee.cmp_gt h], by omega⟩
    · exact .inr (by rw [e1, Ieee.cmp_eq h.symm])
  · rcases Int.lt_or_eq_of_le h2 with h | h
    · exact .inl ⟨by rw [e2, Ieee.cmp_lt h], by omega⟩
    · exact .inr (by rw [e2, Ieee.cmp_eq h])
theorem take_more {xs : List Nat} {k x : Nat} {P : Nat → Prop} (hx : xs[k]? = some x) (h1 : ∀ y ∈ xs.take k, P y) (h2 : P x) : ∀ y ∈ xs.take (k + 1), P y := by
  intro y hy
  rw [List.take_add_one, hx] at hy
  rcases List.mem_append.1 hy with hy | hy
  · exact h1 y hy
  · simp at hy; subst hy; exact h2
theorem out_cases {q : Nat} (h : ¬ InQ q) : (ford q 0 = none ∨ ford q 0 = some .lt) ∨ ((ford q 0 = some .gt ∨ ford q 0 = some .eq) ∧ (ford q 4607182418800017408 = none ∨ ford q 4607182418800017408 = some .gt)) := by
    unfold InQ at h
    cases h1 : ford q 0 with
    | none => exact .inl (.inl rfl)
    | some o => cases o with
      | lt => exact .inl (.inr rfl)
      | eq => cases h2 : ford q 4607182418800017408 with
        | none => exact .inr ⟨.inr rfl, .inl rfl⟩
        | some o => cases o with
          | lt => exact absurd ⟨.inr h1, .inl h2⟩ h
          | eq => exact absurd ⟨.inr h1, .inr h2⟩ h
          | gt => exact .inr ⟨.inr rfl, .inr rfl⟩
      | gt => cases h2 : ford q 4607182418800017408 with
        | none => exact .inr ⟨.inl rfl, .inl rfl⟩
        | some o => cases o with
          | lt => exact absurd ⟨.inl h1, .inl h2⟩ h
          | eq => exact absurd ⟨.inl h1, .inr h2⟩ h
          | gt => exact .inr ⟨.inl rfl, .inr rfl⟩
set_option maxRecDepth 100000 in
theorem tame_walk (w : World) (p : Option Addr) (c : Nat) (xs : List Nat) (q : Nat) (h : FloatsIn w p xs) (hl : xs.length * 8 ≤ 140737488355328) :
    Calls Try.prog 6 #[.slice p xs.length c, .float .f64 q] w fun e w' => e = .returned (.bool true) ∧ Below w.heap.size w w' := by
  have hW := hid works_any
  have hT0 := hid (fun W hW => tame_any W p c xs hW (by omega))
  have hM := hid (fun W hW h1 hT => Mean_any W p c xs hW h1 (by omega) hT)
  have hS := hid (fun W hW h1 hT => spread_any W p c xs hW h1 (by omega) hT)
  have hQ := hid (fun W q hW h1 hT hq => quant_any W p c xs q hW h1 hl hT hq)
  have hQo := hid (fun W hq => quant_out W (.slice p xs.length c) q hq)
  have H := hid h
  clear h
  generalize hn : xs.length = n at *
  have hN := hid hn
  clear hn
  go_enter Try.func6, Try.ntmps6
  go_wp2_with fail
  with_reducible refine Calls.mono (hW.out _) ?_
  rintro e w1 ⟨rfl, hb1⟩
  have B1 := hid hb1
  clear hb1
  have H1 := hid (H.out.low (Nat.le_refl _) B1.out)
  go_wp2_with fail
  with_reducible refine Calls.mono (hT0.out _ H1.out) ?_
  rintro e w' ⟨b, rfl, hbt, rfl⟩
  have hBT := hid hbt
  clear hbt
  cases b
  case' false =>
    go_wp2_with fail
    with_reducible refine Calls.mono (hW.out _) ?_
    rintro e w2 ⟨rfl, hb2⟩
    go_wp2_with fail
    go_ret
    exact ⟨rfl, B1.out.trans (hb2.mono B1.out.size)⟩
  by_cases hn0 : n = 0
  case' pos =>
    subst hn0
    go_wp2_with fail
    with_reducible refine Calls.mono (hW.out _) ?_
    rintro e w2 ⟨rfl, hb2⟩
    go_wp2_with fail
    go_ret
    exact ⟨rfl, B1.out.trans (hb2.mono B1.out.size)⟩
  have hne : ((n : Int) == 0) = false := by rw [beq_eq_false_iff_ne]; omega
  have h1 : 1 ≤ n := by omega
  have hT := hid (hBT.out rfl)
  go_wp2_with fail
  with_reducible refine Calls.mono (hM.out _ H1.out h1 hT.out) ?_
  rintro e w' ⟨m, rfl, hm, rfl⟩
  have om := real_self hm
  clear hm
  go_wp2_with fail
  with_reducible refine Calls.mono (hS.out _ H1.out h1 hT.out) ?_
  rintro e w' ⟨s, rfl, hs, rfl⟩
  have os := order_ge s 0 hs.1 (Ieee.real_pos 0 (Nat.zero_le _)).1 (by rw [(Ieee.real_pos 0 (Nat.zero_le _)).2.2.2]; exact hs.2)
  clear hs
  go_wp2_with fail
  with_reducible refine Calls.mono (hQ.out _ 0 H1.out h1 hT.out inq0) ?_
  rintro e w2 ⟨hb2, lo, rfl, -, hlo, -⟩
  have HL := hid (hlo (Ieee.real_pos 0 (Nat.zero_le _)).2.2.2)
  have B2 := hid (B1.out.trans (hb2.mono B1.out.size))
  have H2 := hid (H.out.low (Nat.le_refl _) B2.out)
  clear hb2 hlo H1 B1
  go_wp2_with fail
  with_reducible refine Calls.mono (hQ.out _ 4607182418800017408 H2.out h1 hT.out inq1) ?_
  rintro e w3 ⟨hb3, hi, rfl, -, -, hhi⟩
  have HH := hid (hhi (by rw [← one_lit]))
  have B3 := hid (B2.out.trans (hb3.mono B2.out.size))
  have H3 := hid (H.out.low (Nat.le_refl _) B3.out)
  clear hb3 hhi H2 B2
  go_wp2_with fail
  by_cases hq : InQ q
  case' pos =>
    with_reducible refine Calls.mono (hQ.out _ q H3.out h1 hT.out hq) ?_
    rintro e w4 ⟨hb4, v, rfl, hmid, -, -⟩
    have HM := hid hmid
    have B4 := hid (B3.out.trans (hb4.mono B3.out.size))
    have H4 := hid (H.out.low (Nat.le_refl _) B4.out)
    clear hb4 hmid H3 B3
  case' neg =>
    with_reducible refine Calls.mono (hQo.out _ hq) ?_
    rintro e w4 ⟨rfl, rfl⟩
    have B4 := B3
    have H4 := H3
    clear B3 H3
  all_goals
    rcases os with os | os
    all_goals
      go_wp2_with fail
      go_loop [13, 14, 66] (fun a b i => ∃ (k A B : Nat), k ≤ n ∧ i = .int .i64 k ∧ a = .int .i64 A ∧ b = .int .i64 B ∧ A ≤ k ∧ B ≤ k ∧ (∀ y ∈ xs.take k, Ieee.key y = Ieee.key lo → 1 ≤ A) ∧ (∀ y ∈ xs.take k, Ieee.key y = Ieee.key hi → 1 ≤ B)) (fun _ _ i => n - (intOf i).toNat)
      case atStart => exact ⟨0, 0, 0, by omega, rfl, rfl, rfl, by omega, by omega, fun y hy => by simp at hy, fun y hy => by simp at hy⟩
      case round =>
        obtain ⟨k, A, B, hk, rfl, rfl, rfl, hA, hB, hia, hib⟩ := hrel
        have HA := hid hia
        have HB := hid hib
        clear hia hib
        by_cases hlt : k < n
        · obtain ⟨y, hy⟩ : ∃ x, xs[k]? = some x := ⟨_, List.getElem?_eq_getElem (by rw [hN.out]; exact hlt)⟩
          obtain ⟨g, off, rfl, hg, hc⟩ := H4.out.at_ k y hy
          have ho := round_ord hT.out HL.out HH.out (List.mem_of_getElem? hy)
          have hX := hid hy
          clear hy
          obtain ⟨⟨o1, d1⟩ | o1, ⟨o2, d2⟩ | o2⟩ := ho
          · have D1 := hid d1
            have D2 := hid d2
            clear d1 d2
            go_wp2_with fail
            go_round
            case rel => exact ⟨k + 1, A, B, by omega, by go_num, rfl, rfl, by omega, by omega, take_more hX.out HA.out (fun z => absurd z D1.out), take_more hX.out HB.out (fun z => absurd z D2.out)⟩
            case measure => simp [intOf]; omega
          · have D1 := hid d1
            clear d1
            go_wp2_with fail
            go_round
            case rel => exact ⟨k + 1, A, B + 1, by omega, by go_num, rfl, by go_num, by omega, by omega, take_more hX.out HA.out (fun z => absurd z D1.out), fun _ _ _ => by omega⟩
            case measure => simp [intOf]; omega
          · have D2 := hid d2
            clear d2
            go_wp2_with fail
            go_round
            case rel => exact ⟨k + 1, A + 1, B, by omega, by go_num, by go_num, rfl, by omega, by omega, fun _ _ _ => by omega, take_more hX.out HB.out (fun z => absurd z D2.out)⟩
            case measure => simp [intOf]; omega
          · go_wp2_with fail
            go_round
            case rel => exact ⟨k + 1, A + 1, B + 1, by omega, by go_num, by go_num, by go_num, by omega, by omega, fun _ _ _ => by omega, fun _ _ _ => by omega⟩
            case measure => simp [intOf]; omega
        · obtain rfl : k = n := by omega
          have a1 : 1 ≤ A := by
            obtain ⟨y, hy, e⟩ := HL.out.is
            exact HA.out y (by rw [← hN.out, List.take_length]; exact hy) e
          have b1 : 1 ≤ B := by
            obtain ⟨y, hy, e⟩ := HH.out.is
            exact HB.out y (by rw [← hN.out, List.take_length]; exact hy) e
          have za : ((A : Int) == 0) = false := by rw [beq_eq_false_iff_ne]; omega
          have zb : ((B : Int) == 0) = false := by rw [beq_eq_false_iff_ne]; omega
          first
            | (have hmv := HM.out
               have m1 := order_ge v lo hmv.real HL.out.real (by obtain ⟨x, hx, e⟩ := hmv.lo; exact Int.le_trans (HL.out.le x hx) e)
               have m2 := order_le v hi hmv.real HH.out.real (by obtain ⟨x, hx, e⟩ := hmv.hi; exact Int.le_trans e (HH.out.le x hx))
               have hq' := hq
               unfold InQ ford at hq'
               clear hmv
               obtain ⟨q1, q2⟩ := hq'
               rcases q1 with q1 | q1 <;> rcases q2 with q2 | q2 <;> rcases m1 with m1 | m1 <;> rcases m2 with m2 | m2
               all_goals
                 go_wp2_with fail
                 with_reducible refine Calls.mono (hW.out _) ?_
                 rintro e w5 ⟨rfl, hb5⟩
                 go_wp2_with fail
                 go_ret
                 exact ⟨rfl, B4.out.trans (hb5.mono B4.out.size)⟩)
            | (have hc := out_cases hq
               have hz : FloatKind.f64.format.order 0 0 = some .eq := by decide +kernel
               unfold ford at hc
               rcases hc with (h | h) | ⟨h | h, h' | h'⟩
               all_goals
                 go_wp2_with fail
                 with_reducible refine Calls.mono (hW.out _) ?_
                 rintro e w5 ⟨rfl, hb5⟩
                 go_wp2_with fail
                 go_ret
                 exact ⟨rfl, B4.out.trans (hb5.mono B4.out.size)⟩)
end Go.Proofs.Ythidjbobjjoekaa
