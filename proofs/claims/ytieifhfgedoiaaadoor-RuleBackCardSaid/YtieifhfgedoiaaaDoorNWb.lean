/- RuleBack: what is printed says the same. Conditions: those of each theorem. -/
import Derived.Test.YtieifhfgedoiaaaDoorNVb
import Derived.Test.YtieifhfgedoiaaaDoorNVs
namespace Go.Proofs.YtieifhfgedoiaaaDoor
open Go.RowKit Go.Lib
open Go.ChangeMaps
set_option linter.unusedVariables false
set_option linter.unusedSimpArgs false
attribute [local go_sem] ExtS.cell ExtS.froz upE_value upE_skip upE_enter Ext.cell Ext.froz
theorem snds_nil (w : World) (b : Nat) : SndsR w b (.slice none 0 0) [] := SndsAt.reads ⟨[], rfl, World.ownsRow_nil _ _ _ _, fun y hy => (by cases hy)⟩
set_option maxRecDepth 100000 in
set_option maxHeartbeats 8000000 in
theorem back7 (s t : ByteArray) (w : World) (m : Int) (hm : w.cell? ⟨0, 0, none⟩ = some (.int .i64 m)) :
    Calls Tryd.prog 7 #[.string s, .string t] w fun e w' => e = .returned (.bool true) ∧ Below w.heap.size w w' := by
  have h0 : 0 < w.heap.size := World.block_lt_of_cell? w _ hm
  have hW := hid (wakes11 w m hm)
  have hL := hid (fun W => long12 s W)
  have hR := hid (fun W (hb : Below w.heap.size w W) (hs : s.size ≤ 8000) => read13 s (by omega) W m (by rw [hb.cell (p := ⟨0, 0, none⟩) h0]; exact hm))
  have hRT := hid (fun W (hb : Below w.heap.size w W) (u : ByteArray) (hu : u.size ≤ 65536) => read_text u W hu m (by rw [hb.cell (p := ⟨0, 0, none⟩) h0]; exact hm))
  clear hm
  go_enter Tryd.func7, Tryd.ntmps7
  go_wp2_with fail
  go_at_call 11
  with_reducible refine Calls.mono (hW.out) ?_
  rintro e w1 ⟨rfl, hb1⟩
  skip
  have hb1H := hid hb1
  clear hb1 hW
  by_cases hlong : 8000 < s.size
  · have q1 : decide ((8000 : Int) < s.size) = true := decide_eq_true (by omega)
    have q2 : decide (8000 < s.size) = true := decide_eq_true hlong
    clear hR
    go_wp2_with (go_at_call 12; (with_reducible refine Calls.mono (hL.out _) ?_); rintro e w2 ⟨rfl, rfl⟩)
    go_ret
    exact ⟨rfl, hb1H.out⟩
  have q1 : decide ((8000 : Int) < s.size) = false := decide_eq_false (by omega)
  have q2 : decide (8000 < s.size) = false := decide_eq_false hlong
  have hR2 := hid (hR.out _ hb1H.out (by omega))
  clear hR
  by_cases hlt : 1000 < t.size
  · have q3 : decide ((1000 : Int) < t.size) = true := decide_eq_true (by omega)
    have q4 : decide (1000 < t.size) = true := decide_eq_true hlt
    clear hR2
    go_wp2_with (go_at_call 12; (with_reducible refine Calls.mono (hL.out _) ?_); rintro e w2 ⟨rfl, rfl⟩)
    go_ret
    exact ⟨rfl, hb1H.out⟩
  have q3 : decide ((1000 : Int) < t.size) = false := decide_eq_false (by omega)
  have q4 : decide (1000 < t.size) = false := decide_eq_false hlt
  obtain ⟨o, ho⟩ : ∃ o, linesR Rs.empty 0 (linesB s) = o := ⟨_, rfl⟩
  rw [ho] at hR2
  have HO := hid ho
  clear ho
  go_wp2_with (go_at_call 12; (with_reducible refine Calls.mono (hL.out _) ?_); rintro e w2 ⟨rfl, rfl⟩)
  cases o with
  | bad er q =>
    go_at_call 13
    with_reducible refine Calls.mono (hR2.out) ?_
    rintro e w3 ⟨⟨c, rfl, hV1⟩, hb3⟩
    skip
    have hi31 : (Tryd.prog.info? 31).map (·.size) = some c.size := by rw [hV1.1]; kernel_rfl
    have hb3H := hid hb3
    clear hb3 hR2
    go_wp2_with (refine wpList_store_row rfl 31 _ _ rfl w3.heap.size c rfl rfl 31 Tryd.zeroCells31 (heap_alloc_new _ _) hi31 (by rw [hV1.1]; kernel_rfl) hV1.2 ?_)
    have hBR := hid (setRow_but (w3.alloc (.cells Tryd.zeroCells31 31)) w3.heap.size c)
    have hbA : Below w3.heap.size w3 (w3.alloc (.cells Tryd.zeroCells31 31)) := (Below.refl _ _).alloc (Nat.le_refl _) _
    have hB3 := hid (hbA.trans (hBR.out.below (fun k hk => by rw [List.mem_singleton] at hk; omega) hbA.size))
    go_ret
    exact ⟨rfl, bnext (bnext hb1H.out hb3H.out) hB3.out⟩
  | ok y =>
    have gy := hid (linesR_good HO.out empty_good)
    go_at_call 13
    with_reducible refine Calls.mono (hR2.out) ?_
    rintro e w3 ⟨⟨X, c, rfl, hP, hV, hn⟩, hb3⟩
    skip
    have hV1 := hV.one
    have hi31 : (Tryd.prog.info? 31).map (·.size) = some c.size := by rw [hV1.1]; kernel_rfl
    have hb3H := hid hb3
    have hPH := hid hP
    have hVH := hid hV
    clear hb3 hR2 hP hV
    go_wp2_with (first | refine wpList_store_row rfl 31 _ _ rfl w3.heap.size c rfl rfl 31 Tryd.zeroCells31 (heap_alloc_new _ _) hi31 (by rw [hV1.1]; kernel_rfl) hV1.2 ?_)
    have hBR := hid (setRow_but (w3.alloc (.cells Tryd.zeroCells31 31)) w3.heap.size c)
    have hk4 := hid (setRow_heap _ w3.heap.size Tryd.zeroCells31 c 31 _ (heap_alloc_new w3 (.cells Tryd.zeroCells31 31)))
    have hbA : Below w3.heap.size w3 (w3.alloc (.cells Tryd.zeroCells31 31)) := (Below.refl _ _).alloc (Nat.le_refl _) _
    have hB3 := hid (hbA.trans (hBR.out.below (fun k hk => by rw [List.mem_singleton] at hk; omega) hbA.size))
    have hb4 := hid (bnext (bnext hb1H.out hb3H.out) hB3.out)
    have hP4 := hid (hPH.out.low hB3.out)
    have hV4 := hid (hVH.out.low hB3.out)
    clear hbA hBR hB3 hb3H hPH hVH hb1H
    generalize (w3.alloc (.cells Tryd.zeroCells31 31)).setRow w3.heap.size c = W4 at *
    generalize w3.heap.size = T at *
    have hts : t.size ≤ 1000 := by omega
    have hss : s.size ≤ 8000 := by omega
    have hPl : Hid ((printL y).length ≤ 100000000) := hid (by have := print_len HO.out; omega)
    have hBk := hid (back_ok HO.out hn)
    have hsz : (⟨(printL y).toArray⟩ : ByteArray).size ≤ 65536 := by
      have := print_len HO.out
      show (printL y).toArray.size ≤ _
      rw [List.size_toArray]
      omega
    clear hk4 hV4 hV1 hi31
    go_wp2_with fail
    go_at_call 15
    with_reducible refine Calls.mono ((print15 hP4.out hPl.out hn)) ?_
    rintro e w5 ⟨rfl, hb5⟩
    skip
    have hP5 := hid (hP4.out.low hb5)
    have HB5 := hid (bnext hb4.out hb5)
    have hpr := hid (fun (W : World) (Y b : Nat) (h : PAt W Y b y) => print15 h hPl.out hn)
    generalize (⟨(printL y).toArray⟩ : ByteArray) = pt at *
    have hT := hid (hRT.out _ HB5.out pt hsz)
    rw [hBk.out] at hT
    clear hP4 hb4 hb5 hRT hBk
    go_wp2_with fail
    go_at_call 27
    with_reducible refine Calls.mono (hT.out) ?_
    rintro e w6 ⟨⟨X2, rfl, hP6⟩, hb6⟩
    skip
    have hQ6 := hid (show PAt w6 X2 w5.heap.size y from ⟨hP6⟩)
    have hP6 := hid (hP5.out.low hb6)
    have HB6 := hid (bnext HB5.out hb6)
    clear hP5 HB5 hT hb6
    go_wp2_with fail
    have hbA : Below w6.heap.size w6 (w6.alloc (.cells #[.int .i64 0, .int .i64 0] 68)) := (Below.refl _ _).alloc (Nat.le_refl _) _
    have hP7 := hid (hP6.out.low hbA)
    have hQ7 := hid (hQ6.out.low hbA)
    have HB7 := hid (bnext HB6.out hbA)
    clear hP6 hQ6 HB6 hbA
    generalize w6.alloc (.cells #[.int .i64 0, .int .i64 0] 68) = W7 at *
    go_at_call 15
    with_reducible refine Calls.mono ((hpr.out _ _ _ hQ7.out)) ?_
    rintro e w8 ⟨rfl, hb8⟩
    skip
    have hP8 := hid (hP7.out.low hb8)
    have hQ8 := hid (hQ7.out.low hb8)
    have HB8 := hid (bnext HB7.out hb8)
    clear hP7 hQ7 HB7 hb8
    go_wp2_with fail
    go_at_call 15
    with_reducible refine Calls.mono ((hpr.out _ _ _ hP8.out)) ?_
    rintro e w9 ⟨rfl, hb9⟩
    skip
    have hP9 := hid (hP8.out.low hb9)
    have hQ9 := hid (hQ8.out.low hb9)
    have HB9 := hid (bnext HB8.out hb9)
    clear hP8 hQ8 HB8 hb9 hpr
    go_wp2_with fail
    go_at_call 14
    with_reducible refine Calls.mono ((len14 hQ9.out)) ?_
    rintro e wA ⟨rfl, rfl⟩
    skip
    go_wp2_with fail
    go_at_call 14
    with_reducible refine Calls.mono ((len14 hP9.out)) ?_
    rintro e wB ⟨rfl, rfl⟩
    skip
    have hS := hid (sounds23 hP9.out gy.out hn t (by omega))
    have hS2 := hid (fun W (hb : Below w9.heap.size w9 W) => sounds23 (hQ9.out.low hb) gy.out hn t (by omega))
    obtain ⟨o2, ho2⟩ : ∃ o2, soundsR y t = o2 := ⟨_, rfl⟩
    rw [ho2] at hS hS2
    clear hP9 hQ9
    go_wp2_with fail
    go_at_call 23
    with_reducible refine Calls.mono (hS.out) ?_
    rintro e wC ⟨hpC, hbC⟩
    skip
    cases o2 with
    | none =>
      have h6 : e = .returned (.tuple #[.slice none 0 0, .int .i64 3]) := hpC
      subst h6
      have HBC := hid hbC
      have HB10 := hid (bnext HB9.out hbC)
      clear hpC hbC hS HB9
      go_wp2_with fail
      go_at_call 23
      with_reducible refine Calls.mono (hS2.out _ HBC.out) ?_
      rintro e wD ⟨hpD, hbD⟩
      skip
      have h7 : e = .returned (.tuple #[.slice none 0 0, .int .i64 3]) := hpD
      subst h7
      have HB11 := hid (bnext HB10.out hbD)
      have hA := hid (alike25 (w := wD) (b1 := 0) (b2 := 0) (p1 := none) (p2 := none) (c1 := 0) (c2 := 0) [] (snds_nil _ _) (snds_nil _ _) (by simp) (fun z hz => by cases hz))
      clear hpD hbD hS2 HB10 HBC
      go_wp2_with fail
      go_at_call 25
      with_reducible refine Calls.mono (hA.out) ?_
      rintro e wE ⟨rfl, m1, rfl⟩
      skip
      go_wp2_with fail
      go_ret
      exact ⟨rfl, bel_dr HB11.out m1⟩
    | some l =>
      obtain ⟨vl, he, hSn⟩ := (show ∃ v, e = .returned (.tuple #[v, .int .i64 0]) ∧ SndsAt wC w9.heap.size v l from hpC)
      subst he
      obtain ⟨pl, cl, rfl⟩ : ∃ pv cv, vl = .slice pv l.length cv := by obtain ⟨Vs, _, g2, _⟩ := hSn; exact own_shape g2
      have hmany := sounds_many ho2
      have hlen := sounds_len gy.out ho2
      have hphl : Hid (∀ z ∈ l, z.ph.length ≤ 100000000) := hid (fun z hz => by
        obtain ⟨i, hi, rfl⟩ := List.mem_iff_getElem.1 hz
        have h1 := manyN_take l (i + 1)
        rw [← allP_len, allP_take (List.getElem?_eq_getElem hi), List.length_append] at h1
        omega)
      have HR := hid hSn.reads
      have HBC := hid hbC
      have HB10 := hid (bnext HB9.out hbC)
      clear hpC hSn hbC hS HB9
      go_wp2_with fail
      go_at_call 23
      with_reducible refine Calls.mono (hS2.out _ HBC.out) ?_
      rintro e wD ⟨hpD, hbD⟩
      skip
      obtain ⟨v2, he2, hSd⟩ := (show ∃ v, e = .returned (.tuple #[v, .int .i64 0]) ∧ SndsAt wD wC.heap.size v l from hpD)
      subst he2
      obtain ⟨p2, c2, rfl⟩ : ∃ pv cv, v2 = .slice pv l.length cv := by obtain ⟨Vs, _, g2, _⟩ := hSd; exact own_shape g2
      have HB11 := hid (bnext HB10.out hbD)
      have hA := hid (alike25 (w := wD) (p1 := pl) (p2 := p2) (c1 := cl) (c2 := c2) l (HR.out.low hbD) hSd.reads (by omega) hphl.out)
      clear hpD hSd hbD hS2 HB10 HBC HR
      go_wp2_with fail
      go_at_call 25
      with_reducible refine Calls.mono (hA.out) ?_
      rintro e wE ⟨rfl, m1, rfl⟩
      skip
      go_wp2_with fail
      go_ret
      exact ⟨rfl, bel_dr HB11.out m1⟩
end Go.Proofs.YtieifhfgedoiaaaDoor
