/- CountLists walked. Conditions: the numbers take no more room than slices may. -/
import Derived.Test.YthidjbobjjoekaaTaI
import Derived.Test.YthidjbobjjoekaaCoT
import Derived.Test.YthidjbobjjoekaaCoU
import Derived.Test.YthidjbobjjoekaaCoV
namespace Go.Proofs.Ythidjbobjjoekaa
open Go.RowKit Go.Lib Go.Sort Go.Shelf
set_option linter.unusedVariables false
set_option linter.unusedSimpArgs false
set_option maxHeartbeats 2000000
open Ieee (infR ONE)
/-- the first n of a row that is owned -/
theorem floats_row {w0 w : World} {g cap n : Nat} {xs : List Nat} {r : List Value} (h : w.ownsRow w0.heap.size 22 1 (.slice (some ⟨g, 0, none⟩) (n + 1) cap) (n + 1) (xs.map encF ++ r)) (hl : xs.length = n) (hb : ∀ x ∈ xs, x < 18446744073709551616) : FloatsIn w (some ⟨g, 0, none⟩) xs := by
  refine ⟨fun k x hx => ⟨g, 0, rfl, (h.lt g rfl).2, ?_⟩, hb⟩
  have hk := (List.getElem?_eq_some_iff.1 hx).1
  rw [Nat.zero_add, h.cellAt k (by omega), List.getElem?_append_left (by simpa using hk), List.getElem?_map, hx]
  rfl
theorem ints_row {w0 : Nat} {w : World} {g n : Nat} {ns : List Int} (h : w.ownsRow w0 3 1 (.slice (some ⟨g, 0, none⟩) n n) n (ns.map (Value.int .i64))) (hl : ns.length = n) : g < w.heap.size ∧ IntsIn w (some ⟨g, 0, none⟩) ns := by
  refine ⟨(h.lt g rfl).2, fun k x hx => ⟨g, 0, rfl, ?_⟩⟩
  have hk := (List.getElem?_eq_some_iff.1 hx).1
  rw [Nat.zero_add, h.cellAt k (by omega), List.getElem?_map, hx]
  rfl
theorem ints_low {w w' : World} {g : Nat} {ns : List Int} (h : IntsIn w (some ⟨g, 0, none⟩) ns) (hg : g < w.heap.size) (hb : Below w.heap.size w w') : IntsIn w' (some ⟨g, 0, none⟩) ns := fun k x hx => by
  obtain ⟨g', off, e, hc⟩ := h k x hx
  cases e
  exact ⟨g, 0, rfl, (World.cell?_of_block (a := ⟨g, 0 + k, none⟩) (hb.block g hg)).trans hc⟩
theorem binsC_len (es xs : List Nat) : (binsC es xs).length = es.length + 2 := by
  unfold binsC
  have : ∀ (l : List Nat) (cs : List Int), (l.foldl (fun cs x => bump cs (binI es x)) cs).length = cs.length := by
    intro l
    induction l with
    | nil => intro cs; rfl
    | cons x r ih => intro cs; rw [List.foldl_cons, ih]; unfold bump; rw [List.length_set]
  rw [this, List.length_replicate]
set_option maxRecDepth 100000 in
theorem lists_walk (w : World) (p p' : Option Addr) (c c' : Nat) (xs es : List Nat) (q : Nat) (hx : FloatsIn w p xs) (he : FloatsIn w p' es) (hl : xs.length * 8 + 8 ≤ 140737488355328) (hl' : es.length * 8 + 8 ≤ 140737488355328) :
    Calls Try.prog 7 #[.slice p xs.length c, .slice p' es.length c', .float .f64 q] w fun e w' => e = .returned (.bool true) ∧ Below w.heap.size w w' := by
  obtain ⟨i0, hi, hz0, hz1, hz2⟩ := info_parts infoF
  have hW := hid works_any
  have X := hid hx
  have E := hid he
  clear hx he
  have hcl := hid (fun W hF => clone_own W p c xs hF (by omega))
  have hcl' := hid (fun W hF => clone_own W p' c' es hF (by omega))
  have hqb := quant_both xs q (by omega)
  obtain ⟨QE, qi, qf, hfp, hff, hq1, hq2⟩ := hqb
  have Q1 := hid hq1
  have Q2 := hid hq2
  have QFP := hid hfp
  have QFF := hid hff
  clear hq1 hq2 hfp hff
  have S29 := hid (fun W p1 p2 c1 c2 h1 h2 => bins29 W p1 p2 c1 c2 xs es h1 h2 (by omega) (by omega))
  have S30 := hid (fun W p1 p2 c1 c2 h1 h2 => bins30 W p1 p2 c1 c2 xs es h1 h2 (by omega) (by omega))
  have S31 := hid (fun W p1 p2 c1 c2 h1 h2 => slope31 W p1 p2 c1 c2 xs es h1 h2 (by omega) (by omega))
  have S32 := hid (fun W p1 p2 c1 c2 h1 h2 => slope32 W p1 p2 c1 c2 xs es h1 h2 (by omega) (by omega))
  have M24 := hid (fun W p1 c1 h1 => mean24 W p1 c1 xs h1 (by omega))
  have M34 := hid (fun W p1 c1 h1 => mean34 W p1 c1 xs h1 (by omega))
  have D25 := hid (fun W p1 c1 h1 => spread25 W p1 c1 xs h1 (by omega))
  have D35 := hid (fun W p1 c1 h1 => spread35 W p1 c1 xs h1 (by omega))
  have EF1 := hid (fun W p1 p2 c1 c2 h1 h2 => equal_floats W p1 p2 c1 c2 xs h1 h2 (by omega))
  have EF2 := hid (fun W p1 p2 c1 c2 h1 h2 => equal_floats W p1 p2 c1 c2 es h1 h2 (by omega))
  generalize hn : xs.length = n at *
  have hN := hid hn
  clear hn
  generalize hm : es.length = m at *
  have hM := hid hm
  clear hm
  go_enter Try.func7, Try.ntmps7
  go_wp2_with fail
  with_reducible refine Calls.mono (hW.out _) ?_
  rintro e w1 ⟨rfl, hb1⟩
  have B1 := hid hb1
  clear hb1
  go_wp2_with fail
  with_reducible refine Calls.mono (hcl.out _ (X.out.low (Nat.le_refl _) B1.out)) ?_
  rintro e w2 ⟨v2, rfl, ho2, hb2⟩
  have O2 := hid ho2
  have B2 := hid (B1.out.trans (hb2.mono B1.out.size))
  have hs2 := hb2.size
  clear ho2 hb2
  go_wp2_with (first | (at_builtin; refine wpList_append_own _ rfl (.tmp 24) (.tmp 25) 41 rfl w1.heap.size 22 i0 _ 1 8 Try.underlying41 hi hz0 hz1 hz2 rfl (by decide) _ n (xs.map encF) rfl (O2.out.alloc _) ⟨w2.heap.size, 0, none⟩ 1 1 [.float .f64 4619567317775286272] rfl rfl (cells_new1 _ _ _) (by intro u hu; simp at hu; subst hu; rfl) (by unfold maxLen; omega) (by omega) (by simp; omega) ?_; refine stop_here ?_) | fail)
  refine hid ?_
  intro v3 w3 hown3 hgrow3 hnil3
  have B3 := hid (Below.grown (Below.alloc B2.out B2.out.size (.cells #[.float .f64 4619567317775286272] 22)) hgrow3 (by have := B2.out.size; simp; omega) (fun j e => Nat.le_trans B1.out.size (O2.out.lt j e).1))
  rcases hown3.2 with ⟨_, h0⟩ | ⟨g, cap, cur, hv, _⟩
  · omega
  subst hv
  have F3 := hid (floats_row hown3 hN.out X.out.bits)
  have hg3 : w.heap.size ≤ g := Nat.le_trans B1.out.size (hown3.lt g rfl).1
  clear hown3 hgrow3 hnil3 O2 B1 B2
  go_wp2_with fail
  with_reducible refine Calls.mono (hcl'.out _ (E.out.low (Nat.le_refl _) B3.out)) ?_
  rintro e w4 ⟨v4, rfl, ho4, hb4⟩
  have O4 := hid ho4
  have B4 := hid (B3.out.trans (hb4.mono B3.out.size))
  have hs4 := hb4.size
  have HB4 := hid hb4
  clear ho4 hb4
  go_wp2_with (first | (at_builtin; refine wpList_append_own _ rfl (.tmp 31) (.tmp 32) 41 rfl w3.heap.size 22 i0 _ 1 8 Try.underlying41 hi hz0 hz1 hz2 rfl (by decide) _ m (es.map encF) rfl (O4.out.alloc _) ⟨w4.heap.size, 0, none⟩ 1 1 [.float .f64 4619567317775286272] rfl rfl (cells_new1 _ _ _) (by intro u hu; simp at hu; subst hu; rfl) (by unfold maxLen; omega) (by omega) (by simp; omega) ?_; refine stop_here ?_) | fail)
  refine hid ?_
  intro v5 w5 hown5 hgrow5 hnil5
  have B45 := hid (Below.grown (Below.alloc (Below.refl w3.heap.size w4) hs4 (.cells #[.float .f64 4619567317775286272] 22)) hgrow5 (by simp; omega) (fun j e => (O4.out.lt j e).1))
  have B5 := hid (B4.out.trans (B45.out.mono B3.out.size))
  rcases hown5.2 with ⟨_, h0⟩ | ⟨g', cap', cur', hv, _⟩
  · omega
  subst hv
  have F5 := hid (floats_row hown5 hM.out E.out.bits)
  have FX := hid (F3.out.low (Nat.le_refl _) (HB4.out.trans B45.out))
  clear hown5 hgrow5 hnil5 O4 F3 HB4 B45 B3 B4
  go_wp2_with fail
  with_reducible refine Calls.mono (Q1.out _ _ _ FX.out) ?_
  rintro e w6 ⟨hb6, x1, rfl, hx1⟩
  have HX1 := hid hx1
  have B6 := hid (B5.out.trans (hb6.mono B5.out.size))
  have FX6 := hid (FX.out.low (Nat.le_refl _) hb6)
  have F6 := hid (F5.out.low (Nat.le_refl _) hb6)
  clear hx1 hb6 FX F5
  go_wp2_with fail
  with_reducible refine Calls.mono (Q2.out _ _ _ (X.out.low (Nat.le_refl _) B6.out)) ?_
  rintro e w7 ⟨hb7, y1, rfl, hy1⟩
  have HY1 := hid hy1
  have B7 := hid (B6.out.trans (hb7.mono B6.out.size))
  have FX7 := hid (FX6.out.low (Nat.le_refl _) hb7)
  have F7 := hid (F6.out.low (Nat.le_refl _) hb7)
  clear hy1 hb7 FX6 F6
  go_wp2_with fail
  with_reducible refine Calls.mono (S29.out _ _ _ _ _ FX7.out F7.out) ?_
  rintro e w8 ⟨hb8, hr8⟩
  have B8 := hid (B7.out.trans (hb8.mono B7.out.size))
  have FX8 := hid (FX7.out.low (Nat.le_refl _) hb8)
  have F8 := hid (F7.out.low (Nat.le_refl _) hb8)
  have h78 := hb8.size
  clear hb8 FX7 F7
  rcases hr8 with ⟨ok8, rfl⟩ | ⟨ok8, gb, rfl, hob⟩
  all_goals
    have OK8 := hid ok8
    clear ok8
    go_wp2_with fail
    with_reducible refine Calls.mono (S30.out _ _ _ _ _ (X.out.low (Nat.le_refl _) B8.out) (E.out.low (Nat.le_refl _) B8.out)) ?_
    rintro e w9 ⟨hb9, hr9⟩
    have B9 := hid (B8.out.trans (hb9.mono B8.out.size))
    have FX9 := hid (FX8.out.low (Nat.le_refl _) hb9)
    have F9 := hid (F8.out.low (Nat.le_refl _) hb9)
    have H9 := hid hb9
    clear hb9
    rcases hr9 with ⟨ok9, rfl⟩ | ⟨ok9, gc, rfl, hoc⟩
    all_goals
      first
        | exact absurd OK8.out ok9
        | exact absurd ok9 OK8.out
        | skip
  all_goals
    go_wp2_with fail
    with_reducible refine Calls.mono (S31.out _ _ _ _ _ FX9.out F9.out) ?_
    rintro e w10 ⟨s1, q10, rfl, hs1, rfl⟩
    have HS1 := hid hs1
    clear hs1
    go_wp2_with fail
    with_reducible refine Calls.mono (S32.out _ _ _ _ _ ((X.out.low (Nat.le_refl _) B9.out).drewN _) ((E.out.low (Nat.le_refl _) B9.out).drewN _)) ?_
    rintro e w11 ⟨s2, q11, rfl, hs2, rfl⟩
    have HS2 := hid hs2
    clear hs2
    go_wp2_with fail
    with_reducible refine Calls.mono (same_cl x1 y1 (HX1.out.same HY1.out X.out.bits QFP.out QFF.out) _) ?_
    rintro e w12 ⟨rfl, rfl⟩
    go_wp2_with fail
  all_goals
    first
      | (have hq0 := fun W => equal_ints W none none 0 0 [] (fun k x hx => by simp at hx) (fun k x hx => by simp at hx) (by decide)
         rw [List.length_nil] at hq0
         with_reducible refine Calls.mono (hq0 _) ?_
         clear hq0)
      | (have hbl : (binsC es xs).length = m + 2 := by rw [binsC_len, hM.out]
         have hi1 := ints_row hob hbl
         have hi2 := ints_row hoc hbl
         have hq := fun q => equal_ints (w9.drewN q) (some ⟨gb, 0, none⟩) (some ⟨gc, 0, none⟩) (m + 2) (m + 2) (binsC es xs) (ints_low hi1.2 hi1.1 (below_drewN H9.out q)) hi2.2 (by omega)
         rw [hbl] at hq
         with_reducible refine Calls.mono (hq _) ?_
         clear hq hi1 hi2)
    rintro e w13 ⟨rfl, q13, rfl⟩
    go_wp2_with fail
    with_reducible refine Calls.mono (same_cl s1 s2 (by rw [HS1.out, HS2.out]) _) ?_
    rintro e w14 ⟨rfl, rfl⟩
    go_wp2_with fail
    have XX := hid (fun q => (X.out.low (Nat.le_refl _) B9.out).drewN q)
    have EE := hid (fun q => (E.out.low (Nat.le_refl _) B9.out).drewN q)
    with_reducible refine Calls.mono (M24.out _ _ _ (FX9.out.drewN _)) ?_
    rintro e w15 ⟨a1, q15, rfl, ha1, rfl⟩
    have HA1 := hid ha1
    clear ha1
    go_wp2_with fail
    with_reducible refine Calls.mono (M34.out _ _ _ (XX.out _)) ?_
    rintro e w16 ⟨a2, q16, rfl, ha2, rfl⟩
    have HA2 := hid ha2
    clear ha2
    go_wp2_with fail
    with_reducible refine Calls.mono (same_cl a1 a2 (by rw [HA1.out, HA2.out]) _) ?_
    rintro e w17 ⟨rfl, rfl⟩
    go_wp2_with fail
    with_reducible refine Calls.mono (D25.out _ _ _ (FX9.out.drewN _)) ?_
    rintro e w18 ⟨d1, q18, rfl, hd1, rfl⟩
    have HD1 := hid hd1
    clear hd1
    go_wp2_with fail
    with_reducible refine Calls.mono (D35.out _ _ _ (XX.out _)) ?_
    rintro e w19 ⟨d2, q19, rfl, hd2, rfl⟩
    have HD2 := hid hd2
    clear hd2
    go_wp2_with fail
    with_reducible refine Calls.mono (same_cl d1 d2 (by rw [HD1.out, HD2.out]) _) ?_
    rintro e w20 ⟨rfl, rfl⟩
    go_wp2_with fail
    with_reducible refine Calls.mono (EF1.out _ _ _ _ _ (FX9.out.drewN _) (XX.out _)) ?_
    rintro e w21 ⟨rfl, rfl⟩
    go_wp2_with fail
    with_reducible refine Calls.mono (EF2.out _ _ _ _ _ (F9.out.drewN _) (EE.out _)) ?_
    rintro e w22 ⟨rfl, rfl⟩
    go_wp2_with fail
    with_reducible refine Calls.mono (hW.out _) ?_
    rintro e w23 ⟨rfl, hb23⟩
    go_wp2_with fail
    go_ret
    exact ⟨rfl, (below_drewN B9.out _).trans (hb23.mono B9.out.size)⟩
end Go.Proofs.Ythidjbobjjoekaa
