/- RuleAlive: without the rules that are dead every word sounds alike. Conditions: those of each theorem. -/
import Derived.Test.YtieifhfgedoiaaaDoorNVj
import Derived.Test.YtieifhfgedoiaaaDoorNVp
import Derived.Lib.AppendStr
import Derived.Lib.BufferRead
namespace Go.Proofs.YtieifhfgedoiaaaDoor
open Go.RowKit Go.Lib
set_option linter.unusedVariables false
set_option linter.unusedSimpArgs false
theorem aliveL_rul (d : Nat → Bool) : ∀ (L : List Rl) (n : Nat), (rulL (aliveL d L n)).length ≤ (rulL L).length
 | [], n => Nat.le_refl _
 | u :: r, n => by
  have h := aliveL_rul d r (n + 1)
  have e : ∀ (v : Rl) (M : List Rl), rulL (v :: M) = (v.line.data.toList ++ [10]) ++ rulL M := fun v M => by unfold rulL; rw [List.flatMap_cons]
  unfold aliveL
  rw [e, List.length_append]
  split
  · omega
  · rw [e, List.length_append]
    omega
/-- the text without the dead rules says the rules without them -/
theorem alive_ok {s t : ByteArray} {y : Rs} (h : linesR Rs.empty 0 (linesB s) = .ok y) (hn : y.rules.length ≤ 256) (ht : t.data.toList = headL y 26 ++ rulL (aliveR y).rules) : linesR Rs.empty 0 (linesB t) = .ok (aliveR y) := by
 have hl := alive_len (x := y) y.rules.length (Nat.le_refl _)
 rw [List.take_length] at hl
 refine again_ok (text_again h) (linesR_good h empty_good) _ (fun u hu => aliveL_sub hu) (by omega) ?_
 rw [ht, joinL_app, head_join, rul_join]
 rfl
theorem alive_size {s : ByteArray} {y : Rs} (h : linesR Rs.empty 0 (linesB s) = .ok y) (i : Nat) : (headL y 26 ++ rulL (aliveL (deadB y) (y.rules.take i) 0)).length ≤ s.size + 1 := by
 have h1 := print_len h
 have h2 := aliveL_rul (deadB y) (y.rules.take i) 0
 have h3 := rulL_le y.rules i
 unfold printL at h1
 rw [List.length_append] at h1 ⊢
 omega
end Go.Proofs.YtieifhfgedoiaaaDoor
namespace Go.Proofs.YtieifhfgedoiaaaDoor
open Go.RowKit Go.Lib
open Go.ChangeMaps
set_option linter.unusedVariables false
set_option linter.unusedSimpArgs false
attribute [local go_sem] ExtS.cell ExtS.froz upE_value upE_skip upE_enter Ext.cell Ext.froz
theorem drows_line {w : World} {base n cv : Nat} {pv : Option Addr} {L : List Rl} (h : DRows w base (.slice pv n cv) L) {j : Nat} {u : Rl} (hj : L[j]? = some u) : ∃ g, pv = some ⟨g, 0, none⟩ ∧ w.cell? ⟨g, j * 7, none⟩ = some (.string u.line) := by
  obtain ⟨Vs, g1, g2, g3⟩ := h
  have hl : L.length ≠ 0 := by have := (List.getElem?_eq_some_iff.1 hj).1; omega
  obtain ⟨m, hm⟩ : ∃ m, L.length = m + 1 := ⟨L.length - 1, by omega⟩
  rw [hm] at g2
  obtain ⟨g, cap, hg⟩ := own_block g2
  cases hg
  refine ⟨g, rfl, ?_⟩
  have hV : ∃ y, Vs[j]? = some y ∧ y.1 = u := by
    rw [← g1, List.getElem?_map] at hj
    cases hv : Vs[j]? with
    | none => rw [hv] at hj; cases hj
    | some y => rw [hv] at hj; exact ⟨y, rfl, by simpa using hj⟩
  obtain ⟨y, hy, rfl⟩ := hV
  exact own_cell (j := j * 7) g2 (flatE_get (fun y : Rl × RlV => Rl.dcells y.1 y.2) 7 (fun _ => rfl) Vs j y hy 0 _ rfl)
theorem nl_cells2 (s : ByteArray) : strCells (s ++ ⟨#[10]⟩) = byteCells (s.data.toList ++ [10]) := by
  rw [strCells_eq]
  congr 1
theorem byteCells_app (a b : List UInt8) : byteCells (a ++ b) = byteCells a ++ byteCells b := by unfold byteCells; rw [List.map_append]
theorem info5 : (Tryd.prog.info? 5).map (fun i => (i.zero, i.size, i.bytes)) = some (some (.int .u8 0), 1, 1) := by kernel_rfl
/-- bytes of one's own, as a string -/
theorem own_convert {w : World} {base n : Nat} {v : Value} {l : List UInt8} (h : w.ownsRow base 5 1 v n (byteCells l)) (hn : n = l.length) : (convert 77 9 v).run Tryd.prog w = .ok (.string ⟨l.toArray⟩) w := by
  have hu : Tryd.prog.underlying 5 = some (.int .u8) := Tryd.underlying5
  rcases h.2 with ⟨rfl, hx⟩ | ⟨g, cap, cur, rfl, h2, h3, h4, h5, h6, h7⟩
  · have hl : l = [] := List.length_eq_zero_iff.1 (by omega)
    subst hl
    exact run_convert_nil_bytes w 77 9 5 0 Tryd.underlying77 hu Tryd.underlying9
  · subst hn
    exact run_convert_bytes_back w 77 9 5 ⟨g, 0, none⟩ cap l Tryd.underlying77 hu Tryd.underlying9 (bytes_of_row h3 (by rw [Nat.mul_one] at h7; exact h7))
theorem alive_phs {y : Rs} {t : ByteArray} : (soundsR y t = none ∧ soundsR (aliveR y) t = none) ∨ ∃ l l', soundsR y t = some l ∧ soundsR (aliveR y) t = some l' ∧ allP l' = allP l := by
  have h := alive_sounds y t
  cases h1 : soundsR y t with
  | none =>
    rw [h1] at h
    cases h2 : soundsR (aliveR y) t with
    | none => exact .inl ⟨rfl, rfl⟩
    | some l => rw [h2] at h; cases h
  | some l =>
    rw [h1] at h
    cases h2 : soundsR (aliveR y) t with
    | none => rw [h2] at h; cases h
    | some l' =>
      rw [h2] at h
      injection h with h
      exact .inr ⟨l, l', rfl, rfl, h⟩
set_option maxRecDepth 100000 in
set_option maxHeartbeats 8000000 in
theorem alive9 (s t : ByteArray) (w : World) (m : Int) (hm : w.cell? ⟨0, 0, none⟩ = some (.int .i64 m)) :
    Calls Tryd.prog 9 #[.string s, .string t] w fun e w' => e = .returned (.bool true) ∧ Below w.heap.size w w' := by
  have h0 : 0 < w.heap.size := World.block_lt_of_cell? w _ hm
  have hW := hid (wakes11 w m hm)
  have hL := hid (fun W => long12 s W)
  have hR := hid (fun W (hb : Below w.heap.size w W) (hs : s.size ≤ 8000) => read13 s (by omega) W m (by rw [hb.cell (p := ⟨0, 0, none⟩) h0]; exact hm))
  have hRT := hid (fun W (hb : Below w.heap.size w W) (u : ByteArray) (hu : u.size ≤ 65536) => read_text u W hu m (by rw [hb.cell (p := ⟨0, 0, none⟩) h0]; exact hm))
  clear hm
  go_enter Tryd.func9, Tryd.ntmps9
  go_wp2_with fail
  go_at_call 11
  with_reducible refine Calls.mono (hW.out) ?_
  rintro e w1 ⟨rfl, hb1⟩
  skip
  have hb1H := hid hb1
  clear hb1 hW
  by_cases hlong : 8000 < s.size
  · have q1 : decide ((8000 : Int) < s.size) = true := decide_eq_true (by omega)
    have q2 : decide (8000 < s.size) = true := decide_eq_true hlong
    clear hR
    go_wp2_with (go_at_call 12; (with_reducible refine Calls.mono (hL.out _) ?_); rintro e w2 ⟨rfl, rfl⟩)
    go_ret
    exact ⟨rfl, hb1H.out⟩
  have q1 : decide ((8000 : Int) < s.size) = false := decide_eq_false (by omega)
  have q2 : decide (8000 < s.size) = false := decide_eq_false hlong
  have hR2 := hid (hR.out _ hb1H.out (by omega))
  clear hR
  by_cases hlt : 1000 < t.size
  · have q3 : decide ((1000 : Int) < t.size) = true := decide_eq_true (by omega)
    have q4 : decide (1000 < t.size) = true := decide_eq_true hlt
    clear hR2
    go_wp2_with (go_at_call 12; (with_reducible refine Calls.mono (hL.out _) ?_); rintro e w2 ⟨rfl, rfl⟩)
    go_ret
    exact ⟨rfl, hb1H.out⟩
  have q3 : decide ((1000 : Int) < t.size) = false := decide_eq_false (by omega)
  have q4 : decide (1000 < t.size) = false := decide_eq_false hlt
  obtain ⟨o, ho⟩ : ∃ o, linesR Rs.empty 0 (linesB s) = o := ⟨_, rfl⟩
  rw [ho] at hR2
  have HO := hid ho
  clear ho
  go_wp2_with (go_at_call 12; (with_reducible refine Calls.mono (hL.out _) ?_); rintro e w2 ⟨rfl, rfl⟩)
  cases o with
  | bad er q =>
    go_at_call 13
    with_reducible refine Calls.mono (hR2.out) ?_
    rintro e w3 ⟨⟨c, rfl, hV1⟩, hb3⟩
    skip
    have hi31 : (Tryd.prog.info? 31).map (·.size) = some c.size := by rw [hV1.1]; kernel_rfl
    have hb3H := hid hb3
    clear hb3 hR2
    go_wp2_with (refine wpList_store_row rfl 31 _ _ rfl w3.heap.size c rfl rfl 31 Tryd.zeroCells31 (heap_alloc_new _ _) hi31 (by rw [hV1.1]; kernel_rfl) hV1.2 ?_)
    have hBR := hid (setRow_but (w3.alloc (.cells Tryd.zeroCells31 31)) w3.heap.size c)
    have hbA : Below w3.heap.size w3 (w3.alloc (.cells Tryd.zeroCells31 31)) := (Below.refl _ _).alloc (Nat.le_refl _) _
    have hB3 := hid (hbA.trans (hBR.out.below (fun k hk => by rw [List.mem_singleton] at hk; omega) hbA.size))
    go_ret
    exact ⟨rfl, bnext (bnext hb1H.out hb3H.out) hB3.out⟩
  | ok y =>
    have gy := hid (linesR_good HO.out empty_good)
    go_at_call 13
    with_reducible refine Calls.mono (hR2.out) ?_
    rintro e w3 ⟨⟨X, c, rfl, hP, hV, hn⟩, hb3⟩
    skip
    have hV1 := hV.one
    have hi31 : (Tryd.prog.info? 31).map (·.size) = some c.size := by rw [hV1.1]; kernel_rfl
    have hb3H := hid hb3
    have hPH := hid hP
    have hVH := hid hV
    clear hb3 hR2 hP hV
    go_wp2_with (first | refine wpList_store_row rfl 31 _ _ rfl w3.heap.size c rfl rfl 31 Tryd.zeroCells31 (heap_alloc_new _ _) hi31 (by rw [hV1.1]; kernel_rfl) hV1.2 ?_)
    have hBR := hid (setRow_but (w3.alloc (.cells Tryd.zeroCells31 31)) w3.heap.size c)
    have hk4 := hid (setRow_heap _ w3.heap.size Tryd.zeroCells31 c 31 _ (heap_alloc_new w3 (.cells Tryd.zeroCells31 31)))
    have hbA : Below w3.heap.size w3 (w3.alloc (.cells Tryd.zeroCells31 31)) := (Below.refl _ _).alloc (Nat.le_refl _) _
    have hB3 := hid (hbA.trans (hBR.out.below (fun k hk => by rw [List.mem_singleton] at hk; omega) hbA.size))
    have hb4 := hid (bnext (bnext hb1H.out hb3H.out) hB3.out)
    have hP4 := hid (hPH.out.low hB3.out)
    have hV4 := hid (hVH.out.low hB3.out)
    clear hbA hBR hB3 hb3H hPH hVH hb1H
    generalize (w3.alloc (.cells Tryd.zeroCells31 31)).setRow w3.heap.size c = W4 at *
    generalize w3.heap.size = T at *
    have hts : t.size ≤ 1000 := by omega
    have hss : s.size ≤ 8000 := by omega
    obtain ⟨i5, hi5, hz5, hs5, hb5⟩ := info_parts info5
    have hD := hid (dead32 hP4.out gy.out hn)
    clear hV1 hi31
    go_wp2_with fail
    go_at_call 32
    with_reducible refine Calls.mono (hD.out) ?_
    rintro e w5 ⟨⟨vd, rfl, hd5⟩, hbw5⟩
    skip
    obtain ⟨pd, cd, rfl⟩ := own_shape hd5
    have HD := hid (own_numR hd5)
    have HPL := hid (alive_size HO.out)
    have hal := alive_len (x := y) y.rules.length (Nat.le_refl _)
    obtain ⟨n, hnn⟩ : ∃ n, y.rules.length = n := ⟨_, rfl⟩
    obtain ⟨D, hDD⟩ : ∃ D, (deadL y).length = D := ⟨_, rfl⟩
    have hDn : D ≤ n := by rw [← hDD]; unfold deadL; omega
    have HNN := hid hnn
    have HDD := hid hDD
    have hP5 := hid (hP4.out.low hbw5)
    have hk5 := hid ((show Blk W4 T 31 c from hk4.out).low hbw5)
    have hB5 := hid (bnext hb4.out hbw5)
    obtain ⟨Vc, v, x2, x3, x4, x5⟩ := (hV4.out.low hbw5).ex
    obtain ⟨Vs, g1, g2, g3⟩ := x5
    obtain ⟨pv, cv, rfl⟩ := own_shape g2
    have HR := hid (show DRows w5 _ (.slice pv y.rules.length cv) y.rules from ⟨Vs, g1, g2, g3⟩)
    rw [hnn] at x4 hn HR
    rw [hDD]
    have H3 := hid x3
    have H4 := hid x4
    clear x2 x3 x4 g1 g2 g3 hk4 hP4 hV4 hb4 hbw5 hd5 hD hnn hDD hal
    go_wp2_with fail
    go_loopw [10, 11] (fun v10 v11 wr => ∃ i : Nat, i ≤ 26 ∧ v11 = .int .i64 i ∧ Hid (wr.ownsRow w5.heap.size 5 1 v10 (headL y i).length (byteCells (headL y i))) ∧ Hid (Below w5.heap.size w5 wr)) (fun _ v _ => 26 - (RowKit.intOf v).toNat)
    case atStart => exact ⟨0, by omega, rfl, hid (World.ownsRow_nil _ _ _ _), hid (Below.refl _ _)⟩
    case round =>
      obtain ⟨i, hi, rfl, hO, hB⟩ := hrel
      have hw1 : IntKind.i64.wrap ((i : Int) + 1) = (i : Int) + 1 := IntWalk.i64_in _ (by omega)
      have HB2 := hid (hk5.out.low hB.out)
      have bf := HB2.out.froz
      by_cases hlt2 : i < 26
      · have u1 : decide ((i : Int) < 26) = true := decide_eq_true (by omega)
        have u2 : (i : Int) < 26 := by omega
        obtain ⟨e1, e2, e3, e4⟩ := H3.out i hlt2
        have b1 := HB2.out.cell (k := i) e1
        have b2 := HB2.out.cell (k := 26 + i) e2
        clear e1 e2 e3 e4 HB2
        cases hcl : y.cls i with
        | none =>
          have hs : y.said i = false := by unfold Rs.said; rw [hcl]; rfl
          have hE : Hid (headL y (i + 1) = headL y i) := by rw [headL_succ]; unfold clsL; rw [hcl, List.append_nil]; exact hid rfl
          rw [hs] at b1
          clear hcl hs b2
          go_wp2_with fail
          go_roundw
          case rel => exact ⟨i + 1, by omega, by go_num, by rw [hE.out]; exact hO, hB⟩
          case measure => simp [RowKit.intOf]; omega
        | some yc =>
          have hs : y.said i = true := by unfold Rs.said; rw [hcl]; rfl
          have hln : y.ln i = yc.1 := by unfold Rs.ln; rw [hcl]
          have hE : Hid (headL y (i + 1) = headL y i ++ (yc.1.data.toList ++ [10])) := by rw [headL_succ]; unfold clsL; rw [hcl]; exact hid rfl
          have hlen : (headL y i).length + (yc.1.size + 1) ≤ 100000000 := by
            have h1 := headL_mono y (25 - i) (i + 1)
            have h2 := HPL.out 0
            rw [List.length_append] at h2
            rw [show i + 1 + (25 - i) = 26 by omega, hE.out, List.length_append, List.length_append, List.length_singleton] at h1
            have h3 : yc.1.data.toList.length = yc.1.size := by simp
            omega
          have z1 : ¬ (yc.1.size + 1 > 9223372036854775807) := by omega
          have z2 : (yc.1 ++ ⟨#[10]⟩ : ByteArray).size = yc.1.size + 1 := by rw [ByteArray.size_append]; rfl
          have hsz := hid hB.out.size
          obtain ⟨po, co, rfl⟩ := own_shape hO.out
          obtain ⟨N, hN⟩ : ∃ N, (headL y i).length = N := ⟨_, rfl⟩
          rw [hN] at hO hlen ⊢
          have HN := hid hN
          rw [hs] at b1
          rw [hln] at b2
          clear hcl hs hln hN
          go_wp2_with (at_builtin; refine stop_here ?_)
          refine hid ?_
          refine wpList_append_own_string _ rfl (.tmp 53) (.tmp 58) 77 9 rfl w5.heap.size 5 i5 Tryd.underlying77 Tryd.underlying9 hi5 hz5 hs5 hb5 _ N _ rfl hO.out (yc.1 ++ ⟨#[10]⟩) rfl (by unfold maxLen; omega) (by omega) hsz.out ?_
          intro v' w6 hown hgrow hnil
          have hO6 : Hid (w6.ownsRow w5.heap.size 5 1 v' (headL y (i + 1)).length (byteCells (headL y (i + 1)))) := hid (by
            rw [nl_cells2, z2] at hown
            rw [hE.out, byteCells_app, List.length_append, HN.out, List.length_append, List.length_singleton]
            have h3 : yc.1.data.toList.length = yc.1.size := by simp
            rw [h3]
            exact hown)
          have hB6 := hid (hB.out.grown hgrow hsz.out (fun k hk => (own_ge hO.out hk).1))
          clear hown hgrow hnil hO hB b1 b2 bf hE
          go_wp2_with fail
          go_roundw
          case rel => exact ⟨i + 1, by omega, by go_num, hO6, hB6⟩
          case measure => simp [RowKit.intOf]; omega
      · obtain rfl : i = 26 := by omega
        rw [show ((26 : Nat) : Int) = 26 from rfl]
        have u1 : decide ((26 : Int) < 26) = false := by decide
        obtain ⟨po, co, rfl⟩ := own_shape hO.out
        have hO0 : Hid (wr.ownsRow w5.heap.size 5 1 (.slice po (headL y 26).length co) (headL y 26 ++ rulL (aliveL (deadB y) (y.rules.take 0) 0)).length (byteCells (headL y 26 ++ rulL (aliveL (deadB y) (y.rules.take 0) 0)))) := hid (by
          rw [List.take_zero]
          show wr.ownsRow w5.heap.size 5 1 _ (headL y 26 ++ []).length (byteCells (headL y 26 ++ []))
          rw [List.append_nil]
          exact hO.out)
        clear hO HB2 bf
        go_wp2_with fail
        go_loopw [10, 12, 13] (fun v10 v12 v13 wz => ∃ j : Nat, j ≤ n ∧ v13 = .int .i64 j ∧ v12 = .int .i64 ((deadT y j).length : Nat) ∧ Hid (wz.ownsRow w5.heap.size 5 1 v10 (headL y 26 ++ rulL (aliveL (deadB y) (y.rules.take j) 0)).length (byteCells (headL y 26 ++ rulL (aliveL (deadB y) (y.rules.take j) 0)))) ∧ Hid (Below w5.heap.size w5 wz)) (fun _ _ v _ => n - (RowKit.intOf v).toNat)
        case atStart => exact ⟨0, Nat.zero_le _, rfl, rfl, hO0, hB⟩
        case round =>
          clear hO0 hB
          obtain ⟨j, hj, rfl, rfl, hO, hB⟩ := hrel
          have hw1 : IntKind.i64.wrap ((j : Int) + 1) = (j : Int) + 1 := IntWalk.i64_in _ (by omega)
          obtain ⟨po, co, rfl⟩ := own_shape hO.out
          obtain ⟨NO, hNO⟩ : ∃ NO, (headL y 26 ++ rulL (aliveL (deadB y) (y.rules.take j) 0)).length = NO := ⟨_, rfl⟩
          rw [hNO] at hO ⊢
          have HNO := hid hNO
          have HB2 := hid (hk5.out.low hB.out)
          have bf := HB2.out.froz
          have b78 := HB2.out.cell (k := 78) H4.out
          have hal := hid (alive_len (x := y) j (by rw [HNN.out]; exact hj))
          obtain ⟨K, hK⟩ : ∃ K, (deadT y j).length = K := ⟨_, rfl⟩
          have HK := hid hK
          rw [hK]
          have hKj : K ≤ j := by have := hal.out; omega
          by_cases hjn : j < n
          · have u2 : decide ((j : Int) < n) = true := decide_eq_true (by omega)
            have u3 : (j : Int) < n := by omega
            have hjx : j < y.rules.length := by rw [HNN.out]; exact hjn
            obtain ⟨u, hu⟩ : ∃ u, y.rules[j]? = some u := ⟨_, List.getElem?_eq_getElem hjx⟩
            obtain ⟨g, rfl, y0⟩ := drows_line (HR.out.low hB.out) hu
            have hTk := hid (alive_take hu)
            have hTs := hid (deadT_succ y j)
            have hsz := hid hB.out.size
            clear hK
            have hap : deadB y (j + 1) = false → Hid (aliveL (deadB y) (y.rules.take (j + 1)) 0 = aliveL (deadB y) (y.rules.take j) 0 ++ [u]) ∧ Hid ((deadT y (j + 1)).length = K) := fun hd => by
              refine ⟨hid ?_, hid ?_⟩
              · rw [hTk.out, hd]; rfl
              · rw [hTs.out, hd]; simpa using HK.out
            by_cases hKD : K < D
            · have k1 : decide ((K : Int) < D) = true := decide_eq_true (by omega)
              have k2 : (K : Int) < D := by omega
              obtain ⟨z, hz⟩ : ∃ z, (deadL y)[K]? = some z := ⟨_, List.getElem?_eq_getElem (by rw [HDD.out]; exact hKD)⟩
              obtain ⟨gd, rfl, hcz⟩ := HD.out (fun e => by rw [e] at hz; cases hz)
              have c0 := cell_low hB.out (hcz K z hz)
              have hdz := deadL_at hjx z (by rw [HK.out]; exact hz)
              clear hcz
              by_cases hzj : z = j + 1
              · have hd : deadB y (j + 1) = true := by rw [hdz]; exact decide_eq_true hzj
                subst hzj
                have k3 : (((j + 1 : Nat) : Int) == (j : Int) + 1) = true := by rw [beq_iff_eq]; omega
                have hO6 : Hid (wr.ownsRow w5.heap.size 5 1 (.slice po NO co) (headL y 26 ++ rulL (aliveL (deadB y) (y.rules.take (j + 1)) 0)).length (byteCells (headL y 26 ++ rulL (aliveL (deadB y) (y.rules.take (j + 1)) 0)))) := hid (by
                  rw [hTk.out, hd, if_pos rfl, List.append_nil, HNO.out]
                  exact hO.out)
                have hKK : Hid ((deadT y (j + 1)).length = K + 1) := hid (by rw [hTs.out, hd]; simpa using HK.out)
                have hwK : IntKind.i64.wrap ((K : Int) + 1) = (K : Int) + 1 := IntWalk.i64_in _ (by omega)
                clear hO hd hdz hz hu hap hNO
                go_wp2_with fail
                go_roundw
                case rel => exact ⟨j + 1, by omega, by go_num, by rw [hKK.out]; go_num, hO6, hB⟩
                case measure => simp [RowKit.intOf]; omega
              · have hd : deadB y (j + 1) = false := by rw [hdz]; exact decide_eq_false hzj
                have k3 : ((z : Int) == (j : Int) + 1) = false := by rw [beq_eq_false_iff_ne]; omega
                obtain ⟨hA1, hA2⟩ := hap hd
                have hE : Hid (rulL (aliveL (deadB y) (y.rules.take (j + 1)) 0) = rulL (aliveL (deadB y) (y.rules.take j) 0) ++ (u.line.data.toList ++ [10])) := hid (by rw [hA1.out]; unfold rulL; rw [List.flatMap_append, List.flatMap_singleton])
                have hlen : (headL y 26 ++ rulL (aliveL (deadB y) (y.rules.take j) 0)).length + (u.line.size + 1) ≤ 100000000 := by
                  have h1 := HPL.out (j + 1)
                  rw [hE.out, ← List.append_assoc, List.length_append (bs := u.line.data.toList ++ [10]), List.length_append (bs := [10]), List.length_singleton] at h1
                  have h3 : u.line.data.toList.length = u.line.size := by simp
                  omega
                have z1 : ¬ (u.line.size + 1 > 9223372036854775807) := by omega
                have z2 : (u.line ++ ⟨#[10]⟩ : ByteArray).size = u.line.size + 1 := by rw [ByteArray.size_append]; rfl
                rw [hNO] at hlen
                have HN := HNO
                clear hNO hd hu hap hal hjx
                go_wp2_with (at_builtin; refine stop_here ?_)
                refine hid ?_
                refine wpList_append_own_string _ rfl (.tmp 82) (.tmp 89) 77 9 rfl w5.heap.size 5 i5 Tryd.underlying77 Tryd.underlying9 hi5 hz5 hs5 hb5 _ NO _ rfl hO.out (u.line ++ ⟨#[10]⟩) rfl (by unfold maxLen; omega) (by omega) hsz.out ?_
                intro v' w6 hown hgrow hnil
                have hO6 : Hid (w6.ownsRow w5.heap.size 5 1 v' (headL y 26 ++ rulL (aliveL (deadB y) (y.rules.take (j + 1)) 0)).length (byteCells (headL y 26 ++ rulL (aliveL (deadB y) (y.rules.take (j + 1)) 0)))) := hid (by
                  rw [nl_cells2, z2] at hown
                  rw [hE.out, ← List.append_assoc, byteCells_app _ (u.line.data.toList ++ [10]), List.length_append (bs := u.line.data.toList ++ [10]), HN.out, List.length_append, List.length_singleton]
                  have h3 : u.line.data.toList.length = u.line.size := by simp
                  rw [h3]
                  exact hown)
                have hB6 := hid (hB.out.grown hgrow hsz.out (fun k hk => (own_ge hO.out hk).1))
                clear hown hgrow hnil hO hB bf hE y0 b78
                go_wp2_with fail
                go_roundw
                case rel => exact ⟨j + 1, by omega, by go_num, by rw [hA2.out], hO6, hB6⟩
                case measure => simp [RowKit.intOf]; omega
            · have hd : deadB y (j + 1) = false := deadL_out hjx (by rw [HDD.out, HK.out]; omega)
              have k1 : decide ((K : Int) < D) = false := decide_eq_false (by omega)
              obtain ⟨hA1, hA2⟩ := hap hd
              have hE : Hid (rulL (aliveL (deadB y) (y.rules.take (j + 1)) 0) = rulL (aliveL (deadB y) (y.rules.take j) 0) ++ (u.line.data.toList ++ [10])) := hid (by rw [hA1.out]; unfold rulL; rw [List.flatMap_append, List.flatMap_singleton])
              have hlen : (headL y 26 ++ rulL (aliveL (deadB y) (y.rules.take j) 0)).length + (u.line.size + 1) ≤ 100000000 := by
                have h1 := HPL.out (j + 1)
                rw [hE.out, ← List.append_assoc, List.length_append (bs := u.line.data.toList ++ [10]), List.length_append (bs := [10]), List.length_singleton] at h1
                have h3 : u.line.data.toList.length = u.line.size := by simp
                omega
              have z1 : ¬ (u.line.size + 1 > 9223372036854775807) := by omega
              have z2 : (u.line ++ ⟨#[10]⟩ : ByteArray).size = u.line.size + 1 := by rw [ByteArray.size_append]; rfl
              rw [hNO] at hlen
              have HN := HNO
              clear hNO hd hu hap hal hjx
              go_wp2_with (at_builtin; refine stop_here ?_)
              refine hid ?_
              refine wpList_append_own_string _ rfl (.tmp 82) (.tmp 89) 77 9 rfl w5.heap.size 5 i5 Tryd.underlying77 Tryd.underlying9 hi5 hz5 hs5 hb5 _ NO _ rfl hO.out (u.line ++ ⟨#[10]⟩) rfl (by unfold maxLen; omega) (by omega) hsz.out ?_
              intro v' w6 hown hgrow hnil
              have hO6 : Hid (w6.ownsRow w5.heap.size 5 1 v' (headL y 26 ++ rulL (aliveL (deadB y) (y.rules.take (j + 1)) 0)).length (byteCells (headL y 26 ++ rulL (aliveL (deadB y) (y.rules.take (j + 1)) 0)))) := hid (by
                rw [nl_cells2, z2] at hown
                rw [hE.out, ← List.append_assoc, byteCells_app _ (u.line.data.toList ++ [10]), List.length_append (bs := u.line.data.toList ++ [10]), HN.out, List.length_append, List.length_singleton]
                have h3 : u.line.data.toList.length = u.line.size := by simp
                rw [h3]
                exact hown)
              have hB6 := hid (hB.out.grown hgrow hsz.out (fun k hk => (own_ge hO.out hk).1))
              clear hown hgrow hnil hO hB bf hE y0 b78
              go_wp2_with fail
              go_roundw
              case rel => exact ⟨j + 1, by omega, by go_num, by rw [hA2.out], hO6, hB6⟩
              case measure => simp [RowKit.intOf]; omega
          · obtain rfl : j = n := by omega
            have u2 : decide ((j : Int) < j) = false := by simp
            obtain rfl : K = D := by rw [← HK.out, ← HDD.out, ← HNN.out]; rfl
            have hT : y.rules.take j = y.rules := List.take_of_length_le (by rw [HNN.out]; exact Nat.le_refl _)
            have hsT := HPL.out j
            rw [hT] at hO hal hsT hNO
            have hconv := own_convert hO.out hNO.symm
            obtain ⟨tx, htx⟩ : ∃ tx : ByteArray, (⟨(headL y 26 ++ rulL (aliveL (deadB y) y.rules 0)).toArray⟩ : ByteArray) = tx := ⟨_, rfl⟩
            have htd : tx.data.toList = headL y 26 ++ rulL (aliveR y).rules := by rw [← htx]; rfl
            have htz : tx.size ≤ 65536 := by
              have h1 : tx.size = tx.data.toList.length := by simp
              rw [h1, htd]
              exact Nat.le_trans hsT (by omega)
            have hok := hid (alive_ok HO.out (by rw [HNN.out]; exact hn) htd)
            have hgA := hid (linesR_good hok.out empty_good)
            rw [htx] at hconv
            have hBz := hid (bnext hB5.out hB.out)
            have hRd := hid (hRT.out _ hBz.out tx htz)
            rw [hok.out] at hRd
            have hPz := hid (hP5.out.low hB.out)
            obtain ⟨M, hM⟩ : ∃ M, (aliveR y).rules.length = M := ⟨_, rfl⟩
            have hMD : M + K = j := by
              have h1 := hal.out
              rw [HK.out] at h1
              rw [← hM]
              exact h1
            have hMw : IntKind.i64.wrap ((j : Int) - K) = M := by rw [show (j : Int) - K = M by omega]; exact IntWalk.i64_in _ (by omega)
            have hME : ((K : Int) != K) = false := by simp
            have HMM := hid hM
            clear hO hK HK hal hT hsT htx htd hok hRT hB hP5 hB5 HB2 hM hNO HNO
            go_wp2_with fail
            go_at_call 27
            with_reducible refine Calls.mono (hRd.out) ?_
            rintro e w6 ⟨⟨X2, rfl, hP6⟩, hb6⟩
            skip
            have hQ6 := hid (show PAt w6 X2 wr.heap.size (aliveR y) from ⟨hP6⟩)
            have hP6 := hid (hPz.out.low hb6)
            have HB6 := hid (bnext hBz.out hb6)
            clear hPz hBz hRd hb6 hconv
            go_wp2_with fail
            have hbA : Below w6.heap.size w6 (w6.alloc (.cells #[.int .i64 0, .int .i64 0] 68)) := (Below.refl _ _).alloc (Nat.le_refl _) _
            have hP7 := hid (hP6.out.low hbA)
            have hQ7 := hid (hQ6.out.low hbA)
            have HB7 := hid (bnext HB6.out hbA)
            clear hP6 hQ6 HB6 hbA
            generalize w6.alloc (.cells #[.int .i64 0, .int .i64 0] 68) = W7 at *
            have hLa := hid (len14 hQ7.out)
            have hLb := hid (len14 hP7.out)
            rw [HMM.out] at hLa
            rw [HNN.out] at hLb
            go_at_call 14
            with_reducible refine Calls.mono (hLa.out) ?_
            rintro e wA ⟨rfl, rfl⟩
            skip
            go_wp2_with fail
            go_at_call 14
            with_reducible refine Calls.mono (hLb.out) ?_
            rintro e wB ⟨rfl, rfl⟩
            skip
            have hMn : M ≤ 256 := by omega
            have hS := hid (phones24 hP7.out gy.out (by rw [HNN.out]; exact hn) t (by omega))
            have hS2 := hid (fun W (hb : Below W7.heap.size W7 W) => phones24 (hQ7.out.low hb) hgA.out (by rw [HMM.out]; exact hMn) t (by omega))
            clear hP7 hQ7 hLa hLb
            go_wp2_with fail
            go_at_call 24
            with_reducible refine Calls.mono (hS.out) ?_
            rintro e wC ⟨hpC, hbC⟩
            skip
            have HBC := hid hbC
            have HB10 := hid (bnext HB7.out hbC)
            rcases alive_phs (y := y) (t := t) with ⟨s1, s2⟩ | ⟨l, l', s1, s2, s3⟩
            · rw [s1] at hpC
              rw [s2] at hS2
              have h6 : e = .returned (.tuple #[.slice none 0 0, .int .i64 3]) := hpC
              subst h6
              clear hpC hbC hS HB7 s1 s2
              go_wp2_with fail
              go_at_call 24
              with_reducible refine Calls.mono (hS2.out _ HBC.out) ?_
              rintro e wD ⟨hpD, hbD⟩
              skip
              have h7 : e = .returned (.tuple #[.slice none 0 0, .int .i64 3]) := hpD
              subst h7
              have HB11 := hid (bnext HB10.out hbD)
              have hA := hid (same26q (w := wD) (p1 := none) (p2 := none) (c1 := 0) (c2 := 0) [] (ph_nil _ _) (ph_nil _ _) (by simp))
              clear hpD hbD hS2 HB10 HBC
              go_wp2_with fail
              go_at_call 26
              with_reducible refine Calls.mono (hA.out) ?_
              rintro e wE ⟨rfl, m1, rfl⟩
              skip
              go_wp2_with fail
              go_ret
              exact ⟨rfl, bel_dr HB11.out m1⟩
            · rw [s1] at hpC
              rw [s2] at hS2
              obtain ⟨vl, he, hPc⟩ := (show ∃ v, e = .returned (.tuple #[v, .int .i64 0]) ∧ wC.ownsRow W7.heap.size 66 3 v (allP l).length (flatE Ph.cells (allP l)) from hpC)
              subst he
              obtain ⟨pp, cp, rfl⟩ := own_shape hPc
              have HPC := hid (own_phR hPc)
              have hmany : (allP l).length ≤ 100000000 := by have := sounds_many s1; rw [allP_len]; omega
              have S3 := hid s3
              clear hpC hbC hS HB7 hPc
              go_wp2_with fail
              go_at_call 24
              with_reducible refine Calls.mono (hS2.out _ HBC.out) ?_
              rintro e wD ⟨hpD, hbD⟩
              skip
              obtain ⟨v2, he2, hPd⟩ := (show ∃ v, e = .returned (.tuple #[v, .int .i64 0]) ∧ wD.ownsRow wC.heap.size 66 3 v (allP l').length (flatE Ph.cells (allP l')) from hpD)
              subst he2
              rw [S3.out] at hPd
              obtain ⟨p2, c2, rfl⟩ := own_shape hPd
              have HB11 := hid (bnext HB10.out hbD)
              have hA := hid (same26q (w := wD) (p1 := pp) (p2 := p2) (c1 := cp) (c2 := c2) (allP l) (HPC.out.low hbD) (own_phR hPd) hmany)
              clear hpD hbD hS2 HB10 HBC hPd
              go_wp2_with fail
              go_at_call 26
              with_reducible refine Calls.mono (hA.out) ?_
              rintro e wE ⟨rfl, m1, rfl⟩
              skip
              go_wp2_with fail
              go_ret
              exact ⟨rfl, bel_dr HB11.out m1⟩
end Go.Proofs.YtieifhfgedoiaaaDoor
