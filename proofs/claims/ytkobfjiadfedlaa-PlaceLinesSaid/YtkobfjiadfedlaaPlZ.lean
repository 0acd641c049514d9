/- PlaceLines: lines and their ends are the text. Conditions: the text has at most maxLen bytes. -/
import Derived.Test.YtkobfjiadfedlaaPlT
import Derived.Test.YtkobfjiadfedlaaPlY
import Derived.WalkKit
import Derived.WalkSpells
import Derived.WalkLawsBesides
import Derived.Deep.QuietTactic
import Derived.BigQuiet
namespace Go.Proofs.Ytkobfjiadfedlaa
open Go.RowKit
set_option linter.unusedVariables false
set_option linter.unusedSimpArgs false
attribute [local go_sem] Ext.cell Ext.froz
section
variable {w : World} {b : Nat} {s : ByteArray}
theorem mp_lines (h : MapOf w b s) : Calls Try.prog 14 #[.pointer (some ⟨b, 0, none⟩)] w fun e w' => e = .returned (.int .i64 (lnOf s).length) ∧ w = w' := by
  obtain ⟨pb, pc, lb, lc, h⟩ := h
  exact lines_any h
theorem ln_len (s : ByteArray) (hs : s.size ≤ 65536) : (lnOf s).length ≤ 70000 := by
  have ok := fin_ok s
  have := ok.ll
  unfold lnOf; simp; omega
theorem pl_len (s : ByteArray) (hs : s.size ≤ 65536) : (plOf s).length ≤ 70000 := by
  have ok := fin_ok s
  have := ok.len
  unfold plOf; simp; omega
theorem mp_span (h : MapOf w b s) (hs : s.size ≤ 65536) (k : Nat) {lf lt le li : Nat} (hp : (lnOf s)[k]? = some ⟨lf, lt, le, li⟩) :
    Calls Try.prog 15 #[.pointer (some ⟨b, 0, none⟩), .int .i64 k] w fun e w' => e = .returned (.tuple #[.agg #[.int .i64 lf, .int .i64 lt], .int .i64 le, .int .i64 0]) ∧ Below w.heap.size w w' := by
  obtain ⟨pb, pc, lb, lc, h⟩ := h
  exact span_ok h (pl_len s hs) (ln_len s hs) k (by omega) ⟨lf, lt, le, li⟩ (by rw [Int.toNat_natCast]; exact hp)
theorem mp_first (h : MapOf w b s) (hs : s.size ≤ 65536) (k : Nat) {lf lt le li : Nat} (hl : LnOk s k ⟨lf, lt, le, li⟩) : ∃ r u : Nat,
    Calls Try.prog 16 #[.pointer (some ⟨b, 0, none⟩), .int .i64 lf] w fun e w' => e = .returned (.tuple #[.agg #[.int .i64 lf, .int .i64 r, .int .i64 u, .int .i64 k, .int .i64 0], .int .i64 0, .int .i64 0]) ∧ Below w.heap.size w w' := by
  obtain ⟨⟨pb, r, u, l, c⟩, h1, h2, h3, h4⟩ := hl.p0
  simp only at h2 h3 h4
  subst h3 h4
  have a := at_self s Pl.b (.inl rfl) h1
  simp only at a
  have hf : lf ≤ lt := hl.ft
  have hz : lt + le ≤ s.size := hl.sz
  have hC := mp_byte h hs lf (by omega) (by omega) (j := li) (p := ⟨pb, r, u, l, 0⟩) (by rw [← h2]; exact a)
  refine ⟨r, u, ?_⟩
  refine Calls.mono hC ?_
  rintro e w' ⟨rfl, hb⟩
  refine ⟨?_, hb⟩
  subst h2
  simp [plV]
end
set_option maxRecDepth 100000 in
set_option maxHeartbeats 8000000 in
theorem lines_main (s : ByteArray) (w : World) (hs : s.size ≤ 65536) :
    Calls Try.prog 3 #[.string s] w fun e w' => e = .returned (.bool true) ∧ Below w.heap.size w w' := by
  have hW0 := hid (works_any w)
  go_enter Try.func3, Try.ntmps3
  go_wp2_with fail
  with_reducible refine Calls.mono hW0.out ?_
  rintro e w1 ⟨rfl, hb1⟩
  clear hW0
  go_wp2_with fail
  have hN := hid (new_map s w1 hs)
  with_reducible refine Calls.mono hN.out ?_
  rintro e w2 ⟨b, rfl, hm, hb2⟩
  have b2 : Below w.heap.size w w2 := hb1.trans (hb2.mono hb1.size)
  clear hb2 hN hb1
  have hM := hid hm
  clear hm
  have hLn := hid (ln_len s hs)
  have hp := hid (lnOf_pos s)
  go_wp2_with fail
  have hL := hid (mp_lines hM.out)
  with_reducible refine Calls.mono hL.out ?_
  rintro e w' ⟨rfl, rfl⟩
  clear hL
  have hLast := hid (last_end s)
  have hK : Hid (∀ (k : Nat), k < (lnOf s).length → ∃ ln, (lnOf s)[k]? = some ln ∧ LnOk s k ln) := fun k hk => ⟨_, List.getElem?_eq_getElem hk, ln_ok s (List.getElem?_eq_getElem hk)⟩
  generalize hlen : (lnOf s).length = len at *
  go_wp2_with fail
  go_loopw [5, 32] (fun v i wr => ∃ k : Nat, i = .int .i64 k ∧ v = .int .i64 (endOf (lnOf s) k) ∧ k ≤ len ∧ Below w2.heap.size w2 wr) (fun _ i _ => len - (intOf i).toNat)
  case atStart => exact ⟨0, rfl, rfl, by omega, Below.refl _ _⟩
  case round =>
    obtain ⟨k, rfl, rfl, hkl, hbel⟩ := hrel
    have hlb := hLn.out
    by_cases hlt : k < len
    · obtain ⟨⟨lf, lt, le, li⟩, hget, hok⟩ := hK.out k hlt
      have hf0 : lf = endOf (lnOf s) k := hok.f
      have hMr := hid (hM.out.below hbel)
      rw [← hf0]
      clear hf0
      have hS := hid (mp_span hMr.out hs k hget)
      have hO := hid hok
      have hsz : lt + le ≤ s.size := hok.sz
      have hft : lf ≤ lt := hok.ft
      clear hok hget
      have d1 : decide ((lt : Int) < lf) = false := decide_eq_false (by omega)
      have d2 : decide ((s.size : Int) < lt + le) = false := decide_eq_false (by omega)
      go_wp2_with fail
      with_reducible refine Calls.mono hS.out ?_
      rintro e w3 ⟨rfl, hb3⟩
      have hM3 := hid (hMr.out.below hb3)
      have b3 : Below w2.heap.size w2 w3 := hbel.trans (hb3.mono hbel.size)
      clear hMr hb3 hbel hS
      go_wp2_with fail
      generalize hW4 : w3.alloc (.cells #[.int .i64 lf, .int .i64 lt] 29) = w4
      have hb4 : Below w3.heap.size w3 w4 := by subst hW4; exact (Below.refl _ _).alloc (Nat.le_refl _) _
      have hN4 : w4.heap[w3.heap.size]? = some (.cells #[.int .i64 lf, .int .i64 lt] 29 (0, 0)) := by subst hW4; exact heap_alloc_new w3 _
      have y0 := blk_cell (k := 0) hN4 rfl
      have y1 := blk_cell (k := 1) hN4 rfl
      have hs4 : w3.heap.size < w4.heap.size := by subst hW4; simp
      have hM4 := hid (hM3.out.below hb4)
      have b4 : Below w2.heap.size w2 w4 := b3.trans (hb4.mono b3.size)
      clear hW4 hN4 hb4 hM3 b3
      obtain ⟨r, u, hB⟩ := mp_first hM4.out hs k hO.out
      replace hB := hid hB
      with_reducible refine Calls.mono hB.out ?_
      rintro e w5 ⟨rfl, hb5⟩
      have hM5 := hid (hM4.out.below hb5)
      have b5 : Below w2.heap.size w2 w5 := b4.trans (hb5.mono b4.size)
      have hs5 : w3.heap.size < w5.heap.size := Nat.lt_of_lt_of_le hs4 hb5.size
      replace y0 := keeps hb5 y0
      replace y1 := keeps hb5 y1
      clear hB hb5 hM4 b4 hs4
      have t1 : IntKind.i64.wrap ((lt : Int) - lf) = (lt : Int) - lf := IntWalk.i64_in _ (by omega)
      go_wp2_with fail
      generalize hW6 : w5.alloc (.cells #[.int .i64 lf, .int .i64 r, .int .i64 u, .int .i64 k, .int .i64 0] 33) = w6
      have hb6 : Below w5.heap.size w5 w6 := by subst hW6; exact (Below.refl _ _).alloc (Nat.le_refl _) _
      have hM6 := hid (hM5.out.below hb6)
      have b6 : Below w2.heap.size w2 w6 := b5.trans (hb6.mono b5.size)
      replace y0 := keeps hb6 y0
      replace y1 := keeps hb6 y1
      clear hW6 hb6 hM5 b5 hs5
      go_loop [96] (fun v => ∃ i : Nat, v = .int .i64 i ∧ i ≤ lt - lf) (fun v => (lt - lf) - (intOf v).toNat)
      case atStart => exact ⟨0, rfl, by omega⟩
      case round =>
        obtain ⟨i, rfl, hi⟩ := hrel
        by_cases hit : i < lt - lf
        · have hx : lf + i < s.size := by omega
          obtain ⟨n10, n13⟩ := hO.out.inn (lf + i) (show lf ≤ lf + i by omega) (show lf + i < lt by omega)
          rw [getElem!_pos s _ hx] at n10 n13
          have z10 : (((s[lf + i]'hx).toNat : Int) == 10) = false := by
            rw [beq_eq_false_iff_ne]; intro h; apply n10; apply UInt8.toNat_inj.1; show _ = 10; omega
          have z13 : (((s[lf + i]'hx).toNat : Int) == 13) = false := by
            rw [beq_eq_false_iff_ne]; intro h; apply n13; apply UInt8.toNat_inj.1; show _ = 13; omega
          clear n10 n13
          have t2 : IntKind.i64.wrap ((lf : Int) + i) = (lf : Int) + i := IntWalk.i64_in _ (by omega)
          have hii : (i : Int) < (lt : Int) - lf := by omega
          have t3 : ((lf : Int) + i).toNat = lf + i := by omega
          go_wp2_with fail
          go_round
          case rel => exact ⟨i + 1, by go_num, by omega⟩
          case measure => simp [intOf]; omega
        · have hii : ¬ (i : Int) < (lt : Int) - lf := by omega
          obtain rfl : i = lt - lf := by omega
          have t4 : ((lt - lf : Nat) : Int) = (lt : Int) - lf := by omega
          rw [t4] at hii ⊢
          clear t4 hit hi
          rcases hO.out.fin with ⟨k1, k2, k3⟩ | ⟨k1, k2⟩
          · have e1 : k + 1 = len := by rw [← hlen]; exact k1
            have e2 : lt = s.size := k2
            have e3 : le = 0 := k3
            subst e3
            have hext := hid (ext_zero s lt)
            clear k1 k2 k3
            have t5 : IntKind.i64.wrap ((lt : Int) + 0) = lt := by rw [Int.add_zero]; exact IntWalk.i64_in _ (by omega)
            have t6 : ((lt : Int)).toNat = lt := Int.toNat_natCast _
            go_wp2_with fail
            have hL := hid (mp_lines hM6.out)
            rw [hlen] at hL
            with_reducible refine Calls.mono hL.out ?_
            rintro e w' ⟨rfl, rfl⟩
            clear hL
            have t7 : IntKind.i64.wrap ((len : Int) - 1) = k := by rw [IntWalk.i64_in _ (by omega)]; omega
            go_wp2_with fail
            go_roundw
            case rel => exact ⟨k + 1, by go_num, by rw [← hO.out.next]; simp <;> omega, by omega, b6⟩
            case measure => simp [intOf]; omega
          · have e1 : k + 1 < len := by rw [← hlen]; exact k1
            rcases k2 with ⟨q1, q2, q3⟩ | ⟨q1, q2, q3, q4⟩ | ⟨q1, q2, q3, q4⟩
            · have q1' : le = 1 := q1
              subst q1'
              have hext : s.extract lt (lt + 1) = ⟨#[10]⟩ := ext_one s lt 10 q2 q3
              clear k1 q1 q2 q3
              have t5 : IntKind.i64.wrap ((lt : Int) + 1) = lt + 1 := IntWalk.i64_in _ (by omega)
              have t6 : ((lt : Int) + 1).toNat = lt + 1 := by omega
              have t8 : (lt : Int) + 1 ≤ s.size := by omega
              go_wp2_with fail
              go_roundw
              case rel => exact ⟨k + 1, by go_num, by rw [← hO.out.next]; simp <;> omega, by omega, b6⟩
              case measure => simp [intOf]; omega
            · have q1' : le = 1 := q1
              subst q1'
              have hext : s.extract lt (lt + 1) = ⟨#[13]⟩ := ext_one s lt 13 q2 q3
              have t5 : IntKind.i64.wrap ((lt : Int) + 1) = lt + 1 := IntWalk.i64_in _ (by omega)
              have t6 : ((lt : Int) + 1).toNat = lt + 1 := by omega
              have t8 : (lt : Int) + 1 ≤ s.size := by omega
              by_cases hm : lt + 1 < s.size
              · have q5 : ¬ s[lt + 1]! = 10 := fun h => q4 ⟨hm, h⟩
                rw [getElem!_pos s _ hm] at q5
                have z10 : (((s[lt + 1]'hm).toNat : Int) == 10) = false := by
                  rw [beq_eq_false_iff_ne]; intro h; apply q5; apply UInt8.toNat_inj.1; show _ = 10; omega
                have t9 : (lt : Int) + 1 < s.size := by omega
                clear k1 q1 q2 q3 q4 q5
                go_wp2_with fail
                go_roundw
                case rel => exact ⟨k + 1, by go_num, by rw [← hO.out.next]; simp <;> omega, by omega, b6⟩
                case measure => simp [intOf]; omega
              · have t9 : ¬ (lt : Int) + 1 < s.size := by omega
                clear k1 q1 q2 q3 q4
                go_wp2_with fail
                go_roundw
                case rel => exact ⟨k + 1, by go_num, by rw [← hO.out.next]; simp <;> omega, by omega, b6⟩
                case measure => simp [intOf]; omega
            · have q1' : le = 2 := q1
              subst q1'
              have hext : s.extract lt (lt + 2) = ⟨#[13, 10]⟩ := ext_two s lt 13 10 q2 q3 q4
              clear k1 q1 q2 q3 q4
              have t5 : IntKind.i64.wrap ((lt : Int) + 2) = lt + 2 := IntWalk.i64_in _ (by omega)
              have t6 : ((lt : Int) + 2).toNat = lt + 2 := by omega
              have t8 : (lt : Int) + 2 ≤ s.size := by omega
              go_wp2_with fail
              go_roundw
              case rel => exact ⟨k + 1, by go_num, by rw [← hO.out.next]; simp <;> omega, by omega, b6⟩
              case measure => simp [intOf]; omega
    · have hk2 : ¬ (k : Int) < len := by omega
      obtain rfl : k = len := by omega
      rw [hLast.out]
      go_wp2_with fail
      have hC := hid (works_any wr)
      with_reducible refine Calls.mono hC.out ?_
      rintro e w17 ⟨rfl, hb17⟩
      have b17 : Below w.heap.size w w17 := b2.trans ((hbel.trans (hb17.mono hbel.size)).mono b2.size)
      clear hb17 hC
      go_wp2
      try rw [Exit.noGoto_ret]
      go_ret
      exact ⟨rfl, b17⟩
set_option maxRecDepth 100000 in
set_option maxHeartbeats 4000000 in
theorem lines_long (s : ByteArray) (w : World) (hs : 65536 < s.size) (hm : s.size ≤ maxLen) :
    Calls Try.prog 3 #[.string s] w fun e w' => e = .returned (.bool true) ∧ Below w.heap.size w w' := by
  have hW0 := hid (works_any w)
  have d0 : decide ((65536:Int) < s.size) = true := decide_eq_true (by omega)
  go_enter Try.func3, Try.ntmps3
  go_wp2_with fail
  with_reducible refine Calls.mono hW0.out ?_
  rintro e w1 ⟨rfl, hb1⟩
  go_wp2_with fail
  have hN := hid (new_long s w1 hs hm)
  with_reducible refine Calls.mono hN.out ?_
  rintro e w2 ⟨rfl, hb2⟩
  have b2 : Below w.heap.size w w2 := hb1.trans (hb2.mono hb1.size)
  clear hb2 hN hb1
  go_wp2_with fail
  have hW2 := hid (works_any w2)
  with_reducible refine Calls.mono hW2.out ?_
  rintro e w3 ⟨rfl, hb3⟩
  go_wp2
  try rw [Exit.noGoto_ret]
  go_ret
  exact ⟨rfl, b2.trans (hb3.mono b2.size)⟩
theorem lines_walk (s : ByteArray) (w : World) (hm : s.size ≤ maxLen) :
    Calls Try.prog 3 #[.string s] w fun e w' => e = .returned (.bool true) ∧ Below w.heap.size w w' := by
  by_cases hs : s.size ≤ 65536
  · exact lines_main s w hs
  · exact lines_long s w (by omega) hm
end Go.Proofs.Ytkobfjiadfedlaa
