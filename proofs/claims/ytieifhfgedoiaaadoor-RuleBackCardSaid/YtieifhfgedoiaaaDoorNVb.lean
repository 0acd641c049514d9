/- The program's rules: their text. Conditions: those of each theorem. -/
import Derived.Test.YtieifhfgedoiaaaDoorNVp
import Derived.Test.YtieifhfgedoiaaaDoorNSa
import Derived.Test.YtieifhfgedoiaaaDoorNRz
import Derived.Shelf.Strings.Builder1
import Derived.Shelf.LaysM
import Derived.Test.YtieifhfgedoiaaaDoorProg
namespace Go.Proofs
open Go.Shelf
def Tryd.lays169_ren : Go.Shelf.Ren := ⟨fun | 169 => 35 | n => n, fun | 70 => 85 | 9 => 9 | 0 => 0 | 72 => 87 | 37 => 77 | 127 => 126 | 3 => 3 | 5 => 5 | n => n, fun | n => n⟩
theorem Tryd.lays169 : Go.Proofs.Lays.n169 Tryd.prog Tryd.lays169_ren := {
 mixed := by kernel_rfl
 f169 := Tryd.func35.trans (congrArg some (by kernel_rfl))
 t0 := Tryd.underlying0
 a0 := Tryd.isAgg0
 z0 := Tryd.sizeOf0
 v0 := Tryd.zeroValue0
 t3 := Tryd.underlying3
 a3 := Tryd.isAgg3
 z3 := Tryd.sizeOf3
 v3 := Tryd.zeroValue3
 t9 := Tryd.underlying9
 a9 := Tryd.isAgg9
 z9 := Tryd.sizeOf9
 v9 := Tryd.zeroValue9
 t37 := Tryd.underlying77
 a37 := Tryd.isAgg77
 z37 := Tryd.sizeOf77
 v37 := Tryd.zeroValue77
 t70 := Tryd.underlying85
 a70 := Tryd.isAgg85
 z70 := Tryd.sizeOf85
 v70 := Tryd.zeroValue85
 t72 := Tryd.underlying87
 a72 := Tryd.isAgg87
 z72 := Tryd.sizeOf87
 v72 := Tryd.zeroValue87
 t127 := Tryd.underlying126
 a127 := Tryd.isAgg126
 z127 := Tryd.sizeOf126
 v127 := Tryd.zeroValue126 }
theorem Tryd.Builder_Extra_169 : Builder.Extra Tryd.prog Tryd.lays169_ren := {
 sizeBuilder := by kernel_rfl
 liesBuilder := by kernel_rfl
 t5 := Tryd.underlying5
 a5 := Tryd.isAgg5
 z5 := Tryd.sizeOf5
 v5 := Tryd.zeroValue5
 infoByte := by kernel_rfl
 cellsByte := by kernel_rfl
 sizeByte := by kernel_rfl
 neB5 := by decide }
open Go.RowKit in
/-- (*strings.Builder).String: "String returns the accumulated string.": WHATEVER THE BUILDER HOLDS. (LAID: no walk: one application.) -/
theorem Tryd.Builder_String_any (B b : Nat) (l : List UInt8) (w : World) (h : Lib.IsBuilder 87 5 B b (Lib.byteCells l) w) (hBw : B ≤ w.heap.size) :
  Calls Tryd.prog 35 #[.pointer (some ⟨b, 0, none⟩)] w fun e w' => e = .returned (.string ⟨l.toArray⟩) ∧ Below B w w' := Any.Builder_String_any Tryd.lays169 Tryd.Builder_Extra_169 B b l w h hBw
end Go.Proofs
namespace Go.Proofs
open Go.Shelf
def Tryd.lays166_ren : Go.Shelf.Ren := ⟨fun | 166 => 34 | 240 => 51 | 276 => 70 | n => n, fun | 70 => 85 | 9 => 9 | 0 => 0 | 72 => 87 | 37 => 77 | 3 => 3 | 5 => 5 | 4 => 4 | 20 => 20 | 75 => 90 | 80 => 35 | 164 => 146 | n => n, fun | n => n⟩
theorem Tryd.lays166 : Go.Proofs.Lays.n166 Tryd.prog Tryd.lays166_ren := {
 mixed := by kernel_rfl
 f166 := Tryd.func34.trans (congrArg some (by kernel_rfl))
 f240 := Tryd.func51.trans (congrArg some (by kernel_rfl))
 f276 := Tryd.func70.trans (congrArg some (by kernel_rfl))
 t0 := Tryd.underlying0
 a0 := Tryd.isAgg0
 z0 := Tryd.sizeOf0
 v0 := Tryd.zeroValue0
 t3 := Tryd.underlying3
 a3 := Tryd.isAgg3
 z3 := Tryd.sizeOf3
 v3 := Tryd.zeroValue3
 t4 := Tryd.underlying4
 a4 := Tryd.isAgg4
 z4 := Tryd.sizeOf4
 v4 := Tryd.zeroValue4
 t9 := Tryd.underlying9
 a9 := Tryd.isAgg9
 z9 := Tryd.sizeOf9
 v9 := Tryd.zeroValue9
 t20 := Tryd.underlying20
 a20 := Tryd.isAgg20
 z20 := Tryd.sizeOf20
 v20 := Tryd.zeroValue20
 t37 := Tryd.underlying77
 a37 := Tryd.isAgg77
 z37 := Tryd.sizeOf77
 v37 := Tryd.zeroValue77
 t70 := Tryd.underlying85
 a70 := Tryd.isAgg85
 z70 := Tryd.sizeOf85
 v70 := Tryd.zeroValue85
 t72 := Tryd.underlying87
 a72 := Tryd.isAgg87
 z72 := Tryd.sizeOf87
 v72 := Tryd.zeroValue87
 t75 := Tryd.underlying90
 a75 := Tryd.isAgg90
 z75 := Tryd.sizeOf90
 v75 := Tryd.zeroValue90
 t164 := Tryd.underlying146
 a164 := Tryd.isAgg146
 z164 := Tryd.sizeOf146
 v164 := Tryd.zeroValue146 }
theorem Tryd.Builder_Extra_166 : Builder.Extra Tryd.prog Tryd.lays166_ren := {
 sizeBuilder := by kernel_rfl
 liesBuilder := by kernel_rfl
 t5 := Tryd.underlying5
 a5 := Tryd.isAgg5
 z5 := Tryd.sizeOf5
 v5 := Tryd.zeroValue5
 infoByte := by kernel_rfl
 cellsByte := by kernel_rfl
 sizeByte := by kernel_rfl
 neB5 := by decide }
open Go.RowKit in
theorem Tryd.Builder_WriteString (B b : Nat) (bs : List Value) (s : ByteArray) (w : World) (h : Lib.IsBuilder 87 5 B b bs w) (hlen : bs.length + s.size ≤ 140737488355328) (hBw : B ≤ w.heap.size) :
  Calls Tryd.prog 34 #[.pointer (some ⟨b, 0, none⟩), .string s] w fun e w' => e = .returned (.tuple #[.int .i64 s.size, .nilIface]) ∧ (Lib.BuilderAt 87 5 B b (.pointer (some ⟨b, 0, none⟩)) (bs ++ Lib.strCells s) w' ∧ Below B w w') := Any.Builder_WriteString Tryd.lays166 Tryd.Builder_Extra_166 B b bs s w h hlen hBw
end Go.Proofs
namespace Go.Proofs.YtieifhfgedoiaaaDoor
open Go.RowKit Go.Lib
open Go.ChangeMaps
set_option linter.unusedVariables false
set_option linter.unusedSimpArgs false
attribute [local go_sem] ExtS.cell ExtS.froz upE_value upE_skip upE_enter Ext.cell Ext.froz
theorem nl_cells (s : ByteArray) : strCells (s ++ ⟨#[10]⟩) = byteCells (s.data.toList ++ [10]) := by
 rw [strCells_eq]
 congr 1
theorem rows_row {w : World} {base n cv : Nat} {pv : Option Addr} {L : List Rl} (h : RowsAt w base (.slice pv n cv) L) {j : Nat} {u : Rl} (hj : L[j]? = some u) :
  ∃ g p1 n1 c1 p2 n2 c2 p3 n3 c3 p4 n4 c4, pv = some ⟨g, 0, none⟩ ∧ w.cell? ⟨g, j * 7, none⟩ = some (.string u.line) ∧ w.cell? ⟨g, j * 7 + 1, none⟩ = some (.slice p1 n1 c1) ∧ w.cell? ⟨g, j * 7 + 2, none⟩ = some (.slice p2 n2 c2) ∧ w.cell? ⟨g, j * 7 + 3, none⟩ = some (.slice p3 n3 c3) ∧
   w.cell? ⟨g, j * 7 + 4, none⟩ = some (.bool u.begins) ∧ w.cell? ⟨g, j * 7 + 5, none⟩ = some (.bool u.ends) ∧ w.cell? ⟨g, j * 7 + 6, none⟩ = some (.slice p4 n4 c4) := by
 obtain ⟨Vs, g1, g2, g3⟩ := h
 have hl : L.length ≠ 0 := by have := (List.getElem?_eq_some_iff.1 hj).1; omega
 obtain ⟨m, hm⟩ : ∃ m, L.length = m + 1 := ⟨L.length - 1, by omega⟩
 rw [hm] at g2
 obtain ⟨g, cap, hg⟩ := own_block g2
 cases hg
 have hV : ∃ y, Vs[j]? = some y ∧ y.1 = u := by
  rw [← g1, List.getElem?_map] at hj
  cases hv : Vs[j]? with
  | none => rw [hv] at hj; cases hj
  | some y => rw [hv] at hj; exact ⟨y, rfl, by simpa using hj⟩
 obtain ⟨⟨u', V⟩, hy, rfl⟩ := hV
 have hok := g3 _ (List.mem_of_getElem? hy)
 obtain ⟨p1, c1, e1⟩ := own_shape hok.l
 obtain ⟨p2, c2, e2⟩ := own_shape hok.r
 obtain ⟨p3, c3, e3⟩ := own_shape hok.b
 obtain ⟨p4, c4, e4⟩ := own_shape hok.p
 have hc := fun i v hv => own_cell (j := j * 7 + i) g2 (flatE_get (fun y : Rl × RlV => Rl.cells y.1 y.2) 7 (fun _ => rfl) Vs j _ hy i v hv)
 refine ⟨g, p1, u'.left.length, c1, p2, u'.right.length, c2, p3, u'.body.length, c3, p4, u'.phones.length, c4, rfl, hc 0 _ rfl, ?_, ?_, ?_, hc 4 _ rfl, hc 5 _ rfl, ?_⟩
 ·rw [← e1]; exact hc 1 _ rfl
 ·rw [← e2]; exact hc 2 _ rfl
 ·rw [← e3]; exact hc 3 _ rfl
 ·rw [← e4]; exact hc 6 _ rfl
theorem isB_low {T e : TypeId} {B b : Nat} {bs : List Value} {w w' : World} (h : IsBuilder T e B b bs w) (hb : Below w.heap.size w w') : IsBuilder T e B b bs w' := by
 rcases h with h | h
 ·obtain ⟨h1, v, h2, h3, h4⟩ := h
  exact .inl ⟨h1, v, (show Blk w b T _ from h2).low hb, own_low h3 hb, h4⟩
 ·obtain ⟨h1, v, h2, h3, h4⟩ := h
  exact .inr ⟨h1, v, (show Blk w b T _ from h2).low hb, own_low h3 hb, h4⟩
set_option maxRecDepth 100000 in
set_option maxHeartbeats 8000000 in
theorem print15 {w : World} {X base : Nat} {x : Rs} (h : PAt w X base x) (hl : (printL x).length ≤ 100000000) (hn : x.rules.length ≤ 256) :
  Calls Tryd.prog 15 #[.pointer (some ⟨X, 0, none⟩)] w fun e w' => e = .returned (.string ⟨(printL x).toArray⟩) ∧ Below w.heap.size w w' := by
 have H := hid h
 have hIs := hid (fresh_isBuilder 87 5 w)
 have hbA := hid ((Below.refl w.heap.size w).alloc (Nat.le_refl _) (.cells #[.pointer none, .slice none 0 0] 87))
 have hHl : (headL x 26).length ≤ 100000000 := by unfold printL at hl; rw [List.length_append] at hl; omega
 have hlH := hid hl
 clear h hl
 go_enter Tryd.func15, Tryd.ntmps15
 go_wp2_with fail
 obtain ⟨N, hN⟩ : ∃ N, w.heap.size = N := ⟨_, rfl⟩
 rw [hN] at hIs hbA
 simp only [hN]
 have HN := hid hN
 have hNle : N ≤ w.heap.size := Nat.le_of_eq hN.symm
 clear hN
 generalize w.alloc (.cells #[.pointer none, .slice none 0 0] 87) = W0 at *
 go_loopw [4] (fun v wr => ∃ i : Nat, i ≤ 26 ∧ v = .int .u8 ((65 + i : Nat) : Int) ∧ Hid (IsBuilder 87 5 N N (byteCells (headL x i)) wr) ∧ Hid (Below N w wr)) (fun v _ => 91 - (RowKit.intOf v).toNat)
 case atStart => exact ⟨0, by omega, rfl, hIs, hbA⟩
 case round =>
  obtain ⟨i, hi, rfl, hI, hB⟩ := hrel
  clear hIs hbA
  have hP := hid (H.out.low (by have := hB.out; rw [← HN.out] at this; exact this))
  obtain ⟨c, hc⟩ : ∃ c, 65 + i = c := ⟨_, rfl⟩
  rw [hc]
  by_cases hlt : i < 26
  ·have q1 : decide ((c : Int) ≤ 90) = true := decide_eq_true (by omega)
   have hw1 : IntKind.u8.wrap ((c : Int) + 1) = (c : Int) + 1 := IntWalk.u8_in _ (by omega)
   obtain ⟨mc, ml, v, k, hRs, hRw⟩ := hP.out.ex
   obtain ⟨n', f', l1, l2, l3⟩ := hRs.l
   have hlook := l2.look keysB Tryd.underlying81 (zeroS wr) (key := .int .u8 c) ⟨c, by omega, rfl⟩ true
   have hx0 := l3 c (by omega) (by omega)
   rw [show c - 65 = i by omega] at hx0
   rw [hx0] at hlook
   obtain ⟨x0, x1, x2, xf⟩ := hRs.b.c3
   cases hcl : x.cls i with
   | none =>
    rw [hcl] at hlook
    have hE : Hid (headL x (i + 1) = headL x i) := by rw [headL_succ]; unfold clsL; rw [hcl, List.append_nil]; exact hid rfl
    have hci := hid hc
    clear hcl hx0 l1 l2 l3 hRs hRw hc
    simp only [Option.map, Option.getD, Option.isSome] at hlook
    go_wp2_with fail
    go_roundw
    case rel => exact ⟨i + 1, by omega, by rw [show (65 + (i + 1) : Nat) = c + 1 by have := hci.out; omega]; go_num, by rw [hE.out]; exact hI, hB⟩
    case measure => have := hci.out; simp [RowKit.intOf]; omega
   | some y =>
    rw [hcl] at hlook
    have hE : Hid (headL x (i + 1) = headL x i ++ (y.1.data.toList ++ [10])) := by rw [headL_succ]; unfold clsL; rw [hcl]; exact hid rfl
    have hlen : (headL x i).length + (y.1.size + 1) ≤ 100000000 := by
     have h1 := headL_mono x (25 - i) (i + 1)
     rw [show i + 1 + (25 - i) = 26 by omega, hE.out, List.length_append, List.length_append] at h1
     have h2 : y.1.data.toList.length = y.1.size := by simp
     simp at h1
     have h3 : y.1.data.size = y.1.size := rfl
     omega
    have hWr := hid (Tryd.Builder_WriteString N N (byteCells (headL x i)) (y.1 ++ ⟨#[10]⟩) wr hI.out (by rw [byteCells_length, ByteArray.size_append']; show _ + (y.1.size + 1) ≤ _; omega) (Nat.le_trans hNle hB.out.size))
    rw [nl_cells, ← byteCells_append] at hWr
    have hci := hid hc
    have hsz : ¬ (y.1.size + 1 > 9223372036854775807) := by omega
    clear hcl hx0 l1 l2 l3 hRs hRw hc
    simp only [Option.map, Option.getD, Option.isSome] at hlook
    go_wp2_with fail
    go_at_call 34
    with_reducible refine Calls.mono (hWr.out) ?_
    rintro e w4 ⟨rfl, hb4, hbl⟩
    have HI4 := hid (Or.inr hb4 : IsBuilder 87 5 N N _ w4)
    have HB4 := hid (hB.out.trans hbl)
    clear hb4 hbl
    go_wp2_with fail
    go_roundw
    case rel => exact ⟨i + 1, by omega, by rw [show (65 + (i + 1) : Nat) = c + 1 by have := hci.out; omega]; go_num, by rw [hE.out]; exact HI4, HB4⟩
    case measure => have := hci.out; simp [RowKit.intOf]; omega
  ·have q1 : decide ((c : Int) ≤ 90) = false := decide_eq_false (by omega)
   obtain rfl : i = 26 := by omega
   obtain ⟨mc, ml, v, k, hRs, hRw⟩ := H.out.ex
   have HRw := hid hRw
   obtain ⟨Vs, g1, g2, g3⟩ := hRw
   obtain ⟨pv, cv, rfl⟩ := own_shape g2
   have hBw : Hid (Below w.heap.size w wr) := by rw [HN.out]; exact hB
   obtain ⟨x0, x1, x2, xf⟩ := (hRs.b.low hBw.out).c3
   obtain ⟨n, hnn⟩ : ∃ n, x.rules.length = n := ⟨_, rfl⟩
   rw [hnn] at HRw x2 hn
   have HNN := hid hnn
   have hI0 : Hid (IsBuilder 87 5 N N (byteCells (headL x 26 ++ rulL (x.rules.take 0))) wr) := by
    rw [List.take_zero]; show Hid (IsBuilder 87 5 N N (byteCells (headL x 26 ++ [])) wr); rw [List.append_nil]; exact hI
   clear hI hRs g1 g2 g3 hnn hc hlt hP
   go_wp2_with fail
   go_loopw [33] (fun v wr2 => ∃ j : Nat, j ≤ n ∧ v = .int .i64 j ∧ Hid (IsBuilder 87 5 N N (byteCells (headL x 26 ++ rulL (x.rules.take j))) wr2) ∧ Hid (Below N w wr2)) (fun v _ => n - (RowKit.intOf v).toNat)
   case atStart => exact ⟨0, Nat.zero_le _, rfl, hI0, hB⟩
   case round =>
    obtain ⟨j, hj, rfl, hI, hB2⟩ := hrel
    clear hI0 hB hBw x0 x1 x2 xf
    have hw1 : IntKind.i64.wrap ((j : Int) + 1) = (j : Int) + 1 := IntWalk.i64_in _ (by omega)
    by_cases hjn : j < n
    ·have q2 : decide ((j : Int) < n) = true := decide_eq_true (by omega)
     have q3 : (j : Int) < n := by omega
     obtain ⟨u, hu⟩ : ∃ u, x.rules[j]? = some u := ⟨_, List.getElem?_eq_getElem (by rw [HNN.out]; exact hjn)⟩
     have hRj := HRw.out.low (by have := hB2.out; rw [← HN.out] at this; exact this)
     obtain ⟨g, p1, n1, c1, p2, n2, c2, p3, n3, c3, p4, n4, c4, rfl, y0, y1, y2, y3, y4, y5, y6⟩ := rows_row hRj hu
     have hE : Hid (rulL (x.rules.take (j + 1)) = rulL (x.rules.take j) ++ (u.line.data.toList ++ [10])) := hid (rulL_take hu)
     have hlen : (headL x 26 ++ rulL (x.rules.take j)).length + (u.line.size + 1) ≤ 100000000 := by
      have h1 := rulL_le x.rules (j + 1)
      have h2 := hlH.out
      unfold printL at h2
      rw [hE.out, List.length_append, List.length_append] at h1
      rw [List.length_append] at h2 ⊢
      have h3 : u.line.data.toList.length = u.line.size := by simp
      simp only [List.length_singleton] at h1
      omega
     have hbA := hid ((Below.refl wr.heap.size wr).alloc (Nat.le_refl _) (.cells #[.string u.line, .slice p1 n1 c1, .slice p2 n2 c2, .slice p3 n3 c3, .bool u.begins, .bool u.ends, .slice p4 n4 c4] 96))
     have hIA : Hid (IsBuilder 87 5 N N (byteCells (headL x 26 ++ rulL (x.rules.take j))) (wr.alloc (.cells #[.string u.line, .slice p1 n1 c1, .slice p2 n2 c2, .slice p3 n3 c3, .bool u.begins, .bool u.ends, .slice p4 n4 c4] 96))) := hid (isB_low hI.out hbA.out)
     have hWr := hid (Tryd.Builder_WriteString N N (byteCells (headL x 26 ++ rulL (x.rules.take j))) (u.line ++ ⟨#[10]⟩) _ hIA.out (by rw [byteCells_length, ByteArray.size_append']; show _ + (u.line.size + 1) ≤ _; omega) (Nat.le_trans hNle (Nat.le_trans hB2.out.size hbA.out.size)))
     rw [nl_cells, ← byteCells_append] at hWr
     have hsz : ¬ (u.line.size + 1 > 9223372036854775807) := by omega
     clear hu hRj
     go_wp2_with fail
     go_at_call 34
     with_reducible refine Calls.mono (hWr.out) ?_
     rintro e w4 ⟨rfl, hb4, hbl⟩
     have HI4 := hid (Or.inr hb4 : IsBuilder 87 5 N N _ w4)
     have HB4 := hid ((hB2.out.trans (hbA.out.mono (Nat.le_trans hNle hB2.out.size))).trans hbl)
     clear hb4 hbl
     go_wp2_with fail
     go_roundw
     case rel => exact ⟨j + 1, by omega, by go_num, by rw [hE.out, ← List.append_assoc]; exact HI4, HB4⟩
     case measure => simp [RowKit.intOf]; omega
    ·obtain rfl : j = n := by omega
     have q2 : decide ((j : Int) < j) = false := by simp
     have hSt := hid (Tryd.Builder_String_any N N (headL x 26 ++ rulL (x.rules.take j)) wr hI.out (Nat.le_trans hNle hB2.out.size))
     have hE : Hid (headL x 26 ++ rulL (x.rules.take j) = printL x) := by rw [List.take_of_length_le (by rw [HNN.out]; omega)]; exact hid rfl
     rw [hE.out] at hSt
     go_wp2_with fail
     go_at_call 35
     with_reducible refine Calls.mono (hSt.out) ?_
     rintro e w5 ⟨rfl, hbl⟩
     have HB5 := hid (hB2.out.trans hbl)
     clear hbl
     go_wp2_with fail
     go_ret
     exact ⟨rfl, by have := HB5.out; rw [← HN.out] at this; exact this⟩
end Go.Proofs.YtieifhfgedoiaaaDoor
