/- The library's strings.Builder at this program: WriteString. Conditions: those of each theorem. -/
import Derived.Shelf.Strings.Builder1
import Derived.Test.YtieifhfgedoiaaaDoorProg
import Derived.Test.YtieifhfgedoiaaaDoorSa
import Derived.Test.YtieifhfgedoiaaaDoorRz
import Derived.Test.YtieifhfgedoiaaaDoorFd
import Derived.Deep.DeepCutAuto
namespace Go.Proofs
open Go.Shelf
def Tryd.lays166_ren : Go.Shelf.Ren := ⟨fun | 166 => 34 | 240 => 51 | 276 => 70 | n => n, fun | 70 => 85 | 9 => 9 | 0 => 0 | 72 => 87 | 37 => 77 | 3 => 3 | 5 => 5 | 4 => 4 | 20 => 20 | 75 => 90 | 80 => 35 | 164 => 146 | n => n, fun | n => n⟩
theorem Tryd.lays166 : Go.Proofs.Lays.n166 Tryd.prog Tryd.lays166_ren := {
  mixed := by kernel_rfl
  f166 := Tryd.func34.trans (congrArg some (by kernel_rfl))
  f240 := Tryd.func51.trans (congrArg some (by kernel_rfl))
  f276 := Tryd.func70.trans (congrArg some (by kernel_rfl))
  t0 := Tryd.underlying0
  a0 := Tryd.isAgg0
  z0 := Tryd.sizeOf0
  v0 := Tryd.zeroValue0
  t3 := Tryd.underlying3
  a3 := Tryd.isAgg3
  z3 := Tryd.sizeOf3
  v3 := Tryd.zeroValue3
  t4 := Tryd.underlying4
  a4 := Tryd.isAgg4
  z4 := Tryd.sizeOf4
  v4 := Tryd.zeroValue4
  t9 := Tryd.underlying9
  a9 := Tryd.isAgg9
  z9 := Tryd.sizeOf9
  v9 := Tryd.zeroValue9
  t20 := Tryd.underlying20
  a20 := Tryd.isAgg20
  z20 := Tryd.sizeOf20
  v20 := Tryd.zeroValue20
  t37 := Tryd.underlying77
  a37 := Tryd.isAgg77
  z37 := Tryd.sizeOf77
  v37 := Tryd.zeroValue77
  t70 := Tryd.underlying85
  a70 := Tryd.isAgg85
  z70 := Tryd.sizeOf85
  v70 := Tryd.zeroValue85
  t72 := Tryd.underlying87
  a72 := Tryd.isAgg87
  z72 := Tryd.sizeOf87
  v72 := Tryd.zeroValue87
  t75 := Tryd.underlying90
  a75 := Tryd.isAgg90
  z75 := Tryd.sizeOf90
  v75 := Tryd.zeroValue90
  t164 := Tryd.underlying146
  a164 := Tryd.isAgg146
  z164 := Tryd.sizeOf146
  v164 := Tryd.zeroValue146 }
theorem Tryd.Builder_Extra_166 : Builder.Extra Tryd.prog Tryd.lays166_ren := {
  sizeBuilder := by kernel_rfl
  liesBuilder := by kernel_rfl
  t5 := Tryd.underlying5
  a5 := Tryd.isAgg5
  z5 := Tryd.sizeOf5
  v5 := Tryd.zeroValue5
  infoByte := by kernel_rfl
  cellsByte := by kernel_rfl
  sizeByte := by kernel_rfl
  neB5 := by decide }
open Go.RowKit in
theorem Tryd.Builder_WriteString (B b : Nat) (bs : List Value) (s : ByteArray) (w : World) (h : Lib.IsBuilder 87 5 B b bs w) (hlen : bs.length + s.size ≤ 140737488355328) (hBw : B ≤ w.heap.size) :
    Calls Tryd.prog 34 #[.pointer (some ⟨b, 0, none⟩), .string s] w fun e w' => e = .returned (.tuple #[.int .i64 s.size, .nilIface]) ∧ (Lib.BuilderAt 87 5 B b (.pointer (some ⟨b, 0, none⟩)) (bs ++ Lib.strCells s) w' ∧ Below B w w') := Any.Builder_WriteString Tryd.lays166 Tryd.Builder_Extra_166 B b bs s w h hlen hBw
end Go.Proofs
/- The program's rules: their text. Conditions: those of each theorem. -/
namespace Go.Proofs.YtieifhfgedoiaaaDoor
open Go.RowKit Go.Lib
open Go.ChangeMaps
set_option linter.unusedVariables false
set_option linter.unusedSimpArgs false
attribute [local go_sem] ExtS.cell ExtS.froz upE_value upE_skip upE_enter Ext.cell Ext.froz
/-- a class's line, as it is printed -/
def clsL (x : Rs) (i : Nat) : List UInt8 := match x.cls i with
  | some y => y.1.data.toList ++ [10]
  | none => []
def headL (x : Rs) (i : Nat) : List UInt8 := (List.range i).flatMap (clsL x)
def rulL (L : List Rl) : List UInt8 := L.flatMap fun u => u.line.data.toList ++ [10]
/-- the rules' text -/
def printL (x : Rs) : List UInt8 := headL x 26 ++ rulL x.rules
theorem headL_succ (x : Rs) (i : Nat) : headL x (i + 1) = headL x i ++ clsL x i := by unfold headL; rw [List.range_succ, List.flatMap_append, List.flatMap_singleton]
theorem headL_mono (x : Rs) : ∀ (d i : Nat), (headL x i).length ≤ (headL x (i + d)).length
  | 0, i => Nat.le_refl _
  | d + 1, i => Nat.le_trans (headL_mono x d i) (by rw [← Nat.add_assoc, headL_succ, List.length_append]; omega)
theorem rulL_take {L : List Rl} {j : Nat} {u : Rl} (h : L[j]? = some u) : rulL (L.take (j + 1)) = rulL (L.take j) ++ (u.line.data.toList ++ [10]) := by
  unfold rulL
  rw [List.take_add_one, h, List.flatMap_append]
  simp
theorem rulL_le (L : List Rl) (j : Nat) : (rulL (L.take j)).length ≤ (rulL L).length := by
  have : rulL L = rulL (L.take j) ++ rulL (L.drop j) := by unfold rulL; rw [← List.flatMap_append, List.take_append_drop]
  rw [this, List.length_append]
  omega
theorem nl_cells (s : ByteArray) : strCells (s ++ ⟨#[10]⟩) = byteCells (s.data.toList ++ [10]) := by
  rw [strCells_eq]
  congr 1
theorem rows_row {w : World} {base n cv : Nat} {pv : Option Addr} {L : List Rl} (h : RowsAt w base (.slice pv n cv) L) {j : Nat} {u : Rl} (hj : L[j]? = some u) :
    ∃ g p1 n1 c1 p2 n2 c2 p3 n3 c3 p4 n4 c4, pv = some ⟨g, 0, none⟩ ∧ w.cell? ⟨g, j * 7, none⟩ = some (.string u.line) ∧ w.cell? ⟨g, j * 7 + 1, none⟩ = some (.slice p1 n1 c1) ∧ w.cell? ⟨g, j * 7 + 2, none⟩ = some (.slice p2 n2 c2) ∧ w.cell? ⟨g, j * 7 + 3, none⟩ = some (.slice p3 n3 c3) ∧
      w.cell? ⟨g, j * 7 + 4, none⟩ = some (.bool u.begins) ∧ w.cell? ⟨g, j * 7 + 5, none⟩ = some (.bool u.ends) ∧ w.cell? ⟨g, j * 7 + 6, none⟩ = some (.slice p4 n4 c4) := by
  obtain ⟨Vs, g1, g2, g3⟩ := h
  have hl : L.length ≠ 0 := by have := (List.getElem?_eq_some_iff.1 hj).1; omega
  obtain ⟨m, hm⟩ : ∃ m, L.length = m + 1 := ⟨L.length - 1, by omega⟩
  rw [hm] at g2
  obtain ⟨g, cap, hg⟩ := own_block g2
  cases hg
  have hV : ∃ y, Vs[j]? = some y ∧ y.1 = u := by
    rw [← g1, List.getElem?_map] at hj
    cases hv : Vs[j]? with
    | none => rw [hv] at hj; cases hj
    | some y => rw [hv] at hj; exact ⟨y, rfl, by simpa using hj⟩
  obtain ⟨⟨u', V⟩, hy, rfl⟩ := hV
  have hok := g3 _ (List.mem_of_getElem? hy)
  obtain ⟨p1, c1, e1⟩ := own_shape hok.l
  obtain ⟨p2, c2, e2⟩ := own_shape hok.r
  obtain ⟨p3, c3, e3⟩ := own_shape hok.b
  obtain ⟨p4, c4, e4⟩ := own_shape hok.p
  have hc := fun i v hv => own_cell (j := j * 7 + i) g2 (flatE_get (fun y : Rl × RlV => Rl.cells y.1 y.2) 7 (fun _ => rfl) Vs j _ hy i v hv)
  refine ⟨g, p1, u'.left.length, c1, p2, u'.right.length, c2, p3, u'.body.length, c3, p4, u'.phones.length, c4, rfl, hc 0 _ rfl, ?_, ?_, ?_, hc 4 _ rfl, hc 5 _ rfl, ?_⟩
  · rw [← e1]; exact hc 1 _ rfl
  · rw [← e2]; exact hc 2 _ rfl
  · rw [← e3]; exact hc 3 _ rfl
  · rw [← e4]; exact hc 6 _ rfl
theorem isB_low {T e : TypeId} {B b : Nat} {bs : List Value} {w w' : World} (h : IsBuilder T e B b bs w) (hb : Below w.heap.size w w') : IsBuilder T e B b bs w' := by
  rcases h with h | h
  · obtain ⟨h1, v, h2, h3, h4⟩ := h
    exact .inl ⟨h1, v, (show Blk w b T _ from h2).low hb, own_low h3 hb, h4⟩
  · obtain ⟨h1, v, h2, h3, h4⟩ := h
    exact .inr ⟨h1, v, (show Blk w b T _ from h2).low hb, own_low h3 hb, h4⟩
set_option maxRecDepth 100000 in
set_option maxHeartbeats 8000000 in
theorem print15 {w : World} {X base : Nat} {x : Rs} (h : PAt w X base x) (hl : (printL x).length ≤ 100000000) (hn : x.rules.length ≤ 256) :
    Calls Tryd.prog 15 #[.pointer (some ⟨X, 0, none⟩)] w fun e w' => e = .returned (.string ⟨(printL x).toArray⟩) ∧ Below w.heap.size w w' := by
  have H := hid h
  have hIs := hid (fresh_isBuilder 87 5 w)
  have hbA := hid ((Below.refl w.heap.size w).alloc (Nat.le_refl _) (.cells #[.pointer none, .slice none 0 0] 87))
  have hHl : (headL x 26).length ≤ 100000000 := by unfold printL at hl; rw [List.length_append] at hl; omega
  have hlH := hid hl
  clear h hl
  go_enter Tryd.func15, Tryd.ntmps15
  go_wp2_with fail
  obtain ⟨N, hN⟩ : ∃ N, w.heap.size = N := ⟨_, rfl⟩
  rw [hN] at hIs hbA
  simp only [hN]
  have HN := hid hN
  have hNle : N ≤ w.heap.size := Nat.le_of_eq hN.symm
  clear hN
  generalize w.alloc (.cells #[.pointer none, .slice none 0 0] 87) = W0 at *
  go_loopw [4] (fun v wr => ∃ i : Nat, i ≤ 26 ∧ v = .int .u8 ((65 + i : Nat) : Int) ∧ Hid (IsBuilder 87 5 N N (byteCells (headL x i)) wr) ∧ Hid (Below N w wr)) (fun v _ => 91 - (RowKit.intOf v).toNat)
  case atStart => exact ⟨0, by omega, rfl, hIs, hbA⟩
  case round =>
    obtain ⟨i, hi, rfl, hI, hB⟩ := hrel
    clear hIs hbA
    have hP := hid (H.out.low (by have := hB.out; rw [← HN.out] at this; exact this))
    obtain ⟨c, hc⟩ : ∃ c, 65 + i = c := ⟨_, rfl⟩
    rw [hc]
    by_cases hlt : i < 26
    · have q1 : decide ((c : Int) ≤ 90) = true := decide_eq_true (by omega)
      have hw1 : IntKind.u8.wrap ((c : Int) + 1) = (c : Int) + 1 := IntWalk.u8_in _ (by omega)
      obtain ⟨mc, ml, v, k, hRs, hRw⟩ := hP.out.ex
      obtain ⟨n', f', l1, l2, l3⟩ := hRs.l
      have hlook := l2.look keysB Tryd.underlying81 (zeroS wr) (key := .int .u8 c) ⟨c, by omega, rfl⟩ true
      have hx0 := l3 c (by omega) (by omega)
      rw [show c - 65 = i by omega] at hx0
      rw [hx0] at hlook
      obtain ⟨x0, x1, x2, xf⟩ := hRs.b.c3
      cases hcl : x.cls i with
      | none =>
        rw [hcl] at hlook
        have hE : Hid (headL x (i + 1) = headL x i) := by rw [headL_succ]; unfold clsL; rw [hcl, List.append_nil]; exact hid rfl
        have hci := hid hc
        clear hcl hx0 l1 l2 l3 hRs hRw hc
        simp only [Option.map, Option.getD, Option.isSome] at hlook
        go_wp2_with fail
        go_roundw
        case rel => exact ⟨i + 1, by omega, by rw [show (65 + (i + 1) : Nat) = c + 1 by have := hci.out; omega]; go_num, by rw [hE.out]; exact hI, hB⟩
        case measure => have := hci.out; simp [RowKit.intOf]; omega
      | some y =>
        rw [hcl] at hlook
        have hE : Hid (headL x (i + 1) = headL x i ++ (y.1.data.toList ++ [10])) := by rw [headL_succ]; unfold clsL; rw [hcl]; exact hid rfl
        have hlen : (headL x i).length + (y.1.size + 1) ≤ 100000000 := by
          have h1 := headL_mono x (25 - i) (i + 1)
          rw [show i + 1 + (25 - i) = 26 by omega, hE.out, List.length_append, List.length_append] at h1
          have h2 : y.1.data.toList.length = y.1.size := by simp
          simp at h1
          have h3 : y.1.data.size = y.1.size := rfl
          omega
        have hWr := hid (Tryd.Builder_WriteString N N (byteCells (headL x i)) (y.1 ++ ⟨#[10]⟩) wr hI.out (by rw [byteCells_length, ByteArray.size_append']; show _ + (y.1.size + 1) ≤ _; omega) (Nat.le_trans hNle hB.out.size))
        rw [nl_cells, ← byteCells_append] at hWr
        have hci := hid hc
        have hsz : ¬ (y.1.size + 1 > 9223372036854775807) := by omega
        clear hcl hx0 l1 l2 l3 hRs hRw hc
        simp only [Option.map, Option.getD, Option.isSome] at hlook
        go_wp2_with fail
        go_at_call 34
        with_reducible refine Calls.mono (hWr.out) ?_
        rintro e w4 ⟨rfl, hb4, hbl⟩
        have HI4 := hid (Or.inr hb4 : IsBuilder 87 5 N N _ w4)
        have HB4 := hid (hB.out.trans hbl)
        clear hb4 hbl
        go_wp2_with fail
        go_roundw
        case rel => exact ⟨i + 1, by omega, by rw [show (65 + (i + 1) : Nat) = c + 1 by have := hci.out; omega]; go_num, by rw [hE.out]; exact HI4, HB4⟩
        case measure => have := hci.out; simp [RowKit.intOf]; omega
    · have q1 : decide ((c : Int) ≤ 90) = false := decide_eq_false (by omega)
      obtain rfl : i = 26 := by omega
      obtain ⟨mc, ml, v, k, hRs, hRw⟩ := H.out.ex
      have HRw := hid hRw
      obtain ⟨Vs, g1, g2, g3⟩ := hRw
      obtain ⟨pv, cv, rfl⟩ := own_shape g2
      have hBw : Hid (Below w.heap.size w wr) := by rw [HN.out]; exact hB
      obtain ⟨x0, x1, x2, xf⟩ := (hRs.b.low hBw.out).c3
      obtain ⟨n, hnn⟩ : ∃ n, x.rules.length = n := ⟨_, rfl⟩
      rw [hnn] at HRw x2 hn
      have HNN := hid hnn
      have hI0 : Hid (IsBuilder 87 5 N N (byteCells (headL x 26 ++ rulL (x.rules.take 0))) wr) := by
        rw [List.take_zero]; show Hid (IsBuilder 87 5 N N (byteCells (headL x 26 ++ [])) wr); rw [List.append_nil]; exact hI
      clear hI hRs g1 g2 g3 hnn hc hlt hP
      go_wp2_with fail
      go_loopw [33] (fun v wr2 => ∃ j : Nat, j ≤ n ∧ v = .int .i64 j ∧ Hid (IsBuilder 87 5 N N (byteCells (headL x 26 ++ rulL (x.rules.take j))) wr2) ∧ Hid (Below N w wr2)) (fun v _ => n - (RowKit.intOf v).toNat)
      case atStart => exact ⟨0, Nat.zero_le _, rfl, hI0, hB⟩
      case round =>
        obtain ⟨j, hj, rfl, hI, hB2⟩ := hrel
        clear hI0 hB hBw x0 x1 x2 xf
        have hw1 : IntKind.i64.wrap ((j : Int) + 1) = (j : Int) + 1 := IntWalk.i64_in _ (by omega)
        by_cases hjn : j < n
        · have q2 : decide ((j : Int) < n) = true := decide_eq_true (by omega)
          have q3 : (j : Int) < n := by omega
          obtain ⟨u, hu⟩ : ∃ u, x.rules[j]? = some u := ⟨_, List.getElem?_eq_getElem (by rw [HNN.out]; exact hjn)⟩
          have hRj := HRw.out.low (by have := hB2.out; rw [← HN.out] at this; exact this)
          obtain ⟨g, p1, n1, c1, p2, n2, c2, p3, n3, c3, p4, n4, c4, rfl, y0, y1, y2, y3, y4, y5, y6⟩ := rows_row hRj hu
          have hE : Hid (rulL (x.rules.take (j + 1)) = rulL (x.rules.take j) ++ (u.line.data.toList ++ [10])) := hid (rulL_take hu)
          have hlen : (headL x 26 ++ rulL (x.rules.take j)).length + (u.line.size + 1) ≤ 100000000 := by
            have h1 := rulL_le x.rules (j + 1)
            have h2 := hlH.out
            unfold printL at h2
            rw [hE.out, List.length_append, List.length_append] at h1
            rw [List.length_append] at h2 ⊢
            have h3 : u.line.data.toList.length = u.line.size := by simp
            simp only [List.length_singleton] at h1
            omega
          have hbA := hid ((Below.refl wr.heap.size wr).alloc (Nat.le_refl _) (.cells #[.string u.line, .slice p1 n1 c1, .slice p2 n2 c2, .slice p3 n3 c3, .bool u.begins, .bool u.ends, .slice p4 n4 c4] 96))
          have hIA : Hid (IsBuilder 87 5 N N (byteCells (headL x 26 ++ rulL (x.rules.take j))) (wr.alloc (.cells #[.string u.line, .slice p1 n1 c1, .slice p2 n2 c2, .slice p3 n3 c3, .bool u.begins, .bool u.ends, .slice p4 n4 c4] 96))) := hid (isB_low hI.out hbA.out)
          have hWr := hid (Tryd.Builder_WriteString N N (byteCells (headL x 26 ++ rulL (x.rules.take j))) (u.line ++ ⟨#[10]⟩) _ hIA.out (by rw [byteCells_length, ByteArray.size_append']; show _ + (u.line.size + 1) ≤ _; omega) (Nat.le_trans hNle (Nat.le_trans hB2.out.size hbA.out.size)))
          rw [nl_cells, ← byteCells_append] at hWr
          have hsz : ¬ (u.line.size + 1 > 9223372036854775807) := by omega
          clear hu hRj
          go_wp2_with fail
          go_at_call 34
          with_reducible refine Calls.mono (hWr.out) ?_
          rintro e w4 ⟨rfl, hb4, hbl⟩
          have HI4 := hid (Or.inr hb4 : IsBuilder 87 5 N N _ w4)
          have HB4 := hid ((hB2.out.trans (hbA.out.mono (Nat.le_trans hNle hB2.out.size))).trans hbl)
          clear hb4 hbl
          go_wp2_with fail
          go_roundw
          case rel => exact ⟨j + 1, by omega, by go_num, by rw [hE.out, ← List.append_assoc]; exact HI4, HB4⟩
          case measure => simp [RowKit.intOf]; omega
        · obtain rfl : j = n := by omega
          have q2 : decide ((j : Int) < j) = false := by simp
          have hSt := hid (Tryd.Builder_String_any N N (headL x 26 ++ rulL (x.rules.take j)) wr hI.out (Nat.le_trans hNle hB2.out.size))
          have hE : Hid (headL x 26 ++ rulL (x.rules.take j) = printL x) := by rw [List.take_of_length_le (by rw [HNN.out]; omega)]; exact hid rfl
          rw [hE.out] at hSt
          go_wp2_with fail
          go_at_call 35
          with_reducible refine Calls.mono (hSt.out) ?_
          rintro e w5 ⟨rfl, hbl⟩
          have HB5 := hid (hB2.out.trans hbl)
          clear hbl
          go_wp2_with fail
          go_ret
          exact ⟨rfl, by have := HB5.out; rw [← HN.out] at this; exact this⟩
end Go.Proofs.YtieifhfgedoiaaaDoor
/- How long the rules' text is. Conditions: those of each theorem. -/
namespace Go.Proofs.YtieifhfgedoiaaaDoor
open Go.RowKit Go.Lib
set_option linter.unusedVariables false
set_option linter.unusedSimpArgs false
/-- no line is longer than so -/
def Lined (M : Nat) (x : Rs) : Prop := (∀ i t, x.cls i = some t → t.1.size ≤ M) ∧ ∀ u ∈ x.rules, u.line.size ≤ M
theorem bind_ok {α β : Type} {r : Res α} {f : α → Nat → Res β} {b : β} {q : Nat} (h : r.bind f = .ok b q) : ∃ a p, r = .ok a p ∧ f a p = .ok b q := by
  cases r with
  | ok a p => exact ⟨a, p, rfl, h⟩
  | bad e p => cases h
theorem partsR_line {said : Nat → Bool} {s : ByteArray} {u : Rl} {p : Nat} (h : partsR said s = .ok u p) : u.line = s := by
  unfold partsR at h
  obtain ⟨_, _, _, h⟩ := bind_ok h
  obtain ⟨_, _, _, h⟩ := bind_ok h
  obtain ⟨_, _, _, h⟩ := bind_ok h
  obtain ⟨_, _, _, h⟩ := bind_ok h
  obtain ⟨_, _, _, h⟩ := bind_ok h
  obtain ⟨_, _, _, h⟩ := bind_ok h
  injection h with h _
  rw [← h]
theorem lineR_lined {M : Nat} {x y : Rs} {s : ByteArray} (h : lineR x s = .ok y) (hx : Lined M x) (hs : s.size ≤ M) : Lined M y := by
  unfold lineR at h
  split at h
  · injection h with h; subst h; exact hx
  · split at h
    · unfold clsR at h
      split at h
      · injection h with h; subst h
        refine ⟨fun i t ht => ?_, hx.2⟩
        unfold Rs.addC at ht
        dsimp only at ht
        split at ht
        · injection ht with ht; subst ht; exact hs
        · exact hx.1 i t ht
      · cases h
    · unfold ruleR at h
      split at h
      · rename_i u p hp
        split at h
        · cases h
        · injection h with h; subst h
          refine ⟨hx.1, fun v hv => ?_⟩
          have hv : v ∈ x.rules ++ [u] := hv
          rw [List.mem_append, List.mem_singleton] at hv
          rcases hv with hv | rfl
          · exact hx.2 v hv
          · rw [partsR_line hp]; exact hs
      · split at h <;> cases h
theorem linesR_lined {M : Nat} : ∀ (L : List ByteArray) {x y : Rs} {p : Nat}, (∀ t ∈ L, t.size ≤ M) → linesR x p L = .ok y → Lined M x → Lined M y
  | [], x, y, p, hL, h, hx => by injection h with h; subst h; exact hx
  | s :: L, x, y, p, hL, h, hx => by
    unfold linesR at h
    cases hl : lineR x s with
    | ok z =>
      rw [hl] at h
      exact linesR_lined L (fun t ht => hL t (List.mem_cons_of_mem _ ht)) h (lineR_lined hl hx (hL s List.mem_cons_self))
    | bad e q => rw [hl] at h; cases h
theorem headL_le {M : Nat} {x : Rs} (h : Lined M x) : ∀ i, (headL x i).length ≤ i * (M + 1)
  | 0 => by unfold headL; simp
  | i + 1 => by
    rw [headL_succ, List.length_append]
    have h1 := headL_le h i
    have h2 : (clsL x i).length ≤ M + 1 := by
      unfold clsL
      split
      · rename_i y hy
        have := h.1 i y hy
        simp
        omega
      · simp
    rw [Nat.succ_mul]
    omega
theorem rulL_len {M : Nat} : ∀ (L : List Rl), (∀ u ∈ L, u.line.size ≤ M) → (rulL L).length ≤ L.length * (M + 1)
  | [], _ => by simp [rulL]
  | u :: L, h => by
    have h1 := rulL_len L (fun v hv => h v (List.mem_cons_of_mem _ hv))
    have h2 := h u List.mem_cons_self
    have : rulL (u :: L) = (u.line.data.toList ++ [10]) ++ rulL L := by simp [rulL]
    rw [this, List.length_append, List.length_cons, Nat.succ_mul]
    simp
    omega
/-- the text of what was read is short -/
theorem printL_le {s : ByteArray} {y : Rs} (hs : s.size ≤ 8000) (h : linesR Rs.empty 0 (linesB s) = .ok y) (hn : y.rules.length ≤ 256) : (printL y).length ≤ 100000000 := by
  have h0 : Lined 8000 Rs.empty := And.intro (fun i t ht => by cases ht) (fun u hu => by have hu : u ∈ ([] : List Rl) := hu; cases hu)
  have hL : Lined 8000 y := linesR_lined (linesB s) (fun t ht => by have := splitB_le _ _ _ s t ht; omega) h h0
  unfold printL
  rw [List.length_append]
  have h1 := headL_le hL 26
  have h2 := rulL_len y.rules hL.2
  have h3 : y.rules.length * (8000 + 1) ≤ 256 * 8001 := Nat.mul_le_mul hn (Nat.le_refl _)
  omega
end Go.Proofs.YtieifhfgedoiaaaDoor
/- The document's rules: their text. Conditions: those of each theorem. -/
namespace Go.Proofs.YtieifhfgedoiaaaDoor
open Go.RowKit Go.Lib
set_option linter.unusedVariables false
set_option linter.unusedSimpArgs false
attribute [local go_sem] ExtS.cell ExtS.froz upE_value upE_skip upE_enter Ext.cell Ext.froz
theorem app_nl (t l : ByteArray) : (t ++ l ++ ⟨#[10]⟩ : ByteArray).data.toList = t.data.toList ++ (l.data.toList ++ [10]) := by
  rw [ByteArray.data_append, ByteArray.data_append]
  simp
theorem len_data (t : ByteArray) : t.data.toList.length = t.size := by simp
theorem drows_line {w : World} {base n cv : Nat} {pv : Option Addr} {L : List Rl} (h : DRows w base (.slice pv n cv) L) {j : Nat} {u : Rl} (hj : L[j]? = some u) : ∃ g, pv = some ⟨g, 0, none⟩ ∧ w.cell? ⟨g, j * 7, none⟩ = some (.string u.line) := by
  obtain ⟨Vs, g1, g2, g3⟩ := h
  have hl : L.length ≠ 0 := by have := (List.getElem?_eq_some_iff.1 hj).1; omega
  obtain ⟨m, hm⟩ : ∃ m, L.length = m + 1 := ⟨L.length - 1, by omega⟩
  rw [hm] at g2
  obtain ⟨g, cap, hg⟩ := own_block g2
  cases hg
  refine ⟨g, rfl, ?_⟩
  have hV : ∃ y, Vs[j]? = some y ∧ y.1 = u := by
    rw [← g1, List.getElem?_map] at hj
    cases hv : Vs[j]? with
    | none => rw [hv] at hj; cases hj
    | some y => rw [hv] at hj; exact ⟨y, rfl, by simpa using hj⟩
  obtain ⟨y, hy, rfl⟩ := hV
  exact own_cell (j := j * 7) g2 (flatE_get (fun y : Rl × RlV => Rl.dcells y.1 y.2) 7 (fun _ => rfl) Vs j y hy 0 _ rfl)
set_option maxRecDepth 100000 in
set_option maxHeartbeats 8000000 in
theorem dprint16 {w : World} {base : Nat} {c : Array Value} {x : Rs} (h : DVal w base c x) (hl : (printL x).length ≤ 100000000) (hn : x.rules.length ≤ 256) :
    Calls Tryd.prog 16 #[.agg c] w fun e w' => (∃ t : ByteArray, e = .returned (.string t) ∧ t.data.toList = printL x) ∧ Below w.heap.size w w' := by
  have hHl : (headL x 26).length ≤ 100000000 := by unfold printL at hl; rw [List.length_append] at hl; omega
  have hlH := hid hl
  obtain ⟨Vc, v, h2, h3, h4, h5⟩ := h.ex
  obtain ⟨Vs, g1, g2, g3⟩ := h5
  obtain ⟨pv, cv, rfl⟩ := own_shape g2
  obtain ⟨n, hnn⟩ : ∃ n, x.rules.length = n := ⟨_, rfl⟩
  have hbA := hid ((Below.refl w.heap.size w).alloc (Nat.le_refl _) (.cells c 31))
  have HR := hid ((show DRows w base (.slice pv x.rules.length cv) x.rules from ⟨Vs, g1, g2, g3⟩).low hbA.out)
  rw [hnn] at h4 hn HR
  have HNN := hid hnn
  have HB := hid (Blk.new w 31 c)
  have H2 := hid h2
  have H3 := hid h3
  have H4 := hid h4
  clear h2 h3 h4 g1 g2 g3 h hl hnn
  go_enter Tryd.func16, Tryd.ntmps16
  go_wp2_with fail
  obtain ⟨B, hBn⟩ : ∃ B, w.heap.size = B := ⟨_, rfl⟩
  rw [hBn] at HB
  simp only [hBn]
  have HBN := hid hBn
  clear hBn
  generalize w.alloc (.cells c 31) = W at *
  go_loopw [3, 4] (fun v3 v4 wr => ∃ (i : Nat) (t : ByteArray), i ≤ 26 ∧ v4 = .int .i64 i ∧ v3 = .string t ∧ Hid (t.data.toList = headL x i) ∧ wr = W) (fun _ v _ => 26 - (RowKit.intOf v).toNat)
  case atStart => exact ⟨0, ⟨#[]⟩, by omega, rfl, rfl, hid rfl, rfl⟩
  case round =>
    obtain ⟨i, t, hi, rfl, rfl, hT, rfl⟩ := hrel
    have hw1 : IntKind.i64.wrap ((i : Int) + 1) = (i : Int) + 1 := IntWalk.i64_in _ (by omega)
    have bf := HB.out.froz
    by_cases hlt : i < 26
    · have q1 : decide ((i : Int) < 26) = true := decide_eq_true (by omega)
      have q2 : (i : Int) < 26 := by omega
      obtain ⟨e1, e2, e3, e4⟩ := H3.out i hlt
      have b1 := HB.out.cell (k := i) e1
      have b2 := HB.out.cell (k := 26 + i) e2
      clear e1 e2 e3 e4
      cases hcl : x.cls i with
      | none =>
        have hs : x.said i = false := by unfold Rs.said; rw [hcl]; rfl
        have hE : Hid (headL x (i + 1) = headL x i) := by rw [headL_succ]; unfold clsL; rw [hcl, List.append_nil]; exact hid rfl
        rw [hs] at b1
        clear hcl hs b2
        go_wp2_with fail
        go_roundw
        case rel => exact ⟨i + 1, t, by omega, by go_num, rfl, by rw [hE.out]; exact hT, trivial⟩
        case measure => simp [RowKit.intOf]; omega
      | some y =>
        have hs : x.said i = true := by unfold Rs.said; rw [hcl]; rfl
        have hln : x.ln i = y.1 := by unfold Rs.ln; rw [hcl]
        have hE : Hid (headL x (i + 1) = headL x i ++ (y.1.data.toList ++ [10])) := by rw [headL_succ]; unfold clsL; rw [hcl]; exact hid rfl
        have hlen : t.size + (y.1.size + 1) ≤ 100000000 := by
          have h1 := headL_mono x (25 - i) (i + 1)
          rw [show i + 1 + (25 - i) = 26 by omega, hE.out, List.length_append, List.length_append, ← hT.out, len_data, len_data, List.length_singleton] at h1
          omega
        have z1 : ¬ (t.size + y.1.size > 9223372036854775807) := by omega
        have z2 : ¬ (t.size + y.1.size + 1 > 9223372036854775807) := by omega
        have z3 : t.size + y.1.size ≤ 9223372036854775806 := by omega
        rw [hs] at b1
        rw [hln] at b2
        clear hcl hs hln
        go_wp2_with fail
        go_roundw
        case rel => exact ⟨i + 1, t ++ y.1 ++ ⟨#[10]⟩, by omega, by go_num, rfl, by rw [hE.out, app_nl, hT.out]; exact hid rfl, trivial⟩
        case measure => simp [RowKit.intOf]; omega
    · obtain rfl : i = 26 := by omega
      have q1 : decide (((26 : Nat) : Int) < 26) = false := by decide
      have b78 := HB.out.cell (k := 78) H4.out
      have hT0 : Hid (t.data.toList = headL x 26 ++ rulL (x.rules.take 0)) := by rw [List.take_zero]; show Hid (_ = headL x 26 ++ []); rw [List.append_nil]; exact hT
      clear hT
      go_wp2_with fail
      go_loopw [3, 5] (fun v3 v5 wz => ∃ (j : Nat) (t : ByteArray), j ≤ n ∧ v5 = .int .i64 j ∧ v3 = .string t ∧ Hid (t.data.toList = headL x 26 ++ rulL (x.rules.take j)) ∧ wz = wr) (fun _ v _ => n - (RowKit.intOf v).toNat)
      case atStart => exact ⟨0, t, Nat.zero_le _, rfl, rfl, hT0, rfl⟩
      case round =>
        obtain ⟨j, t, hj, rfl, rfl, hT, rfl⟩ := hrel
        clear hT0
        have hw1 : IntKind.i64.wrap ((j : Int) + 1) = (j : Int) + 1 := IntWalk.i64_in _ (by omega)
        by_cases hjn : j < n
        · have q2 : decide ((j : Int) < n) = true := decide_eq_true (by omega)
          have q3 : (j : Int) < n := by omega
          obtain ⟨u, hu⟩ : ∃ u, x.rules[j]? = some u := ⟨_, List.getElem?_eq_getElem (by rw [HNN.out]; exact hjn)⟩
          obtain ⟨g, rfl, y0⟩ := drows_line HR.out hu
          have hE : Hid (rulL (x.rules.take (j + 1)) = rulL (x.rules.take j) ++ (u.line.data.toList ++ [10])) := hid (rulL_take hu)
          have hlen : t.size + (u.line.size + 1) ≤ 100000000 := by
            have h1 := rulL_le x.rules (j + 1)
            have h2 := hlH.out
            unfold printL at h2
            rw [hE.out, List.length_append, List.length_append, len_data, List.length_singleton] at h1
            rw [List.length_append] at h2
            have h3 : t.size = (headL x 26).length + (rulL (x.rules.take j)).length := by rw [← len_data, hT.out, List.length_append]
            omega
          have z1 : ¬ (t.size + u.line.size > 9223372036854775807) := by omega
          have z2 : ¬ (t.size + u.line.size + 1 > 9223372036854775807) := by omega
          have z3 : t.size + u.line.size ≤ 9223372036854775806 := by omega
          clear hu
          go_wp2_with fail
          go_roundw
          case rel => exact ⟨j + 1, t ++ u.line ++ ⟨#[10]⟩, by omega, by go_num, rfl, by rw [hE.out, app_nl, hT.out, List.append_assoc]; exact hid rfl, trivial⟩
          case measure => simp [RowKit.intOf]; omega
        · obtain rfl : j = n := by omega
          have q2 : decide ((j : Int) < j) = false := by simp
          have hE : Hid (headL x 26 ++ rulL (x.rules.take j) = printL x) := by rw [List.take_of_length_le (by rw [HNN.out]; omega)]; exact hid rfl
          go_wp2_with fail
          go_ret
          exact ⟨⟨t, rfl, by rw [hT.out, hE.out]⟩, hbA.out⟩
end Go.Proofs.YtieifhfgedoiaaaDoor
/- What the laws ask of a text of rules: that both hands read it alike. Conditions: those of each theorem. -/
namespace Go.Proofs.YtieifhfgedoiaaaDoor
open Go.RowKit Go.Lib
set_option linter.unusedVariables false
set_option linter.unusedSimpArgs false
attribute [local go_sem] ExtS.cell ExtS.froz upE_value upE_skip upE_enter Ext.cell Ext.froz
/-- a whole struct's load that is guarded, and wanted -/
theorem wpList_load_rowG {P : Program} {ops : Array Oper} {rest : List Oper} {o : Oper} {a : Act} {w : World} {Q : Exit → Act → World → Prop} (hgd : Region.wanted o (yielded ops a.tmps) = true) (ty : TypeId) (x : Operand) (ho : o.op = .load ty x)
    (g : Nat) (hx : a.eval x = .pointer (some ⟨g, 0, none⟩)) (t : TypeId) (cs : Array Value) (fr : Nat × Nat) (d : TypeDesc) (hg : w.heap[g]? = some (.cells cs t fr))
    (hu : P.underlying ty = some d) (hd : (match d with | .struct _ | .array _ _ => true | _ => false) = true) (hi : (P.info? ty).map (·.size) = some cs.size)
    (h : wpList P ops Q rest (a.put o.dst (.agg cs)) w) : wpList P ops Q (o :: rest) a w :=
  wpList_step fun K hK => by rw [if_pos hgd]; exact wp_load_row ty x ho g hx t cs fr d hg hu hd hi (hK _ _ h)
set_option maxRecDepth 100000 in
set_option maxHeartbeats 8000000 in
theorem reads3 (s : ByteArray) (w : World) (m : Int) (hm : w.cell? ⟨0, 0, none⟩ = some (.int .i64 m)) :
    Calls Tryd.prog 3 #[.string s] w fun e w' => e = .returned (.bool true) ∧ Below w.heap.size w w' := by
  have h0 : 0 < w.heap.size := World.block_lt_of_cell? w _ hm
  have hW := hid (wakes11 w m hm)
  have hL := hid (fun W => long12 s W)
  have hR := hid (fun W (hb : Below w.heap.size w W) (hs : s.size ≤ 8000) => read13 s (by omega) W m (by rw [hb.cell (p := ⟨0, 0, none⟩) h0]; exact hm))
  clear hm
  go_enter Tryd.func3, Tryd.ntmps3
  go_wp2_with fail
  go_at_call 11
  with_reducible refine Calls.mono (hW.out) ?_
  rintro e w1 ⟨rfl, hb1⟩
  skip
  have hb1H := hid hb1
  clear hb1 hW
  go_wp2_with fail
  go_at_call 12
  with_reducible refine Calls.mono (hL.out _) ?_
  rintro e w2 ⟨rfl, rfl⟩
  skip
  by_cases hlong : 8000 < s.size
  · have q1 : decide ((8000 : Int) < s.size) = true := decide_eq_true (by omega)
    have q2 : decide (8000 < s.size) = true := decide_eq_true hlong
    clear hR
    go_wp2_with fail
    go_ret
    exact ⟨rfl, hb1H.out⟩
  · have q1 : decide ((8000 : Int) < s.size) = false := decide_eq_false (by omega)
    have q2 : decide (8000 < s.size) = false := decide_eq_false hlong
    have hR2 := hid (hR.out _ hb1H.out (by omega))
    clear hR hL
    obtain ⟨o, ho⟩ : ∃ o, linesR Rs.empty 0 (linesB s) = o := ⟨_, rfl⟩
    rw [ho] at hR2
    have HO := hid ho
    clear ho
    go_wp2_with fail
    cases o with
    | bad er q =>
      go_at_call 13
      with_reducible refine Calls.mono (hR2.out) ?_
      rintro e w3 ⟨⟨c, rfl, hV1⟩, hb3⟩
      skip
      have hi31 : (Tryd.prog.info? 31).map (·.size) = some c.size := by rw [hV1.1]; kernel_rfl
      have hb3H := hid hb3
      clear hb3 hR2
      go_wp2_with (refine wpList_store_row rfl 31 _ _ rfl w3.heap.size c rfl rfl 31 Tryd.zeroCells31 (heap_alloc_new _ _) hi31 (by rw [hV1.1]; kernel_rfl) hV1.2 ?_)
      have hBR := hid (setRow_but (w3.alloc (.cells Tryd.zeroCells31 31)) w3.heap.size c)
      have hbA : Below w3.heap.size w3 (w3.alloc (.cells Tryd.zeroCells31 31)) := (Below.refl _ _).alloc (Nat.le_refl _) _
      have hB3 := hid (hbA.trans (hBR.out.below (fun k hk => by rw [List.mem_singleton] at hk; omega) hbA.size))
      go_ret
      exact ⟨rfl, bnext (bnext hb1H.out hb3H.out) hB3.out⟩
    | ok y =>
      go_at_call 13
      with_reducible refine Calls.mono (hR2.out) ?_
      rintro e w3 ⟨⟨X, c, rfl, hP, hV, hn⟩, hb3⟩
      skip
      have hV1 := hV.one
      have hPl : Hid ((printL y).length ≤ 100000000) := hid (printL_le (by omega) HO.out hn)
      have hi31 : (Tryd.prog.info? 31).map (·.size) = some c.size := by rw [hV1.1]; kernel_rfl
      have hb3H := hid hb3
      have hPH := hid hP
      have hVH := hid hV
      clear hb3 hR2 hP hV
      go_wp2_with (refine wpList_store_row rfl 31 _ _ rfl w3.heap.size c rfl rfl 31 Tryd.zeroCells31 (heap_alloc_new _ _) hi31 (by rw [hV1.1]; kernel_rfl) hV1.2 ?_)
      have hBR := hid (setRow_but (w3.alloc (.cells Tryd.zeroCells31 31)) w3.heap.size c)
      have hk4 := hid (setRow_heap _ w3.heap.size Tryd.zeroCells31 c 31 _ (heap_alloc_new w3 (.cells Tryd.zeroCells31 31)))
      have hbA : Below w3.heap.size w3 (w3.alloc (.cells Tryd.zeroCells31 31)) := (Below.refl _ _).alloc (Nat.le_refl _) _
      have hB3 := hid (hbA.trans (hBR.out.below (fun k hk => by rw [List.mem_singleton] at hk; omega) hbA.size))
      have hb4 := hid (bnext (bnext hb1H.out hb3H.out) hB3.out)
      have hP4 := hid (hPH.out.low hB3.out)
      have hV4 := hid (hVH.out.low hB3.out)
      clear hbA hBR hB3 hb3H hPH hVH hb1H
      generalize (w3.alloc (.cells Tryd.zeroCells31 31)).setRow w3.heap.size c = W4 at *
      generalize w3.heap.size = T at *
      obtain ⟨Vc, v, h2, h3, h4, h5⟩ := hV4.out.ex
      obtain ⟨pv, cv, rfl⟩ : ∃ pv cv, v = .slice pv y.rules.length cv := by obtain ⟨Vs, g1, g2, g3⟩ := h5; exact own_shape g2
      have HR := hid h5
      have HC78 := hid h4
      clear h2 h3 h4 h5
      go_wp2_with fail
      go_cut [40] (fun v wd => v = .bool false ∧ Hid (Below W4.heap.size W4 wd))
      case first =>
        go_wp2_with fail
        have b78 := (show Blk W4 T 31 c from hk4.out).cell HC78.out
        have bf := (show Blk W4 T 31 c from hk4.out).froz
        refine region_plan [] (.quiet 0 (.quiet 2 (.quiet 3 (.quiet 4 (.one 1 (.quiet 5 (.quiet 6 (.quiet 7 (.two 8 (.one 9 (.one 10 (.quiet 11 (.quiet 12 .done)))) 9 (.one 8 (.one 10 (.quiet 11 (.quiet 12 .done))))))))))))) (by kernel_rfl) (by kernel_rfl) ?_
        repeat (apply p_quiet; (case hi => rfl); intro K hK; go_simp; (refine ⟨hK _ ?_⟩; clear hK K))
        apply p_one
        case hi => rfl
        intro W5 hb5 K hK
        have hP5 := hid (hP4.out.low hb5)
        go_wp2_with (go_at_call 14; (with_reducible refine Calls.mono (len14 hP5.out) ?_); rintro e w6 ⟨rfl, rfl⟩)
        refine hK _ _ (ButS.of hb5) ?_
        have hB5 := hid (ButS.of (S := []) hb5)
        have hb5H := hid hb5
        have hV5 := hid (hV4.out.low hb5)
        have hk5 := hid ((show Blk W4 T 31 c from hk4.out).low hb5)
        clear hK K hb5
        repeat (apply p_quiet; (case hi => rfl); intro K hK; go_simp; (refine ⟨hK _ ?_⟩; clear hK K))
        refine p_two ?_ ?_
        · skip
          apply p_one
          case hi => rfl
          intro W6 hb6 K hK
          have hP6 := hid (hP5.out.low hb6)
          go_wp2_with (go_at_call 15; (with_reducible refine Calls.mono (print15 hP6.out hPl.out hn) ?_); rintro e w7 ⟨rfl, hb7⟩)
          refine hK _ _ (hB5.out.trans ((ButS.of hb6).trans (ButS.of hb7))) ?_
          have hb7H := hid (bnext (bnext hb5H.out hb6) hb7)
          have hB7 := hid (hB5.out.trans ((ButS.of (S := []) hb6).trans (ButS.of hb7)))
          have hV7 := hid ((hV5.out.low hb6).low hb7)
          have hk7 := hid ((hk5.out.low hb6).low hb7)
          clear hK K hb6 hb7 hP6
          apply p_one
          case hi => rfl
          intro W8 hb8 K hK
          have hk8 := hid (hk7.out.low hb8)
          refine wpList_load_rowG rfl 31 _ rfl T rfl 31 c (0, 0) _ hk8.out Tryd.underlying31 rfl hi31 ?_
          refine ⟨rfl, hK _ _ (hB7.out.trans (ButS.of hb8)) ?_⟩
          have hB8 := hid (hB7.out.trans (ButS.of (S := []) hb8))
          have hb8H := hid (bnext hb7H.out hb8)
          have hV8 := hid (hV7.out.low hb8)
          clear hK K hb8
          apply p_one
          case hi => rfl
          intro W9 hb9 K hK
          have hV9 := hid (hV8.out.low hb9)
          go_wp2_with (go_at_call 16; (with_reducible refine Calls.mono (dprint16 hV9.out hPl.out hn) ?_); rintro e wa ⟨⟨t2, rfl, ht2⟩, hba⟩)
          refine hK _ _ (hB8.out.trans ((ButS.of hb9).trans (ButS.of hba))) ?_
          have hbaH := hid (bnext (bnext hb8H.out hb9) hba)
          have ht : t2 = ⟨(printL y).toArray⟩ := ByteArray.ext (Array.toList_inj.1 (by rw [ht2]))
          subst ht
          clear hK K hb9 hba
          repeat (apply p_quiet; (case hi => rfl); intro K hK; go_simp; (refine ⟨hK _ ?_⟩; clear hK K))
          apply p_done
          intro W10 hb10
          have hb10H := hid (bnext hbaH.out hb10)
          go_wp2_with fail
          go_meet
          exact ⟨rfl, hb10H⟩
        · skip
          apply p_one
          case hi => rfl
          intro W6 hb6 K hK
          have hk6 := hid (hk5.out.low hb6)
          refine wpList_load_rowG rfl 31 _ rfl T rfl 31 c (0, 0) _ hk6.out Tryd.underlying31 rfl hi31 ?_
          refine ⟨rfl, hK _ _ (hB5.out.trans (ButS.of hb6)) ?_⟩
          have hB6 := hid (hB5.out.trans (ButS.of (S := []) hb6))
          have hb6H := hid (bnext hb5H.out hb6)
          have hV6 := hid (hV5.out.low hb6)
          have hP6 := hid (hP5.out.low hb6)
          clear hK K hb6
          apply p_one
          case hi => rfl
          intro W7 hb7 K hK
          have hP7 := hid (hP6.out.low hb7)
          go_wp2_with (go_at_call 15; (with_reducible refine Calls.mono (print15 hP7.out hPl.out hn) ?_); rintro e w8 ⟨rfl, hb8⟩)
          refine hK _ _ (hB6.out.trans ((ButS.of hb7).trans (ButS.of hb8))) ?_
          have hb8H := hid (bnext (bnext hb6H.out hb7) hb8)
          have hB8 := hid (hB6.out.trans ((ButS.of (S := []) hb7).trans (ButS.of hb8)))
          have hV8 := hid ((hV6.out.low hb7).low hb8)
          clear hK K hb7 hb8 hP7
          apply p_one
          case hi => rfl
          intro W9 hb9 K hK
          have hV9 := hid (hV8.out.low hb9)
          go_wp2_with (go_at_call 16; (with_reducible refine Calls.mono (dprint16 hV9.out hPl.out hn) ?_); rintro e wa ⟨⟨t2, rfl, ht2⟩, hba⟩)
          refine hK _ _ (hB8.out.trans ((ButS.of hb9).trans (ButS.of hba))) ?_
          have hbaH := hid (bnext (bnext hb8H.out hb9) hba)
          have ht : t2 = ⟨(printL y).toArray⟩ := ByteArray.ext (Array.toList_inj.1 (by rw [ht2]))
          subst ht
          clear hK K hb9 hba
          repeat (apply p_quiet; (case hi => rfl); intro K hK; go_simp; (refine ⟨hK _ ?_⟩; clear hK K))
          apply p_done
          intro W10 hb10
          have hb10H := hid (bnext hbaH.out hb10)
          go_wp2_with fail
          go_meet
          exact ⟨rfl, hb10H⟩
      case rest =>
        obtain ⟨rfl, hB⟩ := hcut
        have hPc := hid (hP4.out.low hB.out)
        have hRc := hid (HR.out.low hB.out)
        have hkc := hid ((show Blk W4 T 31 c from hk4.out).low hB.out)
        have hbE := hid (bnext hb4.out hB.out)
        have b78 := (show Blk wc T 31 c from hkc.out).cell HC78.out
        have bf := (show Blk wc T 31 c from hkc.out).froz
        obtain ⟨n, hnn⟩ : ∃ n, y.rules.length = n := ⟨_, rfl⟩
        rw [hnn] at b78 hRc hn
        have HNN := hid hnn
        have hw2 : IntKind.i64.wrap ((n : Int) + 1) = n + 1 := IntWalk.i64_in _ (by omega)
        clear hB hk4 hP4 HR HC78 hb4 hV4 hPl hi31 hV1 hnn hkc
        go_wp2_with fail
        go_loopw [7] (fun v7 wr => ∃ z : Int, -1 ≤ z ∧ z ≤ (n : Int) + 2 ∧ v7 = .int .i64 z ∧ wr = wc) (fun v _ => ((n : Int) + 2 - RowKit.intOf v).toNat)
        case atStart => exact ⟨-1, by omega, by omega, rfl, rfl⟩
        case round =>
          obtain ⟨z, hz0, hz1, rfl, rfl⟩ := hrel
          have hw1 : IntKind.i64.wrap (z + 1) = z + 1 := IntWalk.i64_in _ (by omega)
          by_cases hend : z ≤ (n : Int) + 1
          · have q0 : decide (z ≤ (n : Int) + 1) = true := decide_eq_true hend
            by_cases h1 : z < 1
            · have q1 : decide (z < 1) = true := decide_eq_true h1
              have hC := hid (rule17_out hPc.out z (.inl h1))
              go_wp2_with fail
              go_at_call 17
              with_reducible refine Calls.mono (hC.out) ?_
              rintro e w9 ⟨rfl, rfl⟩
              skip
              go_wp2_with fail
              go_roundw
              case rel => exact ⟨z + 1, by omega, by omega, rfl, trivial⟩
              case measure => simp [RowKit.intOf]; omega
            · have q1 : decide (z < 1) = false := decide_eq_false h1
              by_cases h2 : (n : Int) < z
              · have q2 : decide ((n : Int) < z) = true := decide_eq_true h2
                have hC := hid (rule17_out hPc.out z (.inr (by rw [HNN.out]; exact h2)))
                go_wp2_with fail
                go_at_call 17
                with_reducible refine Calls.mono (hC.out) ?_
                rintro e w9 ⟨rfl, rfl⟩
                skip
                go_wp2_with fail
                go_roundw
                case rel => exact ⟨z + 1, by omega, by omega, rfl, trivial⟩
                case measure => simp [RowKit.intOf]; omega
              · obtain ⟨j, rfl⟩ : ∃ j : Nat, z = (j : Int) + 1 := ⟨(z - 1).toNat, by omega⟩
                have hjn : j < n := by omega
                have q2 : decide ((n : Int) < (j : Int) + 1) = false := decide_eq_false h2
                have q3 : (j : Int) < n := by omega
                have q4 : decide ((j : Int) < n) = true := decide_eq_true q3
                have hw : IntKind.i64.wrap (j : Int) = j := IntWalk.i64_in _ (by omega)
                obtain ⟨u, hu⟩ : ∃ u, y.rules[j]? = some u := ⟨_, List.getElem?_eq_getElem (by rw [HNN.out]; exact hjn)⟩
                obtain ⟨g, rfl, y0⟩ := drows_line hRc.out hu
                have hC := hid (rule17_in hPc.out j u hu (by rw [HNN.out]; exact hn))
                clear hu
                go_wp2_with fail
                go_at_call 17
                with_reducible refine Calls.mono (hC.out) ?_
                rintro e w9 ⟨rfl, rfl⟩
                skip
                go_wp2_with fail
                go_roundw
                case rel => exact ⟨(j : Int) + 1 + 1, by omega, by omega, rfl, trivial⟩
                case measure => simp [RowKit.intOf]; omega
          · have q0 : decide (z ≤ (n : Int) + 1) = false := decide_eq_false hend
            go_wp2_with fail
            go_ret
            exact ⟨rfl, hbE.out⟩
end Go.Proofs.YtieifhfgedoiaaaDoor
