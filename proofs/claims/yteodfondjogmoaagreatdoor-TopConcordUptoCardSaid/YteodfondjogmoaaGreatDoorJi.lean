/-
  DERIVED: THE SHELF's CONTRACTS AT THIS DUMP, IN PLAIN WORDS (tools/lay-plain.mjs out of 'TryzShelfC.lean', which tools/lay-shelf.mjs wrote): THE SAME DECLARATIONS UNDER THE SAME NAMES: 'import', 'namespace', 'open', 'def', 'theorem' AND NOTHING ELSE: no command of the shelf's: FOR A HAND-IN. Each laying: the table of numbers ('.._ren') and one theorem, a field a fact of the dump's own or the kernel's comparison; each contract: ONE APPLICATION.
-/
import Derived.Shelf.Strings.SlTrimAscii
import Derived.Shelf.Strings.Prefix
import Derived.Test.YteodfondjogmoaaGreatDoorProg
import Derived.Test.YteodfondjogmoaaGreatDoorTWe
import Derived.Test.YteodfondjogmoaaGreatDoorRNLfF
import Derived.Test.YteodfondjogmoaaGreatDoorJd
namespace Go.Proofs
open Go.Shelf
def Tryz.lays160_ren : Go.Shelf.Ren := ⟨fun | 160 => 130 | 232 => 169 | 231 => 168 | 227 => 170 | 234 => 172 | 233 => 171 | 236 => 174 | 235 => 173 | 228 => 198 | 271 => 201 | 151 => 200 | 197 => 199 | 120 => 220 | 152 => 219 | 260 => 218 | 137 => 227 | 119 => 228 | 224 => 229 | 225 => 230 | 217 => 232 | 266 => 233 | n => n, fun | 9 => 9 | 4 => 4 | 3 => 3 | 5 => 5 | 117 => 271 | 116 => 270 | 0 => 0 | 124 => 274 | 21 => 21 | 105 => 290 | 46 => 187 | 119 => 317 | 139 => 320 | 138 => 319 | n => n, fun | 3 => 0 | 4 => 1 | n => n⟩
theorem Tryz.lays160 : Go.Proofs.Lays.n160 Tryz.prog Tryz.lays160_ren := {
  mixed := by kernel_rfl
  f119 := Tryz.func228.trans (congrArg some (by kernel_rfl))
  f120 := Tryz.func220.trans (congrArg some (by kernel_rfl))
  f137 := Tryz.func227.trans (congrArg some (by kernel_rfl))
  f151 := Tryz.func200.trans (congrArg some (by kernel_rfl))
  f152 := Tryz.func219.trans (congrArg some (by kernel_rfl))
  f160 := Tryz.func130.trans (congrArg some (by kernel_rfl))
  f197 := Tryz.func199.trans (congrArg some (by kernel_rfl))
  f217 := Tryz.func232.trans (congrArg some (by kernel_rfl))
  f224 := Tryz.func229.trans (congrArg some (by kernel_rfl))
  f225 := Tryz.func230.trans (congrArg some (by kernel_rfl))
  f227 := Tryz.func170.trans (congrArg some (by kernel_rfl))
  f228 := Tryz.func198.trans (congrArg some (by kernel_rfl))
  f231 := Tryz.func168.trans (congrArg some (by kernel_rfl))
  f232 := Tryz.func169.trans (congrArg some (by kernel_rfl))
  f233 := Tryz.func171.trans (congrArg some (by kernel_rfl))
  f234 := Tryz.func172.trans (congrArg some (by kernel_rfl))
  f235 := Tryz.func173.trans (congrArg some (by kernel_rfl))
  f236 := Tryz.func174.trans (congrArg some (by kernel_rfl))
  f260 := Tryz.func218.trans (congrArg some (by kernel_rfl))
  f266 := Tryz.func233.trans (congrArg some (by kernel_rfl))
  f271 := Tryz.func201.trans (congrArg some (by kernel_rfl))
  t0 := Tryz.underlying0
  a0 := Tryz.isAgg0
  z0 := Tryz.sizeOf0
  v0 := Tryz.zeroValue0
  t3 := Tryz.underlying3
  a3 := Tryz.isAgg3
  z3 := Tryz.sizeOf3
  v3 := Tryz.zeroValue3
  t4 := Tryz.underlying4
  a4 := Tryz.isAgg4
  z4 := Tryz.sizeOf4
  v4 := Tryz.zeroValue4
  t5 := Tryz.underlying5
  a5 := Tryz.isAgg5
  z5 := Tryz.sizeOf5
  v5 := Tryz.zeroValue5
  t9 := Tryz.underlying9
  a9 := Tryz.isAgg9
  z9 := Tryz.sizeOf9
  v9 := Tryz.zeroValue9
  t21 := Tryz.underlying21
  a21 := Tryz.isAgg21
  z21 := Tryz.sizeOf21
  v21 := Tryz.zeroValue21
  t46 := Tryz.underlying187
  a46 := Tryz.isAgg187
  z46 := Tryz.sizeOf187
  v46 := Tryz.zeroValue187
  t105 := Tryz.underlying290
  a105 := Tryz.isAgg290
  z105 := Tryz.sizeOf290
  v105 := Tryz.zeroValue290
  t116 := Tryz.underlying270
  a116 := Tryz.isAgg270
  z116 := Tryz.sizeOf270
  t117 := Tryz.underlying271
  a117 := Tryz.isAgg271
  z117 := Tryz.sizeOf271
  v117 := Tryz.zeroValue271
  t119 := Tryz.underlying317
  a119 := Tryz.isAgg317
  z119 := Tryz.sizeOf317
  t124 := Tryz.underlying274
  a124 := Tryz.isAgg274
  z124 := Tryz.sizeOf274
  v124 := Tryz.zeroValue274
  t138 := Tryz.underlying319
  a138 := Tryz.isAgg319
  z138 := Tryz.sizeOf319
  v138 := Tryz.zeroValue319
  t139 := Tryz.underlying320
  a139 := Tryz.isAgg320
  z139 := Tryz.sizeOf320
  v139 := Tryz.zeroValue320
  g3 := by kernel_rfl
  g4 := by kernel_rfl }
def Tryz.lays99_ren : Go.Shelf.Ren := ⟨fun | 99 => 59 | 206 => 104 | n => n, fun | 9 => 9 | 4 => 4 | 3 => 3 | n => n, fun | n => n⟩
theorem Tryz.lays99 : Go.Proofs.Lays.n99 Tryz.prog Tryz.lays99_ren := {
  mixed := by kernel_rfl
  f99 := Tryz.func59.trans (congrArg some (by kernel_rfl))
  f206 := Tryz.func104.trans (congrArg some (by kernel_rfl))
  t3 := Tryz.underlying3
  a3 := Tryz.isAgg3
  z3 := Tryz.sizeOf3
  v3 := Tryz.zeroValue3
  t4 := Tryz.underlying4
  a4 := Tryz.isAgg4
  z4 := Tryz.sizeOf4
  v4 := Tryz.zeroValue4
  t9 := Tryz.underlying9
  a9 := Tryz.isAgg9
  z9 := Tryz.sizeOf9
  v9 := Tryz.zeroValue9 }
def Tryz.lays101_ren : Go.Shelf.Ren := ⟨fun | 101 => 89 | 208 => 131 | 206 => 104 | n => n, fun | 9 => 9 | 4 => 4 | 3 => 3 | n => n, fun | n => n⟩
theorem Tryz.lays101 : Go.Proofs.Lays.n101 Tryz.prog Tryz.lays101_ren := {
  mixed := by kernel_rfl
  f101 := Tryz.func89.trans (congrArg some (by kernel_rfl))
  f206 := Tryz.func104.trans (congrArg some (by kernel_rfl))
  f208 := Tryz.func131.trans (congrArg some (by kernel_rfl))
  t3 := Tryz.underlying3
  a3 := Tryz.isAgg3
  z3 := Tryz.sizeOf3
  v3 := Tryz.zeroValue3
  t4 := Tryz.underlying4
  a4 := Tryz.isAgg4
  z4 := Tryz.sizeOf4
  v4 := Tryz.zeroValue4
  t9 := Tryz.underlying9
  a9 := Tryz.isAgg9
  z9 := Tryz.sizeOf9
  v9 := Tryz.zeroValue9 }
end Go.Proofs
/- poem.empty, titled, indent; a piece's kind. Conditions: those of each theorem. -/
namespace Go.Proofs.YteodfondjogmoaaGreatDoor
open Go Go.RowKit Go.Lib Go.Shelf
set_option linter.unusedVariables false
set_option linter.unusedSimpArgs false
def trimB (s : ByteArray) : ByteArray := ⟨(Lib.trimS s.data.toList [32, 9]).toArray⟩
set_option maxHeartbeats 1000000 in
theorem empty22 (s : ByteArray) (hs : s.size ≤ 140737488355328) (w : World) : Calls Tryz.prog 87 #[.string s] w fun e w' => e = .returned (.bool (trimB s).toList.isEmpty) ∧ Below w.heap.size w w' := by
  have hcon := Any.strings_Trim_laid Tryz.lays160 (by kernel_rfl) s ⟨#[32, 9]⟩ w (by omega) (by decide) (ascii_of_all (by decide))
  change Calls Tryz.prog 130 _ _ (fun e w' => e = .returned (.string (trimB s)) ∧ Below w.heap.size w w') at hcon
  generalize trimB s = r at hcon ⊢
  have hC := hid hcon
  clear hcon
  go_enter Tryz.func87, Tryz.ntmps87
  go_wp2_with (go_at_call 130; (with_reducible refine Calls.mono hC.out ?_); rintro e w' ⟨rfl, hB⟩)
  go_ret
  exact ⟨rfl, hB⟩
def titB (s : ByteArray) : Bool := (s.toList == [35]) || Lib.hasPrefix s.data.toList [35, 32]
theorem titB_pos {s : ByteArray} (h : titB s = true) : 1 ≤ s.size := by
  rcases s with ⟨⟨l⟩⟩
  cases l with
  | nil =>
    unfold titB at h
    rw [ByteArray.toList_eq] at h
    exact absurd h (by decide)
  | cons a l => show 1 ≤ (a :: l).length; simp
set_option maxHeartbeats 1000000 in
theorem titled23 (s : ByteArray) (w : World) : Calls Tryz.prog 88 #[.string s] w fun e w' => e = .returned (.bool (titB s)) ∧ w = w' := by
  have hcon := Any.strings_HasPrefix Tryz.lays99 s ⟨#[35, 32]⟩ w
  change Calls Tryz.prog 59 _ _ (fun e w' => e = .returned (.bool (Lib.hasPrefix s.data.toList [35, 32])) ∧ w' = w) at hcon
  have hC := hid hcon
  unfold titB
  generalize Lib.hasPrefix s.data.toList [35, 32] = b at *
  clear hcon
  by_cases ha : s.toList = [35]
  · rw [show (s.toList == [35]) = true by rw [ha]; rfl]
    go_enter Tryz.func88, Tryz.ntmps88
    go_wp2_with fail
    go_ret
    exact ⟨rfl, rfl⟩
  · have hf : (s.toList == [35]) = false := by simpa using ha
    have hf := hid hf
    go_enter Tryz.func88, Tryz.ntmps88
    go_wp2_with (go_at_call 59; (with_reducible refine Calls.mono hC.out ?_); rintro e w' ⟨rfl, rfl⟩)
    go_ret
    exact ⟨rkb (by first | rfl | (rw [hf.out]; cases b <;> rfl)), rfl⟩
theorem trimp24 (s : ByteArray) (w : World) : Calls Tryz.prog 89 #[.string s, .string ⟨#[32]⟩] w fun e w' => (∃ r, e = .returned (.string r)) ∧ w = w' := by
  have hcon := Any.strings_TrimPrefix Tryz.lays101 s ⟨#[32]⟩ w
  exact Calls.mono hcon (fun e w' h => ⟨⟨_, h.1⟩, h.2.symm⟩)
set_option maxHeartbeats 1000000 in
theorem indent25 (s : ByteArray) (hs : s.size ≤ 140737488355328) (W : World) : Calls Tryz.prog 90 #[.string s] W fun e w' => ∃ n : Nat, n ≤ s.size ∧ e = .returned (.int .i64 n) ∧ Below W.heap.size W w' := by
  go_enter Tryz.func90, Tryz.ntmps90
  go_wp2_with fail
  go_loopw [3] (fun i wr => ∃ (n pos : Nat), n ≤ pos ∧ pos ≤ s.size ∧ i = .int .i64 n ∧ Hid (wr.heap[W.heap.size]? = some (.stringIter s pos)) ∧ Hid (Below W.heap.size W wr) ∧ W.heap.size < wr.heap.size) (fun i wr => s.size - wr.iterPos W.heap.size)
  case atStart =>
    exact ⟨0, 0, Nat.le_refl _, Nat.zero_le _, rfl, hid (heap_alloc_new W _), hid ((Below.refl _ W).alloc (Nat.le_refl _) _), at_lt (heap_alloc_new W _)⟩
  case round =>
    obtain ⟨n, pos, hnp, hps, rfl, hit, hB, hIl⟩ := hrel
    have hpos0 := hid (iterPos_of hit.out)
    by_cases hp : pos < s.size
    · have hnx : ∀ ty, (Instr.next (.pointer (some ⟨W.heap.size, 0, none⟩)) true ty).run Tryz.prog wr = _ := fun ty => Lib.run_next_any_at wr W.heap.size s pos ty hit.out hp
      change ∀ ty, (Instr.next (.pointer (some ⟨W.heap.size, 0, none⟩)) true ty).run Tryz.prog wr = .ok (.tuple #[.bool true, .int .i64 pos, .int .i32 (rnN s pos)]) (wr.iterAt W.heap.size s (pos + wdN s pos)) at hnx
      have hwd := wdN_pos hp
      have hit1 := hid (iterAt_heap wr W.heap.size s pos (pos + wdN s pos) hit.out)
      have hB1 : Hid (Below W.heap.size W (wr.iterAt W.heap.size s (pos + wdN s pos))) := hid (hB.out.trans ⟨rfl, rfl, rfl, by rw [iterAt_size]; exact Nat.le_refl _, fun k hk => iterAt_other wr W.heap.size k s _ (by omega)⟩)
      have hI1 : W.heap.size < (wr.iterAt W.heap.size s (pos + wdN s pos)).heap.size := by rw [iterAt_size]; exact hIl
      have hmeas : Hid (1 ≤ wdN s pos ∧ pos + wdN s pos ≤ s.size ∧ pos < s.size) := hid ⟨hwd.1, hwd.2.2, hp⟩
      obtain ⟨W1, hW1⟩ : ∃ W1, wr.iterAt W.heap.size s (pos + wdN s pos) = W1 := ⟨_, rfl⟩
      rw [hW1] at hnx hit1 hB1 hI1
      clear hW1 hwd hit hB
      generalize rnN s pos = r at *
      by_cases hr : r = 32
      · have e1 : ((r : Int) != 32) = false := by subst hr; decide
        clear hr
        go_wp2_with fail
        go_roundw
        case rel => exact ⟨n + 1, pos + wdN s pos, by have := hmeas.out; omega, hmeas.out.2.1, by go_num, hit1, hB1, hI1⟩
        case measure =>
          have h1 := iterPos_of hit1.out
          have h2 := hpos0.out
          have h3 := hmeas.out
          omega
      · have e1 : ((r : Int) != 32) = true := by
          have : ¬ ((r : Int) = 32) := by omega
          simpa using this
        clear hr
        go_wp2_with fail
        go_ret
        exact ⟨n, by omega, rfl, hB1.out⟩
    · obtain rfl : pos = s.size := by omega
      have hnx : ∀ ty, (Instr.next (.pointer (some ⟨W.heap.size, 0, none⟩)) true ty).run Tryz.prog wr = _ := fun ty => Lib.run_next_end_at wr W.heap.size s s.size ty hit.out hp
      go_wp2_with fail
      go_ret
      exact ⟨n, hnp, rfl, hB.out⟩
theorem rn_bd {s : ByteArray} {p : Nat} (h : p < s.size) : rnN s p ≤ 1114111 := by
  have := R.dec_at s p h
  unfold rnN
  cases hd : Utf8.decode s p with
  | mk r w =>
    rw [hd] at this
    cases this with
    | rune _ _ h1 h2 h3 h4 h5 h6 h7 => first | omega | (dsimp only; omega)
    | lost h1 h2 => decide
    | broken h0 h1 => decide
theorem of_ok : OfOk := by
  intro s p hp w
  have hb := rn_bd hp
  unfold pcV kP
  cases hbr : isBr s p
  · have hK := hid (fun w => R.kind81 (rnN s p) (by omega) (by omega) w)
    have hB : Hid (Below w.heap.size w (w.alloc (.cells #[.int .i64 p, .int .i64 (wdN s p), .int .i32 (rnN s p), .bool false] 149))) := hid ((Below.refl _ w).alloc (Nat.le_refl _) _)
    generalize rnN s p = r at *
    generalize wdN s p = wd at *
    clear hb hbr
    go_enter Tryz.func156, Tryz.ntmps156
    go_wp2_with (go_at_call 118; (with_reducible refine Calls.mono (hK.out _) ?_); rintro e w' ⟨rfl, rfl⟩)
    go_ret
    exact ⟨rfl, hB.out⟩
  · have hB : Hid (Below w.heap.size w (w.alloc (.cells #[.int .i64 p, .int .i64 (wdN s p), .int .i32 (rnN s p), .bool true] 149))) := hid ((Below.refl _ w).alloc (Nat.le_refl _) _)
    generalize rnN s p = r at *
    generalize wdN s p = wd at *
    clear hb hbr
    go_enter Tryz.func156, Tryz.ntmps156
    go_wp2_with fail
    go_ret
    exact ⟨rfl, hB.out⟩
end Go.Proofs.YteodfondjogmoaaGreatDoor
/- Folding as the program does it: units first, then what is written of each. No program in sight. Conditions: those of each theorem. -/
namespace Go.Proofs.YteodfondjogmoaaGreatDoor
open Go Go.RowKit Go.Lib
set_option linter.unusedVariables false
/-- a unit: where it stands, a broken byte, a base (-1: there is a broken byte) -/
structure FU where
  p : Nat
  br : Nat
  base : Int
def letU (u : FU) : Bool := decide (0 ≤ u.base) && letN u.base.toNat
def lastLet (l : List FU) : Bool := match l.getLast? with
  | some u => letU u
  | none => false
def fuStep (s : ByteArray) (l : List FU) (p : Nat) : List FU :=
  if isBr s p then l ++ [⟨p, (s.get! p).toNat, -1⟩]
  else if lastLet l && markN (rnN s p) then l
  else l ++ [⟨p, 0, (baseN (rnN s p) : Nat)⟩]
def fuL (s : ByteArray) (ps : List Nat) : List FU := ps.foldl (fuStep s) []
theorem fuL_snoc (s : ByteArray) (ps : List Nat) (x : Nat) : fuL s (ps ++ [x]) = fuStep s (fuL s ps) x := by unfold fuL; rw [List.foldl_append]; rfl
/-- what is written of a unit -/
def wrU (u : FU) : List UInt8 := if u.base < 0 then [UInt8.ofNat u.br] else bytesP ((plainN u.base.toNat).map .ru)
theorem lastLet_snoc (l : List FU) (u : FU) : lastLet (l ++ [u]) = letU u := by unfold lastLet; rw [List.getLast?_append]; rfl
theorem bytesP_app (a b : List FPc) : bytesP (a ++ b) = bytesP a ++ bytesP b := by unfold bytesP; rw [List.flatMap_append]
theorem foldP_ru (q : Bool) (r : Nat) (l : List FPc) : foldP q (.ru r :: l) = if q && markN r then foldP q l else (plainN (baseN r)).map .ru ++ foldP (letN (baseN r)) l := by rw [foldP]
theorem foldP_br (q : Bool) (b : UInt8) (l : List FPc) : foldP q (.br b :: l) = .br b :: foldP false l := by rw [foldP]
theorem bytesP_br (b : UInt8) (l : List FPc) : bytesP (.br b :: l) = b :: bytesP l := rfl
theorem wrU_br (p : Nat) (b : UInt8) : [(⟨p, b.toNat, -1⟩ : FU)].flatMap wrU = [b] := by
  rw [List.flatMap_cons, List.flatMap_nil, List.append_nil]
  unfold wrU
  dsimp only
  rw [if_pos (by omega), UInt8.ofNat_toNat]
theorem wrU_ru (p r : Nat) : [(⟨p, 0, (r : Nat)⟩ : FU)].flatMap wrU = bytesP ((plainN r).map .ru) := by
  rw [List.flatMap_cons, List.flatMap_nil, List.append_nil]
  unfold wrU
  dsimp only
  rw [if_neg (by omega), Int.toNat_natCast]
theorem letU_ru (p r : Nat) : letU ⟨p, 0, (r : Nat)⟩ = letN r := by
  unfold letU
  dsimp only
  rw [decide_eq_true (by omega), Bool.true_and, Int.toNat_natCast]
theorem letU_br (p b : Nat) : letU ⟨p, b, -1⟩ = false := by
  unfold letU
  dsimp only
  rw [decide_eq_false (by omega), Bool.false_and]
theorem fu_fold (s : ByteArray) : ∀ (ps : List Nat) (l : List FU), (ps.foldl (fuStep s) l).flatMap wrU = l.flatMap wrU ++ bytesP (foldP (lastLet l) (ps.map (pcAt s)))
  | [], l => by simp [foldP, bytesP]
  | p :: ps, l => by
    rw [List.foldl_cons, fu_fold s ps, List.map_cons]
    cases hb : isBr s p with
    | true =>
      have e1 : pcAt s p = .br (s.get! p) := by unfold pcAt; rw [if_pos hb]
      have e2 : fuStep s l p = l ++ [⟨p, (s.get! p).toNat, -1⟩] := by unfold fuStep; rw [if_pos hb]
      rw [e1, e2, lastLet_snoc, List.flatMap_append, List.append_assoc, foldP_br, bytesP_br, letU_br, wrU_br, List.singleton_append]
    | false =>
      have hb' : ¬ isBr s p = true := by rw [hb]; decide
      have e1 : pcAt s p = .ru (rnN s p) := by unfold pcAt; rw [if_neg hb']
      rw [e1, foldP_ru]
      by_cases hq : (lastLet l && markN (rnN s p)) = true
      · have e2 : fuStep s l p = l := by unfold fuStep; rw [if_neg hb', if_pos hq]
        rw [e2, if_pos hq]
      · have e2 : fuStep s l p = l ++ [⟨p, 0, (baseN (rnN s p) : Nat)⟩] := by unfold fuStep; rw [if_neg hb', if_neg hq]
        rw [e2, if_neg hq, lastLet_snoc, List.flatMap_append, List.append_assoc, bytesP_app, letU_ru, wrU_ru]
/-- what is written of a text's units is its folded form -/
theorem fu_fine (s : ByteArray) : (fuL s (posL s 0)).flatMap wrU = (foldB s).data.toList := by
  unfold fuL foldB piecesP
  rw [fu_fold]
  rfl
/-- kinds, in the form of the program's tests -/
theorem kind_let (r : Nat) (h : r ≤ 1114111) : (R.kindI r = 1) ↔ letN r = true := by
  unfold letN R.greatB R.smallB
  rw [Bool.or_eq_true_iff, decide_eq_true_iff, decide_eq_true_iff]
  unfold R.kindI
  constructor
  · intro hk
    by_cases hg : R.GreatP r ∨ R.SmallP r
    · exact hg
    · exfalso
      rw [if_neg hg] at hk
      repeat' split at hk
      all_goals omega
  · intro hg
    have h1 : ¬ ((r : Int) < 0 ∨ (55296 ≤ (r : Int) ∧ (r : Int) ≤ 57343) ∨ (r : Int) > 1114111) := by
      unfold R.GreatP R.SmallP at hg
      omega
    rw [if_neg h1, if_pos hg]
theorem kind_mark (r : Nat) (h : r ≤ 1114111) : (R.kindI r = 2) ↔ markN r = true := by
  unfold markN
  rw [decide_eq_true_iff]
  constructor
  · intro hk
    unfold R.kindI at hk
    by_cases hg : R.GreatP r ∨ R.SmallP r
    · rw [if_pos hg] at hk; split at hk <;> omega
    · rw [if_neg hg] at hk
      split at hk
      · omega
      · split at hk
        · omega
        · exfalso
          repeat' split at hk
          all_goals omega
  · intro hm
    have hg : ¬ (R.GreatP r ∨ R.SmallP r) := by unfold R.GreatP R.SmallP; omega
    unfold R.kindI
    rw [if_neg (by omega), if_neg hg, if_pos (by omega)]
/-! places by count of steps, for the kernel -/
def posF (s : ByteArray) : Nat → Nat → List Nat
  | 0, _ => []
  | n + 1, p => if p < s.size then p :: posF s n (p + wdN s p) else []
theorem posL_posF (s : ByteArray) : ∀ (n p : Nat), s.size - p ≤ n → posL s p = posF s n p
  | 0, p, h => by rw [posL_end (by omega)]; rfl
  | n + 1, p, h => by
    unfold posF
    by_cases hp : p < s.size
    · have := wdN_pos hp
      rw [posL_more hp, if_pos hp, posL_posF s n _ (by omega)]
    · rw [posL_end hp, if_neg hp]
end Go.Proofs.YteodfondjogmoaaGreatDoor
/- Layer 4's joined letters as an iterator. Conditions: those of each theorem. -/
namespace Go.Proofs.YteodfondjogmoaaGreatDoor
open Go Go.RowKit Go.Lib Go.Shelf
set_option linter.unusedVariables false
set_option linter.unusedSimpArgs false
attribute [local go_sem] Oper.semAt_some
/-- the row of runes from which the tables are made -/
def rowsR : List Nat := [768, 65, 192, 69, 200, 73, 204, 79, 210, 85, 217, 97, 224, 101, 232, 105, 236, 111, 242, 117, 249, 1045, 1024, 1048, 1037, 1077, 1104, 1080, 1117, 769, 65, 193, 69, 201, 73, 205, 79, 211, 85, 218, 89, 221, 97, 225, 101, 233, 105, 237, 111, 243, 117, 250, 121, 253, 67, 262, 76, 313, 78, 323, 82, 340, 83, 346, 90, 377, 99, 263, 108, 314, 110, 324, 114, 341, 115, 347, 122, 378, 913, 902, 917, 904, 919, 905, 921, 906, 927, 908, 933, 910, 937, 911, 945, 940, 949, 941, 951, 942, 953, 943, 959, 972, 965, 973, 969, 974, 1043, 1027, 1050, 1036, 1075, 1107, 1082, 1116, 970, 912, 971, 944, 770, 65, 194, 69, 202, 73, 206, 79, 212, 85, 219, 97, 226, 101, 234, 105, 238, 111, 244, 117, 251, 67, 264, 71, 284, 72, 292, 74, 308, 83, 348, 87, 372, 89, 374, 99, 265, 103, 285, 104, 293, 106, 309, 115, 349, 119, 373, 121, 375, 771, 65, 195, 78, 209, 79, 213, 97, 227, 110, 241, 111, 245, 73, 296, 85, 360, 105, 297, 117, 361, 772, 65, 256, 69, 274, 73, 298, 79, 332, 85, 362, 97, 257, 101, 275, 105, 299, 111, 333, 117, 363, 774, 65, 258, 69, 276, 71, 286, 73, 300, 79, 334, 85, 364, 97, 259, 101, 277, 103, 287, 105, 301, 111, 335, 117, 365, 1048, 1049, 1059, 1038, 1080, 1081, 1091, 1118, 775, 67, 266, 69, 278, 71, 288, 73, 304, 90, 379, 99, 267, 101, 279, 103, 289, 122, 380, 776, 65, 196, 69, 203, 73, 207, 79, 214, 85, 220, 97, 228, 101, 235, 105, 239, 111, 246, 117, 252, 121, 255, 89, 376, 1045, 1025, 1030, 1031, 1077, 1105, 1110, 1111, 921, 938, 933, 939, 953, 970, 965, 971, 778, 65, 197, 85, 366, 97, 229, 117, 367, 779, 79, 336, 85, 368, 111, 337, 117, 369, 780, 67, 268, 68, 270, 69, 282, 76, 317, 78, 327, 82, 344, 83, 352, 84, 356, 90, 381, 99, 269, 100, 271, 101, 283, 108, 318, 110, 328, 114, 345, 115, 353, 116, 357, 122, 382, 807, 67, 199, 71, 290, 75, 310, 76, 315, 78, 325, 82, 342, 83, 350, 84, 354, 99, 231, 103, 291, 107, 311, 108, 316, 110, 326, 114, 343, 115, 351, 116, 355, 808, 65, 260, 69, 280, 73, 302, 85, 370, 97, 261, 101, 281, 105, 303, 117, 371]
def rowsB : ByteArray := ⟨(rowsR.flatMap encN).toArray⟩
/-- base, mark, joined letter -/
def pairsP : List Nat → Nat → Nat → Bool → List (Nat × Nat × Nat)
  | [], _, _, _ => []
  | r :: l, p0, p1, b => if markN r then pairsP l p0 r true else if b then pairsP l r p1 false else (p0, p1, r) :: pairsP l p0 p1 true
def pairsL : List (Nat × Nat × Nat) := pairsP rowsR 0 0 true
set_option maxRecDepth 100000 in
theorem rows_ok : rowsR.all (fun r => decide (r < 55296)) = true := by decide +kernel
set_option maxRecDepth 100000 in
theorem pairs_split : pairsL.map (fun x => (x.2.2, x.1, x.2.1)) = splitT := by decide +kernel
def rowB (rs : List Nat) : ByteArray := ⟨(rs.flatMap encN).toArray⟩
theorem row_runes (rs : List Nat) (h : ∀ r ∈ rs, RuneOk r) : (posL (rowB rs) 0).map (pcAt (rowB rs)) = rs.map .ru := by
  refine pieces_runes (rowB rs) rs 0 h ?_
  unfold rowB
  rw [List.drop_zero]
theorem rn_of_pc (s : ByteArray) : ∀ (l : List Nat) (rs : List Nat), l.map (pcAt s) = rs.map .ru → l.map (rnN s) = rs
  | [], [], _ => rfl
  | [], r :: t, h => by cases h
  | p :: t, [], h => by cases h
  | p :: t, r :: u, h => by
    rw [List.map_cons, List.map_cons, List.cons.injEq] at h
    rw [List.map_cons, rn_of_pc s t u h.2]
    have h1 := h.1
    unfold pcAt at h1
    split at h1
    · cases h1
    · rw [FPc.ru.inj h1]
theorem row_rn (rs : List Nat) (h : ∀ r ∈ rs, RuneOk r) : (posL (rowB rs) 0).map (rnN (rowB rs)) = rs := rn_of_pc _ _ _ (row_runes rs h)
theorem enc_sum : ∀ rs : List Nat, (rs.map fun a => (encN a).length).sum ≤ 4 * rs.length
  | [] => by simp
  | r :: t => by
    rw [List.map_cons, List.sum_cons, List.length_cons]
    have := encN_len r
    have := enc_sum t
    repeat' split at *
    all_goals omega
theorem row_size (rs : List Nat) : (rowB rs).size ≤ 4 * rs.length := by
  have : (rowB rs).size = (rs.flatMap encN).length := by unfold rowB; simp [ByteArray.size]
  rw [this, List.length_flatMap]
  exact enc_sum rs
theorem iter_new (w : World) (s : ByteArray) : (w.iter s 0).heap[w.heap.size]? = some (.stringIter s 0) := heap_alloc_new w _
theorem iter_kept (T : Nat → Prop) (w : World) (s : ByteArray) (p : Nat) : Kept T w (w.iter s p) := Kept.alloc _ _ _
theorem iter_size (w : World) (s : ByteArray) (p : Nat) : (w.iter s p).heap.size = w.heap.size + 1 := World.size_alloc _ _
theorem rows_rn : (posL rowsB 0).map (rnN rowsB) = rowsR := row_rn rowsR (fun r hr => .inl (of_decide_eq_true (List.all_eq_true.1 rows_ok r hr)))
set_option maxRecDepth 100000 in
theorem rows_len : rowsR.length ≤ 10000 := by decide +kernel
theorem iter_eq {W : World} {k p : Nat} {S S' : ByteArray} (e : S = S') (h : W.heap[k]? = some (.stringIter S p)) : W.heap[k]? = some (.stringIter S' p) := e ▸ h
abbrev pairV (x : Nat × Nat × Nat) : Array Value := #[.agg #[.int .i32 x.1, .int .i32 x.2.1], .int .i32 x.2.2]
theorem kind_is2 (r : Nat) (h : r ≤ 1114111) : (R.kindI r == 2) = markN r := by
  rw [Bool.eq_iff_iff, beq_iff_eq]
  exact kind_mark r h
set_option maxRecDepth 100000 in
set_option maxHeartbeats 2000000 in
theorem pairs152 (n : Nat) (l : Nat) (J Jx : List (Nat × Nat × Nat) → (Nat → Prop) → World → Prop) (W : World) (hJ : Free W.heap.size J) (hX : Free W.heap.size Jx)
    (hY : ∀ pre S x W1, J pre S W1 → W.heap.size ≤ W1.heap.size → (∀ k, S k → W.heap.size ≤ k ∧ k < W1.heap.size) → pre ++ [x] <+: pairsL → YieldAt Fence.wide (n - 1) Tryz.prog l (pairV x) W1 fun e W' =>
      Kept (fun k => False ∨ S k) W1 W' ∧ ((e = .returned (.bool true) ∧ J (pre ++ [x]) S W') ∨ (e = .returned (.bool false) ∧ Jx (pre ++ [x]) S W')))
    (h0 : J [] none' W) :
    CallsIn Fence.wide n Tryz.prog 149 #[.func (.yield l) #[] #[]] W fun e W' => (∃ v, e = .returned v) ∧ (J pairsL none' W' ∨ (∃ pre, pre <+: pairsL ∧ Jx pre none' W')) := by
  obtain ⟨N, hNN⟩ : ∃ N, N = W.heap.size := ⟨_, rfl⟩
  obtain ⟨S, hS⟩ : ∃ S : Nat → Prop, S = fun k => k = N ∨ k = N + 1 := ⟨_, rfl⟩
  have S1 : Hid (S N) := hid (by rw [hS]; exact .inl rfl)
  have S3 : Hid (S (N + 1)) := hid (by rw [hS]; exact .inr rfl)
  have S2 : Hid (∀ k, S k → k = N ∨ k = N + 1) := hid (fun k h => by rw [hS] at h; exact h)
  have hsz : rowsB.size ≤ 140737488355328 := by
    have := row_size rowsR
    have := rows_len
    have e : rowsB.size = (rowB rowsR).size := rfl
    omega
  have hI0 : ∀ o, Hid (J [] S ((W.alloc (.cells #[.int .i32 0, .int .i32 0] 239)).iter o 0)) := fun o => hid (hJ [] none' S _ _ h0 (fun k h => h.elim) ((Kept.alloc _ _ _).trans (iter_kept _ _ _ _)) (fun k h => .inr (by have := S2.out k h; rw [iter_size, World.size_alloc]; omega)))
  have HNN := hid hNN
  clear hS h0
  refine callsIn_of_wp Tryz.func149 rfl trivial ?_ rfl
  simp only [Tryz.ntmps149, List.size_toArray, List.length_cons, List.length_nil, Nat.reduceAdd, Nat.reduceSub, Array.replicate_succ, Array.replicate_zero, List.push_toArray, List.append_toArray, List.nil_append, List.cons_append]
  have HJ := hid hJ
  have HX := hid hX
  have HY := hid hY
  have HSZ := hid hsz
  have HI0 := hid hI0
  have HP : Hid (pairsP ((posL rowsB 0).map (rnN rowsB)) 0 0 true = pairsL) := hid (by rw [rows_rn]; rfl)
  clear hJ hX hY hsz hI0
  gi_wp2_with fail
  rw [← hNN]
  clear hNN
  gi_loopw [3] (fun b wr => ∃ (pos p0 p1 : Nat) (bb : Bool) (ps : List (Nat × Nat × Nat)), b = .bool bb ∧ Hid (pairsL = ps ++ pairsP ((posL rowsB pos).map (rnN rowsB)) p0 p1 bb) ∧ pos ≤ rowsB.size ∧ Hid (J ps S wr) ∧ Hid (wr.heap[N + 1]? = some (.stringIter rowsB pos)) ∧ Hid (Blk wr N 239 #[.int .i32 p0, .int .i32 p1]) ∧ N + 1 < wr.heap.size) (fun b wr => rowsB.size - wr.iterPos (N + 1))
  case atStart =>
    have e : ∀ S0 : ByteArray, S0 = rowsB → ((W.alloc (.cells #[.int .i32 0, .int .i32 0] 239)).iter S0 0).heap[N + 1]? = some (.stringIter rowsB 0) := fun S0 h => by
      have := iter_new (W.alloc (.cells #[.int .i32 0, .int .i32 0] 239)) S0
      rw [World.size_alloc, ← HNN.out] at this
      rw [h] at this ⊢
      exact this
    refine ⟨0, 0, 0, true, [], rfl, hid HP.out.symm, Nat.zero_le _, HI0.out _, hid (e _ (by kernel_rfl)), hid ?h2, ?h3⟩
    case h2 => rw [HNN.out]; exact (Blk.new W 239 #[.int .i32 0, .int .i32 0]).keep (iter_kept (fun _ => True) _ _ _) trivial
    case h3 => rw [iter_size, World.size_alloc]; have := HNN.out; omega
  case round =>
    obtain ⟨pos, p0, p1, bb, ps, rfl, hL, hps, hJs, hit, hbk, hIl⟩ := hrel
    have hpos0 := hid (iterPos_of hit.out)
    by_cases hp : pos < rowsB.size
    · have hnx : ∀ ty, (Instr.next (.pointer (some ⟨N + 1, 0, none⟩)) true ty).run Tryz.prog wr = _ := fun ty => Lib.run_next_any_at wr (N + 1) rowsB pos ty hit.out hp
      change ∀ ty, (Instr.next (.pointer (some ⟨N + 1, 0, none⟩)) true ty).run Tryz.prog wr = .ok (.tuple #[.bool true, .int .i64 pos, .int .i32 (rnN rowsB pos)]) (wr.iterAt (N + 1) rowsB (pos + wdN rowsB pos)) at hnx
      have hwd := wdN_pos hp
      have hkI : Kept (fun k => ¬ S k) wr (wr.iterAt (N + 1) rowsB (pos + wdN rowsB pos)) := ⟨rfl, rfl, rfl, by rw [iterAt_size]; exact Nat.le_refl _, fun k _ hk => iterAt_other wr (N + 1) k rowsB _ (fun e => hk (e ▸ S3.out))⟩
      have hJ1 : Hid (J ps S (wr.iterAt (N + 1) rowsB (pos + wdN rowsB pos))) := hid (HJ.out _ _ _ _ _ hJs.out (fun k h => by have := S2.out k h; have := HNN.out; omega) hkI (fun k h => .inl h))
      have hit1 := hid (iterAt_heap wr (N + 1) rowsB pos (pos + wdN rowsB pos) hit.out)
      have hbk1 : Hid (Blk (wr.iterAt (N + 1) rowsB (pos + wdN rowsB pos)) N 239 #[.int .i32 p0, .int .i32 p1]) := hid ((iterAt_other wr (N + 1) N rowsB _ (by omega)).trans hbk.out)
      have hI1 : N + 1 < (wr.iterAt (N + 1) rowsB (pos + wdN rowsB pos)).heap.size := by rw [iterAt_size]; exact hIl
      have hL2 := hL.out
      rw [posL_more hp, List.map_cons] at hL2
      have hrn := rn_bd hp
      generalize hr : rnN rowsB pos = r at *
      clear hr
      have hmeas : Hid (1 ≤ wdN rowsB pos ∧ pos + wdN rowsB pos ≤ rowsB.size ∧ pos < rowsB.size) := hid ⟨hwd.1, hwd.2.2, hp⟩
      generalize wr.iterAt (N + 1) rowsB (pos + wdN rowsB pos) = W1 at *
      have hK := hid (fun w => R.kind81 (r : Int) (by omega) (by omega) w)
      have hm2 := kind_is2 r hrn
      have HL2 := hid hL2
      clear hkI hwd hL hL2 hJs hit hbk
      gi_wp2_with fail
      refine ⟨trivial, (by intro h; cases h), ?_⟩
      with_reducible refine CallsIn.mono (callsIn_wide.2 (hK.out _)) ?_
      rintro e w' ⟨rfl, rfl⟩
      have hNs : ¬ ¬ S N := fun h => h S1.out
      have b0 := hbk1.out.cell (k := 0) rfl
      have b1 := hbk1.out.cell (k := 1) rfl
      have z0 := hbk1.out.froz 0
      have z1 := hbk1.out.froz 1
      cases hm : markN r with
      | true =>
        rw [hm] at hm2
        have HLm : Hid (pairsL = ps ++ pairsP ((posL rowsB (pos + wdN rowsB pos)).map (rnN rowsB)) p0 r true) := hid (by
          have := HL2.out
          unfold pairsP at this
          rw [if_pos hm] at this
          exact this)
        have G1 := hid (hbk1.out.upd 1 (.int .i32 r) rfl)
        have G2 := hid (Kept.setCell (T := fun k => k ≠ N) W1 (p := ⟨N, 1, none⟩) (fun h => h rfl) (.int .i32 r))
        have G3 := hid (HJ.out _ _ S _ _ hJ1.out (fun k h => by have := S2.out k h; have := HNN.out; omega) (Kept.setCell (T := fun k => ¬ S k) W1 (p := ⟨N, 1, none⟩) hNs (.int .i32 r)) (fun k h => .inl h))
        clear HL2
        gi_wp2_with fail
        go_roundw
        case rel => exact ⟨_, p0, r, true, ps, rfl, HLm, hmeas.out.2.1, G3, hid (G2.out.obj hit1.out (by show N + 1 ≠ N; omega)), G1, by have := G2.out.size; omega⟩
        case measure =>
          have h1 := iterPos_of (G2.out.obj hit1.out (by show N + 1 ≠ N; omega))
          have h2 := hpos0.out
          have h3 := hmeas.out
          omega
      | false =>
        rw [hm] at hm2
        have hmn : ¬ markN r = true := by rw [hm]; decide
        cases bb with
        | true =>
          have HLm : Hid (pairsL = ps ++ pairsP ((posL rowsB (pos + wdN rowsB pos)).map (rnN rowsB)) r p1 false) := hid (by
            have := HL2.out
            unfold pairsP at this
            rw [if_neg hmn, if_pos rfl] at this
            exact this)
          have G1 := hid (hbk1.out.upd 0 (.int .i32 r) rfl)
          have G2 := hid (Kept.setCell (T := fun k => k ≠ N) W1 (p := ⟨N, 0, none⟩) (fun h => h rfl) (.int .i32 r))
          have G3 := hid (HJ.out _ _ S _ _ hJ1.out (fun k h => by have := S2.out k h; have := HNN.out; omega) (Kept.setCell (T := fun k => ¬ S k) W1 (p := ⟨N, 0, none⟩) hNs (.int .i32 r)) (fun k h => .inl h))
          clear HL2
          gi_wp2_with fail
          go_roundw
          case rel => exact ⟨_, r, p1, false, ps, rfl, HLm, hmeas.out.2.1, G3, hid (G2.out.obj hit1.out (by show N + 1 ≠ N; omega)), G1, by have := G2.out.size; omega⟩
          case measure =>
            have h1 := iterPos_of (G2.out.obj hit1.out (by show N + 1 ≠ N; omega))
            have h2 := hpos0.out
            have h3 := hmeas.out
            omega
        | false =>
          have HLm : Hid (pairsL = (ps ++ [(p0, p1, r)]) ++ pairsP ((posL rowsB (pos + wdN rowsB pos)).map (rnN rowsB)) p0 p1 true) := hid (by
            have := HL2.out
            unfold pairsP at this
            rw [if_neg hmn, if_neg (by decide)] at this
            rw [List.append_assoc]
            exact this)
          have hpre : Hid (ps ++ [(p0, p1, r)] <+: pairsL) := hid ⟨_, HLm.out.symm⟩
          obtain ⟨fn, tmps, assign, body, hy, hRd2⟩ := HY.out _ S (p0, p1, r) W1 hJ1.out (by have := HNN.out; omega) (fun k h => by have := S2.out k h; have := HNN.out; omega) hpre.out
          change (Instr.yield l #[.agg #[.int .i32 p0, .int .i32 p1], .int .i32 r]).run Tryz.prog W1 = _ at hy
          have HRd := hid hRd2
          clear HL2 hRd2
          gi_wp2_with fail
          refine ⟨(by intro h; cases h), ?_⟩
          refine HRd.out.mono ?_
          rintro e W3 ⟨hk3, (⟨rfl, hJ3⟩ | ⟨rfl, hJx3⟩)⟩
          · have G1 := hid (hk3.obj hit1.out (.inr S3.out))
            have G2 := hid (hbk1.out.keep hk3 (.inr S1.out))
            have G3 := hk3.size
            have GJ := hid hJ3
            clear hk3 hJ3 hy b0 b1 z0 z1
            gi_wp2_with fail
            go_roundw
            case rel => exact ⟨_, p0, p1, true, _, rfl, HLm, hmeas.out.2.1, GJ, G1, G2, by omega⟩
            case measure =>
              have h1 := iterPos_of G1.out
              have h2 := hpos0.out
              have h3 := hmeas.out
              omega
          · have GX := hid (HX.out _ _ none' _ _ hJx3 (fun k h => by have := S2.out k h; have := HNN.out; have := hk3.size; omega) (Kept.refl _ _) (fun k h => h.elim))
            clear hk3 hJx3 hy b0 b1 z0 z1
            gi_wp2_with fail
            refine bodyPost_ret (results_none rfl _ _ _) rfl ?_
            exact ⟨⟨_, rfl⟩, .inr ⟨_, hpre.out, GX.out⟩⟩
    · obtain rfl : pos = rowsB.size := by omega
      have hnx : ∀ ty, (Instr.next (.pointer (some ⟨N + 1, 0, none⟩)) true ty).run Tryz.prog wr = _ := fun ty => Lib.run_next_end_at wr (N + 1) rowsB rowsB.size ty hit.out hp
      have hJ9 : Hid (J pairsL none' wr) := by
        rw [hL.out, posL_end hp]
        show Hid (J (ps ++ []) none' wr)
        rw [List.append_nil]
        exact hid (HJ.out _ _ none' _ _ hJs.out (fun k h => by have := S2.out k h; have := HNN.out; omega) (Kept.refl _ _) (fun k h => h.elim))
      clear hL hJs
      gi_wp2_with fail
      go_end0
      exact ⟨⟨_, rfl⟩, .inl hJ9.out⟩
theorem pairs_seq (n : Nat) (w : World) : SeqS Fence.wide n Tryz.prog 149 #[] pairV (fun _ => False) pairsL w := fun l J Jx W hW hJ hX hY h0 =>
  pairs152 n l J Jx W hJ hX hY h0
end Go.Proofs.YteodfondjogmoaaGreatDoor
