/- RuleNames: the numbers, the limits, nil rules. Conditions: those of each theorem. -/
import Derived.Test.YtieifhfgedoiaaaDoorNVj
import Derived.Test.YtieifhfgedoiaaaDoorNVq
import Derived.Laws.MakeOwn
import Derived.Lib.BufferRead
namespace Go.Proofs.YtieifhfgedoiaaaDoor
open Go.RowKit Go.Lib
set_option linter.unusedVariables false
set_option linter.unusedSimpArgs false
theorem splitA_joins (r : List UInt8) : ∀ (L : List ByteArray), (∀ t ∈ L, NoNl t) → splitA (joinL L ++ r) [] = L.map (fun t => t.data.toList) ++ splitA r []
 | [], h => rfl
 | t :: L, h => by
  have h1 : joinL (t :: L) ++ r = t.data.toList ++ (10 :: (joinL L ++ r)) := by unfold joinL; simp
  rw [h1, splitA_no _ _ _ (h t (by simp))]
  show (if (10 : UInt8) = 10 then _ else _) = _
  rw [if_pos rfl, splitA_joins r L (fun u hu => h u (by simp [hu]))]
  simp
theorem splitA_one {l : List UInt8} (h : ∀ c ∈ l, c ≠ 10) : splitA l [] = [l] := by
 have h1 := splitA_no l [] [] h
 rw [List.append_nil] at h1
 rw [h1]
 rfl
theorem linesB_joins {s q : ByteArray} {L : List ByteArray} (hs : s.data.toList = joinL L ++ q.data.toList) (hL : ∀ t ∈ L, NoNl t) (hq : NoNl q) : linesB s = L ++ [q] := by
 apply map_ba
 rw [linesB_split, hs, splitA_joins _ L hL, List.map_append, splitA_one hq]
 rfl
/-- so many rules, which are all one -/
def rep (k : Nat) : Rs := ⟨fun _ => none, List.replicate k wakeR⟩
def quL : ByteArray := ⟨#[40, 97, 41, 32, 62, 32, 113]⟩
def paL : ByteArray := ⟨#[41]⟩
def wakesT (n : Nat) : List UInt8 := joinL (List.replicate n wakeL)
theorem wakesT_succ (n : Nat) : wakesT (n + 1) = wakesT n ++ [40, 97, 41, 32, 62, 32, 97, 10] := by
 unfold wakesT joinL
 rw [List.replicate_succ', List.flatMap_append, List.flatMap_singleton]
 rfl
theorem wakesT_len : ∀ n, (wakesT n).length = n * 8
 | 0 => rfl
 | n + 1 => by rw [wakesT_succ, List.length_append, wakesT_len n]; simp; omega
theorem rep_len (k : Nat) : (rep k).rules.length = k := List.length_replicate
theorem rep_add (k : Nat) : (rep k).addR wakeR = rep (k + 1) := by
 unfold rep Rs.addR
 rw [List.replicate_succ']
theorem wake_line {k : Nat} (hk : k < 256) : lineR (rep k) wakeL = .ok (rep (k + 1)) := by
 unfold lineR
 rw [if_neg (by decide), if_neg (by decide)]
 unfold ruleR
 rw [show (rep k).said = fun _ => false from rfl, wake_parts]
 dsimp only
 rw [if_neg (by rw [rep_len]; omega), rep_add]
theorem wake_many : ∀ (n k p : Nat) (M : List ByteArray), k + n ≤ 256 → linesR (rep k) p (List.replicate n wakeL ++ M) = linesR (rep (k + n)) (p + n * 8) M
 | 0, k, p, M, h => by simp
 | n + 1, k, p, M, h => by
  rw [List.replicate_succ, List.cons_append]
  show (match lineR (rep k) wakeL with | .ok y => linesR y (p + wakeL.size + 1) (List.replicate n wakeL ++ M) | .bad e q => .bad e (p + q)) = _
  rw [wake_line (by omega)]
  show linesR (rep (k + 1)) (p + 7 + 1) (List.replicate n wakeL ++ M) = _
  rw [wake_many n (k + 1) _ M (by omega)]
  congr 1
  · congr 1; omega
  · omega
theorem wake_no : ∀ t ∈ List.replicate 256 wakeL, NoNl t := by
 intro t ht
 rw [List.eq_of_mem_replicate ht]
 intro c hc
 revert c
 decide
theorem noNl_of {q : ByteArray} (h : q.data.toList.all (fun c => c != 10) = true) : NoNl q := fun c hc => by simpa using List.all_eq_true.1 h c hc
theorem many_lines {s q : ByteArray} (hs : s.data.toList = wakesT 256 ++ q.data.toList) (hq : NoNl q) : linesR Rs.empty 0 (linesB s) = linesR (rep 256) 2048 [q] := by
 rw [linesB_joins hs wake_no hq]
 exact wake_many 256 0 0 [q] (by omega)
theorem many_ok {s : ByteArray} (hs : s.data.toList = wakesT 256) : linesR Rs.empty 0 (linesB s) = .ok (rep 256) := by
 rw [many_lines (q := ⟨#[]⟩) (by rw [hs]; simp) (noNl_of rfl)]
 show (match lineR (rep 256) ⟨#[]⟩ with | .ok y => linesR y (2048 + (⟨#[]⟩ : ByteArray).size + 1) [] | .bad e q => .bad e (2048 + q)) = _
 have h : lineR (rep 256) ⟨#[]⟩ = .ok (rep 256) := by unfold lineR; rw [if_pos (.inl rfl)]
 rw [h]
 rfl
theorem qu_parts : partsR (fun _ => false) quL = .bad 80 6 := by
 have h0 : hashR quL 0 = (false, 0) := hash_no (by kernel_rfl)
 have h3 : hashR quL 3 = (false, 3) := hash_no (by kernel_rfl)
 rw [partsR_eq, h0]
 dsimp only
 rw [itemsR_end (by kernel_rfl) (by kernel_rfl)]
 show (bodyR quL 0).bind _ = _
 unfold bodyR
 rw [mustR_yes (by kernel_rfl)]
 show ((piecesR quL 1 []).bind _).bind _ = _
 rw [piecesR_more (by kernel_rfl) (by decide), show (1 + wdN quL 1) = 2 by kernel_rfl, piecesR_no (by kernel_rfl)]
 rw [show oneAt quL 1 = ⟨97, false, 0⟩ by kernel_rfl]
 show ((mustR quL 2 41).bind fun _ p => Res.ok [(⟨97, false, 0⟩ : One)] p).bind _ = _
 rw [mustR_yes (by kernel_rfl)]
 show (itemsR (fun _ => false) quL 3 []).bind _ = _
 rw [itemsR_end (by kernel_rfl) (by kernel_rfl)]
 show (endR quL 3).bind _ = _
 unfold endR
 rw [h3]
 show ((mustL quL [32, 62] 3).bind _).bind _ = _
 rw [show mustL quL [32, 62] 3 = .ok () 5 by kernel_rfl]
 show (saysR quL 5).bind _ = _
 unfold saysR
 rw [if_neg (by decide), mustR_yes (by kernel_rfl)]
 show ((if 6 = quL.size then (.bad 90 6 : Res (List Ph)) else phR quL 6)).bind _ = _
 rw [if_neg (by decide)]
 have hp : phAt quL 6 = none := by
  unfold phAt
  rw [show trOf (rnN quL 6) = none by kernel_rfl]
 have hs : phsR quL 6 [] = ([], 6) := by
  rw [phsR, dif_pos (by decide)]
  simp only [hp]
 unfold phR
 rw [hs]
 rfl
theorem many_qu {s : ByteArray} (hs : s.data.toList = wakesT 256 ++ quL.data.toList) : linesR Rs.empty 0 (linesB s) = .bad 3 2048 := by
 rw [many_lines hs (noNl_of rfl)]
 show (match lineR (rep 256) quL with | .ok y => linesR y (2048 + quL.size + 1) [] | .bad e q => .bad e (2048 + q)) = _
 have h : lineR (rep 256) quL = .bad 3 0 := by
  unfold lineR
  rw [if_neg (by decide), if_neg (by decide)]
  unfold ruleR
  rw [show (rep 256).said = fun _ => false from rfl, qu_parts]
  dsimp only
  rw [if_pos ⟨rep_len 256, by decide⟩]
 rw [h]
theorem many_pa {s : ByteArray} (hs : s.data.toList = wakesT 256 ++ paL.data.toList) : linesR Rs.empty 0 (linesB s) = .bad 90 2048 := by
 rw [many_lines hs (noNl_of rfl)]
 show (match lineR (rep 256) paL with | .ok y => linesR y (2048 + paL.size + 1) [] | .bad e q => .bad e (2048 + q)) = _
 have hpa : partsR (fun _ => false) paL = .bad 90 0 := by
  have h0 : hashR paL 0 = (false, 0) := hash_no (by kernel_rfl)
  rw [partsR_eq, h0]
  dsimp only
  rw [itemsR_end (by kernel_rfl) (by kernel_rfl)]
  have hb : bodyR paL 0 = .bad 90 0 := by
   unfold bodyR
   have hm : mustR paL 0 40 = .bad 90 0 := by kernel_rfl
   rw [hm]
   rfl
  simp only [Res.bind, hb]
 have h : lineR (rep 256) paL = .bad 90 0 := by
  unfold lineR
  rw [if_neg (by decide), if_neg (by decide)]
  unfold ruleR
  rw [show (rep 256).said = fun _ => false from rfl, hpa]
  dsimp only
  rw [if_neg (fun hh => by have := hh.2; omega)]
 rw [h]
theorem nl_lines : ∀ (n p : Nat), linesR Rs.empty p (List.replicate n (⟨#[]⟩ : ByteArray)) = .ok Rs.empty
 | 0, p => rfl
 | n + 1, p => by
  rw [List.replicate_succ]
  show (match lineR Rs.empty ⟨#[]⟩ with | .ok y => linesR y (p + 0 + 1) (List.replicate n ⟨#[]⟩) | .bad e q => .bad e (p + q)) = _
  have h : lineR Rs.empty ⟨#[]⟩ = .ok Rs.empty := by unfold lineR; rw [if_pos (.inl rfl)]
  rw [h]
  exact nl_lines n _
theorem nl_join : ∀ n, joinL (List.replicate n (⟨#[]⟩ : ByteArray)) = List.replicate n 10
 | 0 => rfl
 | n + 1 => by
  rw [List.replicate_succ, List.replicate_succ, ← nl_join n]
  rfl
theorem nl_ok {s : ByteArray} {n : Nat} (hs : s.data.toList = List.replicate n 10) : linesR Rs.empty 0 (linesB s) = .ok Rs.empty := by
 have h : linesB s = List.replicate n (⟨#[]⟩ : ByteArray) ++ [⟨#[]⟩] := linesB_joins (by rw [hs, nl_join]; simp) (fun t ht => by rw [List.eq_of_mem_replicate ht]; exact noNl_of rfl) (noNl_of rfl)
 rw [h, ← List.replicate_succ']
 exact nl_lines _ _
theorem rep_rule {k j : Nat} (h1 : 1 ≤ j) (h2 : j ≤ k) : ruleAt (rep k) j = some wakeR := by
 unfold ruleAt
 rw [if_neg (by omega)]
 unfold rep
 rw [List.getElem?_replicate, if_pos (by omega)]
theorem rep_cover (x : Rs) : coversB x wakeR wakeR = true := rfl
theorem rep_dead {k j : Nat} (h1 : 2 ≤ j) (h2 : j ≤ k) : deadB (rep k) j = true := by
 unfold deadB
 rw [List.any_eq_true]
 refine ⟨1, List.mem_range.2 (by omega), ?_⟩
 unfold coverN
 rw [rep_rule (Nat.le_refl 1) (by omega), rep_rule (by omega) h2]
 exact rep_cover _
theorem rep_first (k : Nat) : deadB (rep k) 1 = false := rfl
theorem rep_deadT (k : Nat) : ∀ i, i + 1 ≤ k → (deadT (rep k) (i + 1)).length = i
 | 0, h => by rw [deadT_succ, rep_first]; rfl
 | i + 1, h => by
  rw [deadT_succ, List.length_append, rep_deadT k i (by omega), rep_dead (by omega) (by omega)]
  rfl
theorem rep_deadL : (deadL (rep 256)).length = 255 := by
 unfold deadL
 rw [rep_len]
 exact rep_deadT 256 255 (by omega)
end Go.Proofs.YtieifhfgedoiaaaDoor
namespace Go.Proofs.YtieifhfgedoiaaaDoor
open Go.RowKit Go.Lib
open Go.ChangeMaps
set_option linter.unusedVariables false
set_option linter.unusedSimpArgs false
attribute [local go_sem] ExtS.cell ExtS.froz upE_value upE_skip upE_enter Ext.cell Ext.froz
set_option maxRecDepth 100000 in
set_option maxHeartbeats 4000000 in
theorem nil17 (w : World) : Calls Tryd.prog 17 #[.pointer none, .int .i64 0] w fun e w' => e = .returned (.tuple #[.string ⟨#[]⟩, .int .i64 1]) ∧ w = w' := by
  go_enter Tryd.func17, Tryd.ntmps17
  go_wp2_with fail
  exact bodyPost_ret_by (v := .tuple #[.string ⟨#[]⟩, .int .i64 1]) (by simp [results, Tryd.results17, go_sem]) rfl ⟨rfl, rfl⟩
set_option maxRecDepth 100000 in
set_option maxHeartbeats 4000000 in
theorem nil20 (w : World) (s : ByteArray) (z : Int) : Calls Tryd.prog 20 #[.pointer none, .string s, .int .i64 z] w fun e w' => e = .returned (.tuple #[.int .i64 0, .int .i64 1]) ∧ w = w' := by
  go_enter Tryd.func20, Tryd.ntmps20
  go_wp2_with fail
  exact bodyPost_ret_by (v := .tuple #[.int .i64 0, .int .i64 1]) (by simp [results, Tryd.results20, go_sem]) rfl ⟨rfl, rfl⟩
set_option maxRecDepth 100000 in
set_option maxHeartbeats 4000000 in
theorem nil23 (w : World) (s : ByteArray) : Calls Tryd.prog 23 #[.pointer none, .string s] w fun e w' => e = .returned (.tuple #[.slice none 0 0, .int .i64 1]) ∧ w = w' := by
  go_enter Tryd.func23, Tryd.ntmps23
  go_wp2_with fail
  exact bodyPost_ret_by (v := .tuple #[.slice none 0 0, .int .i64 1]) (by simp [results, Tryd.results23, go_sem]) rfl ⟨rfl, rfl⟩
set_option maxRecDepth 100000 in
set_option maxHeartbeats 4000000 in
theorem nil24 (w : World) (s : ByteArray) : Calls Tryd.prog 24 #[.pointer none, .string s] w fun e w' => e = .returned (.tuple #[.slice none 0 0, .int .i64 1]) ∧ w = w' := by
  have hN := hid (nil23 w s)
  go_enter Tryd.func24, Tryd.ntmps24
  go_wp2_with fail
  go_at_call 23
  with_reducible refine Calls.mono (hN.out) ?_
  rintro e w1 ⟨rfl, rfl⟩
  skip
  go_wp2_with fail
  go_loopw [8, 19] (fun v8 v19 wr => v8 = .slice none 0 0 ∧ v19 = .int .i64 0 ∧ wr = w) (fun _ _ _ => 0)
  case atStart => exact ⟨rfl, rfl, rfl⟩
  case round =>
    obtain ⟨rfl, rfl, rfl⟩ := hrel
    go_wp2_with fail
    exact bodyPost_ret_by (v := .tuple #[.slice none 0 0, .int .i64 1]) (by simp [results, Tryd.results24, go_sem]) rfl ⟨rfl, rfl⟩
set_option maxRecDepth 100000 in
set_option maxHeartbeats 4000000 in
theorem nil14 (w : World) : Calls Tryd.prog 14 #[.pointer none] w fun e w' => e = .returned (.int .i64 0) ∧ w = w' := by
  go_enter Tryd.func14, Tryd.ntmps14
  go_wp2_with fail
  go_ret
  exact ⟨rfl, rfl⟩
set_option maxRecDepth 100000 in
set_option maxHeartbeats 4000000 in
theorem nil15 (w : World) : Calls Tryd.prog 15 #[.pointer none] w fun e w' => e = .returned (.string ⟨#[]⟩) ∧ w = w' := by
  go_enter Tryd.func15, Tryd.ntmps15
  go_wp2_with fail
  go_ret
  exact ⟨rfl, rfl⟩
set_option maxRecDepth 100000 in
set_option maxHeartbeats 4000000 in
theorem nil28 (w : World) : Calls Tryd.prog 28 #[.pointer none, .int .i64 1, .int .i64 1] w fun e w' => e = .returned (.bool false) ∧ w = w' := by
  go_enter Tryd.func28, Tryd.ntmps28
  go_wp2_with fail
  go_ret
  exact ⟨rfl, rfl⟩
set_option maxRecDepth 100000 in
set_option maxHeartbeats 4000000 in
theorem nil32 (w : World) : Calls Tryd.prog 32 #[.pointer none] w fun e w' => e = .returned (.slice none 0 0) ∧ w = w' := by
  go_enter Tryd.func32, Tryd.ntmps32
  go_wp2_with fail
  go_ret
  exact ⟨rfl, rfl⟩
set_option maxRecDepth 100000 in
set_option maxHeartbeats 4000000 in
theorem read_long (s : ByteArray) (w : World) (hs : 65536 < s.size) : Calls Tryd.prog 27 #[.string s] w fun e w' => e = .returned (.tuple #[.pointer none, .agg #[.int .i64 3, .int .i64 65536]]) ∧ Below w.heap.size w w' := by
  have q1 : decide ((65536 : Int) < s.size) = true := decide_eq_true (by omega)
  have q2 : decide (65536 < s.size) = true := decide_eq_true hs
  go_enter Tryd.func27, Tryd.ntmps27
  go_wp2_with fail
  refine bodyPost_ret (v := .tuple #[.pointer none, .agg #[.int .i64 3, .int .i64 65536]]) (by simp [results, Tryd.results27, go_sem]) rfl ⟨rfl, ?_⟩
  repeat' (first | exact Below.refl _ _ | refine below_set ?_ ?_ _ _ | refine Below.alloc ?_ ?_ _ | (simp; done) | omega)
theorem info5n : (Tryd.prog.info? 5).map (fun i => (i.zero, i.size, i.bytes)) = some (some (.int .u8 0), 1, 1) := by kernel_rfl
/-- so many bytes, as they are made -/
theorem make_nl : ∃ A0 : Array Value, A0.size = 65537 ∧ ∀ w : World, (Instr.makeSlice 77 (.int .i64 65537) (.int .i64 65537)).run Tryd.prog w = .ok (.slice (some ⟨w.heap.size, 0, none⟩) 65537 65537) (w.alloc (.cells A0 5)) := by
  obtain ⟨i5, hi5, hz5, hs5, hb5⟩ := info_parts info5n
  refine ⟨madeCells (Value.int .u8 0).cells 65537, size_madeCells _ _, fun w => ?_⟩
  have h := run_makeSlice (P := Tryd.prog) w 77 5 i5 (.int .u8 0) Tryd.underlying77 hi5 hz5 .i64 .i64 65537 65537 (by omega) (by omega) (by rw [hs5]; decide) (by rw [hb5]; decide) (by decide)
  rw [hs5] at h
  exact h
theorem nl_conv {w : World} {g o n : Nat} {cur : Array Value} (hB : Blk w g 5 cur) (h : ∀ j, j < o + n → cur[j]? = some (.int .u8 10)) : (convert 77 9 (.slice (some ⟨g, o, none⟩) n n)).run Tryd.prog w = .ok (.string ⟨(List.replicate n (10 : UInt8)).toArray⟩) w := by
  have h1 := run_convert_bytes_back (P := Tryd.prog) w 77 9 5 ⟨g, o, none⟩ n (List.replicate n (10 : UInt8)) Tryd.underlying77 Tryd.underlying5 Tryd.underlying9 (fun j hj => by
    rw [List.length_replicate] at hj
    rw [List.getElem_replicate]
    have hadd : (⟨g, o, none⟩ : Addr).add j = ⟨g, o + j, none⟩ := by unfold Addr.add; split <;> simp_all
    rw [hadd]
    exact hB.cell (k := o + j) (h _ (by omega)))
  rw [List.length_replicate] at h1
  exact h1
theorem nl_text (n : Nat) : ∃ t : ByteArray, (⟨(List.replicate n (10 : UInt8)).toArray⟩ : ByteArray) = t ∧ t.size = n ∧ t.data.toList = List.replicate n 10 :=
  ⟨_, rfl, by show (List.replicate n (10 : UInt8)).toArray.size = n; simp, rfl⟩
theorem empty_print : (⟨(printL Rs.empty).toArray⟩ : ByteArray) = ⟨#[]⟩ := by
  have h : printL Rs.empty = [] := by decide
  rw [h]
set_option maxRecDepth 100000 in
set_option maxHeartbeats 8000000 in
theorem names10 (w : World) (m : Int) (hm : w.cell? ⟨0, 0, none⟩ = some (.int .i64 m)) :
    Calls Tryd.prog 10 #[] w fun e w' => e = .returned (.bool true) ∧ Below w.heap.size w w' := by
  have h0 : 0 < w.heap.size := World.block_lt_of_cell? w _ hm
  have hW := hid (wakes11 w m hm)
  have hRT := hid (fun W (hb : Below w.heap.size w W) (u : ByteArray) (hu : u.size ≤ 65536) => read_text u W hu m (by rw [hb.cell (p := ⟨0, 0, none⟩) h0]; exact hm))
  obtain ⟨A0, hA0, hMk⟩ := make_nl
  have HMK := hid hMk
  clear hm hMk
  go_enter Tryd.func10, Tryd.ntmps10
  go_wp2_with fail
  go_at_call 11
  with_reducible refine Calls.mono (hW.out) ?_
  rintro e w1 ⟨rfl, hb1⟩
  skip
  have HB1 := hid hb1
  clear hb1 hW
  go_wp2_with fail
  go_at_call 17
  with_reducible refine Calls.mono ((nil17 w1)) ?_
  rintro e w2 ⟨rfl, rfl⟩
  skip
  go_wp2_with fail
  go_at_call 20
  with_reducible refine Calls.mono ((nil20 w1 _ _)) ?_
  rintro e w3 ⟨rfl, rfl⟩
  skip
  go_wp2_with fail
  go_at_call 23
  with_reducible refine Calls.mono ((nil23 w1 _)) ?_
  rintro e w4 ⟨rfl, rfl⟩
  skip
  go_wp2_with fail
  go_at_call 24
  with_reducible refine Calls.mono ((nil24 w1 _)) ?_
  rintro e w5 ⟨rfl, rfl⟩
  skip
  have hMk := HMK.out
  go_wp2_with fail
  clear hMk
  have kG := hid (Blk.new w1 5 A0)
  have hbA : Below w1.heap.size w1 (w1.alloc (.cells A0 5)) := (Below.refl _ _).alloc (Nat.le_refl _) _
  have HB2 := hid (bnext HB1.out hbA)
  clear hbA
  generalize w1.alloc (.cells A0 5) = W2 at *
  have hgw : w.heap.size ≤ w1.heap.size := HB1.out.size
  obtain ⟨g, hg⟩ : ∃ g, w1.heap.size = g := ⟨_, rfl⟩
  rw [hg] at kG hgw
  simp only [hg]
  clear hg
  go_loopw [11] (fun v11 wr => ∃ (i : Nat) (cur : Array Value), i ≤ 65537 ∧ v11 = .int .i64 i ∧ Hid (Blk wr g 5 cur) ∧ Hid (cur.size = 65537) ∧ Hid (∀ j, j < i → cur[j]? = some (.int .u8 10)) ∧ Hid (Below w.heap.size w wr)) (fun v _ => 65537 - (RowKit.intOf v).toNat)
  case atStart => exact ⟨0, A0, Nat.zero_le _, rfl, kG, hid hA0, hid (fun j hj => absurd hj (by omega)), HB2⟩
  case round =>
    obtain ⟨i, cur, hi, rfl, hK, hC, hN, hB⟩ := hrel
    have hw1 : IntKind.i64.wrap ((i : Int) + 1) = (i : Int) + 1 := Wi64 (by omega)
    by_cases hlt : i < 65537
    · --<A
      have u1 := dT (show (i : Int) < 65537 by omega)
      have u2 : (i : Int) < 65537 := by omega
      have u3 : (0 : Int) ≤ i := by omega
      obtain ⟨u, c0⟩ : ∃ u, wr.cell? ⟨g, i, none⟩ = some u := ⟨_, hK.out.cell (k := i) (Array.getElem?_eq_getElem (by rw [hC.out]; exact hlt))⟩
      have cf := hK.out.froz
      have hK1 := hid (hK.out.set i (.int .u8 10))
      have hB1 := hid (below_set hB.out hgw i (.int .u8 10))
      have hN1 : Hid (∀ j, j < i + 1 → (cur.setIfInBounds i (.int .u8 10))[j]? = some (.int .u8 10)) := hid (fun j hj => by
        rw [Array.getElem?_setIfInBounds]
        by_cases h : i = j
        · rw [if_pos h, if_pos (by rw [hC.out]; omega)]
        · rw [if_neg h]; exact hN.out j (by omega))
      have hC1 : Hid ((cur.setIfInBounds i (.int .u8 10)).size = 65537) := hid (by rw [Array.size_setIfInBounds]; exact hC.out)
      go_wp2_with fail
      go_roundw
      case rel => exact ⟨i + 1, _, by omega, by go_num, hK1, hC1, hN1, hB1⟩
      case measure => simp [RowKit.intOf] <;> omega
    · obtain rfl : i = 65537 := by omega
      rw [show ((65537 : Nat) : Int) = 65537 from rfl]
      have u1 : decide ((65537 : Int) < 65537) = false := by decide
      have hc1 := nl_conv (o := 0) (n := 65537) hK.out (fun j hj => hN.out j (by omega))
      obtain ⟨ta, hta, htaz, htad⟩ := nl_text 65537
      rw [hta] at hc1
      have hLg := hid (read_long ta wr (by rw [htaz]; decide))
      have HNN := hid hN.out
      clear hta htaz htad hC kG HB2
      go_wp2_with fail
      go_at_call 27
      with_reducible refine Calls.mono (hLg.out) ?_
      rintro e w6 ⟨rfl, hb6⟩
      skip
      have hK6 := hid (hK.out.low hb6)
      have hB6 := hid (bnext hB.out hb6)
      clear hc1 hLg hb6 hB hK
      go_upto_region 14 with fail
      have hbA : Below w6.heap.size w6 (w6.alloc (.cells #[.int .i64 3, .int .i64 65536] 68)) := (Below.refl _ _).alloc (Nat.le_refl _) _
      have kS1 := hid (Blk.new w6 68 #[.int .i64 3, .int .i64 65536])
      have hK7 := hid (hK6.out.low hbA)
      have hB7 := hid (bnext hB6.out hbA)
      clear hK6 hB6 hbA
      generalize w6.alloc (.cells #[.int .i64 3, .int .i64 65536] 68) = W7 at *
      generalize w6.heap.size = S1 at *
      have hc2 := nl_conv (o := 1) (n := 65536) hK7.out (fun j hj => HNN.out j (by omega))
      obtain ⟨tb, htb, htbz, htbd⟩ := nl_text 65536
      rw [htb] at hc2
      have hR := hid (hRT.out _ hB7.out tb (by rw [htbz]; exact Nat.le_refl _))
      rw [nl_ok htbd] at hR
      clear htb htbz htbd hK7
      go_wp2_with fail
      go_at_call 27
      with_reducible refine Calls.mono (hR.out) ?_
      rintro e w8 ⟨hG, hb8⟩
      skip
      obtain ⟨X, rfl, hP⟩ := hG.at
      have hP8 := hid hP
      have kS8 := hid (kS1.out.low hb8)
      have hB8 := hid (bnext hB7.out hb8)
      clear hc2 hR hb8 hB7 hP hG kS1
      go_upto_region 15 with fail
      have hbA : Below w8.heap.size w8 (w8.alloc (.cells #[.int .i64 0, .int .i64 0] 68)) := (Below.refl _ _).alloc (Nat.le_refl _) _
      have k2 := hid (Blk.new w8 68 #[.int .i64 0, .int .i64 0])
      have kS9 := hid (kS8.out.low hbA)
      have hP9 := hid (hP8.out.low hbA)
      have hB9 := hid (bnext hB8.out hbA)
      clear kS8 hP8 hB8 hbA
      generalize w8.alloc (.cells #[.int .i64 0, .int .i64 0] 68) = W9 at *
      generalize w8.heap.size = S2 at *
      have e0 : W9.cell? ⟨S2, 0, none⟩ = some (.int .i64 0) := k2.out.cell (k := 0) rfl
      have ef := k2.out.froz
      have hLen := hid (len14 hP9.out)
      rw [show ((Rs.empty.rules.length : Nat) : Int) = 0 from rfl] at hLen
      have hPr := hid (print15 hP9.out (by decide) (by decide))
      rw [empty_print] at hPr
      clear hP9
      go_wp2_with fail
      go_at_call 14
      with_reducible refine Calls.mono (hLen.out) ?_
      rintro e wA ⟨rfl, rfl⟩
      skip
      go_wp2_with fail
      go_at_call 15
      with_reducible refine Calls.mono (hPr.out) ?_
      rintro e wB ⟨rfl, hbB⟩
      skip
      have kSB := hid (kS9.out.low hbB)
      have HBB := hid (bnext hB9.out hbB)
      clear kS9 hB9 hbB hLen hPr e0 ef k2
      go_wp2_with fail
      go_loopw [16, 17] (fun v16 v17 wr => ∃ (k : Nat) (tx : ByteArray), k ≤ 256 ∧ v17 = .int .i64 k ∧ v16 = .string tx ∧ Hid (tx.data.toList = wakesT k) ∧ wr = wB) (fun _ v _ => 256 - (RowKit.intOf v).toNat)
      case atStart => exact ⟨0, ⟨#[]⟩, Nat.zero_le _, rfl, rfl, hid rfl, rfl⟩
      case round =>
        obtain ⟨k, tx, hk, rfl, rfl, hT, rfl⟩ := hrel
        have hw2 : IntKind.i64.wrap ((k : Int) + 1) = (k : Int) + 1 := Wi64 (by omega)
        have hsz : tx.size = k * 8 := by
          have h1 : tx.size = tx.data.toList.length := by simp
          rw [h1, hT.out, wakesT_len]
        by_cases hlt2 : k < 256
        · --<B
          have u3 := dT (show (k : Int) < 256 by omega)
          have z1 : ¬ (tx.size + 8 > 9223372036854775807) := by omega
          have z2 : tx.size ≤ 9223372036854775799 := by omega
          have hT1 : Hid ((tx ++ ⟨#[40, 97, 41, 32, 62, 32, 97, 10]⟩ : ByteArray).data.toList = wakesT (k + 1)) := hid (by
            rw [wakesT_succ, ← hT.out, ByteArray.data_append]
            simp)
          clear hsz
          go_wp2_with fail
          go_roundw
          case rel => exact ⟨k + 1, _, by omega, by go_num, rfl, hT1, by first | rfl | trivial⟩
          case measure => simp [RowKit.intOf] <;> omega
        · obtain rfl : k = 256 := by omega
          rw [show ((256 : Nat) : Int) = 256 from rfl]
          have u3 : decide ((256 : Int) < 256) = false := by decide
          have z1 : ¬ (tx.size + 7 > 9223372036854775807) := by omega
          have z2 : ¬ (tx.size + 1 > 9223372036854775807) := by omega
          have z3 : tx.size ≤ 9223372036854775800 := by omega
          have z4 : tx.size ≤ 9223372036854775806 := by omega
          have hOk := hid (many_ok hT.out)
          have hQu := hid (many_qu (s := tx ++ ⟨#[40, 97, 41, 32, 62, 32, 113]⟩) (by rw [ByteArray.data_append, ← hT.out]; simp; rfl))
          have hPa := hid (many_pa (s := tx ++ ⟨#[41]⟩) (by rw [ByteArray.data_append, ← hT.out]; simp; rfl))
          have s7 : (tx ++ ⟨#[40, 97, 41, 32, 62, 32, 113]⟩ : ByteArray).size ≤ 65536 := by rw [ByteArray.size_append, hsz]; decide
          have s1 : (tx ++ ⟨#[41]⟩ : ByteArray).size ≤ 65536 := by rw [ByteArray.size_append, hsz]; decide
          have hR1 := hid (hRT.out _ HBB.out tx (by omega))
          rw [hOk.out] at hR1
          have HSZ := hid hsz
          clear hT hsz
          go_wp2_with fail
          go_at_call 27
          with_reducible refine Calls.mono (hR1.out) ?_
          rintro e wC ⟨hG, hbC⟩
          skip
          obtain ⟨Y, rfl, hP⟩ := hG.at
          have hPC := hid hP
          have kSC := hid (kSB.out.low hbC)
          have hBC := hid (bnext HBB.out hbC)
          clear hR1 hG hP hbC kSB HBB
          go_upto_region 23 with fail
          have hbA : Below wC.heap.size wC (wC.alloc (.cells #[.int .i64 0, .int .i64 0] 68)) := (Below.refl _ _).alloc (Nat.le_refl _) _
          have k3 := hid (Blk.new wC 68 #[.int .i64 0, .int .i64 0])
          have kS1 := hid (kSC.out.low hbA)
          have hPD := hid (hPC.out.low hbA)
          have hBD := hid (bnext hBC.out hbA)
          clear kSC hPC hBC hbA
          generalize wC.alloc (.cells #[.int .i64 0, .int .i64 0] 68) = WD at *
          generalize wC.heap.size = S3 at *
          have hR2 := hid (hRT.out _ hBD.out _ s7)
          rw [hQu.out] at hR2
          clear s7 hQu
          go_wp2_with fail
          go_at_call 27
          with_reducible refine Calls.mono (hR2.out) ?_
          rintro e wE ⟨hG, hbE⟩
          skip
          have he : e = .returned (.tuple #[.pointer none, .agg #[.int .i64 3, .int .i64 2048]]) := hG
          subst he
          have k3E := hid (k3.out.low hbE)
          have kSE := hid (kS1.out.low hbE)
          have hPE := hid (hPD.out.low hbE)
          have hBE := hid (bnext hBD.out hbE)
          clear hR2 hG hbE k3 kS1 hPD hBD
          go_upto_region 24 with fail
          have hbA : Below wE.heap.size wE (wE.alloc (.cells #[.int .i64 3, .int .i64 2048] 68)) := (Below.refl _ _).alloc (Nat.le_refl _) _
          have k4 := hid (Blk.new wE 68 #[.int .i64 3, .int .i64 2048])
          have k3F := hid (k3E.out.low hbA)
          have kSF := hid (kSE.out.low hbA)
          have hPF := hid (hPE.out.low hbA)
          have hBF := hid (bnext hBE.out hbA)
          clear k3E kSE hPE hBE hbA
          generalize wE.alloc (.cells #[.int .i64 3, .int .i64 2048] 68) = WF at *
          generalize wE.heap.size = S4 at *
          have hR3 := hid (hRT.out _ hBF.out _ s1)
          rw [hPa.out] at hR3
          clear s1 hPa
          go_wp2_with fail
          go_at_call 27
          with_reducible refine Calls.mono (hR3.out) ?_
          rintro e wG ⟨hG, hbG⟩
          skip
          have he : e = .returned (.tuple #[.pointer none, .agg #[.int .i64 90, .int .i64 2048]]) := hG
          subst he
          have k3G := hid (k3F.out.low hbG)
          have k4G := hid (k4.out.low hbG)
          have kSG := hid (kSF.out.low hbG)
          have hPG := hid (hPF.out.low hbG)
          have hBG := hid (bnext hBF.out hbG)
          clear hR3 hG hbG k3F k4 kSF hPF hBF
          go_upto_region 25 with fail
          have hbA : Below wG.heap.size wG (wG.alloc (.cells #[.int .i64 90, .int .i64 2048] 68)) := (Below.refl _ _).alloc (Nat.le_refl _) _
          have k5 := hid (Blk.new wG 68 #[.int .i64 90, .int .i64 2048])
          have k3H := hid (k3G.out.low hbA)
          have k4H := hid (k4G.out.low hbA)
          have kSH := hid (kSG.out.low hbA)
          have hPH := hid (hPG.out.low hbA)
          have hBH := hid (bnext hBG.out hbA)
          clear k3G k4G kSG hPG hBG hbA
          generalize wG.alloc (.cells #[.int .i64 90, .int .i64 2048] 68) = WH at *
          generalize wG.heap.size = S5 at *
          have f0 : WH.cell? ⟨S3, 0, none⟩ = some (.int .i64 0) := k3H.out.cell (k := 0) rfl
          have ff := k3H.out.froz
          have hLen := hid (len14 hPH.out)
          rw [rep_len] at hLen
          rw [show ((256 : Nat) : Int) = 256 from rfl] at hLen
          have hOkH := hid (linesR_good hOk.out empty_good)
          have hDd := hid (dead32 hPH.out hOkH.out (by rw [rep_len]; exact Nat.le_refl _))
          rw [rep_deadL] at hDd
          clear hPH
          go_wp2_with fail
          go_at_call 14
          with_reducible refine Calls.mono (hLen.out) ?_
          rintro e wI ⟨rfl, rfl⟩
          skip
          go_wp2_with fail
          go_at_call 32
          with_reducible refine Calls.mono (hDd.out) ?_
          rintro e wJ ⟨⟨vd, rfl, hd⟩, hbJ⟩
          skip
          obtain ⟨pd, cd, rfl⟩ := own_shape hd
          have k4J := hid (k4H.out.low hbJ)
          have k5J := hid (k5.out.low hbJ)
          have kSJ := hid (kSH.out.low hbJ)
          have hBJ := hid (bnext hBH.out hbJ)
          clear f0 ff hLen hDd hd hbJ k3H k4H k5 kSH hBH
          have a0 : wJ.cell? ⟨S1, 0, none⟩ = some (.int .i64 3) := kSJ.out.cell (k := 0) rfl
          have a1 : wJ.cell? ⟨S1, 1, none⟩ = some (.int .i64 65536) := kSJ.out.cell (k := 1) rfl
          have af := kSJ.out.froz
          have b0 : wJ.cell? ⟨S4, 0, none⟩ = some (.int .i64 3) := k4J.out.cell (k := 0) rfl
          have b1 : wJ.cell? ⟨S4, 1, none⟩ = some (.int .i64 2048) := k4J.out.cell (k := 1) rfl
          have bf := k4J.out.froz
          have c0 : wJ.cell? ⟨S5, 0, none⟩ = some (.int .i64 90) := k5J.out.cell (k := 0) rfl
          have c1 : wJ.cell? ⟨S5, 1, none⟩ = some (.int .i64 2048) := k5J.out.cell (k := 1) rfl
          have cf := k5J.out.froz
          have t9 : (2048 : Int) = tx.size := by rw [HSZ.out]; rfl
          have t8 : ((2048 : Int) == (tx.size : Int)) = true := by rw [← t9]; rfl
          clear t9
          go_wp2_with fail
          go_at_call 15
          with_reducible refine Calls.mono ((nil15 wJ)) ?_
          rintro e wK ⟨rfl, rfl⟩
          skip
          go_wp2_with fail
          go_at_call 14
          with_reducible refine Calls.mono ((nil14 wJ)) ?_
          rintro e wK ⟨rfl, rfl⟩
          skip
          go_wp2_with fail
          go_at_call 28
          with_reducible refine Calls.mono ((nil28 wJ)) ?_
          rintro e wK ⟨rfl, rfl⟩
          skip
          go_wp2_with fail
          go_at_call 32
          with_reducible refine Calls.mono ((nil32 wJ)) ?_
          rintro e wK ⟨rfl, rfl⟩
          skip
          go_wp2_with fail
          go_ret
          exact ⟨rfl, hBJ.out⟩
end Go.Proofs.YtieifhfgedoiaaaDoor
