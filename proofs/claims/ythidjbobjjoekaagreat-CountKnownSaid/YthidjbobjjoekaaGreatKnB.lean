/- What nil tallies, nil poems and the constants answer. Conditions: none. -/
import Derived.Test.YthidjbobjjoekaaGreatKnA
namespace Go.Proofs.YthidjbobjjoekaaGreat
open Go.RowKit Go.Lib Go.Sort Go.Shelf
set_option linter.unusedVariables false
set_option linter.unusedSimpArgs false
attribute [local go_sem] e49 e53
theorem pinf_any (w : World) : Calls Tryz.prog 5 #[.int .i64 1] w fun e w' => e = .returned (.float .f64 9218868437227405312) ∧ w = w' := by
  go_enter Tryz.func5, Tryz.ntmps5
  go_wp2
  go_ret
  exact ⟨rfl, rfl⟩
theorem neg0_any (w : World) : Calls Tryz.prog 6 #[.float .f64 0, .float .f64 13830554455654793216] w fun e w' => e = .returned (.float .f64 9223372036854775808) ∧ w = w' := by
  go_enter Tryz.func6, Tryz.ntmps6
  go_wp2
  go_ret
  exact ⟨by first | rfl | (refine congrArg (fun z => Ending.returned (Value.float .f64 z)) ?_; decide), rfl⟩
theorem of_nil (w : World) : Calls Tryz.prog 23 #[.pointer none] w fun e w' => e = .returned (.tuple #[.pointer none, .int .i64 1]) ∧ Below w.heap.size w w' := by
  have k1 : Blk ((w.alloc (.cells #[.pointer none] 44)).alloc (.cells #[.int .i64 0] 36)) w.heap.size 44 #[.pointer none] := (Blk.new w _ _).alloc _
  have k2 : Blk ((w.alloc (.cells #[.pointer none] 44)).alloc (.cells #[.int .i64 0] 36)) (w.heap.size + 1) 36 #[.int .i64 0] := by
    have := Blk.new (w.alloc (.cells #[.pointer none] 44)) 36 #[.int .i64 0]
    rw [World.size_alloc] at this; exact this
  have b : Below w.heap.size w ((w.alloc (.cells #[.pointer none] 44)).alloc (.cells #[.int .i64 0] 36)) := ((Below.refl _ _).alloc (Nat.le_refl _) _).alloc (by simp) _
  have c1 := k1.cell (k := 0) (v := .pointer none) rfl
  have c2 := k2.cell (k := 0) (v := .int .i64 0) rfl
  have f1 := k1.froz 0
  have f2 := k2.froz 0
  have l1 := k1.lt
  have l2 := k2.lt
  have K1 := hid k1
  have K2 := hid k2
  have B := hid b
  clear k1 k2 b
  go_enter Tryz.func23, Tryz.ntmps23
  go_wp2_with fail
  have e1 := (K1.out.set 0 (.pointer none)).other (B' := w.heap.size + 1) (by omega) (k := 0) (.int .i64 1)
  have e2 := (K2.out.other (B' := w.heap.size) (by omega) (k := 0) (.pointer none)).set 0 (.int .i64 1)
  have r1 := e1.cell (k := 0) (v := .pointer none) rfl
  have r2 := e2.cell (k := 0) (v := .int .i64 1) rfl
  refine bodyPost_ret_by (v := .tuple #[.pointer none, .int .i64 1]) (by simp [results, Tryz.results23, go_sem, r1, r2]) rfl ⟨rfl, ?_⟩
  exact ((Below.refl _ _).alloc (Nat.le_refl _) _).alloc (by simp) _
theorem lengths_nil (w : World) : Calls Tryz.prog 24 #[.pointer none, .int .i64 1] w fun e w' => e = .returned (.tuple #[.slice none 0 0, .int .i64 1]) ∧ Below w.heap.size w w' := by
  go_enter Tryz.func24, Tryz.ntmps24
  go_wp2_with fail
  go_ret2
  exact ⟨rfl, (Below.refl _ _).alloc (Nat.le_refl _) _⟩
theorem zipf_nil (w : World) : Calls Tryz.prog 20 #[.pointer none] w fun e w' => e = .returned (.tuple #[.float .f64 0, .int .i64 1]) ∧ w = w' := by
  go_enter Tryz.func20, Tryz.ntmps20
  go_wp2_with fail
  go_ret2
  exact ⟨rfl, rfl⟩
theorem ent_nil (w : World) : Calls Tryz.prog 21 #[.pointer none] w fun e w' => e = .returned (.float .f64 nanV) ∧ Below w.heap.size w w' := by
  have c1 := (Blk.new w 44 #[.pointer none]).cell (k := 0) (v := .pointer none) rfl
  go_enter Tryz.func21, Tryz.ntmps21
  go_wp2_with fail
  with_reducible refine Calls.mono (len_nil _) ?_
  rintro e w' ⟨rfl, rfl⟩
  go_wp2_with fail
  with_reducible refine Calls.mono (nan_any _) ?_
  rintro e w' ⟨rfl, rfl⟩
  go_wp2_with fail
  go_ret
  exact ⟨rfl, (Below.refl _ _).alloc (Nat.le_refl _) _⟩
theorem rate_nil (w : World) : Calls Tryz.prog 30 #[.pointer none] w fun e w' => e = .returned (.float .f64 nanV) ∧ w = w' := by
  go_enter Tryz.func30, Tryz.ntmps30
  go_wp2_with fail
  with_reducible refine Calls.mono (len_nil _) ?_
  rintro e w' ⟨rfl, rfl⟩
  go_wp2_with fail
  with_reducible refine Calls.mono (nan_any _) ?_
  rintro e w' ⟨rfl, rfl⟩
  go_wp2_with fail
  go_ret
  exact ⟨rfl, rfl⟩
theorem cos_nil (w : World) (v : Value) : Calls Tryz.prog 22 #[.pointer none, v] w fun e w' => e = .returned (.float .f64 nanV) ∧ w = w' := by
  go_enter Tryz.func22, Tryz.ntmps22
  go_wp2_with fail
  with_reducible refine Calls.mono (len_nil _) ?_
  rintro e w' ⟨rfl, rfl⟩
  go_wp2_with fail
  with_reducible refine Calls.mono (nan_any _) ?_
  rintro e w' ⟨rfl, rfl⟩
  go_wp2_with fail
  go_ret
  exact ⟨rfl, rfl⟩
theorem add_nil (w : World) (k : ByteArray) (n : Int) : Calls Tryz.prog 19 #[.pointer none, .string k, .int .i64 n] w fun e w' => e = .returned (.int .i64 1) ∧ w = w' := by
  go_enter Tryz.func19, Tryz.ntmps19
  go_wp2_with fail
  go_ret
  exact ⟨rfl, rfl⟩
theorem merge_nil1 (w : World) (v : Value) : Calls Tryz.prog 26 #[.pointer none, v] w fun e w' => e = .returned (.int .i64 1) ∧ w = w' := by
  go_enter Tryz.func26, Tryz.ntmps26
  go_wp2_with fail
  go_ret
  exact ⟨rfl, rfl⟩
theorem merge_nil2 (w : World) (a : Addr) : Calls Tryz.prog 26 #[.pointer (some a), .pointer none] w fun e w' => e = .returned (.int .i64 1) ∧ w = w' := by
  go_enter Tryz.func26, Tryz.ntmps26
  go_wp2_with fail
  go_ret
  exact ⟨rfl, rfl⟩
theorem total_nil (w : World) : Calls Tryz.prog 28 #[.pointer none] w fun e w' => e = .returned (.int .i64 0) ∧ w = w' := by
  go_enter Tryz.func28, Tryz.ntmps28
  go_wp2_with fail
  go_ret
  exact ⟨rfl, rfl⟩
theorem count_nil (w : World) (k : ByteArray) : Calls Tryz.prog 29 #[.pointer none, .string k] w fun e w' => e = .returned (.int .i64 0) ∧ w = w' := by
  go_enter Tryz.func29, Tryz.ntmps29
  go_wp2_with fail
  go_ret
  exact ⟨rfl, rfl⟩
/-- a new slice of floats -/
theorem floats_new (w : World) (xs : List Nat) (hx : ∀ x ∈ xs, x < 18446744073709551616) : FloatsIn (w.alloc (.cells (xs.map encF).toArray 23)) (some ⟨w.heap.size, 0, none⟩) xs := by
  refine ⟨fun k x hk => ⟨w.heap.size, 0, rfl, by simp, ?_⟩, hx⟩
  have := (Blk.new w 23 (xs.map encF).toArray).cell (k := k) (v := encF x) (by simp [hk])
  rw [Nat.zero_add]; exact this
theorem floats_none (w : World) : FloatsIn w none [] := ⟨fun k x hk => by simp at hk, fun x hx => by simp at hx⟩
open Ieee (infR ONE) in
/-- where a quantile stands, reckoned -/
theorem where_at (q n h f : Nat) (h1 : Ieee.double.mul q (Ieee.intF (n : Int)) = some h) (h2 : Ieee.rung h < infR) (h3 : 0 ≤ Ieee.key h) (h4 : Ieee.fl h < 9007199254740992) (f1 : Ieee.double.sub h (Ieee.flW h) = some f)
    (h5 : Ieee.fl h ≤ n) (f2 : Ieee.rung f ≤ infR) (f3 : 0 ≤ Ieee.key f) (f4 : Ieee.rung f < infR) (z : Ieee.key q = 0 → Ieee.fl h = 0 ∧ ford f 0 = some .eq) (o : Ieee.key q = Ieee.key ONE → Ieee.fl h = n) : ∃ WH : Where q n, WH.i = Ieee.fl h ∧ WH.f = f :=
  ⟨⟨h, Ieee.fl h, f, fun t w => run_float_arith w .mul t .f64 _ _ _ h1, floor_any h h2 h3, fl_int h h2 h3 h4, fun t w => run_float_arith w .sub t .f64 _ _ _ f1, h5, ⟨f2, f3⟩, f4, z, o⟩, rfl, rfl⟩
def Q413 : List Nat := [4616189618054758400, 4607182418800017408, 4613937818241073152]
def S134 : List Nat := [4607182418800017408, 4613937818241073152, 4616189618054758400]
theorem srt134 : SrtP Q413 S134 := ⟨by unfold Q413 S134; decide, by unfold S134; decide +kernel⟩
/-- the quantiles of 4, 1, 3 -/
theorem quant_at (q h f r : Nat) (hq : InQ q) (h1 : Ieee.double.mul q (Ieee.intF 2) = some h) (h2 : Ieee.rung h < Ieee.infR) (h3 : 0 ≤ Ieee.key h) (h4 : Ieee.fl h < 9007199254740992) (f1 : Ieee.double.sub h (Ieee.flW h) = some f)
    (h5 : Ieee.fl h ≤ 2) (f2 : Ieee.rung f ≤ Ieee.infR) (f3 : 0 ≤ Ieee.key f) (f4 : Ieee.rung f < Ieee.infR) (z : Ieee.key q = 0 → Ieee.fl h = 0 ∧ ford f 0 = some .eq) (o : Ieee.key q = Ieee.key Ieee.ONE → Ieee.fl h = 2) (hv : quV S134 (Ieee.fl h) f = cl r)
    (w : World) : Calls Tryz.prog 14 #[.slice (some ⟨w.heap.size, 0, none⟩) 3 3, .float .f64 q] (w.alloc (.cells #[.float .f64 4616189618054758400, .float .f64 4607182418800017408, .float .f64 4613937818241073152] 23)) fun e w' => Below w.heap.size w w' ∧ ∃ v, e = .returned (.tuple #[.float .f64 v, .int .i64 0]) ∧ cl v = cl r := by
  obtain ⟨WH, e1, e2⟩ := where_at q 2 h f h1 h2 h3 h4 f1 h5 f2 f3 f4 z o
  have hb : ∀ x ∈ Q413, x < 18446744073709551616 := by unfold Q413; decide
  have hf : FloatsIn (w.alloc (.cells #[.float .f64 4616189618054758400, .float .f64 4607182418800017408, .float .f64 4613937818241073152] 23)) (some ⟨w.heap.size, 0, none⟩) Q413 := floats_new w Q413 hb
  refine (quant26 _ _ 3 Q413 q hf (by decide) (by decide) hq WH).mono ?_
  rintro e w' ⟨hB, ys, v, hs, rfl, hv2⟩
  refine ⟨((Below.refl _ _).alloc (Nat.le_refl _) _).trans (hB.mono (by simp)), v, rfl, ?_⟩
  rw [hv2, e1, e2, quV_same hs srt134 hb _ _ ⟨f2, f3⟩ f4, hv]
end Go.Proofs.YthidjbobjjoekaaGreat
