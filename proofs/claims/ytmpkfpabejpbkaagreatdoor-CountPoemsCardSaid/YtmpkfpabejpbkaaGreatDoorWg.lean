/- word's scanner tells the open token. Conditions: those of each theorem. -/
import Derived.Test.YtmpkfpabejpbkaaGreatDoorWe
import Derived.Test.YtmpkfpabejpbkaaGreatDoorWf
import Derived.Test.YtmpkfpabejpbkaaGreatDoorWc
namespace Go.Proofs.YtmpkfpabejpbkaaGreatDoor
open Go Go.RowKit Go.Lib Go.Shelf
set_option linter.unusedVariables false
set_option linter.unusedSimpArgs false
attribute [local go_sem] Oper.semAt_some
/-- a token -/
structure Tk where
  kd : Int
  f : Int
  t : Int
abbrev Tk.v (x : Tk) : Value := .agg #[.int .i64 x.kd, .int .i64 x.f, .int .i64 x.t]
abbrev Tk.cells (x : Tk) : Array Value := #[.int .i64 x.kd, .int .i64 x.f, .int .i64 x.t]
/-- the open token, and what waits behind it -/
def toks (sc : Sc) : List Tk := if sc.st = 0 then [] else if sc.st = 2 ∨ sc.st = 4 then [⟨sc.kd, sc.f, sc.t⟩, ⟨5, sc.h.f, sc.h.t⟩] else [⟨sc.kd, sc.f, sc.t⟩]
def EndPost (J Jx : List Tk → (Nat → Prop) → World → Prop) (T S2 : Nat → Prop) (all qs : List Tk) (W : World) (e : Ending) (W' : World) : Prop :=
  Kept T W W' ∧ ((e = .returned (.bool true) ∧ J qs S2 W') ∨ (e = .returned (.bool false) ∧ ∃ q, q <+: all ∧ Jx q S2 W'))
set_option maxHeartbeats 2000000 in
theorem end66_two (st : Int) (hst : st = 2 ∨ st = 4) (sc : Sc) (hs : sc.st = st) (b l : Nat) (J Jx : List Tk → (Nat → Prop) → World → Prop) (RR S2 : Nat → Prop) (all pre : List Tk) (W : World)
    (hB : Blk W b 137 sc.cells) (hS : S2 b) (hJ : J pre S2 W)
    (hY : ∀ pre' x W1, J pre' S2 W1 → W.heap.size ≤ W1.heap.size → pre' ++ [x] <+: all → YieldAt Fence.wide 8 Tryz.prog l #[x.v] W1 fun e W' =>
      Kept (fun k => RR k ∨ S2 k) W1 W' ∧ ((e = .returned (.bool true) ∧ J (pre' ++ [x]) S2 W') ∨ (e = .returned (.bool false) ∧ Jx (pre' ++ [x]) S2 W')))
    (hall : pre ++ toks sc <+: all) :
    CallsIn Fence.wide 9 Tryz.prog 66 #[.pointer (some ⟨b, 0, none⟩), .func (.yield l) #[] #[]] W (EndPost J Jx (fun k => RR k ∨ S2 k) S2 all (pre ++ toks sc) W) := by
  have hb := hB.lt
  obtain ⟨st', kd, f, t, h⟩ := sc
  obtain ⟨hk, hr, hf, ht, hal⟩ := h
  dsimp only at hs
  subst hs
  have hv : toks ⟨st', kd, f, t, ⟨hk, hr, hf, ht, hal⟩⟩ = [⟨kd, f, t⟩, ⟨5, hf, ht⟩] := by
    unfold toks; rcases hst with rfl | rfl <;> rfl
  rw [hv] at hall ⊢
  clear hv
  have hp1 : pre ++ [⟨kd, f, t⟩] <+: all := (show pre ++ [⟨kd, f, t⟩] <+: pre ++ [⟨kd, f, t⟩, ⟨5, hf, ht⟩] from ⟨[⟨5, hf, ht⟩], by simp⟩).trans hall
  have hp2 : (pre ++ [⟨kd, f, t⟩]) ++ [⟨5, hf, ht⟩] <+: all := by simpa using hall
  have c0 := hB.cell (k := 0) rfl
  have c1 := hB.cell (k := 1) rfl
  have c2 := hB.cell (k := 2) rfl
  have c3 := hB.cell (k := 3) rfl
  try dsimp only at c0 c1 c2 c3
  have HB := hid hB
  have HS := hid hS
  have HY := hid hY
  have HP1 := hid hp1
  have HP2 := hid hp2
  obtain ⟨fn, tmps, assign, body, hy, hR⟩ := hY pre ⟨kd, f, t⟩ W hJ (Nat.le_refl _) hp1
  change (Instr.yield l #[.agg #[.int .i64 kd, .int .i64 f, .int .i64 t]]).run Tryz.prog W = _ at hy
  have HR := hid hR
  clear hR hB hS hY hJ hp1 hp2 hall
  rcases hst with rfl | rfl
  all_goals
    refine callsIn_of_wp Tryz.func66 rfl trivial ?_ rfl
    simp only [Tryz.ntmps66, List.size_toArray, List.length_cons, List.length_nil, Nat.reduceAdd, Nat.reduceSub, Array.replicate_succ, Array.replicate_zero, List.push_toArray, List.append_toArray, List.nil_append, List.cons_append]
    gi_wp2_with fail
    refine (RoundIn.wide HR.out).mono ?_
    rintro e W2 ⟨hk2, (⟨rfl, hJ2⟩ | ⟨rfl, hJ2⟩)⟩
    · have B2 := HB.out.keep hk2 (.inr HS.out)
      have d6 := B2.cell (k := 6) rfl
      have d7 := B2.cell (k := 7) rfl
      try dsimp only at d6 d7
      have hs2 := hk2.size
      obtain ⟨fn2, tmps2, assign2, body2, hy2, hR2⟩ := HY.out _ ⟨5, hf, ht⟩ W2 hJ2 (by omega) HP2.out
      change (Instr.yield l #[.agg #[.int .i64 5, .int .i64 hf, .int .i64 ht]]).run Tryz.prog W2 = _ at hy2
      have HR2 := hid hR2
      have HK2 := hid hk2
      clear hR2 hy B2 hJ2 hk2 c0 c1 c2 c3
      gi_wp2_with fail
      refine (RoundIn.wide HR2.out).mono ?_
      rintro e W3 ⟨hk3, (⟨rfl, hJ3⟩ | ⟨rfl, hJ3⟩)⟩
      · have HK3 := hid hk3
        have HJ3 := hid hJ3
        clear hk3 hJ3 hy2
        gi_wp2_with fail
        go_ret
        exact ⟨HK2.out.trans HK3.out, .inl ⟨rfl, by have := HJ3.out; simpa using this⟩⟩
      · have HK3 := hid hk3
        have HJ3 := hid hJ3
        clear hk3 hJ3 hy2
        gi_wp2_with fail
        go_ret
        exact ⟨HK2.out.trans HK3.out, .inr ⟨rfl, _, HP2.out, HJ3.out⟩⟩
    · have HK2 := hid hk2
      have HJ2 := hid hJ2
      clear hk2 hJ2 hy
      gi_wp2_with fail
      refine ⟨fun _ h => (by cases h), ?_⟩
      gi_wp2_with fail
      go_ret
      exact ⟨HK2.out, .inr ⟨rfl, _, HP1.out, HJ2.out⟩⟩
set_option maxHeartbeats 2000000 in
theorem end66_one (sc : Sc) (h0 : ¬ sc.st = 0) (h2 : ¬ sc.st = 2) (h4 : ¬ sc.st = 4) (b l : Nat) (J Jx : List Tk → (Nat → Prop) → World → Prop) (RR S2 : Nat → Prop) (all pre : List Tk) (W : World)
    (hB : Blk W b 137 sc.cells) (hS : S2 b) (hJ : J pre S2 W)
    (hY : ∀ pre' x W1, J pre' S2 W1 → W.heap.size ≤ W1.heap.size → pre' ++ [x] <+: all → YieldAt Fence.wide 8 Tryz.prog l #[x.v] W1 fun e W' =>
      Kept (fun k => RR k ∨ S2 k) W1 W' ∧ ((e = .returned (.bool true) ∧ J (pre' ++ [x]) S2 W') ∨ (e = .returned (.bool false) ∧ Jx (pre' ++ [x]) S2 W')))
    (hall : pre ++ toks sc <+: all) :
    CallsIn Fence.wide 9 Tryz.prog 66 #[.pointer (some ⟨b, 0, none⟩), .func (.yield l) #[] #[]] W (EndPost J Jx (fun k => RR k ∨ S2 k) S2 all (pre ++ toks sc) W) := by
  have hb := hB.lt
  obtain ⟨st, kd, f, t, h⟩ := sc
  obtain ⟨hk, hr, hf, ht, hal⟩ := h
  dsimp only at h0 h2 h4
  have hv : toks ⟨st, kd, f, t, ⟨hk, hr, hf, ht, hal⟩⟩ = [⟨kd, f, t⟩] := by
    unfold toks; dsimp only; rw [if_neg h0, if_neg (by omega)]
  rw [hv] at hall ⊢
  clear hv
  have e0 := beq_f h0
  have e2 := beq_f h2
  have e4 := beq_f h4
  have c0 := hB.cell (k := 0) rfl
  have c1 := hB.cell (k := 1) rfl
  have c2 := hB.cell (k := 2) rfl
  have c3 := hB.cell (k := 3) rfl
  try dsimp only at c0 c1 c2 c3
  have HP1 := hid hall
  obtain ⟨fn, tmps, assign, body, hy, hR⟩ := hY pre ⟨kd, f, t⟩ W hJ (Nat.le_refl _) hall
  change (Instr.yield l #[.agg #[.int .i64 kd, .int .i64 f, .int .i64 t]]).run Tryz.prog W = _ at hy
  have HR := hid hR
  clear hR hB hS hY hJ hall
  refine callsIn_of_wp Tryz.func66 rfl trivial ?_ rfl
  simp only [Tryz.ntmps66, List.size_toArray, List.length_cons, List.length_nil, Nat.reduceAdd, Nat.reduceSub, Array.replicate_succ, Array.replicate_zero, List.push_toArray, List.append_toArray, List.nil_append, List.cons_append]
  gi_wp2_with fail
  refine (RoundIn.wide HR.out).mono ?_
  rintro e W2 ⟨hk2, (⟨rfl, hJ2⟩ | ⟨rfl, hJ2⟩)⟩
  all_goals
    have HK2 := hid hk2
    have HJ2 := hid hJ2
    clear hk2 hJ2 hy
    gi_wp2_with fail
    go_ret
  · exact ⟨HK2.out, .inl ⟨rfl, HJ2.out⟩⟩
  · exact ⟨HK2.out, .inr ⟨rfl, _, HP1.out, HJ2.out⟩⟩
theorem end66 (sc : Sc) (b l : Nat) (J Jx : List Tk → (Nat → Prop) → World → Prop) (RR S2 : Nat → Prop) (all pre : List Tk) (W : World)
    (hB : Blk W b 137 sc.cells) (hS : S2 b) (hJ : J pre S2 W)
    (hY : ∀ pre' x W1, J pre' S2 W1 → W.heap.size ≤ W1.heap.size → pre' ++ [x] <+: all → YieldAt Fence.wide 8 Tryz.prog l #[x.v] W1 fun e W' =>
      Kept (fun k => RR k ∨ S2 k) W1 W' ∧ ((e = .returned (.bool true) ∧ J (pre' ++ [x]) S2 W') ∨ (e = .returned (.bool false) ∧ Jx (pre' ++ [x]) S2 W')))
    (hall : pre ++ toks sc <+: all) :
    CallsIn Fence.wide 9 Tryz.prog 66 #[.pointer (some ⟨b, 0, none⟩), .func (.yield l) #[] #[]] W (EndPost J Jx (fun k => RR k ∨ S2 k) S2 all (pre ++ toks sc) W) := by
  by_cases h0 : sc.st = 0
  · have hv : toks sc = [] := by unfold toks; rw [if_pos h0]
    rw [hv, List.append_nil]
    obtain ⟨st, kd, f, t, h⟩ := sc
    dsimp only at h0
    subst h0
    have c0 := hB.cell (k := 0) (v := .int .i64 0) rfl
    have HJ := hid hJ
    clear hB hJ hY hall hv
    refine callsIn_of_wp Tryz.func66 rfl trivial ?_ rfl
    simp only [Tryz.ntmps66, List.size_toArray, List.length_cons, List.length_nil, Nat.reduceAdd, Nat.reduceSub, Array.replicate_succ, Array.replicate_zero, List.push_toArray, List.append_toArray, List.nil_append, List.cons_append]
    gi_wp2_with fail
    go_ret
    exact ⟨Kept.refl _ _, .inl ⟨rfl, HJ.out⟩⟩
  by_cases h2 : sc.st = 2
  · exact end66_two 2 (.inl rfl) sc h2 b l J Jx RR S2 all pre W hB hS hJ hY hall
  by_cases h4 : sc.st = 4
  · exact end66_two 4 (.inr rfl) sc h4 b l J Jx RR S2 all pre W hB hS hJ hY hall
  exact end66_one sc h0 h2 h4 b l J Jx RR S2 all pre W hB hS hJ hY hall
end Go.Proofs.YtmpkfpabejpbkaaGreatDoor
