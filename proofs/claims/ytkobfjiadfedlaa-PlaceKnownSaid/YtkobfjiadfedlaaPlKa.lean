/- What PlaceKnown asks: the fixed text's places, the seven moves, and m.Each() of no map. Conditions: none beyond each theorem's own. -/
import Derived.Test.YtkobfjiadfedlaaPlRj
import Derived.Test.YtkobfjiadfedlaaPlEc
namespace Go.Proofs.Ytkobfjiadfedlaa
open Go.RowKit Go.Shelf
set_option linter.unusedVariables false
set_option linter.unusedSimpArgs false
abbrev teeT : ByteArray := { data := #[97, 195, 169, 13, 10, 255, 240, 159, 152, 128, 10] }
theorem tee_pl : plOf teeT = [⟨0, 0, 0, 0, 0⟩, ⟨1, 1, 1, 0, 1⟩, ⟨3, 2, 2, 0, 2⟩, ⟨4, 3, 3, 0, 3⟩, ⟨5, 4, 4, 1, 0⟩, ⟨6, 5, 5, 1, 1⟩, ⟨10, 6, 7, 1, 2⟩, ⟨11, 7, 8, 2, 0⟩] := by kernel_rfl
theorem tee_last : lastP teeT = ⟨11, 7, 8, 2, 0⟩ := by kernel_rfl
theorem tee_ln : (lnOf teeT)[1]? = some ⟨5, 10, 1, 4⟩ := by kernel_rfl
theorem tee_lns : (lnOf teeT).length = 3 := by kernel_rfl
theorem tee_size : teeT.size = 11 := by kernel_rfl
/-- the place of a byte in the fixed text -/
theorem tee_at (n : Int) (j : Nat) (p : Pl) (hp : (plOf teeT)[j]? = some p) (h1 : (p.b : Int) ≤ n) (h2 : ∀ q, (plOf teeT)[j + 1]? = some q → n < (q.b : Int)) : At teeT Pl.b n j p := by
  obtain ⟨a, b⟩ := srt_split (plOf_srt teeT) hp Pl.b (.inl rfl) n h1 h2
  exact ⟨hp, a, b⟩
section
variable {w : World} {b : Nat} (h : MapOf w b teeT)
include h
theorem tee_in1 (a n : Int) (j : Nat) (p q : Pl) (hp : (plOf teeT)[j]? = some p) (h1 : (p.b : Int) ≤ a) (h2 : ∀ q, (plOf teeT)[j + 1]? = some q → a < (q.b : Int)) (h0 : 0 ≤ a ∧ a ≤ 11)
    (c0 : 0 ≤ (p.r : Int) + n) (c1 : (p.r : Int) + n ≤ 7) (n0 : -100 ≤ n ∧ n ≤ 100) (hq : (plOf teeT)[((p.r : Int) + n).toNat]? = some q) :
    Calls Try.prog 32 #[.pointer (some ⟨b, 0, none⟩), .int .i64 a, .int .i64 1, .int .i64 n] w fun e w' => e = .returned (.tuple #[plV q, .int .i64 0]) ∧ Below w.heap.size w w' := by
  have hs : teeT.size ≤ 65536 := by rw [tee_size]; omega
  have hat := tee_at a j p hp h1 h2
  obtain ⟨b1, b2, b3, b4, b5, b6⟩ := pl_bd teeT hs hp
  have hz := plOf_small teeT hs
  obtain ⟨pb, pc, lb, lc, h⟩ := h
  exact move1_in h (by omega) (by omega) (by omega) a h0.1 (by rw [tee_size]; exact h0.2) j p hat.get hat.lo hat.hi _ (lastP teeT) (plOf_len teeT) (last_get teeT) b1 b2 b3 n (by omega) (by omega) c0 (by rw [tee_last]; exact c1) q hq
theorem tee_in3 (a : Int) (j : Nat) (p q : Pl) (hp : (plOf teeT)[j]? = some p) (h1 : (p.b : Int) ≤ a) (h2 : ∀ q, (plOf teeT)[j + 1]? = some q → a < (q.b : Int)) (h0 : 0 ≤ a ∧ a ≤ 11)
    (c0 : p.l = 0) (hq : (plOf teeT)[min (4 + p.c) 6]? = some q) :
    Calls Try.prog 32 #[.pointer (some ⟨b, 0, none⟩), .int .i64 a, .int .i64 3, .int .i64 1] w fun e w' => e = .returned (.tuple #[plV q, .int .i64 0]) ∧ Below w.heap.size w w' := by
  have hs : teeT.size ≤ 65536 := by rw [tee_size]; omega
  have hat := tee_at a j p hp h1 h2
  obtain ⟨b1, b2, b3, b4, b5, b6⟩ := pl_bd teeT hs hp
  have hz := plOf_small teeT hs
  have hb := tee_at 10 6 ⟨10, 6, 7, 1, 2⟩ (by rw [tee_pl]; rfl) (by decide) (fun q h => by rw [tee_pl] at h; cases h; decide)
  obtain ⟨pb, pc, lb, lc, h⟩ := h
  exact move3_in h (by omega) (by rw [tee_lns]; omega) (by omega) a h0.1 (by rw [tee_size]; exact h0.2) j p hat.get hat.lo hat.hi _ (lastP teeT) (plOf_len teeT) (last_get teeT) b1 b2 b3 1 (by omega) (by omega) (by omega) (by rw [tee_last, c0]; decide) ⟨5, 10, 1, 4⟩ (by rw [c0]; exact tee_ln) (by rw [tee_size]; decide) (by decide) b4 6 ⟨10, 6, 7, 1, 2⟩ hb.get hb.lo hb.hi (by decide) q hq
theorem tee_hi3 : Calls Try.prog 32 #[.pointer (some ⟨b, 0, none⟩), .int .i64 0, .int .i64 3, .int .i64 9] w fun e w' => e = .returned (.tuple #[plV ⟨11, 7, 8, 2, 0⟩, .int .i64 0]) ∧ Below w.heap.size w w' := by
  have hs : teeT.size ≤ 65536 := by rw [tee_size]; omega
  have hp : (plOf teeT)[0]? = some ⟨0, 0, 0, 0, 0⟩ := by rw [tee_pl]; rfl
  have hat := tee_at 0 0 _ hp (by decide) (fun q h => by rw [tee_pl] at h; cases h; decide)
  obtain ⟨b1, b2, b3, b4, b5, b6⟩ := pl_bd teeT hs hp
  have hz := plOf_small teeT hs
  have hl := tee_last
  obtain ⟨pb, pc, lb, lc, h⟩ := h
  have := move3_hi h (by omega) (by rw [tee_lns]; omega) (by omega) 0 (by omega) (by omega) 0 _ hat.get hat.lo hat.hi _ (lastP teeT) (plOf_len teeT) (last_get teeT) b1 b2 b3 9 (by omega) (by omega) (by rw [tee_last]; decide)
  rw [tee_last] at this
  exact this
theorem tee_m0 : Calls Try.prog 32 #[.pointer (some ⟨b, 0, none⟩), .int .i64 1, .int .i64 3, .int .i64 1] w fun e w' => e = .returned (.tuple #[plV ⟨6, 5, 5, 1, 1⟩, .int .i64 0]) ∧ Below w.heap.size w w' :=
  tee_in3 h 1 1 ⟨1, 1, 1, 0, 1⟩ _ (by rw [tee_pl]; rfl) (by decide) (fun q h => by rw [tee_pl] at h; cases h; decide) (by omega) rfl (by rw [tee_pl]; rfl)
theorem tee_m1 : Calls Try.prog 32 #[.pointer (some ⟨b, 0, none⟩), .int .i64 0, .int .i64 1, .int .i64 3] w fun e w' => e = .returned (.tuple #[plV ⟨4, 3, 3, 0, 3⟩, .int .i64 0]) ∧ Below w.heap.size w w' :=
  tee_in1 h 0 3 0 ⟨0, 0, 0, 0, 0⟩ _ (by rw [tee_pl]; rfl) (by decide) (fun q h => by rw [tee_pl] at h; cases h; decide) (by omega) (by decide) (by decide) (by omega) (by rw [tee_pl]; rfl)
theorem tee_m2 : Calls Try.prog 32 #[.pointer (some ⟨b, 0, none⟩), .int .i64 8, .int .i64 1, .int .i64 (-1)] w fun e w' => e = .returned (.tuple #[plV ⟨5, 4, 4, 1, 0⟩, .int .i64 0]) ∧ Below w.heap.size w w' :=
  tee_in1 h 8 (-1) 5 ⟨6, 5, 5, 1, 1⟩ _ (by rw [tee_pl]; rfl) (by decide) (fun q h => by rw [tee_pl] at h; cases h; decide) (by omega) (by decide) (by decide) (by omega) (by rw [tee_pl]; rfl)
theorem tee_m4 : Calls Try.prog 32 #[.pointer (some ⟨b, 0, none⟩), .int .i64 4, .int .i64 3, .int .i64 1] w fun e w' => e = .returned (.tuple #[plV ⟨10, 6, 7, 1, 2⟩, .int .i64 0]) ∧ Below w.heap.size w w' :=
  tee_in3 h 4 3 ⟨4, 3, 3, 0, 3⟩ _ (by rw [tee_pl]; rfl) (by decide) (fun q h => by rw [tee_pl] at h; cases h; decide) (by omega) rfl (by rw [tee_pl]; rfl)
omit h in
theorem tee_m5 : Calls Try.prog 32 #[.pointer (some ⟨b, 0, none⟩), .int .i64 0, .int .i64 4, .int .i64 1] w fun e w' => e = .returned (.tuple #[zeroP, .int .i64 2]) ∧ Below w.heap.size w w' :=
  mv_way_bad (s := teeT) 0 4 1 (by omega)
theorem tee_m6 : Calls Try.prog 32 #[.pointer (some ⟨b, 0, none⟩), .int .i64 12, .int .i64 1, .int .i64 0] w fun e w' => e = .returned (.tuple #[zeroP, .int .i64 5]) ∧ Below w.heap.size w w' :=
  mv_at_bad h (by rw [tee_size]; omega) 12 1 0 (by omega) (by rw [tee_size]; omega)
end
theorem tee_new (w : World) : Calls Try.prog 13 #[.string teeT] w fun e w' => ∃ b, e = .returned (.tuple #[.pointer (some ⟨b, 0, none⟩), .int .i64 0]) ∧ MapOf w' b teeT ∧ Below w.heap.size w w' := new_map teeT w (by rw [tee_size]; omega)
theorem tee_end {w : World} {b : Nat} (h : MapOf w b teeT) : Calls Try.prog 21 #[.pointer (some ⟨b, 0, none⟩)] w fun e w' => e = .returned (.agg #[.int .i64 11, .int .i64 7, .int .i64 8, .int .i64 2, .int .i64 0]) ∧ Below w.heap.size w w' := by
  have := own_end h (by rw [tee_size]; omega)
  rw [tee_last] at this
  exact this
theorem each_nil (F : Fence) (n : Nat) (h17 : F.fn 17) (hro : F.round = none) (w : World) :
    CallsIn F n Try.prog 17 #[.pointer none] w fun e w' => e = .returned (.func (.func 36) #[] #[.pointer (some ⟨w.heap.size, 0, none⟩)]) ∧ w' = w.alloc (.cells #[.pointer none] 23) := by
  refine callsIn_of_wp Try.func17 rfl h17 ?_ hro
  simp only [Try.ntmps17, List.size_toArray, List.length_cons, List.length_nil, Nat.reduceAdd, Nat.reduceSub, Array.replicate_succ, Array.replicate_zero, List.push_toArray, List.append_toArray, List.nil_append, List.cons_append]
  gi_wp2
  go_ret
  exact ⟨rfl, rfl⟩
theorem next_nil (F : Fence) (n : Nat) (h36 : F.fn 36) (hro : F.round = none) (Bs n₀ : Nat) (w : World) (hBs : Bs < w.heap.size)
    (hc : w.cell? ⟨Bs, 0, none⟩ = some (.pointer none)) :
    SeqNext F n Try.prog 36 #[.pointer (some ⟨Bs, 0, none⟩)] (fun x : Pl => #[plV x]) n₀ [] w := fun l J Jx W hW hJ hY h0 => by
  have hc' := (hW.cell (p := ⟨Bs, 0, none⟩) hBs).trans hc
  clear hY hW hc
  refine callsIn_of_wp Try.func36 rfl h36 ?_ hro
  simp only [Try.ntmps36, List.size_toArray, List.length_cons, List.length_nil, Nat.reduceAdd, Nat.reduceSub, Array.replicate_succ, Array.replicate_zero, List.push_toArray, List.append_toArray, List.nil_append, List.cons_append]
  gi_wp2
  refine bodyPost_ret (results_none rfl _ _ _) rfl ?_
  exact ⟨⟨_, rfl⟩, .inl h0⟩
end Go.Proofs.Ytkobfjiadfedlaa
