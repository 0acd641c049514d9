/- The piece at a place, and the plain piece at a reader's place. Conditions: those of each theorem. -/
import Derived.Test.YtieifhfgedoiaaaGreatDoorNRdC
import Derived.Test.YtieifhfgedoiaaaGreatDoorNSpA
import Derived.Test.YtieifhfgedoiaaaGreatDoorNQp
import Derived.Test.YtieifhfgedoiaaaGreatDoorNLfF
namespace Go.Proofs.YtieifhfgedoiaaaGreatDoor
open Go.RowKit Go.Lib
set_option linter.unusedVariables false
set_option linter.unusedSimpArgs false
theorem Blk.c4 {W : World} {B : Nat} {t : TypeId} {a b c d : Value} (h : Blk W B t #[a, b, c, d]) : W.cell? ⟨B, 0, none⟩ = some a ∧ W.cell? ⟨B, 1, none⟩ = some b ∧ W.cell? ⟨B, 2, none⟩ = some c ∧ W.cell? ⟨B, 3, none⟩ = some d ∧ ∀ k, W.frozen? ⟨B, k, none⟩ = false :=
 ⟨h.cell (k := 0) rfl, h.cell (k := 1) rfl, h.cell (k := 2) rfl, h.cell (k := 3) rfl, h.froz⟩
theorem Blk.c3 {W : World} {B : Nat} {t : TypeId} {a b c : Value} (h : Blk W B t #[a, b, c]) : W.cell? ⟨B, 0, none⟩ = some a ∧ W.cell? ⟨B, 1, none⟩ = some b ∧ W.cell? ⟨B, 2, none⟩ = some c ∧ ∀ k, W.frozen? ⟨B, k, none⟩ = false :=
 ⟨h.cell (k := 0) rfl, h.cell (k := 1) rfl, h.cell (k := 2) rfl, h.froz⟩
theorem Blk.c2 {W : World} {B : Nat} {t : TypeId} {a b : Value} (h : Blk W B t #[a, b]) : W.cell? ⟨B, 0, none⟩ = some a ∧ W.cell? ⟨B, 1, none⟩ = some b ∧ ∀ k, W.frozen? ⟨B, k, none⟩ = false :=
 ⟨h.cell (k := 0) rfl, h.cell (k := 1) rfl, h.froz⟩
theorem blk_call {w w' : World} {T : TypeId} {c : Array Value} (hb : Below (w.alloc (.cells c T)).heap.size (w.alloc (.cells c T)) w') : Blk w' w.heap.size T c ∧ Below w.heap.size w w' :=
 ⟨(Blk.new w T c).low hb, ((Below.refl w.heap.size w).alloc (Nat.le_refl _) _).trans (hb.mono (by simp))⟩
theorem below_set {n : Nat} {w w' : World} (h : Below n w w') {b : Nat} (hb : n ≤ b) (k : Nat) (v : Value) : Below n w (w'.setCell ⟨b, k, none⟩ v) := h.setCell (p := ⟨b, k, none⟩) hb v
set_option maxHeartbeats 1000000 in
theorem at_in (s : ByteArray) (p : Nat) (hp : p < s.size) (hs : s.size ≤ 140737488355328) (w : World) :
  Calls Tryz.prog 60 #[.string s, .int .i64 p] w fun e w' => e = .returned (.tuple #[decV s p, .int .i64 0]) ∧ Below w.heap.size w w' := by
 have q1 := dF (show ¬ ((s.size : Int) ≤ p) by omega)
 have q2 := dF (show ¬ ((p : Int) < 0) by omega)
 have hR := hid (fun w => read_any s p hp hs w)
 obtain ⟨v1, v2, v3, hv⟩ : ∃ (v1 v2 : Nat) (v3 : Bool), decV s p = .agg #[.int .i64 p, .int .i64 v1, .int .i32 v2, .bool v3] := ⟨_, _, _, rfl⟩
 rw [hv] at hR ⊢
 clear hv
 go_enter Tryz.func60, Tryz.ntmps60
 go_wp2_with (go_at_call 76; (with_reducible refine Calls.mono (hR.out _) ?_); rintro e w' ⟨rfl, hb⟩; obtain ⟨hk, hw⟩ := blk_call hb; obtain ⟨c0, c1, c2, c3, hf⟩ := hk.c4; clear hb hk)
 exact bodyPost_ret (v := .tuple #[.agg #[.int .i64 p, .int .i64 v1, .int .i32 v2, .bool v3], .int .i64 0]) (by simp [results, Tryz.results60, go_sem, c0, c1, c2, c3]) rfl ⟨rfl, below_set (below_set (below_set (below_set hw (Nat.le_refl _) 0 _) (Nat.le_refl _) 1 _) (Nat.le_refl _) 2 _) (Nat.le_refl _) 3 _⟩
theorem bnextL {w a b : World} (h : Below w.heap.size w a) (k : Below a.heap.size a b) : Below w.heap.size w b := bnext h k
theorem ButS.put3 {S : List Nat} {a b : World} (h : ButS S a b) {R : Nat} (hR : R ∈ S) (a0 a1 a2 : Value) : ButS S a (((b.setCell ⟨R, 0, none⟩ a0).setCell ⟨R, 1, none⟩ a1).setCell ⟨R, 2, none⟩ a2) := ((h.set hR 0 a0).set hR 1 a1).set hR 2 a2
theorem ButS.put4 {S : List Nat} {a b : World} (h : ButS S a b) {R : Nat} (hR : R ∈ S) (a0 a1 a2 a3 : Value) : ButS S a ((((b.setCell ⟨R, 0, none⟩ a0).setCell ⟨R, 1, none⟩ a1).setCell ⟨R, 2, none⟩ a2).setCell ⟨R, 3, none⟩ a3) := (h.put3 hR a0 a1 a2).set hR 3 a3
theorem at_out (s : ByteArray) (p : Nat) (hp : ¬ p < s.size) (w : World) :
  Calls Tryz.prog 60 #[.string s, .int .i64 p] w fun e w' => e = .returned (.tuple #[pieceV 0 0 0 false, .int .i64 5]) ∧ Below w.heap.size w w' := by
 have q1 := dT (show (s.size : Int) ≤ p by omega)
 have q2 := dF (show ¬ ((p : Int) < 0) by omega)
 have q3 := dT (show s.size ≤ p by omega)
 go_enter Tryz.func60, Tryz.ntmps60
 go_wp2_with fail
 exact bodyPost_ret (v := .tuple #[pieceV 0 0 0 false, .int .i64 5]) (by simp [results, Tryz.results60, go_sem, pieceV]) rfl ⟨rfl, (Below.refl w.heap.size w).alloc (Nat.le_refl _) _⟩
theorem rn_bd {s : ByteArray} {p : Nat} (h : p < s.size) : rnN s p ≤ 1114111 := by
 have := dec_at s p h
 unfold rnN
 cases hd : Utf8.decode s p with
 | mk r w =>
  rw [hd] at this
  cases this with
  | rune _ _ h1 h2 h3 h4 h5 h6 h7 => show r ≤ _; omega
  | lost h1 h2 => simp
  | broken h0 h1 => simp
theorem decV_eq (s : ByteArray) (p : Nat) : decV s p = .agg #[.int .i64 p, .int .i64 (wdN s p), .int .i32 (rnN s p), .bool (isBr s p)] := rfl
def plU (s : ByteArray) (p : Nat) : One := if plB s p then oneAt s p else One.none
def plW (s : ByteArray) (p : Nat) : Nat := if plB s p then wdN s p else 0
theorem Blk.put3 {W : World} {B : Nat} {t : TypeId} {b0 b1 b2 : Value} (h : Blk W B t #[b0, b1, b2]) (a0 a1 a2 : Value) : Blk (((W.setCell ⟨B, 0, none⟩ a0).setCell ⟨B, 1, none⟩ a1).setCell ⟨B, 2, none⟩ a2) B t #[a0, a1, a2] := ((h.set 0 a0).set 1 a1).set 2 a2
theorem Blk.put4 {W : World} {B : Nat} {t : TypeId} {b0 b1 b2 b3 : Value} (h : Blk W B t #[b0, b1, b2, b3]) (a0 a1 a2 a3 : Value) : Blk ((((W.setCell ⟨B, 0, none⟩ a0).setCell ⟨B, 1, none⟩ a1).setCell ⟨B, 2, none⟩ a2).setCell ⟨B, 3, none⟩ a3) B t #[a0, a1, a2, a3] := (((h.set 0 a0).set 1 a1).set 2 a2).set 3 a3
theorem below_put3 {n : Nat} {w w' : World} (h : Below n w w') {b : Nat} (hb : n ≤ b) (a0 a1 a2 : Value) : Below n w (((w'.setCell ⟨b, 0, none⟩ a0).setCell ⟨b, 1, none⟩ a1).setCell ⟨b, 2, none⟩ a2) := below_set (below_set (below_set h hb 0 _) hb 1 _) hb 2 _
theorem below_put4 {n : Nat} {w w' : World} (h : Below n w w') {b : Nat} (hb : n ≤ b) (a0 a1 a2 a3 : Value) : Below n w ((((w'.setCell ⟨b, 0, none⟩ a0).setCell ⟨b, 1, none⟩ a1).setCell ⟨b, 2, none⟩ a2).setCell ⟨b, 3, none⟩ a3) := below_set (below_put3 h hb _ _ _) hb 3 _
end Go.Proofs.YtieifhfgedoiaaaGreatDoor
