/- A reader's must: bytes that must stand. Conditions: those of each theorem. -/
import Derived.Test.YtieifhfgedoiaaaGreatDoorNRdD
namespace Go.Proofs.YtieifhfgedoiaaaGreatDoor
open Go.RowKit Go.Lib
set_option linter.unusedVariables false
set_option linter.unusedSimpArgs false
def mustN (s : ByteArray) (p : Nat) (t : ByteArray) (j : Nat) : Nat :=
 if h : j < t.size then (if isB s p (t[j]'h).toNat = true then mustN s (p + 1) t (j + 1) else j) else j
termination_by t.size - j
structure MustR (w w' : World) (R : Nat) (s : ByteArray) (p : Nat) (q0 : Int) (t : ByteArray) (n : Nat) : Prop where
 ok : n = t.size → Rd w' R s (p + n) 0 q0
 no : n < t.size → Rd w' R s (p + n) 90 ((p + n : Nat) : Int)
 le : n ≤ t.size
 but : ButS [R] w w'
set_option maxHeartbeats 2000000 in
theorem must_any {w : World} {R : Nat} {s : ByteArray} {p : Nat} {q0 : Int} (h : Rd w R s p 0 q0) (t : ByteArray) (ht : t.size ≤ 100) (hp : p ≤ 140737488355328) :
  Calls Tryz.prog 39 #[.pointer (some ⟨R, 0, none⟩), .string t] w fun x w' => ∃ n, mustN s p t 0 = n ∧ x = .returned (.bool (decide (n = t.size))) ∧ MustR w w' R s p q0 t n := by
 have hH := hid h
 clear h
 go_enter Tryz.func39, Tryz.ntmps39
 go_wp2_with fail
 go_loopw [8] (fun i wr => ∃ j : Nat, j ≤ t.size ∧ i = .int .i64 j ∧ Hid (Rd wr R s (p + j) 0 q0) ∧ Hid (ButS [R] w wr) ∧ Hid (mustN s p t 0 = mustN s (p + j) t j)) (fun i _ => t.size - (intOf i).toNat)
 case atStart => exact ⟨0, Nat.zero_le _, rfl, hH, ButS.refl _ _, rfl⟩
 case round =>
  obtain ⟨j, hj, rfl, hR, hB, hM⟩ := hrel
  by_cases hlt : j < t.size
  ·have hlt' : decide ((j : Int) < t.size) = true := decide_eq_true (by omega)
   obtain ⟨z, hz⟩ : ∃ z, p + j = z := ⟨_, rfl⟩
   rw [hz] at hR hM
   have hzb : z ≤ 140737488355428 := by omega
   replace hz := hid hz
   have hI := hid (is_any hR.out (t[j]'hlt).toNat)
   have hu : Hid (mustN s z t j = if isB s z (t[j]'hlt).toNat = true then mustN s (z + 1) t (j + 1) else j) := by
    rw [mustN, dif_pos hlt]; exact hid rfl
   cases hb : isB s z (t[j]'hlt).toNat
   ·rw [hb] at hI hu
    clear hb
    have hN : Hid (mustN s p t 0 = j) := by rw [hM.out, hu.out]; exact hid rfl
    clear hu hM
    go_wp2_with (first | (go_at_call 56; (with_reducible refine Calls.mono hI.out ?_); rintro e w1 ⟨rfl, hb1⟩; have hR1 := hid (hR.out.low hb1); have hB1 := hid (hB.out.low hb1); have c0 := hR1.out.c0; have c1 := hR1.out.c1; have hF := hid (fail_new hR1.out 90 (z : Int)); clear hI))
    go_at_call 38
    with_reducible refine Calls.mono hF.out ?_
    rintro e w2 ⟨rfl, hR2, hB2⟩
    have HR2 := hid hR2; have HB2 := hid hB2; clear hR2 hB2
    go_wp2_with fail
    go_ret
    refine ⟨j, hN.out, ?_, fun e => absurd e (by omega), fun _ => hz.out ▸ HR2.out, by omega, hB1.out.trans HB2.out⟩
    rw [decide_eq_false (by omega)]; rfl
   ·rw [hb] at hI hu
    clear hb
    have hN : Hid (mustN s p t 0 = mustN s (z + 1) t (j + 1)) := by rw [hM.out, hu.out]; exact hid rfl
    clear hu hM
    have hw1 : IntKind.i64.wrap ((z : Int) + 1) = (z : Int) + 1 := Wi64 (by omega)
    go_wp2_with (first | (go_at_call 56; (with_reducible refine Calls.mono hI.out ?_); rintro e w1 ⟨rfl, hb1⟩; have hR1 := hid (hR.out.low hb1); have hB1 := hid (hB.out.low hb1); have c0 := hR1.out.c0; have c1 := hR1.out.c1; have fr := hR1.out.fr; clear hI))
    go_roundw
    case rel => exact ⟨j + 1, by omega, by go_num, (show z + 1 = p + (j + 1) by have := hz.out; omega) ▸ hR1.out.go (z + 1), hB1.out.set (List.mem_singleton.2 rfl) 1 _, (show z + 1 = p + (j + 1) by have := hz.out; omega) ▸ hN⟩
    case measure => simp [intOf]; omega
  ·have hlt' : decide ((j : Int) < t.size) = false := decide_eq_false (by omega)
   obtain rfl : j = t.size := by omega
   have hN : Hid (mustN s p t 0 = t.size) := by rw [hM.out, mustN, dif_neg (by omega)]; exact hid rfl
   clear hM
   go_wp2_with fail
   go_ret
   refine ⟨t.size, hN.out, ?_, fun _ => hR.out, fun h => absurd h (by omega), Nat.le_refl _, hB.out⟩
   rw [decide_eq_true rfl]; rfl
end Go.Proofs.YtieifhfgedoiaaaGreatDoor
