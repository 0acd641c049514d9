/- The reader's small methods: fail, is, must, name. Conditions: those of each theorem. -/
import Derived.Test.YtieifhfgedoiaaaGreatDoorNRa
import Derived.Test.YtieifhfgedoiaaaGreatDoorNQa
import Derived.Deep.QuietTactic
import Derived.BigQuiet
namespace Go.Proofs.YtieifhfgedoiaaaGreatDoor
open Go.RowKit Go.Lib
set_option linter.unusedVariables false
set_option linter.unusedSimpArgs false
def rdc (s : ByteArray) (at' : Nat) (e q : Int) : Array Value := #[.string s, .int .i64 at', .int .i64 e, .int .i64 q]
structure Rd (w : World) (R : Nat) (s : ByteArray) (at' : Nat) (e q : Int) : Prop where
 b : Blk w R 70 (rdc s at' e q)
section
variable {w w' : World} {R : Nat} {s : ByteArray} {p : Nat} {e q : Int}
theorem Rd.lt (h : Rd w R s p e q) : R < w.heap.size := h.b.lt
theorem Rd.low (h : Rd w R s p e q) (hb : Below w.heap.size w w') : Rd w' R s p e q := ⟨h.b.low hb⟩
theorem Rd.c0 (h : Rd w R s p e q) : w.cell? ⟨R, 0, none⟩ = some (.string s) := h.b.cell (k := 0) rfl
theorem Rd.c1 (h : Rd w R s p e q) : w.cell? ⟨R, 1, none⟩ = some (.int .i64 p) := h.b.cell (k := 1) rfl
theorem Rd.c2 (h : Rd w R s p e q) : w.cell? ⟨R, 2, none⟩ = some (.int .i64 e) := h.b.cell (k := 2) rfl
theorem Rd.c3 (h : Rd w R s p e q) : w.cell? ⟨R, 3, none⟩ = some (.int .i64 q) := h.b.cell (k := 3) rfl
theorem Rd.fr (h : Rd w R s p e q) (k : Nat) : w.frozen? ⟨R, k, none⟩ = false := h.b.froz k
theorem Rd.go (h : Rd w R s p e q) (p' : Nat) : Rd (w.setCell ⟨R, 1, none⟩ (.int .i64 p')) R s p' e q := ⟨h.b.set 1 _⟩
theorem Rd.bad (h : Rd w R s p e q) (e' q' : Int) : Rd ((w.setCell ⟨R, 2, none⟩ (.int .i64 e')).setCell ⟨R, 3, none⟩ (.int .i64 q')) R s p e' q' := ⟨(h.b.set 2 _).set 3 _⟩
end
set_option maxHeartbeats 1000000 in
theorem fail_new {w : World} {R : Nat} {s : ByteArray} {p : Nat} {q0 : Int} (h : Rd w R s p 0 q0) (e q : Int) :
  Calls Tryz.prog 38 #[.pointer (some ⟨R, 0, none⟩), .int .i64 e, .int .i64 q] w fun x w' => x = .returned (.bool false) ∧ Rd w' R s p e q ∧ ButS [R] w w' := by
 have c2 := h.c2
 have c3 := h.c3
 have hf := h.fr
 have hH := hid h
 clear h
 go_enter Tryz.func38, Tryz.ntmps38
 go_wp2_with fail
 go_ret
 exact ⟨rfl, hH.out.bad e q, ((ButS.refl [R] w).set (List.mem_singleton.2 rfl) 2 _).set (List.mem_singleton.2 rfl) 3 _⟩
def isB (s : ByteArray) (p : Nat) (c : Nat) : Bool := decide (p < s.size ∧ (s.get! p).toNat = c)
theorem below_drewN (w : World) (n : Nat) : Below w.heap.size w (w.drewN n) := ⟨rfl, rfl, rfl, Nat.le_refl _, fun _ _ => rfl⟩
theorem get_eq (s : ByteArray) (p : Nat) (hp : p < s.size) : s.get! p = s[p] := by
 show s.data[p]! = s.data[p]
 exact getElem!_pos s.data p hp
theorem is_byte (s : ByteArray) (p c : Nat) (hp : p < s.size) : (((s[p]'hp).toNat : Int) == (c : Int)) = isB s p c := by
 unfold isB
 rw [get_eq s p hp]
 by_cases hc : (s[p]'hp).toNat = c
 ·rw [decide_eq_true ⟨hp, hc⟩, hc]; simp
 ·rw [decide_eq_false (fun h => hc h.2), ← Bool.not_eq_true, beq_iff_eq]; omega
set_option maxHeartbeats 1000000 in
theorem is_any {w : World} {R : Nat} {s : ByteArray} {p : Nat} {e q : Int} (h : Rd w R s p e q) (c : Nat) :
  Calls Tryz.prog 56 #[.pointer (some ⟨R, 0, none⟩), .int .u8 c] w fun x w' => x = .returned (.bool (isB s p c)) ∧ Below w.heap.size w w' := by
 have c0 := h.c0
 have c1 := h.c1
 clear h
 by_cases hp : p < s.size
 ·have q1 := dT (show (p : Int) < s.size by omega)
  have hv := hid (is_byte s p c hp)
  rw [← hv.out]
  go_enter Tryz.func56, Tryz.ntmps56
  go_wp2_with fail
  go_quiet (fail)
  go_wp2_with fail
  go_ret
  exact ⟨rfl, below_drewN _ _⟩
 ·have q1 := dF (show ¬ ((p : Int) < s.size) by omega)
  have hv : isB s p c = false := decide_eq_false (fun h => hp h.1)
  rw [hv]
  go_enter Tryz.func56, Tryz.ntmps56
  go_wp2_with fail
  go_quiet (fail)
  go_wp2_with fail
  go_ret
  exact ⟨rfl, below_drewN _ _⟩
def nameB (s : ByteArray) (p : Nat) : Bool := decide (p < s.size ∧ 65 ≤ (s.get! p).toNat ∧ (s.get! p).toNat ≤ 90)
set_option maxHeartbeats 1000000 in
theorem name_any {w : World} {R : Nat} {s : ByteArray} {p : Nat} {e q : Int} (h : Rd w R s p e q) :
  Calls Tryz.prog 24 #[.pointer (some ⟨R, 0, none⟩)] w fun x w' => x = .returned (.bool (nameB s p)) ∧ Below w.heap.size w w' := by
 have c0 := h.c0
 have c1 := h.c1
 clear h
 by_cases hp : p < s.size
 ·have q1 := dT (show (p : Int) < s.size by omega)
  have hg := get_eq s p hp
  by_cases h1 : 65 ≤ (s[p]'hp).toNat
  ·have q2 := dT (show (65 : Int) ≤ (s[p]'hp).toNat by omega)
   by_cases h2 : (s[p]'hp).toNat ≤ 90
   ·have q3 := dT (show ((s[p]'hp).toNat : Int) ≤ 90 by omega)
    have hv : nameB s p = true := decide_eq_true (by rw [hg]; exact ⟨hp, h1, h2⟩)
    rw [hv]
    clear hg h1 h2
    go_enter Tryz.func24, Tryz.ntmps24
    go_wp2_with fail
    go_quiet (fail)
    go_wp2_with fail
    go_ret
    exact ⟨rfl, below_drewN _ _⟩
   ·have q3 := dF (show ¬ (((s[p]'hp).toNat : Int) ≤ 90) by omega)
    have hv : nameB s p = false := decide_eq_false (by rw [hg]; exact fun h => h2 h.2.2)
    rw [hv]
    clear hg h1 h2
    go_enter Tryz.func24, Tryz.ntmps24
    go_wp2_with fail
    go_quiet (fail)
    go_wp2_with fail
    go_ret
    exact ⟨rfl, below_drewN _ _⟩
  ·have q2 := dF (show ¬ ((65 : Int) ≤ (s[p]'hp).toNat) by omega)
   have hv : nameB s p = false := decide_eq_false (by rw [hg]; exact fun h => h1 h.2.1)
   rw [hv]
   clear hg h1
   go_enter Tryz.func24, Tryz.ntmps24
   go_wp2_with fail
   go_quiet (fail)
   go_wp2_with fail
   go_ret
   exact ⟨rfl, below_drewN _ _⟩
 ·have q1 := dF (show ¬ ((p : Int) < s.size) by omega)
  have hv : nameB s p = false := decide_eq_false (fun h => hp h.1)
  rw [hv]
  go_enter Tryz.func24, Tryz.ntmps24
  go_wp2_with fail
  go_quiet (fail)
  go_wp2_with fail
  go_ret
  exact ⟨rfl, below_drewN _ _⟩
end Go.Proofs.YtieifhfgedoiaaaGreatDoor
