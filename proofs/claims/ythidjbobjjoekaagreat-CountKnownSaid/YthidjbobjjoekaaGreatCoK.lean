/- Mean and Spread of any numbers, in both hands. Conditions: none beyond each theorem's own. -/
import Derived.Test.YthidjbobjjoekaaGreatCoJ
namespace Go.Proofs.YthidjbobjjoekaaGreat
open Go.RowKit Go.Lib
set_option linter.unusedVariables false
set_option linter.unusedSimpArgs false
set_option maxHeartbeats 1000000
open Ieee (infR)
def sumF (l : List Nat) : Option Nat := l.foldl (fun s x => opF .add s (cl x)) (some 0)
def meanF (l : List Nat) : Option Nat := opF .quo (sumF l) (some (floatOfInt .f64 (l.length : Int)))
theorem cl_num (n : Int) : cl (floatOfInt .f64 n) = some (floatOfInt .f64 n) := cl_real (Ieee.intF_real n)
theorem cl_zero : cl 0 = some 0 := cl_real (Ieee.real_pos 0 (Nat.zero_le _)).1
theorem fold_more {β : Type} (f : β → Nat → β) (b : β) (xs : List Nat) (k x : Nat) (h : xs[k]? = some x) : (xs.take (k + 1)).foldl f b = f ((xs.take k).foldl f b) x := by
  rw [List.take_add_one, h, List.foldl_append]; rfl
/-- what both hands' mean does -/
def MeanOk (f : Nat) : Prop := ∀ (w : World) (p : Option Addr) (c : Nat) (xs : List Nat), FloatsIn w p xs → xs.length < 9007199254740992 →
    Calls Tryz.prog f #[.slice p xs.length c] w fun e w' => ∃ m q, e = .returned (.float .f64 m) ∧ cl m = meanF xs ∧ w' = w.drewN q
theorem mean64 : MeanOk 36 := by
  intro w p c xs h hl
  have H := hid h
  clear h
  generalize hn : xs.length = n at *
  have hN := hid hn
  clear hn
  have hadd := hid (fun x y t w => run_fr Ar.add x y t w)
  have hquo := hid (fun x y t w => run_fr Ar.quo x y t w)
  go_enter Tryz.func36, Tryz.ntmps36
  go_wp2_with fail
  go_loopw [3, 8] (fun s i wr => ∃ (k t q : Nat), k ≤ n ∧ i = .int .i64 k ∧ s = .float .f64 t ∧ cl t = sumF (xs.take k) ∧ wr = w.drewN q) (fun _ i _ => n - (intOf i).toNat)
  case atStart => exact ⟨0, 0, 0, by omega, rfl, rfl, cl_zero, rfl⟩
  case round =>
    obtain ⟨k, t, q, hk, rfl, rfl, hr, rfl⟩ := hrel
    have hR := hid hr
    clear hr
    by_cases hlt : k < n
    · obtain ⟨x, hx⟩ : ∃ x, xs[k]? = some x := ⟨_, List.getElem?_eq_getElem (by rw [hN.out]; exact hlt)⟩
      obtain ⟨g, off, rfl, hg, hc⟩ := H.out.at_ k x hx
      have ha := hadd.out t x
      have hX := hid hx
      clear hx
      go_wp2_with fail
      go_roundw
      case rel => exact ⟨k + 1, _, _, by omega, by go_num, rfl, by rw [fr_cl .add, hR.out]; exact (fold_more (fun s x => opF .add s (cl x)) _ xs k x hX.out).symm, rfl⟩
      case measure => simp [intOf]; omega
    · obtain rfl : k = n := by omega
      have ha := hquo.out t (floatOfInt .f64 (k : Int))
      go_wp2_with fail
      go_ret
      exact ⟨_, _, rfl, by rw [fr_cl .quo, hR.out, cl_num, ← hN.out, List.take_length]; rfl, rfl⟩
def sqrtF : Option Nat → Option Nat
  | some x => Ieee.double.sqrt x
  | none => none
def sr (x : Nat) (w : World) : Nat := (Ieee.double.sqrt x).getD (nanD w x x)
def sq (x : Nat) : Nat := if (Ieee.double.sqrt x).isSome then 0 else 1
theorem sr_cl (x : Nat) (w : World) : cl (sr x w) = sqrtF (cl x) := by
  unfold sr
  rcases cl_cases x with ⟨a, b⟩ | ⟨a, b⟩
  · rw [b]
    show _ = Ieee.double.sqrt x
    cases h : Ieee.double.sqrt x with
    | none => exact cl_nan (nanD_ok w x x).2
    | some r =>
      refine cl_real ?_
      have hx : ((Ieee.double.read x).root 54).map Ieee.double.write = some r := h
      cases hd : (Ieee.double.read x).root 54 with
      | none => rw [hd] at hx; cases hx
      | some e =>
        rw [hd] at hx
        cases hx
        refine write_real e ?_
        revert hd
        cases Ieee.double.read x <;> simp only [Ieee.Datum.root] <;> intro he <;> first | (cases he; done) | (split at he <;> first | (cases he; rfl) | (cases he; done) | (split at he <;> first | (cases he; rfl) | (cases he; done)))
  · rw [b]
    obtain ⟨s, f, e⟩ := Ieee.read_nan x a
    have h : Ieee.double.sqrt x = none := by unfold Ieee.Format.sqrt; rw [e]; rfl
    rw [h]
    exact cl_nan (nanD_ok w x x).2
theorem e85_any (x : Nat) (w : World) : (callFunc 54 #[.float .f64 x]).run Tryz.prog w = .ok (.value (.float .f64 (sr x w))) (w.drewN (sq x)) := by
  unfold sr sq
  cases h : Ieee.double.sqrt x with
  | some r => exact e85 x r h w
  | none =>
    rw [run_callFunc_extern Tryz.func54 (by kernel_rfl) (by kernel_rfl) (by kernel_rfl) (e := Extern.MathSqrt.sqrt) (by kernel_rfl)]
    have h' : FloatKind.f64.format.sqrt x = none := h
    have e : Extern.MathSqrt.sqrt #[.float .f64 x] = (match FloatKind.f64.format.sqrt x with
      | some r => (pure (.float .f64 r) : Sem Value)
      | none => do pure (.float .f64 (← choose (.nanBits .f64 x x)))) := rfl
    rw [h'] at e
    rw [e]
    simp [nanD, Question.forced]
    rfl
theorem sqrt65 (x : Nat) (w : World) : Calls Tryz.prog 37 #[.float .f64 x] w fun e w' => ∃ r q, e = .returned (.float .f64 r) ∧ cl r = sqrtF (cl x) ∧ w' = w.drewN q := by
  have E := e85_any x
  go_enter Tryz.func37, Tryz.ntmps37
  go_wp2_with fail
  go_ret
  exact ⟨_, _, rfl, sr_cl x _, rfl⟩
def meanV (l : List Nat) : Option Nat := if l.length = 0 then none else (meanF l).map zeroV
theorem cl_nanV : cl nanV = none := by decide +kernel
/-- what both hands' Mean does -/
def MeanVOk (f : Nat) : Prop := ∀ (w : World) (p : Option Addr) (c : Nat) (xs : List Nat), FloatsIn w p xs → xs.length < 9007199254740992 →
    Calls Tryz.prog f #[.slice p xs.length c] w fun e w' => ∃ m q, e = .returned (.float .f64 m) ∧ cl m = meanV xs ∧ w' = w.drewN q
theorem mean24 : MeanVOk 12 := by
  intro w p c xs h hl
  have hM := hid (mean64 w p c xs h hl)
  by_cases hn : xs.length = 0
  · rw [hn] at hM ⊢
    go_enter Tryz.func12, Tryz.ntmps12
    go_wp2_with fail
    with_reducible refine Calls.mono (nan_any _) ?_
    rintro e w' ⟨rfl, rfl⟩
    go_wp2_with fail
    go_ret
    exact ⟨_, 0, rfl, by rw [cl_nanV]; unfold meanV; rw [if_pos hn], rfl⟩
  · have hn' : ((xs.length : Int) == 0) = false := by rw [beq_eq_false_iff_ne]; omega
    clear h
    go_enter Tryz.func12, Tryz.ntmps12
    go_wp2_with fail
    with_reducible refine Calls.mono hM.out ?_
    rintro e w' ⟨m, q, rfl, hm, rfl⟩
    go_wp2_with fail
    with_reducible refine Calls.mono (told_any _ _) ?_
    rintro e w' ⟨rfl, rfl⟩
    go_wp2_with fail
    go_ret
    exact ⟨_, _, rfl, by rw [cl_zeroV, hm]; unfold meanV; rw [if_neg hn], rfl⟩
def sprF (m : Option Nat) (l : List Nat) : Option Nat := l.foldl (fun s x => opF .add s (opF .mul (opF .sub (cl x) m) (opF .sub (cl x) m))) (some 0)
def sprV (l : List Nat) : Option Nat := if l.length = 0 then none else (sqrtF (opF .quo (sprF (meanF l) l) (some (floatOfInt .f64 (l.length : Int))))).map zeroV
def SprOk (f : Nat) : Prop := ∀ (w : World) (p : Option Addr) (c : Nat) (xs : List Nat), FloatsIn w p xs → xs.length < 9007199254740992 →
    Calls Tryz.prog f #[.slice p xs.length c] w fun e w' => ∃ m q, e = .returned (.float .f64 m) ∧ cl m = sprV xs ∧ w' = w.drewN q
theorem spread25 : SprOk 13 := by
  intro w p c xs h hl
  have hM := hid (mean64 w p c xs h hl)
  have H := hid h
  clear h
  generalize hn : xs.length = n at *
  have hN := hid hn
  clear hn
  have hadd := hid (fun x y t w => run_fr Ar.add x y t w)
  have hsub := hid (fun x y t w => run_fr Ar.sub x y t w)
  have hmul := hid (fun x y t w => run_fr Ar.mul x y t w)
  have hquo := hid (fun x y t w => run_fr Ar.quo x y t w)
  by_cases h0 : n = 0
  · subst h0
    go_enter Tryz.func13, Tryz.ntmps13
    go_wp2_with fail
    with_reducible refine Calls.mono (nan_any _) ?_
    rintro e w' ⟨rfl, rfl⟩
    go_wp2_with fail
    go_ret
    exact ⟨_, 0, rfl, by rw [cl_nanV]; unfold sprV; rw [if_pos hN.out], rfl⟩
  · have hn' : ((n : Int) == 0) = false := by rw [beq_eq_false_iff_ne]; omega
    go_enter Tryz.func13, Tryz.ntmps13
    go_wp2_with fail
    with_reducible refine Calls.mono hM.out ?_
    rintro e w' ⟨m, q0, rfl, hm, rfl⟩
    have hMr := hid hm
    clear hm hM
    go_wp2_with fail
    go_loopw [4, 16] (fun s i wr => ∃ (k t q : Nat), k ≤ n ∧ i = .int .i64 k ∧ s = .float .f64 t ∧ cl t = sprF (meanF xs) (xs.take k) ∧ wr = w.drewN q) (fun _ i _ => n - (intOf i).toNat)
    case atStart => exact ⟨0, 0, _, by omega, rfl, rfl, cl_zero, rfl⟩
    case round =>
      obtain ⟨k, t, q, hk, rfl, rfl, hr, rfl⟩ := hrel
      have hR := hid hr
      clear hr
      by_cases hlt : k < n
      · obtain ⟨x, hx⟩ : ∃ x, xs[k]? = some x := ⟨_, List.getElem?_eq_getElem (by rw [hN.out]; exact hlt)⟩
        obtain ⟨g, off, rfl, hg, hc⟩ := H.out.at_ k x hx
        have ha := hsub.out x m
        have hb := fun w => hmul.out (fr .sub x m w) (fr .sub x m w)
        have hb3 := fun w1 w2 => hadd.out t (fr .mul (fr .sub x m w1) (fr .sub x m w1) w2)
        have hX := hid hx
        clear hx
        go_wp2_with fail
        go_roundw
        case rel => exact ⟨k + 1, _, _, by omega, by go_num, rfl, by rw [fr_cl .add, fr_cl .mul, fr_cl .sub, hR.out, hMr.out]; exact (fold_more (fun s x => opF .add s (opF .mul (opF .sub (cl x) (meanF xs)) (opF .sub (cl x) (meanF xs)))) _ xs k x hX.out).symm, rfl⟩
        case measure => simp [intOf]; omega
      · obtain rfl : k = n := by omega
        have ha := hquo.out t (floatOfInt .f64 (k : Int))
        go_wp2_with fail
        with_reducible refine Calls.mono (sqrt65 _ _) ?_
        rintro e w' ⟨s, q2, rfl, hs, rfl⟩
        have hS := hid hs
        clear hs
        go_wp2_with fail
        with_reducible refine Calls.mono (told_any _ _) ?_
        rintro e w' ⟨rfl, rfl⟩
        go_wp2_with fail
        go_ret
        exact ⟨_, _, rfl, by rw [cl_zeroV, hS.out, fr_cl .quo, hR.out, cl_num, ← hN.out, List.take_length]; unfold sprV; rw [if_neg (by rw [hN.out]; exact h0)], rfl⟩
end Go.Proofs.YthidjbobjjoekaaGreat
