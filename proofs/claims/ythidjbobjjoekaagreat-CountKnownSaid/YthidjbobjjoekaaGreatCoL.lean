/- Slope in both hands. Conditions: none beyond each theorem's own. -/
import Derived.Test.YthidjbobjjoekaaGreatCoK
import Derived.BigRegion
namespace Go.Proofs.YthidjbobjjoekaaGreat
open Go.RowKit Go.Lib
set_option linter.unusedVariables false
set_option linter.unusedSimpArgs false
set_option maxHeartbeats 2000000
open Ieee (infR)
theorem fold_pair {β : Type} (f : β → Nat × Nat → β) (b : β) (xs : List (Nat × Nat)) (k : Nat) (x : Nat × Nat) (h : xs[k]? = some x) : (xs.take (k + 1)).foldl f b = f ((xs.take k).foldl f b) x := by
  rw [List.take_add_one, h, List.foldl_append]; rfl
def slS (p q : Option Nat) (l : List (Nat × Nat)) : Option Nat := l.foldl (fun s z => opF .add s (opF .mul (opF .sub (cl z.1) p) (opF .sub (cl z.2) q))) (some 0)
def slT (p : Option Nat) (l : List (Nat × Nat)) : Option Nat := l.foldl (fun s z => opF .add s (opF .mul (opF .sub (cl z.1) p) (opF .sub (cl z.1) p))) (some 0)
def isZ : Option Nat → Bool
  | some t => ford t 0 == some .eq
  | none => false
theorem isZ_cl (t : Nat) : isZ (cl t) = (ford t 0 == some .eq) := by
  rcases cl_cases t with ⟨a, b⟩ | ⟨a, b⟩
  · rw [b]; rfl
  · rw [b, show ford t 0 = none from Ieee.order_nan_left t 0 a]; rfl
def slV (xs ys : List Nat) : Option Nat × Int :=
  if xs.length ≠ ys.length then (some 0, 2) else if xs.length < 2 then (some 0, 4)
  else if isZ (slT (meanF xs) (xs.zip ys)) = true then (none, 0)
  else ((opF .quo (slS (meanF xs) (meanF ys) (xs.zip ys)) (slT (meanF xs) (xs.zip ys))).map zeroV, 0)
def SlopeOk (f : Nat) : Prop := ∀ (w : World) (p p' : Option Addr) (c c' : Nat) (xs ys : List Nat), FloatsIn w p xs → FloatsIn w p' ys → xs.length < 9007199254740992 → ys.length < 9007199254740992 →
    Calls Tryz.prog f #[.slice p xs.length c, .slice p' ys.length c'] w fun e w' => ∃ m q, e = .returned (.tuple #[.float .f64 m, .int .i64 (slV xs ys).2]) ∧ cl m = (slV xs ys).1 ∧ w' = w.drewN q
theorem FloatsIn.drewN {w : World} {p : Option Addr} {xs : List Nat} (h : FloatsIn w p xs) (q : Nat) : FloatsIn (w.drewN q) p xs := ⟨h.at_, h.bits⟩
theorem slope31 : SlopeOk 16 := by
  intro w p p' c c' xs ys hx hy hl hl'
  unfold slV
  by_cases hd : xs.length = ys.length
  case' neg =>
    have hdf : ((xs.length : Int) == (ys.length : Int)) = false := by rw [beq_eq_false_iff_ne]; omega
    rw [if_pos hd]
    go_enter Tryz.func16, Tryz.ntmps16
    go_wp2_with fail
    go_ret2
    exact ⟨0, 0, rfl, cl_zero, rfl⟩
  rw [if_neg (fun h => h hd)]
  by_cases h2 : xs.length < 2
  case' pos =>
    rw [if_pos h2, ← hd]
    have h2' : (xs.length : Int) < 2 := by omega
    go_enter Tryz.func16, Tryz.ntmps16
    go_wp2_with fail
    go_ret2
    exact ⟨0, 0, rfl, cl_zero, rfl⟩
  rw [if_neg h2]
  have e2 : (if isZ (slT (meanF xs) (xs.zip ys)) = true then ((none : Option Nat), (0 : Int)) else ((opF .quo (slS (meanF xs) (meanF ys) (xs.zip ys)) (slT (meanF xs) (xs.zip ys))).map zeroV, 0)) = (if isZ (slT (meanF xs) (xs.zip ys)) = true then (none : Option Nat) else (opF .quo (slS (meanF xs) (meanF ys) (xs.zip ys)) (slT (meanF xs) (xs.zip ys))).map zeroV, 0) := by split <;> rfl
  rw [e2]
  clear e2
  dsimp only
  generalize hR0 : (if isZ (slT (meanF xs) (xs.zip ys)) = true then (none : Option Nat) else (opF .quo (slS (meanF xs) (meanF ys) (xs.zip ys)) (slT (meanF xs) (xs.zip ys))).map zeroV) = R
  have hRR := hid hR0.symm
  clear hR0
  have hM1 := hid (mean64 w p c xs hx hl)
  have hM2 := hid (fun q => mean64 (w.drewN q) p' c' ys (hy.drewN q) hl')
  have X := hid hx
  have Y := hid hy
  clear hx hy
  rw [← hd] at hM2 ⊢
  generalize hn : xs.length = n at *
  have hN := hid hn
  have hD := hid hd
  clear hn hd
  have hadd := hid (fun x y t w => run_fr Ar.add x y t w)
  have hsub := hid (fun x y t w => run_fr Ar.sub x y t w)
  have hmul := hid (fun x y t w => run_fr Ar.mul x y t w)
  have hquo := hid (fun x y t w => run_fr Ar.quo x y t w)
  have h2' : (2 : Int) ≤ (n : Int) := by omega
  go_enter Tryz.func16, Tryz.ntmps16
  go_wp2_with fail
  with_reducible refine Calls.mono hM1.out ?_
  rintro e w' ⟨m1, q1, rfl, hm1, rfl⟩
  go_wp2_with fail
  with_reducible refine Calls.mono (hM2.out q1) ?_
  rintro e w' ⟨m2, q2, rfl, hm2, rfl⟩
  have HM1 := hid hm1
  have HM2 := hid hm2
  clear hm1 hm2 hM1 hM2
  go_wp2_with fail
  go_loopw [8, 9, 27] (fun a b i wr => ∃ (k s t q : Nat), k ≤ n ∧ i = .int .i64 k ∧ a = .float .f64 s ∧ b = .float .f64 t ∧ cl s = slS (meanF xs) (meanF ys) ((xs.zip ys).take k) ∧ cl t = slT (meanF xs) ((xs.zip ys).take k) ∧ wr = w.drewN q) (fun _ _ i _ => n - (intOf i).toNat)
  case atStart => exact ⟨0, 0, 0, _, by omega, rfl, rfl, rfl, cl_zero, cl_zero, rfl⟩
  case round =>
    obtain ⟨k, s, t, q, hk, rfl, rfl, rfl, hs, ht, rfl⟩ := hrel
    have hS := hid hs
    have hT := hid ht
    clear hs ht
    by_cases hlt : k < n
    · obtain ⟨x, hx⟩ : ∃ x, xs[k]? = some x := ⟨_, List.getElem?_eq_getElem (by rw [hN.out]; exact hlt)⟩
      obtain ⟨y, hy⟩ : ∃ y, ys[k]? = some y := ⟨_, List.getElem?_eq_getElem (by rw [← hD.out]; exact hlt)⟩
      obtain ⟨g, off, rfl, hg, hc⟩ := X.out.at_ k x hx
      obtain ⟨g', off', rfl, hg', hc'⟩ := Y.out.at_ k y hy
      have hz := hid (show (xs.zip ys)[k]? = some (x, y) from List.getElem?_zip_eq_some.2 ⟨hx, hy⟩)
      clear hx hy
      have f1 := hsub.out x m1
      have f2 := hsub.out y m2
      have f3 := fun w1 w2 => hmul.out (fr .sub x m1 w1) (fr .sub y m2 w2)
      have f4 := fun w1 w2 w3 => hadd.out s (fr .mul (fr .sub x m1 w1) (fr .sub y m2 w2) w3)
      have f5 := fun w1 => hmul.out (fr .sub x m1 w1) (fr .sub x m1 w1)
      have f6 := fun w1 w3 => hadd.out t (fr .mul (fr .sub x m1 w1) (fr .sub x m1 w1) w3)
      go_wp2_with fail
      go_roundw
      case rel => exact ⟨k + 1, _, _, _, by omega, by go_num, rfl, rfl, by rw [fr_cl .add, fr_cl .mul, fr_cl .sub, fr_cl .sub, hS.out, HM1.out, HM2.out]; exact (fold_pair (fun s z => opF .add s (opF .mul (opF .sub (cl z.1) (meanF xs)) (opF .sub (cl z.2) (meanF ys)))) _ _ k (x, y) hz.out).symm, by rw [fr_cl .add, fr_cl .mul, fr_cl .sub, hT.out, HM1.out]; exact (fold_pair (fun s z => opF .add s (opF .mul (opF .sub (cl z.1) (meanF xs)) (opF .sub (cl z.1) (meanF xs)))) _ _ k (x, y) hz.out).symm, rfl⟩
      case measure => simp [intOf]; omega
    · obtain rfl : k = n := by omega
      have hzl : (xs.zip ys).take k = xs.zip ys := List.take_of_length_le (by rw [List.length_zip, hN.out]; exact Nat.min_le_left _ _)
      rw [hzl] at hS hT
      have f1 := hquo.out s t
      have hzt := isZ_cl t
      rw [hT.out] at hzt
      have HZ := hid hzt
      clear hzt
      cases ho : ford t 0 with
      | none =>
        unfold ford at ho
        go_wp2_with fail
        with_reducible refine Calls.mono (told_any _ _) ?_
        rintro e w' ⟨rfl, rfl⟩
        go_wp2_with fail
        go_ret2
        exact ⟨_, _, rfl, by rw [hRR.out, if_neg (by rw [HZ.out]; show ¬ (FloatKind.f64.format.order t 0 == some .eq) = true; rw [ho]; decide), cl_zeroV, fr_cl .quo, hS.out, hT.out], rfl⟩
      | some o =>
        unfold ford at ho
        cases o
        case' eq =>
          go_wp2_with fail
          with_reducible refine Calls.mono (nan_any _) ?_
          rintro e w' ⟨rfl, rfl⟩
          go_wp2_with fail
          go_ret2
          exact ⟨_, _, rfl, by rw [hRR.out, if_pos (by rw [HZ.out]; show (FloatKind.f64.format.order t 0 == some .eq) = true; rw [ho]; decide), cl_nanV], rfl⟩
        all_goals
          go_wp2_with fail
          with_reducible refine Calls.mono (told_any _ _) ?_
          rintro e w' ⟨rfl, rfl⟩
          go_wp2_with fail
          go_ret2
          exact ⟨_, _, rfl, by rw [hRR.out, if_neg (by rw [HZ.out]; show ¬ (FloatKind.f64.format.order t 0 == some .eq) = true; rw [ho]; decide), cl_zeroV, fr_cl .quo, hS.out, hT.out], rfl⟩
end Go.Proofs.YthidjbobjjoekaaGreat
