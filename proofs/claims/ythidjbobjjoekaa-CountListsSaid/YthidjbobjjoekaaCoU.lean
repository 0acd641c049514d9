/- slices.Clone handing back a row of its own; the document's Quantile outside 0 to 1. Conditions: none beyond each theorem's own. -/
import Derived.Test.YthidjbobjjoekaaCoS
import Derived.Lib.SliceRun
namespace Go.Proofs.Ythidjbobjjoekaa
open Go.RowKit Go.Lib Go.Sort Go.Shelf
set_option linter.unusedVariables false
set_option linter.unusedSimpArgs false
set_option maxHeartbeats 1000000
open Ieee (infR)
theorem out_class {q : Nat} (h : ¬ InQ q) : (ford q 0 = none ∨ ford q 0 = some .lt) ∨ ((ford q 0 = some .gt ∨ ford q 0 = some .eq) ∧ (ford q 4607182418800017408 = none ∨ ford q 4607182418800017408 = some .gt)) := by
  unfold InQ at h
  cases h1 : ford q 0 with
  | none => exact .inl (.inl rfl)
  | some o => cases o with
    | lt => exact .inl (.inr rfl)
    | eq => cases h2 : ford q 4607182418800017408 with
      | none => exact .inr ⟨.inr rfl, .inl rfl⟩
      | some o => cases o with
        | lt => exact absurd ⟨.inr h1, .inl h2⟩ h
        | eq => exact absurd ⟨.inr h1, .inr h2⟩ h
        | gt => exact .inr ⟨.inr rfl, .inr rfl⟩
    | gt => cases h2 : ford q 4607182418800017408 with
      | none => exact .inr ⟨.inl rfl, .inl rfl⟩
      | some o => cases o with
        | lt => exact absurd ⟨.inl h1, .inl h2⟩ h
        | eq => exact absurd ⟨.inl h1, .inr h2⟩ h
        | gt => exact .inr ⟨.inl rfl, .inr rfl⟩
theorem rquant_out (w : World) (s : Value) (q : Nat) (h : ¬ InQ q) : Calls Try.prog 28 #[s, .float .f64 q] w fun e w' => e = .returned (.tuple #[.float .f64 0, .int .i64 2]) ∧ w = w' := by
  have hc := out_class h
  clear h
  unfold ford at hc
  rcases hc with (h | h) | ⟨h | h, h' | h'⟩
  all_goals
    go_enter Try.func28, Try.ntmps28
    go_wp2_with fail
    go_ret2
    exact ⟨rfl, rfl⟩
set_option maxRecDepth 100000 in
theorem clone_own (w : World) (p : Option Addr) (c : Nat) (xs : List Nat) (h : FloatsIn w p xs) (hl : xs.length * 8 ≤ 140737488355328) :
    Calls Try.prog 27 #[.slice p xs.length c] w fun e w' => ∃ v, e = .returned v ∧ w'.ownsRow w.heap.size 22 1 v xs.length (xs.map encF) ∧ Below w.heap.size w w' := by
  obtain ⟨i0, hi, hz0, hz1, hz2⟩ := info_parts infoF
  cases p with
  | none =>
    have hx : xs = [] := by
      cases xs with
      | nil => rfl
      | cons x r =>
        obtain ⟨g, off, e, _⟩ := h.at_ 0 x rfl
        cases e
    subst hx
    have hnil : ∀ W, (binOp .eql 41 (.slice none 0 c) (.slice none 0 0)).run Try.prog W = .ok (.bool true) W := fun W => by simpa using Lib.run_eql_slice_nil W 41 22 none 0 c 0 0 Try.underlying41
    go_enter Try.func27, Try.ntmps27
    go_wp2_with fail
    go_ret
    exact ⟨_, rfl, World.ownsRow_nil _ _ _ _, Below.refl _ _⟩
  | some a =>
    have hnil : ∀ W, (binOp .eql 41 (.slice (some a) xs.length c) (.slice none 0 0)).run Try.prog W = .ok (.bool false) W := fun W => by simpa using Lib.run_eql_slice_nil W 41 22 (some a) xs.length c 0 0 Try.underlying41
    have hF2 := hid (h.low (Nat.le_refl _) (Below.alloc (Below.refl w.heap.size w) (Nat.le_refl _) (.cells #[] 22)))
    have hown : (w.alloc (.cells #[] 22)).ownsRow w.heap.size 22 1 (.slice (some ⟨w.heap.size, 0, none⟩) 0 0) 0 [] := ⟨rfl, .inr ⟨w.heap.size, 0, #[], rfl, Nat.le_refl _, heap_alloc_new w _, Nat.le_refl _, Nat.zero_le _, rfl, rfl⟩⟩
    have hnews : ∀ j u, (xs.map encF)[j]? = some u → (w.alloc (.cells #[] 22)).cell? (a.add j) = some u := fun j u hu => by
      rw [List.getElem?_map] at hu
      cases hx : xs[j]? with
      | none => rw [hx] at hu; cases hu
      | some x =>
        rw [hx] at hu
        obtain ⟨g, o, e, _, hc⟩ := hF2.out.at_ j x hx
        cases e
        cases hu
        show (w.alloc (.cells #[] 22)).cell? (({ block := g, off := o } : Addr).add j) = some (.float .f64 x)
        by_cases hj : j = 0
        · subst hj; simpa [Addr.add] using hc
        · simpa [Addr.add, hj] using hc
    have hO := hid hown
    have hNw := hid hnews
    clear hown hnews h hF2
    go_enter Try.func27, Try.ntmps27
    go_wp2_with (first | (at_builtin; refine wpList_append_own _ rfl (.tmp 5) (.tmp 6) 41 rfl w.heap.size 22 i0 _ 1 8 Try.underlying41 hi hz0 hz1 hz2 rfl (by decide) _ 0 [] rfl hO.out a xs.length c (xs.map encF) rfl (by simp) hNw.out (by intro u hu; obtain ⟨x, _, rfl⟩ := List.mem_map.1 hu; rfl) (by unfold maxLen; omega) (by omega) (by simp) ?_; refine stop_here ?_) | fail)
    refine hid ?_
    intro v' w5 hown' hgrow hn
    have hB := hid (Below.grown (Below.alloc (Below.refl w.heap.size w) (Nat.le_refl _) (.cells #[] 22)) hgrow (by simp) (fun k e => by cases e; exact Nat.le_refl _))
    have hW := hid hown'
    clear hown' hgrow hn hO hNw
    go_wp2_with fail
    go_ret
    exact ⟨v', rfl, hW.out, hB.out⟩
end Go.Proofs.Ythidjbobjjoekaa
