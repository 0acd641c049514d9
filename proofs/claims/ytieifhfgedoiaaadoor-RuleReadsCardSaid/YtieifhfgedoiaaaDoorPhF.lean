/- The next phone of a text, whatever stands there. Conditions: those of each theorem. -/
import Derived.Test.YtieifhfgedoiaaaDoorPhE
namespace Go.Proofs.YtieifhfgedoiaaaDoor
open Go.RowKit Go.Lib
open Go.ChangeMaps
set_option linter.unusedVariables false
set_option linter.unusedSimpArgs false
/-- the next phone, whatever stands there -/
theorem next_some {w : World} {m : Nat} (hT : Tab w m rowsS) (s : ByteArray) (hp : 0 < s.size) (hs : s.size ≤ 140737488355328) {x : Ph} {n : Nat} (h : phAt s 0 = some (x, n)) :
    Calls Tryd.prog 103 #[.map (some m), .string s] w fun e w' => e = .returned (.tuple #[x.val, .int .i64 n]) ∧ Below w.heap.size w w' := by
  unfold phAt at h
  cases htr : trOf (rnN s 0) with
  | none => rw [htr] at h; cases h
  | some t =>
    rw [htr] at h
    dsimp only at h
    rw [Nat.zero_add] at h
    cases hl : stB s (wdN s 0) [203, 144]
    · rw [hl] at h
      simp only [Bool.false_eq_true, if_false, Nat.zero_add] at h
      by_cases hv : t.vowel = false
      · rw [if_pos hv] at h
        injection h with h; injection h with h1 h2; subst h1 h2
        exact next_sc hT s hp hs htr hv hl
      · rw [if_neg hv] at h
        have hv' : t.vowel = true := by simpa using hv
        cases hi : stB s (wdN s 0) [105, 204, 175]
        · rw [hi] at h
          simp only [Bool.false_eq_true, if_false] at h
          cases hu : stB s (wdN s 0) [117, 204, 175]
          · rw [hu] at h
            simp only [Bool.false_eq_true, if_false] at h
            injection h with h; injection h with h1 h2; subst h1 h2
            exact next_sn hT s hp hs htr hv' hl hi hu
          · rw [hu] at h
            simp only [if_true] at h
            injection h with h; injection h with h1 h2; subst h1 h2
            exact next_su hT s hp hs htr hv' hl hi hu
        · rw [hi] at h
          simp only [if_true] at h
          injection h with h; injection h with h1 h2; subst h1 h2
          exact next_si hT s hp hs htr hv' hl hi
    · rw [hl] at h
      simp only [if_true, Nat.zero_add] at h
      by_cases hv : t.vowel = false
      · rw [if_pos hv] at h
        injection h with h; injection h with h1 h2; subst h1 h2
        exact next_lc hT s hp hs htr hv hl
      · rw [if_neg hv] at h
        have hv' : t.vowel = true := by simpa using hv
        cases hi : stB s (wdN s 0 + 2) [105, 204, 175]
        · rw [hi] at h
          simp only [Bool.false_eq_true, if_false] at h
          cases hu : stB s (wdN s 0 + 2) [117, 204, 175]
          · rw [hu] at h
            simp only [Bool.false_eq_true, if_false] at h
            injection h with h; injection h with h1 h2; subst h1 h2
            exact next_ln hT s hp hs htr hv' hl hi hu
          · rw [hu] at h
            simp only [if_true] at h
            injection h with h; injection h with h1 h2; subst h1 h2
            exact next_lu hT s hp hs htr hv' hl hi hu
        · rw [hi] at h
          simp only [if_true] at h
          injection h with h; injection h with h1 h2; subst h1 h2
          exact next_li hT s hp hs htr hv' hl hi
theorem next_no {w : World} {m : Nat} (hT : Tab w m rowsS) (s : ByteArray) (hp : 0 < s.size) (hs : s.size ≤ 140737488355328) (h : phAt s 0 = none) :
    Calls Tryd.prog 103 #[.map (some m), .string s] w fun e w' => e = .returned (.tuple #[.agg #[.int .i32 0, .bool false, .int .i32 0], .int .i64 0]) ∧ Below w.heap.size w w' := by
  have : trOf (rnN s 0) = none := by
    unfold phAt at h
    cases htr : trOf (rnN s 0) with
    | none => rfl
    | some t =>
      rw [htr] at h
      dsimp only at h
      exfalso
      (repeat' (split at h)) <;> cases h
  exact next_none hT s hp hs this
end Go.Proofs.YtieifhfgedoiaaaDoor
