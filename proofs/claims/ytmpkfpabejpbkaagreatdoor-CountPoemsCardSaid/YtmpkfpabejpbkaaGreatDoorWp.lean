/- The words of a text lie in it. No program in sight. Conditions: those of each theorem. -/
import Derived.Test.YtmpkfpabejpbkaaGreatDoorWi
namespace Go.Proofs.YtmpkfpabejpbkaaGreatDoor
open Go Go.RowKit Go.Lib
set_option linter.unusedVariables false
set_option linter.unusedSimpArgs false
theorem wrap_small (x : Int) (h0 : 0 ≤ x) (h1 : x ≤ 4611686018427387904) : wrap64 x = x := by
  unfold wrap64; omega
/-- what holds of the units so far, at position c -/
structure UInv (n c : Nat) (st : List Un × Un) : Prop where
  ok : ∀ x ∈ st.1, 0 ≤ x.f ∧ x.f ≤ x.t ∧ x.t ≤ st.2.f ∧ x.t ≤ c
  pw : st.1.Pairwise fun x y => x.f ≤ y.t
  u0 : 0 ≤ st.2.f
  u1 : st.2.f ≤ st.2.t
  u2 : st.2.t ≤ c
theorem UInv.step {s : ByteArray} {c : Nat} {st : List Un × Un} (h : UInv s.size c st) (hc : c < s.size) (hs : s.size ≤ 140737488355328) : UInv s.size (c + wdN s c) (uStep s st c) := by
  obtain ⟨out, u⟩ := st
  obtain ⟨h1, h2, h3, h4, h5⟩ := h
  dsimp only at h1 h2 h3 h4 h5
  have hw := wdN_pos hc
  have e1 : wrap64 (u.t + (wdN s c : Int)) = u.t + wdN s c := wrap_small _ (by omega) (by omega)
  have e2 : wrap64 ((c : Int) + (wdN s c : Int)) = c + wdN s c := wrap_small _ (by omega) (by omega)
  unfold uStep
  dsimp only
  rw [e1, e2]
  split
  · exact ⟨fun x hx => by have := h1 x hx; dsimp only; omega, h2, h3, by dsimp only; omega, by dsimp only; omega⟩
  · refine ⟨?_, ?_, by dsimp only; omega, by dsimp only; omega, by dsimp only; omega⟩
    · intro x hx
      dsimp only at hx ⊢
      split at hx
      · rcases List.mem_append.1 hx with hx | hx
        · have := h1 x hx; omega
        · rw [List.mem_singleton.1 hx]; omega
      · have := h1 x hx; omega
    · dsimp only
      split
      · refine List.pairwise_append.2 ⟨h2, List.pairwise_singleton _ _, fun x hx y hy => ?_⟩
        rw [List.mem_singleton.1 hy]
        have := h1 x hx
        omega
      · exact h2
theorem UInv.run {s : ByteArray} (hs : s.size ≤ 140737488355328) : ∀ (n c : Nat), n = s.size - c → c ≤ s.size → ∀ st, UInv s.size c st → UInv s.size s.size ((posL s c).foldl (uStep s) st) := by
  intro n
  induction n using Nat.strongRecOn with
  | _ n ih =>
    intro c hn hc st h
    by_cases hp : c < s.size
    · have hw := wdN_pos hp
      rw [posL_more hp, List.foldl_cons]
      exact ih (s.size - (c + wdN s c)) (by omega) _ rfl hw.2.2 _ (h.step hp hs)
    · rw [posL_end hp]
      obtain rfl : c = s.size := by omega
      exact h
theorem units_ok (s : ByteArray) (hs : s.size ≤ 140737488355328) : (∀ x ∈ unitsL s, 0 ≤ x.f ∧ x.f ≤ x.t ∧ x.t ≤ s.size) ∧ (unitsL s).Pairwise fun x y => x.f ≤ y.t := by
  have h : UInv s.size s.size (uFold s (posL s 0)) := UInv.run hs s.size 0 (by omega) (Nat.zero_le _) _ ⟨(by intro x hx; cases hx), List.Pairwise.nil, (by show (0:Int) ≤ 0; omega), (by show (0:Int) ≤ 0; omega), (by show (0:Int) ≤ (0:Nat); omega)⟩
  obtain ⟨h1, h2, h3, h4, h5⟩ := h
  unfold unitsL
  split
  · refine ⟨fun x hx => ?_, List.pairwise_append.2 ⟨h2, List.pairwise_singleton _ _, fun x hx y hy => ?_⟩⟩
    · rcases List.mem_append.1 hx with hx | hx
      · have := h1 x hx; omega
      · rw [List.mem_singleton.1 hx]; exact ⟨h3, h4, h5⟩
    · rw [List.mem_singleton.1 hy]
      have := h1 x hx
      omega
  · exact ⟨fun x hx => by have := h1 x hx; omega, h2⟩
theorem fitsU_keep (sc : Sc) (u : Un) : (fitsU sc u).1.f = sc.f ∧ (fitsU sc u).1.t = sc.t ∧ (sc.st = 0 → fitsU sc u = (sc, 0)) ∧ ((fitsU sc u).2 ≠ 2 → (fitsU sc u).2 ≠ 1 → (fitsU sc u).1 = sc) := by
  unfold fitsU
  repeat' split
  all_goals (refine ⟨rfl, rfl, fun h => ?_, fun h g => ?_⟩)
  all_goals first
    | rfl
    | (exfalso; omega)
    | (exfalso; exact h rfl)
    | (exfalso; exact g rfl)
structure SInv (n : Nat) (st : List Tk × Sc) (rest : List Un) : Prop where
  ok : ∀ x ∈ st.1, x.kd = 1 → 0 ≤ x.f ∧ x.f ≤ x.t ∧ x.t ≤ n
  sc : st.2.st = 0 ∨ (0 ≤ st.2.f ∧ st.2.f ≤ st.2.t ∧ st.2.t ≤ n ∧ ∀ y ∈ rest, st.2.f ≤ y.t)
theorem toks_ok {n : Nat} {sc : Sc} (h : sc.st = 0 ∨ (0 ≤ sc.f ∧ sc.f ≤ sc.t ∧ sc.t ≤ n)) : ∀ x ∈ toks sc, x.kd = 1 → 0 ≤ x.f ∧ x.f ≤ x.t ∧ x.t ≤ n := by
  intro x hx hk
  unfold toks at hx
  split at hx
  · cases hx
  · next h0 =>
    have h' := h.resolve_left h0
    split at hx
    · rcases List.mem_cons.1 hx with rfl | hx
      · exact h'
      · rw [List.mem_singleton.1 hx] at hk; exact absurd hk (by show ¬ (5:Int) = 1; omega)
    · rw [List.mem_singleton.1 hx]; exact h'
theorem beginU_ft (u h : Un) : (beginU u h).f = u.f ∧ (beginU u h).t = u.t := by
  unfold beginU; repeat' split
  all_goals exact ⟨rfl, rfl⟩
theorem SInv.step {n : Nat} {st : List Tk × Sc} {u : Un} {rest : List Un} (h : SInv n st (u :: rest)) (hu : 0 ≤ u.f ∧ u.f ≤ u.t ∧ u.t ≤ n) (hr : ∀ y ∈ rest, u.f ≤ y.t) : SInv n (sStep st u) rest := by
  obtain ⟨out, sc⟩ := st
  obtain ⟨h1, h2⟩ := h
  dsimp only at h1 h2
  obtain ⟨k1, k2, k3, k4⟩ := fitsU_keep sc u
  unfold sStep
  dsimp only
  split
  · next hd =>
    have h2' := h2.resolve_left (fun h0 => by rw [k3 h0] at hd; dsimp only at hd; omega)
    exact ⟨h1, .inr (by dsimp only; rw [k1, k2]; exact ⟨h2'.1, h2'.2.1, h2'.2.2.1, fun y hy => h2'.2.2.2 y (List.mem_cons_of_mem _ hy)⟩)⟩
  · next hd2 =>
    split
    · next hd =>
      have h2' := h2.resolve_left (fun h0 => by rw [k3 h0] at hd; dsimp only at hd; omega)
      exact ⟨h1, .inr (by dsimp only; rw [k1]; exact ⟨h2'.1, h2'.2.2.2 u (List.mem_cons_self ..), hu.2.2, fun y hy => h2'.2.2.2 y (List.mem_cons_of_mem _ hy)⟩)⟩
    · next hd1 =>
      rw [k4 hd2 hd1]
      refine ⟨fun x hx hk => ?_, .inr ?_⟩
      · rcases List.mem_append.1 hx with hx | hx
        · exact h1 x hx hk
        · exact toks_ok (h2.imp id (fun h => ⟨h.1, h.2.1, h.2.2.1⟩)) x hx hk
      · dsimp only
        rw [(beginU_ft u sc.h).1, (beginU_ft u sc.h).2]
        exact ⟨hu.1, hu.2.1, hu.2.2, hr⟩
theorem SInv.run {n : Nat} : ∀ (us : List Un) (st : List Tk × Sc), (∀ x ∈ us, 0 ≤ x.f ∧ x.f ≤ x.t ∧ x.t ≤ n) → (us.Pairwise fun x y => x.f ≤ y.t) → SInv n st us → SInv n (us.foldl sStep st) []
  | [], st, _, _, h => h
  | u :: us, st, h1, h2, h => by
    rw [List.foldl_cons]
    obtain ⟨p1, p2⟩ := List.pairwise_cons.1 h2
    exact SInv.run us _ (fun x hx => h1 x (List.mem_cons_of_mem _ hx)) p2 (h.step (h1 u (List.mem_cons_self ..)) p1)
/-- a text's words lie in it -/
theorem words_ok (s : ByteArray) (hs : s.size ≤ 140737488355328) : ∀ x ∈ wordsL s, 0 ≤ x.f ∧ x.f ≤ x.t ∧ x.t ≤ s.size := by
  intro x hx
  obtain ⟨u1, u2⟩ := units_ok s hs
  have h : SInv s.size (sFold (unitsL s)) [] := SInv.run _ _ u1 u2 ⟨(by intro x hx; cases hx), .inl rfl⟩
  unfold wordsL wFil at hx
  obtain ⟨hx, hk⟩ := List.mem_filter.1 hx
  have hk : x.kd = 1 := by simpa using hk
  unfold scanL at hx
  rcases List.mem_append.1 hx with hx | hx
  · exact h.ok x hx hk
  · exact toks_ok (h.sc.imp id (fun h => ⟨h.1, h.2.1, h.2.2.1⟩)) x hx hk
end Go.Proofs.YtmpkfpabejpbkaaGreatDoor
