/- The units of a text stand side by side over it, and a broken byte is a unit of its own. No program in sight. Conditions: those of each theorem. -/
import Derived.Test.YteodfondjogmoaaGreatDoorJc
import Derived.Test.YteodfondjogmoaaGreatDoorRNLfA
import Derived.Test.YteodfondjogmoaaGreatDoorJb
import Derived.Lib.MapLaws
import Derived.Lib.TrimUEq
namespace Go.Proofs.YteodfondjogmoaaGreatDoor
open Go Go.RowKit Go.Lib
set_option linter.unusedVariables false
theorem posL_ge {s : ByteArray} : ∀ (k p : Nat), s.size - p ≤ k → ∀ x ∈ posL s p, p ≤ x
  | 0, p, h, x, hx => by rw [posL_end (by omega)] at hx; cases hx
  | k + 1, p, h, x, hx => by
    by_cases hp : p < s.size
    · rw [posL_more hp] at hx
      have hw := wdN_pos hp
      rcases List.mem_cons.1 hx with rfl | hx
      · exact Nat.le_refl _
      · have := posL_ge k _ (by omega) x hx
        omega
    · rw [posL_end hp] at hx; cases hx
/-- no piece begins within a piece -/
theorem posL_gap {s : ByteArray} : ∀ (k p0 : Nat), s.size - p0 ≤ k → ∀ c p, c ∈ posL s p0 → p ∈ posL s p0 → c ≤ p → p < c + wdN s c → p = c
  | 0, p0, h, c, p, hc, hx, _, _ => by rw [posL_end (by omega)] at hx; cases hx
  | k + 1, p0, h, c, p, hc, hx, h1, h2 => by
    by_cases hp : p0 < s.size
    · have hw := wdN_pos hp
      rw [posL_more hp] at hc hx
      rcases List.mem_cons.1 hc with rfl | hc
      · rcases List.mem_cons.1 hx with rfl | hx
        · rfl
        · have := posL_ge k _ (by omega) p hx
          omega
      · rcases List.mem_cons.1 hx with rfl | hx
        · have := posL_ge k _ (by omega) c hc
          omega
        · exact posL_gap k _ (by omega) c p hc hx h1 h2
    · rw [posL_end hp] at hx; cases hx
/-- units that stand side by side from a to b -/
def Tile : Int → List Un → Int → Prop
  | a, [], b => a = b
  | a, x :: r, b => x.f = a ∧ x.f < x.t ∧ Tile x.t r b
theorem Tile.snoc {b : Int} {x : Un} (h1 : x.f = b) (h2 : x.f < x.t) : ∀ {l : List Un} {a : Int}, Tile a l b → Tile a (l ++ [x]) x.t
  | [], a, h => by
    have h : a = b := h
    exact ⟨by omega, h2, rfl⟩
  | y :: r, a, h => ⟨h.1, h.2.1, Tile.snoc h1 h2 h.2.2⟩
/-- a broken byte in a unit is the unit's first piece -/
def UC (s : ByteArray) (x : Un) : Prop := ∀ p ∈ posL s 0, x.f ≤ (p : Int) → (p : Int) < x.t → isBr s p = true → x.k = 11 ∧ x.r = 65533
structure UT (s : ByteArray) (c : Nat) (st : List Un × Un) : Prop where
  tile : Tile 0 st.1 st.2.f
  op : (st.2.t = 0 ∧ st.2.f = 0 ∧ c = 0) ∨ (st.2.f < st.2.t ∧ st.2.t = c)
  cl : ∀ x ∈ st.1, UC s x
  cu : UC s st.2
  f0 : 0 ≤ st.2.f
theorem br_k {s : ByteArray} {p : Nat} (h : isBr s p = true) : kP s p = 11 ∧ rnN s p = 65533 := by
  unfold kP
  rw [if_pos h]
  unfold isBr R.brB at h
  exact ⟨rfl, (of_decide_eq_true h).1⟩
theorem UT.step {s : ByteArray} {c : Nat} {st : List Un × Un} (h : UT s c st) (hc : c < s.size) (hm : c ∈ posL s 0) (hs : s.size ≤ 140737488355328) : UT s (c + wdN s c) (uStep s st c) := by
  obtain ⟨out, u⟩ := st
  obtain ⟨h1, h2, h3, h4, h0⟩ := h
  dsimp only at h1 h2 h3 h4 h0
  have hw := wdN_pos hc
  have hu : 0 ≤ u.t ∧ u.t = c := by omega
  have e1 : wrap64 (u.t + (wdN s c : Int)) = u.t + wdN s c := wrap_small _ (by omega) (by omega)
  have e2 : wrap64 ((c : Int) + (wdN s c : Int)) = c + wdN s c := wrap_small _ (by omega) (by omega)
  have gap : ∀ p ∈ posL s 0, (c : Int) ≤ p → (p : Int) < c + wdN s c → p = c := fun p hp a b => posL_gap _ 0 (Nat.le_refl _) c p hm hp (by omega) (by omega)
  unfold uStep
  dsimp only
  rw [e1, e2]
  split
  · next hk =>
    refine ⟨h1, .inr ⟨by dsimp only; omega, by dsimp only; omega⟩, h3, (fun p hp a b hb => ?_), h0⟩
    dsimp only at a b ⊢
    by_cases hlt : (p : Int) < u.t
    · exact h4 p hp a hlt hb
    · have := gap p hp (by omega) (by omega)
      subst this
      have := (br_k hb).1
      omega
  · refine ⟨?_, .inr ⟨by dsimp only; omega, by dsimp only; omega⟩, ?_, (fun p hp a b hb => ?_), by dsimp only; omega⟩
    · dsimp only
      split
      · have ht : u.f < u.t := by omega
        have := Tile.snoc (x := u) rfl ht h1
        rw [hu.2] at this
        exact this
      · have : u.f = 0 ∧ (c : Int) = 0 := by omega
        rw [this.2]
        rw [this.1] at h1
        exact h1
    · dsimp only
      intro x hx
      split at hx
      · rcases List.mem_append.1 hx with hx | hx
        · exact h3 x hx
        · rw [List.mem_singleton.1 hx]; exact h4
      · exact h3 x hx
    · dsimp only at a b ⊢
      have := gap p hp (by omega) (by omega)
      subst this
      exact ⟨(br_k hb).1, by rw [(br_k hb).2]; rfl⟩
theorem UT.run {s : ByteArray} (hs : s.size ≤ 140737488355328) : ∀ (n c : Nat), n = s.size - c → c ≤ s.size → (∀ x ∈ posL s c, x ∈ posL s 0) → ∀ st, UT s c st → UT s s.size ((posL s c).foldl (uStep s) st) := by
  intro n
  induction n using Nat.strongRecOn with
  | _ n ih =>
    intro c hn hc hm st h
    by_cases hp : c < s.size
    · have hw := wdN_pos hp
      rw [posL_more hp] at hm ⊢
      rw [List.foldl_cons]
      exact ih (s.size - (c + wdN s c)) (by omega) _ rfl hw.2.2 (fun x hx => hm x (List.mem_cons_of_mem _ hx)) _ (h.step hp (hm c (List.mem_cons_self ..)) hs)
    · rw [posL_end hp]
      obtain rfl : c = s.size := by omega
      exact h
/-- the units of a text stand side by side over it -/
theorem units_tile (s : ByteArray) (hs : s.size ≤ 140737488355328) : Tile 0 (unitsL s) s.size ∧ ∀ x ∈ unitsL s, UC s x := by
  have h : UT s s.size (uFold s (posL s 0)) := UT.run hs s.size 0 (by omega) (Nat.zero_le _) (fun x hx => hx) _ ⟨rfl, .inl ⟨rfl, rfl, rfl⟩, (fun x hx => by cases hx), (fun p hp a b => absurd b (by show ¬ ((p : Int) < 0); omega)), (by show (0:Int) ≤ 0; omega)⟩
  obtain ⟨h1, h2, h3, h4, hf⟩ := h
  unfold unitsL
  split
  · next h0 =>
    have h5 : (uFold s (posL s 0)).2.f < (uFold s (posL s 0)).2.t ∧ (uFold s (posL s 0)).2.t = s.size := by omega
    have := Tile.snoc (x := (uFold s (posL s 0)).2) rfl h5.1 h1
    rw [h5.2] at this
    refine ⟨this, fun x hx => ?_⟩
    rcases List.mem_append.1 hx with hx | hx
    · exact h3 x hx
    · rw [List.mem_singleton.1 hx]; exact h4
  · next h0 =>
    have h5 : (uFold s (posL s 0)).2.f = 0 ∧ (s.size : Int) = 0 := by omega
    rw [h5.1] at h1
    rw [h5.2]
    exact ⟨h1, h3⟩
end Go.Proofs.YteodfondjogmoaaGreatDoor
/- The words of a text: one behind the other, none empty, no broken byte in them. No program in sight. Conditions: those of each theorem. -/
namespace Go.Proofs.YteodfondjogmoaaGreatDoor
open Go Go.RowKit Go.Lib
set_option linter.unusedVariables false
/-- no broken byte stands between a and b -/
def Cl (s : ByteArray) (a b : Int) : Prop := ∀ p ∈ posL s 0, a ≤ (p : Int) → (p : Int) < b → isBr s p = false
theorem UC.cl {s : ByteArray} {u : Un} (h : UC s u) (hk : u.k ≠ 11 ∨ u.r ≠ 65533) : Cl s u.f u.t := fun p hp a b => by
  cases hb : isBr s p with
  | false => rfl
  | true =>
    have := h p hp a b hb
    rcases hk with hk | hk
    · exact absurd this.1 hk
    · exact absurd this.2 hk
theorem Cl.join {s : ByteArray} {a b c : Int} (h : Cl s a b) (k : Cl s b c) : Cl s a c := fun p hp x y => by
  by_cases hb : (p : Int) < b
  · exact h p hp x hb
  · exact k p hp (by omega) y
structure ST (s : ByteArray) (c : Int) (st : List Tk × Sc) : Prop where
  pw : st.1.Pairwise fun x y => x.t ≤ y.f
  dn : ∀ x ∈ st.1, 0 ≤ x.f ∧ x.f < x.t ∧ x.t ≤ c ∧ (st.2.st ≠ 0 → x.t ≤ st.2.f) ∧ (x.kd = 1 → Cl s x.f x.t)
  op : st.2.st = 0 ∨ (0 ≤ st.2.f ∧ st.2.f < st.2.t ∧ st.2.t ≤ c ∧ (st.2.kd = 1 → Cl s st.2.f st.2.t) ∧ (st.2.kd = 1 → st.2.st = 1 ∨ st.2.st = 2) ∧
    ((st.2.st = 2 ∨ st.2.st = 4) → st.2.h.f = st.2.t ∧ st.2.h.f < st.2.h.t ∧ st.2.h.t = c ∧ (st.2.st = 2 → Cl s st.2.h.f st.2.h.t)) ∧ (¬ (st.2.st = 2 ∨ st.2.st = 4) → st.2.t = c))
theorem ST.all {s : ByteArray} {c : Int} {st : List Tk × Sc} (h : ST s c st) : (st.1 ++ toks st.2).Pairwise (fun x y => x.t ≤ y.f) ∧ ∀ x ∈ st.1 ++ toks st.2, 0 ≤ x.f ∧ x.f < x.t ∧ x.t ≤ c ∧ (x.kd = 1 → Cl s x.f x.t) := by
  obtain ⟨out, sc⟩ := st
  obtain ⟨h1, h2, h3⟩ := h
  dsimp only at h1 h2 h3 ⊢
  unfold toks
  by_cases h0 : sc.st = 0
  · rw [if_pos h0, List.append_nil]
    exact ⟨h1, fun x hx => by have := h2 x hx; exact ⟨this.1, this.2.1, this.2.2.1, this.2.2.2.2⟩⟩
  · rw [if_neg h0]
    obtain ⟨k1, k2, k3, k4, k5, k6, k7⟩ := h3.resolve_left h0
    by_cases h24 : sc.st = 2 ∨ sc.st = 4
    · obtain ⟨m1, m2, m3, m4⟩ := k6 h24
      rw [if_pos h24]
      refine ⟨List.pairwise_append.2 ⟨h1, ?_, fun x hx y hy => ?_⟩, fun x hx => ?_⟩
      · refine List.pairwise_cons.2 ⟨fun y hy => ?_, List.pairwise_singleton _ _⟩
        rw [List.mem_singleton.1 hy]
        show sc.t ≤ sc.h.f
        omega
      · have a := (h2 x hx).2.2.2.1 h0
        rcases List.mem_cons.1 hy with rfl | hy
        · exact a
        · rw [List.mem_singleton.1 hy]
          show x.t ≤ sc.h.f
          omega
      · rcases List.mem_append.1 hx with hx | hx
        · have := h2 x hx; exact ⟨this.1, this.2.1, this.2.2.1, this.2.2.2.2⟩
        · rcases List.mem_cons.1 hx with rfl | hx
          · exact ⟨k1, k2, k3, k4⟩
          · rw [List.mem_singleton.1 hx]
            exact ⟨by show 0 ≤ sc.h.f; omega, m2, by show sc.h.t ≤ c; omega, fun e => absurd e (by show ¬ (5:Int) = 1; omega)⟩
    · rw [if_neg h24]
      refine ⟨List.pairwise_append.2 ⟨h1, List.pairwise_singleton _ _, fun x hx y hy => ?_⟩, fun x hx => ?_⟩
      · rw [List.mem_singleton.1 hy]
        exact (h2 x hx).2.2.2.1 h0
      · rcases List.mem_append.1 hx with hx | hx
        · have := h2 x hx; exact ⟨this.1, this.2.1, this.2.2.1, this.2.2.2.2⟩
        · rw [List.mem_singleton.1 hx]
          exact ⟨k1, k2, k3, k4⟩
theorem fits_one (sc : Sc) (u : Un) (h : (fitsU sc u).2 = 1) : ∃ q, (fitsU sc u).1 = { sc with st := q } ∧ q ≠ 0 ∧ q ≠ 2 ∧ q ≠ 4 ∧ sc.st ≠ 0 ∧ (sc.st = 1 ∨ sc.st = 2 → q = 1 ∧ u.k = 1) := by
  unfold fitsU at h ⊢
  split at h
  · next a =>
    rw [if_pos a]
    split at h
    · next b => rw [if_pos b]; exact ⟨1, rfl, by omega, by omega, by omega, by omega, fun _ => ⟨rfl, b⟩⟩
    · split at h
      · exact absurd h (by show ¬ (2:Int) = 1; omega)
      · exact absurd h (by show ¬ (0:Int) = 1; omega)
  · next a =>
    rw [if_neg a]
    split at h
    · next b =>
      rw [if_pos b]
      split at h
      · next d => rw [if_pos d]; exact ⟨3, rfl, by omega, by omega, by omega, by omega, fun e => absurd e a⟩
      · split at h
        · exact absurd h (by show ¬ (2:Int) = 1; omega)
        · exact absurd h (by show ¬ (0:Int) = 1; omega)
    · next b =>
      rw [if_neg b]
      split at h
      · next d => rw [if_pos d]; exact ⟨sc.st, rfl, by omega, by omega, by omega, by omega, fun e => absurd e a⟩
      · next d =>
        rw [if_neg d]
        split at h
        · next e => rw [if_pos e]; exact ⟨sc.st, rfl, by omega, by omega, by omega, by omega, fun e => absurd e a⟩
        · next e =>
          rw [if_neg e]
          split at h
          · next g =>
            rw [if_pos g]
            split at h
            · next i => rw [if_pos i]; exact ⟨7, rfl, by omega, by omega, by omega, by omega, fun e => absurd e a⟩
            · exact absurd h (by show ¬ (0:Int) = 1; omega)
          · exact absurd h (by show ¬ (0:Int) = 1; omega)
theorem fits_two (sc : Sc) (u : Un) (h : (fitsU sc u).2 = 2) : (sc.st = 1 ∧ (fitsU sc u).1 = { sc with st := 2, h := u } ∧ jointU u = true) ∨ (sc.st = 3 ∧ (fitsU sc u).1 = { sc with st := 4, h := u }) := by
  unfold fitsU at h ⊢
  split at h
  · next a =>
    rw [if_pos a]
    split at h
    · exact absurd h (by show ¬ (1:Int) = 2; omega)
    · next b =>
      rw [if_neg b]
      split at h
      · next d => rw [if_pos d]; exact .inl ⟨d.1, rfl, d.2⟩
      · exact absurd h (by show ¬ (0:Int) = 2; omega)
  · next a =>
    rw [if_neg a]
    split at h
    · next b =>
      rw [if_pos b]
      split at h
      · exact absurd h (by show ¬ (1:Int) = 2; omega)
      · next d =>
        rw [if_neg d]
        split at h
        · next e => rw [if_pos e]; exact .inr ⟨e.1, rfl⟩
        · exact absurd h (by show ¬ (0:Int) = 2; omega)
    · exfalso
      split at h
      · dsimp only at h; split at h <;> omega
      · split at h
        · dsimp only at h; split at h <;> omega
        · split at h
          · split at h
            · exact absurd h (by show ¬ (1:Int) = 2; omega)
            · exact absurd h (by show ¬ (0:Int) = 2; omega)
          · exact absurd h (by show ¬ (0:Int) = 2; omega)
theorem joint_r {u : Un} (h : jointU u = true) : u.r ≠ 65533 := by
  unfold jointU at h
  simp only [Bool.and_eq_true, Bool.or_eq_true, beq_iff_eq] at h
  omega
theorem begin_st (u h : Un) : (beginU u h).st ≠ 0 ∧ (beginU u h).st ≠ 2 ∧ (beginU u h).st ≠ 4 ∧ ((beginU u h).kd = 1 → u.k = 1 ∧ (beginU u h).st = 1) := by
  unfold beginU
  by_cases h1 : u.k = 1
  · rw [if_pos h1]; exact ⟨by show (1:Int) ≠ 0; omega, by show (1:Int) ≠ 2; omega, by show (1:Int) ≠ 4; omega, fun _ => ⟨h1, rfl⟩⟩
  · rw [if_neg h1]
    repeat' split
    all_goals (dsimp only; refine ⟨?_, ?_, ?_, fun e => ?_⟩)
    all_goals first | omega | (split <;> omega)
theorem ST.step {s : ByteArray} {c : Int} {st : List Tk × Sc} {u : Un} (h : ST s c st) (h0 : 0 ≤ c) (hf : u.f = c) (ht : u.f < u.t) (hu : UC s u) : ST s u.t (sStep st u) := by
  have hA := h.all
  obtain ⟨out, sc⟩ := st
  obtain ⟨h1, h2, h3⟩ := h
  dsimp only at h1 h2 h3 hA
  obtain ⟨k1, k2, k3, k4⟩ := fitsU_keep sc u
  unfold sStep
  dsimp only
  split
  · next hd =>
    have dn : ∀ x ∈ out, 0 ≤ x.f ∧ x.f < x.t ∧ x.t ≤ u.t ∧ (True → sc.st ≠ 0 → x.t ≤ sc.f) ∧ (x.kd = 1 → Cl s x.f x.t) := fun x hx => by
      have a := h2 x hx
      exact ⟨a.1, a.2.1, by omega, fun _ => a.2.2.2.1, a.2.2.2.2⟩
    rcases fits_two sc u hd with ⟨e1, e2, e3⟩ | ⟨e1, e2⟩
    · rw [e2]
      obtain ⟨m1, m2, m3, m4, m5, m6, m7⟩ := h3.resolve_left (by omega)
      have m8 := m7 (by omega)
      exact ⟨h1, fun x hx => by have a := dn x hx; exact ⟨a.1, a.2.1, a.2.2.1, fun _ => a.2.2.2.1 trivial (by omega), a.2.2.2.2⟩,
        .inr ⟨m1, m2, by dsimp only; omega, m4, fun _ => .inr rfl, fun _ => ⟨by dsimp only; omega, ht, rfl, fun _ => hu.cl (.inr (joint_r e3))⟩, fun g => absurd (.inl rfl) g⟩⟩
    · rw [e2]
      obtain ⟨m1, m2, m3, m4, m5, m6, m7⟩ := h3.resolve_left (by omega)
      have m8 := m7 (by omega)
      exact ⟨h1, fun x hx => by have a := dn x hx; exact ⟨a.1, a.2.1, a.2.2.1, fun _ => a.2.2.2.1 trivial (by omega), a.2.2.2.2⟩,
        .inr ⟨m1, m2, by dsimp only; omega, m4, fun e => absurd (m5 e) (by omega), fun _ => ⟨by dsimp only; omega, ht, rfl, fun e => absurd e (by show ¬ (4:Int) = 2; omega)⟩, fun g => absurd (.inr rfl) g⟩⟩
  · next hd2 =>
    split
    · next hd =>
      obtain ⟨q, e1, q0, q2, q4, e2, e3⟩ := fits_one sc u hd
      rw [e1]
      obtain ⟨m1, m2, m3, m4, m5, m6, m7⟩ := h3.resolve_left e2
      refine ⟨h1, fun x hx => ?_, .inr ⟨m1, by dsimp only; omega, by dsimp only; omega, fun e => ?_, fun e => ?_, fun g => ?_, fun _ => rfl⟩⟩
      · have a := h2 x hx
        exact ⟨a.1, a.2.1, by omega, fun _ => a.2.2.2.1 e2, a.2.2.2.2⟩
      · have a := m5 e
        have b := (e3 a).2
        have d : Cl s u.f u.t := hu.cl (.inl (by omega))
        dsimp only
        by_cases h24 : sc.st = 2 ∨ sc.st = 4
        · obtain ⟨n1, n2, n3, n4⟩ := m6 h24
          have n5 := n4 (by omega)
          rw [n1, n3, ← hf] at n5
          exact ((m4 e).join n5).join d
        · have := m7 h24
          have g := m4 e
          rw [this, ← hf] at g
          exact g.join d
      · exact .inl (e3 (m5 e)).1
      · dsimp only at g
        omega
    · next hd1 =>
      rw [k4 hd2 hd1]
      obtain ⟨b1, b2, b3, b4⟩ := begin_st u sc.h
      have bf := beginU_ft u sc.h
      refine ⟨hA.1, fun x hx => ?_, .inr ⟨by dsimp only; omega, by dsimp only; omega, by dsimp only; omega, fun e => ?_, fun e => .inl (b4 e).2, fun g => by dsimp only at g; omega, fun _ => by dsimp only; omega⟩⟩
      · have a := hA.2 x hx
        exact ⟨a.1, a.2.1, by omega, fun _ => by dsimp only; omega, a.2.2.2⟩
      · dsimp only
        rw [bf.1, bf.2]
        exact hu.cl (.inl (by have := (b4 e).1; omega))
theorem Tile.le : ∀ {l : List Un} {a b : Int}, Tile a l b → a ≤ b
  | [], a, b, h => by have h : a = b := h; omega
  | x :: r, a, b, h => by have := Tile.le h.2.2; have := h.1; have := h.2.1; omega
theorem ST.run {s : ByteArray} : ∀ (us : List Un) (c b : Int) (st : List Tk × Sc), 0 ≤ c → Tile c us b → (∀ x ∈ us, UC s x) → ST s c st → ST s b (us.foldl sStep st)
  | [], c, b, st, _, ht, _, h => by have e : c = b := ht; subst e; exact h
  | u :: us, c, b, st, h0, ht, hu, h => by
    rw [List.foldl_cons]
    exact ST.run us u.t b _ (by have := ht.1; have := ht.2.1; omega) ht.2.2 (fun x hx => hu x (List.mem_cons_of_mem _ hx)) (h.step h0 ht.1 ht.2.1 (hu u (List.mem_cons_self ..)))
/-- a text's words: one behind the other, none empty, none with a broken byte -/
theorem words_fine (s : ByteArray) (hs : s.size ≤ 140737488355328) : (wordsL s).Pairwise (fun x y => x.t ≤ y.f) ∧ ∀ x ∈ wordsL s, 0 ≤ x.f ∧ x.f < x.t ∧ x.t ≤ s.size ∧ Cl s x.f x.t := by
  obtain ⟨h1, h2⟩ := units_tile s hs
  have h : ST s s.size (sFold (unitsL s)) := ST.run (unitsL s) 0 s.size _ (Int.le_refl _) h1 h2 ⟨List.Pairwise.nil, (fun x hx => by cases hx), .inl rfl⟩
  obtain ⟨a, b⟩ := h.all
  refine ⟨?_, fun x hx => ?_⟩
  · unfold wordsL wFil scanL
    exact a.filter _
  · unfold wordsL wFil scanL at hx
    obtain ⟨hx, hk⟩ := List.mem_filter.1 hx
    have e := b x hx
    exact ⟨e.1, e.2.1, e.2.2.1, e.2.2.2 (by simpa using hk)⟩
end Go.Proofs.YteodfondjogmoaaGreatDoor
/- Layer 4's tables as plain data, and the law that what a letter folds to is folded already. Conditions: those of each theorem. -/
namespace Go.Proofs.YteodfondjogmoaaGreatDoor
open Go Go.RowKit
/-- a joined letter, its base, its mark -/
def splitT : List (Nat × Nat × Nat) := [(192, 65, 768), (200, 69, 768), (204, 73, 768), (210, 79, 768), (217, 85, 768), (224, 97, 768), (232, 101, 768), (236, 105, 768), (242, 111, 768), (249, 117, 768), (1024, 1045, 768), (1037, 1048, 768), (1104, 1077, 768), (1117, 1080, 768), (193, 65, 769), (201, 69, 769), (205, 73, 769), (211, 79, 769), (218, 85, 769), (221, 89, 769), (225, 97, 769), (233, 101, 769), (237, 105, 769), (243, 111, 769), (250, 117, 769), (253, 121, 769), (262, 67, 769), (313, 76, 769), (323, 78, 769), (340, 82, 769), (346, 83, 769), (377, 90, 769), (263, 99, 769), (314, 108, 769), (324, 110, 769), (341, 114, 769), (347, 115, 769), (378, 122, 769), (902, 913, 769), (904, 917, 769), (905, 919, 769), (906, 921, 769), (908, 927, 769), (910, 933, 769), (911, 937, 769), (940, 945, 769), (941, 949, 769), (942, 951, 769), (943, 953, 769), (972, 959, 769), (973, 965, 769), (974, 969, 769), (1027, 1043, 769), (1036, 1050, 769), (1107, 1075, 769), (1116, 1082, 769), (912, 970, 769), (944, 971, 769), (194, 65, 770), (202, 69, 770), (206, 73, 770), (212, 79, 770), (219, 85, 770), (226, 97, 770), (234, 101, 770), (238, 105, 770), (244, 111, 770), (251, 117, 770), (264, 67, 770), (284, 71, 770), (292, 72, 770), (308, 74, 770), (348, 83, 770), (372, 87, 770), (374, 89, 770), (265, 99, 770), (285, 103, 770), (293, 104, 770), (309, 106, 770), (349, 115, 770), (373, 119, 770), (375, 121, 770), (195, 65, 771), (209, 78, 771), (213, 79, 771), (227, 97, 771), (241, 110, 771), (245, 111, 771), (296, 73, 771), (360, 85, 771), (297, 105, 771), (361, 117, 771), (256, 65, 772), (274, 69, 772), (298, 73, 772), (332, 79, 772), (362, 85, 772), (257, 97, 772), (275, 101, 772), (299, 105, 772), (333, 111, 772), (363, 117, 772), (258, 65, 774), (276, 69, 774), (286, 71, 774), (300, 73, 774), (334, 79, 774), (364, 85, 774), (259, 97, 774), (277, 101, 774), (287, 103, 774), (301, 105, 774), (335, 111, 774), (365, 117, 774), (1049, 1048, 774), (1038, 1059, 774), (1081, 1080, 774), (1118, 1091, 774), (266, 67, 775), (278, 69, 775), (288, 71, 775), (304, 73, 775), (379, 90, 775), (267, 99, 775), (279, 101, 775), (289, 103, 775), (380, 122, 775), (196, 65, 776), (203, 69, 776), (207, 73, 776), (214, 79, 776), (220, 85, 776), (228, 97, 776), (235, 101, 776), (239, 105, 776), (246, 111, 776), (252, 117, 776), (255, 121, 776), (376, 89, 776), (1025, 1045, 776), (1031, 1030, 776), (1105, 1077, 776), (1111, 1110, 776), (938, 921, 776), (939, 933, 776), (970, 953, 776), (971, 965, 776), (197, 65, 778), (366, 85, 778), (229, 97, 778), (367, 117, 778), (336, 79, 779), (368, 85, 779), (337, 111, 779), (369, 117, 779), (268, 67, 780), (270, 68, 780), (282, 69, 780), (317, 76, 780), (327, 78, 780), (344, 82, 780), (352, 83, 780), (356, 84, 780), (381, 90, 780), (269, 99, 780), (271, 100, 780), (283, 101, 780), (318, 108, 780), (328, 110, 780), (345, 114, 780), (353, 115, 780), (357, 116, 780), (382, 122, 780), (199, 67, 807), (290, 71, 807), (310, 75, 807), (315, 76, 807), (325, 78, 807), (342, 82, 807), (350, 83, 807), (354, 84, 807), (231, 99, 807), (291, 103, 807), (311, 107, 807), (316, 108, 807), (326, 110, 807), (343, 114, 807), (351, 115, 807), (355, 116, 807), (260, 65, 808), (280, 69, 808), (302, 73, 808), (370, 85, 808), (261, 97, 808), (281, 101, 808), (303, 105, 808), (371, 117, 808)]
/-- small letters and what stands for each -/
def othersT : List (Nat × List Nat) := [(223, [115, 115]), (230, [97, 101]), (248, [111]), (240, [100]), (254, [116, 104]), (273, [100]), (295, [104]), (305, [105]), (307, [105, 106]), (312, [113]), (320, [108]), (322, [108]), (329, [110]), (331, [110, 103]), (339, [111, 101]), (359, [116]), (383, [115]), (962, [963])]
def splitN (r : Nat) : Option (Nat × Nat) := (splitT.find? fun x => x.1 == r).map fun x => x.2
/-- the base that a rune comes to, and its marks -/
def partN : Nat → Nat → Nat × List Nat
  | 0, r => (r, [])
  | f + 1, r => match splitN r with
    | some (b, m) => ((partN f b).1, (partN f b).2 ++ [m])
    | none => (r, [])
def headN (r : Nat) : Nat := (partN 4 r).1
def letN (r : Nat) : Bool := R.greatB r || R.smallB r
def lowN (r : Nat) : Nat := (R.lowI r).toNat
def plainN (r : Nat) : List Nat := if letN r then ((othersT.find? fun x => x.1 == lowN r).map fun x => x.2).getD [lowN r] else [r]
/-- what a folded letter is made of is folded already -/
def fineN (x : Nat) : Bool := letN x && (splitN x).isNone && (lowN x == x) && (othersT.find? fun y => y.1 == x).isNone && decide (x < 1120)
set_option maxRecDepth 100000 in
theorem fold_fine_all : (List.range 1120).all (fun r => !letN r || ((plainN (headN r)).all fineN && letN (headN r) && !(plainN (headN r)).isEmpty)) = true := by decide +kernel
set_option maxRecDepth 100000 in
theorem part_done : (splitT.all fun x => (splitN (partN 4 x.1).1).isNone) = true := by decide +kernel
set_option maxRecDepth 100000 in
theorem split_let : (splitT.all fun x => letN x.1 && letN x.2.1 && decide (768 ≤ x.2.2 ∧ x.2.2 ≤ 879)) = true := by decide +kernel
end Go.Proofs.YteodfondjogmoaaGreatDoor
/- Folding on pieces: what is folded is folded already. Conditions: those of each theorem. -/
namespace Go.Proofs.YteodfondjogmoaaGreatDoor
open Go Go.RowKit
/-- a piece: a broken byte, or a rune -/
inductive FPc where
  | br (b : UInt8)
  | ru (r : Nat)
def markN (r : Nat) : Bool := decide (768 ≤ r ∧ r ≤ 879)
def baseN (r : Nat) : Nat := if letN r then headN r else r
/-- what pieces fold to; the flag: the unit ahead is a letter -/
def foldP : Bool → List FPc → List FPc
  | _, [] => []
  | _, .br b :: l => .br b :: foldP false l
  | q, .ru r :: l => if q && markN r then foldP q l else (plainN (baseN r)).map .ru ++ foldP (letN (baseN r)) l
theorem let_small {r : Nat} (h : letN r = true) : r < 1120 := by
  unfold letN R.greatB R.smallB at h
  rcases Bool.or_eq_true_iff.1 h with h | h
  · have := of_decide_eq_true h; unfold R.GreatP at this; omega
  · have := of_decide_eq_true h; unfold R.SmallP at this; omega
theorem fold_fine {r : Nat} (h : letN r = true) : (∀ x ∈ plainN (headN r), fineN x = true) ∧ letN (headN r) = true ∧ plainN (headN r) ≠ [] := by
  have h1 := List.all_eq_true.1 fold_fine_all r (List.mem_range.2 (let_small h))
  rw [h] at h1
  simp only [Bool.not_true, Bool.false_or, Bool.and_eq_true, List.all_eq_true] at h1
  obtain ⟨⟨h2, h3⟩, h4⟩ := h1
  refine ⟨h2, h3, fun e => ?_⟩
  rw [e] at h4
  simp at h4
theorem mark_let {r : Nat} (h : markN r = true) : letN r = false := by
  unfold markN at h
  have := of_decide_eq_true h
  unfold letN R.greatB R.smallB
  rw [Bool.or_eq_false_iff]
  refine ⟨decide_eq_false fun h => ?_, decide_eq_false fun h => ?_⟩
  · unfold R.GreatP at h; omega
  · unfold R.SmallP at h; omega
theorem fine_self {x : Nat} (h : fineN x = true) : letN x = true ∧ markN x = false ∧ headN x = x ∧ plainN x = [x] := by
  unfold fineN at h
  simp only [Bool.and_eq_true] at h
  obtain ⟨⟨⟨⟨h1, h2⟩, h3⟩, h4⟩, h5⟩ := h
  have hm : markN x = false := by
    cases hm : markN x with
    | false => rfl
    | true => rw [mark_let hm] at h1; cases h1
  refine ⟨h1, hm, ?_, ?_⟩
  · unfold headN partN
    rw [Option.isNone_iff_eq_none] at h2
    rw [h2]
  · unfold plainN
    rw [if_pos h1]
    have e : lowN x = x := by simpa using h3
    rw [Option.isNone_iff_eq_none] at h4
    rw [e, h4]
    rfl
theorem fold_fines : ∀ (xs : List Nat) (q : Bool) (l : List FPc), (∀ x ∈ xs, fineN x = true) → foldP q (xs.map .ru ++ l) = xs.map .ru ++ foldP (q || !xs.isEmpty) l := by
  intro xs
  induction xs with
  | nil => intro q l _; simp
  | cons x r ih =>
    intro q l h
    obtain ⟨h1, h2, h3, h4⟩ := fine_self (h x (by simp))
    rw [List.map_cons, List.cons_append]
    show (if q && markN x then _ else _) = _
    have hb : baseN x = x := by unfold baseN; rw [if_pos h1, h3]
    rw [h2, Bool.and_false, if_neg (by decide), hb, h4, h1, ih true l (fun y hy => h y (by simp [hy]))]
    simp
/-- what is folded is folded already -/
theorem fold_fold : ∀ (l : List FPc) (q : Bool), foldP q (foldP q l) = foldP q l := by
  intro l
  induction l with
  | nil => intro q; rfl
  | cons p r ih =>
    intro q
    cases p with
    | br b =>
      show foldP q (.br b :: foldP false r) = .br b :: foldP false r
      show FPc.br b :: foldP false (foldP false r) = _
      rw [ih false]
    | ru c =>
      show foldP q (if q && markN c then foldP q r else (plainN (baseN c)).map .ru ++ foldP (letN (baseN c)) r) = if q && markN c then foldP q r else (plainN (baseN c)).map .ru ++ foldP (letN (baseN c)) r
      by_cases hq : (q && markN c) = true
      · rw [if_pos hq, ih q]
      · rw [if_neg hq]
        by_cases hl : letN c = true
        · obtain ⟨h1, h2, h3⟩ := fold_fine hl
          have hb : baseN c = headN c := by unfold baseN; rw [if_pos hl]
          rw [hb, h2, fold_fines _ q _ h1]
          have e : (q || !(plainN (headN c)).isEmpty) = true := by
            cases hp : plainN (headN c) with
            | nil => exact absurd hp h3
            | cons _ _ => simp
          rw [e, ih true]
        · have hl' : letN c = false := by simpa using hl
          have hb : baseN c = c := by unfold baseN; rw [if_neg hl]
          have hp : plainN c = [c] := by unfold plainN; rw [if_neg hl]
          rw [hb, hl', hp]
          show (if q && markN c then _ else (plainN (baseN c)).map FPc.ru ++ foldP (letN (baseN c)) (foldP false r)) = _
          rw [if_neg hq, hb, hp, hl', ih false]
end Go.Proofs.YteodfondjogmoaaGreatDoor
/- A text that is made of runes' bytes reads as those runes. Conditions: those of each theorem. -/
namespace Go.Proofs.YteodfondjogmoaaGreatDoor
open Go Go.RowKit Go.Lib
theorem u8n' (n : Nat) (h : n < 256) : (UInt8.ofNat n).toNat = n := by simp [Nat.mod_eq_of_lt h]
/-- a rune that has bytes of its own -/
def RuneOk (r : Nat) : Prop := r < 55296 ∨ 57344 ≤ r ∧ r ≤ 1114111
def encN (r : Nat) : List UInt8 :=
  if r < 128 then [UInt8.ofNat r]
  else if r < 2048 then [UInt8.ofNat (192 + r / 64), UInt8.ofNat (128 + r % 64)]
  else if r < 65536 then [UInt8.ofNat (224 + r / 4096), UInt8.ofNat (128 + r / 64 % 64), UInt8.ofNat (128 + r % 64)]
  else [UInt8.ofNat (240 + r / 262144), UInt8.ofNat (128 + r / 4096 % 64), UInt8.ofNat (128 + r / 64 % 64), UInt8.ofNat (128 + r % 64)]
theorem encN_eq (r : Nat) (hv : RuneOk r) : (Utf8.encode (r : Int)).data.toList = encN r := by
  have h : Utf8.valid (r : Int) = true := by unfold RuneOk at hv; simp [Utf8.valid]; omega
  unfold Utf8.encode encN
  simp only [h, if_true, Int.toNat_natCast]
  repeat' split
  all_goals rfl
theorem dec_enc {s : ByteArray} {p r : Nat} {rest : List UInt8} (hv : RuneOk r) (h : s.data.toList.drop p = encN r ++ rest) : Utf8.decode s p = (r, (encN r).length) := by
  have g : ∀ i, s.get! (p + i) = (encN r ++ rest).getD i 0 := fun i => by
    rw [← h, List.getD_eq_getElem?_getD, List.getElem?_drop, ← List.getD_eq_getElem?_getD]
    exact (getD_get!' s (p + i)).symm
  have hl : s.size - p = (encN r ++ rest).length := by rw [← h, List.length_drop]; rfl
  rw [decode_at, hl, g 1, g 2, g 3, show s.get! p = (encN r ++ rest).getD 0 0 from g 0]
  unfold RuneOk at hv
  unfold encN
  unfold decodeN
  by_cases h1 : r < 128
  · rw [if_pos h1]
    simp only [List.cons_append, List.nil_append, List.getD_cons_zero, List.length_cons, List.length_nil]
    rw [u8n' r (by omega), if_pos h1]
  · rw [if_neg h1]
    by_cases h2 : r < 2048
    · rw [if_pos h2]
      simp only [List.cons_append, List.nil_append, List.getD_cons_zero, List.getD_cons_succ, List.length_cons, List.length_nil]
      rw [u8n' (192 + r / 64) (by omega), u8n' (128 + r % 64) (by omega), if_neg (by omega), if_pos (by omega), if_pos (by omega)]
      rw [show (192 + r / 64) % 32 * 64 + (128 + r % 64) % 64 = r by omega]
    · rw [if_neg h2]
      by_cases h3 : r < 65536
      · rw [if_pos h3]
        simp only [List.cons_append, List.nil_append, List.getD_cons_zero, List.getD_cons_succ, List.length_cons, List.length_nil]
        rw [u8n' (224 + r / 4096) (by omega), u8n' (128 + r / 64 % 64) (by omega), u8n' (128 + r % 64) (by omega)]
        have e : (224 + r / 4096) % 16 * 4096 + (128 + r / 64 % 64) % 64 * 64 + (128 + r % 64) % 64 = r := by omega
        rw [if_neg (by omega), if_neg (by omega), if_pos (by omega), e, if_pos (by omega)]
      · rw [if_neg h3]
        simp only [List.cons_append, List.nil_append, List.getD_cons_zero, List.getD_cons_succ, List.length_cons, List.length_nil]
        rw [u8n' (240 + r / 262144) (by omega), u8n' (128 + r / 4096 % 64) (by omega), u8n' (128 + r / 64 % 64) (by omega), u8n' (128 + r % 64) (by omega)]
        have e : (240 + r / 262144) % 8 * 262144 + (128 + r / 4096 % 64) % 64 * 4096 + (128 + r / 64 % 64) % 64 * 64 + (128 + r % 64) % 64 = r := by omega
        rw [if_neg (by omega), if_neg (by omega), if_neg (by omega), if_pos (by omega), e, if_pos (by omega)]
theorem encN_len (r : Nat) : (encN r).length = if r < 128 then 1 else if r < 2048 then 2 else if r < 65536 then 3 else 4 := by
  unfold encN; repeat' split
  all_goals rfl
/-- the piece at a place -/
def pcAt (s : ByteArray) (p : Nat) : FPc := if isBr s p then .br (s.get! p) else .ru (rnN s p)
def piecesP (s : ByteArray) : List FPc := (posL s 0).map (pcAt s)
def pcB : FPc → List UInt8
  | .br b => [b]
  | .ru r => encN r
def bytesP (l : List FPc) : List UInt8 := l.flatMap pcB
/-- the folded form -/
def foldB (s : ByteArray) : ByteArray := ⟨(bytesP (foldP false (piecesP s))).toArray⟩
theorem pieces_runes (s : ByteArray) : ∀ (rs : List Nat) (p : Nat), (∀ r ∈ rs, RuneOk r) → s.data.toList.drop p = rs.flatMap encN → (posL s p).map (pcAt s) = rs.map .ru := by
  intro rs
  induction rs with
  | nil =>
    intro p _ h
    have hp : ¬ p < s.size := by
      intro hp
      have := congrArg List.length h
      rw [List.length_drop] at this
      have e : s.data.toList.length = s.size := rfl
      rw [e] at this
      simp at this
      omega
    rw [posL_end hp]; rfl
  | cons r rs ih =>
    intro p hr h
    rw [List.flatMap_cons] at h
    have hv := hr r (by simp)
    have hd := dec_enc hv h
    have hl := encN_len r
    have hp : p < s.size := by
      have := congrArg List.length h
      rw [List.length_drop, List.length_append] at this
      have e : s.data.toList.length = s.size := rfl
      rw [e] at this
      have : 1 ≤ (encN r).length := by rw [hl]; repeat' split
                                       all_goals omega
      omega
    have hw : wdN s p = (encN r).length := by unfold wdN; rw [hd]
    have hn : rnN s p = r := by unfold rnN; rw [hd]
    have hb : isBr s p = false := by
      unfold isBr R.brB
      rw [hw, hn]
      refine decide_eq_false (fun ⟨e1, e2⟩ => ?_)
      rw [hl, e1] at e2
      simp at e2
    have hnext : s.data.toList.drop (p + wdN s p) = rs.flatMap encN := by
      rw [hw, ← List.drop_drop, h, List.drop_left]
    rw [posL_more hp, List.map_cons, ih _ (fun x hx => hr x (by simp [hx])) hnext, List.map_cons]
    unfold pcAt
    rw [hb, hn]
    rfl
theorem runes_of {l : List FPc} (h : ∀ y ∈ l, ∃ r, y = .ru r ∧ RuneOk r) : ∃ rs : List Nat, l = rs.map .ru ∧ ∀ r ∈ rs, RuneOk r := by
  induction l with
  | nil => exact ⟨[], rfl, by simp⟩
  | cons y t ih =>
    obtain ⟨rs, e, h2⟩ := ih (fun z hz => h z (by simp [hz]))
    obtain ⟨r, rfl, h1⟩ := h y (by simp)
    refine ⟨r :: rs, by rw [e]; rfl, fun x hx => ?_⟩
    rcases List.mem_cons.1 hx with rfl | hx
    · exact h1
    · exact h2 x hx
theorem foldP_runes : ∀ (l : List FPc) (q : Bool), (∀ y ∈ l, ∃ r, y = .ru r ∧ RuneOk r) → ∀ y ∈ foldP q l, ∃ r, y = .ru r ∧ RuneOk r := by
  intro l
  induction l with
  | nil => intro q _ y hy; simp [foldP] at hy
  | cons x t ih =>
    intro q h y hy
    obtain ⟨r, rfl, hr⟩ := h x (by simp)
    have ht : ∀ y ∈ t, ∃ r, y = FPc.ru r ∧ RuneOk r := fun z hz => h z (by simp [hz])
    have hy' : y ∈ (if q && markN r then foldP q t else (plainN (baseN r)).map FPc.ru ++ foldP (letN (baseN r)) t) := hy
    by_cases hq : (q && markN r) = true
    · rw [if_pos hq] at hy'
      exact ih q ht y hy'
    · rw [if_neg hq] at hy'
      rcases List.mem_append.1 hy' with hy' | hy'
      · obtain ⟨z, hz, rfl⟩ := List.mem_map.1 hy'
        refine ⟨z, rfl, ?_⟩
        by_cases hl : letN r = true
        · have hb : baseN r = headN r := by unfold baseN; rw [if_pos hl]
          rw [hb] at hz
          have := let_small (fine_self ((fold_fine hl).1 z hz)).1
          exact .inl (by omega)
        · have hb : baseN r = r := by unfold baseN; rw [if_neg hl]
          have hp : plainN r = [r] := by unfold plainN; rw [if_neg hl]
          rw [hb, hp] at hz
          obtain rfl := List.mem_singleton.1 hz
          exact hr
      · exact ih _ ht y hy'
theorem rune_ok {s : ByteArray} {p : Nat} (hp : p < s.size) (hb : isBr s p = false) : RuneOk (rnN s p) := by
  have h := R.dec_at s p hp
  unfold isBr R.brB at hb
  have hb' := of_decide_eq_false hb
  unfold rnN wdN at *
  generalize (Utf8.decode s p).1 = r at *
  generalize (Utf8.decode s p).2 = w at *
  cases h with
  | rune _ _ h1 h2 => exact h2
  | lost => exact .inr (by omega)
  | broken => exact absurd ⟨rfl, rfl⟩ hb'
theorem posL_below {s : ByteArray} : ∀ (k p : Nat), s.size - p ≤ k → ∀ x ∈ posL s p, x < s.size
  | 0, p, h, x, hx => by rw [posL_end (by omega)] at hx; cases hx
  | k + 1, p, h, x, hx => by
    by_cases hp : p < s.size
    · rw [posL_more hp] at hx
      rcases List.mem_cons.1 hx with rfl | hx
      · exact hp
      · have := wdN_pos hp
        exact posL_below k _ (by omega) x hx
    · rw [posL_end hp] at hx; cases hx
theorem bytes_runes (rs : List Nat) : bytesP (rs.map .ru) = rs.flatMap encN := by
  unfold bytesP; rw [List.flatMap_map]; rfl
/-- a text without broken bytes, folded, is folded already -/
theorem foldB_foldB {s : ByteArray} (h : ∀ p ∈ posL s 0, isBr s p = false) : foldB (foldB s) = foldB s := by
  have h1 : ∀ y ∈ piecesP s, ∃ r, y = .ru r ∧ RuneOk r := by
    intro y hy
    obtain ⟨p, hp, rfl⟩ := List.mem_map.1 hy
    refine ⟨rnN s p, by unfold pcAt; rw [h p hp]; rfl, rune_ok (posL_below _ 0 (Nat.le_refl _) p hp) (h p hp)⟩
  obtain ⟨rs, e, hr⟩ := runes_of (foldP_runes _ false h1)
  have e2 : (foldB s).data.toList = rs.flatMap encN := by
    unfold foldB; rw [e, bytes_runes]
  have e3 : piecesP (foldB s) = rs.map .ru := pieces_runes _ rs 0 hr (by rw [List.drop_zero]; exact e2)
  show (⟨(bytesP (foldP false (piecesP (foldB s)))).toArray⟩ : ByteArray) = ⟨(bytesP (foldP false (piecesP s))).toArray⟩
  rw [e3, ← e, fold_fold]
end Go.Proofs.YteodfondjogmoaaGreatDoor
/- Where words begin and end, and that a word, taken by itself, has no broken byte: so its folded form is folded already. No program in sight. Conditions: those of each theorem. -/
namespace Go.Proofs.YteodfondjogmoaaGreatDoor
open Go Go.RowKit Go.Lib
set_option linter.unusedVariables false
/-- the beginning of a piece, or the text's end -/
def Bd (s : ByteArray) (x : Int) : Prop := ∃ p : Nat, x = p ∧ (p ∈ posL s 0 ∨ p = s.size)
theorem posL_next {s : ByteArray} : ∀ (k p0 : Nat), s.size - p0 ≤ k → p0 ≤ s.size → ∀ c, c ∈ posL s p0 → c + wdN s c ∈ posL s p0 ∨ c + wdN s c = s.size
  | 0, p0, h, h1, c, hc => by rw [posL_end (by omega)] at hc; cases hc
  | k + 1, p0, h, h1, c, hc => by
    by_cases hp : p0 < s.size
    · have hw := wdN_pos hp
      rw [posL_more hp] at hc ⊢
      rcases List.mem_cons.1 hc with rfl | hc
      · by_cases hq : c + wdN s c < s.size
        · rw [posL_more hq]; exact .inl (by simp)
        · exact .inr (by omega)
      · rcases posL_next k _ (by omega) hw.2.2 c hc with g | g
        · exact .inl (List.mem_cons_of_mem _ g)
        · exact .inr g
    · rw [posL_end hp] at hc; cases hc
structure UB (s : ByteArray) (c : Nat) (st : List Un × Un) : Prop where
  all : ∀ x ∈ st.1, Bd s x.f ∧ Bd s x.t
  op : st.2.t = 0 ∨ (Bd s st.2.f ∧ Bd s st.2.t)
theorem UB.step {s : ByteArray} {c : Nat} {st : List Un × Un} (h : UB s c st) (ht : UT s c st) (hc : c < s.size) (hm : c ∈ posL s 0) (hs : s.size ≤ 140737488355328) : UB s (c + wdN s c) (uStep s st c) := by
  obtain ⟨out, u⟩ := st
  obtain ⟨h1, h2⟩ := h
  obtain ⟨t1, t2, t3, t4, t5⟩ := ht
  dsimp only at h1 h2 t2 t5
  have hw := wdN_pos hc
  have hu : 0 ≤ u.t ∧ u.t = c := by omega
  have e1 : wrap64 (u.t + (wdN s c : Int)) = u.t + wdN s c := wrap_small _ (by omega) (by omega)
  have e2 : wrap64 ((c : Int) + (wdN s c : Int)) = c + wdN s c := wrap_small _ (by omega) (by omega)
  have hn : Bd s ((c : Int) + wdN s c) := ⟨c + wdN s c, by omega, posL_next _ 0 (Nat.le_refl _) (Nat.zero_le _) c hm⟩
  unfold uStep
  dsimp only
  rw [e1, e2]
  split
  · next hk =>
    refine ⟨h1, .inr ?_⟩
    dsimp only
    have := h2.resolve_left (by omega)
    rw [hu.2]
    exact ⟨this.1, hn⟩
  · refine ⟨fun x hx => ?_, .inr ⟨⟨c, rfl, .inl hm⟩, hn⟩⟩
    dsimp only at hx
    split at hx
    · rcases List.mem_append.1 hx with hx | hx
      · exact h1 x hx
      · rw [List.mem_singleton.1 hx]
        exact h2.resolve_left (by omega)
    · exact h1 x hx
theorem UB.run {s : ByteArray} (hs : s.size ≤ 140737488355328) : ∀ (n c : Nat), n = s.size - c → c ≤ s.size → (∀ x ∈ posL s c, x ∈ posL s 0) → ∀ st, UT s c st → UB s c st → UB s s.size ((posL s c).foldl (uStep s) st) := by
  intro n
  induction n using Nat.strongRecOn with
  | _ n ih =>
    intro c hn hc hm st ht h
    by_cases hp : c < s.size
    · have hw := wdN_pos hp
      rw [posL_more hp] at hm ⊢
      rw [List.foldl_cons]
      exact ih (s.size - (c + wdN s c)) (by omega) _ rfl hw.2.2 (fun x hx => hm x (List.mem_cons_of_mem _ hx)) _ (ht.step hp (hm c (List.mem_cons_self ..)) hs) (h.step ht hp (hm c (List.mem_cons_self ..)) hs)
    · rw [posL_end hp]
      obtain rfl : c = s.size := by omega
      exact h
theorem units_bd (s : ByteArray) (hs : s.size ≤ 140737488355328) : ∀ x ∈ unitsL s, Bd s x.f ∧ Bd s x.t := by
  have h : UB s s.size (uFold s (posL s 0)) := UB.run hs s.size 0 (by omega) (Nat.zero_le _) (fun x hx => hx) _ ⟨rfl, .inl ⟨rfl, rfl, rfl⟩, (fun x hx => by cases hx), (fun p hp a b => absurd b (by show ¬ ((p : Int) < 0); omega)), (by show (0:Int) ≤ 0; omega)⟩ ⟨(fun x hx => by cases hx), .inl rfl⟩
  obtain ⟨h1, h2⟩ := h
  intro x hx
  unfold unitsL at hx
  split at hx
  · next h0 =>
    rcases List.mem_append.1 hx with hx | hx
    · exact h1 x hx
    · rw [List.mem_singleton.1 hx]; exact h2.resolve_left (by omega)
  · exact h1 x hx
structure SB (s : ByteArray) (st : List Tk × Sc) : Prop where
  all : ∀ x ∈ st.1, Bd s x.f ∧ Bd s x.t
  op : st.2.st = 0 ∨ (Bd s st.2.f ∧ Bd s st.2.t ∧ ((st.2.st = 2 ∨ st.2.st = 4) → Bd s st.2.h.f ∧ Bd s st.2.h.t))
theorem SB.toks {s : ByteArray} {st : List Tk × Sc} (h : SB s st) : ∀ x ∈ st.1 ++ toks st.2, Bd s x.f ∧ Bd s x.t := by
  intro x hx
  rcases List.mem_append.1 hx with hx | hx
  · exact h.all x hx
  · unfold Go.Proofs.YteodfondjogmoaaGreatDoor.toks at hx
    split at hx
    · cases hx
    · next h0 =>
      obtain ⟨a, b, c⟩ := h.op.resolve_left h0
      split at hx
      · next h24 =>
        rcases List.mem_cons.1 hx with rfl | hx
        · exact ⟨a, b⟩
        · rw [List.mem_singleton.1 hx]; exact c h24
      · rw [List.mem_singleton.1 hx]; exact ⟨a, b⟩
theorem SB.step {s : ByteArray} {st : List Tk × Sc} {u : Un} (h : SB s st) (hu : Bd s u.f ∧ Bd s u.t) : SB s (sStep st u) := by
  have hA := h.toks
  obtain ⟨out, sc⟩ := st
  obtain ⟨h1, h2⟩ := h
  dsimp only at h1 h2 hA
  obtain ⟨k1, k2, k3, k4⟩ := fitsU_keep sc u
  unfold sStep
  dsimp only
  split
  · next hd =>
    rcases fits_two sc u hd with ⟨e1, e2, e3⟩ | ⟨e1, e2⟩
    · obtain ⟨a, b, c⟩ := h2.resolve_left (by omega)
      rw [e2]; exact ⟨h1, .inr ⟨a, b, fun _ => hu⟩⟩
    · obtain ⟨a, b, c⟩ := h2.resolve_left (by omega)
      rw [e2]; exact ⟨h1, .inr ⟨a, b, fun _ => hu⟩⟩
  · next hd2 =>
    split
    · next hd =>
      obtain ⟨q, e1, q0, q2, q4, e2, e3⟩ := fits_one sc u hd
      obtain ⟨a, b, c⟩ := h2.resolve_left e2
      rw [e1]
      exact ⟨h1, .inr ⟨a, hu.2, fun g => by dsimp only at g; omega⟩⟩
    · next hd1 =>
      rw [k4 hd2 hd1]
      obtain ⟨b1, b2, b3, b4⟩ := begin_st u sc.h
      have bf := beginU_ft u sc.h
      refine ⟨hA, .inr ⟨?_, ?_, fun g => by dsimp only at g; omega⟩⟩
      · dsimp only; rw [bf.1]; exact hu.1
      · dsimp only; rw [bf.2]; exact hu.2
theorem SB.run {s : ByteArray} : ∀ (us : List Un) (st : List Tk × Sc), (∀ x ∈ us, Bd s x.f ∧ Bd s x.t) → SB s st → SB s (us.foldl sStep st)
  | [], st, _, h => h
  | u :: us, st, hu, h => by
    rw [List.foldl_cons]
    exact SB.run us _ (fun x hx => hu x (List.mem_cons_of_mem _ hx)) (h.step (hu u (List.mem_cons_self ..)))
theorem words_bd (s : ByteArray) (hs : s.size ≤ 140737488355328) : ∀ x ∈ wordsL s, Bd s x.f ∧ Bd s x.t := by
  have h : SB s (sFold (unitsL s)) := SB.run (unitsL s) _ (units_bd s hs) ⟨(fun x hx => by cases hx), .inl rfl⟩
  intro x hx
  unfold wordsL wFil scanL at hx
  exact h.toks x (List.mem_filter.1 hx).1
theorem encR_eq (r : Nat) (hv : RuneOk r) : encodeRune (r : Int) = encN r := by
  unfold RuneOk at hv
  unfold encodeRune encN
  by_cases h1 : r < 128
  · rw [encodeRuneZ_one (by omega) (by omega), if_pos h1]; rfl
  · rw [if_neg h1]
    by_cases h2 : r < 2048
    · rw [encodeRuneZ_two (by omega) (by omega), if_pos h2]
      simp only [List.map_cons, List.map_nil]
      rw [show (192 + (r : Int) / 64).toNat = 192 + r / 64 by omega, show (128 + (r : Int) % 64).toNat = 128 + r % 64 by omega]
    · rw [if_neg h2]
      by_cases h3 : r < 65536
      · rw [encodeRuneZ_three (by omega), if_pos h3]
        simp only [List.map_cons, List.map_nil]
        rw [show (224 + (r : Int) / 4096).toNat = 224 + r / 4096 by omega, show (128 + (r : Int) / 64 % 64).toNat = 128 + r / 64 % 64 by omega, show (128 + (r : Int) % 64).toNat = 128 + r % 64 by omega]
      · rw [encodeRuneZ_four (by omega) (by omega), if_neg h3]
        simp only [List.map_cons, List.map_nil]
        rw [show (240 + (r : Int) / 262144).toNat = 240 + r / 262144 by omega, show (128 + (r : Int) / 4096 % 64).toNat = 128 + r / 4096 % 64 by omega, show (128 + (r : Int) / 64 % 64).toNat = 128 + r / 64 % 64 by omega, show (128 + (r : Int) % 64).toNat = 128 + r % 64 by omega]
theorem enc_at {s : ByteArray} {p : Nat} (hp : p < s.size) (hb : isBr s p = false) : (s.data.toList.drop p).take (wdN s p) = encN (rnN s p) := by
  have hne : s.data.toList.drop p ≠ [] := by
    intro h
    have := congrArg List.length h
    rw [List.length_drop] at this
    have e : s.data.toList.length = s.size := rfl
    rw [e] at this
    simp at this
    omega
  have h := encode_decode (s.data.toList.drop p) hne
  rw [decodeL_drop] at h
  have hb' : ¬ ((Utf8.decode s p).1 = 65533 ∧ (Utf8.decode s p).2 = 1) := by
    unfold isBr R.brB at hb
    exact of_decide_eq_false hb
  have h' := h hb'
  rw [← encR_eq _ (rune_ok hp hb)]
  exact h'.symm
/-- the bytes from a boundary to a boundary, no broken one between them, are runes' bytes -/
theorem range_runes {s : ByteArray} : ∀ (k a b : Nat), b - a ≤ k → a ≤ b → b ≤ s.size → (a ∈ posL s 0 ∨ a = s.size) → (b ∈ posL s 0 ∨ b = s.size) → Cl s a b →
    ∃ rs : List Nat, (∀ r ∈ rs, RuneOk r) ∧ (s.data.toList.drop a).take (b - a) = rs.flatMap encN
  | 0, a, b, h, h1, h2, _, _, _ => ⟨[], by simp, by rw [show b - a = 0 by omega]; rfl⟩
  | k + 1, a, b, h, h1, h2, ha, hb, hc => by
    by_cases hab : a = b
    · exact ⟨[], by simp, by rw [hab, Nat.sub_self]; rfl⟩
    · have ha' : a ∈ posL s 0 := ha.resolve_right (by omega)
      have hp : a < s.size := by omega
      have hw := wdN_pos hp
      have hn : a + wdN s a ≤ b := by
        rcases hb with hb | hb
        · by_cases hlt : b < a + wdN s a
          · exact absurd (posL_gap _ 0 (Nat.le_refl _) a b ha' hb (by omega) hlt) (fun e => hab e.symm)
          · omega
        · omega
      have hbr : isBr s a = false := hc a ha' (Int.le_refl _) (by omega)
      obtain ⟨rs, r1, r2⟩ := range_runes k (a + wdN s a) b (by omega) hn h2 (posL_next _ 0 (Nat.le_refl _) (Nat.zero_le _) a ha') hb (fun p hp x y => hc p hp (by omega) y)
      refine ⟨rnN s a :: rs, fun r hr => ?_, ?_⟩
      · rcases List.mem_cons.1 hr with rfl | hr
        · exact rune_ok hp hbr
        · exact r1 r hr
      · rw [List.flatMap_cons, ← r2, ← enc_at hp hbr, ← List.drop_drop]
        have e : b - a = wdN s a + (b - (a + wdN s a)) := by omega
        rw [e, List.take_add]
/-- a word by itself has no broken byte -/
theorem word_unbroken (s : ByteArray) (hs : s.size ≤ 140737488355328) (x : Tk) (hx : x ∈ wordsL s) : ∀ p ∈ posL (s.extract x.f.toNat x.t.toNat) 0, isBr (s.extract x.f.toNat x.t.toNat) p = false := by
  obtain ⟨f0, f1, f2, f3⟩ := (words_fine s hs).2 x hx
  obtain ⟨⟨a, ea, ha⟩, ⟨b, eb, hb⟩⟩ := words_bd s hs x hx
  have ea' : x.f.toNat = a := by omega
  have eb' : x.t.toNat = b := by omega
  rw [ea', eb']
  rw [ea, eb] at f3
  obtain ⟨rs, r1, r2⟩ := range_runes (b - a) a b (Nat.le_refl _) (by omega) (by omega) ha hb f3
  have e : (s.extract a b).data.toList.drop 0 = rs.flatMap encN := by
    rw [List.drop_zero, ← r2]
    simp [ByteArray.data_extract, List.extract_eq_take_drop]
  have h := pieces_runes (s.extract a b) rs 0 r1 e
  intro p hp
  have hm : pcAt (s.extract a b) p ∈ rs.map FPc.ru := by rw [← h]; exact List.mem_map_of_mem hp
  obtain ⟨r, _, hr⟩ := List.mem_map.1 hm
  unfold pcAt at hr
  cases hbr : isBr (s.extract a b) p with
  | false => rfl
  | true => rw [hbr] at hr; simp at hr
/-- a word's folded form is folded already -/
theorem word_folded (s : ByteArray) (hs : s.size ≤ 140737488355328) (x : Tk) (hx : x ∈ wordsL s) : foldB (foldB (s.extract x.f.toNat x.t.toNat)) = foldB (s.extract x.f.toNat x.t.toNat) := foldB_foldB (word_unbroken s hs x hx)
end Go.Proofs.YteodfondjogmoaaGreatDoor
