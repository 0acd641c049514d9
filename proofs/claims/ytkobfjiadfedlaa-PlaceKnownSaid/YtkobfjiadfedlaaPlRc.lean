/- The document's answer: Units, and what Places keeps from place to place. Conditions: those of each theorem. -/
import Derived.Test.YtkobfjiadfedlaaPlRb
namespace Go.Proofs.Ytkobfjiadfedlaa
open Go.RowKit
set_option linter.unusedVariables false
set_option linter.unusedSimpArgs false
attribute [local go_sem] Ext.cell Ext.froz
set_option maxHeartbeats 1000000 in
theorem units_any (b z : Int) (r : Nat) (w : World) :
    Calls Try.prog 39 #[.agg #[.int .i64 b, .int .i64 z, .int .i32 r]] w fun e w' => e = .returned (.int .i64 (unitsOf r : Nat)) ∧ Below w.heap.size w w' := by
  by_cases h : 65536 ≤ r
  · have e : unitsOf r = 2 := by unfold unitsOf; rw [if_pos h]
    rw [e]
    have h1 : (65535 : Int) < r := by omega
    have h2 : decide ((65535 : Int) < r) = true := decide_eq_true h1
    clear e
    go_enter Try.func39, Try.ntmps39
    go_wp2
    go_ret
    exact ⟨rfl, (Below.refl _ _).alloc (Nat.le_refl _) _⟩
  · have e : unitsOf r = 1 := by unfold unitsOf; rw [if_neg h]
    rw [e]
    have h1 : ¬ (65535 : Int) < r := by omega
    have h2 : decide ((65535 : Int) < r) = false := decide_eq_false h1
    clear e
    go_enter Try.func39, Try.ntmps39
    go_wp2
    go_ret
    exact ⟨rfl, (Below.refl _ _).alloc (Nat.le_refl _) _⟩
/-- what Places keeps ahead of the k-th place -/
def PlHead (s : ByteArray) (k r u l c e : Nat) : Prop := r = k ∧ (∀ p : Pl, (plOf s)[k]? = some p → u = p.u) ∧ ((k = 0 ∧ l = 0 ∧ c = 0 ∧ e = 0) ∨ ∃ q : Pl, 0 < k ∧ (plOf s)[k - 1]? = some q ∧ l = q.l ∧ c = q.c + 1 ∧ e = q.l)
theorem PlHead.start (s : ByteArray) : PlHead s 0 0 0 0 0 0 := ⟨rfl, fun p hp => by rw [pl_zero] at hp; cases hp; rfl, .inl ⟨rfl, rfl, rfl, rfl⟩⟩
/-- behind the k-th place -/
theorem PlHead.next {s : ByteArray} {k : Nat} {p : Pl} (hp : (plOf s)[k]? = some p) (u : Nat) (hu : u = nextU (fin s) k) : PlHead s (k + 1) (k + 1) u p.l (p.c + 1) p.l := by
  refine ⟨rfl, fun q hq => ?_, .inr ⟨p, Nat.succ_pos _, hp, rfl, rfl, rfl⟩⟩
  rw [hu]
  unfold nextU
  unfold plOf at hq
  rcases get_snoc hq with ⟨hq, hj⟩ | ⟨hj, rfl⟩
  · rw [hq]
  · rw [hj, List.getElem?_eq_none (Nat.le_refl _)]
/-- a line ends ahead of the k-th place, or none does -/
theorem PlHead.line {s : ByteArray} {k r u l c e : Nat} {p : Pl} (h : PlHead s k r u l c e) (hp : (plOf s)[k]? = some p) :
    (∃ ln : Ln, (fin s).ls[e]? = some ln ∧ ln.t + ln.e = p.b ∧ p.l = l + 1 ∧ p.c = 0) ∨ (∃ ln : Ln, (fin s).ls[e]? = some ln ∧ ln.t + ln.e ≠ p.b ∧ p.l = l ∧ p.c = c) ∨ (e = (fin s).ls.length ∧ p.l = l ∧ p.c = c) := by
  have hll := lnOf_len s
  have old : ∀ (m : Nat) (ln : Ln), (lnOf s)[m]? = some ln → m < (fin s).ls.length → (fin s).ls[m]? = some ln := fun m ln h hk => by
    unfold lnOf at h
    rw [List.getElem?_append_left hk] at h
    exact h
  have up : ∀ (m : Nat) (ln : Ln), (fin s).ls[m]? = some ln → (lnOf s)[m]? = some ln := fun m ln h => by
    unfold lnOf
    rw [List.getElem?_append_left (List.getElem?_eq_some_iff.1 h).1]
    exact h
  -- where a line ends, the next one begins
  have begins : ∀ (m : Nat) (ln : Ln), (fin s).ls[m]? = some ln → ∃ (ln2 : Ln) (p0 : Pl), (lnOf s)[m + 1]? = some ln2 ∧ (plOf s)[ln2.i]? = some p0 ∧ p0.b = ln.t + ln.e ∧ p0.l = m + 1 := fun m ln h => by
    have hlt := (List.getElem?_eq_some_iff.1 h).1
    obtain ⟨ln2, h2⟩ : ∃ ln2, (lnOf s)[m + 1]? = some ln2 := ⟨_, List.getElem?_eq_getElem (by omega)⟩
    have o1 := ln_ok s (up m ln h)
    have o2 := ln_ok s h2
    obtain ⟨p0, a1, a2, a3, a4⟩ := o2.p0
    exact ⟨ln2, p0, h2, a1, by rw [a2, o2.f, o1.next], a3⟩
  -- two places with one byte are one
  have same : ∀ (i j : Nat) (x y : Pl), (plOf s)[i]? = some x → (plOf s)[j]? = some y → x.b = y.b → x = y := fun i j x y hx hy he => by
    rcases Nat.lt_trichotomy i j with h | h | h
    · have := plOf_srt s i j x y h hx hy; omega
    · subst h; rw [hx] at hy; exact Option.some.inj hy
    · have := plOf_srt s j i y x h hy hx; omega
  have hel : e ≤ (fin s).ls.length ∧ l = e := by
    rcases h.2.2 with ⟨_, h2, _, h4⟩ | ⟨q, h1, h2, h3, _, h5⟩
    · omega
    · obtain ⟨ln, hl, _⟩ := pl_line s h2
      have := (List.getElem?_eq_some_iff.1 hl).1
      omega
  obtain ⟨hel, rfl⟩ := hel
  have two : p.l = l ∧ p.c = c ∨ p.l = l + 1 ∧ p.c = 0 ∧ 0 < k := by
    rcases h.2.2 with ⟨rfl, h2, h3, h4⟩ | ⟨q, h1, h2, h3, h4, h5⟩
    · rw [pl_zero] at hp; cases hp; exact .inl ⟨h2.symm, h3.symm⟩
    · have hk : k - 1 + 1 = k := by omega
      obtain ⟨_, _, _, _, g1, g2, g3⟩ := pl_next s h2 (by rw [hk]; exact hp)
      rcases Nat.lt_or_eq_of_le g1 with hlt | he
      · obtain ⟨a, b⟩ := g3 hlt; exact .inr ⟨by omega, b, h1⟩
      · exact .inl ⟨by omega, by rw [g2 he.symm, h4]⟩
  rcases Nat.lt_or_eq_of_le hel with hlt | he
  · obtain ⟨ln, hln⟩ : ∃ ln, (fin s).ls[l]? = some ln := ⟨_, List.getElem?_eq_getElem hlt⟩
    obtain ⟨ln2, p0, b1, b2, b3, b4⟩ := begins l ln hln
    rcases two with ⟨t1, t2⟩ | ⟨t1, t2, t3⟩
    · refine .inr (.inl ⟨ln, hln, fun hh => ?_, t1, t2⟩)
      have := same _ _ p0 p b2 hp (by omega)
      rw [this] at b4
      omega
    · refine .inl ⟨ln, hln, ?_, t1, t2⟩
      obtain ⟨ln3, c1, c2, _, _, q0, c5, c6, c7, _⟩ := pl_line s hp
      rw [t1] at c1
      rw [b1] at c1
      cases c1
      rw [t2, Nat.add_zero] at c2
      rw [b2] at c5
      cases c5
      rw [c2] at b2
      rw [b2] at hp
      cases hp
      exact b3.symm
  · rcases two with ⟨t1, t2⟩ | ⟨t1, t2, t3⟩
    · exact .inr (.inr ⟨he, t1, t2⟩)
    · obtain ⟨ln3, c1, _⟩ := pl_line s hp
      have := (List.getElem?_eq_some_iff.1 c1).1
      omega
end Go.Proofs.Ytkobfjiadfedlaa
