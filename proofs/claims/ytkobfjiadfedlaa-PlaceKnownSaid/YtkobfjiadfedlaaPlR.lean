/- What a move by 0, and by two numbers of one sign, comes to. No program in sight. -/
import Derived.Test.YtkobfjiadfedlaaPlQ
namespace Go.Proofs.Ytkobfjiadfedlaa
set_option linter.unusedVariables false

theorem pl_zero (s : ByteArray) : (plOf s)[0]? = some ⟨0, 0, 0, 0, 0⟩ := by
  have h := run_ind (s := s) (I := fun pos t => (t = St.start ∧ pos = 0) ∨ t.ps[0]? = some ⟨0, 0, 0, 0, 0⟩) (fun pos t hp h => by
    obtain ⟨e1, _, _⟩ := step_ps s pos (Utf8.decode s pos).1 t
    refine .inr ?_
    rw [e1]
    rcases h with ⟨rfl, rfl⟩ | h
    · rfl
    · rw [List.getElem?_append_left (List.getElem?_eq_some_iff.1 h).1]; exact h) s.size 0 St.start (by omega) (by omega) (.inl ⟨rfl, rfl⟩)
  unfold plOf
  rcases h with ⟨h1, h2⟩ | h
  · have : fin s = St.start := h1
    rw [this, h2]; rfl
  · have h' : (fin s).ps[0]? = some ⟨0, 0, 0, 0, 0⟩ := h
    rw [List.getElem?_append_left (List.getElem?_eq_some_iff.1 h').1]; exact h'
/-- the place of a byte: what its search wants -/
structure At (s : ByteArray) (num : Pl → Nat) (n : Int) (j : Nat) (p : Pl) : Prop where
  get : (plOf s)[j]? = some p
  lo : ∀ (i : Nat) (q : Pl), (plOf s)[i]? = some q → i ≤ j → (num q : Int) ≤ n
  hi : ∀ (i : Nat) (q : Pl), (plOf s)[i]? = some q → j < i → n < (num q : Int)
theorem at_find (s : ByteArray) (num : Pl → Nat) (hn : num = Pl.b ∨ num = Pl.u) (n : Int) (h0 : 0 ≤ n) : ∃ j p, At s num n j p := by
  obtain ⟨j, p, h1, h2, h3⟩ := srt_find (plOf_srt s) num n ⟨0, 0, 0, 0, 0⟩ (pl_zero s) (by rcases hn with rfl | rfl <;> exact h0)
  obtain ⟨a, b⟩ := srt_split (plOf_srt s) h1 num hn n h2 h3
  exact ⟨j, p, h1, a, b⟩
theorem at_self (s : ByteArray) (num : Pl → Nat) (hn : num = Pl.b ∨ num = Pl.u) {j : Nat} {p : Pl} (hp : (plOf s)[j]? = some p) : At s num (num p) j p := by
  obtain ⟨a, b⟩ := srt_split (plOf_srt s) hp num hn (num p) (Int.le_refl _) (fun q hq => by
    have := plOf_srt s j (j + 1) p q (by omega) hp hq
    rcases hn with rfl | rfl <;> omega)
  exact ⟨hp, a, b⟩
/-- the last place -/
def lastP (s : ByteArray) : Pl := ⟨s.size, (fin s).r, (fin s).u, (fin s).l, (fin s).c⟩
theorem last_get (s : ByteArray) : (plOf s)[(fin s).ps.length]? = some (lastP s) := by unfold plOf lastP; simp
theorem last_r (s : ByteArray) : (lastP s).r = (fin s).ps.length := (fin_inv s).len
/-- the bounds that the walks want -/
theorem pl_bd (s : ByteArray) (hs : s.size ≤ 65536) {j : Nat} {p : Pl} (hp : (plOf s)[j]? = some p) :
    (p.r ≤ (lastP s).r ∧ (lastP s).r ≤ 200000) ∧ (p.u ≤ (lastP s).u ∧ (lastP s).u ≤ 200000) ∧ (p.l ≤ (lastP s).l ∧ (lastP s).l ≤ 200000) ∧ p.c ≤ 70000 ∧ p.r ≤ 70000 ∧ p.b ≤ s.size := by
  have ok := fin_ok s
  have hlen := plOf_len s
  have hj : j < (plOf s).length := (List.getElem?_eq_some_iff.1 hp).1
  have hr := plOf_r s hp
  have h1 := ok.len
  have h2 := ok.u
  have h3 := ok.r
  have h4 := ok.l
  have h5 := ok.ll
  have hl := pl_mono s (i := j) (j := (fin s).ps.length) (by omega) hp (last_get s)
  obtain ⟨ln, _, hc, _⟩ := pl_line s hp
  have hu : p.u ≤ (lastP s).u ∧ p.b ≤ s.size := by
    rcases Nat.lt_or_eq_of_le (show j ≤ (fin s).ps.length by omega) with hlt | rfl
    · have := plOf_srt s j _ p _ hlt hp (last_get s)
      have e : (lastP s).b = s.size := rfl
      omega
    · rw [last_get s] at hp; cases hp; exact ⟨Nat.le_refl _, Nat.le_refl _⟩
  have er : (lastP s).r = (fin s).r := rfl
  have eu : (lastP s).u = (fin s).u := rfl
  have el : (lastP s).l = (fin s).l := rfl
  refine ⟨⟨by omega, by omega⟩, ⟨hu.1, by omega⟩, ⟨hl, by omega⟩, by omega, by omega, hu.2⟩
/-- moved by lines by 0 -/
theorem line_zero (s : ByteArray) (hs : s.size ≤ 65536) {j : Nat} {p : Pl} (hp : (plOf s)[j]? = some p) :
    ∃ (ln : Ln) (j2 : Nat) (bh q : Pl), (lnOf s)[p.l]? = some ln ∧ ln.t ≤ s.size ∧ ln.i ≤ 70000 ∧ At s Pl.b ln.t j2 bh ∧ bh.r ≤ 70000 ∧ (plOf s)[min (ln.i + p.c) bh.r]? = some q ∧ q.l = p.l := by
  obtain ⟨ln, hl1, hl2, hl3, hl4, p0, hp0, hp1, hp2, hp3⟩ := pl_line s hp
  obtain ⟨j2, bh, hat⟩ := at_find s Pl.b (.inl rfl) (ln.t : Int) (by omega)
  have hbr := plOf_r s hat.get
  have hj2 : ln.i ≤ j2 := by
    rcases Nat.lt_or_ge j2 ln.i with h | h
    · have := hat.hi _ p0 hp0 h; omega
    · exact h
  have hbd := pl_bd s hs hp
  have hbd2 := pl_bd s hs hat.get
  have hr := plOf_r s hp
  have hlen := (List.getElem?_eq_some_iff.1 hp).1
  obtain ⟨q, hq⟩ : ∃ q, (plOf s)[min (ln.i + p.c) bh.r]? = some q := ⟨_, List.getElem?_eq_getElem (by omega)⟩
  refine ⟨ln, j2, bh, q, hl1, by omega, by omega, hat, hbd2.2.2.2.2.1, hq, ?_⟩
  have a1 := pl_mono s (i := ln.i) (by omega) hp0 hq
  have a2 := pl_mono s (j := j) (by omega) hq hp
  omega
/-- the index that a move by runes comes to -/
def clampR (s : ByteArray) (j : Nat) (n : Int) : Nat := if (j : Int) + n < 0 then 0 else if ((fin s).ps.length : Int) < j + n then (fin s).ps.length else ((j : Int) + n).toNat
theorem clamp_le (s : ByteArray) (j : Nat) (n : Int) : clampR s j n ≤ (fin s).ps.length := by
  unfold clampR; repeat' split
  all_goals omega
theorem clamp_add (s : ByteArray) (j : Nat) (hj : j ≤ (fin s).ps.length) (a b : Int) (h : (a < 0 ∧ b < 0) ∨ (0 ≤ a ∧ 0 ≤ b)) : clampR s (clampR s j a) b = clampR s j (a + b) := by
  unfold clampR
  generalize (fin s).ps.length = m at *
  repeat' split
  all_goals omega
end Go.Proofs.Ytkobfjiadfedlaa
