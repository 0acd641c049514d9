/- The places of a text rise in each number. No program in sight. -/
import Derived.Test.YtkobfjiadfedlaaPlN
namespace Go.Proofs.Ytkobfjiadfedlaa
set_option linter.unusedVariables false
def Srt (P : List Pl) : Prop := ∀ (i j : Nat) (p q : Pl), i < j → P[i]? = some p → P[j]? = some q → p.b < q.b ∧ p.u < q.u
theorem get_snoc {α : Type} {l : List α} {x y : α} {k : Nat} (h : (l ++ [x])[k]? = some y) : l[k]? = some y ∧ k < l.length ∨ k = l.length ∧ y = x := by
  rcases Nat.lt_trichotomy k l.length with hk | hk | hk
  · rw [List.getElem?_append_left hk] at h; exact .inl ⟨h, hk⟩
  · subst hk; simp at h; exact .inr ⟨rfl, h.symm⟩
  · rw [List.getElem?_append_right (by omega)] at h
    have : ([x] : List α)[k - l.length]? = none := by simp; omega
    rw [this] at h; cases h
theorem Srt.snoc {P : List Pl} {x : Pl} (h : Srt P) (hx : ∀ (k : Nat) (p : Pl), P[k]? = some p → p.b < x.b ∧ p.u < x.u) : Srt (P ++ [x]) := by
  intro i j p q hij hp hq
  rcases get_snoc hp with ⟨hp', hi⟩ | ⟨hi, rfl⟩
  · rcases get_snoc hq with ⟨hq', hj⟩ | ⟨hj, rfl⟩
    · exact h i j p q hij hp' hq'
    · exact hx i p hp'
  · rcases get_snoc hq with ⟨hq, hj⟩ | ⟨hj, rfl⟩
    · omega
    · omega
structure Inv (pos : Nat) (t : St) : Prop where
  srt : Srt t.ps
  bd : ∀ (k : Nat) (p : Pl), t.ps[k]? = some p → p.b < pos ∧ p.u < t.u ∧ p.r = k
  len : t.r = t.ps.length
theorem unitsOf_pos (r : Nat) : 1 ≤ unitsOf r := by unfold unitsOf; split <;> omega
theorem step_ps (s : ByteArray) (i r : Nat) (t : St) : (t.step s i r).ps = t.ps ++ [⟨i, t.r, t.u, t.l, t.c⟩] ∧ (t.step s i r).r = t.r + 1 ∧ (t.step s i r).u = t.u + unitsOf r := by
  unfold St.step; split <;> exact ⟨rfl, rfl, rfl⟩
theorem Inv.step {s : ByteArray} {pos : Nat} {t : St} (h : Inv pos t) : Inv (pos + (Utf8.decode s pos).2) (t.step s pos (Utf8.decode s pos).1) := by
  obtain ⟨e1, e2, e3⟩ := step_ps s pos (Utf8.decode s pos).1 t
  have h1 := dec_pos s pos
  have h2 := unitsOf_pos (Utf8.decode s pos).1
  refine ⟨?_, ?_, ?_⟩
  · rw [e1]
    exact h.srt.snoc fun k p hp => ⟨(h.bd k p hp).1, (h.bd k p hp).2.1⟩
  · intro k p hp
    rw [e1] at hp
    rw [e3]
    rcases get_snoc hp with ⟨hp, hk⟩ | ⟨hk, rfl⟩
    · have := h.bd k p hp
      omega
    · have := h.len
      exact ⟨by dsimp only; omega, by dsimp only; omega, by dsimp only; omega⟩
  · rw [e1, e2, List.length_append, h.len]; rfl
theorem fin_inv (s : ByteArray) : Inv s.size (fin s) :=
  run_ind (I := Inv) (fun _ _ _ h => h.step) s.size 0 St.start (by omega) (by omega) ⟨fun i j p q _ h _ => by simp [St.start] at h, fun k p h => by simp [St.start] at h, rfl⟩
theorem plOf_len (s : ByteArray) : (plOf s).length = (fin s).ps.length + 1 := by simp [plOf]
theorem lnOf_len (s : ByteArray) : (lnOf s).length = (fin s).ls.length + 1 := by simp [lnOf]
theorem plOf_srt (s : ByteArray) : Srt (plOf s) := (fin_inv s).srt.snoc fun k p hp => ⟨((fin_inv s).bd k p hp).1, ((fin_inv s).bd k p hp).2.1⟩
theorem plOf_r (s : ByteArray) {k : Nat} {p : Pl} (h : (plOf s)[k]? = some p) : p.r = k := by
  rcases get_snoc h with ⟨hp, hk⟩ | ⟨hk, rfl⟩
  · exact ((fin_inv s).bd k p hp).2.2
  · rw [hk]; exact (fin_inv s).len
theorem plOf_last (s : ByteArray) : (plOf s)[(plOf s).length - 1]? = some ⟨s.size, (fin s).r, (fin s).u, (fin s).l, (fin s).c⟩ := by
  unfold plOf; simp
theorem plOf_small (s : ByteArray) (h : s.size ≤ 65536) : (plOf s).length ≤ 65537 ∧ (lnOf s).length ≤ 65537 := by
  have := fin_ok s
  rw [plOf_len, lnOf_len]
  have h1 := this.len
  have h2 := this.ll
  omega
/-- what a map's search by bytes, by units wants -/
theorem srt_split {P : List Pl} (h : Srt P) {j : Nat} {p : Pl} (hp : P[j]? = some p) (num : Pl → Nat) (hn : num = Pl.b ∨ num = Pl.u) (n : Int) (h1 : (num p : Int) ≤ n) (h2 : ∀ q : Pl, P[j + 1]? = some q → n < (num q : Int)) :
    (∀ (i : Nat) (q : Pl), P[i]? = some q → i ≤ j → (num q : Int) ≤ n) ∧ (∀ (i : Nat) (q : Pl), P[i]? = some q → j < i → n < (num q : Int)) := by
  have mono : ∀ (i k : Nat) (x y : Pl), i < k → P[i]? = some x → P[k]? = some y → num x < num y := by
    intro i k x y hik hx hy
    have := h i k x y hik hx hy
    rcases hn with rfl | rfl
    · exact this.1
    · exact this.2
  refine ⟨fun i q hq hi => ?_, fun i q hq hi => ?_⟩
  · rcases Nat.lt_or_eq_of_le hi with hi | rfl
    · have := mono i j q p hi hq hp; omega
    · rw [hp] at hq; cases hq; exact h1
  · rcases Nat.lt_or_eq_of_le (Nat.succ_le_of_lt hi) with hi2 | hi2
    · have hlt : j + 1 < P.length := by have := (List.getElem?_eq_some_iff.1 hq).1; omega
      obtain ⟨x, hx⟩ : ∃ x, P[j + 1]? = some x := ⟨_, List.getElem?_eq_getElem hlt⟩
      have := h2 x hx
      have := mono (j + 1) i x q hi2 hx hq
      omega
    · have e : i = j + 1 := by omega
      subst e
      exact h2 q hq
/-- there is such a place -/
theorem srt_find {P : List Pl} (h : Srt P) (num : Pl → Nat) (n : Int) (p0 : Pl) (h0 : P[0]? = some p0) (hn : (num p0 : Int) ≤ n) : ∃ (j : Nat) (p : Pl), P[j]? = some p ∧ (num p : Int) ≤ n ∧ ∀ q : Pl, P[j + 1]? = some q → n < (num q : Int) := by
  have key : ∀ (f j : Nat) (p : Pl), P.length ≤ j + f → P[j]? = some p → (num p : Int) ≤ n → ∃ (j : Nat) (p : Pl), P[j]? = some p ∧ (num p : Int) ≤ n ∧ ∀ q : Pl, P[j + 1]? = some q → n < (num q : Int) := by
    intro f
    induction f with
    | zero =>
      intro j p hf hp hle
      have := (List.getElem?_eq_some_iff.1 hp).1
      omega
    | succ f ih =>
      intro j p hf hp hle
      by_cases hq : ∃ q, P[j + 1]? = some q ∧ (num q : Int) ≤ n
      · obtain ⟨q, hq1, hq2⟩ := hq
        exact ih (j + 1) q (by omega) hq1 hq2
      · exact ⟨j, p, hp, hle, fun q hq' => Int.lt_of_not_ge fun hle2 => hq ⟨q, hq', hle2⟩⟩
  exact key P.length 0 p0 (by omega) h0 hn
end Go.Proofs.Ytkobfjiadfedlaa
