/- place.New of a text that is too long. Conditions: those of the theorem. -/
import Derived.Test.YteodfondjogmoaaGreatDoorPPlO
import Derived.Test.YteodfondjogmoaaGreatDoorJPPlN
import Derived.Test.YteodfondjogmoaaGreatDoorJPPlA
import Derived.WalkKit
import Derived.WalkSpells
import Derived.WalkLawsBesides
import Derived.Deep.QuietTactic
import Derived.BigQuiet
import Derived.Deep.RegionHeld3
import Derived.Deep.RegionLawGrows
import Derived.StillTailTactics
import Derived.Test.YteodfondjogmoaaGreatDoorJf
import Derived.Test.YteodfondjogmoaaGreatDoorJi
namespace Go.Proofs.YteodfondjogmoaaGreatDoor.P
open Go.RowKit
set_option linter.unusedVariables false
set_option linter.unusedSimpArgs false
theorem new_long (s : ByteArray) (w : World) (hs : 65536 < s.size) (hm : s.size ≤ maxLen) : Calls Tryz.prog 84 #[.string s] w fun e w' => e = .returned (.tuple #[.pointer none, .int .i64 3]) ∧ Below w.heap.size w w' := by
  unfold maxLen at hm
  have h1 : (65536 : Int) < s.size := by omega
  go_enter Tryz.func84, Tryz.ntmps84
  go_wp2_with fail
  go_step3
  go_wp2_with fail
  try rw [Exit.noGoto_ret]
  go_ret2
  exact ⟨rfl, Below.refl _ _⟩
end Go.Proofs.YteodfondjogmoaaGreatDoor.P
/- The places of a text rise in each number. No program in sight. -/
namespace Go.Proofs.YteodfondjogmoaaGreatDoor.P
set_option linter.unusedVariables false
def Srt (P : List Pl) : Prop := ∀ (i j : Nat) (p q : Pl), i < j → P[i]? = some p → P[j]? = some q → p.b < q.b ∧ p.u < q.u
theorem get_snoc {α : Type} {l : List α} {x y : α} {k : Nat} (h : (l ++ [x])[k]? = some y) : l[k]? = some y ∧ k < l.length ∨ k = l.length ∧ y = x := by
  rcases Nat.lt_trichotomy k l.length with hk | hk | hk
  · rw [List.getElem?_append_left hk] at h; exact .inl ⟨h, hk⟩
  · subst hk; simp at h; exact .inr ⟨rfl, h.symm⟩
  · rw [List.getElem?_append_right (by omega)] at h
    have : ([x] : List α)[k - l.length]? = none := by simp; omega
    rw [this] at h; cases h
theorem Srt.snoc {P : List Pl} {x : Pl} (h : Srt P) (hx : ∀ (k : Nat) (p : Pl), P[k]? = some p → p.b < x.b ∧ p.u < x.u) : Srt (P ++ [x]) := by
  intro i j p q hij hp hq
  rcases get_snoc hp with ⟨hp', hi⟩ | ⟨hi, rfl⟩
  · rcases get_snoc hq with ⟨hq', hj⟩ | ⟨hj, rfl⟩
    · exact h i j p q hij hp' hq'
    · exact hx i p hp'
  · rcases get_snoc hq with ⟨hq, hj⟩ | ⟨hj, rfl⟩
    · omega
    · omega
structure Inv (pos : Nat) (t : St) : Prop where
  srt : Srt t.ps
  bd : ∀ (k : Nat) (p : Pl), t.ps[k]? = some p → p.b < pos ∧ p.u < t.u ∧ p.r = k
  len : t.r = t.ps.length
theorem unitsOf_pos (r : Nat) : 1 ≤ unitsOf r := by unfold unitsOf; split <;> omega
theorem step_ps (s : ByteArray) (i r : Nat) (t : St) : (t.step s i r).ps = t.ps ++ [⟨i, t.r, t.u, t.l, t.c⟩] ∧ (t.step s i r).r = t.r + 1 ∧ (t.step s i r).u = t.u + unitsOf r := by
  unfold St.step; split <;> exact ⟨rfl, rfl, rfl⟩
theorem Inv.step {s : ByteArray} {pos : Nat} {t : St} (h : Inv pos t) : Inv (pos + (Utf8.decode s pos).2) (t.step s pos (Utf8.decode s pos).1) := by
  obtain ⟨e1, e2, e3⟩ := step_ps s pos (Utf8.decode s pos).1 t
  have h1 := dec_pos s pos
  have h2 := unitsOf_pos (Utf8.decode s pos).1
  refine ⟨?_, ?_, ?_⟩
  · rw [e1]
    exact h.srt.snoc fun k p hp => ⟨(h.bd k p hp).1, (h.bd k p hp).2.1⟩
  · intro k p hp
    rw [e1] at hp
    rw [e3]
    rcases get_snoc hp with ⟨hp, hk⟩ | ⟨hk, rfl⟩
    · have := h.bd k p hp
      omega
    · have := h.len
      exact ⟨by dsimp only; omega, by dsimp only; omega, by dsimp only; omega⟩
  · rw [e1, e2, List.length_append, h.len]; rfl
theorem fin_inv (s : ByteArray) : Inv s.size (fin s) :=
  run_ind (I := Inv) (fun _ _ _ h => h.step) s.size 0 St.start (by omega) (by omega) ⟨fun i j p q _ h _ => by simp [St.start] at h, fun k p h => by simp [St.start] at h, rfl⟩
theorem plOf_len (s : ByteArray) : (plOf s).length = (fin s).ps.length + 1 := by simp [plOf]
theorem lnOf_len (s : ByteArray) : (lnOf s).length = (fin s).ls.length + 1 := by simp [lnOf]
theorem plOf_srt (s : ByteArray) : Srt (plOf s) := (fin_inv s).srt.snoc fun k p hp => ⟨((fin_inv s).bd k p hp).1, ((fin_inv s).bd k p hp).2.1⟩
theorem plOf_r (s : ByteArray) {k : Nat} {p : Pl} (h : (plOf s)[k]? = some p) : p.r = k := by
  rcases get_snoc h with ⟨hp, hk⟩ | ⟨hk, rfl⟩
  · exact ((fin_inv s).bd k p hp).2.2
  · rw [hk]; exact (fin_inv s).len
theorem plOf_last (s : ByteArray) : (plOf s)[(plOf s).length - 1]? = some ⟨s.size, (fin s).r, (fin s).u, (fin s).l, (fin s).c⟩ := by
  unfold plOf; simp
theorem plOf_small (s : ByteArray) (h : s.size ≤ 65536) : (plOf s).length ≤ 65537 ∧ (lnOf s).length ≤ 65537 := by
  have := fin_ok s
  rw [plOf_len, lnOf_len]
  have h1 := this.len
  have h2 := this.ll
  omega
/-- what a map's search by bytes, by units wants -/
theorem srt_split {P : List Pl} (h : Srt P) {j : Nat} {p : Pl} (hp : P[j]? = some p) (num : Pl → Nat) (hn : num = Pl.b ∨ num = Pl.u) (n : Int) (h1 : (num p : Int) ≤ n) (h2 : ∀ q : Pl, P[j + 1]? = some q → n < (num q : Int)) :
    (∀ (i : Nat) (q : Pl), P[i]? = some q → i ≤ j → (num q : Int) ≤ n) ∧ (∀ (i : Nat) (q : Pl), P[i]? = some q → j < i → n < (num q : Int)) := by
  have mono : ∀ (i k : Nat) (x y : Pl), i < k → P[i]? = some x → P[k]? = some y → num x < num y := by
    intro i k x y hik hx hy
    have := h i k x y hik hx hy
    rcases hn with rfl | rfl
    · exact this.1
    · exact this.2
  refine ⟨fun i q hq hi => ?_, fun i q hq hi => ?_⟩
  · rcases Nat.lt_or_eq_of_le hi with hi | rfl
    · have := mono i j q p hi hq hp; omega
    · rw [hp] at hq; cases hq; exact h1
  · rcases Nat.lt_or_eq_of_le (Nat.succ_le_of_lt hi) with hi2 | hi2
    · have hlt : j + 1 < P.length := by have := (List.getElem?_eq_some_iff.1 hq).1; omega
      obtain ⟨x, hx⟩ : ∃ x, P[j + 1]? = some x := ⟨_, List.getElem?_eq_getElem hlt⟩
      have := h2 x hx
      have := mono (j + 1) i x q hi2 hx hq
      omega
    · have e : i = j + 1 := by omega
      subst e
      exact h2 q hq
/-- there is such a place -/
theorem srt_find {P : List Pl} (h : Srt P) (num : Pl → Nat) (n : Int) (p0 : Pl) (h0 : P[0]? = some p0) (hn : (num p0 : Int) ≤ n) : ∃ (j : Nat) (p : Pl), P[j]? = some p ∧ (num p : Int) ≤ n ∧ ∀ q : Pl, P[j + 1]? = some q → n < (num q : Int) := by
  have key : ∀ (f j : Nat) (p : Pl), P.length ≤ j + f → P[j]? = some p → (num p : Int) ≤ n → ∃ (j : Nat) (p : Pl), P[j]? = some p ∧ (num p : Int) ≤ n ∧ ∀ q : Pl, P[j + 1]? = some q → n < (num q : Int) := by
    intro f
    induction f with
    | zero =>
      intro j p hf hp hle
      have := (List.getElem?_eq_some_iff.1 hp).1
      omega
    | succ f ih =>
      intro j p hf hp hle
      by_cases hq : ∃ q, P[j + 1]? = some q ∧ (num q : Int) ≤ n
      · obtain ⟨q, hq1, hq2⟩ := hq
        exact ih (j + 1) q (by omega) hq1 hq2
      · exact ⟨j, p, hp, hle, fun q hq' => Int.lt_of_not_ge fun hle2 => hq ⟨q, hq', hle2⟩⟩
  exact key P.length 0 p0 (by omega) h0 hn
end Go.Proofs.YteodfondjogmoaaGreatDoor.P
/- The places and lines of a text belong together. No program in sight. -/
namespace Go.Proofs.YteodfondjogmoaaGreatDoor.P
set_option linter.unusedVariables false

theorem dec_small (s : ByteArray) (pos : Nat) (h : (Utf8.decode s pos).1 < 128) : (Utf8.decode s pos).2 = 1 ∧ (s.get! pos).toNat = (Utf8.decode s pos).1 := by
  have e0 : s.get! (pos + 0) = s.get! pos := by rw [Nat.add_zero]
  unfold Utf8.decode at *
  dsimp only at *
  rw [e0] at *
  split at h
  · rename_i h0
    rw [if_pos h0]
    exact ⟨rfl, rfl⟩
  · exfalso
    revert h
    repeat' split
    all_goals first | (simp only [Utf8.runeError]; omega) | (rename_i hc; simp only [Bool.and_eq_true, decide_eq_true_eq] at hc; omega)
theorem get_bang (s : ByteArray) (i : Nat) : s.get! i = s[i]! := by
  by_cases h : i < s.size
  · rw [getElem!_pos s i h]
    simp [ByteArray.get!, getElem!_pos, h]
    rfl
  · rw [getElem!_neg s i h]
    have h2 : ¬ i < s.data.size := h
    show s.data[i]! = _
    rw [getElem!_neg s.data i h2]
/-- where a line ends, the piece is one byte, 13 or 10 -/
theorem nl_byte (s : ByteArray) (pos : Nat) (h : nlw s pos (Utf8.decode s pos).1 ≠ 0) :
    (Utf8.decode s pos).2 = 1 ∧ (s[pos]! = 13 ∧ (Utf8.decode s pos).1 = 13 ∨ s[pos]! = 10 ∧ (Utf8.decode s pos).1 = 10) := by
  have h0 : (Utf8.decode s pos).1 = 13 ∨ (Utf8.decode s pos).1 = 10 := by
    unfold nlw at h
    by_cases h1 : (Utf8.decode s pos).1 = 13
    · exact .inl h1
    · rw [if_neg h1] at h
      by_cases h2 : (Utf8.decode s pos).1 = 10
      · exact .inr h2
      · rw [if_neg h2] at h; exact absurd rfl h
  obtain ⟨h1, h2⟩ := dec_small s pos (by omega)
  refine ⟨h1, ?_⟩
  rw [get_bang] at h2
  rcases h0 with h0 | h0
  · exact .inl ⟨UInt8.toNat_inj.1 (by rw [h2, h0]; rfl), h0⟩
  · exact .inr ⟨UInt8.toNat_inj.1 (by rw [h2, h0]; rfl), h0⟩

structure Tie (s : ByteArray) (pos : Nat) (t : St) : Prop where
  ll : t.l = t.ls.length
  fc : t.fi + t.c = t.ps.length
  hp : pos ≤ s.size
  p1 : ∀ (k : Nat) (p : Pl), t.ps[k]? = some p → p.l ≤ t.l ∧ (p.l < t.l → ∃ ln : Ln, t.ls[p.l]? = some ln ∧ ln.i + p.c = k) ∧ (p.l = t.l → t.fi + p.c = k)
  l1 : ∀ (m : Nat) (ln : Ln), t.ls[m]? = some ln → (∃ p : Pl, t.ps[ln.i]? = some p ∧ p.b = ln.f ∧ p.l = m ∧ p.c = 0) ∧ ln.f ≤ ln.t ∧ ln.t + ln.e ≤ s.size ∧ ln.i ≤ t.ps.length
  c1 : t.fi < t.ps.length → ∃ p : Pl, t.ps[t.fi]? = some p ∧ p.b = t.fr ∧ p.l = t.l ∧ p.c = 0
  c2 : t.fi = t.ps.length → t.fr = pos
  fr : t.fr ≤ pos
  mono : ∀ (i j : Nat) (p q : Pl), i < j → t.ps[i]? = some p → t.ps[j]? = some q → p.l ≤ q.l
  crlf : t.fr = pos → 0 < pos → ¬ (s[pos - 1]! = 13 ∧ pos < s.size ∧ s[pos]! = 10)
theorem Tie.step {s : ByteArray} {pos : Nat} {t : St} (h : Tie s pos t) (hpos : pos < s.size) : Tie s (pos + (Utf8.decode s pos).2) (t.step s pos (Utf8.decode s pos).1) := by
  have hd1 := dec_pos s pos
  have hd2 := dec_le s pos hpos
  obtain ⟨ll, fc, hp, p1, l1, c1, c2, fr, mono, crlf⟩ := h
  have cur : ∀ (q : Pl), (t.ps ++ [⟨pos, t.r, t.u, t.l, t.c⟩])[t.ps.length]? = some q → q = ⟨pos, t.r, t.u, t.l, t.c⟩ := fun q hq => by simpa using hq.symm
  have first : ∃ p : Pl, (t.ps ++ [⟨pos, t.r, t.u, t.l, t.c⟩])[t.fi]? = some p ∧ p.b = t.fr ∧ p.l = t.l ∧ p.c = 0 := by
    by_cases hf : t.fi < t.ps.length
    · obtain ⟨p, hp1, hp2⟩ := c1 hf
      exact ⟨p, by rw [List.getElem?_append_left hf]; exact hp1, hp2⟩
    · have hfe : t.fi = t.ps.length := by omega
      exact ⟨⟨pos, t.r, t.u, t.l, t.c⟩, by rw [hfe]; simp, (c2 hfe).symm, rfl, by dsimp only; omega⟩
  have mono2 : ∀ (i j : Nat) (p q : Pl), i < j → (t.ps ++ [⟨pos, t.r, t.u, t.l, t.c⟩])[i]? = some p → (t.ps ++ [⟨pos, t.r, t.u, t.l, t.c⟩])[j]? = some q → p.l ≤ q.l := by
    intro i j p q hij hp' hq'
    rcases get_snoc hp' with ⟨hp', hi⟩ | ⟨hi, rfl⟩
    · rcases get_snoc hq' with ⟨hq', hj⟩ | ⟨hj, rfl⟩
      · exact mono i j p q hij hp' hq'
      · exact (p1 i p hp').1
    · rcases get_snoc hq' with ⟨hq', hj⟩ | ⟨hj, rfl⟩
      · omega
      · omega
  by_cases hn : nlw s pos (Utf8.decode s pos).1 = 0
  · have e : t.step s pos (Utf8.decode s pos).1 = ⟨t.ps ++ [⟨pos, t.r, t.u, t.l, t.c⟩], t.ls, t.r + 1, t.u + unitsOf (Utf8.decode s pos).1, t.l, t.c + 1, t.fr, t.fi⟩ := by unfold St.step; rw [if_pos hn]
    rw [e]
    refine ⟨ll, by simp; omega, hd2, fun k p hk => ?_, fun m ln hm => ?_, fun _ => first, fun hf => ?_, by dsimp only; omega, mono2, fun hf => ?_⟩
    · rcases get_snoc hk with ⟨hk, _⟩ | ⟨rfl, rfl⟩
      · exact p1 k p hk
      · exact ⟨Nat.le_refl _, fun h => by dsimp only at h; omega, fun _ => fc⟩
    · obtain ⟨⟨p, hp1, hp2⟩, h3, h4, h5⟩ := l1 m ln hm
      exact ⟨⟨p, by rw [List.getElem?_append_left (List.getElem?_eq_some_iff.1 hp1).1]; exact hp1, hp2⟩, h3, h4, by simp; omega⟩
    · simp at hf; omega
    · dsimp only at hf; omega
  · obtain ⟨hw, hb⟩ := nl_byte s pos hn
    have e : t.step s pos (Utf8.decode s pos).1 = ⟨t.ps ++ [⟨pos, t.r, t.u, t.l, t.c⟩], t.ls ++ [⟨t.fr, pos + 1 - nlw s pos (Utf8.decode s pos).1, nlw s pos (Utf8.decode s pos).1, t.fi⟩], t.r + 1, t.u + unitsOf (Utf8.decode s pos).1, t.l + 1, 0, pos + 1, t.ps.length + 1⟩ := by unfold St.step; rw [if_neg hn]
    have h2 := nlw_le s pos (Utf8.decode s pos).1
    have hft : t.fr ≤ pos + 1 - nlw s pos (Utf8.decode s pos).1 ∧ nlw s pos (Utf8.decode s pos).1 ≤ pos + 1 := by
      by_cases hk : nlw s pos (Utf8.decode s pos).1 = 2
      · have h0 := nlw_two _ _ _ hk
        have h13 : s[pos - 1]! = 13 ∧ s[pos]! = 10 := by
          rcases hb with ⟨hb1, hb2⟩ | ⟨hb1, hb2⟩
          · rw [hb2] at hk
            unfold nlw at hk
            rw [if_pos rfl] at hk
            split at hk <;> omega
          · rw [hb2] at hk
            unfold nlw at hk
            rw [if_neg (by decide), if_pos rfl] at hk
            split at hk
            · rename_i hh; exact ⟨hh.2, hb1⟩
            · omega
        have : t.fr ≠ pos := fun hf => crlf hf h0 ⟨h13.1, hpos, h13.2⟩
        omega
      · omega
    rw [e, hw]
    refine ⟨by simp [ll], by simp, by omega, fun k p hk => ?_, fun m ln hm => ?_, fun hf => by simp at hf, fun _ => rfl, Nat.le_refl _, mono2, fun _ _ => ?_⟩
    · have old : ∀ m, (t.ls ++ [⟨t.fr, pos + 1 - nlw s pos (Utf8.decode s pos).1, nlw s pos (Utf8.decode s pos).1, t.fi⟩] : List Ln)[t.ls.length]? = some m → m = ⟨t.fr, pos + 1 - nlw s pos (Utf8.decode s pos).1, nlw s pos (Utf8.decode s pos).1, t.fi⟩ := fun m hm => by simpa using hm.symm
      rcases get_snoc hk with ⟨hk, _⟩ | ⟨rfl, rfl⟩
      · obtain ⟨a, b, c⟩ := p1 k p hk
        refine ⟨by dsimp only; omega, fun hlt => ?_, fun he => by dsimp only at he; omega⟩
        rcases Nat.lt_or_eq_of_le a with hl | hl
        · obtain ⟨ln, hl1, hl2⟩ := b hl
          exact ⟨ln, by rw [List.getElem?_append_left (List.getElem?_eq_some_iff.1 hl1).1]; exact hl1, hl2⟩
        · exact ⟨⟨t.fr, pos + 1 - nlw s pos (Utf8.decode s pos).1, nlw s pos (Utf8.decode s pos).1, t.fi⟩, by rw [hl, ll]; simp, c hl⟩
      · refine ⟨by dsimp only; omega, fun _ => ⟨⟨t.fr, pos + 1 - nlw s pos (Utf8.decode s pos).1, nlw s pos (Utf8.decode s pos).1, t.fi⟩, by dsimp only; rw [ll]; simp, fc⟩, fun he => by dsimp only at he; omega⟩
    · rcases get_snoc hm with ⟨hm, _⟩ | ⟨rfl, rfl⟩
      · obtain ⟨⟨p, hp1, hp2⟩, h3, h4, h5⟩ := l1 m ln hm
        exact ⟨⟨p, by rw [List.getElem?_append_left (List.getElem?_eq_some_iff.1 hp1).1]; exact hp1, hp2⟩, h3, h4, by simp; omega⟩
      · obtain ⟨p, hp1, hp2, hp3, hp4⟩ := first
        exact ⟨⟨p, hp1, hp2, by rw [hp3, ll], hp4⟩, hft.1, by dsimp only; omega, by simp; omega⟩
    · rintro ⟨h13, hlt, h10⟩
      have e1 : pos + 1 - 1 = pos := by omega
      rw [e1] at h13
      rcases hb with ⟨hb1, hb2⟩ | ⟨hb1, hb2⟩
      · apply hn
        unfold nlw
        rw [if_pos hb2, if_pos ⟨hlt, h10⟩]
      · rw [hb1] at h13
        exact absurd h13 (by decide)
theorem Tie.start (s : ByteArray) : Tie s 0 St.start :=
  ⟨rfl, rfl, Nat.zero_le _, fun k p h => by simp [St.start] at h, fun m ln h => by simp [St.start] at h, fun h => by simp [St.start] at h, fun _ => rfl, Nat.le_refl _, fun i j p q _ h _ => by simp [St.start] at h, fun _ h => by omega⟩
theorem fin_tie (s : ByteArray) : Tie s s.size (fin s) := run_ind (I := Tie s) (fun _ _ hp h => h.step hp) s.size 0 St.start (by omega) (by omega) (Tie.start s)
/-- each place has its line -/
theorem pl_line (s : ByteArray) {k : Nat} {p : Pl} (h : (plOf s)[k]? = some p) : ∃ ln : Ln, (lnOf s)[p.l]? = some ln ∧ ln.i + p.c = k ∧ ln.f ≤ ln.t ∧ ln.t + ln.e ≤ s.size ∧ ∃ p0 : Pl, (plOf s)[ln.i]? = some p0 ∧ p0.b = ln.f ∧ p0.l = p.l ∧ p0.c = 0 := by
  obtain ⟨ll, fc, hp, p1, l1, c1, c2, fr, mono, crlf⟩ := fin_tie s
  have inn : ∀ (i : Nat) (q : Pl), (fin s).ps[i]? = some q → (plOf s)[i]? = some q := fun i q hq => by unfold plOf; rw [List.getElem?_append_left (List.getElem?_eq_some_iff.1 hq).1]; exact hq
  have lastl : (lnOf s)[(fin s).l]? = some ⟨(fin s).fr, s.size, 0, (fin s).fi⟩ := by unfold lnOf; rw [ll]; simp
  have lastf : ∃ p0 : Pl, (plOf s)[(fin s).fi]? = some p0 ∧ p0.b = (fin s).fr ∧ p0.l = (fin s).l ∧ p0.c = 0 := by
    by_cases hf : (fin s).fi < (fin s).ps.length
    · obtain ⟨q, hq, h2⟩ := c1 hf
      exact ⟨q, inn _ _ hq, h2⟩
    · have hfe : (fin s).fi = (fin s).ps.length := by omega
      exact ⟨⟨s.size, (fin s).r, (fin s).u, (fin s).l, (fin s).c⟩, by rw [hfe]; unfold plOf; simp, (c2 hfe).symm, rfl, by dsimp only; omega⟩
  rcases get_snoc h with ⟨hk, _⟩ | ⟨rfl, rfl⟩
  · obtain ⟨a, b, c⟩ := p1 k p hk
    rcases Nat.lt_or_eq_of_le a with hl | hl
    · obtain ⟨ln, hl1, hl2⟩ := b hl
      obtain ⟨⟨p0, hp1, hp2, hp3, hp4⟩, h3, h4, h5⟩ := l1 _ ln hl1
      exact ⟨ln, by unfold lnOf; rw [List.getElem?_append_left (List.getElem?_eq_some_iff.1 hl1).1]; exact hl1, hl2, h3, h4, p0, inn _ _ hp1, hp2, hp3, hp4⟩
    · exact ⟨_, by rw [hl]; exact lastl, c hl, fr, Nat.le_refl _, by rw [hl]; exact lastf⟩
  · exact ⟨_, lastl, fc, fr, Nat.le_refl _, lastf⟩
theorem pl_mono (s : ByteArray) {i j : Nat} {p q : Pl} (hij : i ≤ j) (hp : (plOf s)[i]? = some p) (hq : (plOf s)[j]? = some q) : p.l ≤ q.l := by
  obtain ⟨ll, fc, hp', p1, l1, c1, c2, fr, mono, crlf⟩ := fin_tie s
  rcases Nat.lt_or_eq_of_le hij with hij | rfl
  · rcases get_snoc hp with ⟨h1, h2⟩ | ⟨h1, rfl⟩
    · rcases get_snoc hq with ⟨h3, h4⟩ | ⟨h3, rfl⟩
      · exact mono i j p q hij h1 h3
      · exact (p1 i p h1).1
    · rcases get_snoc hq with ⟨h3, h4⟩ | ⟨h3, rfl⟩ <;> omega
  · rw [hp] at hq; cases hq; exact Nat.le_refl _
end Go.Proofs.YteodfondjogmoaaGreatDoor.P
/- The lines of a text and their ends are the text, one behind the other. No program in sight. -/
namespace Go.Proofs.YteodfondjogmoaaGreatDoor.P
set_option linter.unusedVariables false

/-- a small byte is a piece of its own -/
theorem dec_byte (s : ByteArray) (pos i : Nat) (h1 : pos ≤ i) (h2 : i < pos + (Utf8.decode s pos).2) (h : (s[i]!).toNat < 128) : i = pos ∧ (Utf8.decode s pos).1 = (s[i]!).toNat := by
  obtain ⟨d, rfl⟩ : ∃ d, i = pos + d := ⟨i - pos, by omega⟩
  rw [← get_bang] at h ⊢
  unfold Utf8.decode at *
  dsimp only at *
  rcases Nat.eq_zero_or_pos d with rfl | hd
  · rw [if_pos h]; exact ⟨rfl, rfl⟩
  · exfalso
    revert h2
    repeat' split
    all_goals intro h2
    all_goals dsimp only at h2
    all_goals first
      | omega
      | (rename_i hc _
         simp only [Bool.and_eq_true, beq_iff_eq, decide_eq_true_eq] at hc
         have hd3 : d = 1 ∨ d = 2 ∨ d = 3 := by omega
         rcases hd3 with rfl | rfl | rfl <;> omega)
/-- where line m begins -/
def endOf (l : List Ln) : Nat → Nat
  | 0 => 0
  | m + 1 => match l[m]? with
    | some a => a.t + a.e
    | none => 0
theorem endOf_old (l : List Ln) (x : Ln) (m : Nat) (h : m ≤ l.length) : endOf (l ++ [x]) m = endOf l m := by
  cases m with
  | zero => rfl
  | succ m => simp only [endOf]; rw [List.getElem?_append_left (by omega)]
theorem endOf_new (l : List Ln) (x : Ln) : endOf (l ++ [x]) (l.length + 1) = x.t + x.e := by unfold endOf; simp
/-- how a line ends that is not the last -/
def LnEnd (s : ByteArray) (ln : Ln) : Prop :=
  (ln.e = 1 ∧ ln.t + 1 ≤ s.size ∧ s[ln.t]! = 10) ∨ (ln.e = 1 ∧ ln.t + 1 ≤ s.size ∧ s[ln.t]! = 13 ∧ ¬ (ln.t + 1 < s.size ∧ s[ln.t + 1]! = 10)) ∨ (ln.e = 2 ∧ ln.t + 2 ≤ s.size ∧ s[ln.t]! = 13 ∧ s[ln.t + 1]! = 10)
structure Tile (s : ByteArray) (pos : Nat) (t : St) : Prop where
  ch : ∀ (m : Nat) (ln : Ln), t.ls[m]? = some ln → ln.f = endOf t.ls m
  fr : t.fr = endOf t.ls t.ls.length
  inn : ∀ (m : Nat) (ln : Ln), t.ls[m]? = some ln → (∀ i, ln.f ≤ i → i < ln.t → s[i]! ≠ 10 ∧ s[i]! ≠ 13) ∧ LnEnd s ln
  op : ∀ i, t.fr ≤ i → i < pos → s[i]! ≠ 10 ∧ (s[i]! = 13 → i + 1 = pos ∧ pos < s.size ∧ s[pos]! = 10)
theorem Tile.step {s : ByteArray} {pos : Nat} {t : St} (h : Tile s pos t) (hpos : pos < s.size) : Tile s (pos + (Utf8.decode s pos).2) (t.step s pos (Utf8.decode s pos).1) := by
  have hd1 := dec_pos s pos
  have hd2 := dec_le s pos hpos
  obtain ⟨ch, fr, inn, op⟩ := h
  by_cases hn : nlw s pos (Utf8.decode s pos).1 = 0
  · have e : t.step s pos (Utf8.decode s pos).1 = ⟨t.ps ++ [⟨pos, t.r, t.u, t.l, t.c⟩], t.ls, t.r + 1, t.u + unitsOf (Utf8.decode s pos).1, t.l, t.c + 1, t.fr, t.fi⟩ := by unfold St.step; rw [if_pos hn]
    rw [e]
    have n10 : (Utf8.decode s pos).1 ≠ 10 := fun h10 => by
      rw [h10] at hn; unfold nlw at hn; rw [if_neg (by decide), if_pos rfl] at hn; split at hn <;> omega
    have at10 : s[pos]! ≠ 10 := fun h10 => by
      obtain ⟨_, h2⟩ := dec_byte s pos pos (Nat.le_refl _) (by omega) (by rw [h10]; decide)
      rw [h10] at h2; exact n10 h2
    refine ⟨ch, fr, inn, fun i h1 h2 => ?_⟩
    rcases Nat.lt_or_ge i pos with hi | hi
    · obtain ⟨a, b⟩ := op i h1 hi
      exact ⟨a, fun h13 => absurd (b h13).2.2 at10⟩
    · refine ⟨fun h10 => ?_, fun h13 => ?_⟩
      · obtain ⟨h3, h4⟩ := dec_byte s pos i hi h2 (by rw [h10]; decide)
        rw [h10] at h4; exact n10 h4
      · obtain ⟨rfl, h4⟩ := dec_byte s pos i hi h2 (by rw [h13]; decide)
        rw [h13] at h4
        have h4' : (Utf8.decode s i).1 = 13 := h4
        obtain ⟨hw, _⟩ := dec_small s i (by omega)
        rw [h4'] at hn
        unfold nlw at hn
        rw [if_pos rfl] at hn
        split at hn
        · rename_i hh; rw [hw]; exact ⟨rfl, hh⟩
        · omega
  · obtain ⟨hw, hb⟩ := nl_byte s pos hn
    have e : t.step s pos (Utf8.decode s pos).1 = ⟨t.ps ++ [⟨pos, t.r, t.u, t.l, t.c⟩], t.ls ++ [⟨t.fr, pos + 1 - nlw s pos (Utf8.decode s pos).1, nlw s pos (Utf8.decode s pos).1, t.fi⟩], t.r + 1, t.u + unitsOf (Utf8.decode s pos).1, t.l + 1, 0, pos + 1, t.ps.length + 1⟩ := by unfold St.step; rw [if_neg hn]
    have key : (nlw s pos (Utf8.decode s pos).1 = 1 ∧ s[pos]! = 13 ∧ ¬ (pos + 1 < s.size ∧ s[pos + 1]! = 10)) ∨ (nlw s pos (Utf8.decode s pos).1 = 1 ∧ s[pos]! = 10 ∧ ¬ (0 < pos ∧ s[pos - 1]! = 13)) ∨ (nlw s pos (Utf8.decode s pos).1 = 2 ∧ 0 < pos ∧ s[pos - 1]! = 13 ∧ s[pos]! = 10) := by
      rcases hb with ⟨hb1, hb2⟩ | ⟨hb1, hb2⟩
      · rw [hb2] at hn ⊢
        unfold nlw at hn ⊢
        rw [if_pos rfl] at hn ⊢
        split at hn
        · omega
        · rename_i hh; rw [if_neg hh]; exact .inl ⟨rfl, hb1, hh⟩
      · rw [hb2] at hn ⊢
        unfold nlw at hn ⊢
        rw [if_neg (by decide), if_pos rfl] at hn ⊢
        split at hn
        · rename_i hh; rw [if_pos hh]; exact .inr (.inr ⟨rfl, hh.1, hh.2, hb1⟩)
        · rename_i hh; rw [if_neg hh]; exact .inr (.inl ⟨rfl, hb1, hh⟩)
    rw [e, hw]
    generalize nlw s pos (Utf8.decode s pos).1 = k at *
    have hk : pos + 1 - k + k = pos + 1 := by rcases key with ⟨a, _⟩ | ⟨a, _⟩ | ⟨a, b, _⟩ <;> omega
    refine ⟨fun m ln hm => ?_, ?_, fun m ln hm => ?_, fun i h1 h2 => by dsimp only at h1; omega⟩
    · rcases get_snoc hm with ⟨hm, hl⟩ | ⟨rfl, rfl⟩
      · rw [endOf_old _ _ _ (by omega)]; exact ch m ln hm
      · rw [endOf_old _ _ _ (Nat.le_refl _)]; exact fr
    · show pos + 1 = endOf _ (t.ls ++ [_]).length
      rw [List.length_append, List.length_singleton, endOf_new]; exact hk.symm
    · rcases get_snoc hm with ⟨hm, _⟩ | ⟨rfl, rfl⟩
      · exact inn m ln hm
      · dsimp only
        rcases key with ⟨rfl, k1, k2⟩ | ⟨rfl, k1, k2⟩ | ⟨rfl, k0, k1, k2⟩
        · refine ⟨fun i h1 h2 => ?_, .inr (.inl ⟨rfl, by dsimp only; omega, k1, k2⟩)⟩
          obtain ⟨a, b⟩ := op i h1 (by omega)
          exact ⟨a, fun h13 => by have := (b h13).2.2; rw [k1] at this; exact absurd this (by decide)⟩
        · refine ⟨fun i h1 h2 => ?_, .inl ⟨rfl, by dsimp only; omega, k1⟩⟩
          obtain ⟨a, b⟩ := op i h1 (by omega)
          refine ⟨a, fun h13 => k2 ?_⟩
          have h3 := (b h13).1
          exact ⟨by omega, by rw [← h3, Nat.add_sub_cancel]; exact h13⟩
        · have e1 : pos + 1 - 2 = pos - 1 := by omega
          have e2 : pos - 1 + 1 = pos := by omega
          refine ⟨fun i h1 h2 => ?_, .inr (.inr ⟨rfl, by dsimp only; omega, by dsimp only; rw [e1]; exact k1, by dsimp only; rw [e1, e2]; exact k2⟩)⟩
          obtain ⟨a, b⟩ := op i h1 (by omega)
          exact ⟨a, fun h13 => by have := (b h13).1; omega⟩
theorem Tile.start (s : ByteArray) : Tile s 0 St.start :=
  ⟨fun m ln h => by simp [St.start] at h, rfl, fun m ln h => by simp [St.start] at h, fun i _ h => by omega⟩
theorem fin_tile (s : ByteArray) : Tile s s.size (fin s) := run_ind (I := Tile s) (fun _ _ hp h => h.step hp) s.size 0 St.start (by omega) (by omega) (Tile.start s)
/-- what is said of each line -/
structure LnOk (s : ByteArray) (m : Nat) (ln : Ln) : Prop where
  f : ln.f = endOf (lnOf s) m
  next : ln.t + ln.e = endOf (lnOf s) (m + 1)
  ft : ln.f ≤ ln.t
  sz : ln.t + ln.e ≤ s.size
  inn : ∀ i, ln.f ≤ i → i < ln.t → s[i]! ≠ 10 ∧ s[i]! ≠ 13
  p0 : ∃ p : Pl, (plOf s)[ln.i]? = some p ∧ p.b = ln.f ∧ p.l = m ∧ p.c = 0
  fin : (m + 1 = (lnOf s).length ∧ ln.t = s.size ∧ ln.e = 0) ∨ (m + 1 < (lnOf s).length ∧ LnEnd s ln)
theorem ln_ok (s : ByteArray) {m : Nat} {ln : Ln} (h : (lnOf s)[m]? = some ln) : LnOk s m ln := by
  obtain ⟨ll, fc, hp, p1, l1, c1, c2, fr, mono, crlf⟩ := fin_tie s
  obtain ⟨ch, fr2, inn, op⟩ := fin_tile s
  have hnext : ln.t + ln.e = endOf (lnOf s) (m + 1) := by simp only [endOf]; rw [h]
  have up : ∀ (i : Nat) (q : Pl), (Go.Proofs.YteodfondjogmoaaGreatDoor.P.fin s).ps[i]? = some q → (plOf s)[i]? = some q := fun i q hq => by unfold plOf; rw [List.getElem?_append_left (List.getElem?_eq_some_iff.1 hq).1]; exact hq
  have hlen : (lnOf s).length = (Go.Proofs.YteodfondjogmoaaGreatDoor.P.fin s).ls.length + 1 := by unfold lnOf; simp
  rcases get_snoc h with ⟨hm, hl⟩ | ⟨rfl, rfl⟩
  · obtain ⟨⟨p0, hp1, hp2⟩, h3, h4, h5⟩ := l1 _ ln hm
    obtain ⟨i1, i2⟩ := inn m ln hm
    refine ⟨?_, hnext, h3, h4, i1, ⟨p0, up _ _ hp1, hp2⟩, .inr ⟨by omega, i2⟩⟩
    unfold lnOf
    rw [endOf_old _ _ _ (by omega)]; exact ch m ln hm
  · refine ⟨?_, hnext, fr, Nat.le_refl _, fun i h1 h2 => ?_, ?_, .inl ⟨by omega, rfl, rfl⟩⟩
    · unfold lnOf
      rw [endOf_old _ _ _ (Nat.le_refl _)]; exact fr2
    · obtain ⟨a, b⟩ := op i h1 h2
      exact ⟨a, fun h13 => by have := (b h13).2.1; omega⟩
    · by_cases hf : (Go.Proofs.YteodfondjogmoaaGreatDoor.P.fin s).fi < (Go.Proofs.YteodfondjogmoaaGreatDoor.P.fin s).ps.length
      · obtain ⟨q, hq, h2, h3, h4⟩ := c1 hf
        exact ⟨q, up _ _ hq, h2, by rw [h3, ll], h4⟩
      · have hfe : (Go.Proofs.YteodfondjogmoaaGreatDoor.P.fin s).fi = (Go.Proofs.YteodfondjogmoaaGreatDoor.P.fin s).ps.length := by omega
        exact ⟨⟨s.size, (Go.Proofs.YteodfondjogmoaaGreatDoor.P.fin s).r, (Go.Proofs.YteodfondjogmoaaGreatDoor.P.fin s).u, (Go.Proofs.YteodfondjogmoaaGreatDoor.P.fin s).l, (Go.Proofs.YteodfondjogmoaaGreatDoor.P.fin s).c⟩, by rw [hfe]; unfold plOf; simp, (c2 hfe).symm, ll, by dsimp only; omega⟩
theorem last_end (s : ByteArray) : endOf (lnOf s) (lnOf s).length = s.size := by
  unfold lnOf
  rw [List.length_append, List.length_singleton, endOf_new]
  rfl
theorem lnOf_pos (s : ByteArray) : 0 < (lnOf s).length := by unfold lnOf; simp
/-- one, two bytes of a text -/
theorem ext_one (s : ByteArray) (t : Nat) (c : UInt8) (h : t + 1 ≤ s.size) (hc : s[t]! = c) : s.extract t (t + 1) = ⟨#[c]⟩ := by
  rw [getElem!_pos s t (by omega)] at hc
  apply ByteArray.ext_getElem
  · rw [ByteArray.size_extract]; show min (t + 1) s.size - t = 1; omega
  · intro i hi hi'
    have h1 : i < 1 := hi'
    obtain rfl : i = 0 := by omega
    rw [ByteArray.getElem_extract]
    exact hc
theorem ext_two (s : ByteArray) (t : Nat) (c d : UInt8) (h : t + 2 ≤ s.size) (hc : s[t]! = c) (hd : s[t + 1]! = d) : s.extract t (t + 2) = ⟨#[c, d]⟩ := by
  rw [getElem!_pos s t (by omega)] at hc
  rw [getElem!_pos s (t + 1) (by omega)] at hd
  apply ByteArray.ext_getElem
  · rw [ByteArray.size_extract]; show min (t + 2) s.size - t = 2; omega
  · intro i hi hi'
    have h1 : i < 2 := hi'
    rw [ByteArray.getElem_extract]
    rcases (show i = 0 ∨ i = 1 by omega) with rfl | rfl
    · exact hc
    · exact hd
theorem ext_zero (s : ByteArray) (t : Nat) : s.extract t t = ⟨#[]⟩ := by
  apply ByteArray.ext_getElem
  · rw [ByteArray.size_extract]; show min t s.size - t = 0; omega
  · intro i hi hi'
    exact absurd hi' (Nat.not_lt_zero _)
end Go.Proofs.YteodfondjogmoaaGreatDoor.P
/- Map.Rune, Span, Line of a map of a text's places. Conditions: none beyond each theorem's own. -/
namespace Go.Proofs.YteodfondjogmoaaGreatDoor.P
open Go.RowKit
set_option linter.unusedVariables false
set_option linter.unusedSimpArgs false
attribute [local go_sem] Ext.cell Ext.froz
theorem span_ok {w : World} {b : Nat} {s : ByteArray} {P : List Pl} {L : List Ln} {pb pc lb lc : Nat} (h : IsMap w b s P L pb pc lb lc) (hP2 : P.length ≤ 70000) (hL2 : L.length ≤ 70000) (k : Int) (h0 : 0 ≤ k) (p : Ln) (hp : L[k.toNat]? = some p) :
    Calls Tryz.prog 86 #[.pointer (some ⟨b, 0, none⟩), .int .i64 k] w fun e w' => e = .returned (.tuple #[.agg #[.int .i64 p.f, .int .i64 p.t], .int .i64 p.e, .int .i64 0]) ∧ Below w.heap.size w w' := by
  obtain ⟨n, rfl⟩ := Int.eq_ofNat_of_zero_le h0
  rw [Int.toNat_natCast] at hp
  have c1 := h.c2
  have hb := h.bl
  obtain ⟨q0, q1, q2, q3⟩ := h.hl n p hp
  have hn : n < L.length := (List.getElem?_eq_some_iff.1 hp).1
  have hpb : lb < w.heap.size := World.block_lt_of_cell? w _ q0
  generalize L.length = len at *
  have t1 : (n : Int) < len := by omega
  have t2 : (0 : Int) ≤ n := by omega
  have d1 : decide ((n : Int) < 0) = false := by simp <;> omega
  clear h hp
  go_enter Tryz.func86, Tryz.ntmps86
  go_wp2_with fail
  go_region
  all_goals
    go_wp2_with fail
    exact bodyPost_ret (v := .tuple #[.agg #[.int .i64 p.f, .int .i64 p.t], .int .i64 p.e, .int .i64 0]) (by simp [results, Tryz.results86, go_sem, *]) rfl ⟨rfl, ((Below.refl _ w).alloc (Nat.le_refl _) _).drew⟩
theorem span_bad {w : World} {b : Nat} {s : ByteArray} {P : List Pl} {L : List Ln} {pb pc lb lc : Nat} (h : IsMap w b s P L pb pc lb lc) (hP2 : P.length ≤ 70000) (hL2 : L.length ≤ 70000) (k : Int) (h0 : k < 0 ∨ (L.length : Int) ≤ k) :
    Calls Tryz.prog 86 #[.pointer (some ⟨b, 0, none⟩), .int .i64 k] w fun e w' => e = .returned (.tuple #[.agg #[.int .i64 0, .int .i64 0], .int .i64 0, .int .i64 5]) ∧ Below w.heap.size w w' := by
  have c1 := h.c2
  have hb := h.bl
  clear h
  generalize L.length = len at *
  rcases h0 with h0 | h0
  · go_enter Tryz.func86, Tryz.ntmps86
    go_wp2_with fail
    exact bodyPost_ret (v := .tuple #[.agg #[.int .i64 0, .int .i64 0], .int .i64 0, .int .i64 5]) (by simp [results, Tryz.results86, go_sem, *]) rfl ⟨rfl, (Below.refl _ w).alloc (Nat.le_refl _) _⟩
  · have d1 : decide (k < 0) = false := by simp <;> omega
    go_enter Tryz.func86, Tryz.ntmps86
    go_wp2_with fail
    exact bodyPost_ret (v := .tuple #[.agg #[.int .i64 0, .int .i64 0], .int .i64 0, .int .i64 5]) (by simp [results, Tryz.results86, go_sem, *]) rfl ⟨rfl, (Below.refl _ w).alloc (Nat.le_refl _) _⟩
theorem below_dr {B : Nat} (w : World) (n : Nat) : Below B w (w.drewN n) := ⟨rfl, rfl, rfl, Nat.le_refl _, fun _ _ => rfl⟩
end Go.Proofs.YteodfondjogmoaaGreatDoor.P
/- A poem that is being read, in memory. Conditions: those of each theorem. -/
namespace Go.Proofs.YteodfondjogmoaaGreatDoor
open Go Go.RowKit Go.Lib Go.Shelf
set_option linter.unusedVariables false
set_option linter.unusedSimpArgs false
abbrev Vs.cl (x : Vs) : List Value := [.string x.tx, .int .i64 x.a, .int .i64 x.b, .int .i64 x.c, .int .i64 x.f, .int .i64 x.t]
def flatV (l : List Vs) : List Value := l.flatMap Vs.cl
theorem flatV_snoc (l : List Vs) (x : Vs) : flatV (l ++ [x]) = flatV l ++ x.cl := by simp [flatV]
theorem flatV_get : ∀ (l : List Vs) (k j : Nat) (v : Vs), l[k]? = some v → j < 6 → (flatV l)[k * 6 + j]? = v.cl[j]?
  | [], k, j, v, h, _ => by simp at h
  | x :: r, 0, j, v, h, hj => by
    have : x = v := by simpa using h
    subst this
    show (x.cl ++ flatV r)[0 * 6 + j]? = _
    rw [Nat.zero_mul, Nat.zero_add, List.getElem?_append_left (by simpa using hj)]
  | x :: r, k + 1, j, v, h, hj => by
    show (x.cl ++ flatV r)[(k + 1) * 6 + j]? = _
    rw [List.getElem?_append_right (by simp; omega), show (k + 1) * 6 + j - x.cl.length = k * 6 + j by simp; omega]
    exact flatV_get r k j v (by simpa using h) hj
/-- whole numbers and nothing else -/
def AllI (xs : List Value) : Prop := ∀ (j : Nat) (u : Value), xs[j]? = some u → ∃ q : Int, u = Value.int .i64 q
theorem AllI.app {xs : List Value} (h : AllI xs) (a b : Int) : AllI (xs ++ [.int .i64 a, .int .i64 b]) := by
  intro j u hu
  have hm := List.mem_of_getElem? hu
  rcases List.mem_append.1 hm with hm | hm
  · obtain ⟨i, hi⟩ := List.getElem?_of_mem hm
    exact h i u hi
  · simp at hm
    rcases hm with rfl | rfl
    · exact ⟨_, rfl⟩
    · exact ⟨_, rfl⟩
theorem AllI.set {xs : List Value} (h : AllI xs) (j : Nat) (a : Int) : AllI (xs.set j (.int .i64 a)) := by
  intro i u hu
  rw [List.getElem?_set] at hu
  split at hu
  · split at hu
    · cases hu; exact ⟨_, rfl⟩
    · cases hu
  · exact h i u hu
structure RdS (wB wr : World) (text : ByteArray) (L : List Vs) (m : Nat) (xs : List Value) (tv : ByteArray) (lv sv : Value) : Prop where
  bp : Blk wr wB.heap.size 161 #[.string tv, lv, sv, .string text]
  lo : wr.ownsRow (wB.heap.size + 1) 136 6 lv L.length (flatV L)
  so : wr.ownsRow (wB.heap.size + 1) 37 2 sv m xs
  ai : AllI xs
  ne : ∀ g, lv.ownBlock = some g → sv.ownBlock ≠ some g
  low : Below wB.heap.size wB wr
section
variable {wB wr : World} {text : ByteArray} {L : List Vs} {m : Nat} {xs : List Value} {tv : ByteArray} {lv sv : Value}
theorem RdS.lt (h : RdS wB wr text L m xs tv lv sv) : wB.heap.size < wr.heap.size := h.bp.lt
theorem RdS.below (h : RdS wB wr text L m xs tv lv sv) {W' : World} (hb : Below wr.heap.size wr W') : RdS wB W' text L m xs tv lv sv :=
  ⟨h.bp.low hb, row_keep h.lo (Kept.of_all hb (fun _ => True)) (fun _ _ => trivial), row_keep h.so (Kept.of_all hb (fun _ => True)) (fun _ _ => trivial), h.ai, h.ne, h.low.trans (hb.mono (by have := h.lt; omega))⟩
theorem RdS.drew (h : RdS wB wr text L m xs tv lv sv) (n : Nat) : RdS wB (wr.drewN n) text L m xs tv lv sv := h.below ⟨rfl, rfl, rfl, Nat.le_refl _, fun _ _ => rfl⟩
theorem row_set {W : World} {b : Nat} {e : TypeId} {n : Nat} {v : Value} {k : Nat} {ys : List Value} (h : W.ownsRow b e n v k ys) {B j : Nat} {u : Value} (hB : v.ownBlock ≠ some B) : (W.setCell ⟨B, j, none⟩ u).ownsRow b e n v k ys :=
  row_keep h (Kept.setCell (T := fun k => k ≠ B) W (fun h => h rfl) u) (fun g hg e => hB (e ▸ hg))
theorem RdS.tit (h : RdS wB wr text L m xs tv lv sv) (t' : ByteArray) : RdS wB (wr.setCell ⟨wB.heap.size, 0, none⟩ (.string t')) text L m xs t' lv sv :=
  ⟨h.bp.upd _ _ rfl, row_set h.lo (fun e => by have := (row_lt h.lo _ e).1; omega), row_set h.so (fun e => by have := (row_lt h.so _ e).1; omega), h.ai, h.ne, h.low.setCell (p := ⟨wB.heap.size, 0, none⟩) (Nat.le_refl _) _⟩
/-- behind 'p.stanzas = append(p.stanzas, ..)' -/
theorem RdS.pushs (h : RdS wB wr text L m xs tv lv sv) {W1 W7 : World} {a b : Int} {sv' : Value} (hb : Below wr.heap.size wr W1) (hown : W7.ownsRow (wB.heap.size + 1) 37 2 sv' (m + 1) (xs ++ [.int .i64 a, .int .i64 b])) (hg : W1.grownBy W7 sv.ownBlock)
    (hk : sv'.ownBlock = sv.ownBlock ∨ sv'.ownBlock = some W1.heap.size) :
    Blk W7 wB.heap.size 161 #[.string tv, lv, sv, .string text] ∧ RdS wB (W7.setCell ⟨wB.heap.size, 2, none⟩ sv') text L (m + 1) (xs ++ [.int .i64 a, .int .i64 b]) tv lv sv' := by
  have h1 := h.below hb
  have hsg := fun g hg => row_lt h1.so g hg
  have hlg := fun g hg => row_lt h1.lo g hg
  have hK : Kept (fun k => sv.ownBlock ≠ some k) W1 W7 := Kept.grown hg (fun r hr h => h hr)
  have k1 : Blk W7 wB.heap.size 161 #[.string tv, lv, sv, .string text] := h1.bp.keep hK (fun e => by have := (hsg _ e).1; omega)
  have hl7 : W7.ownsRow (wB.heap.size + 1) 136 6 lv L.length (flatV L) := row_keep h1.lo hK (fun g hgl => h.ne g hgl)
  refine ⟨k1, k1.upd _ _ rfl, row_set hl7 (fun e => by have := (hlg _ e).1; omega), row_set hown (fun e => by have := (row_lt hown _ e).1; omega), h.ai.app a b, ?_, ?_⟩
  · intro g hgl hgs
    rcases hk with hk | hk
    · exact h.ne g hgl (hk ▸ hgs)
    · rw [hk] at hgs
      have := (hlg g hgl).2
      have e := Option.some.inj hgs
      omega
  · exact (h1.low.trans (hK.below (by have := h1.lt; omega) (fun k hk e => by have := (hsg _ e).1; omega))).setCell (p := ⟨wB.heap.size, 2, none⟩) (Nat.le_refl _) _
/-- behind 'p.lines = append(p.lines, ..)' -/
theorem RdS.pushl (h : RdS wB wr text L m xs tv lv sv) {W1 W7 : World} {x : Vs} {lv' : Value} (hb : Below wr.heap.size wr W1) (hown : W7.ownsRow (wB.heap.size + 1) 136 6 lv' (L.length + 1) (flatV L ++ x.cl)) (hg : W1.grownBy W7 lv.ownBlock)
    (hk : lv'.ownBlock = lv.ownBlock ∨ lv'.ownBlock = some W1.heap.size) :
    Blk W7 wB.heap.size 161 #[.string tv, lv, sv, .string text] ∧ RdS wB (W7.setCell ⟨wB.heap.size, 1, none⟩ lv') text (L ++ [x]) m xs tv lv' sv := by
  have h1 := h.below hb
  have hsg := fun g hg => row_lt h1.so g hg
  have hlg := fun g hg => row_lt h1.lo g hg
  have hK : Kept (fun k => lv.ownBlock ≠ some k) W1 W7 := Kept.grown hg (fun r hr h => h hr)
  have k1 : Blk W7 wB.heap.size 161 #[.string tv, lv, sv, .string text] := h1.bp.keep hK (fun e => by have := (hlg _ e).1; omega)
  have hs7 : W7.ownsRow (wB.heap.size + 1) 37 2 sv m xs := row_keep h1.so hK (fun g hgs e => h.ne g e hgs)
  refine ⟨k1, k1.upd _ _ rfl, ?_, row_set hs7 (fun e => by have := (hsg _ e).1; omega), h.ai, ?_, ?_⟩
  · rw [flatV_snoc, List.length_append, List.length_singleton]
    exact row_set hown (fun e => by have := (row_lt hown _ e).1; omega)
  · intro g hgl hgs
    rcases hk with hk | hk
    · exact h.ne g (hk ▸ hgl) hgs
    · rw [hk] at hgl
      have := (hsg g hgs).2
      have e := Option.some.inj hgl
      omega
  · exact (h1.low.trans (hK.below (by have := h1.lt; omega) (fun k hk e => by have := (hlg _ e).1; omega))).setCell (p := ⟨wB.heap.size, 1, none⟩) (Nat.le_refl _) _
/-- the last stanza's cells -/
theorem RdS.last (h : RdS wB wr text L (m + 1) xs tv lv sv) : ∃ g c q0 q1, sv = .slice (some ⟨g, 0, none⟩) (m + 1) c ∧ wB.heap.size + 1 ≤ g ∧ g < wr.heap.size ∧ wr.cell? ⟨g, m * 2, none⟩ = some (.int .i64 q0) ∧ wr.cell? ⟨g, m * 2 + 1, none⟩ = some (.int .i64 q1) ∧ (∀ k, wr.frozen? ⟨g, k, none⟩ = false) ∧
    ∀ n1 : Int, RdS wB (wr.setCell ⟨g, m * 2 + 1, none⟩ (.int .i64 n1)) text L (m + 1) (xs.set (m * 2 + 1) (.int .i64 n1)) tv lv sv := by
  obtain ⟨hl, h2⟩ := h.so
  rcases h2 with ⟨_, h2⟩ | ⟨g, cap, cur, rfl, hb, hc, h3, h4, h5, h6⟩
  · omega
  have hcell : ∀ j, j < (m + 1) * 2 → ∃ q, wr.cell? ⟨g, j, none⟩ = some (.int .i64 q) := by
    intro j hj
    have hx : xs[j]? = cur[j]? := by
      rw [← h6, List.getElem?_take, if_pos hj]; simp
    have hj2 : j < xs.length := by omega
    obtain ⟨q, hq⟩ := h.ai j _ (List.getElem?_eq_getElem hj2)
    refine ⟨q, ?_⟩
    have e : cur[j]? = some (.int .i64 q) := by rw [← hx, List.getElem?_eq_getElem hj2, hq]
    simp [World.cell?, hc, e]
  obtain ⟨q0, c0⟩ := hcell (m * 2) (by omega)
  obtain ⟨q1, c1⟩ := hcell (m * 2 + 1) (by omega)
  have hgl : g < wr.heap.size := at_lt hc
  refine ⟨g, cap, q0, q1, rfl, hb, hgl, c0, c1, fun k => by simp [World.frozen?, hc], fun n1 => ?_⟩
  have hB : Blk wr g 37 cur := hc
  refine ⟨h.bp.other (by omega) _, row_set h.lo (fun e => h.ne g e rfl), ?_, h.ai.set _ _, h.ne, h.low.setCell (p := ⟨g, m * 2 + 1, none⟩) (by show wB.heap.size ≤ g; omega) _⟩
  refine ⟨by rw [List.length_set]; exact hl, .inr ⟨g, cap, _, rfl, hb, hB.set (m * 2 + 1) (.int .i64 n1), h3, h4, by simpa using h5, ?_⟩⟩
  rw [Array.toList_setIfInBounds, List.take_set, h6]
/-- a poem that has been read -/
theorem RdS.poem (h : RdS wB wr text L m xs tv lv sv) : ∃ g a cap, PmAt wr wB.heap.size g a cap L ∧ g < wr.heap.size ∧ wB.heap.size ≤ g := by
  obtain ⟨hl, h2⟩ := h.lo
  rcases h2 with ⟨rfl, h2⟩ | ⟨g, cap, cur, rfl, hb, hc, h3, h4, h5, h6⟩
  · have hL : L = [] := List.length_eq_zero_iff.1 h2
    subst hL
    exact ⟨wB.heap.size, none, 0, ⟨h.bp.cell rfl, .inl rfl, fun k v hv => by simp at hv⟩, h.lt, Nat.le_refl _⟩
  · refine ⟨g, some ⟨g, 0, none⟩, cap, ⟨h.bp.cell rfl, .inr rfl, fun k v hv => ?_⟩, at_lt hc, by omega⟩
    have hk : k < L.length := (List.getElem?_eq_some_iff.1 hv).1
    have key : ∀ j u, j < 6 → v.cl[j]? = some u → wr.cell? ⟨g, k * 6 + j, none⟩ = some u := by
      intro j u hj hu
      have e : cur[k * 6 + j]? = some u := by
        rw [← hu, ← flatV_get L k j v hv hj, ← h6, List.getElem?_take, if_pos (by omega)]; simp
      simp [World.cell?, hc, e]
    exact ⟨key 0 _ (by omega) rfl, key 1 _ (by omega) rfl, key 2 _ (by omega) rfl, key 3 _ (by omega) rfl, key 4 _ (by omega) rfl, key 5 _ (by omega) rfl⟩
end
theorem infoS : (Tryz.prog.info? 37).map (fun i => (i.zero, i.size, i.bytes)) = some (some (.agg #[.int .i64 0, .int .i64 0]), 2, 16) := by kernel_rfl
theorem infoV : (Tryz.prog.info? 136).map (fun i => (i.zero, i.size, i.bytes)) = some (some (.agg #[.string ⟨#[]⟩, .int .i64 0, .int .i64 0, .int .i64 0, .int .i64 0, .int .i64 0]), 6, 56) := by kernel_rfl
end Go.Proofs.YteodfondjogmoaaGreatDoor
