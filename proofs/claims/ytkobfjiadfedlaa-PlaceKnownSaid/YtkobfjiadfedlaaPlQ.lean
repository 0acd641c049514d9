/- The places and lines of a text belong together. No program in sight. -/
import Derived.Test.YtkobfjiadfedlaaPlP
namespace Go.Proofs.Ytkobfjiadfedlaa
set_option linter.unusedVariables false

theorem dec_small (s : ByteArray) (pos : Nat) (h : (Utf8.decode s pos).1 < 128) : (Utf8.decode s pos).2 = 1 ∧ (s.get! pos).toNat = (Utf8.decode s pos).1 := by
  have e0 : s.get! (pos + 0) = s.get! pos := by rw [Nat.add_zero]
  unfold Utf8.decode at *
  dsimp only at *
  rw [e0] at *
  split at h
  · rename_i h0
    rw [if_pos h0]
    exact ⟨rfl, rfl⟩
  · exfalso
    revert h
    repeat' split
    all_goals first | (simp only [Utf8.runeError]; omega) | (rename_i hc; simp only [Bool.and_eq_true, decide_eq_true_eq] at hc; omega)
theorem get_bang (s : ByteArray) (i : Nat) : s.get! i = s[i]! := by
  by_cases h : i < s.size
  · rw [getElem!_pos s i h]
    simp [ByteArray.get!, getElem!_pos, h]
    rfl
  · rw [getElem!_neg s i h]
    have h2 : ¬ i < s.data.size := h
    show s.data[i]! = _
    rw [getElem!_neg s.data i h2]
/-- where a line ends, the piece is one byte, 13 or 10 -/
theorem nl_byte (s : ByteArray) (pos : Nat) (h : nlw s pos (Utf8.decode s pos).1 ≠ 0) :
    (Utf8.decode s pos).2 = 1 ∧ (s[pos]! = 13 ∧ (Utf8.decode s pos).1 = 13 ∨ s[pos]! = 10 ∧ (Utf8.decode s pos).1 = 10) := by
  have h0 : (Utf8.decode s pos).1 = 13 ∨ (Utf8.decode s pos).1 = 10 := by
    unfold nlw at h
    by_cases h1 : (Utf8.decode s pos).1 = 13
    · exact .inl h1
    · rw [if_neg h1] at h
      by_cases h2 : (Utf8.decode s pos).1 = 10
      · exact .inr h2
      · rw [if_neg h2] at h; exact absurd rfl h
  obtain ⟨h1, h2⟩ := dec_small s pos (by omega)
  refine ⟨h1, ?_⟩
  rw [get_bang] at h2
  rcases h0 with h0 | h0
  · exact .inl ⟨UInt8.toNat_inj.1 (by rw [h2, h0]; rfl), h0⟩
  · exact .inr ⟨UInt8.toNat_inj.1 (by rw [h2, h0]; rfl), h0⟩

structure Tie (s : ByteArray) (pos : Nat) (t : St) : Prop where
  ll : t.l = t.ls.length
  fc : t.fi + t.c = t.ps.length
  hp : pos ≤ s.size
  p1 : ∀ (k : Nat) (p : Pl), t.ps[k]? = some p → p.l ≤ t.l ∧ (p.l < t.l → ∃ ln : Ln, t.ls[p.l]? = some ln ∧ ln.i + p.c = k) ∧ (p.l = t.l → t.fi + p.c = k)
  l1 : ∀ (m : Nat) (ln : Ln), t.ls[m]? = some ln → (∃ p : Pl, t.ps[ln.i]? = some p ∧ p.b = ln.f ∧ p.l = m ∧ p.c = 0) ∧ ln.f ≤ ln.t ∧ ln.t + ln.e ≤ s.size ∧ ln.i ≤ t.ps.length
  c1 : t.fi < t.ps.length → ∃ p : Pl, t.ps[t.fi]? = some p ∧ p.b = t.fr ∧ p.l = t.l ∧ p.c = 0
  c2 : t.fi = t.ps.length → t.fr = pos
  fr : t.fr ≤ pos
  mono : ∀ (i j : Nat) (p q : Pl), i < j → t.ps[i]? = some p → t.ps[j]? = some q → p.l ≤ q.l
  crlf : t.fr = pos → 0 < pos → ¬ (s[pos - 1]! = 13 ∧ pos < s.size ∧ s[pos]! = 10)
theorem Tie.step {s : ByteArray} {pos : Nat} {t : St} (h : Tie s pos t) (hpos : pos < s.size) : Tie s (pos + (Utf8.decode s pos).2) (t.step s pos (Utf8.decode s pos).1) := by
  have hd1 := dec_pos s pos
  have hd2 := dec_le s pos hpos
  obtain ⟨ll, fc, hp, p1, l1, c1, c2, fr, mono, crlf⟩ := h
  have cur : ∀ (q : Pl), (t.ps ++ [⟨pos, t.r, t.u, t.l, t.c⟩])[t.ps.length]? = some q → q = ⟨pos, t.r, t.u, t.l, t.c⟩ := fun q hq => by simpa using hq.symm
  have first : ∃ p : Pl, (t.ps ++ [⟨pos, t.r, t.u, t.l, t.c⟩])[t.fi]? = some p ∧ p.b = t.fr ∧ p.l = t.l ∧ p.c = 0 := by
    by_cases hf : t.fi < t.ps.length
    · obtain ⟨p, hp1, hp2⟩ := c1 hf
      exact ⟨p, by rw [List.getElem?_append_left hf]; exact hp1, hp2⟩
    · have hfe : t.fi = t.ps.length := by omega
      exact ⟨⟨pos, t.r, t.u, t.l, t.c⟩, by rw [hfe]; simp, (c2 hfe).symm, rfl, by dsimp only; omega⟩
  have mono2 : ∀ (i j : Nat) (p q : Pl), i < j → (t.ps ++ [⟨pos, t.r, t.u, t.l, t.c⟩])[i]? = some p → (t.ps ++ [⟨pos, t.r, t.u, t.l, t.c⟩])[j]? = some q → p.l ≤ q.l := by
    intro i j p q hij hp' hq'
    rcases get_snoc hp' with ⟨hp', hi⟩ | ⟨hi, rfl⟩
    · rcases get_snoc hq' with ⟨hq', hj⟩ | ⟨hj, rfl⟩
      · exact mono i j p q hij hp' hq'
      · exact (p1 i p hp').1
    · rcases get_snoc hq' with ⟨hq', hj⟩ | ⟨hj, rfl⟩
      · omega
      · omega
  by_cases hn : nlw s pos (Utf8.decode s pos).1 = 0
  · have e : t.step s pos (Utf8.decode s pos).1 = ⟨t.ps ++ [⟨pos, t.r, t.u, t.l, t.c⟩], t.ls, t.r + 1, t.u + unitsOf (Utf8.decode s pos).1, t.l, t.c + 1, t.fr, t.fi⟩ := by unfold St.step; rw [if_pos hn]
    rw [e]
    refine ⟨ll, by simp; omega, hd2, fun k p hk => ?_, fun m ln hm => ?_, fun _ => first, fun hf => ?_, by dsimp only; omega, mono2, fun hf => ?_⟩
    · rcases get_snoc hk with ⟨hk, _⟩ | ⟨rfl, rfl⟩
      · exact p1 k p hk
      · exact ⟨Nat.le_refl _, fun h => by dsimp only at h; omega, fun _ => fc⟩
    · obtain ⟨⟨p, hp1, hp2⟩, h3, h4, h5⟩ := l1 m ln hm
      exact ⟨⟨p, by rw [List.getElem?_append_left (List.getElem?_eq_some_iff.1 hp1).1]; exact hp1, hp2⟩, h3, h4, by simp; omega⟩
    · simp at hf; omega
    · dsimp only at hf; omega
  · obtain ⟨hw, hb⟩ := nl_byte s pos hn
    have e : t.step s pos (Utf8.decode s pos).1 = ⟨t.ps ++ [⟨pos, t.r, t.u, t.l, t.c⟩], t.ls ++ [⟨t.fr, pos + 1 - nlw s pos (Utf8.decode s pos).1, nlw s pos (Utf8.decode s pos).1, t.fi⟩], t.r + 1, t.u + unitsOf (Utf8.decode s pos).1, t.l + 1, 0, pos + 1, t.ps.length + 1⟩ := by unfold St.step; rw [if_neg hn]
    have h2 := nlw_le s pos (Utf8.decode s pos).1
    have hft : t.fr ≤ pos + 1 - nlw s pos (Utf8.decode s pos).1 ∧ nlw s pos (Utf8.decode s pos).1 ≤ pos + 1 := by
      by_cases hk : nlw s pos (Utf8.decode s pos).1 = 2
      · have h0 := nlw_two _ _ _ hk
        have h13 : s[pos - 1]! = 13 ∧ s[pos]! = 10 := by
          rcases hb with ⟨hb1, hb2⟩ | ⟨hb1, hb2⟩
          · rw [hb2] at hk
            unfold nlw at hk
            rw [if_pos rfl] at hk
            split at hk <;> omega
          · rw [hb2] at hk
            unfold nlw at hk
            rw [if_neg (by decide), if_pos rfl] at hk
            split at hk
            · rename_i hh; exact ⟨hh.2, hb1⟩
            · omega
        have : t.fr ≠ pos := fun hf => crlf hf h0 ⟨h13.1, hpos, h13.2⟩
        omega
      · omega
    rw [e, hw]
    refine ⟨by simp [ll], by simp, by omega, fun k p hk => ?_, fun m ln hm => ?_, fun hf => by simp at hf, fun _ => rfl, Nat.le_refl _, mono2, fun _ _ => ?_⟩
    · have old : ∀ m, (t.ls ++ [⟨t.fr, pos + 1 - nlw s pos (Utf8.decode s pos).1, nlw s pos (Utf8.decode s pos).1, t.fi⟩] : List Ln)[t.ls.length]? = some m → m = ⟨t.fr, pos + 1 - nlw s pos (Utf8.decode s pos).1, nlw s pos (Utf8.decode s pos).1, t.fi⟩ := fun m hm => by simpa using hm.symm
      rcases get_snoc hk with ⟨hk, _⟩ | ⟨rfl, rfl⟩
      · obtain ⟨a, b, c⟩ := p1 k p hk
        refine ⟨by dsimp only; omega, fun hlt => ?_, fun he => by dsimp only at he; omega⟩
        rcases Nat.lt_or_eq_of_le a with hl | hl
        · obtain ⟨ln, hl1, hl2⟩ := b hl
          exact ⟨ln, by rw [List.getElem?_append_left (List.getElem?_eq_some_iff.1 hl1).1]; exact hl1, hl2⟩
        · exact ⟨⟨t.fr, pos + 1 - nlw s pos (Utf8.decode s pos).1, nlw s pos (Utf8.decode s pos).1, t.fi⟩, by rw [hl, ll]; simp, c hl⟩
      · refine ⟨by dsimp only; omega, fun _ => ⟨⟨t.fr, pos + 1 - nlw s pos (Utf8.decode s pos).1, nlw s pos (Utf8.decode s pos).1, t.fi⟩, by dsimp only; rw [ll]; simp, fc⟩, fun he => by dsimp only at he; omega⟩
    · rcases get_snoc hm with ⟨hm, _⟩ | ⟨rfl, rfl⟩
      · obtain ⟨⟨p, hp1, hp2⟩, h3, h4, h5⟩ := l1 m ln hm
        exact ⟨⟨p, by rw [List.getElem?_append_left (List.getElem?_eq_some_iff.1 hp1).1]; exact hp1, hp2⟩, h3, h4, by simp; omega⟩
      · obtain ⟨p, hp1, hp2, hp3, hp4⟩ := first
        exact ⟨⟨p, hp1, hp2, by rw [hp3, ll], hp4⟩, hft.1, by dsimp only; omega, by simp; omega⟩
    · rintro ⟨h13, hlt, h10⟩
      have e1 : pos + 1 - 1 = pos := by omega
      rw [e1] at h13
      rcases hb with ⟨hb1, hb2⟩ | ⟨hb1, hb2⟩
      · apply hn
        unfold nlw
        rw [if_pos hb2, if_pos ⟨hlt, h10⟩]
      · rw [hb1] at h13
        exact absurd h13 (by decide)
theorem Tie.start (s : ByteArray) : Tie s 0 St.start :=
  ⟨rfl, rfl, Nat.zero_le _, fun k p h => by simp [St.start] at h, fun m ln h => by simp [St.start] at h, fun h => by simp [St.start] at h, fun _ => rfl, Nat.le_refl _, fun i j p q _ h _ => by simp [St.start] at h, fun _ h => by omega⟩
theorem fin_tie (s : ByteArray) : Tie s s.size (fin s) := run_ind (I := Tie s) (fun _ _ hp h => h.step hp) s.size 0 St.start (by omega) (by omega) (Tie.start s)
/-- each place has its line -/
theorem pl_line (s : ByteArray) {k : Nat} {p : Pl} (h : (plOf s)[k]? = some p) : ∃ ln : Ln, (lnOf s)[p.l]? = some ln ∧ ln.i + p.c = k ∧ ln.f ≤ ln.t ∧ ln.t + ln.e ≤ s.size ∧ ∃ p0 : Pl, (plOf s)[ln.i]? = some p0 ∧ p0.b = ln.f ∧ p0.l = p.l ∧ p0.c = 0 := by
  obtain ⟨ll, fc, hp, p1, l1, c1, c2, fr, mono, crlf⟩ := fin_tie s
  have inn : ∀ (i : Nat) (q : Pl), (fin s).ps[i]? = some q → (plOf s)[i]? = some q := fun i q hq => by unfold plOf; rw [List.getElem?_append_left (List.getElem?_eq_some_iff.1 hq).1]; exact hq
  have lastl : (lnOf s)[(fin s).l]? = some ⟨(fin s).fr, s.size, 0, (fin s).fi⟩ := by unfold lnOf; rw [ll]; simp
  have lastf : ∃ p0 : Pl, (plOf s)[(fin s).fi]? = some p0 ∧ p0.b = (fin s).fr ∧ p0.l = (fin s).l ∧ p0.c = 0 := by
    by_cases hf : (fin s).fi < (fin s).ps.length
    · obtain ⟨q, hq, h2⟩ := c1 hf
      exact ⟨q, inn _ _ hq, h2⟩
    · have hfe : (fin s).fi = (fin s).ps.length := by omega
      exact ⟨⟨s.size, (fin s).r, (fin s).u, (fin s).l, (fin s).c⟩, by rw [hfe]; unfold plOf; simp, (c2 hfe).symm, rfl, by dsimp only; omega⟩
  rcases get_snoc h with ⟨hk, _⟩ | ⟨rfl, rfl⟩
  · obtain ⟨a, b, c⟩ := p1 k p hk
    rcases Nat.lt_or_eq_of_le a with hl | hl
    · obtain ⟨ln, hl1, hl2⟩ := b hl
      obtain ⟨⟨p0, hp1, hp2, hp3, hp4⟩, h3, h4, h5⟩ := l1 _ ln hl1
      exact ⟨ln, by unfold lnOf; rw [List.getElem?_append_left (List.getElem?_eq_some_iff.1 hl1).1]; exact hl1, hl2, h3, h4, p0, inn _ _ hp1, hp2, hp3, hp4⟩
    · exact ⟨_, by rw [hl]; exact lastl, c hl, fr, Nat.le_refl _, by rw [hl]; exact lastf⟩
  · exact ⟨_, lastl, fc, fr, Nat.le_refl _, lastf⟩
theorem pl_mono (s : ByteArray) {i j : Nat} {p q : Pl} (hij : i ≤ j) (hp : (plOf s)[i]? = some p) (hq : (plOf s)[j]? = some q) : p.l ≤ q.l := by
  obtain ⟨ll, fc, hp', p1, l1, c1, c2, fr, mono, crlf⟩ := fin_tie s
  rcases Nat.lt_or_eq_of_le hij with hij | rfl
  · rcases get_snoc hp with ⟨h1, h2⟩ | ⟨h1, rfl⟩
    · rcases get_snoc hq with ⟨h3, h4⟩ | ⟨h3, rfl⟩
      · exact mono i j p q hij h1 h3
      · exact (p1 i p h1).1
    · rcases get_snoc hq with ⟨h3, h4⟩ | ⟨h3, rfl⟩ <;> omega
  · rw [hp] at hq; cases hq; exact Nat.le_refl _
end Go.Proofs.Ytkobfjiadfedlaa
