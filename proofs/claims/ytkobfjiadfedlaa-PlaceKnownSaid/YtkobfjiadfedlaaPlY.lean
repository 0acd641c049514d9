/- The lines of a text and their ends are the text, one behind the other. No program in sight. -/
import Derived.Test.YtkobfjiadfedlaaPlQ
namespace Go.Proofs.Ytkobfjiadfedlaa
set_option linter.unusedVariables false

/-- a small byte is a piece of its own -/
theorem dec_byte (s : ByteArray) (pos i : Nat) (h1 : pos ≤ i) (h2 : i < pos + (Utf8.decode s pos).2) (h : (s[i]!).toNat < 128) : i = pos ∧ (Utf8.decode s pos).1 = (s[i]!).toNat := by
  obtain ⟨d, rfl⟩ : ∃ d, i = pos + d := ⟨i - pos, by omega⟩
  rw [← get_bang] at h ⊢
  unfold Utf8.decode at *
  dsimp only at *
  rcases Nat.eq_zero_or_pos d with rfl | hd
  · rw [if_pos h]; exact ⟨rfl, rfl⟩
  · exfalso
    revert h2
    repeat' split
    all_goals intro h2
    all_goals dsimp only at h2
    all_goals first
      | omega
      | (rename_i hc _
         simp only [Bool.and_eq_true, beq_iff_eq, decide_eq_true_eq] at hc
         have hd3 : d = 1 ∨ d = 2 ∨ d = 3 := by omega
         rcases hd3 with rfl | rfl | rfl <;> omega)
/-- where line m begins -/
def endOf (l : List Ln) : Nat → Nat
  | 0 => 0
  | m + 1 => match l[m]? with
    | some a => a.t + a.e
    | none => 0
theorem endOf_old (l : List Ln) (x : Ln) (m : Nat) (h : m ≤ l.length) : endOf (l ++ [x]) m = endOf l m := by
  cases m with
  | zero => rfl
  | succ m => simp only [endOf]; rw [List.getElem?_append_left (by omega)]
theorem endOf_new (l : List Ln) (x : Ln) : endOf (l ++ [x]) (l.length + 1) = x.t + x.e := by unfold endOf; simp
/-- how a line ends that is not the last -/
def LnEnd (s : ByteArray) (ln : Ln) : Prop :=
  (ln.e = 1 ∧ ln.t + 1 ≤ s.size ∧ s[ln.t]! = 10) ∨ (ln.e = 1 ∧ ln.t + 1 ≤ s.size ∧ s[ln.t]! = 13 ∧ ¬ (ln.t + 1 < s.size ∧ s[ln.t + 1]! = 10)) ∨ (ln.e = 2 ∧ ln.t + 2 ≤ s.size ∧ s[ln.t]! = 13 ∧ s[ln.t + 1]! = 10)
structure Tile (s : ByteArray) (pos : Nat) (t : St) : Prop where
  ch : ∀ (m : Nat) (ln : Ln), t.ls[m]? = some ln → ln.f = endOf t.ls m
  fr : t.fr = endOf t.ls t.ls.length
  inn : ∀ (m : Nat) (ln : Ln), t.ls[m]? = some ln → (∀ i, ln.f ≤ i → i < ln.t → s[i]! ≠ 10 ∧ s[i]! ≠ 13) ∧ LnEnd s ln
  op : ∀ i, t.fr ≤ i → i < pos → s[i]! ≠ 10 ∧ (s[i]! = 13 → i + 1 = pos ∧ pos < s.size ∧ s[pos]! = 10)
theorem Tile.step {s : ByteArray} {pos : Nat} {t : St} (h : Tile s pos t) (hpos : pos < s.size) : Tile s (pos + (Utf8.decode s pos).2) (t.step s pos (Utf8.decode s pos).1) := by
  have hd1 := dec_pos s pos
  have hd2 := dec_le s pos hpos
  obtain ⟨ch, fr, inn, op⟩ := h
  by_cases hn : nlw s pos (Utf8.decode s pos).1 = 0
  · have e : t.step s pos (Utf8.decode s pos).1 = ⟨t.ps ++ [⟨pos, t.r, t.u, t.l, t.c⟩], t.ls, t.r + 1, t.u + unitsOf (Utf8.decode s pos).1, t.l, t.c + 1, t.fr, t.fi⟩ := by unfold St.step; rw [if_pos hn]
    rw [e]
    have n10 : (Utf8.decode s pos).1 ≠ 10 := fun h10 => by
      rw [h10] at hn; unfold nlw at hn; rw [if_neg (by decide), if_pos rfl] at hn; split at hn <;> omega
    have at10 : s[pos]! ≠ 10 := fun h10 => by
      obtain ⟨_, h2⟩ := dec_byte s pos pos (Nat.le_refl _) (by omega) (by rw [h10]; decide)
      rw [h10] at h2; exact n10 h2
    refine ⟨ch, fr, inn, fun i h1 h2 => ?_⟩
    rcases Nat.lt_or_ge i pos with hi | hi
    · obtain ⟨a, b⟩ := op i h1 hi
      exact ⟨a, fun h13 => absurd (b h13).2.2 at10⟩
    · refine ⟨fun h10 => ?_, fun h13 => ?_⟩
      · obtain ⟨h3, h4⟩ := dec_byte s pos i hi h2 (by rw [h10]; decide)
        rw [h10] at h4; exact n10 h4
      · obtain ⟨rfl, h4⟩ := dec_byte s pos i hi h2 (by rw [h13]; decide)
        rw [h13] at h4
        have h4' : (Utf8.decode s i).1 = 13 := h4
        obtain ⟨hw, _⟩ := dec_small s i (by omega)
        rw [h4'] at hn
        unfold nlw at hn
        rw [if_pos rfl] at hn
        split at hn
        · rename_i hh; rw [hw]; exact ⟨rfl, hh⟩
        · omega
  · obtain ⟨hw, hb⟩ := nl_byte s pos hn
    have e : t.step s pos (Utf8.decode s pos).1 = ⟨t.ps ++ [⟨pos, t.r, t.u, t.l, t.c⟩], t.ls ++ [⟨t.fr, pos + 1 - nlw s pos (Utf8.decode s pos).1, nlw s pos (Utf8.decode s pos).1, t.fi⟩], t.r + 1, t.u + unitsOf (Utf8.decode s pos).1, t.l + 1, 0, pos + 1, t.ps.length + 1⟩ := by unfold St.step; rw [if_neg hn]
    have key : (nlw s pos (Utf8.decode s pos).1 = 1 ∧ s[pos]! = 13 ∧ ¬ (pos + 1 < s.size ∧ s[pos + 1]! = 10)) ∨ (nlw s pos (Utf8.decode s pos).1 = 1 ∧ s[pos]! = 10 ∧ ¬ (0 < pos ∧ s[pos - 1]! = 13)) ∨ (nlw s pos (Utf8.decode s pos).1 = 2 ∧ 0 < pos ∧ s[pos - 1]! = 13 ∧ s[pos]! = 10) := by
      rcases hb with ⟨hb1, hb2⟩ | ⟨hb1, hb2⟩
      · rw [hb2] at hn ⊢
        unfold nlw at hn ⊢
        rw [if_pos rfl] at hn ⊢
        split at hn
        · omega
        · rename_i hh; rw [if_neg hh]; exact .inl ⟨rfl, hb1, hh⟩
      · rw [hb2] at hn ⊢
        unfold nlw at hn ⊢
        rw [if_neg (by decide), if_pos rfl] at hn ⊢
        split at hn
        · rename_i hh; rw [if_pos hh]; exact .inr (.inr ⟨rfl, hh.1, hh.2, hb1⟩)
        · rename_i hh; rw [if_neg hh]; exact .inr (.inl ⟨rfl, hb1, hh⟩)
    rw [e, hw]
    generalize nlw s pos (Utf8.decode s pos).1 = k at *
    have hk : pos + 1 - k + k = pos + 1 := by rcases key with ⟨a, _⟩ | ⟨a, _⟩ | ⟨a, b, _⟩ <;> omega
    refine ⟨fun m ln hm => ?_, ?_, fun m ln hm => ?_, fun i h1 h2 => by dsimp only at h1; omega⟩
    · rcases get_snoc hm with ⟨hm, hl⟩ | ⟨rfl, rfl⟩
      · rw [endOf_old _ _ _ (by omega)]; exact ch m ln hm
      · rw [endOf_old _ _ _ (Nat.le_refl _)]; exact fr
    · show pos + 1 = endOf _ (t.ls ++ [_]).length
      rw [List.length_append, List.length_singleton, endOf_new]; exact hk.symm
    · rcases get_snoc hm with ⟨hm, _⟩ | ⟨rfl, rfl⟩
      · exact inn m ln hm
      · dsimp only
        rcases key with ⟨rfl, k1, k2⟩ | ⟨rfl, k1, k2⟩ | ⟨rfl, k0, k1, k2⟩
        · refine ⟨fun i h1 h2 => ?_, .inr (.inl ⟨rfl, by dsimp only; omega, k1, k2⟩)⟩
          obtain ⟨a, b⟩ := op i h1 (by omega)
          exact ⟨a, fun h13 => by have := (b h13).2.2; rw [k1] at this; exact absurd this (by decide)⟩
        · refine ⟨fun i h1 h2 => ?_, .inl ⟨rfl, by dsimp only; omega, k1⟩⟩
          obtain ⟨a, b⟩ := op i h1 (by omega)
          refine ⟨a, fun h13 => k2 ?_⟩
          have h3 := (b h13).1
          exact ⟨by omega, by rw [← h3, Nat.add_sub_cancel]; exact h13⟩
        · have e1 : pos + 1 - 2 = pos - 1 := by omega
          have e2 : pos - 1 + 1 = pos := by omega
          refine ⟨fun i h1 h2 => ?_, .inr (.inr ⟨rfl, by dsimp only; omega, by dsimp only; rw [e1]; exact k1, by dsimp only; rw [e1, e2]; exact k2⟩)⟩
          obtain ⟨a, b⟩ := op i h1 (by omega)
          exact ⟨a, fun h13 => by have := (b h13).1; omega⟩
theorem Tile.start (s : ByteArray) : Tile s 0 St.start :=
  ⟨fun m ln h => by simp [St.start] at h, rfl, fun m ln h => by simp [St.start] at h, fun i _ h => by omega⟩
theorem fin_tile (s : ByteArray) : Tile s s.size (fin s) := run_ind (I := Tile s) (fun _ _ hp h => h.step hp) s.size 0 St.start (by omega) (by omega) (Tile.start s)
/-- what is said of each line -/
structure LnOk (s : ByteArray) (m : Nat) (ln : Ln) : Prop where
  f : ln.f = endOf (lnOf s) m
  next : ln.t + ln.e = endOf (lnOf s) (m + 1)
  ft : ln.f ≤ ln.t
  sz : ln.t + ln.e ≤ s.size
  inn : ∀ i, ln.f ≤ i → i < ln.t → s[i]! ≠ 10 ∧ s[i]! ≠ 13
  p0 : ∃ p : Pl, (plOf s)[ln.i]? = some p ∧ p.b = ln.f ∧ p.l = m ∧ p.c = 0
  fin : (m + 1 = (lnOf s).length ∧ ln.t = s.size ∧ ln.e = 0) ∨ (m + 1 < (lnOf s).length ∧ LnEnd s ln)
theorem ln_ok (s : ByteArray) {m : Nat} {ln : Ln} (h : (lnOf s)[m]? = some ln) : LnOk s m ln := by
  obtain ⟨ll, fc, hp, p1, l1, c1, c2, fr, mono, crlf⟩ := fin_tie s
  obtain ⟨ch, fr2, inn, op⟩ := fin_tile s
  have hnext : ln.t + ln.e = endOf (lnOf s) (m + 1) := by simp only [endOf]; rw [h]
  have up : ∀ (i : Nat) (q : Pl), (Go.Proofs.Ytkobfjiadfedlaa.fin s).ps[i]? = some q → (plOf s)[i]? = some q := fun i q hq => by unfold plOf; rw [List.getElem?_append_left (List.getElem?_eq_some_iff.1 hq).1]; exact hq
  have hlen : (lnOf s).length = (Go.Proofs.Ytkobfjiadfedlaa.fin s).ls.length + 1 := by unfold lnOf; simp
  rcases get_snoc h with ⟨hm, hl⟩ | ⟨rfl, rfl⟩
  · obtain ⟨⟨p0, hp1, hp2⟩, h3, h4, h5⟩ := l1 _ ln hm
    obtain ⟨i1, i2⟩ := inn m ln hm
    refine ⟨?_, hnext, h3, h4, i1, ⟨p0, up _ _ hp1, hp2⟩, .inr ⟨by omega, i2⟩⟩
    unfold lnOf
    rw [endOf_old _ _ _ (by omega)]; exact ch m ln hm
  · refine ⟨?_, hnext, fr, Nat.le_refl _, fun i h1 h2 => ?_, ?_, .inl ⟨by omega, rfl, rfl⟩⟩
    · unfold lnOf
      rw [endOf_old _ _ _ (Nat.le_refl _)]; exact fr2
    · obtain ⟨a, b⟩ := op i h1 h2
      exact ⟨a, fun h13 => by have := (b h13).2.1; omega⟩
    · by_cases hf : (Go.Proofs.Ytkobfjiadfedlaa.fin s).fi < (Go.Proofs.Ytkobfjiadfedlaa.fin s).ps.length
      · obtain ⟨q, hq, h2, h3, h4⟩ := c1 hf
        exact ⟨q, up _ _ hq, h2, by rw [h3, ll], h4⟩
      · have hfe : (Go.Proofs.Ytkobfjiadfedlaa.fin s).fi = (Go.Proofs.Ytkobfjiadfedlaa.fin s).ps.length := by omega
        exact ⟨⟨s.size, (Go.Proofs.Ytkobfjiadfedlaa.fin s).r, (Go.Proofs.Ytkobfjiadfedlaa.fin s).u, (Go.Proofs.Ytkobfjiadfedlaa.fin s).l, (Go.Proofs.Ytkobfjiadfedlaa.fin s).c⟩, by rw [hfe]; unfold plOf; simp, (c2 hfe).symm, ll, by dsimp only; omega⟩
theorem last_end (s : ByteArray) : endOf (lnOf s) (lnOf s).length = s.size := by
  unfold lnOf
  rw [List.length_append, List.length_singleton, endOf_new]
  rfl
theorem lnOf_pos (s : ByteArray) : 0 < (lnOf s).length := by unfold lnOf; simp
/-- one, two bytes of a text -/
theorem ext_one (s : ByteArray) (t : Nat) (c : UInt8) (h : t + 1 ≤ s.size) (hc : s[t]! = c) : s.extract t (t + 1) = ⟨#[c]⟩ := by
  rw [getElem!_pos s t (by omega)] at hc
  apply ByteArray.ext_getElem
  · rw [ByteArray.size_extract]; show min (t + 1) s.size - t = 1; omega
  · intro i hi hi'
    have h1 : i < 1 := hi'
    obtain rfl : i = 0 := by omega
    rw [ByteArray.getElem_extract]
    exact hc
theorem ext_two (s : ByteArray) (t : Nat) (c d : UInt8) (h : t + 2 ≤ s.size) (hc : s[t]! = c) (hd : s[t + 1]! = d) : s.extract t (t + 2) = ⟨#[c, d]⟩ := by
  rw [getElem!_pos s t (by omega)] at hc
  rw [getElem!_pos s (t + 1) (by omega)] at hd
  apply ByteArray.ext_getElem
  · rw [ByteArray.size_extract]; show min (t + 2) s.size - t = 2; omega
  · intro i hi hi'
    have h1 : i < 2 := hi'
    rw [ByteArray.getElem_extract]
    rcases (show i = 0 ∨ i = 1 by omega) with rfl | rfl
    · exact hc
    · exact hd
theorem ext_zero (s : ByteArray) (t : Nat) : s.extract t t = ⟨#[]⟩ := by
  apply ByteArray.ext_getElem
  · rw [ByteArray.size_extract]; show min t s.size - t = 0; omega
  · intro i hi hi'
    exact absurd hi' (Nat.not_lt_zero _)
end Go.Proofs.Ytkobfjiadfedlaa
