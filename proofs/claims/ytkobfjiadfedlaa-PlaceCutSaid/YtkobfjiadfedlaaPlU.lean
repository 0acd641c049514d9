/- A text that is cut at a boundary: the places behind it are those of the second half, further on. No program in sight. -/
import Derived.Test.YtkobfjiadfedlaaPlR
namespace Go.Proofs.Ytkobfjiadfedlaa
set_option linter.unusedVariables false
theorem run_prefix (s : ByteArray) : ∀ (f pos : Nat) (t : St), t.ps <+: (runFrom s f pos t).ps
  | 0, pos, t => by unfold runFrom; exact List.prefix_refl _
  | f + 1, pos, t => by
    unfold runFrom
    split
    · have e := (step_ps s pos (Utf8.decode s pos).1 t).1
      refine List.IsPrefix.trans ?_ (run_prefix s f _ _)
      rw [e]
      exact List.prefix_append _ _
    · exact List.prefix_refl _
/-- the state in which the i-th place comes -/
theorem run_at (s : ByteArray) : ∀ (f pos : Nat) (t : St), runFrom s f pos t = fin s → s.size ≤ pos + f → pos ≤ s.size → ∀ (i : Nat) (p : Pl), t.ps.length ≤ i → (plOf s)[i]? = some p →
    ∃ (f' : Nat) (t' : St), runFrom s f' p.b t' = fin s ∧ s.size ≤ p.b + f' ∧ p.b ≤ s.size ∧ t'.ps.length = i ∧ t'.r = p.r ∧ t'.u = p.u ∧ t'.l = p.l ∧ t'.c = p.c := by
  intro f
  induction f with
  | zero =>
    intro pos t hr hf hp i p hi hg
    obtain rfl : pos = s.size := by omega
    have ht : t = fin s := hr
    have hlen : i = t.ps.length := by
      have := (List.getElem?_eq_some_iff.1 hg).1
      rw [plOf_len, ← ht] at this
      omega
    subst hlen
    rw [ht, last_get] at hg
    cases hg
    exact ⟨0, t, by rw [ht]; rfl, by show s.size ≤ s.size + 0; omega, Nat.le_refl _, rfl, by rw [ht]; rfl, by rw [ht]; rfl, by rw [ht]; rfl, by rw [ht]; rfl⟩
  | succ f ih =>
    intro pos t hr hf hp i p hi hg
    by_cases hlt : pos < s.size
    · have hr' := hr
      unfold runFrom at hr'
      rw [if_pos hlt] at hr'
      have hd := dec_pos s pos
      have hd2 := dec_le s pos hlt
      have e := (step_ps s pos (Utf8.decode s pos).1 t).1
      rcases Nat.lt_or_eq_of_le hi with hi | hi
      · exact ih _ _ hr' (by omega) hd2 i p (by rw [e, List.length_append]; exact hi) hg
      · have hpre := run_prefix s f (pos + (Utf8.decode s pos).2) (t.step s pos (Utf8.decode s pos).1)
        rw [hr', e] at hpre
        have h1 : (fin s).ps[t.ps.length]? = some ⟨pos, t.r, t.u, t.l, t.c⟩ := by
          obtain ⟨x, hx⟩ := hpre
          rw [← hx]
          simp
        have h2 : (plOf s)[i]? = some ⟨pos, t.r, t.u, t.l, t.c⟩ := by
          unfold plOf
          rw [← hi, List.getElem?_append_left (List.getElem?_eq_some_iff.1 h1).1]
          exact h1
        rw [h2] at hg
        cases hg
        exact ⟨f + 1, t, hr, hf, hp, hi, rfl, rfl, rfl, rfl⟩
    · obtain rfl : pos = s.size := by omega
      have ht : t = fin s := by unfold runFrom at hr; rw [if_neg hlt] at hr; exact hr
      have hlen : i = t.ps.length := by
        have := (List.getElem?_eq_some_iff.1 hg).1
        rw [plOf_len, ← ht] at this
        omega
      subst hlen
      rw [ht, last_get] at hg
      cases hg
      exact ⟨f + 1, t, hr, by show s.size ≤ s.size + (f + 1); omega, Nat.le_refl _, rfl, by rw [ht]; rfl, by rw [ht]; rfl, by rw [ht]; rfl, by rw [ht]; rfl⟩
theorem ext_size (s : ByteArray) (k : Nat) (hk : k ≤ s.size) : (s.extract k s.size).size = s.size - k := by simp
theorem ext_bang (s : ByteArray) (k i : Nat) (h : k + i < s.size) : (s.extract k s.size)[i]! = s[k + i]! := by
  rw [getElem!_pos s _ h, getElem!_pos (s.extract k s.size) i (by rw [ext_size s k (by omega)]; omega)]
  exact ByteArray.getElem_extract ..
theorem ext_get (s : ByteArray) (k i : Nat) (h : k + i < s.size) : (s.extract k s.size).get! i = s.get! (k + i) := by
  rw [get_bang, get_bang, ext_bang s k i h]
theorem dec_cut (s : ByteArray) (k pos : Nat) (h : k + pos < s.size) : Utf8.decode (s.extract k s.size) pos = Utf8.decode s (k + pos) := by
  have hsz := ext_size s k (by omega)
  have c : ∀ (i j : Nat), (decide (pos + i < (s.extract k s.size).size) && (((s.extract k s.size).get! (pos + i)).toNat / 64 == 2)) = (decide (k + pos + i < s.size) && ((s.get! (k + pos + i)).toNat / 64 == 2)) := by
    intro i _
    by_cases hi : k + pos + i < s.size
    · rw [decide_eq_true hi, decide_eq_true (by omega : pos + i < (s.extract k s.size).size), ext_get s k (pos + i) (by omega), Nat.add_assoc]
    · rw [decide_eq_false hi, decide_eq_false (by omega : ¬ pos + i < (s.extract k s.size).size)]
      rfl
  have g : ∀ (i : Nat), k + pos + i < s.size → (s.extract k s.size).get! (pos + i) = s.get! (k + pos + i) := fun i hi => by rw [ext_get s k (pos + i) (by omega), Nat.add_assoc]
  have g0 := g 0 (by omega)
  unfold Utf8.decode
  dsimp only
  simp only [g0, c 1 0, c 2 0, c 3 0]
  split
  · rfl
  split
  · rename_i h2
    simp only [Bool.and_eq_true, decide_eq_true_eq] at h2
    simp only [g 1 h2.2.1]
  split
  · rename_i h3
    simp only [Bool.and_eq_true, decide_eq_true_eq] at h3
    simp only [g 1 h3.1.2.1, g 2 h3.2.1]
  split
  · rename_i h4
    simp only [Bool.and_eq_true, decide_eq_true_eq] at h4
    simp only [g 1 h4.1.1.2.1, g 2 h4.1.2.1, g 3 h4.2.1]
  · rfl
theorem nlw_cut (s : ByteArray) (k pos r : Nat) (h : k + pos < s.size) : (nlw (s.extract k s.size) pos r = 0) ↔ (nlw s (k + pos) r = 0) := by
  have hsz := ext_size s k (by omega)
  unfold nlw
  by_cases h13 : r = 13
  · rw [if_pos h13, if_pos h13]
    by_cases hn : k + pos + 1 < s.size
    · rw [ext_bang s k (pos + 1) (by omega)]
      have e : k + (pos + 1) = k + pos + 1 := by omega
      rw [e]
      by_cases hb : s[k + pos + 1]! = 10
      · rw [if_pos ⟨by omega, hb⟩, if_pos ⟨hn, hb⟩]
      · rw [if_neg (fun hh => hb hh.2), if_neg (fun hh => hb hh.2)]
    · rw [if_neg (fun hh => hn (by have := hh.1; omega)), if_neg (fun hh => hn hh.1)]
  · rw [if_neg h13, if_neg h13]
    by_cases h10 : r = 10
    · rw [if_pos h10, if_pos h10]
      constructor
      · intro hh; split at hh <;> omega
      · intro hh; split at hh <;> omega
    · rw [if_neg h10, if_neg h10]
/-- r is q, further on by p -/
structure Shf (p q x : Pl) : Prop where
  b : x.b = p.b + q.b
  r : x.r = p.r + q.r
  u : x.u = p.u + q.u
  l : x.l = p.l + q.l
  c1 : 0 < q.l → x.c = q.c
  c0 : q.l = 0 → x.c = p.c + q.c
structure Cut (p : Pl) (n0 pos' : Nat) (t t' : St) : Prop where
  now : Shf p ⟨pos', t'.r, t'.u, t'.l, t'.c⟩ ⟨p.b + pos', t.r, t.u, t.l, t.c⟩
  len : t.ps.length = n0 + t'.ps.length
  ps : ∀ (j : Nat) (q : Pl), t'.ps[j]? = some q → ∃ r, t.ps[n0 + j]? = some r ∧ Shf p q r
theorem Cut.step {s : ByteArray} {p : Pl} {n0 pos' : Nat} {t t' : St} (h : Cut p n0 pos' t t') (hp : p.b + pos' < s.size) :
    Cut p n0 (pos' + (Utf8.decode (s.extract p.b s.size) pos').2) (t.step s (p.b + pos') (Utf8.decode s (p.b + pos')).1) (t'.step (s.extract p.b s.size) pos' (Utf8.decode (s.extract p.b s.size) pos').1) := by
  rw [dec_cut s p.b pos' hp]
  obtain ⟨e1, e2, e3⟩ := step_ps s (p.b + pos') (Utf8.decode s (p.b + pos')).1 t
  obtain ⟨e1', e2', e3'⟩ := step_ps (s.extract p.b s.size) pos' (Utf8.decode s (p.b + pos')).1 t'
  have hn := nlw_cut s p.b pos' (Utf8.decode s (p.b + pos')).1 hp
  obtain ⟨now, len, ps⟩ := h
  have hps : ∀ (j : Nat) (q : Pl), (t'.ps ++ [⟨pos', t'.r, t'.u, t'.l, t'.c⟩])[j]? = some q → ∃ r, (t.ps ++ [⟨p.b + pos', t.r, t.u, t.l, t.c⟩])[n0 + j]? = some r ∧ Shf p q r := by
    intro j q hq
    rcases get_snoc hq with ⟨hq, hj⟩ | ⟨hj, rfl⟩
    · obtain ⟨r, h1, h2⟩ := ps j q hq
      exact ⟨r, by rw [List.getElem?_append_left (List.getElem?_eq_some_iff.1 h1).1]; exact h1, h2⟩
    · refine ⟨⟨p.b + pos', t.r, t.u, t.l, t.c⟩, ?_, now⟩
      rw [hj, ← len]
      simp
  refine ⟨⟨Nat.add_assoc _ _ _ ▸ rfl, ?_, ?_, ?_, ?_, ?_⟩, ?_, ?_⟩
  · dsimp only; rw [e2, e2']; have := now.r; dsimp only at this; omega
  · dsimp only; rw [e3, e3']; have := now.u; dsimp only at this; omega
  · have h1 := now.l
    dsimp only at h1 ⊢
    unfold St.step
    by_cases h0 : nlw s (p.b + pos') (Utf8.decode s (p.b + pos')).1 = 0
    · rw [if_pos h0, if_pos (hn.2 h0)]; exact h1
    · rw [if_neg h0, if_neg (fun hh => h0 (hn.1 hh))]; dsimp only; omega
  · have h1 := now.c1
    dsimp only at h1 ⊢
    unfold St.step
    by_cases h0 : nlw s (p.b + pos') (Utf8.decode s (p.b + pos')).1 = 0
    · rw [if_pos h0, if_pos (hn.2 h0)]; dsimp only; intro hl; rw [h1 hl]
    · rw [if_neg h0, if_neg (fun hh => h0 (hn.1 hh))]; dsimp only; intro _; rfl
  · have h1 := now.c0
    dsimp only at h1 ⊢
    unfold St.step
    by_cases h0 : nlw s (p.b + pos') (Utf8.decode s (p.b + pos')).1 = 0
    · rw [if_pos h0, if_pos (hn.2 h0)]; dsimp only; intro hl; rw [h1 hl]; omega
    · rw [if_neg h0, if_neg (fun hh => h0 (hn.1 hh))]; dsimp only; intro hl; omega
  · rw [e1, e1', List.length_append, List.length_append, len]; simp; omega
  · rw [e1, e1']; exact hps
theorem cut_run (s : ByteArray) (p : Pl) (n0 : Nat) (hb : p.b ≤ s.size) : ∀ (f' f pos' : Nat) (t t' : St), s.size ≤ p.b + pos' + f → s.size ≤ p.b + pos' + f' → p.b + pos' ≤ s.size → Cut p n0 pos' t t' →
    Cut p n0 (s.size - p.b) (runFrom s f (p.b + pos') t) (runFrom (s.extract p.b s.size) f' pos' t') := by
  intro f'
  induction f' with
  | zero =>
    intro f pos' t t' h1 h2 h3 hc
    obtain rfl : pos' = s.size - p.b := by omega
    have e : runFrom s f (p.b + (s.size - p.b)) t = t := by
      cases f with
      | zero => rfl
      | succ f => unfold runFrom; rw [if_neg (by omega)]
    rw [e]
    exact hc
  | succ f' ih =>
    intro f pos' t t' h1 h2 h3 hc
    by_cases hlt : p.b + pos' < s.size
    · obtain ⟨g, rfl⟩ : ∃ g, f = g + 1 := ⟨f - 1, by omega⟩
      unfold runFrom
      rw [if_pos hlt, if_pos (by rw [ext_size s p.b hb]; omega)]
      have hd := dec_pos s (p.b + pos')
      have hd2 := dec_le s (p.b + pos') hlt
      have hs := hc.step hlt
      rw [dec_cut s p.b pos' hlt] at hs ⊢
      have := ih g (pos' + (Utf8.decode s (p.b + pos')).2) _ _ (by omega) (by omega) (by omega) hs
      rw [← Nat.add_assoc] at this
      exact this
    · obtain rfl : pos' = s.size - p.b := by omega
      have e : runFrom s f (p.b + (s.size - p.b)) t = t := by
        cases f with
        | zero => rfl
        | succ f => unfold runFrom; rw [if_neg (by omega)]
      have e' : runFrom (s.extract p.b s.size) (f' + 1) (s.size - p.b) t' = t' := by unfold runFrom; rw [if_neg (by rw [ext_size s p.b hb]; omega)]
      rw [e, e']
      exact hc
/-- a cut at the i-th place -/
theorem cut_at (s : ByteArray) {i : Nat} {p : Pl} (hp : (plOf s)[i]? = some p) :
    (∀ (j : Nat) (q : Pl), (plOf (s.extract p.b s.size))[j]? = some q → ∃ r, (plOf s)[i + j]? = some r ∧ Shf p q r) ∧ (fin s).ps.length = i + (fin (s.extract p.b s.size)).ps.length := by
  obtain ⟨f, t, h1, h2, h3, h4, h5, h6, h7, h8⟩ := run_at s s.size 0 St.start rfl (by omega) (by omega) i p (Nat.zero_le _) hp
  have hz := ext_size s p.b h3
  have c0 : Cut p i 0 t St.start := by
    refine ⟨⟨rfl, h5, h6, h7, fun h => ?_, fun _ => h8⟩, h4, fun j q hq => ?_⟩
    · exact absurd h (Nat.lt_irrefl 0)
    · simp [St.start] at hq
  have hc := cut_run s p i h3 (s.extract p.b s.size).size f 0 t St.start (by omega) (by omega) (by omega) c0
  rw [Nat.add_zero, h1] at hc
  have hf : runFrom (s.extract p.b s.size) (s.extract p.b s.size).size 0 St.start = fin (s.extract p.b s.size) := rfl
  rw [hf] at hc
  refine ⟨fun j q hq => ?_, hc.len⟩
  unfold plOf at hq ⊢
  rcases get_snoc hq with ⟨hq, hj⟩ | ⟨hj, rfl⟩
  · obtain ⟨r, h1, h2⟩ := hc.ps j q hq
    exact ⟨r, by rw [List.getElem?_append_left (List.getElem?_eq_some_iff.1 h1).1]; exact h1, h2⟩
  · refine ⟨⟨s.size, (fin s).r, (fin s).u, (fin s).l, (fin s).c⟩, ?_, ?_⟩
    · rw [hj, ← hc.len]; simp
    · have := hc.now
      have e : p.b + (s.size - p.b) = s.size := by omega
      rw [e] at this
      rw [hz]
      exact this
end Go.Proofs.Ytkobfjiadfedlaa
