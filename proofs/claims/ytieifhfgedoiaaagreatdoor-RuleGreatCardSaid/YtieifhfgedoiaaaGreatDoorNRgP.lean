/- The longest phone at a place, by trying all phones: in plain Lean. Conditions: those of each theorem. -/
import Derived.Test.YtieifhfgedoiaaaGreatDoorNPhC
namespace Go.Proofs.YtieifhfgedoiaaaGreatDoor
open Go.RowKit Go.Lib
set_option linter.unusedVariables false
set_option linter.unusedSimpArgs false
def txtL (p : Ph) : List UInt8 := (Utf8.encode (p.r : Int)).toList ++ ((if p.long then [203, 144] else []) ++ (if p.glide = 0 then [] else (Utf8.encode (p.glide : Int)).toList ++ [204, 175]))
def isPh (p : Ph) : Bool := match trOf p.r with
 | none => false
 | some t => decide (p.glide = 0) || (t.vowel && (decide (p.glide = 105) || decide (p.glide = 117)))
def tryP (s : ByteArray) (at_ : Nat) (b : Ph × Nat) (p : Ph) : Ph × Nat := if isPh p && stB s at_ (txtL p) && decide (b.2 < (txtL p).length) then (p, (txtL p).length) else b
def glideN (k : Nat) : Nat := if k % 3 = 0 then 0 else if k % 3 = 1 then 105 else 117
def candK (r k : Nat) : Ph := ⟨r, decide (3 ≤ k), glideN k⟩
def six (r : Nat) : List Ph := (List.range 6).map (candK r)
def tryL (s : ByteArray) (at_ : Nat) (L : List Row) : Ph × Nat := (L.flatMap fun x => six x.r).foldl (tryP s at_) (⟨0, false, 0⟩, 0)
theorem try_max {s : ByteArray} {a : Nat} {x : Ph} (hx : isPh x = true) (hb : stB s a (txtL x) = true) (hpos : 0 < (txtL x).length) :
  ∀ (cs : List Ph) (b : Ph × Nat), (∀ y ∈ cs, isPh y = true → stB s a (txtL y) = true → (txtL y).length ≤ (txtL x).length ∧ ((txtL y).length = (txtL x).length → y = x)) →
   (b = (x, (txtL x).length) ∨ (b.2 < (txtL x).length ∧ x ∈ cs)) → cs.foldl (tryP s a) b = (x, (txtL x).length)
 | [], b, hm, h => by
  rcases h with rfl | ⟨_, h⟩
  ·rfl
  ·simp at h
 | y :: cs, b, hm, h => by
  rw [List.foldl_cons]
  refine try_max hx hb hpos cs _ (fun z hz => hm z (List.mem_cons_of_mem _ hz)) ?_
  have hy := hm y (List.mem_cons_self ..)
  unfold tryP
  rcases h with rfl | ⟨hlt, hmem⟩
  ·left
   rw [if_neg]
   intro hc
   simp only [Bool.and_eq_true, decide_eq_true_eq] at hc
   have := (hy hc.1.1 hc.1.2).1
   omega
  ·by_cases hyx : y = x
   ·subst hyx
    left
    rw [if_pos (by simp only [Bool.and_eq_true, decide_eq_true_eq]; exact ⟨⟨hx, hb⟩, hlt⟩)]
   ·right
    have hxm : x ∈ cs := by
     rcases List.mem_cons.1 hmem with h | h
     ·exact absurd h.symm hyx
     ·exact h
    refine ⟨?_, hxm⟩
    by_cases hc : (isPh y && stB s a (txtL y) && decide (b.2 < (txtL y).length)) = true
    ·rw [if_pos hc]
     simp only [Bool.and_eq_true, decide_eq_true_eq] at hc
     have := hy hc.1.1 hc.1.2
     show (txtL y).length < _
     rcases Nat.lt_or_ge (txtL y).length (txtL x).length with h | h
     ·exact h
     ·exact absurd (this.2 (by omega)) hyx
    ·rw [if_neg hc]; exact hlt
theorem try_none {s : ByteArray} {a : Nat} : ∀ (cs : List Ph) (b : Ph × Nat), (∀ y ∈ cs, isPh y = true → stB s a (txtL y) = true → False) → cs.foldl (tryP s a) b = b
 | [], b, hm => rfl
 | y :: cs, b, hm => by
  rw [List.foldl_cons]
  have : tryP s a b y = b := by
   unfold tryP
   rw [if_neg]
   intro hc
   simp only [Bool.and_eq_true, decide_eq_true_eq] at hc
   exact hm y (List.mem_cons_self ..) hc.1.1 hc.1.2
  rw [this]
  exact try_none cs b (fun z hz => hm z (List.mem_cons_of_mem _ hz))
theorem stB_app (s : ByteArray) (p : Nat) (x y : List UInt8) : stB s p (x ++ y) = (stB s p x && stB s (p + x.length) y) := by
 unfold stB
 rw [List.length_append]
 by_cases h : p + (x.length + y.length) ≤ s.size
 ·have h1 : p + x.length ≤ s.size := by omega
  have h2 : p + x.length + y.length ≤ s.size := by omega
  rw [decide_eq_true h, decide_eq_true h1, decide_eq_true h2, Bool.true_and, Bool.true_and, Bool.true_and]
  rw [extract_toList, extract_toList, extract_toList]
  have e1 : p + (x.length + y.length) - p = x.length + y.length := by omega
  have e2 : p + x.length - p = x.length := by omega
  have e3 : p + x.length + y.length - (p + x.length) = y.length := by omega
  rw [e1, e2, e3, List.take_add, List.drop_drop]
  have hl : ((s.data.toList.drop p).take x.length).length = x.length := by
   rw [List.length_take, List.length_drop]
   have : s.data.toList.length = s.size := by simp
   omega
  rw [Bool.eq_iff_iff, beq_iff_eq, Bool.and_eq_true, beq_iff_eq, beq_iff_eq]
  constructor
  ·intro he
   exact List.append_inj he hl
  ·rintro ⟨h1, h2⟩
   rw [h1, h2]
 ·rw [decide_eq_false h, Bool.false_and]
  by_cases h1 : p + x.length ≤ s.size
  ·have h2 : ¬ p + x.length + y.length ≤ s.size := by omega
   rw [decide_eq_false h2, Bool.false_and, Bool.and_false]
  ·rw [decide_eq_false h1, Bool.false_and, Bool.false_and]
theorem stB_nil (s : ByteArray) (p : Nat) (h : p ≤ s.size) : stB s p [] = true := by
 unfold stB
 rw [List.length_nil, Nat.add_zero, decide_eq_true h, Bool.true_and, extract_toList, Nat.sub_self, List.take_zero]
 rfl
theorem stB_two {s : ByteArray} {p : Nat} {x : UInt8} {l : List UInt8} (h : stB s p (x :: l) = true) : p < s.size ∧ s.get! p = x := by
 have h1 := stB_app s p [x] l
 rw [List.singleton_append, h] at h1
 have h2 : stB s p [x] = true := by
  cases hh : stB s p [x]
  ·rw [hh] at h1; simp at h1
  ·rfl
 unfold stB at h2
 rw [Bool.and_eq_true, decide_eq_true_eq, beq_iff_eq, extract_toList, List.length_singleton, Nat.add_sub_cancel_left] at h2
 have hp : p < s.size := by omega
 refine ⟨hp, ?_⟩
 have hd : s.data.toList.drop p = (s.data.toList[p]'(by simpa using hp)) :: s.data.toList.drop (p + 1) := List.drop_eq_getElem_cons (by simpa using hp)
 rw [hd] at h2
 have := h2.2
 simp at this
 rw [← this, ← getD_get!']
 simp
 rw [Array.getElem?_eq_getElem (show p < s.data.size from hp)]
 rfl
theorem stB_one (s : ByteArray) (p : Nat) (x : UInt8) : stB s p [x] = decide (p < s.size ∧ s.get! p = x) := by
 by_cases hp : p < s.size
 ·unfold stB
  rw [extract_toList, List.length_singleton, Nat.add_sub_cancel_left]
  have hd : s.data.toList.drop p = (s.data.toList[p]'(by simpa using hp)) :: s.data.toList.drop (p + 1) := List.drop_eq_getElem_cons (by simpa using hp)
  have hg : s.data.toList[p]'(by simpa using hp) = s.get! p := by
   rw [← getD_get!' s p]
   simp
   rw [Array.getElem?_eq_getElem (show p < s.data.size from hp)]
   rfl
  rw [hd, hg, Bool.eq_iff_iff]
  simp [hp]
  omega
 ·unfold stB
  rw [List.length_singleton, decide_eq_false (by omega), Bool.false_and, decide_eq_false (fun h => hp h.1)]
theorem stB_cons (s : ByteArray) (p : Nat) (x : UInt8) (l : List UInt8) : stB s p (x :: l) = (decide (p < s.size ∧ s.get! p = x) && stB s (p + 1) l) := by
 have := stB_app s p [x] l
 rw [List.singleton_append, stB_one] at this
 exact this
theorem stB_le' {s : ByteArray} {p : Nat} {t : List UInt8} (h : stB s p t = true) : p + t.length ≤ s.size := by
 unfold stB at h
 rw [Bool.and_eq_true, decide_eq_true_eq] at h
 exact h.1
theorem enc_1 {r : Nat} (h : r < 128) : (Utf8.encode (r : Int)).toList = [UInt8.ofNat r] := by
 have hv : Utf8.valid (r : Int) = true := by simp [Utf8.valid]; omega
 rw [toList_data]
 unfold Utf8.encode
 simp only [hv, if_true, Int.toNat_natCast]
 rw [if_pos h]
theorem enc_2 {r : Nat} (h : 128 ≤ r) (h2 : r < 2048) : (Utf8.encode (r : Int)).toList = [UInt8.ofNat (192 + r / 64), UInt8.ofNat (128 + r % 64)] := by
 have hv : Utf8.valid (r : Int) = true := by simp [Utf8.valid]; omega
 rw [toList_data]
 unfold Utf8.encode
 simp only [hv, if_true, Int.toNat_natCast]
 rw [if_neg (by omega), if_pos h2]
theorem u8_eq {a : UInt8} {n : Nat} (hn : n < 256) : a = UInt8.ofNat n ↔ a.toNat = n := by
 constructor
 ·rintro rfl; simp [Nat.mod_eq_of_lt hn]
 ·intro h; exact u8_toNat_eq h hn
theorem enc_st {s : ByteArray} {p r : Nat} (hp : p < s.size) (h2 : r < 2048) : stB s p (Utf8.encode (r : Int)).toList = decide (Utf8.decode s p = (r, (Utf8.encode (r : Int)).toList.length)) := by
 rw [Bool.eq_iff_iff, decide_eq_true_eq, decode_at]
 have l0 := UInt8.toNat_lt (s.get! p)
 have l1 := UInt8.toNat_lt (s.get! (p + 1))
 by_cases h1 : r < 128
 ·rw [enc_1 h1, stB_one, decide_eq_true_eq, u8_eq (by omega)]
  show _ ↔ _ = (r, 1)
  constructor
  ·rintro ⟨_, h⟩
   unfold decodeN
   rw [if_pos (by omega), h]
  ·intro h
   refine ⟨hp, ?_⟩
   rcases decodeN_shape (s.size - p) (s.get! p).toNat (s.get! (p + 1)).toNat (s.get! (p + 2)).toNat (s.get! (p + 3)).toNat with ⟨_, e⟩ | ⟨a, b, c, d, e⟩ | ⟨a, b, c, c2, d, d2, e⟩ | ⟨a, b, c, c2, c3, d, d2, e⟩ | e <;> rw [e] at h <;> injection h with ha hb <;> omega
 ·have hr := Nat.not_lt.1 h1
  rw [enc_2 hr h2, stB_cons, stB_one, Bool.and_eq_true, decide_eq_true_eq, decide_eq_true_eq, u8_eq (by omega), u8_eq (by omega)]
  show _ ↔ _ = (r, 2)
  constructor
  ·rintro ⟨⟨_, h⟩, hq, h'⟩
   unfold decodeN
   rw [if_neg (by omega), if_pos (by omega), if_pos (by omega), h, h', show (192 + r / 64) % 32 * 64 + (128 + r % 64) % 64 = r by omega]
  ·intro h
   rcases decodeN_shape (s.size - p) (s.get! p).toNat (s.get! (p + 1)).toNat (s.get! (p + 2)).toNat (s.get! (p + 3)).toNat with ⟨_, e⟩ | ⟨a, b, c, d, e⟩ | ⟨a, b, c, c2, d, d2, e⟩ | ⟨a, b, c, c2, c3, d, d2, e⟩ | e <;> rw [e] at h <;> injection h with ha hb <;> omega
theorem len_list (b : ByteArray) : b.toList.length = b.size := by rw [toList_data]; simp
theorem enc_len {r : Nat} : (Utf8.encode (r : Int)).toList.length = (Utf8.encode (r : Int)).size := len_list _
theorem DecAt.wd {s : ByteArray} {p a b : Nat} (h : DecAt s p a b) (hn : a ≠ 65533) : b = (Utf8.encode (a : Int)).size := by
 cases h with
 | rune _ _ e1 e2 e3 e4 e5 e6 e7 => exact e3.symm
 | lost h1 h2 => exact absurd rfl hn
 | broken h0 h1 => exact absurd rfl hn
theorem enc_wd2 {s : ByteArray} {p r : Nat} (hp : p < s.size) (h2 : r < 2048) (hr : rnN s p = r) : Utf8.decode s p = (r, (Utf8.encode (r : Int)).toList.length) ∧ wdN s p = (Utf8.encode (r : Int)).toList.length := by
 have hw := (dec_at s p hp).wd (fun h => by
  have : rnN s p = 65533 := h
  omega)
 have e : (Utf8.decode s p).1 = r := hr
 rw [e] at hw
 rw [enc_len, ← hw]
 exact ⟨by rw [← e], rfl⟩
theorem rows0_small : ∀ x ∈ rows0, x.r < 2048 ∧ 0 < x.r := by decide +kernel
theorem rows0_nodup : (rows0.map (·.r)).Nodup := by decide +kernel
theorem trOf_mem (r : Nat) (t : Tr) : trOf r = some t ↔ (⟨r, t⟩ : Row) ∈ rows0 := trIn_mem rows0 rows0_nodup r t
theorem six_mem {r : Nat} {y : Ph} (h : y ∈ six r) : y.r = r ∧ (y.glide = 0 ∨ y.glide = 105 ∨ y.glide = 117) := by
 unfold six at h
 obtain ⟨k, hk, rfl⟩ := List.mem_map.1 h
 refine ⟨rfl, ?_⟩
 show glideN k = 0 ∨ glideN k = 105 ∨ glideN k = 117
 unfold glideN
 split
 ·exact .inl rfl
 ·split
  ·exact .inr (.inl rfl)
  ·exact .inr (.inr rfl)
theorem mem_six (r : Nat) (l : Bool) {g : Nat} (h : g = 0 ∨ g = 105 ∨ g = 117) : (⟨r, l, g⟩ : Ph) ∈ six r := by
 unfold six
 refine List.mem_map.2 ?_
 cases l <;> rcases h with rfl | rfl | rfl
 ·exact ⟨0, by decide, rfl⟩
 ·exact ⟨1, by decide, rfl⟩
 ·exact ⟨2, by decide, rfl⟩
 ·exact ⟨3, by decide, rfl⟩
 ·exact ⟨4, by decide, rfl⟩
 ·exact ⟨5, by decide, rfl⟩
theorem enc105 : (Utf8.encode ((105 : Nat) : Int)).toList = [105] := enc_1 (by omega)
theorem enc117 : (Utf8.encode ((117 : Nat) : Int)).toList = [117] := enc_1 (by omega)
theorem txt_st {s : ByteArray} {p r : Nat} {l : Bool} {g : Nat} (hp : p < s.size) (h2 : r < 2048) (hr : rnN s p = r) (hg : g = 0 ∨ g = 105 ∨ g = 117) :
  stB s p (txtL ⟨r, l, g⟩) = ((!l || stB s (p + wdN s p) [203, 144]) && (decide (g = 0) || stB s (p + wdN s p + (if l then 2 else 0)) [UInt8.ofNat g, 204, 175])) ∧
  (txtL ⟨r, l, g⟩).length = wdN s p + (if l then 2 else 0) + (if g = 0 then 0 else 3) := by
 obtain ⟨h1, h3⟩ := enc_wd2 hp h2 hr
 have hle := wdN_pos hp
 unfold txtL
 dsimp only
 rw [stB_app, stB_app, enc_st hp h2, decide_eq_true h1, Bool.true_and, ← h3, List.length_append, List.length_append, ← h3]
 have hn := stB_nil s (p + wdN s p) hle.2.2
 cases l
 ·rcases hg with rfl | rfl | rfl
  ·simp [hn]
  ·rw [enc105]; simp [hn]
  ·rw [enc117]; simp [hn]
 ·rcases hg with rfl | rfl | rfl
  ·cases hs : stB s (p + wdN s p) [203, 144]
   ·simp [hs]
   ·have hq : p + wdN s p + 2 ≤ s.size := stB_le' hs
    simp [hs, stB_nil s (p + wdN s p + 2) hq]
  ·rw [enc105]; simp [Nat.add_assoc]
  ·rw [enc117]; simp [Nat.add_assoc]
theorem next_plain {s : ByteArray} {p : Nat} {L : List Row} (hL : L.Perm rows0) (hp : p < s.size) : tryL s p L = (match phAt s p with | some x => x | none => (⟨0, false, 0⟩, 0)) := by
 unfold tryL phAt
 have hmem : ∀ y ∈ L.flatMap fun x => six x.r, isPh y = true → stB s p (txtL y) = true → y.r = rnN s p ∧ y ∈ six (rnN s p) ∧ y.r < 2048 := by
  intro y hy h1 h2
  obtain ⟨x, hx, hy⟩ := List.mem_flatMap.1 hy
  have hr := (six_mem hy).1
  have hsm := rows0_small x (hL.mem_iff.1 hx)
  unfold txtL at h2
  rw [stB_app, Bool.and_eq_true, hr, enc_st hp hsm.1, decide_eq_true_eq] at h2
  have : rnN s p = x.r := by unfold rnN; rw [h2.1]
  rw [this, hr]
  exact ⟨rfl, hy, hsm.1⟩
 cases ht : trOf (rnN s p) with
 | none =>
  refine try_none _ _ (fun y hy h1 h2 => ?_)
  have := (hmem y hy h1 h2).1
  unfold isPh at h1
  rw [this, ht] at h1
  exact absurd h1 (by simp)
 | some t =>
  have hx := (trOf_mem _ _).1 ht
  have hsm := (rows0_small _ hx).1
  have hin : ∀ l g, (g = 0 ∨ g = 105 ∨ g = 117) → (⟨rnN s p, l, g⟩ : Ph) ∈ L.flatMap fun x => six x.r := fun l g hg => List.mem_flatMap.2 ⟨_, hL.mem_iff.2 hx, mem_six _ l hg⟩
  have hisG : ∀ l g, isPh ⟨rnN s p, l, g⟩ = (decide (g = 0) || (t.vowel && (decide (g = 105) || decide (g = 117)))) := fun l g => by unfold isPh; dsimp only; rw [ht]
  have hT := fun l g (hg : g = 0 ∨ g = 105 ∨ g = 117) => txt_st (s := s) (p := p) (r := rnN s p) (l := l) (g := g) hp hsm rfl hg
  have hle := wdN_pos hp
  dsimp only
  have done : ∀ l g, (g = 0 ∨ g = 105 ∨ g = 117) → isPh ⟨rnN s p, l, g⟩ = true → stB s p (txtL ⟨rnN s p, l, g⟩) = true →
    (∀ l' g', (g' = 0 ∨ g' = 105 ∨ g' = 117) → isPh ⟨rnN s p, l', g'⟩ = true → stB s p (txtL ⟨rnN s p, l', g'⟩) = true → (txtL ⟨rnN s p, l', g'⟩).length ≤ (txtL ⟨rnN s p, l, g⟩).length ∧ ((txtL ⟨rnN s p, l', g'⟩).length = (txtL ⟨rnN s p, l, g⟩).length → l' = l ∧ g' = g)) →
    (L.flatMap fun x => six x.r).foldl (tryP s p) (⟨0, false, 0⟩, 0) = (⟨rnN s p, l, g⟩, (txtL ⟨rnN s p, l, g⟩).length) := by
   intro l g hg h1 h2 h3
   have hpos : 0 < (txtL ⟨rnN s p, l, g⟩).length := by rw [(hT l g hg).2]; omega
   refine try_max h1 h2 hpos _ _ (fun y hy a1 a2 => ?_) (.inr ⟨hpos, hin l g hg⟩)
   obtain ⟨b1, b2, _⟩ := hmem y hy a1 a2
   obtain ⟨yr, yl, yg⟩ := y
   cases b1
   obtain ⟨c1, c2⟩ := h3 yl yg (six_mem b2).2 a1 a2
   exact ⟨c1, fun e => by obtain ⟨rfl, rfl⟩ := c2 e; rfl⟩
  have bI : ∀ (q : Nat) (x y : UInt8) (l l' : List UInt8), x ≠ y → stB s q (x :: l) = true → stB s q (y :: l') = true → False := fun q x y l l' hne h1 h2 => hne ((stB_two h1).2.symm.trans (stB_two h2).2)
  cases hl : stB s (p + wdN s p) [203, 144] with
  | false =>
   simp only [Bool.false_eq_true, if_false]
   cases hv : t.vowel with
   | false =>
    rw [if_pos rfl]
    have := done false 0 (.inl rfl) (by rw [hisG]; rfl) (by rw [(hT false 0 (.inl rfl)).1]; rfl) (fun l' g' hg' a1 a2 => by
     rw [(hT l' g' hg').1, Bool.and_eq_true] at a2
     rw [hisG, hv, Bool.false_and, Bool.or_false, decide_eq_true_eq] at a1
     subst a1
     cases l'
     ·exact ⟨Nat.le_refl _, fun _ => ⟨rfl, rfl⟩⟩
     ·rw [hl] at a2; exact absurd a2.1 (by simp))
    rw [this, (hT false 0 (.inl rfl)).2]; rfl
   | true =>
    rw [if_neg (by simp)]
    cases hi : stB s (p + wdN s p) [105, 204, 175] with
    | true =>
     have := done false 105 (.inr (.inl rfl)) (by rw [hisG, hv]; rfl) (by rw [(hT false 105 (.inr (.inl rfl))).1]; simp; exact hi) (fun l' g' hg' a1 a2 => by
      rw [(hT l' g' hg').1, Bool.and_eq_true] at a2
      rw [(hT l' g' hg').2, (hT false 105 (.inr (.inl rfl))).2]
      cases l'
      ·rcases hg' with rfl | rfl | rfl
       ·simp <;> omega
       ·simp <;> omega
       ·exfalso; have := a2.2; simp at this; exact bI _ 105 117 _ _ (by decide) hi this
      ·rw [hl] at a2; exact absurd a2.1 (by simp))
     rw [this, (hT false 105 (.inr (.inl rfl))).2]; rfl
    | false =>
     simp only [Bool.false_eq_true, if_false]
     cases hu : stB s (p + wdN s p) [117, 204, 175] with
     | true =>
      have := done false 117 (.inr (.inr rfl)) (by rw [hisG, hv]; rfl) (by rw [(hT false 117 (.inr (.inr rfl))).1]; simp; exact hu) (fun l' g' hg' a1 a2 => by
       rw [(hT l' g' hg').1, Bool.and_eq_true] at a2
       rw [(hT l' g' hg').2, (hT false 117 (.inr (.inr rfl))).2]
       cases l'
       ·rcases hg' with rfl | rfl | rfl
        ·simp <;> omega
        ·exfalso; have := a2.2; simp at this; exact bI _ 105 117 _ _ (by decide) this hu
        ·simp <;> omega
       ·rw [hl] at a2; exact absurd a2.1 (by simp))
      rw [this, (hT false 117 (.inr (.inr rfl))).2]; rfl
     | false =>
      have := done false 0 (.inl rfl) (by rw [hisG]; rfl) (by rw [(hT false 0 (.inl rfl)).1]; rfl) (fun l' g' hg' a1 a2 => by
       rw [(hT l' g' hg').1, Bool.and_eq_true] at a2
       cases l'
       ·rcases hg' with rfl | rfl | rfl
        ·exact ⟨Nat.le_refl _, fun _ => ⟨rfl, rfl⟩⟩
        ·exfalso; have := a2.2; simp at this; have h' : stB s (p + wdN s p) [105, 204, 175] = true := this; rw [hi] at h'; cases h'
        ·exfalso; have := a2.2; simp at this; have h' : stB s (p + wdN s p) [117, 204, 175] = true := this; rw [hu] at h'; cases h'
       ·rw [hl] at a2; exact absurd a2.1 (by simp))
      rw [this, (hT false 0 (.inl rfl)).2]; rfl
  | true =>
   simp only [if_true]
   have noS : ∀ g, g = 105 ∨ g = 117 → stB s (p + wdN s p) [UInt8.ofNat g, 204, 175] = true → False := fun g hg h => by
    rcases hg with rfl | rfl
    ·exact bI _ 203 105 _ _ (by decide) hl h
    ·exact bI _ 203 117 _ _ (by decide) hl h
   cases hv : t.vowel with
   | false =>
    rw [if_pos rfl]
    have := done true 0 (.inl rfl) (by rw [hisG]; rfl) (by rw [(hT true 0 (.inl rfl)).1, hl]; rfl) (fun l' g' hg' a1 a2 => by
     rw [hisG, hv, Bool.false_and, Bool.or_false, decide_eq_true_eq] at a1
     subst a1
     rw [(hT l' 0 hg').2, (hT true 0 (.inl rfl)).2]
     cases l' <;> simp)
    rw [this, (hT true 0 (.inl rfl)).2]; rfl
   | true =>
    rw [if_neg (by simp)]
    cases hi : stB s (p + (wdN s p + 2)) [105, 204, 175] with
    | true =>
     have := done true 105 (.inr (.inl rfl)) (by rw [hisG, hv]; rfl) (by rw [(hT true 105 (.inr (.inl rfl))).1, hl]; simp; exact hi) (fun l' g' hg' a1 a2 => by
      rw [(hT l' g' hg').1, Bool.and_eq_true] at a2
      rw [(hT l' g' hg').2, (hT true 105 (.inr (.inl rfl))).2]
      cases l'
      ·rcases hg' with rfl | rfl | rfl
       ·simp <;> omega
       ·simp <;> omega
       ·simp <;> omega
      ·rcases hg' with rfl | rfl | rfl
       ·simp <;> omega
       ·simp <;> omega
       ·exfalso; have := a2.2; simp at this; exact bI _ 105 117 _ _ (by decide) hi this)
     rw [this, (hT true 105 (.inr (.inl rfl))).2]; rfl
    | false =>
     simp only [Bool.false_eq_true, if_false]
     cases hu : stB s (p + (wdN s p + 2)) [117, 204, 175] with
     | true =>
      have := done true 117 (.inr (.inr rfl)) (by rw [hisG, hv]; rfl) (by rw [(hT true 117 (.inr (.inr rfl))).1, hl]; simp; exact hu) (fun l' g' hg' a1 a2 => by
       rw [(hT l' g' hg').1, Bool.and_eq_true] at a2
       rw [(hT l' g' hg').2, (hT true 117 (.inr (.inr rfl))).2]
       cases l'
       ·rcases hg' with rfl | rfl | rfl
        ·simp <;> omega
        ·simp <;> omega
        ·simp <;> omega
       ·rcases hg' with rfl | rfl | rfl
        ·simp <;> omega
        ·exfalso; have := a2.2; simp at this; exact bI _ 105 117 _ _ (by decide) this hu
        ·simp)
      rw [this, (hT true 117 (.inr (.inr rfl))).2]; rfl
     | false =>
      have := done true 0 (.inl rfl) (by rw [hisG]; rfl) (by rw [(hT true 0 (.inl rfl)).1, hl]; rfl) (fun l' g' hg' a1 a2 => by
       rw [(hT l' g' hg').1, Bool.and_eq_true] at a2
       cases l'
       ·rcases hg' with rfl | rfl | rfl
        ·rw [(hT false 0 (.inl rfl)).2, (hT true 0 (.inl rfl)).2]; simp <;> omega
        ·exfalso; have := a2.2; simp at this; exact noS 105 (.inl rfl) this
        ·exfalso; have := a2.2; simp at this; exact noS 117 (.inr rfl) this
       ·rcases hg' with rfl | rfl | rfl
        ·exact ⟨Nat.le_refl _, fun _ => ⟨rfl, rfl⟩⟩
        ·exfalso; have := a2.2; simp at this; have h' : stB s (p + (wdN s p + 2)) [105, 204, 175] = true := this; rw [hi] at h'; cases h'
        ·exfalso; have := a2.2; simp at this; have h' : stB s (p + (wdN s p + 2)) [117, 204, 175] = true := this; rw [hu] at h'; cases h')
      rw [this, (hT true 0 (.inl rfl)).2]; rfl
end Go.Proofs.YtieifhfgedoiaaaGreatDoor
