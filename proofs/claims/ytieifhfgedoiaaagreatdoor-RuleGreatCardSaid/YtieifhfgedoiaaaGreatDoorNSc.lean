/- What rules say of a word, in plain Lean: pieces, contexts, the first rule that fits, sounds. No program in sight. Conditions: those of each theorem. -/
import Derived.Test.YtieifhfgedoiaaaGreatDoorNSpB
import Derived.Test.YtieifhfgedoiaaaGreatDoorNFa
import Derived.Test.YtieifhfgedoiaaaGreatDoorNRi
import Derived.Test.YtieifhfgedoiaaaGreatDoorNRk
namespace Go.Proofs.YtieifhfgedoiaaaGreatDoor
open Go.RowKit Go.Lib
set_option linter.unusedVariables false
set_option linter.unusedSimpArgs false
def wordAt (s : ByteArray) (p : Nat) : One := if isBr s p then ⟨0, true, byteN s p⟩ else ⟨(lowI (rnN s p)).toNat, false, 0⟩
def wordL (s : ByteArray) : List One := (posL s 0).map (wordAt s)
def hasB (x : Rs) (i : Item) (u : One) : Bool :=
 if i.name = 0 then i.u == u else match x.cls (i.name - 65) with
 | some y => y.2.contains u
 | none => false
def leftB (x : Rs) (l : List Item) (w : List One) (k : Nat) : Nat → Bool
 | 0 => true
 | n + 1 => leftB x l w k n && (match l[n]?, w[k + n]? with
  | some i, some u => hasB x i u
  | _, _ => false)
def fitB (x : Rs) (u : Rl) (w : List One) (k : Nat) : Bool :=
 decide (u.left.length ≤ k) && decide (k + u.body.length + u.right.length ≤ w.length) && (!u.begins || decide (k = u.left.length)) && (!u.ends || decide (k + u.body.length + u.right.length = w.length))
  && ((w.drop k).take u.body.length == u.body) && leftB x u.left w (k - u.left.length) u.left.length && leftB x u.right w (k + u.body.length) u.right.length
def firstF (x : Rs) (w : List One) (k : Nat) : List Rl → Nat → Nat
 | [], _ => 0
 | u :: r, n => if fitB x u w k then n + 1 else firstF x w k r (n + 1)
def firstN (x : Rs) (w : List One) (k : Nat) : Nat := firstF x w k x.rules 0
end Go.Proofs.YtieifhfgedoiaaaGreatDoor
/- What rules that were read keep: their bounds. No program in sight. Conditions: those of each theorem. -/
namespace Go.Proofs.YtieifhfgedoiaaaGreatDoor
open Go.RowKit Go.Lib
set_option linter.unusedVariables false
set_option linter.unusedSimpArgs false
def OneB (u : One) : Prop := u.r ≤ 1114111 ∧ u.b ≤ 255
def ItemG (said : Nat → Bool) (i : Item) : Prop := OneB i.u ∧ (i.name = 0 ∨ (65 ≤ i.name ∧ i.name ≤ 90 ∧ said (i.name - 65) = true))
structure RlG (said : Nat → Bool) (u : Rl) : Prop where
 l : ∀ i ∈ u.left, ItemG said i
 r : ∀ i ∈ u.right, ItemG said i
 b : ∀ o ∈ u.body, OneB o
 ln : u.left.length ≤ 64
 rn : u.right.length ≤ 64
 b1 : 1 ≤ u.body.length
 bn : u.body.length ≤ 64
 pn : u.phones.length ≤ 128
structure RsG (x : Rs) : Prop where
 r : ∀ u ∈ x.rules, RlG x.said u
 c : ∀ n y, x.cls n = some y → y.2.length ≤ 64 ∧ (∀ o ∈ y.2, OneB o) ∧ n < 26
theorem oneB_none : OneB One.none := ⟨by decide, by decide⟩
theorem piecesR_good {s : ByteArray} : ∀ (k p : Nat) (acc l : List One) (q : Nat), s.size - p = k → piecesR s p acc = .ok l q → acc.length ≤ 64 → (∀ o ∈ acc, OneB o) → 1 ≤ l.length ∧ l.length ≤ 64 ∧ ∀ o ∈ l, OneB o := by
 intro k
 induction k using Nat.strongRecOn with
 | ind k ih =>
  intro p acc l q hk h ha hb
  cases hp : plB s p
  ·rw [piecesR_no hp] at h
   by_cases h0 : acc.length = 0
   ·rw [if_pos h0] at h; cases h
   ·rw [if_neg h0] at h
    injection h with h1 h2
    subst h1
    exact ⟨by omega, ha, hb⟩
  ·by_cases h6 : acc.length = 64
   ·rw [piecesR_long hp h6] at h; cases h
   ·rw [piecesR_more hp h6] at h
    have h1 := plB_lt hp
    have h2 := wdN_pos h1
    refine ih _ (by omega) _ _ _ _ rfl h (by simp; omega) (fun o ho => ?_)
    rcases List.mem_append.1 ho with h3 | h3
    ·exact hb o h3
    ·rw [List.mem_singleton] at h3; subst h3; exact one_bd hp
theorem itemsR_good {s : ByteArray} {said : Nat → Bool} : ∀ (k p : Nat) (acc l : List Item) (q : Nat), s.size - p = k → itemsR said s p acc = .ok l q → acc.length ≤ 64 → (∀ o ∈ acc, ItemG said o) → l.length ≤ 64 ∧ ∀ o ∈ l, ItemG said o := by
 intro k
 induction k using Nat.strongRecOn with
 | ind k ih =>
  intro p acc l q hk h ha hb
  cases hn : nameB s p
  ·cases hp : plB s p
   ·rw [itemsR_end hn hp] at h
    injection h with h1 h2
    subst h1
    exact ⟨ha, hb⟩
   ·by_cases h6 : acc.length = 64
    ·rw [itemsR_long hn hp h6] at h; cases h
    ·rw [itemsR_more hn hp h6] at h
     have h1 := plB_lt hp
     have h2 := wdN_pos h1
     refine ih _ (by omega) _ _ _ _ rfl h (by simp; omega) (fun o ho => ?_)
     rcases List.mem_append.1 ho with h3 | h3
     ·exact hb o h3
     ·rw [List.mem_singleton] at h3; subst h3; exact ⟨one_bd hp, .inl rfl⟩
  ·obtain ⟨h1, h2, h3⟩ := of_decide_eq_true hn
   cases hs : said (byteN s p - 65)
   ·rw [itemsR_unsaid hn hs] at h; cases h
   ·by_cases h6 : acc.length = 64
    ·rw [itemsR_nlong hn hs h6] at h; cases h
    ·rw [itemsR_name hn hs h6] at h
     refine ih _ (by omega) _ _ _ _ rfl h (by simp; omega) (fun o ho => ?_)
     rcases List.mem_append.1 ho with h4 | h4
     ·exact hb o h4
     ·rw [List.mem_singleton] at h4; subst h4; exact ⟨oneB_none, .inr ⟨h2, h3, hs⟩⟩
theorem phR_good {s : ByteArray} {p q : Nat} {l : List Ph} (h : phR s p = .ok l q) : l.length ≤ 128 := by
 unfold phR at h
 dsimp only at h
 cases hx : (phsR s p []).1[128]? with
 | some x => rw [hx] at h; cases h
 | none =>
  rw [hx] at h
  dsimp only at h
  by_cases hs : (phsR s p []).2 < s.size
  ·rw [if_pos hs] at h; cases h
  ·rw [if_neg hs] at h
   injection h with h1 h2
   rw [← h1, List.length_map]
   exact List.getElem?_eq_none_iff.1 hx
theorem Res.bind_ok {α β : Type} {x : Res α} {f : α → Nat → Res β} {b : β} {q : Nat} (h : x.bind f = .ok b q) : ∃ a p, x = .ok a p ∧ f a p = .ok b q := by
 cases x with
 | ok a p => exact ⟨a, p, rfl, h⟩
 | bad e p => cases h
theorem saysR_good {s : ByteArray} {p q : Nat} {l : List Ph} (h : saysR s p = .ok l q) : l.length ≤ 128 := by
 unfold saysR at h
 by_cases h0 : p = s.size
 ·rw [if_pos h0] at h; injection h with h1 h2; subst h1; simp
 ·rw [if_neg h0] at h
  obtain ⟨a, p', h1, h2⟩ := Res.bind_ok h
  by_cases h3 : p' = s.size
  ·rw [if_pos h3] at h2; cases h2
  ·rw [if_neg h3] at h2; exact phR_good h2
theorem partsR_good {said : Nat → Bool} {s : ByteArray} {u : Rl} {q : Nat} (h : partsR said s = .ok u q) : RlG said u ∧ u.line = s := by
 rw [partsR_eq] at h
 obtain ⟨l, p1, h1, h⟩ := Res.bind_ok h
 obtain ⟨b, p2, h2, h⟩ := Res.bind_ok h
 obtain ⟨r, p3, h3, h⟩ := Res.bind_ok h
 obtain ⟨x, p4, h4, h⟩ := Res.bind_ok h
 injection h with h5 h6
 subst h5
 obtain ⟨g1, g2⟩ := itemsR_good _ _ _ _ _ rfl h1 (by simp) (by simp)
 obtain ⟨g3, g4⟩ := itemsR_good _ _ _ _ _ rfl h3 (by simp) (by simp)
 unfold bodyR at h2
 obtain ⟨_, p5, _, h2⟩ := Res.bind_ok h2
 obtain ⟨l2, p6, h7, h2⟩ := Res.bind_ok h2
 obtain ⟨_, p7, _, h8⟩ := Res.bind_ok h2
 injection h8 with h8 _
 subst h8
 obtain ⟨g5, g6, g7⟩ := piecesR_good _ _ _ _ _ rfl h7 (by simp) (by simp)
 unfold endR at h4
 obtain ⟨_, p8, _, h4⟩ := Res.bind_ok h4
 exact ⟨⟨g2, g4, g7, g1, g3, g5, g6, saysR_good h4⟩, rfl⟩
theorem ItemG.up {a b : Nat → Bool} (h : ∀ n, a n = true → b n = true) {i : Item} (g : ItemG a i) : ItemG b i :=
 ⟨g.1, g.2.imp id fun ⟨h1, h2, h3⟩ => ⟨h1, h2, h _ h3⟩⟩
theorem RlG.up {a b : Nat → Bool} (h : ∀ n, a n = true → b n = true) {u : Rl} (g : RlG a u) : RlG b u :=
 ⟨fun i hi => (g.l i hi).up h, fun i hi => (g.r i hi).up h, g.b, g.ln, g.rn, g.b1, g.bn, g.pn⟩
theorem addC_said {x : Rs} {s : ByteArray} {l : List One} (n : Nat) (h : x.said n = true) : (x.addC s l).said n = true := by
 unfold Rs.said Rs.addC at *
 dsimp only
 by_cases h1 : n = byteN s 0 - 65
 ·rw [if_pos h1]; rfl
 ·rw [if_neg h1]; exact h
theorem classR_good {x : Rs} {s : ByteArray} {l : List One} {q : Nat} (h : classR x s = .ok l q) : l.length ≤ 64 ∧ ∀ o ∈ l, OneB o := by
 unfold classR at h
 by_cases h0 : x.said (byteN s 0 - 65) = true
 ·rw [if_pos h0] at h; cases h
 ·rw [if_neg h0] at h
  obtain ⟨_, p1, _, h⟩ := Res.bind_ok h
  obtain ⟨_, p2, _, h⟩ := Res.bind_ok h
  obtain ⟨_, p3, _, h⟩ := Res.bind_ok h
  obtain ⟨l2, p4, h1, h⟩ := Res.bind_ok h
  by_cases h2 : p4 < s.size
  ·rw [if_pos h2] at h; cases h
  ·rw [if_neg h2] at h
   injection h with h3 _
   subst h3
   obtain ⟨g1, g2, g3⟩ := piecesR_good _ _ _ _ _ rfl h1 (by simp) (by simp)
   exact ⟨g2, g3⟩
theorem lineR_good {x y : Rs} {s : ByteArray} (h : lineR x s = .ok y) (g : RsG x) : RsG y := by
 unfold lineR at h
 by_cases h0 : s.size = 0 ∨ byteN s 0 = 59
 ·rw [if_pos h0] at h; injection h with h; subst h; exact g
 ·rw [if_neg h0] at h
  by_cases h1 : isC s = true
  ·rw [if_pos h1] at h
   unfold clsR at h
   cases hc : classR x s with
   | bad e p => rw [hc] at h; cases h
   | ok l p =>
    rw [hc] at h
    injection h with h
    subst h
    obtain ⟨b1, b2, b3, b4⟩ := of_decide_eq_true h1
    obtain ⟨c1, c2⟩ := classR_good hc
    refine ⟨fun u hu => (g.r u hu).up fun n => addC_said n, fun n y hy => ?_⟩
    unfold Rs.addC at hy
    dsimp only at hy
    by_cases h2 : n = byteN s 0 - 65
    ·rw [if_pos h2] at hy; injection hy with hy; subst hy; exact ⟨c1, c2, by omega⟩
    ·rw [if_neg h2] at hy; exact g.c n y hy
  ·rw [if_neg h1] at h
   unfold ruleR at h
   cases hc : partsR x.said s with
   | bad e p =>
    rw [hc] at h
    dsimp only at h
    split at h <;> cases h
   | ok u p =>
    rw [hc] at h
    dsimp only at h
    by_cases h2 : x.rules.length = 256
    ·rw [if_pos h2] at h; cases h
    ·rw [if_neg h2] at h
     injection h with h
     subst h
     refine ⟨fun v hv => ?_, g.c⟩
     rcases List.mem_append.1 hv with h3 | h3
     ·exact g.r v h3
     ·rw [List.mem_singleton] at h3; subst h3; exact (partsR_good hc).1
theorem linesR_good : ∀ {L : List ByteArray} {x y : Rs} {p : Nat}, linesR x p L = .ok y → RsG x → RsG y
 | [], x, y, p, h, g => by injection h with h; subst h; exact g
 | s :: r, x, y, p, h, g => by
  unfold linesR at h
  cases hl : lineR x s with
  | bad e q => rw [hl] at h; cases h
  | ok z => rw [hl] at h; exact linesR_good h (lineR_good hl g)
end Go.Proofs.YtieifhfgedoiaaaGreatDoor
/- What a word's letters say, in plain Lean. No program in sight. Conditions: those of each theorem. -/
namespace Go.Proofs.YtieifhfgedoiaaaGreatDoor
open Go.RowKit Go.Lib
set_option linter.unusedVariables false
set_option linter.unusedSimpArgs false
def atL (s : ByteArray) : List Nat := posL s 0 ++ [s.size]
def ruleAt (x : Rs) (f : Nat) : Option Rl := if f = 0 then none else x.rules[f - 1]?
def stepN (x : Rs) (w : List One) (k : Nat) : Nat := match ruleAt x (firstN x w k) with
 | some u => u.body.length
 | none => 1
def phsN (x : Rs) (w : List One) (k : Nat) : List Ph := match ruleAt x (firstN x w k) with
 | some u => u.phones
 | none => []
structure Snd where
 f : Nat
 t : Nat
 r : Nat
 ph : List Ph
def sndL (x : Rs) (w : List One) (a : List Nat) (k : Nat) : List Snd :=
 if h : k < w.length ∧ 1 ≤ stepN x w k then ⟨a.getD k 0, a.getD (k + stepN x w k) 0, firstN x w k, phsN x w k⟩ :: sndL x w a (k + stepN x w k) else []
termination_by w.length - k
def manyN (l : List Snd) : Nat := (l.map fun y => y.ph.length).sum
def soundsR (x : Rs) (s : ByteArray) : Option (List Snd) :=
 if (wordL s).length > 64 then none
 else if manyN (sndL x (wordL s) (atL s) 0) > 128 then none else some (sndL x (wordL s) (atL s) 0)
theorem firstF_le (x : Rs) (w : List One) (k : Nat) : ∀ (L : List Rl) (n : Nat), firstF x w k L n = 0 ∨ ∃ i u, L[i]? = some u ∧ fitB x u w k = true ∧ firstF x w k L n = n + i + 1
 | [], n => .inl rfl
 | u :: r, n => by
  unfold firstF
  by_cases h : fitB x u w k = true
  ·rw [if_pos h]; exact .inr ⟨0, u, rfl, h, rfl⟩
  ·rw [if_neg h]
   rcases firstF_le x w k r (n + 1) with h1 | ⟨i, v, h1, h2, h3⟩
   ·exact .inl h1
   ·exact .inr ⟨i + 1, v, h1, h2, by rw [h3]; omega⟩
theorem firstN_at {x : Rs} {w : List One} {k : Nat} : firstN x w k = 0 ∨ ∃ i u, x.rules[i]? = some u ∧ fitB x u w k = true ∧ firstN x w k = i + 1 := by
 rcases firstF_le x w k x.rules 0 with h | ⟨i, u, h1, h2, h3⟩
 ·exact .inl h
 ·exact .inr ⟨i, u, h1, h2, by show firstF x w k x.rules 0 = _; omega⟩
theorem firstN_le {x : Rs} {w : List One} {k : Nat} : firstN x w k ≤ x.rules.length := by
 rcases @firstN_at x w k with h | ⟨i, u, h1, h2, h3⟩
 ·omega
 ·have := (List.getElem?_eq_some_iff.1 h1).1; omega
theorem step_in {x : Rs} (g : RsG x) {w : List One} {k : Nat} (hk : k < w.length) : 1 ≤ stepN x w k ∧ k + stepN x w k ≤ w.length := by
 unfold stepN ruleAt
 rcases @firstN_at x w k with h | ⟨i, u, h1, h2, h3⟩
 ·rw [h, if_pos rfl]; exact ⟨Nat.le_refl _, hk⟩
 ·rw [h3, if_neg (by omega), Nat.add_sub_cancel, h1]
  refine ⟨(g.r u (List.mem_of_getElem? h1)).b1, ?_⟩
  unfold fitB at h2
  simp only [Bool.and_eq_true, decide_eq_true_eq] at h2
  have := h2.1.1.1.1.1.2
  show k + u.body.length ≤ _
  omega
theorem phs_le {x : Rs} (g : RsG x) {w : List One} {k : Nat} : (phsN x w k).length ≤ 128 := by
 unfold phsN ruleAt
 rcases @firstN_at x w k with h | ⟨i, u, h1, h2, h3⟩
 ·rw [h, if_pos rfl]; exact Nat.zero_le _
 ·rw [h3, if_neg (by omega), Nat.add_sub_cancel, h1]; exact (g.r u (List.mem_of_getElem? h1)).pn
theorem sndL_more {x : Rs} (g : RsG x) {w : List One} {a : List Nat} {k : Nat} (hk : k < w.length) :
  sndL x w a k = ⟨a.getD k 0, a.getD (k + stepN x w k) 0, firstN x w k, phsN x w k⟩ :: sndL x w a (k + stepN x w k) := by
 rw [sndL, dif_pos ⟨hk, (step_in g hk).1⟩]
theorem sndL_end {x : Rs} {w : List One} {a : List Nat} {k : Nat} (hk : ¬ k < w.length) : sndL x w a k = [] := by
 rw [sndL, dif_neg fun h => hk h.1]
theorem wordL_len (s : ByteArray) : (wordL s).length = (posL s 0).length := by unfold wordL; rw [List.length_map]
theorem atL_len (s : ByteArray) : (atL s).length = (wordL s).length + 1 := by unfold atL; rw [List.length_append, wordL_len]; rfl
end Go.Proofs.YtieifhfgedoiaaaGreatDoor
