/- A rule's line. Conditions: those of each theorem. -/
import Derived.Test.YtieifhfgedoiaaaDoorRdK
namespace Go.Proofs.YtieifhfgedoiaaaDoor
open Go.RowKit Go.Lib
open Go.ChangeMaps
set_option linter.unusedVariables false
set_option linter.unusedSimpArgs false
attribute [local go_sem] ExtS.cell ExtS.froz upE_value upE_skip upE_enter Ext.cell Ext.froz
/-- the rows of a rule -/
structure RlV where
  l : Value
  r : Value
  b : Value
  p : Value
def Rl.cells (u : Rl) (V : RlV) : List Value := [.string u.line, V.l, V.r, V.b, .bool u.begins, .bool u.ends, V.p]
structure RlOk (w : World) (base : Nat) (u : Rl) (V : RlV) : Prop where
  l : w.ownsRow base 117 4 V.l u.left.length (flatE Item.cells u.left)
  r : w.ownsRow base 117 4 V.r u.right.length (flatE Item.cells u.right)
  b : w.ownsRow base 115 3 V.b u.body.length (flatE One.cells u.body)
  p : w.ownsRow base 66 3 V.p u.phones.length (flatE Ph.cells u.phones)
theorem RlOk.low {w w' : World} {base : Nat} {u : Rl} {V : RlV} (h : RlOk w base u V) (hb : Below w.heap.size w w') : RlOk w' base u V := ⟨own_low h.l hb, own_low h.r hb, own_low h.b hb, own_low h.p hb⟩
/-- blocks of other kinds may turn -/
theorem own_butT {w w' : World} {base n size : Nat} {e : TypeId} {v : Value} {xs : List Value} {S : List Nat} (h : w.ownsRow base e size v n xs) (hb : ButS S w w') (hS : ∀ B ∈ S, ∃ t a, t ≠ e ∧ Blk w B t a) : w'.ownsRow base e size v n xs := by
  refine ⟨h.1, ?_⟩
  rcases h.2 with hh | ⟨g, cap, cur, h1, h2, h3, h4⟩
  · exact .inl hh
  · refine .inr ⟨g, cap, cur, h1, h2, (hb.block g (Array.getElem?_eq_some_iff.1 h3).1 fun hg => ?_).trans h3, h4⟩
    obtain ⟨t, a, ht, hB⟩ := hS g hg
    exact own_ne h (v := v) (by rw [h1]; rfl) hB ht rfl
theorem Cls.butT {w w' : World} {X : Nat} {said : Nat → Bool} {S : List Nat} (h : Cls w X said) (hb : ButS S w w') (hS : ∀ B ∈ S, ∃ t a, t ≠ 84 ∧ Blk w B t a) : Cls w' X said := by
  obtain ⟨mc, ml, v, n, f, h1, h2, h3⟩ := h
  refine ⟨mc, ml, v, n, f, hb.blk h1 (fun hX => ?_), h2.but hb (fun hm => ?_), h3⟩
  · obtain ⟨t, a, ht, hB⟩ := hS X hX
    exact blk_ne h1 hB (Ne.symm ht) rfl
  · obtain ⟨t, a, ht, hB⟩ := hS mc hm
    exact mapF_ne h2 hB rfl
theorem items_ok {w : World} {R X : Nat} {s : ByteArray} {p1 q : Nat} {said : Nat → Bool} {l : List Item} (h : Rd w R s p1 0 0) (hC : Cls w X said) (hs : s.size ≤ 140737488355328) (hp : p1 ≤ 140737488355329) (hr : itemsR said s p1 [] = .ok l q) :
    Calls Tryd.prog 77 #[.pointer (some ⟨X, 0, none⟩), .pointer (some ⟨R, 0, none⟩)] w fun x w' => ∃ p n c, x = .returned (.tuple #[.slice p n c, .bool true]) ∧ w'.ownsRow w.heap.size 117 4 (.slice p n c) l.length (flatE Item.cells l) ∧ Rd w' R s q 0 0 ∧ ButS [R] w w' := by
  refine (items_any h hC hs hp).mono ?_
  rintro e w' ⟨v, b, rfl, hP⟩
  rw [hr] at hP
  obtain ⟨rfl, h1, h2, h3, _⟩ := hP
  obtain ⟨pp, cap, rfl⟩ := own_shape h1
  exact ⟨_, _, _, rfl, h1, h2, h3⟩
theorem items_bad {w : World} {R X : Nat} {s : ByteArray} {p1 q : Nat} {said : Nat → Bool} {er : Int} (h : Rd w R s p1 0 0) (hC : Cls w X said) (hs : s.size ≤ 140737488355328) (hp : p1 ≤ 140737488355329) (hr : itemsR said s p1 [] = .bad er q) :
    Calls Tryd.prog 77 #[.pointer (some ⟨X, 0, none⟩), .pointer (some ⟨R, 0, none⟩)] w fun x w' => x = .returned (.tuple #[.slice none 0 0, .bool false]) ∧ (∃ p, Rd w' R s p er q) ∧ ButS [R] w w' := by
  refine (items_any h hC hs hp).mono ?_
  rintro e w' ⟨v, b, rfl, hP⟩
  rw [hr] at hP
  obtain ⟨rfl, rfl, h2, h3⟩ := hP
  exact ⟨rfl, h2, h3⟩
theorem body_ok {w : World} {R : Nat} {s : ByteArray} {p1 q : Nat} {l : List One} (h : Rd w R s p1 0 0) (hs : s.size ≤ 140737488355328) (hp : p1 ≤ 140737488355328) (hr : bodyR s p1 = .ok l q) :
    Calls Tryd.prog 78 #[.pointer (some ⟨R, 0, none⟩)] w fun x w' => ∃ p n c, x = .returned (.tuple #[.slice p n c, .bool true]) ∧ w'.ownsRow w.heap.size 115 3 (.slice p n c) l.length (flatE One.cells l) ∧ Rd w' R s q 0 0 ∧ ButS [R] w w' := by
  refine (body_any h hs hp).mono ?_
  rintro e w' ⟨v, b, rfl, hP⟩
  rw [hr] at hP
  obtain ⟨rfl, h1, h2, h3, _⟩ := hP
  obtain ⟨pp, cap, rfl⟩ := own_shape h1
  exact ⟨_, _, _, rfl, h1, h2, h3⟩
theorem body_bad {w : World} {R : Nat} {s : ByteArray} {p1 q : Nat} {er : Int} (h : Rd w R s p1 0 0) (hs : s.size ≤ 140737488355328) (hp : p1 ≤ 140737488355328) (hr : bodyR s p1 = .bad er q) :
    Calls Tryd.prog 78 #[.pointer (some ⟨R, 0, none⟩)] w fun x w' => x = .returned (.tuple #[.slice none 0 0, .bool false]) ∧ (∃ p, Rd w' R s p er q) ∧ ButS [R] w w' := by
  refine (body_any h hs hp).mono ?_
  rintro e w' ⟨v, b, rfl, hP⟩
  rw [hr] at hP
  obtain ⟨rfl, rfl, h2, h3⟩ := hP
  exact ⟨rfl, h2, h3⟩
theorem says_ok {w : World} {R U X : Nat} {s : ByteArray} {p q : Nat} {c0 c1 c2 c3 c4 c5 : Value} {l : List Ph} (h : Rd w R s p 0 0) (hU : Blk w U 96 #[c0, c1, c2, c3, c4, c5, .slice none 0 0]) (hp : p ≤ s.size) (hs : s.size ≤ 100000000) (hr : saysR s p = .ok l q) :
    Calls Tryd.prog 79 #[.pointer (some ⟨X, 0, none⟩), .pointer (some ⟨R, 0, none⟩), .pointer (some ⟨U, 0, none⟩)] w fun e w' => e = .returned (.bool true) ∧ (∃ p, Rd w' R s p 0 0) ∧ (∃ v, Blk w' U 96 #[c0, c1, c2, c3, c4, c5, v] ∧ w'.ownsRow w.heap.size 66 3 v l.length (flatE Ph.cells l)) ∧ ButS [R, U] w w' := by
  refine (phones_any (X := X) h hU hp hs).mono ?_
  rintro e w' ⟨b, rfl, hP⟩
  rw [hr] at hP
  obtain ⟨rfl, h1, h2, h3⟩ := hP
  exact ⟨rfl, h1, h2, h3⟩
theorem says_bad {w : World} {R U X : Nat} {s : ByteArray} {p q : Nat} {c0 c1 c2 c3 c4 c5 : Value} {er : Int} (h : Rd w R s p 0 0) (hU : Blk w U 96 #[c0, c1, c2, c3, c4, c5, .slice none 0 0]) (hp : p ≤ s.size) (hs : s.size ≤ 100000000) (hr : saysR s p = .bad er q) :
    Calls Tryd.prog 79 #[.pointer (some ⟨X, 0, none⟩), .pointer (some ⟨R, 0, none⟩), .pointer (some ⟨U, 0, none⟩)] w fun e w' => e = .returned (.bool false) ∧ (∃ p, Rd w' R s p er q) ∧ ButS [R, U] w w' := by
  refine (phones_any (X := X) h hU hp hs).mono ?_
  rintro e w' ⟨b, rfl, hP⟩
  rw [hr] at hP
  obtain ⟨rfl, h1, h3⟩ := hP
  exact ⟨rfl, h1, h3⟩
def PartsPost (w w' : World) (R U : Nat) (s : ByteArray) (r : Res Rl) (b : Bool) : Prop :=
  match r with
  | .ok u q => b = true ∧ (∃ p, Rd w' R s p 0 0) ∧ (∃ V, Blk w' U 96 (u.cells V).toArray ∧ RlOk w' w.heap.size u V) ∧ ButS [R, U] w w'
  | .bad e q => b = false ∧ (∃ p, Rd w' R s p e q) ∧ ButS [R, U] w w'
theorem itemsR_le {said : Nat → Bool} {s : ByteArray} : ∀ (k p : Nat) (acc l : List Item) (q : Nat), s.size - p = k → itemsR said s p acc = .ok l q → p ≤ s.size → q ≤ s.size := by
  intro k
  induction k using Nat.strongRecOn with
  | ind k ih =>
    intro p acc l q hk h hp
    cases hn : nameB s p
    · cases hl : plB s p
      · rw [itemsR_end hn hl] at h; injection h with _ h; omega
      · have hw := wdN_pos (plB_lt hl)
        by_cases h64 : acc.length = 64
        · rw [itemsR_long hn hl h64] at h; cases h
        · rw [itemsR_more hn hl h64] at h
          exact ih _ (by have := plB_lt hl; omega) _ _ _ _ rfl h hw.2.2
    · have hlt := (of_decide_eq_true hn).1
      cases hs : said (byteN s p - 65)
      · rw [itemsR_unsaid hn hs] at h; cases h
      · by_cases h64 : acc.length = 64
        · rw [itemsR_nlong hn hs h64] at h; cases h
        · rw [itemsR_name hn hs h64] at h
          exact ih _ (by omega) _ _ _ _ rfl h (by omega)
theorem piecesR_le {s : ByteArray} : ∀ (k p : Nat) (acc l : List One) (q : Nat), s.size - p = k → piecesR s p acc = .ok l q → p ≤ s.size → q ≤ s.size := by
  intro k
  induction k using Nat.strongRecOn with
  | ind k ih =>
    intro p acc l q hk h hp
    cases hl : plB s p
    · rw [piecesR_no hl] at h
      split at h
      · cases h
      · injection h with _ h; omega
    · have hw := wdN_pos (plB_lt hl)
      by_cases h64 : acc.length = 64
      · rw [piecesR_long hl h64] at h; cases h
      · rw [piecesR_more hl h64] at h
        exact ih _ (by have := plB_lt hl; omega) _ _ _ _ rfl h hw.2.2
theorem isB_lt {s : ByteArray} {p c : Nat} (h : isB s p c = true) : p < s.size := (of_decide_eq_true h).1
theorem bodyR_le {s : ByteArray} {p q : Nat} {l : List One} (h : bodyR s p = .ok l q) : q ≤ s.size := by
  unfold bodyR at h
  cases hb : isB s p 40
  · rw [mustR_no hb] at h; cases h
  · rw [mustR_yes hb] at h
    change (piecesR s (p + 1) []).bind _ = _ at h
    cases hp : piecesR s (p + 1) [] with
    | bad e q => rw [hp] at h; cases h
    | ok l' q' =>
      rw [hp] at h
      change (mustR s q' 41).bind _ = _ at h
      cases hc : isB s q' 41
      · rw [mustR_no hc] at h; cases h
      · rw [mustR_yes hc] at h
        have := isB_lt hc
        injection h with _ h
        omega
theorem hashR_le {s : ByteArray} {p : Nat} (hp : p ≤ s.size) : (hashR s p).2 ≤ s.size := by
  unfold hashR
  cases hb : isB s p 35
  · exact hp
  · exact isB_lt hb
/-- what stands behind the right -/
def endR (s : ByteArray) (p : Nat) : Res (List Ph) := (mustL s [32, 62] (hashR s p).2).bind fun _ q => saysR s q
theorem partsR_eq (said : Nat → Bool) (s : ByteArray) : partsR said s = (itemsR said s (hashR s 0).2 []).bind fun l p => (bodyR s p).bind fun u p => (itemsR said s p []).bind fun r p => (endR s p).bind fun x q => .ok ⟨s, (hashR s 0).1, l, u, r, (hashR s p).1, x⟩ q := by
  unfold partsR endR
  congr 1; funext l p; congr 1; funext u p; congr 1; funext r p
  simp only [mustL]
  cases h1 : isB s (hashR s p).2 32
  · have e : isB s (hashR s p).2 (32 : UInt8).toNat = false := h1
    rw [mustR_no h1, mustR_no e]; rfl
  · have e : isB s (hashR s p).2 (32 : UInt8).toNat = true := h1
    rw [mustR_yes h1, mustR_yes e]
    show (mustR s _ 62).bind _ = (((mustR s _ (62 : UInt8).toNat).bind _).bind _).bind _
    cases h2 : isB s ((hashR s p).2 + 1) 62
    · have e : isB s ((hashR s p).2 + 1) (62 : UInt8).toNat = false := h2
      rw [mustR_no h2, mustR_no e]; rfl
    · have e : isB s ((hashR s p).2 + 1) (62 : UInt8).toNat = true := h2
      rw [mustR_yes h2, mustR_yes e]
      show (saysR s _).bind _ = (Res.bind (Res.bind (Res.ok () _) _) _).bind _
      rfl
end Go.Proofs.YtieifhfgedoiaaaDoor
