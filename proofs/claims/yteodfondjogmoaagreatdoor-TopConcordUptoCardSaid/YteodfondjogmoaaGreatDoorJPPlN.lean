/- The plain data of a map: what place.New gathers, as a Lean function on bytes. No program in sight. -/
import Derived.Test.YteodfondjogmoaaGreatDoorJPPlA
import Derived.StillTail
import Derived.Deep.Quiet
import Derived.Below
import Derived.WalkKit
import Derived.WalkSpells
import Derived.WalkLawsBesides
import Derived.Deep.QuietTactic
import Derived.BigQuiet
import Derived.Lib.OthersKept
import Derived.StillTailTactics
namespace Go.Proofs.YteodfondjogmoaaGreatDoor.P
set_option linter.unusedVariables false

def unitsOf (r : Nat) : Nat := if 65536 ≤ r then 2 else 1
/-- how many bytes of a line end end with the piece at i whose rune is r: 0: no line ends there. -/
def nlw (s : ByteArray) (i r : Nat) : Nat :=
  if r = 13 then (if i + 1 < s.size ∧ s[i + 1]! = 10 then 0 else 1)
  else if r = 10 then (if 0 < i ∧ s[i - 1]! = 13 then 2 else 1)
  else 0
structure St where
  ps : List Pl
  ls : List Ln
  r : Nat
  u : Nat
  l : Nat
  c : Nat
  fr : Nat
  fi : Nat
def St.step (s : ByteArray) (i r : Nat) (t : St) : St :=
  if nlw s i r = 0 then ⟨t.ps ++ [⟨i, t.r, t.u, t.l, t.c⟩], t.ls, t.r + 1, t.u + unitsOf r, t.l, t.c + 1, t.fr, t.fi⟩
  else ⟨t.ps ++ [⟨i, t.r, t.u, t.l, t.c⟩], t.ls ++ [⟨t.fr, i + 1 - nlw s i r, nlw s i r, t.fi⟩], t.r + 1, t.u + unitsOf r, t.l + 1, 0, i + 1, t.ps.length + 1⟩
def St.start : St := ⟨[], [], 0, 0, 0, 0, 0, 0⟩
def runFrom (s : ByteArray) : Nat → Nat → St → St
  | 0, _, t => t
  | f + 1, pos, t => if pos < s.size then runFrom s f (pos + (Utf8.decode s pos).2) (t.step s pos (Utf8.decode s pos).1) else t
def fin (s : ByteArray) : St := runFrom s s.size 0 St.start
def plOf (s : ByteArray) : List Pl := (fin s).ps ++ [⟨s.size, (fin s).r, (fin s).u, (fin s).l, (fin s).c⟩]
def lnOf (s : ByteArray) : List Ln := (fin s).ls ++ [⟨(fin s).fr, s.size, 0, (fin s).fi⟩]

def flatP (l : List Pl) : List Value := l.flatMap Pl.cells
def flatL (l : List Ln) : List Value := l.flatMap Ln.cells
theorem flatP_snoc (l : List Pl) (p : Pl) : flatP (l ++ [p]) = flatP l ++ p.cells := by simp [flatP]
theorem flatL_snoc (l : List Ln) (p : Ln) : flatL (l ++ [p]) = flatL l ++ p.cells := by simp [flatL]
theorem flatP_length (l : List Pl) : (flatP l).length = l.length * 5 := by
  induction l with
  | nil => rfl
  | cons p l ih => simp [flatP, Pl.cells] at *; omega
theorem flatL_length (l : List Ln) : (flatL l).length = l.length * 4 := by
  induction l with
  | nil => rfl
  | cons p l ih => simp [flatL, Ln.cells] at *; omega

/-- what holds of a state in every round -/
structure Ok (s : ByteArray) (pos : Nat) (t : St) : Prop where
  hp : pos ≤ s.size
  r : t.r = t.ps.length
  len : t.ps.length ≤ pos
  u : t.u ≤ 2 * t.r
  l : t.l = t.ls.length
  ll : t.ls.length ≤ pos
  c : t.c ≤ t.r
  fr : t.fr ≤ pos
  fi : t.fi ≤ t.ps.length
theorem nlw_le (s : ByteArray) (i r : Nat) : nlw s i r ≤ 2 := by
  unfold nlw
  repeat' split
  all_goals omega
theorem nlw_two (s : ByteArray) (i r : Nat) (h : nlw s i r = 2) : 0 < i := by
  unfold nlw at h
  repeat' split at h
  all_goals omega
theorem unitsOf_le (r : Nat) : unitsOf r ≤ 2 := by unfold unitsOf; split <;> omega
theorem dec_pos (s : ByteArray) (pos : Nat) : 1 ≤ (Utf8.decode s pos).2 := by
  unfold Utf8.decode
  dsimp only
  repeat' split
  all_goals simp
theorem dec_le (s : ByteArray) (pos : Nat) (h : pos < s.size) : pos + (Utf8.decode s pos).2 ≤ s.size := by
  unfold Utf8.decode
  dsimp only
  repeat' split
  all_goals simp_all
  all_goals omega
theorem Ok.start (s : ByteArray) : Ok s 0 St.start := ⟨Nat.zero_le _, rfl, Nat.le_refl _, Nat.le_refl _, rfl, Nat.le_refl _, Nat.le_refl _, Nat.le_refl _, Nat.le_refl _⟩
theorem Ok.step {s : ByteArray} {pos : Nat} {t : St} (h : Ok s pos t) (hp : pos < s.size) : Ok s (pos + (Utf8.decode s pos).2) (t.step s pos (Utf8.decode s pos).1) := by
  have h1 := dec_pos s pos
  have h2 := dec_le s pos hp
  have h3 := unitsOf_le (Utf8.decode s pos).1
  obtain ⟨a, b, c, d, e, f, g, i, j⟩ := h
  unfold St.step
  split
  · exact ⟨h2, by simp; omega, by simp; omega, by dsimp only; omega, e, by dsimp only; omega, by dsimp only; omega, by dsimp only; omega, by simp; omega⟩
  · exact ⟨h2, by simp; omega, by simp; omega, by dsimp only; omega, by simp; omega, by simp; omega, by dsimp only; omega, by dsimp only; omega, by simp⟩
/-- an invariant of the rounds holds at the end -/
theorem run_ind {s : ByteArray} {I : Nat → St → Prop} (hs : ∀ pos t, pos < s.size → I pos t → I (pos + (Utf8.decode s pos).2) (t.step s pos (Utf8.decode s pos).1)) :
    ∀ f pos t, s.size ≤ pos + f → pos ≤ s.size → I pos t → I s.size (runFrom s f pos t) := by
  intro f
  induction f with
  | zero => intro pos t hf hp h; obtain rfl : pos = s.size := by omega
            exact h
  | succ f ih =>
    intro pos t hf hp h
    unfold runFrom
    split
    · rename_i hlt
      have := dec_pos s pos
      exact ih _ _ (by omega) (dec_le s pos hlt) (hs pos t hlt h)
    · obtain rfl : pos = s.size := by omega
      exact h
theorem fin_ok (s : ByteArray) : Ok s s.size (fin s) := run_ind (fun _ _ hp h => h.step hp) s.size 0 St.start (by omega) (by omega) (Ok.start s)
end Go.Proofs.YteodfondjogmoaaGreatDoor.P
/- A region of code that draws its order, in which two operations, one behind the other, make something new and the others before them only read: it is enough to walk it once, in the text's order. Conditions: the program follows mixed orders; the order of the region passes the checks; the reads answer alike before, between and behind these two. -/
namespace Go.Proofs.YteodfondjogmoaaGreatDoor.P
open Go Go.RowKit
set_option linter.unusedVariables false
section
variable {P : Program} {ops : Array Oper} {W0 W1 W2 : World} {e d n : Nat}

/-- What operation i (those that make something: e, then d) yields, whichever of the three worlds it meets. -/
def Gives (P : Program) (W0 W1 W2 : World) (e d i : Nat) (o : Oper) (a : Act) (v : Value) : Prop :=
  (i = e → (execOp a.eval o).run P W0 = .ok (.value v) W1) ∧ (i = d → (execOp a.eval o).run P W1 = .ok (.value v) W2) ∧
  (i ≠ e → i ≠ d → (execOp a.eval o).run P W0 = .ok (.value v) W0 ∧ (execOp a.eval o).run P W1 = .ok (.value v) W1 ∧ (execOp a.eval o).run P W2 = .ok (.value v) W2)
/-- The same with its guard: only e and d must have none. -/
def GivesG (P : Program) (ops : Array Oper) (W0 W1 W2 : World) (e d i : Nat) (o : Oper) (a : Act) (v : Value) : Prop :=
  (Region.wanted o (yielded ops a.tmps) = true ∧ Gives P W0 W1 W2 e d i o a v) ∨ ((i ≠ e ∧ i ≠ d) ∧ Region.wanted o (yielded ops a.tmps) = false ∧ v = undef)
def eOp (P : Program) (ops : Array Oper) (W0 W1 W2 : World) (e d i : Nat) (K : Act → Prop) (a : Act) : Prop :=
  ∃ o v, ops[i]? = some o ∧ GivesG P ops W0 W1 W2 e d i o a v ∧ K (a.put o.dst v)
theorem eOp_mono {i : Nat} {a : Act} {K K' : Act → Prop} (h : ∀ a, K a → K' a) : eOp P ops W0 W1 W2 e d i K a → eOp P ops W0 W1 W2 e d i K' a
  | ⟨o, v, h1, h2, h3⟩ => ⟨o, v, h1, h2, h _ h3⟩
theorem GivesG.same {i : Nat} {o : Oper} {a a' : Act} {v : Value} (h : GivesG P ops W0 W1 W2 e d i o a v) (he : execOp a'.eval o = execOp a.eval o)
    (hw : Region.wanted o (yielded ops a'.tmps) = Region.wanted o (yielded ops a.tmps)) : GivesG P ops W0 W1 W2 e d i o a' v := by
  unfold GivesG Gives at *
  rw [he, hw]
  exact h
theorem eOp_put {i j : Nat} {oi oj : Oper} {v : Value} (hj : ops[j]? = some oj) (hap : oi.apart ops oj = true) (hsi : ∀ cs b, oi.op ≠ .select cs b) (hsj : ∀ cs b, oj.op ≠ .select cs b)
    {K : Act → Prop} {a : Act} (hy : GivesG P ops W0 W1 W2 e d i oi a v) : eOp P ops W0 W1 W2 e d j K (a.put oi.dst v) → eOp P ops W0 W1 W2 e d j (fun a' => GivesG P ops W0 W1 W2 e d i oi a' v ∧ K (a'.put oi.dst v)) a := by
  rintro ⟨o, u, ho, hu, hK⟩
  obtain rfl : oj = o := Option.some.inj (hj.symm.trans ho)
  obtain ⟨h1, h2, h3⟩ := Oper.apart_spec hap
  refine ⟨oj, u, hj, hu.same (execOp_put oj hsj a oi.dst v h1).symm (wanted_put oj a oi.dst v h1).symm, hy.same (execOp_put oi hsi a oj.dst u h3) (wanted_put oi a oj.dst u h3), ?_⟩
  rw [← Act.put_comm a v u h2]
  exact hK

def AnyE (P : Program) (ops : Array Oper) (W0 W1 W2 : World) (e d n : Nat) (E : Array Bool → Act → Prop) : Nat → Array Bool → Act → Prop
  | 0, T, a => E T a
  | f + 1, T, a => (Region.ready .any ops T ≠ [] ∧ ∀ i, i ∈ Region.ready .any ops T → i < n) ∧
      ∀ i, i ∈ Region.ready .any ops T → eOp P ops W0 W1 W2 e d i (AnyE P ops W0 W1 W2 e d n E f (T.setIfInBounds i true)) a

/-- The world where T has come up. -/
def wld (W0 W1 W2 : World) (e d : Nat) (T : Array Bool) : World := if T.getD d false = true then W2 else if T.getD e false = true then W1 else W0

theorem AnyE.sound {E : Array Bool → Act → Prop} {Q : Exit → Act → World → Prop} {g : Nat} (hed : e ≠ d) (hde : Region.waitsFor .any ops d e = true) (hE : ∀ T a, E T a → wpAny P .any ops Q g T a (wld W0 W1 W2 e d T)) (f : Nat) :
    ∀ T a, HeadInv .any ops n T → AnyE P ops W0 W1 W2 e d n E f T a → wpAny P .any ops Q (g + f) T a (wld W0 W1 W2 e d T) := by
  induction f with
  | zero => exact fun T a _ h => hE T a h
  | succ f ih =>
    intro T a inv h
    refine ⟨fun h0 => absurd h0 h.1.1, fun i hi => ?_⟩
    obtain ⟨o, v, ho, hv, hK⟩ := h.2 i hi
    obtain ⟨hun, x, hx, hwait⟩ := mem_ready.1 hi
    have hlt : i < T.size := by
      rcases Nat.lt_or_ge i T.size with h | h
      · exact h
      · simp [Array.getElem?_eq_none h] at hun
    have h2 := ih _ _ (inv.set hi (h.1.2 i hi)) hK
    have same : i ≠ e → i ≠ d → wld W0 W1 W2 e d (T.setIfInBounds i true) = wld W0 W1 W2 e d T := fun h1 h2 => by
      unfold wld; rw [getD_set_ne false h1, getD_set_ne false h2]
    unfold wpOp
    simp only [ho]
    rcases hv with ⟨hw, h1, h3, h4⟩ | ⟨⟨hne, hnd⟩, hw, rfl⟩
    · rw [if_pos hw]
      refine .inl ?_
      unfold Oper.wp
      by_cases hie : i = e
      · subst hie
        have hTd : T.getD d false = false := by
          cases hd : T.getD d false with
          | false => rfl
          | true =>
            obtain ⟨od, hod, ed, hed1, hed2, hed3⟩ := Region.waitsFor_spec hde
            have := inv.closed d od hod hd ed hed1 hed2
            rw [hed3, getD_both hun] at this
            cases this
        have hw0 : wld W0 W1 W2 i d T = W0 := by unfold wld; rw [hTd, getD_both hun]; rfl
        have hw1 : wld W0 W1 W2 i d (T.setIfInBounds i true) = W1 := by unfold wld; rw [getD_set_ne false hed, hTd]; simp [hlt]
        rw [hw1] at h2
        rw [hw0, h1 rfl]
        exact h2
      · by_cases hid : i = d
        · subst hid
          have hTe : T.getD e false = true := by
            obtain ⟨od, hod, ed, hed1, hed2, hed3⟩ := Region.waitsFor_spec hde
            obtain rfl : od = x := Option.some.inj (hod.symm.trans hx)
            rw [← hed3]
            exact hwait ed hed1 hed2
          have hw1 : wld W0 W1 W2 e i T = W1 := by unfold wld; rw [hTe, getD_both hun]; rfl
          have hw2 : wld W0 W1 W2 e i (T.setIfInBounds i true) = W2 := by unfold wld; simp [hlt]
          rw [hw2] at h2
          rw [hw1, h3 rfl]
          exact h2
        · rw [same hie hid] at h2
          have hr : (execOp a.eval o).run P (wld W0 W1 W2 e d T) = .ok (.value v) (wld W0 W1 W2 e d T) := by
            unfold wld
            split
            · exact (h4 hie hid).2.2
            · split
              · exact (h4 hie hid).2.1
              · exact (h4 hie hid).1
          rw [hr]
          exact h2
    · rw [same hne hnd] at h2
      rw [if_neg (by rw [hw]; exact Bool.false_ne_true)]
      exact h2

theorem AnyE.first {E : Array Bool → Act → Prop} (hsel : Region.noSelect ops = true) (hs : Region.sinkB .any ops n = true) (hc : Region.chainB .any ops n = true) (hn : n < ops.size)
    (hE : ∀ T a, E T a → ∀ j, j ∈ Region.ready .any ops T → n ≤ j) {i : Nat} {o : Oper} {v : Value} (ho : ops[i]? = some o) (hin : i < n) (f : Nat) :
    ∀ T a, HeadInv .any ops n T → i ∈ Region.ready .any ops T →
      (∀ j x, ops[j]? = some x → j ≠ i → T.getD j true = false → (∀ e ∈ x.after, Region.binds .any e = true → e.on ≠ i) → o.apart ops x = true) →
      GivesG P ops W0 W1 W2 e d i o a v → AnyE P ops W0 W1 W2 e d n E f (T.setIfInBounds i true) (a.put o.dst v) → AnyE P ops W0 W1 W2 e d n E (f + 1) T a := by
  have nosel := Region.noSelect_spec hsel
  induction f with
  | zero =>
    intro T a inv hi hap hy h
    have hlt : ∀ j, j ∈ Region.ready .any ops T → j < n := fun j hj =>
      Nat.lt_of_not_le fun hnj => tail_waits hs hc hn inv _ i rfl hin (mem_ready.1 hi).1 j hnj hj
    refine ⟨⟨fun h0 => by simp [h0] at hi, hlt⟩, fun j hj => ?_⟩
    rcases Nat.decEq j i with hne | rfl
    · exact absurd (hlt j hj) (Nat.not_lt.2 (hE _ _ h j (ready_mono hj hne)))
    · exact ⟨o, v, ho, hy, h⟩
  | succ f ih =>
    intro T a inv hi hap hy h
    have hun := (mem_ready.1 hi).1
    have hlt : ∀ j, j ∈ Region.ready .any ops T → j < n := fun j hj =>
      Nat.lt_of_not_le fun hnj => tail_waits hs hc hn inv _ i rfl hin hun j hnj hj
    refine ⟨⟨fun h0 => by simp [h0] at hi, hlt⟩, fun j hj => ?_⟩
    rcases Nat.decEq j i with hne | rfl
    · obtain ⟨hjun, x, hx, hwait⟩ := mem_ready.1 hj
      have hno : ∀ e ∈ x.after, Region.binds .any e = true → e.on ≠ i := fun e he hb h1 => by
        have h2 := hwait e he hb
        rw [h1, getD_both hun] at h2
        exact Bool.false_ne_true h2
      refine eOp_mono (fun a' h' => ?_) (eOp_put hx (hap j x hx hne hjun hno) (fun cs b => nosel i o cs b ho) (fun cs b => nosel j x cs b hx) hy (h.2 j (ready_mono hj hne)))
      refine ih _ a' (inv.set hj (hlt j hj)) (ready_mono hi (Ne.symm hne)) (fun k y hk hki hkT hky => ?_) h'.1 ?_
      · refine hap k y hk hki ?_ hky
        rcases Nat.decEq j k with hjk | rfl
        · rwa [getD_set_ne true hjk] at hkT
        · exact hjun
      · rw [Array.setIfInBounds_comm _ _ hne]
        exact h'.2
    · exact ⟨o, v, ho, hy, h⟩

/-- The walk of the first n operations in the text's order. -/
def wpE (P : Program) (ops : Array Oper) (W0 W1 W2 : World) (e d : Nat) (L : Act → Prop) : Nat → List Oper → Act → Prop
  | _, [], a => L a
  | k, o :: l, a => ∃ v, GivesG P ops W0 W1 W2 e d k o a v ∧ wpE P ops W0 W1 W2 e d L (k + 1) l (a.put o.dst v)

def lexE (ops : Array Oper) (g d : Nat) : Nat → Nat → Array Bool → Bool
  | 0, k, T => Region.seqB .any ops g k T && T.getD d false
  | f + 1, k, T => (Region.ready .any ops T).contains k && Region.free .any ops T k && lexE ops g d f (k + 1) (T.setIfInBounds k true)

theorem AnyE.text {g : Nat} {L : Act → Prop} (hsel : Region.noSelect ops = true) (hs : Region.sinkB .any ops n = true) (hc : Region.chainB .any ops n = true) (hn : n < ops.size) (l : List Oper) :
    ∀ k T a, (∀ j, j < l.length → ops[k + j]? = l[j]?) → k + l.length = n → HeadInv .any ops n T → lexE ops g d l.length k T = true →
      wpE P ops W0 W1 W2 e d L k l a → AnyE P ops W0 W1 W2 e d n (fun T' a' => (Region.seqB .any ops g n T' = true ∧ T'.getD d false = true) ∧ L a') l.length T a := by
  induction l with
  | nil =>
    intro k T a _ hk _ hB h
    obtain rfl : k = n := hk
    simp only [List.length_nil, lexE, Bool.and_eq_true] at hB
    exact ⟨hB, h⟩
  | cons o l ih =>
    intro k T a hl hk inv hB h
    have h0 : ops[k]? = some o := by have := hl 0 (by simp); simpa using this
    simp only [List.length_cons, lexE, Bool.and_eq_true, List.contains_iff_mem] at hB
    simp only [List.length_cons] at hk
    have hkn : k < n := by omega
    obtain ⟨v, hy, h2⟩ := h
    refine AnyE.first hsel hs hc hn (fun T' a' hT => seqB_ready hT.1.1) h0 hkn l.length T a inv hB.1.1 (Region.free_spec h0 hB.1.2) hy ?_
    refine ih (k + 1) _ _ (fun j hj => ?_) (by omega) (inv.set hB.1.1 hkn) hB.2 h2
    have := hl (j + 1) (by simp; omega)
    simpa [Nat.add_assoc, Nat.add_comm 1 j] using this
end

def tailE (ops : Array Oper) (n e d : Nat) : Bool :=
  Region.noSelect ops && decide (n < ops.size) && Region.sinkB .any ops n && Region.chainB .any ops n && lexE ops (ops.size - n) d n 0 (Array.replicate ops.size false) && decide (e ≠ d) && Region.waitsFor .any ops d e

/-- THE LAW: e makes what leads from the world behind the draw to W1, d what leads from there to W2. -/
theorem two_tail {P : Program} {id : Nat} {Q : Exit → Act → World → Prop} {a : Act} {w W1 W2 : World} {l : List Oper} (n e d : Nat) (hm : P.follows .mixedOrders = true) (hB : tailE l.toArray n e d = true)
    (h : wpE P l.toArray w.drew W1 W2 e d (fun a' => wpList P l.toArray Q (l.drop n) a' W2) 0 (l.take n) a) : (Code.region id l.toArray true).wp P Q a w := by
  simp only [tailE, Bool.and_eq_true, decide_eq_true_eq] at hB
  obtain ⟨⟨⟨⟨⟨⟨hsel, hn⟩, hs⟩, hc⟩, hx⟩, hed⟩, hde⟩ := hB
  have hsz : l.toArray.size = l.length := by simp
  have htl : (l.take n).length = n := by rw [List.length_take]; omega
  have inv : HeadInv .any l.toArray n (Array.replicate l.toArray.size false) :=
    ⟨Array.size_replicate, fun j x _ hT => (by rw [getD_replicate_false] at hT; cases hT), fun t _ ht => getD_in (by rw [Array.size_replicate]; exact ht) (getD_replicate_false _ _)⟩
  have hh := AnyE.text (P := P) (W0 := w.drew) (W1 := W1) (W2 := W2) (e := e) (d := d) (g := l.toArray.size - n) hsel hs hc hn (l.take n) 0 (Array.replicate l.toArray.size false) a
    (fun j hj => by rw [htl] at hj; simp [hj]) (by rw [htl]; omega) inv (by rw [htl]; exact hx) h
  refine wp_region_any hm ?_
  have h2 := AnyE.sound (Q := Q) (g := l.toArray.size - n) hed hde (fun T a' hT => by
    have hw : wld w.drew W1 W2 e d T = W2 := by unfold wld; rw [if_pos hT.1.2]
    rw [hw]
    have := wpAny_of_seq (md := .any) (Q' := Q) (l.drop n) n T a' W2 (fun j => by simp [List.getElem?_drop]) (by rw [List.length_drop, ← hsz]; exact hT.1.1) hT.2
    rwa [List.length_drop, ← hsz] at this) _ _ _ inv hh
  have hw0 : wld w.drew W1 W2 e d (Array.replicate l.toArray.size false) = w.drew := by unfold wld; rw [getD_replicate_false, getD_replicate_false]; rfl
  rw [hw0, htl, show l.toArray.size - n + n = l.toArray.size by omega] at h2
  exact h2
/-- one operation of the walk -/
theorem wpE_step {P : Program} {ops : Array Oper} {W0 W1 W2 : World} {e d k : Nat} {L : Act → Prop} {o : Oper} {l : List Oper} {a : Act}
    (h : ∀ K : Act → Prop, (∀ a, wpE P ops W0 W1 W2 e d L (k + 1) l a → K a) → ∃ v, GivesG P ops W0 W1 W2 e d k o a v ∧ K (a.put o.dst v)) : wpE P ops W0 W1 W2 e d L k (o :: l) a :=
  h _ (fun _ h => h)
theorem wpE_nil {P : Program} {ops : Array Oper} {W0 W1 W2 : World} {e d k : Nat} {L : Act → Prop} {a : Act} (h : L a) : wpE P ops W0 W1 W2 e d L k [] a := h
/-- what append yields -/
theorem append_run {P : Program} {o : Oper} {a : Act} {w w' : World} {s x : Operand} {t : TypeId} {v v' : Value} {y : Value} (hop : o.op = Op.call { callee := Callee.builtin Builtin.append, args := #[s, x], argTypes := #[t, t] })
    (hs : a.eval s = v) (hx : a.eval x = y) (hrun : (Builtin.append_ #[t, t] o.type #[v, y]).run P w = .ok v' w') : (execOp a.eval o).run P w = .ok (.value v') w' := by
  simp [execOp, hop, resolve, invoke, builtin, hs, hx, hrun, Result.andThen]
end Go.Proofs.YteodfondjogmoaaGreatDoor.P
/- What the loop of place.New keeps in memory. Conditions: none beyond each theorem's own. -/
namespace Go.Proofs.YteodfondjogmoaaGreatDoor.P
open Go.RowKit
set_option linter.unusedVariables false
set_option linter.unusedSimpArgs false
attribute [local go_sem] Ext.cell Ext.froz GivesG Gives
theorem Tryz.info33 : (Tryz.prog.info? 219).map (fun i => (i.zero, i.size, i.bytes)) = some (some (.agg #[.int .i64 0, .int .i64 0, .int .i64 0, .int .i64 0, .int .i64 0]), 5, 40) := by kernel_rfl
theorem Tryz.info76 : (Tryz.prog.info? 221).map (fun i => (i.zero, i.size, i.bytes)) = some (some (.agg #[.int .i64 0, .int .i64 0, .int .i64 0, .int .i64 0]), 4, 32) := by kernel_rfl
theorem iterPos_of {w : World} {k : Nat} {s : ByteArray} {p : Nat} (h : w.heap[k]? = some (.stringIter s p)) : w.iterPos k = p := by simp [World.iterPos, h]
theorem dec_max (s : ByteArray) (pos : Nat) : (Utf8.decode s pos).1 ≤ 2147483647 := by
  unfold Utf8.decode
  dsimp only
  have hh : ∀ k, (s.get! (pos + k)).toNat < 256 := fun k => (s.get! (pos + k)).toNat_lt
  have h0 := hh 0
  have h1 := hh 1
  have h2 := hh 2
  have h3 := hh 3
  repeat' split
  all_goals (try simp only [Utf8.runeError])
  all_goals omega

theorem set_blk {w : World} {b k : Nat} {cs : Array Value} {T : TypeId} {v : Value} (h : w.heap[b]? = some (.cells cs T (0, 0))) : (w.setCell ⟨b, k, none⟩ v).heap[b]? = some (.cells (cs.setIfInBounds k v) T (0, 0)) := by
  simp [World.setCell, Array.getElem?_modify, h]
theorem set_oth {w : World} {b c k : Nat} {v : Value} (h : c ≠ b) : (w.setCell ⟨b, k, none⟩ v).heap[c]? = w.heap[c]? := Below.heap_setCell _ _ _ _ h
theorem blk3 {w : World} {b : Nat} {a0 a1 a2 : Value} {T : TypeId} (h : w.heap[b]? = some (.cells #[a0, a1, a2] T (0, 0))) :
    w.cell? ⟨b, 0, none⟩ = some a0 ∧ w.cell? ⟨b, 1, none⟩ = some a1 ∧ w.cell? ⟨b, 2, none⟩ = some a2 ∧ (∀ k, w.frozen? ⟨b, k, none⟩ = false) ∧ b < w.heap.size :=
  ⟨blk_cell h rfl, blk_cell h rfl, blk_cell h rfl, blk_froz h, (Array.getElem?_eq_some_iff.1 h).1⟩
theorem blk4 {w : World} {b : Nat} {a0 a1 a2 a3 : Value} {T : TypeId} (h : w.heap[b]? = some (.cells #[a0, a1, a2, a3] T (0, 0))) :
    w.cell? ⟨b, 0, none⟩ = some a0 ∧ w.cell? ⟨b, 1, none⟩ = some a1 ∧ w.cell? ⟨b, 2, none⟩ = some a2 ∧ w.cell? ⟨b, 3, none⟩ = some a3 ∧ (∀ k, w.frozen? ⟨b, k, none⟩ = false) ∧ b < w.heap.size :=
  ⟨blk_cell h rfl, blk_cell h rfl, blk_cell h rfl, blk_cell h rfl, blk_froz h, (Array.getElem?_eq_some_iff.1 h).1⟩
theorem blk5 {w : World} {b : Nat} {a0 a1 a2 a3 a4 : Value} {T : TypeId} (h : w.heap[b]? = some (.cells #[a0, a1, a2, a3, a4] T (0, 0))) :
    w.cell? ⟨b, 0, none⟩ = some a0 ∧ w.cell? ⟨b, 1, none⟩ = some a1 ∧ w.cell? ⟨b, 2, none⟩ = some a2 ∧ w.cell? ⟨b, 3, none⟩ = some a3 ∧ w.cell? ⟨b, 4, none⟩ = some a4 ∧ (∀ k, w.frozen? ⟨b, k, none⟩ = false) ∧ b < w.heap.size :=
  ⟨blk_cell h rfl, blk_cell h rfl, blk_cell h rfl, blk_cell h rfl, blk_cell h rfl, blk_froz h, (Array.getElem?_eq_some_iff.1 h).1⟩
/-- the iterator moved on -/
theorem iter_oth {w : World} {k c : Nat} {s : ByteArray} {p : Nat} (h : c ≠ k) : (w.iterAt k s p).heap[c]? = w.heap[c]? := Lib.iterAt_other _ _ _ _ _ h
theorem own_iter {w : World} {base : Nat} {e : TypeId} {size : Nat} {v : Value} {n : Nat} {xs : List Value} (h : w.ownsRow base e size v n xs) {k : Nat} (hk : k < base) (s : ByteArray) (p : Nat) : (w.iterAt k s p).ownsRow base e size v n xs := by
  obtain ⟨h1, h2⟩ := h
  refine ⟨h1, ?_⟩
  rcases h2 with h2 | ⟨g, cap, cur, a, b, c, d⟩
  · exact .inl h2
  · exact .inr ⟨g, cap, cur, a, b, by rw [Lib.iterAt_other _ _ _ _ _ (by omega)]; exact c, d⟩
theorem cells_new5 (w : World) (a0 a1 a2 a3 a4 : Value) (T : TypeId) : ∀ j u, [a0, a1, a2, a3, a4][j]? = some u → (w.alloc (.cells #[a0, a1, a2, a3, a4] T)).drew.cell? ((⟨w.heap.size, 0, none⟩ : Addr).add j) = some u := by
  intro j u hj
  match j, hj with
  | 0, hj => simp at hj; subst hj; simp [Addr.add]
  | 1, hj => simp at hj; subst hj; simp [Addr.add]
  | 2, hj => simp at hj; subst hj; simp [Addr.add]
  | 3, hj => simp at hj; subst hj; simp [Addr.add]
  | 4, hj => simp at hj; subst hj; simp [Addr.add]
  | j + 5, hj => simp at hj
theorem cells_new4 (w : World) (a0 a1 a2 a3 : Value) (T : TypeId) : ∀ j u, [a0, a1, a2, a3][j]? = some u → (w.alloc (.cells #[a0, a1, a2, a3] T)).drew.cell? ((⟨w.heap.size, 0, none⟩ : Addr).add j) = some u := by
  intro j u hj
  match j, hj with
  | 0, hj => simp at hj; subst hj; simp [Addr.add]
  | 1, hj => simp at hj; subst hj; simp [Addr.add]
  | 2, hj => simp at hj; subst hj; simp [Addr.add]
  | 3, hj => simp at hj; subst hj; simp [Addr.add]
  | j + 4, hj => simp at hj
/-- what the loop of New keeps -/
structure Mem (w wr : World) (s : ByteArray) (pos : Nat) (ps : List Pl) (ls : List Ln) (pc lc : Array Value) (v1 v2 : Value) : Prop where
  it : wr.heap[w.heap.size + 1 + 1 + 1]? = some (.stringIter s pos)
  m : wr.heap[w.heap.size]? = some (.cells #[.string s, v1, v2] 217 (0, 0))
  p : wr.heap[w.heap.size + 1]? = some (.cells pc 219 (0, 0))
  ln : wr.heap[w.heap.size + 1 + 1]? = some (.cells lc 221 (0, 0))
  o1 : wr.ownsRow (w.heap.size + 4) 219 5 v1 ps.length (flatP ps)
  o2 : wr.ownsRow (w.heap.size + 4) 221 4 v2 ls.length (flatL ls)
  bel : Below w.heap.size w wr
section
variable {w wr : World} {s : ByteArray} {pos : Nat} {ps : List Pl} {ls : List Ln} {pc lc : Array Value} {v1 v2 : Value}
theorem Mem.lt (h : Mem w wr s pos ps ls pc lc v1 v2) : w.heap.size + 4 ≤ wr.heap.size := by
  have := (Array.getElem?_eq_some_iff.1 h.it).1; omega
theorem Mem.next (h : Mem w wr s pos ps ls pc lc v1 v2) (pos' : Nat) : Mem w (wr.iterAt (w.heap.size + 1 + 1 + 1) s pos') s pos' ps ls pc lc v1 v2 :=
  ⟨Lib.iterAt_heap wr _ s pos pos' h.it, (iter_oth (by omega)).trans h.m, (iter_oth (by omega)).trans h.p, (iter_oth (by omega)).trans h.ln, own_iter h.o1 (by omega) _ _, own_iter h.o2 (by omega) _ _, Lib.below_iterAt h.bel (by omega) s pos'⟩
theorem Mem.setp (h : Mem w wr s pos ps ls pc lc v1 v2) (k : Nat) (x : Value) : Mem w (wr.setCell ⟨w.heap.size + 1, k, none⟩ x) s pos ps ls (pc.setIfInBounds k x) lc v1 v2 :=
  ⟨(set_oth (by omega)).trans h.it, (set_oth (by omega)).trans h.m, set_blk h.p, (set_oth (by omega)).trans h.ln, ownsRow_setCell_below h.o1 (by simp) _, ownsRow_setCell_below h.o2 (by simp) _, h.bel.setCell (by simp) _⟩
theorem Mem.setl (h : Mem w wr s pos ps ls pc lc v1 v2) (k : Nat) (x : Value) : Mem w (wr.setCell ⟨w.heap.size + 1 + 1, k, none⟩ x) s pos ps ls pc (lc.setIfInBounds k x) v1 v2 :=
  ⟨(set_oth (by omega)).trans h.it, (set_oth (by omega)).trans h.m, (set_oth (by omega)).trans h.p, set_blk h.ln, ownsRow_setCell_below h.o1 (by simp) _, ownsRow_setCell_below h.o2 (by simp) _, h.bel.setCell (by simp <;> omega) _⟩
theorem own_type {W : World} {base : Nat} {e : TypeId} {size n : Nat} {v : Value} {xs : List Value} (h : W.ownsRow base e size v n xs) : ∀ k, v.ownBlock = some k → ∃ c, W.heap[k]? = some (.cells c e (0, 0)) := by
  intro k hk
  rcases h.2 with ⟨rfl, _⟩ | ⟨g, cap, cur, rfl, _, hg, _⟩
  · simp [Value.ownBlock] at hk
  · simp [Value.ownBlock] at hk; subst hk; exact ⟨cur, hg⟩
theorem Mem.apart (h : Mem w wr s pos ps ls pc lc v1 v2) : ∀ k, v1.ownBlock = some k → v2.ownBlock ≠ some k := by
  intro k h1 h2
  obtain ⟨c, hc⟩ := own_type h.o1 k h1
  obtain ⟨d, hd⟩ := own_type h.o2 k h2
  rw [hc] at hd
  simp at hd
/-- behind an append to the places, and its store -/
theorem Mem.pushp (h : Mem w wr s pos ps ls pc lc v1 v2) {o : Obj} {W4 : World} {v' : Value} {p : Pl} (hg : (wr.alloc o).drew.grownBy W4 v1.ownBlock) (hown : W4.ownsRow (w.heap.size + 4) 219 5 v' (ps.length + 1) (flatP ps ++ p.cells)) :
    Mem w (W4.setCell ⟨w.heap.size, 1, none⟩ v') s pos (ps ++ [p]) ls pc lc v' v2 ∧ (∀ k, k < w.heap.size + 4 → W4.heap[k]? = wr.heap[k]?) := by
  have hlt := h.lt
  have hb : ∀ k, k < w.heap.size + 4 → W4.heap[k]? = wr.heap[k]? := fun k hk => by
    rw [hg.block k (by simp [World.drew] <;> omega) (fun e => by have := (h.o1.lt k e.symm).1; omega)]
    exact Below.heap_alloc _ _ _ (by omega)
  have ho2 : W4.ownsRow (w.heap.size + 4) 221 4 v2 ls.length (flatL ls) := ((h.o2.alloc o).drew).kept hg (by
    cases e2 : v2.ownBlock with
    | none => exact .inl rfl
    | some k2 => exact .inr fun e1 => h.apart k2 e1.symm e2)
  refine ⟨⟨(set_oth (by omega)).trans ((hb _ (by omega)).trans h.it), set_blk ((hb _ (by omega)).trans h.m), (set_oth (by omega)).trans ((hb _ (by omega)).trans h.p), (set_oth (by omega)).trans ((hb _ (by omega)).trans h.ln), ?_, ownsRow_setCell_below ho2 (by simp <;> omega) _, ?_⟩, hb⟩
  · rw [flatP_snoc, List.length_append]
    exact ownsRow_setCell_below hown (by simp <;> omega) _
  · exact (((h.bel.alloc (by omega) o).drew).grown hg (by simp [World.drew] <;> omega) (fun k hk => by have := (h.o1.lt k hk).1; omega)).setCell (by simp) _
theorem Mem.pushl (h : Mem w wr s pos ps ls pc lc v1 v2) {o : Obj} {W4 : World} {v' : Value} {p : Ln} (hg : (wr.alloc o).drew.grownBy W4 v2.ownBlock) (hown : W4.ownsRow (w.heap.size + 4) 221 4 v' (ls.length + 1) (flatL ls ++ p.cells)) :
    Mem w (W4.setCell ⟨w.heap.size, 2, none⟩ v') s pos ps (ls ++ [p]) pc lc v1 v' ∧ (∀ k, k < w.heap.size + 4 → W4.heap[k]? = wr.heap[k]?) := by
  have hlt := h.lt
  have hb : ∀ k, k < w.heap.size + 4 → W4.heap[k]? = wr.heap[k]? := fun k hk => by
    rw [hg.block k (by simp [World.drew] <;> omega) (fun e => by have := (h.o2.lt k e.symm).1; omega)]
    exact Below.heap_alloc _ _ _ (by omega)
  have ho1 : W4.ownsRow (w.heap.size + 4) 219 5 v1 ps.length (flatP ps) := ((h.o1.alloc o).drew).kept hg (by
    cases e1 : v1.ownBlock with
    | none => exact .inl rfl
    | some k1 => exact .inr fun e2 => h.apart k1 e1 e2.symm)
  refine ⟨⟨(set_oth (by omega)).trans ((hb _ (by omega)).trans h.it), set_blk ((hb _ (by omega)).trans h.m), (set_oth (by omega)).trans ((hb _ (by omega)).trans h.p), (set_oth (by omega)).trans ((hb _ (by omega)).trans h.ln), ownsRow_setCell_below ho1 (by simp <;> omega) _, ?_, ?_⟩, hb⟩
  · rw [flatL_snoc, List.length_append]
    exact ownsRow_setCell_below hown (by simp <;> omega) _
  · exact (((h.bel.alloc (by omega) o).drew).grown hg (by simp [World.drew] <;> omega) (fun k hk => by have := (h.o2.lt k hk).1; omega)).setCell (by simp) _
theorem own_shape {W : World} {base : Nat} {e : TypeId} {size n : Nat} {v : Value} {xs : List Value} (h : W.ownsRow base e size v (n + 1) xs) : ∃ g cap, v = .slice (some ⟨g, 0, none⟩) (n + 1) cap := by
  rcases h.2 with ⟨_, h0⟩ | ⟨g, cap, cur, hv, _⟩
  · omega
  · exact ⟨g, cap, hv⟩
theorem own_some {W : World} {base : Nat} {e : TypeId} {size n : Nat} {v : Value} {xs : List Value} (h : W.ownsRow base e size v n xs) : ∃ g cap, v = .slice g n cap := by
  rcases h.2 with ⟨hv, h0⟩ | ⟨g, cap, cur, hv, _⟩
  · exact ⟨none, 0, by rw [hv, h0]⟩
  · exact ⟨_, cap, hv⟩
end
end Go.Proofs.YteodfondjogmoaaGreatDoor.P
