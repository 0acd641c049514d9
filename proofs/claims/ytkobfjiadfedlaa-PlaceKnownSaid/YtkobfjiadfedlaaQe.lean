/- A region of code that draws its order, in which two operations, one behind the other, make something new and the others before them only read: it is enough to walk it once, in the text's order. Conditions: the program follows mixed orders; the order of the region passes the checks; the reads answer alike before, between and behind these two. -/
import Derived.StillTail
import Derived.Deep.Quiet
import Derived.Below
import Derived.WalkKit
namespace Go.Proofs.Ytkobfjiadfedlaa
open Go Go.RowKit
set_option linter.unusedVariables false
section
variable {P : Program} {ops : Array Oper} {W0 W1 W2 : World} {e d n : Nat}

/-- What operation i (those that make something: e, then d) yields, whichever of the three worlds it meets. -/
def Gives (P : Program) (W0 W1 W2 : World) (e d i : Nat) (o : Oper) (a : Act) (v : Value) : Prop :=
  (i = e → (execOp a.eval o).run P W0 = .ok (.value v) W1) ∧ (i = d → (execOp a.eval o).run P W1 = .ok (.value v) W2) ∧
  (i ≠ e → i ≠ d → (execOp a.eval o).run P W0 = .ok (.value v) W0 ∧ (execOp a.eval o).run P W1 = .ok (.value v) W1 ∧ (execOp a.eval o).run P W2 = .ok (.value v) W2)
/-- The same with its guard: only e and d must have none. -/
def GivesG (P : Program) (ops : Array Oper) (W0 W1 W2 : World) (e d i : Nat) (o : Oper) (a : Act) (v : Value) : Prop :=
  (Region.wanted o (yielded ops a.tmps) = true ∧ Gives P W0 W1 W2 e d i o a v) ∨ ((i ≠ e ∧ i ≠ d) ∧ Region.wanted o (yielded ops a.tmps) = false ∧ v = undef)
def eOp (P : Program) (ops : Array Oper) (W0 W1 W2 : World) (e d i : Nat) (K : Act → Prop) (a : Act) : Prop :=
  ∃ o v, ops[i]? = some o ∧ GivesG P ops W0 W1 W2 e d i o a v ∧ K (a.put o.dst v)
theorem eOp_mono {i : Nat} {a : Act} {K K' : Act → Prop} (h : ∀ a, K a → K' a) : eOp P ops W0 W1 W2 e d i K a → eOp P ops W0 W1 W2 e d i K' a
  | ⟨o, v, h1, h2, h3⟩ => ⟨o, v, h1, h2, h _ h3⟩
theorem GivesG.same {i : Nat} {o : Oper} {a a' : Act} {v : Value} (h : GivesG P ops W0 W1 W2 e d i o a v) (he : execOp a'.eval o = execOp a.eval o)
    (hw : Region.wanted o (yielded ops a'.tmps) = Region.wanted o (yielded ops a.tmps)) : GivesG P ops W0 W1 W2 e d i o a' v := by
  unfold GivesG Gives at *
  rw [he, hw]
  exact h
theorem eOp_put {i j : Nat} {oi oj : Oper} {v : Value} (hj : ops[j]? = some oj) (hap : oi.apart ops oj = true) (hsi : ∀ cs b, oi.op ≠ .select cs b) (hsj : ∀ cs b, oj.op ≠ .select cs b)
    {K : Act → Prop} {a : Act} (hy : GivesG P ops W0 W1 W2 e d i oi a v) : eOp P ops W0 W1 W2 e d j K (a.put oi.dst v) → eOp P ops W0 W1 W2 e d j (fun a' => GivesG P ops W0 W1 W2 e d i oi a' v ∧ K (a'.put oi.dst v)) a := by
  rintro ⟨o, u, ho, hu, hK⟩
  obtain rfl : oj = o := Option.some.inj (hj.symm.trans ho)
  obtain ⟨h1, h2, h3⟩ := Oper.apart_spec hap
  refine ⟨oj, u, hj, hu.same (execOp_put oj hsj a oi.dst v h1).symm (wanted_put oj a oi.dst v h1).symm, hy.same (execOp_put oi hsi a oj.dst u h3) (wanted_put oi a oj.dst u h3), ?_⟩
  rw [← Act.put_comm a v u h2]
  exact hK

def AnyE (P : Program) (ops : Array Oper) (W0 W1 W2 : World) (e d n : Nat) (E : Array Bool → Act → Prop) : Nat → Array Bool → Act → Prop
  | 0, T, a => E T a
  | f + 1, T, a => (Region.ready .any ops T ≠ [] ∧ ∀ i, i ∈ Region.ready .any ops T → i < n) ∧
      ∀ i, i ∈ Region.ready .any ops T → eOp P ops W0 W1 W2 e d i (AnyE P ops W0 W1 W2 e d n E f (T.setIfInBounds i true)) a

/-- The world where T has come up. -/
def wld (W0 W1 W2 : World) (e d : Nat) (T : Array Bool) : World := if T.getD d false = true then W2 else if T.getD e false = true then W1 else W0

theorem AnyE.sound {E : Array Bool → Act → Prop} {Q : Exit → Act → World → Prop} {g : Nat} (hed : e ≠ d) (hde : Region.waitsFor .any ops d e = true) (hE : ∀ T a, E T a → wpAny P .any ops Q g T a (wld W0 W1 W2 e d T)) (f : Nat) :
    ∀ T a, HeadInv .any ops n T → AnyE P ops W0 W1 W2 e d n E f T a → wpAny P .any ops Q (g + f) T a (wld W0 W1 W2 e d T) := by
  induction f with
  | zero => exact fun T a _ h => hE T a h
  | succ f ih =>
    intro T a inv h
    refine ⟨fun h0 => absurd h0 h.1.1, fun i hi => ?_⟩
    obtain ⟨o, v, ho, hv, hK⟩ := h.2 i hi
    obtain ⟨hun, x, hx, hwait⟩ := mem_ready.1 hi
    have hlt : i < T.size := by
      rcases Nat.lt_or_ge i T.size with h | h
      · exact h
      · simp [Array.getElem?_eq_none h] at hun
    have h2 := ih _ _ (inv.set hi (h.1.2 i hi)) hK
    have same : i ≠ e → i ≠ d → wld W0 W1 W2 e d (T.setIfInBounds i true) = wld W0 W1 W2 e d T := fun h1 h2 => by
      unfold wld; rw [getD_set_ne false h1, getD_set_ne false h2]
    unfold wpOp
    simp only [ho]
    rcases hv with ⟨hw, h1, h3, h4⟩ | ⟨⟨hne, hnd⟩, hw, rfl⟩
    · rw [if_pos hw]
      refine .inl ?_
      unfold Oper.wp
      by_cases hie : i = e
      · subst hie
        have hTd : T.getD d false = false := by
          cases hd : T.getD d false with
          | false => rfl
          | true =>
            obtain ⟨od, hod, ed, hed1, hed2, hed3⟩ := Region.waitsFor_spec hde
            have := inv.closed d od hod hd ed hed1 hed2
            rw [hed3, getD_both hun] at this
            cases this
        have hw0 : wld W0 W1 W2 i d T = W0 := by unfold wld; rw [hTd, getD_both hun]; rfl
        have hw1 : wld W0 W1 W2 i d (T.setIfInBounds i true) = W1 := by unfold wld; rw [getD_set_ne false hed, hTd]; simp [hlt]
        rw [hw1] at h2
        rw [hw0, h1 rfl]
        exact h2
      · by_cases hid : i = d
        · subst hid
          have hTe : T.getD e false = true := by
            obtain ⟨od, hod, ed, hed1, hed2, hed3⟩ := Region.waitsFor_spec hde
            obtain rfl : od = x := Option.some.inj (hod.symm.trans hx)
            rw [← hed3]
            exact hwait ed hed1 hed2
          have hw1 : wld W0 W1 W2 e i T = W1 := by unfold wld; rw [hTe, getD_both hun]; rfl
          have hw2 : wld W0 W1 W2 e i (T.setIfInBounds i true) = W2 := by unfold wld; simp [hlt]
          rw [hw2] at h2
          rw [hw1, h3 rfl]
          exact h2
        · rw [same hie hid] at h2
          have hr : (execOp a.eval o).run P (wld W0 W1 W2 e d T) = .ok (.value v) (wld W0 W1 W2 e d T) := by
            unfold wld
            split
            · exact (h4 hie hid).2.2
            · split
              · exact (h4 hie hid).2.1
              · exact (h4 hie hid).1
          rw [hr]
          exact h2
    · rw [same hne hnd] at h2
      rw [if_neg (by rw [hw]; exact Bool.false_ne_true)]
      exact h2

theorem AnyE.first {E : Array Bool → Act → Prop} (hsel : Region.noSelect ops = true) (hs : Region.sinkB .any ops n = true) (hc : Region.chainB .any ops n = true) (hn : n < ops.size)
    (hE : ∀ T a, E T a → ∀ j, j ∈ Region.ready .any ops T → n ≤ j) {i : Nat} {o : Oper} {v : Value} (ho : ops[i]? = some o) (hin : i < n) (f : Nat) :
    ∀ T a, HeadInv .any ops n T → i ∈ Region.ready .any ops T →
      (∀ j x, ops[j]? = some x → j ≠ i → T.getD j true = false → (∀ e ∈ x.after, Region.binds .any e = true → e.on ≠ i) → o.apart ops x = true) →
      GivesG P ops W0 W1 W2 e d i o a v → AnyE P ops W0 W1 W2 e d n E f (T.setIfInBounds i true) (a.put o.dst v) → AnyE P ops W0 W1 W2 e d n E (f + 1) T a := by
  have nosel := Region.noSelect_spec hsel
  induction f with
  | zero =>
    intro T a inv hi hap hy h
    have hlt : ∀ j, j ∈ Region.ready .any ops T → j < n := fun j hj =>
      Nat.lt_of_not_le fun hnj => tail_waits hs hc hn inv _ i rfl hin (mem_ready.1 hi).1 j hnj hj
    refine ⟨⟨fun h0 => by simp [h0] at hi, hlt⟩, fun j hj => ?_⟩
    rcases Nat.decEq j i with hne | rfl
    · exact absurd (hlt j hj) (Nat.not_lt.2 (hE _ _ h j (ready_mono hj hne)))
    · exact ⟨o, v, ho, hy, h⟩
  | succ f ih =>
    intro T a inv hi hap hy h
    have hun := (mem_ready.1 hi).1
    have hlt : ∀ j, j ∈ Region.ready .any ops T → j < n := fun j hj =>
      Nat.lt_of_not_le fun hnj => tail_waits hs hc hn inv _ i rfl hin hun j hnj hj
    refine ⟨⟨fun h0 => by simp [h0] at hi, hlt⟩, fun j hj => ?_⟩
    rcases Nat.decEq j i with hne | rfl
    · obtain ⟨hjun, x, hx, hwait⟩ := mem_ready.1 hj
      have hno : ∀ e ∈ x.after, Region.binds .any e = true → e.on ≠ i := fun e he hb h1 => by
        have h2 := hwait e he hb
        rw [h1, getD_both hun] at h2
        exact Bool.false_ne_true h2
      refine eOp_mono (fun a' h' => ?_) (eOp_put hx (hap j x hx hne hjun hno) (fun cs b => nosel i o cs b ho) (fun cs b => nosel j x cs b hx) hy (h.2 j (ready_mono hj hne)))
      refine ih _ a' (inv.set hj (hlt j hj)) (ready_mono hi (Ne.symm hne)) (fun k y hk hki hkT hky => ?_) h'.1 ?_
      · refine hap k y hk hki ?_ hky
        rcases Nat.decEq j k with hjk | rfl
        · rwa [getD_set_ne true hjk] at hkT
        · exact hjun
      · rw [Array.setIfInBounds_comm _ _ hne]
        exact h'.2
    · exact ⟨o, v, ho, hy, h⟩

/-- The walk of the first n operations in the text's order. -/
def wpE (P : Program) (ops : Array Oper) (W0 W1 W2 : World) (e d : Nat) (L : Act → Prop) : Nat → List Oper → Act → Prop
  | _, [], a => L a
  | k, o :: l, a => ∃ v, GivesG P ops W0 W1 W2 e d k o a v ∧ wpE P ops W0 W1 W2 e d L (k + 1) l (a.put o.dst v)

def lexE (ops : Array Oper) (g d : Nat) : Nat → Nat → Array Bool → Bool
  | 0, k, T => Region.seqB .any ops g k T && T.getD d false
  | f + 1, k, T => (Region.ready .any ops T).contains k && Region.free .any ops T k && lexE ops g d f (k + 1) (T.setIfInBounds k true)

theorem AnyE.text {g : Nat} {L : Act → Prop} (hsel : Region.noSelect ops = true) (hs : Region.sinkB .any ops n = true) (hc : Region.chainB .any ops n = true) (hn : n < ops.size) (l : List Oper) :
    ∀ k T a, (∀ j, j < l.length → ops[k + j]? = l[j]?) → k + l.length = n → HeadInv .any ops n T → lexE ops g d l.length k T = true →
      wpE P ops W0 W1 W2 e d L k l a → AnyE P ops W0 W1 W2 e d n (fun T' a' => (Region.seqB .any ops g n T' = true ∧ T'.getD d false = true) ∧ L a') l.length T a := by
  induction l with
  | nil =>
    intro k T a _ hk _ hB h
    obtain rfl : k = n := hk
    simp only [List.length_nil, lexE, Bool.and_eq_true] at hB
    exact ⟨hB, h⟩
  | cons o l ih =>
    intro k T a hl hk inv hB h
    have h0 : ops[k]? = some o := by have := hl 0 (by simp); simpa using this
    simp only [List.length_cons, lexE, Bool.and_eq_true, List.contains_iff_mem] at hB
    simp only [List.length_cons] at hk
    have hkn : k < n := by omega
    obtain ⟨v, hy, h2⟩ := h
    refine AnyE.first hsel hs hc hn (fun T' a' hT => seqB_ready hT.1.1) h0 hkn l.length T a inv hB.1.1 (Region.free_spec h0 hB.1.2) hy ?_
    refine ih (k + 1) _ _ (fun j hj => ?_) (by omega) (inv.set hB.1.1 hkn) hB.2 h2
    have := hl (j + 1) (by simp; omega)
    simpa [Nat.add_assoc, Nat.add_comm 1 j] using this
end

def tailE (ops : Array Oper) (n e d : Nat) : Bool :=
  Region.noSelect ops && decide (n < ops.size) && Region.sinkB .any ops n && Region.chainB .any ops n && lexE ops (ops.size - n) d n 0 (Array.replicate ops.size false) && decide (e ≠ d) && Region.waitsFor .any ops d e

/-- THE LAW: e makes what leads from the world behind the draw to W1, d what leads from there to W2. -/
theorem two_tail {P : Program} {id : Nat} {Q : Exit → Act → World → Prop} {a : Act} {w W1 W2 : World} {l : List Oper} (n e d : Nat) (hm : P.follows .mixedOrders = true) (hB : tailE l.toArray n e d = true)
    (h : wpE P l.toArray w.drew W1 W2 e d (fun a' => wpList P l.toArray Q (l.drop n) a' W2) 0 (l.take n) a) : (Code.region id l.toArray true).wp P Q a w := by
  simp only [tailE, Bool.and_eq_true, decide_eq_true_eq] at hB
  obtain ⟨⟨⟨⟨⟨⟨hsel, hn⟩, hs⟩, hc⟩, hx⟩, hed⟩, hde⟩ := hB
  have hsz : l.toArray.size = l.length := by simp
  have htl : (l.take n).length = n := by rw [List.length_take]; omega
  have inv : HeadInv .any l.toArray n (Array.replicate l.toArray.size false) :=
    ⟨Array.size_replicate, fun j x _ hT => (by rw [getD_replicate_false] at hT; cases hT), fun t _ ht => getD_in (by rw [Array.size_replicate]; exact ht) (getD_replicate_false _ _)⟩
  have hh := AnyE.text (P := P) (W0 := w.drew) (W1 := W1) (W2 := W2) (e := e) (d := d) (g := l.toArray.size - n) hsel hs hc hn (l.take n) 0 (Array.replicate l.toArray.size false) a
    (fun j hj => by rw [htl] at hj; simp [hj]) (by rw [htl]; omega) inv (by rw [htl]; exact hx) h
  refine wp_region_any hm ?_
  have h2 := AnyE.sound (Q := Q) (g := l.toArray.size - n) hed hde (fun T a' hT => by
    have hw : wld w.drew W1 W2 e d T = W2 := by unfold wld; rw [if_pos hT.1.2]
    rw [hw]
    have := wpAny_of_seq (md := .any) (Q' := Q) (l.drop n) n T a' W2 (fun j => by simp [List.getElem?_drop]) (by rw [List.length_drop, ← hsz]; exact hT.1.1) hT.2
    rwa [List.length_drop, ← hsz] at this) _ _ _ inv hh
  have hw0 : wld w.drew W1 W2 e d (Array.replicate l.toArray.size false) = w.drew := by unfold wld; rw [getD_replicate_false, getD_replicate_false]; rfl
  rw [hw0, htl, show l.toArray.size - n + n = l.toArray.size by omega] at h2
  exact h2
/-- one operation of the walk -/
theorem wpE_step {P : Program} {ops : Array Oper} {W0 W1 W2 : World} {e d k : Nat} {L : Act → Prop} {o : Oper} {l : List Oper} {a : Act}
    (h : ∀ K : Act → Prop, (∀ a, wpE P ops W0 W1 W2 e d L (k + 1) l a → K a) → ∃ v, GivesG P ops W0 W1 W2 e d k o a v ∧ K (a.put o.dst v)) : wpE P ops W0 W1 W2 e d L k (o :: l) a :=
  h _ (fun _ h => h)
theorem wpE_nil {P : Program} {ops : Array Oper} {W0 W1 W2 : World} {e d k : Nat} {L : Act → Prop} {a : Act} (h : L a) : wpE P ops W0 W1 W2 e d L k [] a := h
/-- what append yields -/
theorem append_run {P : Program} {o : Oper} {a : Act} {w w' : World} {s x : Operand} {t : TypeId} {v v' : Value} {y : Value} (hop : o.op = Op.call { callee := Callee.builtin Builtin.append, args := #[s, x], argTypes := #[t, t] })
    (hs : a.eval s = v) (hx : a.eval x = y) (hrun : (Builtin.append_ #[t, t] o.type #[v, y]).run P w = .ok v' w') : (execOp a.eval o).run P w = .ok (.value v') w' := by
  simp [execOp, hop, resolve, invoke, builtin, hs, hx, hrun, Result.andThen]
end Go.Proofs.Ytkobfjiadfedlaa
