/- A region of code that draws its order, whose first n operations read or call what only makes new memory, and whose last ones stand in one forced order: it is enough to walk it once, in the text's order. Conditions: the program follows mixed orders; the order of the region passes the check lexTailB. -/
import Derived.StillTail
import Derived.Deep.Quiet
import Derived.Below
import Derived.WalkKit
namespace Go.Proofs.YtmpkfpabejpbkaaGreatDoor.C
open Go Go.RowKit
set_option linter.unusedVariables false
section
variable {P : Program} {ops : Array Oper} {C : World → Prop} {n : Nat}

/-- Whatever order is drawn, till all of the first n operations have come up. -/
def AnyHead (P : Program) (ops : Array Oper) (C : World → Prop) (n : Nat) (E : Array Bool → Act → Prop) : Nat → Array Bool → Act → Prop
  | 0, T, a => E T a
  | f + 1, T, a => (Region.ready .any ops T ≠ [] ∧ ∀ i, i ∈ Region.ready .any ops T → i < n) ∧
      ∀ i, i ∈ Region.ready .any ops T → qOp P ops C i (AnyHead P ops C n E f (T.setIfInBounds i true)) a

theorem AnyHead.sound {E : Array Bool → Act → Prop} {Q : Exit → Act → World → Prop} {g : Nat}
    (hE : ∀ T a w, C w → E T a → wpAny P .any ops Q g T a w) (f : Nat) :
    ∀ T a w, C w → AnyHead P ops C n E f T a → wpAny P .any ops Q (g + f) T a w := by
  induction f with
  | zero => exact fun T a w hw h => hE T a w hw h
  | succ f ih =>
    intro T a w hw h
    refine ⟨fun h0 => absurd h0 h.1.1, fun i hi => ?_⟩
    exact wpOp_of_qOp hw (fun a' w' hw' h' => ih _ a' w' hw' h') (h.2 i hi)

/-- A quiet operation that may come up now may as well come first. -/
theorem AnyHead.first {E : Array Bool → Act → Prop} (hsel : Region.noSelect ops = true) (hs : Region.sinkB .any ops n = true) (hc : Region.chainB .any ops n = true) (hn : n < ops.size)
    (hE : ∀ T a, E T a → ∀ j, j ∈ Region.ready .any ops T → n ≤ j) {i : Nat} {o : Oper} {v : Value} (ho : ops[i]? = some o) (hin : i < n) (f : Nat) :
    ∀ T a, HeadInv .any ops n T → i ∈ Region.ready .any ops T →
      (∀ j x, ops[j]? = some x → j ≠ i → T.getD j true = false → (∀ e ∈ x.after, Region.binds .any e = true → e.on ≠ i) → o.apart ops x = true) →
      YieldsIn P ops C o v a → AnyHead P ops C n E f (T.setIfInBounds i true) (a.put o.dst v) → AnyHead P ops C n E (f + 1) T a := by
  have nosel := Region.noSelect_spec hsel
  induction f with
  | zero =>
    intro T a inv hi hap hy h
    have hlt : ∀ j, j ∈ Region.ready .any ops T → j < n := fun j hj =>
      Nat.lt_of_not_le fun hnj => tail_waits hs hc hn inv _ i rfl hin (mem_ready.1 hi).1 j hnj hj
    refine ⟨⟨fun h0 => by simp [h0] at hi, hlt⟩, fun j hj => ?_⟩
    rcases Nat.decEq j i with hne | rfl
    · exact absurd (hlt j hj) (Nat.not_lt.2 (hE _ _ h j (ready_mono hj hne)))
    · exact hy.qOp ho h
  | succ f ih =>
    intro T a inv hi hap hy h
    have hun := (mem_ready.1 hi).1
    have hlt : ∀ j, j ∈ Region.ready .any ops T → j < n := fun j hj =>
      Nat.lt_of_not_le fun hnj => tail_waits hs hc hn inv _ i rfl hin hun j hnj hj
    refine ⟨⟨fun h0 => by simp [h0] at hi, hlt⟩, fun j hj => ?_⟩
    rcases Nat.decEq j i with hne | rfl
    · obtain ⟨hjun, x, hx, hwait⟩ := mem_ready.1 hj
      have hno : ∀ e ∈ x.after, Region.binds .any e = true → e.on ≠ i := fun e he hb h1 => by
        have h2 := hwait e he hb
        rw [h1, getD_both hun] at h2
        exact Bool.false_ne_true h2
      refine qOp_mono (fun a' h' => ?_) (qOp_put hx (hap j x hx hne hjun hno) (fun cs b => nosel i o cs b ho) (fun cs b => nosel j x cs b hx) hy (h.2 j (ready_mono hj hne)))
      refine ih _ a' (inv.set hj (hlt j hj)) (ready_mono hi (Ne.symm hne)) (fun k y hk hki hkT hky => ?_) h'.1 ?_
      · refine hap k y hk hki ?_ hky
        rcases Nat.decEq j k with hjk | rfl
        · rwa [getD_set_ne true hjk] at hkT
        · exact hjun
      · rw [Array.setIfInBounds_comm _ _ hne]
        exact h'.2
    · exact hy.qOp ho h

theorem AnyHead.text {g : Nat} {L : Act → Prop} (hsel : Region.noSelect ops = true) (hs : Region.sinkB .any ops n = true) (hc : Region.chainB .any ops n = true) (hn : n < ops.size) (l : List Oper) :
    ∀ k T a, (∀ j, j < l.length → ops[k + j]? = l[j]?) → k + l.length = n → HeadInv .any ops n T → Region.lexHead .any ops g l.length k T = true →
      wpQuiet P ops C L l a → AnyHead P ops C n (fun T' a' => Region.seqB .any ops g n T' = true ∧ L a') l.length T a := by
  induction l with
  | nil =>
    intro k T a _ hk _ hB h
    obtain rfl : k = n := hk
    exact ⟨hB, h⟩
  | cons o l ih =>
    intro k T a hl hk inv hB h
    have h0 : ops[k]? = some o := by have := hl 0 (by simp); simpa using this
    simp only [List.length_cons, Region.lexHead, Bool.and_eq_true, List.contains_iff_mem] at hB
    simp only [List.length_cons] at hk
    have hkn : k < n := by omega
    obtain ⟨v, hy, h2⟩ := yieldsIn_of_qOp (P := P) (C := C) h0 (a := a) (K := wpQuiet P ops C L l) (by unfold qOp; rw [h0]; exact h)
    refine AnyHead.first hsel hs hc hn (fun T' a' hT => seqB_ready hT.1) h0 hkn l.length T a inv hB.1.1 (Region.free_spec h0 hB.1.2) hy ?_
    refine ih (k + 1) _ _ (fun j hj => ?_) (by omega) (inv.set hB.1.1 hkn) hB.2 h2
    have := hl (j + 1) (by simp; omega)
    simpa [Nat.add_assoc, Nat.add_comm 1 j] using this
end

/-- THE LAW: a region that draws its order, walked once. -/
theorem quiet_tail {P : Program} {C : World → Prop} {id : Nat} {Q : Exit → Act → World → Prop} {a : Act} {w : World} {l : List Oper} (n : Nat) (hm : P.follows .mixedOrders = true) (hB : Region.lexTailB .any l.toArray n = true) (hC : C w.drew)
    (h : wpQuiet P l.toArray C (fun a' => ∀ w', C w' → wpList P l.toArray Q (l.drop n) a' w') (l.take n) a) : (Code.region id l.toArray true).wp P Q a w := by
  simp only [Region.lexTailB, Bool.and_eq_true, decide_eq_true_eq] at hB
  have hn := hB.1.1.1.2
  have hsz : l.toArray.size = l.length := by simp
  have htl : (l.take n).length = n := by rw [List.length_take]; omega
  have inv : HeadInv .any l.toArray n (Array.replicate l.toArray.size false) :=
    ⟨Array.size_replicate, fun j x _ hT => (by rw [getD_replicate_false] at hT; cases hT), fun t _ ht => getD_in (by rw [Array.size_replicate]; exact ht) (getD_replicate_false _ _)⟩
  have hh := AnyHead.text (P := P) (C := C) (g := l.toArray.size - n) hB.1.1.1.1 hB.1.1.2 hB.1.2 hn (l.take n) 0 (Array.replicate l.toArray.size false) a
    (fun j hj => by rw [htl] at hj; simp [hj]) (by rw [htl]; omega) inv (by rw [htl]; exact hB.2) h
  refine wp_region_any hm ?_
  have h2 := AnyHead.sound (Q := Q) (g := l.toArray.size - n) (fun T a' w' hw' hT => by
    have := wpAny_of_seq (md := .any) (Q' := Q) (l.drop n) n T a' w' (fun j => by simp [List.getElem?_drop]) (by rw [List.length_drop, ← hsz]; exact hT.1) (hT.2 w' hw')
    rwa [List.length_drop, ← hsz] at this) _ _ _ _ hC hh
  rw [htl, show l.toArray.size - n + n = l.toArray.size by omega] at h2
  exact h2

/-- A world to which only new memory has come since w0. -/
structure Ext (w0 : World) where
  w : World
  h : Below w0.heap.size w0 w
theorem Ext.cell {w0 : World} (x : Ext w0) (a : Addr) (h : (w0.cell? a).isSome = true) : x.w.cell? a = w0.cell? a := by
  obtain ⟨v, hv⟩ := Option.isSome_iff_exists.1 h
  exact x.h.cell (World.block_lt_of_cell? w0 a hv)
theorem Ext.froz {w0 : World} (x : Ext w0) (a : Addr) (h : (w0.cell? a).isSome = true) : x.w.frozen? a = w0.frozen? a := by
  obtain ⟨v, hv⟩ := Option.isSome_iff_exists.1 h
  exact x.h.frozen (World.block_lt_of_cell? w0 a hv)
def Ext.start (w : World) : Ext w := ⟨w.drew, (Below.refl _ _).drew⟩
instance (w : World) : Nonempty (Ext w) := ⟨Ext.start w⟩
theorem Ext.call {P : Program} {f : FuncId} {args : Array Value} {w0 : World} {x : Ext w0} {v : Value} (h : Calls P f args x.w fun e w' => e = .returned v ∧ Below x.w.heap.size x.w w') :
    Calls P f args x.w fun e w'' => e = .returned v ∧ ∃ y : Ext w0, w'' = y.w :=
  h.mono fun _ w' hh => ⟨hh.1, ⟨w', x.h.trans (hh.2.mono x.h.size)⟩, rfl⟩
/-- The law at the class of such worlds. -/
theorem ext_tail {P : Program} {id : Nat} {Q : Exit → Act → World → Prop} {a : Act} {w : World} {l : List Oper} (n : Nat) (hm : P.follows .mixedOrders = true) (hB : Region.lexTailB .any l.toArray n = true)
    (h : wpQuiet P l.toArray (fun w' => ∃ x : Ext w, w' = x.w) (fun a' => ∀ w', (∃ x : Ext w, w' = x.w) → wpList P l.toArray Q (l.drop n) a' w') (l.take n) a) : (Code.region id l.toArray true).wp P Q a w :=
  quiet_tail n hm hB ⟨Ext.start w, rfl⟩ h
theorem ext_all {P : Program} {id : Nat} {Q : Exit → Act → World → Prop} {a : Act} {w : World} {l : List Oper} (hm : P.follows .mixedOrders = true) (hB : Region.lexB .any l.toArray = true)
    (h : wpQuiet P l.toArray (fun w' => ∃ x : Ext w, w' = x.w) (fun a' => ∀ w', (∃ x : Ext w, w' = x.w) → Q .normal a' w') l a) : (Code.region id l.toArray true).wp P Q a w :=
  wp_region_quiet (C := fun w' => ∃ x : Ext w, w' = x.w) hm hB ⟨Ext.start w, rfl⟩ (by simpa using h)
end Go.Proofs.YtmpkfpabejpbkaaGreatDoor.C
