/- A region of code that draws its order, some of whose first operations make memory and leave one of several values (an address of new memory): it is enough to walk it once, in the text's order, at whatever values these are. Conditions: those of the theorem; what a call hands back is given by a function of the callee and its arguments. -/
import Derived.Test.YtmpkfpabejpbkaaGreatDoorCQx
import Derived.Test.YtmpkfpabejpbkaaGreatDoorJCQm
import Derived.Deep.DeepCutAuto
namespace Go.Proofs.YtmpkfpabejpbkaaGreatDoor.C
open Go Go.RowKit
set_option linter.unusedVariables false
section
variable {P : Program} {ops : Array Oper} {C : World → Prop} {cv : FuncId → Array Value → Value} {n : Nat}
/-- what an operation comes to: some value of V, and a world of the class -/
def upS (P : Program) (C : World → Prop) (cv : FuncId → Array Value → Value) (V : Value → Prop) : Result Next → Prop
  | .ok (.value u) w' => C w' ∧ V u
  | .ok .skip w' => C w' ∧ V undef
  | .ok (.enter f args) w' => C w' ∧ V = (fun u => u = cv f args) ∧ Calls P f args w' fun e w'' => e = .returned (cv f args) ∧ C w''
  | _ => False
/-- the operation o, left to whatever follows -/
def opS (P : Program) (C : World → Prop) (cv : FuncId → Array Value → Value) (o : Oper) (a : Act) (K : Act → Prop) : Prop :=
  ∃ V : Value → Prop, (∃ v, V v) ∧ (∀ w, C w → upS P C cv V ((execOp a.eval o).run P w)) ∧ ∀ v, V v → K (a.put o.dst v)
def wpS (P : Program) (ops : Array Oper) (C : World → Prop) (cv : FuncId → Array Value → Value) (Q : Act → Prop) : List Oper → Act → Prop
  | [], a => Q a
  | o :: rest, a => if Region.wanted o (yielded ops a.tmps) then opS P C cv o a (wpS P ops C cv Q rest) else wpS P ops C cv Q rest (a.put o.dst undef)
def atS (P : Program) (ops : Array Oper) (C : World → Prop) (cv : FuncId → Array Value → Value) (i : Nat) (K : Act → Prop) (a : Act) : Prop :=
  match ops[i]? with
  | none => K a
  | some o => if Region.wanted o (yielded ops a.tmps) then opS P C cv o a K else K (a.put o.dst undef)
theorem opS_mono {o : Oper} {a : Act} {K K' : Act → Prop} (h : ∀ a, K a → K' a) (hh : opS P C cv o a K) : opS P C cv o a K' := by
  obtain ⟨V, h1, h2, h3⟩ := hh
  exact ⟨V, h1, h2, fun v hv => h _ (h3 v hv)⟩
theorem atS_mono {i : Nat} {a : Act} {K K' : Act → Prop} (h : ∀ a, K a → K' a) (hh : atS P ops C cv i K a) : atS P ops C cv i K' a := by
  unfold atS at *
  cases ho : ops[i]? with
  | none => rw [ho] at hh; exact h _ hh
  | some o =>
    rw [ho] at hh
    dsimp only at hh ⊢
    split
    · rename_i hw; rw [if_pos hw] at hh; exact opS_mono h hh
    · rename_i hw; rw [if_neg hw] at hh; exact h _ hh
/-- what the walk of o shows: its values, in whatever world of the class -/
def YieldsS (P : Program) (ops : Array Oper) (C : World → Prop) (cv : FuncId → Array Value → Value) (o : Oper) (V : Value → Prop) (a : Act) : Prop :=
  (Region.wanted o (yielded ops a.tmps) = true ∧ ∀ w, C w → upS P C cv V ((execOp a.eval o).run P w)) ∨ (Region.wanted o (yielded ops a.tmps) = false ∧ V = fun u => u = undef)
theorem YieldsS.of_same {o : Oper} {V : Value → Prop} {a a' : Act} (hy : YieldsS P ops C cv o V a) (he : execOp a'.eval o = execOp a.eval o)
    (hw : Region.wanted o (yielded ops a'.tmps) = Region.wanted o (yielded ops a.tmps)) : YieldsS P ops C cv o V a' := by
  unfold YieldsS at *
  rw [he, hw]
  exact hy
theorem YieldsS.at {i : Nat} {o : Oper} {V : Value → Prop} {a : Act} (hi : ops[i]? = some o) (hV : ∃ v, V v) (hy : YieldsS P ops C cv o V a) {K : Act → Prop} (h : ∀ v, V v → K (a.put o.dst v)) : atS P ops C cv i K a := by
  unfold atS
  rw [hi]
  dsimp only
  rcases hy with ⟨hw, h2⟩ | ⟨hw, rfl⟩
  · rw [if_pos hw]; exact ⟨V, hV, h2, h⟩
  · rw [if_neg (by rw [hw]; decide)]; exact h _ rfl
theorem yieldsS_of {i : Nat} {o : Oper} {a : Act} {K : Act → Prop} (hi : ops[i]? = some o) (h : atS P ops C cv i K a) : ∃ V, (∃ v, V v) ∧ YieldsS P ops C cv o V a ∧ ∀ v, V v → K (a.put o.dst v) := by
  unfold atS at h
  rw [hi] at h
  dsimp only at h
  by_cases hw : Region.wanted o (yielded ops a.tmps) = true
  · rw [if_pos hw] at h
    obtain ⟨V, h1, h2, h3⟩ := h
    exact ⟨V, h1, .inl ⟨hw, h2⟩, h3⟩
  · rw [if_neg hw] at h
    exact ⟨fun u => u = undef, ⟨_, rfl⟩, .inr ⟨by simpa using hw, rfl⟩, fun v hv => hv ▸ h⟩
/-- what holds of one result at each of several sets of values holds at their meet -/
theorem upS_meet {X : Type} [Nonempty X] {V : X → Value → Prop} {r : Result Next} (h : ∀ x, upS P C cv (V x) r) : upS P C cv (fun u => ∀ x, V x u) r ∧ ∃ u, ∀ x, V x u := by
  have x0 := Classical.choice (inferInstance : Nonempty X)
  cases r with
  | halt e w => exact (h x0).elim
  | ok y w =>
    cases y with
    | value u => exact ⟨⟨(h x0).1, fun x => (h x).2⟩, u, fun x => (h x).2⟩
    | skip => exact ⟨⟨(h x0).1, fun x => (h x).2⟩, undef, fun x => (h x).2⟩
    | enter f args =>
      have e : ∀ x, V x = fun u => u = cv f args := fun x => (h x).2.1
      refine ⟨⟨(h x0).1, funext fun u => propext ⟨fun hu => ?_, fun hu x => ?_⟩, (h x0).2.2⟩, cv f args, fun x => ?_⟩
      · have := hu x0; rw [e x0] at this; exact this
      · rw [e x]; exact hu
      · rw [e x]
    | _ => exact (h x0).elim
theorem atS_put {j : Nat} {oi oj : Oper} {V : Value → Prop} (hC : ∃ w, C w) (hj : ops[j]? = some oj) (hap : oi.apart ops oj = true)
    (hsi : ∀ cs b, oi.op ≠ .select cs b) (hsj : ∀ cs b, oj.op ≠ .select cs b) {K : Act → Prop} {a : Act} (hV : ∃ v, V v)
    (hy : YieldsS P ops C cv oi V a) (h : ∀ v, V v → atS P ops C cv j K (a.put oi.dst v)) :
    atS P ops C cv j (fun a' => YieldsS P ops C cv oi V a' ∧ ∀ v, V v → K (a'.put oi.dst v)) a := by
  obtain ⟨h1, h2, h3⟩ := Oper.apart_spec hap
  have keep : ∀ u, YieldsS P ops C cv oi V (a.put oj.dst u) := fun u => hy.of_same (execOp_put oi hsi a oj.dst u h3) (wanted_put oi a oj.dst u h3)
  unfold atS at *
  rw [hj] at *
  dsimp only at *
  by_cases hw : Region.wanted oj (yielded ops a.tmps) = true
  · rw [if_pos hw]
    have h' : ∀ x : { v // V v }, ∃ W : Value → Prop, (∃ v, W v) ∧ (∀ w, C w → upS P C cv W ((execOp a.eval oj).run P w)) ∧ ∀ u, W u → K ((a.put oj.dst u).put oi.dst x.1) := by
      rintro ⟨v, hv⟩
      have := h v hv
      rw [wanted_put oj a oi.dst v h1, if_pos hw] at this
      obtain ⟨W, w1, w2, w3⟩ := this
      refine ⟨W, w1, fun w hw' => ?_, fun u hu => ?_⟩
      · have := w2 w hw'
        rwa [execOp_put oj hsj a oi.dst v h1] at this
      · rw [← Act.put_comm a v u h2]; exact w3 u hu
    obtain ⟨v0, hv0⟩ := hV
    haveI : Nonempty { v // V v } := ⟨⟨v0, hv0⟩⟩
    obtain ⟨W, hW⟩ := Classical.axiomOfChoice h'
    obtain ⟨w0, hw0⟩ := hC
    refine ⟨fun u => ∀ x, W x u, (upS_meet fun x => (hW x).2.1 w0 hw0).2, fun w hw' => (upS_meet fun x => (hW x).2.1 w hw').1, fun u hu => ⟨keep u, fun v hv => (hW ⟨v, hv⟩).2.2 u (hu ⟨v, hv⟩)⟩⟩
  · rw [if_neg hw]
    refine ⟨keep _, fun v hv => ?_⟩
    have := h v hv
    rw [wanted_put oj a oi.dst v h1, if_neg hw] at this
    rw [← Act.put_comm a v _ h2]
    exact this
theorem wpOp_of_atS {i : Nat} {a : Act} {K : Act → Prop} {K' : Act → World → Prop} {Q' : Exit → Act → World → Prop} {w : World} (hC : C w) (h : ∀ a w', C w' → K a → K' a w') (hh : atS P ops C cv i K a) : wpOp P ops Q' i K' a w := by
  unfold atS at hh
  unfold wpOp
  cases ho : ops[i]? with
  | none => rw [ho] at hh; exact h _ _ hC hh
  | some o =>
    rw [ho] at hh
    dsimp only at hh ⊢
    split
    · rename_i hw
      rw [if_pos hw] at hh
      obtain ⟨V, _, h2, h3⟩ := hh
      have hr := h2 w hC
      refine .inl ?_
      unfold Oper.wp
      generalize (execOp a.eval o).run P w = r at *
      cases r with
      | halt x w' => exact hr.elim
      | ok x w' =>
        cases x with
        | value u => exact h _ _ hr.1 (h3 u hr.2)
        | skip => exact h _ _ hr.1 (h3 undef hr.2)
        | enter f args =>
          obtain ⟨hw', hV, hc⟩ := hr
          refine hc.mono ?_
          rintro e w'' ⟨rfl, hw''⟩
          exact h _ _ hw'' (h3 _ (by rw [hV]))
        | _ => exact hr.elim
    · rename_i hw; rw [if_neg hw] at hh; exact h _ _ hC hh
/-- Whatever order is drawn, till all of the first n operations have come up. -/
def HeadS (P : Program) (ops : Array Oper) (C : World → Prop) (cv : FuncId → Array Value → Value) (n : Nat) (E : Array Bool → Act → Prop) : Nat → Array Bool → Act → Prop
  | 0, T, a => E T a
  | f + 1, T, a => (Region.ready .any ops T ≠ [] ∧ ∀ i, i ∈ Region.ready .any ops T → i < n) ∧
      ∀ i, i ∈ Region.ready .any ops T → atS P ops C cv i (HeadS P ops C cv n E f (T.setIfInBounds i true)) a
theorem HeadS.sound {E : Array Bool → Act → Prop} {Q : Exit → Act → World → Prop} {g : Nat}
    (hE : ∀ T a w, C w → E T a → wpAny P .any ops Q g T a w) (f : Nat) :
    ∀ T a w, C w → HeadS P ops C cv n E f T a → wpAny P .any ops Q (g + f) T a w := by
  induction f with
  | zero => exact fun T a w hw h => hE T a w hw h
  | succ f ih =>
    intro T a w hw h
    refine ⟨fun h0 => absurd h0 h.1.1, fun i hi => ?_⟩
    exact wpOp_of_atS hw (fun a' w' hw' h' => ih _ a' w' hw' h') (h.2 i hi)
theorem HeadS.first {E : Array Bool → Act → Prop} (hC : ∃ w, C w) (hsel : Region.noSelect ops = true) (hs : Region.sinkB .any ops n = true) (hc : Region.chainB .any ops n = true) (hn : n < ops.size)
    (hE : ∀ T a, E T a → ∀ j, j ∈ Region.ready .any ops T → n ≤ j) {i : Nat} {o : Oper} {V : Value → Prop} (hV : ∃ v, V v) (ho : ops[i]? = some o) (hin : i < n) (f : Nat) :
    ∀ T a, HeadInv .any ops n T → i ∈ Region.ready .any ops T →
      (∀ j x, ops[j]? = some x → j ≠ i → T.getD j true = false → (∀ e ∈ x.after, Region.binds .any e = true → e.on ≠ i) → o.apart ops x = true) →
      YieldsS P ops C cv o V a → (∀ v, V v → HeadS P ops C cv n E f (T.setIfInBounds i true) (a.put o.dst v)) → HeadS P ops C cv n E (f + 1) T a := by
  have nosel := Region.noSelect_spec hsel
  obtain ⟨v0, hv0⟩ := hV
  induction f with
  | zero =>
    intro T a inv hi hap hy h
    have hlt : ∀ j, j ∈ Region.ready .any ops T → j < n := fun j hj =>
      Nat.lt_of_not_le fun hnj => tail_waits hs hc hn inv _ i rfl hin (mem_ready.1 hi).1 j hnj hj
    refine ⟨⟨fun h0 => by simp [h0] at hi, hlt⟩, fun j hj => ?_⟩
    rcases Nat.decEq j i with hne | rfl
    · exact absurd (hlt j hj) (Nat.not_lt.2 (hE _ _ (h v0 hv0) j (ready_mono hj hne)))
    · exact hy.at ho ⟨v0, hv0⟩ h
  | succ f ih =>
    intro T a inv hi hap hy h
    have hun := (mem_ready.1 hi).1
    have hlt : ∀ j, j ∈ Region.ready .any ops T → j < n := fun j hj =>
      Nat.lt_of_not_le fun hnj => tail_waits hs hc hn inv _ i rfl hin hun j hnj hj
    refine ⟨⟨fun h0 => by simp [h0] at hi, hlt⟩, fun j hj => ?_⟩
    rcases Nat.decEq j i with hne | rfl
    · obtain ⟨hjun, x, hx, hwait⟩ := mem_ready.1 hj
      have hno : ∀ e ∈ x.after, Region.binds .any e = true → e.on ≠ i := fun e he hb h1 => by
        have h2 := hwait e he hb
        rw [h1, getD_both hun] at h2
        exact Bool.false_ne_true h2
      refine atS_mono (fun a' h' => ?_) (atS_put hC hx (hap j x hx hne hjun hno) (fun cs b => nosel i o cs b ho) (fun cs b => nosel j x cs b hx) ⟨v0, hv0⟩ hy (fun v hv => (h v hv).2 j (ready_mono hj hne)))
      refine ih _ a' (inv.set hj (hlt j hj)) (ready_mono hi (Ne.symm hne)) (fun k y hk hki hkT hky => ?_) h'.1 (fun v hv => ?_)
      · refine hap k y hk hki ?_ hky
        rcases Nat.decEq j k with hjk | rfl
        · rwa [getD_set_ne true hjk] at hkT
        · exact hjun
      · rw [Array.setIfInBounds_comm _ _ hne]
        exact h'.2 v hv
    · exact hy.at ho ⟨v0, hv0⟩ h
theorem HeadS.text {g : Nat} {L : Act → Prop} (hC : ∃ w, C w) (hsel : Region.noSelect ops = true) (hs : Region.sinkB .any ops n = true) (hc : Region.chainB .any ops n = true) (hn : n < ops.size) (l : List Oper) :
    ∀ k T a, (∀ j, j < l.length → ops[k + j]? = l[j]?) → k + l.length = n → HeadInv .any ops n T → Region.lexHead .any ops g l.length k T = true →
      wpS P ops C cv L l a → HeadS P ops C cv n (fun T' a' => Region.seqB .any ops g n T' = true ∧ L a') l.length T a := by
  induction l with
  | nil =>
    intro k T a _ hk _ hB h
    obtain rfl : k = n := hk
    exact ⟨hB, h⟩
  | cons o l ih =>
    intro k T a hl hk inv hB h
    have h0 : ops[k]? = some o := by have := hl 0 (by simp); simpa using this
    simp only [List.length_cons, Region.lexHead, Bool.and_eq_true, List.contains_iff_mem] at hB
    simp only [List.length_cons] at hk
    have hkn : k < n := by omega
    obtain ⟨V, hV, hy, h2⟩ := yieldsS_of (P := P) (C := C) (cv := cv) h0 (a := a) (K := wpS P ops C cv L l) (by unfold atS; rw [h0]; exact h)
    refine HeadS.first hC hsel hs hc hn (fun T' a' hT => seqB_ready hT.1) hV h0 hkn l.length T a inv hB.1.1 (Region.free_spec h0 hB.1.2) hy (fun v hv => ?_)
    refine ih (k + 1) _ _ (fun j hj => ?_) (by omega) (inv.set hB.1.1 hkn) hB.2 (h2 v hv)
    have := hl (j + 1) (by simp; omega)
    simpa [Nat.add_assoc, Nat.add_comm 1 j] using this
/-- one operation that yields one value, or calls -/
def upQ (P : Program) (C : World → Prop) (cv : FuncId → Array Value → Value) (w : World) (v : Value) : Result Next → Prop
  | .ok (.value u) w' => w' = w ∧ u = v
  | .ok .skip w' => w' = w ∧ v = undef
  | .ok (.enter f args) w' => w' = w ∧ v = cv f args ∧ Calls P f args w' fun e w'' => e = .returned (cv f args) ∧ C w''
  | _ => False
theorem upS_of_upQ {w : World} {v : Value} {r : Result Next} (hC : C w) (h : upQ P C cv w v r) : upS P C cv (fun u => u = v) r := by
  cases r with
  | halt x w' => exact h.elim
  | ok x w' =>
    cases x with
    | value u => obtain ⟨rfl, rfl⟩ := h; exact ⟨hC, rfl⟩
    | skip => obtain ⟨rfl, rfl⟩ := h; exact ⟨hC, rfl⟩
    | enter f args => obtain ⟨rfl, rfl, h⟩ := h; exact ⟨hC, rfl, h⟩
    | _ => exact h.elim
def opQ (P : Program) (C : World → Prop) (cv : FuncId → Array Value → Value) (o : Oper) (a : Act) (K : Act → Prop) : Prop :=
  ∃ v, (∀ w, C w → upQ P C cv w v ((execOp a.eval o).run P w)) ∧ K (a.put o.dst v)
theorem bs_step {Q : Act → Prop} {a : Act} {o : Oper} {rest : List Oper} (h : ∀ K : Act → Prop, (∀ a, Box (wpS P ops C cv Q rest a) → K a) → Box (if Region.wanted o (yielded ops a.tmps) then opQ P C cv o a K else K (a.put o.dst undef))) : Box (wpS P ops C cv Q (o :: rest) a) := by
  refine ⟨?_⟩
  have h1 := (h (wpS P ops C cv Q rest) (fun a hb => hb.out)).out
  show if _ then _ else _
  split
  · rename_i hw
    rw [if_pos hw] at h1
    obtain ⟨v, h2, h3⟩ := h1
    exact ⟨fun u => u = v, ⟨v, rfl⟩, fun w hC => upS_of_upQ hC (h2 w hC), fun u hu => hu ▸ h3⟩
  · rename_i hw
    rw [if_neg hw] at h1
    exact h1
/-- one operation that leaves one of several values -/
theorem bs_some {Q : Act → Prop} {a : Act} {o : Oper} {rest : List Oper} (V : Value → Prop) (hV : ∃ v, V v) (hw : Region.wanted o (yielded ops a.tmps) = true) (h1 : ∀ w, C w → upS P C cv V ((execOp a.eval o).run P w)) (h2 : ∀ v, V v → Box (wpS P ops C cv Q rest (a.put o.dst v))) : Box (wpS P ops C cv Q (o :: rest) a) := by
  refine ⟨?_⟩
  show if _ then _ else _
  rw [if_pos hw]
  exact ⟨V, hV, h1, fun v hv => (h2 v hv).out⟩
theorem bs_nil {Q : Act → Prop} {a : Act} (h : Q a) : Box (wpS P ops C cv Q [] a) := ⟨h⟩
end
attribute [go_sem] opQ upQ
/-- THE LAW -/
theorem some_tail {P : Program} {C : World → Prop} {id : Nat} {Q : Exit → Act → World → Prop} {a : Act} {w : World} {l : List Oper} (cv : FuncId → Array Value → Value) (n : Nat) (hm : P.follows .mixedOrders = true) (hB : Region.lexTailB .any l.toArray n = true) (hC : C w.drew)
    (h : Box (wpS P l.toArray C cv (fun a' => ∀ w', C w' → wpList P l.toArray Q (l.drop n) a' w') (l.take n) a)) : (Code.region id l.toArray true).wp P Q a w := by
  simp only [Region.lexTailB, Bool.and_eq_true, decide_eq_true_eq] at hB
  have hn := hB.1.1.1.2
  have hsz : l.toArray.size = l.length := by simp
  have htl : (l.take n).length = n := by rw [List.length_take]; omega
  have inv : HeadInv .any l.toArray n (Array.replicate l.toArray.size false) :=
    ⟨Array.size_replicate, fun j x _ hT => (by rw [getD_replicate_false] at hT; cases hT), fun t _ ht => getD_in (by rw [Array.size_replicate]; exact ht) (getD_replicate_false _ _)⟩
  have hh := HeadS.text (P := P) (C := C) (cv := cv) (g := l.toArray.size - n) ⟨_, hC⟩ hB.1.1.1.1 hB.1.1.2 hB.1.2 hn (l.take n) 0 (Array.replicate l.toArray.size false) a
    (fun j hj => by rw [htl] at hj; simp [hj]) (by rw [htl]; omega) inv (by rw [htl]; exact hB.2) h.out
  refine wp_region_any hm ?_
  have h2 := HeadS.sound (Q := Q) (g := l.toArray.size - n) (fun T a' w' hw' hT => by
    have := wpAny_of_seq (md := .any) (Q' := Q) (l.drop n) n T a' w' (fun j => by simp [List.getElem?_drop]) (by rw [List.length_drop, ← hsz]; exact hT.1) (hT.2 w' hw')
    rwa [List.length_drop, ← hsz] at this) _ _ _ _ hC hh
  rw [htl, show l.toArray.size - n + n = l.toArray.size by omega] at h2
  exact h2
theorem ext_some {P : Program} {id : Nat} {Q : Exit → Act → World → Prop} {a : Act} {w : World} {l : List Oper} (cv : FuncId → Array Value → Value) (n : Nat) (hm : P.follows .mixedOrders = true) (hB : Region.lexTailB .any l.toArray n = true)
    (h : Box (wpS P l.toArray (fun w' => ∃ x : Ext w, w' = x.w) cv (fun a' => ∀ w', (∃ x : Ext w, w' = x.w) → wpList P l.toArray Q (l.drop n) a' w') (l.take n) a)) : (Code.region id l.toArray true).wp P Q a w :=
  some_tail cv n hm hB ⟨Ext.start w, rfl⟩ h
end Go.Proofs.YtmpkfpabejpbkaaGreatDoor.C
/- The document's Total of entries in memory; the law function `is` over a tally and its entries. Conditions: those of each theorem. -/
namespace Go.Proofs.YtmpkfpabejpbkaaGreatDoor.C
open Go.RowKit Go.Lib Go.Sort Go.Shelf
set_option linter.unusedVariables false
set_option linter.unusedSimpArgs false
attribute [local go_sem] Oper.semAt_some
/-- a slice of the document's entries -/
def EntsIn (w : World) (v : Value) (L : List Ent) : Prop := (L = [] ∧ v = .slice none 0 0) ∨ ∃ g cap, v = .slice (some ⟨g, 0, none⟩) L.length cap ∧ g < w.heap.size ∧ EntAt w g L
theorem EntsIn.low {w w' : World} {v : Value} {L : List Ent} (h : EntsIn w v L) (hb : Below w.heap.size w w') : EntsIn w' v L := by
  rcases h with h | ⟨g, cap, h1, h2, h3⟩
  · exact .inl h
  · exact .inr ⟨g, cap, h1, Nat.lt_of_lt_of_le h2 hb.size, h3.kept (hb.block g h2)⟩
theorem sumL_app : ∀ (l : List Ent) (x : Ent), sumL (l ++ [x]) = sumL l + x.2
  | [], x => by simp [sumL]
  | y :: r, x => by simp only [List.cons_append, sumL, sumL_app r x]; omega
theorem sumL_append : ∀ (l m : List Ent), sumL (l ++ m) = sumL l + sumL m
  | [], m => by simp [sumL]
  | y :: r, m => by simp only [List.cons_append, sumL, sumL_append r m]; omega
theorem sumL_take (L : List Ent) (hp : ∀ x ∈ L, 0 < x.2) (k : Nat) : 0 ≤ sumL (L.take k) ∧ sumL (L.take k) ≤ sumL L := by
  have h := sumL_append (L.take k) (L.drop k)
  rw [List.take_append_drop] at h
  have h1 := sumL_pos (L := L.take k) fun x hx => hp x (List.mem_of_mem_take hx)
  have h2 := sumL_pos (L := L.drop k) fun x hx => hp x (List.mem_of_mem_drop hx)
  omega
theorem int_eq {k : IntKind} {a b : Int} (h : a = b) : Value.int k a = Value.int k b := by rw [h]
theorem ret_int {k : IntKind} {a b : Int} (h : a = b) : Ending.returned (.int k a) = .returned (.int k b) := by rw [h]
set_option maxHeartbeats 1000000 in
theorem rtotal_any {w : World} {v : Value} {L : List Ent} (h : EntsIn w v L) (hE : Ents L) : Calls Tryz.prog 29 #[v] w fun e w' => e = .returned (.int .i64 (sumL L)) ∧ w = w' := by
  rcases h with ⟨rfl, rfl⟩ | ⟨g, cap, rfl, hg, hat⟩
  · go_enter Tryz.func29, Tryz.ntmps29
    go_wp2_with fail
    refine wp_loop_rounds 1 ?_
    rw [rounds_succ]
    go_wp2_with fail
    go_ret
    exact ⟨rfl, rfl⟩
  · have HA := hid hat
    have HB := hid (sumL_take L hE.pos)
    have htot := hE.tot
    have hlen := hE.len
    clear hat hE
    have HT := hid (show L.take L.length = L from List.take_length)
    go_enter Tryz.func29, Tryz.ntmps29
    go_wp2_with fail
    go_loop [3, 4] (fun s i => ∃ k : Nat, k ≤ L.length ∧ i = .int .i64 k ∧ s = .int .i64 (sumL (L.take k))) (fun _ i => L.length - (intOf i).toNat)
    case atStart => exact ⟨0, Nat.zero_le _, rfl, rfl⟩
    case round =>
      obtain ⟨k, hk, rfl, rfl⟩ := hrel
      by_cases hlt : k < L.length
      · obtain ⟨x, hx⟩ : ∃ x, L[k]? = some x := ⟨_, List.getElem?_eq_getElem hlt⟩
        obtain ⟨q0, q1⟩ := HA.out k x hx
        have hs := hid (show sumL (L.take (k + 1)) = sumL (L.take k) + x.2 by rw [take_snoc L k x hx, sumL_app])
        obtain ⟨b1, b2⟩ := HB.out k
        have b3 := HB.out (k + 1)
        rw [hs.out] at b3
        obtain ⟨b3, b4⟩ := b3
        have hki : (k : Int) < L.length := by omega
        clear hx
        generalize sumL (L.take k) = S at *
        generalize x.2 = X at *
        go_wp2_with fail
        go_round
        case rel => exact ⟨k + 1, by omega, by go_num, int_eq hs.out.symm⟩
        case measure => simp [intOf]; omega
      · obtain rfl : k = L.length := by omega
        go_wp2_with fail
        go_ret
        exact ⟨rfl, rfl⟩
theorem blk_own {β : Type} (B : Nat) (t : TypeId) (f : β → Array Value) : Own (fun s W => Blk W B t (f s)) := fun s X Y row hs hg hrow =>
  hs.kept hg (fun e' => by obtain ⟨o, ho, hc⟩ := hrow B e'.symm; rw [show X.heap[B]? = _ from hs] at ho; cases ho; cases hc)
theorem kf_of {B : Nat} {W W' : World} (h : Below W.heap.size W W') : KeepsFrom B W W' :=
  ⟨h.size, fun k o _ hk _ => (h.block k (Array.getElem?_eq_some_iff.1 hk).1).trans hk⟩
theorem name_act {F : Fence} {n : Nat} {c : Code} {Q : Exit → Act → World → Prop} {a : Act} {w : World} (h : ∀ T D, a.tmps = T → a.defers = D → c.wpIn F n Tryz.prog Q ⟨T, D⟩ w) : c.wpIn F n Tryz.prog Q a w := h _ _ rfl rfl
theorem prefix_get {α : Type} {l all : List α} {x : α} (h : l ++ [x] <+: all) : all[l.length]? = some x := by
  obtain ⟨t, rfl⟩ := h
  simp
theorem quiet_flip' {P : Program} {f : FuncId} {args : Array Value} {w w0 : World} {v : Value} (hw : ∃ n, w = w0.drewN n)
    (h : Calls P f args w fun e w' => e = .returned v ∧ w = w') : Calls P f args w fun e w'' => e = .returned v ∧ ∃ m, w'' = w0.drewN m :=
  h.mono fun _ _ ⟨he, hm⟩ => by obtain ⟨n, hn⟩ := hw; exact ⟨he, n, by rw [← hm, hn]⟩
set_option maxRecDepth 100000 in
set_option maxHeartbeats 4000000 in
theorem is_any {w : World} {b m : Nat} {L : List Ent} {v : Value} (h : Tal w b m L) (hv : EntsIn w v L) :
    Calls Tryz.prog 9 #[.pointer (some ⟨b, 0, none⟩), v] w fun e w' => e = .returned (.bool true) ∧ Below w.heap.size w w' := by
  have hT := hid h
  have hE := hid h.he
  have hV := hid hv
  have hbl := h.blt
  have hml := h.mlt
  clear h
  refine (callsIn_wide (n := 9)).1 ?_
  refine callsIn_of_wp_marks Tryz.func9 rfl trivial ?_ rfl
  simp only [Tryz.ntmps9, List.size_toArray, List.length_cons, List.length_nil, Nat.reduceAdd, Nat.reduceSub, Array.replicate_succ, Array.replicate_zero, List.push_toArray, List.append_toArray, List.nil_append, List.cons_append]
  refine wpIn_wide.2 ?_
  obtain ⟨p, c, hvs⟩ : ∃ p c, v = .slice p L.length c := by
    rcases hv with ⟨rfl, rfl⟩ | ⟨g, cap, rfl, _⟩
    · exact ⟨_, _, rfl⟩
    · exact ⟨_, _, rfl⟩
  subst hvs
  clear hv
  go_wp2_with fail
  obtain ⟨wa, hA⟩ : ∃ wa, ((w.alloc (.cells #[.pointer (some ⟨b, 0, none⟩)] 29)).alloc (.cells #[.slice p L.length c] 32)).alloc (.cells #[.bool false] 4) = wa := ⟨_, rfl⟩
  have k1 : Blk wa w.heap.size 29 #[.pointer (some ⟨b, 0, none⟩)] := hA ▸ ((Blk.new w _ _).alloc _).alloc _
  have k2 : Blk wa (w.heap.size + 1) 32 #[.slice p L.length c] := by
    rw [← hA]
    have := Blk.new (w.alloc (.cells #[.pointer (some ⟨b, 0, none⟩)] 29)) 32 #[.slice p L.length c]
    rw [World.size_alloc] at this
    exact this.alloc _
  have k3 : Blk wa (w.heap.size + 1 + 1) 4 #[.bool false] := by
    rw [← hA]
    have := Blk.new ((w.alloc (.cells #[.pointer (some ⟨b, 0, none⟩)] 29)).alloc (.cells #[.slice p L.length c] 32)) 4 #[.bool false]
    rw [World.size_alloc, World.size_alloc] at this
    exact this
  have ba : Below w.heap.size w wa := hA ▸ (((Below.refl _ _).alloc (Nat.le_refl _) _).alloc (by simp) _).alloc (by simp; omega) _
  have sa : wa.heap.size = w.heap.size + 3 := by rw [← hA]; simp
  rw [hA]
  clear hA
  have hLen := hid (fun n => quiet_flip (w := wa) (n := n) (len_any ((hT.out.low ba).keep (w' := wa.drewN n) rfl rfl)))
  have hTot := hid (fun n => quiet_flip (w := wa) (n := n) (total_any ((hT.out.low ba).keep (w' := wa.drewN n) rfl rfl)))
  have hRt := hid (fun n => quiet_flip (w := wa) (n := n) (rtotal_any (show EntsIn (wa.drewN n) (.slice p L.length c) L from hV.out.low (show Below w.heap.size w (wa.drewN n) from ⟨ba.os, ba.tape, ba.output, ba.size, ba.block⟩)) hE.out))
  have c1 := k1.cell (k := 0) rfl
  have c2 := k2.cell (k := 0) rfl
  generalize sumL L = S at hTot hRt
  refine draw_allB (by kernel_rfl) (by kernel_rfl) ?_
  refine bq_step (fun K hK => ?_); go_simp; refine ⟨hK _ ?_⟩; clear hK K
  refine bq_step (fun K hK => ?_); go_simp; refine ⟨hK _ ?_⟩; clear hK K
  refine bq_step (fun K hK => ?_); go_simp; refine ⟨hK _ ?_⟩; clear hK K
  refine bq_step (fun K hK => ?_); go_simp; refine ⟨hK _ ?_⟩; clear hK K
  refine bq_step (fun K hK => ?_); go_simp; refine ⟨?_⟩; apply Exists.intro; refine ⟨fun x => ?_, hK _ ?_⟩
  · with_reducible exact hLen.out _
  clear hK K
  refine bq_step (fun K hK => ?_); go_simp; refine ⟨hK _ ?_⟩; clear hK K
  refine bq_step (fun K hK => ?_); go_simp; refine ⟨hK _ ?_⟩; clear hK K
  refine bq_step (fun K hK => ?_); go_simp; refine ⟨hK _ ?_⟩; clear hK K
  refine bq_step (fun K hK => ?_); go_simp; refine ⟨hK _ ?_⟩; clear hK K
  refine bq_step (fun K hK => ?_); go_simp; refine ⟨hK _ ?_⟩; clear hK K
  refine bq_step (fun K hK => ?_); go_simp; refine ⟨hK _ ?_⟩; clear hK K
  refine bq_step (fun K hK => ?_); go_simp; refine ⟨?_⟩; apply Exists.intro; refine ⟨fun x => ?_, hK _ ?_⟩
  · with_reducible exact hTot.out _
  clear hK K
  refine bq_step (fun K hK => ?_); go_simp; refine ⟨hK _ ?_⟩; clear hK K
  refine bq_step (fun K hK => ?_); go_simp; refine ⟨?_⟩; apply Exists.intro; refine ⟨fun x => ?_, hK _ ?_⟩
  · with_reducible exact hRt.out _
  clear hK K
  refine bq_step (fun K hK => ?_); go_simp; refine ⟨hK _ ?_⟩; clear hK K
  refine bq_step (fun K hK => ?_); go_simp; refine ⟨hK _ ?_⟩; clear hK K
  refine bq_nil ?_
  rintro _ ⟨q, rfl⟩
  have K1 := hid (show Blk (wa.drewN q) _ _ _ from k1)
  have K2 := hid (show Blk (wa.drewN q) _ _ _ from k2)
  have K3 := hid (show Blk (wa.drewN q) _ _ _ from k3)
  have BA := hid (show Below w.heap.size w (wa.drewN q) from ⟨ba.os, ba.tape, ba.output, ba.size, ba.block⟩)
  have SA := hid (show (wa.drewN q).heap.size = w.heap.size + 3 from sa)
  clear hLen hTot hRt c1 c2 k1 k2 k3 ba sa
  generalize wa.drewN q = wb at *
  have c1 := K1.out.cell (k := 0) rfl
  have n1 := K1.out.lt
  go_wp2_with fail
  have hEa := hid ((callsIn_wide (n := 8)).1 (tal_each_in Fence.wide 8 trivial rfl b (wb.alloc (.cells #[.int .i64 0] 3))))
  with_reducible refine Calls.mono hEa.out ?_
  rintro e w4 ⟨rfl, hw4⟩
  clear hEa
  obtain ⟨Nn, hNn⟩ : ∃ Nn, wb.heap.size = Nn := ⟨_, rfl⟩
  have kn : Blk w4 Nn 3 #[.int .i64 0] := by rw [hw4, ← hNn]; exact (Blk.new wb _ _).alloc _
  have k7 : Blk w4 (Nn + 1) 29 #[.pointer (some ⟨b, 0, none⟩)] := by
    rw [hw4]; have := Blk.new (wb.alloc (.cells #[.int .i64 0] 3)) 29 #[.pointer (some ⟨b, 0, none⟩)]
    rw [World.size_alloc, hNn] at this
    exact this
  have hr4 : Below Nn wb w4 := by
    rw [hw4, ← hNn]; exact ((Below.refl _ _).alloc (Nat.le_refl _) _).alloc (by simp) _
  have hsz4 : Nn + 1 < w4.heap.size ∧ w4.heap.size ≤ Nn + 2 := by rw [hw4, ← hNn]; simp
  have hN3 : w.heap.size + 3 ≤ Nn := by rw [← hNn, SA.out]; exact Nat.le_refl _
  have hb4 : Below w.heap.size w w4 := BA.out.trans (hr4.mono (by omega))
  have k1w : Blk w4 w.heap.size 29 #[.pointer (some ⟨b, 0, none⟩)] := K1.out.lowN hr4 (by omega)
  have k2w : Blk w4 (w.heap.size + 1) 32 #[.slice p L.length c] := K2.out.lowN hr4 (by omega)
  have k3w : Blk w4 (w.heap.size + 1 + 1) 4 #[.bool false] := K3.out.lowN hr4 (by omega)
  have HT4 := hid (hT.out.low hb4)
  have HV4 := hid (hV.out.low hb4)
  simp only [World.size_alloc, hNn]
  clear hw4 c1 n1 K1 K2 K3 BA SA hr4
  go_wp2_with fail
  refine (wpIn_wide (n := 9)).1 ?_
  refine name_act ?_
  intro T D hTT hD
  refine rangeFunc_own (F := Fence.wide) (α := Ent) rfl (by omega) (gf := 51) (lb := #[.pointer (some ⟨Nn + 1, 0, none⟩)]) (by subst hTT; rfl) trivial (enters_of Tryz.func51 (by kernel_rfl) rfl)
    (tal_next 8 (by omega) (Nn + 1) b m Nn L w4 (by omega) (by omega) (k7.cell rfl) HT4.out) (by omega) (Below.refl _ _) (fun _ => rfl)
    (fun pre W => Blk W Nn 3 #[.int .i64 pre.length] ∧ Below Nn w4 W)
    (fun _ _ _ => False)
    (OwnFrom.and (Own.from (blk_own _ _ (fun pre : List Ent => #[.int .i64 pre.length])) _) (ownFrom_below (by omega) (by omega)))
    (fun _ => ownFrom_pure _ _)
    ⟨kn, Below.refl _ _⟩
    (fun x a' W => a' = { tmps := (((T.setIfInBounds 26 (.string x.1)).setIfInBounds 27 (.int .i64 x.2)).setIfInBounds 6 (.string x.1)).setIfInBounds 7 (.int .i64 x.2), defers := [] })
    (fun x a' _ X Y row hs hg hr => hs)
    ?assign ?body ?done ?stop
  case assign =>
    rintro l pre x W K ⟨kn, hB⟩ hpre hK
    subst hTT hD
    gi_wp2
    exact hK _ _ (KeepsFrom.refl _ _) (KB.refl _ _ _) ⟨kn, hB⟩ rfl
  case body =>
    rintro l pre x a' W hl hr hnext ⟨kn, hB⟩ rfl
    have hsW := hB.size
    have e1 := prefix_get hnext
    have hlen := (List.getElem?_eq_some_iff.1 e1).1
    have hL4 := hE.out.len
    have k1b := k1w.lowN hB (by omega)
    have k2b := k2w.lowN hB (by omega)
    have hTW := HT4.out.lowN hB (by omega) (by omega)
    have hC := hid (count_any hTW x.1 (hE.out.sz x (List.mem_of_getElem? e1)))
    rw [countL_mem hTW.nd (List.mem_of_getElem? e1)] at hC
    rcases hV.out with ⟨hLn, _⟩ | ⟨g, cap, hps, hg, hat⟩
    · rw [hLn] at hlen; simp at hlen
    cases hps
    obtain ⟨q0, q1⟩ := hat.kept ((hB.block g (by omega)).trans (hb4.block g hg)) _ x e1
    have hend : Hid (KeepsFrom w4.heap.size W (W.setCell ⟨Nn, 0, none⟩ (.int .i64 ((pre.length : Int) + 1))) ∧ KB Nn (w4.heap.size + 2) W (W.setCell ⟨Nn, 0, none⟩ (.int .i64 ((pre.length : Int) + 1))) ∧ (Blk (W.setCell ⟨Nn, 0, none⟩ (.int .i64 ((pre.length : Int) + 1))) Nn 3 #[.int .i64 ((pre ++ [x]).length : Nat)] ∧ Below Nn w4 (W.setCell ⟨Nn, 0, none⟩ (.int .i64 ((pre.length : Int) + 1))))) := by
      have q : Below Nn W (W.setCell ⟨Nn, 0, none⟩ (.int .i64 ((pre.length : Int) + 1))) := (Below.refl _ _).setCell (p := ⟨Nn, 0, none⟩) (Nat.le_refl _) _
      refine ⟨(KeepsOthers.setCell _ _ _).from _, ⟨q, fun k hk hk2 => Below.heap_setCell W ⟨Nn, 0, none⟩ _ k (by show k ≠ Nn; omega)⟩, ?_, hB.trans q⟩
      have e : ((pre ++ [x]).length : Nat) = pre.length + 1 := by simp
      rw [e]
      exact kn.set 0 _
    have c1 := k1b.cell (k := 0) rfl
    have c2 := k2b.cell (k := 0) rfl
    have cn := kn.cell (k := 0) rfl
    have fn0 := kn.froz 0
    have nn := kn.lt
    obtain ⟨x1, x2⟩ := x
    dsimp only at q0 q1 hC
    have hHB := hid hB
    clear hnext e1 hat hTW k1b k2b kn hB hr hl hg
    generalize pre.length = k at *
    generalize L.length = m1 at *
    have t1 : decide (m1 ≤ k) = false := decide_eq_false (by omega)
    have t4 : (k : Int) < m1 := by omega
    subst hTT hD
    dsimp only
    simp only [List.setIfInBounds_toArray, List.set_cons_succ, List.set_cons_zero]
    have t5 : (k : Int) ≤ 5000 := by omega
    clear hsW hL4 hlen
    gi_wp2_with fail
    refine ⟨trivial, ?_⟩
    with_reducible refine (CallsIn.inRound l (callsIn_wide.2 hC.out)).mono ?_
    rintro e W2 ⟨rfl, rfl⟩
    gi_wp2_with fail
    exact hend.out
  case done =>
    rintro Dk W hDk ⟨kn, hB⟩ hK
    have hsW := hB.size
    have k2b := k2w.lowN hB (by omega)
    have k3b := k3w.lowN hB (by omega)
    have c2 := k2b.cell (k := 0) rfl
    have c3 := hid (k3b.cell (k := 0) (v := .bool false) rfl)
    have f3 := k3b.froz 0
    have n3 := k3b.lt
    have cn := kn.cell (k := 0) rfl
    have hL4 := hE.out.len
    subst hTT hD
    have hK0 := hid hK
    have HB := hid hB
    have c3' := c3.out
    clear kn hB hK k2b k3b
    go_wp2_with fail
    have hK2 : (W.setCell ⟨w.heap.size + 1 + 1, 0, none⟩ (.bool true)).heap[Dk]? = some (.deferred (some [])) := (KeepsOthers.setCell _ _ _).same Dk _ hK0.out rfl
    refine ⟨by simp, .inl ⟨_, _, rfl, run_takeDeferred hK2, ?_⟩⟩
    have hcc : ((W.setCell ⟨w.heap.size + 1 + 1, 0, none⟩ (.bool true)).putObj Dk (.deferred none)).cell? ⟨w.heap.size + 1 + 1, 0, none⟩ = some (.bool true) :=
      cell_kept (World.cell?_setCell_same' _ _ _ (by rw [c3.out]; rfl)) (grownBy_putObj' _ Dk (.deferred none)) (fun r e => by cases e; exact ⟨_, hK2, rfl⟩)
    have q0 : Below w.heap.size w W := hb4.trans (HB.out.mono (by omega))
    have q1 : Below w.heap.size w (W.setCell ⟨w.heap.size + 1 + 1, 0, none⟩ (.bool true)) := q0.setCell (p := ⟨w.heap.size + 1 + 1, 0, none⟩) (by show w.heap.size ≤ w.heap.size + 1 + 1; omega) _
    have hFin : Below w.heap.size w ((W.setCell ⟨w.heap.size + 1 + 1, 0, none⟩ (.bool true)).putObj Dk (.deferred none)) :=
      q1.trans (belowK_b (w := w4) (by omega) _ _ _ _ hDk hK2 rfl rfl)
    exact ⟨_, by simp [results, Tryz.results9, go_sem, hcc], rfl, hFin⟩
  case stop =>
    rintro Dk c pre W hDk hpre h _
    exact h.elim
end Go.Proofs.YtmpkfpabejpbkaaGreatDoor.C
