/- A region of code that draws its order, some of whose first operations make memory and leave one of several values (an address of new memory): it is enough to walk it once, in the text's order, at whatever values these are. Conditions: those of the theorem; what a call hands back is given by a function of the callee and its arguments. -/
import Derived.Test.YthidjbobjjoekaaGreatQx
namespace Go.Proofs.YthidjbobjjoekaaGreat
open Go Go.RowKit
set_option linter.unusedVariables false
section
variable {P : Program} {ops : Array Oper} {C : World → Prop} {cv : FuncId → Array Value → Value} {n : Nat}
/-- what an operation comes to: some value of V, and a world of the class -/
def upS (P : Program) (C : World → Prop) (cv : FuncId → Array Value → Value) (V : Value → Prop) : Result Next → Prop
  | .ok (.value u) w' => C w' ∧ V u
  | .ok .skip w' => C w' ∧ V undef
  | .ok (.enter f args) w' => C w' ∧ V = (fun u => u = cv f args) ∧ Calls P f args w' fun e w'' => e = .returned (cv f args) ∧ C w''
  | _ => False
/-- the operation o, left to whatever follows -/
def opS (P : Program) (C : World → Prop) (cv : FuncId → Array Value → Value) (o : Oper) (a : Act) (K : Act → Prop) : Prop :=
  ∃ V : Value → Prop, (∃ v, V v) ∧ (∀ w, C w → upS P C cv V ((execOp a.eval o).run P w)) ∧ ∀ v, V v → K (a.put o.dst v)
def wpS (P : Program) (ops : Array Oper) (C : World → Prop) (cv : FuncId → Array Value → Value) (Q : Act → Prop) : List Oper → Act → Prop
  | [], a => Q a
  | o :: rest, a => if Region.wanted o (yielded ops a.tmps) then opS P C cv o a (wpS P ops C cv Q rest) else wpS P ops C cv Q rest (a.put o.dst undef)
def atS (P : Program) (ops : Array Oper) (C : World → Prop) (cv : FuncId → Array Value → Value) (i : Nat) (K : Act → Prop) (a : Act) : Prop :=
  match ops[i]? with
  | none => K a
  | some o => if Region.wanted o (yielded ops a.tmps) then opS P C cv o a K else K (a.put o.dst undef)
theorem opS_mono {o : Oper} {a : Act} {K K' : Act → Prop} (h : ∀ a, K a → K' a) (hh : opS P C cv o a K) : opS P C cv o a K' := by
  obtain ⟨V, h1, h2, h3⟩ := hh
  exact ⟨V, h1, h2, fun v hv => h _ (h3 v hv)⟩
theorem atS_mono {i : Nat} {a : Act} {K K' : Act → Prop} (h : ∀ a, K a → K' a) (hh : atS P ops C cv i K a) : atS P ops C cv i K' a := by
  unfold atS at *
  cases ho : ops[i]? with
  | none => rw [ho] at hh; exact h _ hh
  | some o =>
    rw [ho] at hh
    dsimp only at hh ⊢
    split
    · rename_i hw; rw [if_pos hw] at hh; exact opS_mono h hh
    · rename_i hw; rw [if_neg hw] at hh; exact h _ hh
/-- what the walk of o shows: its values, in whatever world of the class -/
def YieldsS (P : Program) (ops : Array Oper) (C : World → Prop) (cv : FuncId → Array Value → Value) (o : Oper) (V : Value → Prop) (a : Act) : Prop :=
  (Region.wanted o (yielded ops a.tmps) = true ∧ ∀ w, C w → upS P C cv V ((execOp a.eval o).run P w)) ∨ (Region.wanted o (yielded ops a.tmps) = false ∧ V = fun u => u = undef)
theorem YieldsS.of_same {o : Oper} {V : Value → Prop} {a a' : Act} (hy : YieldsS P ops C cv o V a) (he : execOp a'.eval o = execOp a.eval o)
    (hw : Region.wanted o (yielded ops a'.tmps) = Region.wanted o (yielded ops a.tmps)) : YieldsS P ops C cv o V a' := by
  unfold YieldsS at *
  rw [he, hw]
  exact hy
theorem YieldsS.at {i : Nat} {o : Oper} {V : Value → Prop} {a : Act} (hi : ops[i]? = some o) (hV : ∃ v, V v) (hy : YieldsS P ops C cv o V a) {K : Act → Prop} (h : ∀ v, V v → K (a.put o.dst v)) : atS P ops C cv i K a := by
  unfold atS
  rw [hi]
  dsimp only
  rcases hy with ⟨hw, h2⟩ | ⟨hw, rfl⟩
  · rw [if_pos hw]; exact ⟨V, hV, h2, h⟩
  · rw [if_neg (by rw [hw]; decide)]; exact h _ rfl
theorem yieldsS_of {i : Nat} {o : Oper} {a : Act} {K : Act → Prop} (hi : ops[i]? = some o) (h : atS P ops C cv i K a) : ∃ V, (∃ v, V v) ∧ YieldsS P ops C cv o V a ∧ ∀ v, V v → K (a.put o.dst v) := by
  unfold atS at h
  rw [hi] at h
  dsimp only at h
  by_cases hw : Region.wanted o (yielded ops a.tmps) = true
  · rw [if_pos hw] at h
    obtain ⟨V, h1, h2, h3⟩ := h
    exact ⟨V, h1, .inl ⟨hw, h2⟩, h3⟩
  · rw [if_neg hw] at h
    exact ⟨fun u => u = undef, ⟨_, rfl⟩, .inr ⟨by simpa using hw, rfl⟩, fun v hv => hv ▸ h⟩
/-- what holds of one result at each of several sets of values holds at their meet -/
theorem upS_meet {X : Type} [Nonempty X] {V : X → Value → Prop} {r : Result Next} (h : ∀ x, upS P C cv (V x) r) : upS P C cv (fun u => ∀ x, V x u) r ∧ ∃ u, ∀ x, V x u := by
  have x0 := Classical.choice (inferInstance : Nonempty X)
  cases r with
  | halt e w => exact (h x0).elim
  | ok y w =>
    cases y with
    | value u => exact ⟨⟨(h x0).1, fun x => (h x).2⟩, u, fun x => (h x).2⟩
    | skip => exact ⟨⟨(h x0).1, fun x => (h x).2⟩, undef, fun x => (h x).2⟩
    | enter f args =>
      have e : ∀ x, V x = fun u => u = cv f args := fun x => (h x).2.1
      refine ⟨⟨(h x0).1, funext fun u => propext ⟨fun hu => ?_, fun hu x => ?_⟩, (h x0).2.2⟩, cv f args, fun x => ?_⟩
      · have := hu x0; rw [e x0] at this; exact this
      · rw [e x]; exact hu
      · rw [e x]
    | _ => exact (h x0).elim
theorem atS_put {j : Nat} {oi oj : Oper} {V : Value → Prop} (hC : ∃ w, C w) (hj : ops[j]? = some oj) (hap : oi.apart ops oj = true)
    (hsi : ∀ cs b, oi.op ≠ .select cs b) (hsj : ∀ cs b, oj.op ≠ .select cs b) {K : Act → Prop} {a : Act} (hV : ∃ v, V v)
    (hy : YieldsS P ops C cv oi V a) (h : ∀ v, V v → atS P ops C cv j K (a.put oi.dst v)) :
    atS P ops C cv j (fun a' => YieldsS P ops C cv oi V a' ∧ ∀ v, V v → K (a'.put oi.dst v)) a := by
  obtain ⟨h1, h2, h3⟩ := Oper.apart_spec hap
  have keep : ∀ u, YieldsS P ops C cv oi V (a.put oj.dst u) := fun u => hy.of_same (execOp_put oi hsi a oj.dst u h3) (wanted_put oi a oj.dst u h3)
  unfold atS at *
  rw [hj] at *
  dsimp only at *
  by_cases hw : Region.wanted oj (yielded ops a.tmps) = true
  · rw [if_pos hw]
    have h' : ∀ x : { v // V v }, ∃ W : Value → Prop, (∃ v, W v) ∧ (∀ w, C w → upS P C cv W ((execOp a.eval oj).run P w)) ∧ ∀ u, W u → K ((a.put oj.dst u).put oi.dst x.1) := by
      rintro ⟨v, hv⟩
      have := h v hv
      rw [wanted_put oj a oi.dst v h1, if_pos hw] at this
      obtain ⟨W, w1, w2, w3⟩ := this
      refine ⟨W, w1, fun w hw' => ?_, fun u hu => ?_⟩
      · have := w2 w hw'
        rwa [execOp_put oj hsj a oi.dst v h1] at this
      · rw [← Act.put_comm a v u h2]; exact w3 u hu
    obtain ⟨v0, hv0⟩ := hV
    haveI : Nonempty { v // V v } := ⟨⟨v0, hv0⟩⟩
    obtain ⟨W, hW⟩ := Classical.axiomOfChoice h'
    obtain ⟨w0, hw0⟩ := hC
    refine ⟨fun u => ∀ x, W x u, (upS_meet fun x => (hW x).2.1 w0 hw0).2, fun w hw' => (upS_meet fun x => (hW x).2.1 w hw').1, fun u hu => ⟨keep u, fun v hv => (hW ⟨v, hv⟩).2.2 u (hu ⟨v, hv⟩)⟩⟩
  · rw [if_neg hw]
    refine ⟨keep _, fun v hv => ?_⟩
    have := h v hv
    rw [wanted_put oj a oi.dst v h1, if_neg hw] at this
    rw [← Act.put_comm a v _ h2]
    exact this
theorem wpOp_of_atS {i : Nat} {a : Act} {K : Act → Prop} {K' : Act → World → Prop} {Q' : Exit → Act → World → Prop} {w : World} (hC : C w) (h : ∀ a w', C w' → K a → K' a w') (hh : atS P ops C cv i K a) : wpOp P ops Q' i K' a w := by
  unfold atS at hh
  unfold wpOp
  cases ho : ops[i]? with
  | none => rw [ho] at hh; exact h _ _ hC hh
  | some o =>
    rw [ho] at hh
    dsimp only at hh ⊢
    split
    · rename_i hw
      rw [if_pos hw] at hh
      obtain ⟨V, _, h2, h3⟩ := hh
      have hr := h2 w hC
      refine .inl ?_
      unfold Oper.wp
      generalize (execOp a.eval o).run P w = r at *
      cases r with
      | halt x w' => exact hr.elim
      | ok x w' =>
        cases x with
        | value u => exact h _ _ hr.1 (h3 u hr.2)
        | skip => exact h _ _ hr.1 (h3 undef hr.2)
        | enter f args =>
          obtain ⟨hw', hV, hc⟩ := hr
          refine hc.mono ?_
          rintro e w'' ⟨rfl, hw''⟩
          exact h _ _ hw'' (h3 _ (by rw [hV]))
        | _ => exact hr.elim
    · rename_i hw; rw [if_neg hw] at hh; exact h _ _ hC hh
/-- Whatever order is drawn, till all of the first n operations have come up. -/
def HeadS (P : Program) (ops : Array Oper) (C : World → Prop) (cv : FuncId → Array Value → Value) (n : Nat) (E : Array Bool → Act → Prop) : Nat → Array Bool → Act → Prop
  | 0, T, a => E T a
  | f + 1, T, a => (Region.ready .any ops T ≠ [] ∧ ∀ i, i ∈ Region.ready .any ops T → i < n) ∧
      ∀ i, i ∈ Region.ready .any ops T → atS P ops C cv i (HeadS P ops C cv n E f (T.setIfInBounds i true)) a
theorem HeadS.sound {E : Array Bool → Act → Prop} {Q : Exit → Act → World → Prop} {g : Nat}
    (hE : ∀ T a w, C w → E T a → wpAny P .any ops Q g T a w) (f : Nat) :
    ∀ T a w, C w → HeadS P ops C cv n E f T a → wpAny P .any ops Q (g + f) T a w := by
  induction f with
  | zero => exact fun T a w hw h => hE T a w hw h
  | succ f ih =>
    intro T a w hw h
    refine ⟨fun h0 => absurd h0 h.1.1, fun i hi => ?_⟩
    exact wpOp_of_atS hw (fun a' w' hw' h' => ih _ a' w' hw' h') (h.2 i hi)
theorem HeadS.first {E : Array Bool → Act → Prop} (hC : ∃ w, C w) (hsel : Region.noSelect ops = true) (hs : Region.sinkB .any ops n = true) (hc : Region.chainB .any ops n = true) (hn : n < ops.size)
    (hE : ∀ T a, E T a → ∀ j, j ∈ Region.ready .any ops T → n ≤ j) {i : Nat} {o : Oper} {V : Value → Prop} (hV : ∃ v, V v) (ho : ops[i]? = some o) (hin : i < n) (f : Nat) :
    ∀ T a, HeadInv .any ops n T → i ∈ Region.ready .any ops T →
      (∀ j x, ops[j]? = some x → j ≠ i → T.getD j true = false → (∀ e ∈ x.after, Region.binds .any e = true → e.on ≠ i) → o.apart ops x = true) →
      YieldsS P ops C cv o V a → (∀ v, V v → HeadS P ops C cv n E f (T.setIfInBounds i true) (a.put o.dst v)) → HeadS P ops C cv n E (f + 1) T a := by
  have nosel := Region.noSelect_spec hsel
  obtain ⟨v0, hv0⟩ := hV
  induction f with
  | zero =>
    intro T a inv hi hap hy h
    have hlt : ∀ j, j ∈ Region.ready .any ops T → j < n := fun j hj =>
      Nat.lt_of_not_le fun hnj => tail_waits hs hc hn inv _ i rfl hin (mem_ready.1 hi).1 j hnj hj
    refine ⟨⟨fun h0 => by simp [h0] at hi, hlt⟩, fun j hj => ?_⟩
    rcases Nat.decEq j i with hne | rfl
    · exact absurd (hlt j hj) (Nat.not_lt.2 (hE _ _ (h v0 hv0) j (ready_mono hj hne)))
    · exact hy.at ho ⟨v0, hv0⟩ h
  | succ f ih =>
    intro T a inv hi hap hy h
    have hun := (mem_ready.1 hi).1
    have hlt : ∀ j, j ∈ Region.ready .any ops T → j < n := fun j hj =>
      Nat.lt_of_not_le fun hnj => tail_waits hs hc hn inv _ i rfl hin hun j hnj hj
    refine ⟨⟨fun h0 => by simp [h0] at hi, hlt⟩, fun j hj => ?_⟩
    rcases Nat.decEq j i with hne | rfl
    · obtain ⟨hjun, x, hx, hwait⟩ := mem_ready.1 hj
      have hno : ∀ e ∈ x.after, Region.binds .any e = true → e.on ≠ i := fun e he hb h1 => by
        have h2 := hwait e he hb
        rw [h1, getD_both hun] at h2
        exact Bool.false_ne_true h2
      refine atS_mono (fun a' h' => ?_) (atS_put hC hx (hap j x hx hne hjun hno) (fun cs b => nosel i o cs b ho) (fun cs b => nosel j x cs b hx) ⟨v0, hv0⟩ hy (fun v hv => (h v hv).2 j (ready_mono hj hne)))
      refine ih _ a' (inv.set hj (hlt j hj)) (ready_mono hi (Ne.symm hne)) (fun k y hk hki hkT hky => ?_) h'.1 (fun v hv => ?_)
      · refine hap k y hk hki ?_ hky
        rcases Nat.decEq j k with hjk | rfl
        · rwa [getD_set_ne true hjk] at hkT
        · exact hjun
      · rw [Array.setIfInBounds_comm _ _ hne]
        exact h'.2 v hv
    · exact hy.at ho ⟨v0, hv0⟩ h
theorem HeadS.text {g : Nat} {L : Act → Prop} (hC : ∃ w, C w) (hsel : Region.noSelect ops = true) (hs : Region.sinkB .any ops n = true) (hc : Region.chainB .any ops n = true) (hn : n < ops.size) (l : List Oper) :
    ∀ k T a, (∀ j, j < l.length → ops[k + j]? = l[j]?) → k + l.length = n → HeadInv .any ops n T → Region.lexHead .any ops g l.length k T = true →
      wpS P ops C cv L l a → HeadS P ops C cv n (fun T' a' => Region.seqB .any ops g n T' = true ∧ L a') l.length T a := by
  induction l with
  | nil =>
    intro k T a _ hk _ hB h
    obtain rfl : k = n := hk
    exact ⟨hB, h⟩
  | cons o l ih =>
    intro k T a hl hk inv hB h
    have h0 : ops[k]? = some o := by have := hl 0 (by simp); simpa using this
    simp only [List.length_cons, Region.lexHead, Bool.and_eq_true, List.contains_iff_mem] at hB
    simp only [List.length_cons] at hk
    have hkn : k < n := by omega
    obtain ⟨V, hV, hy, h2⟩ := yieldsS_of (P := P) (C := C) (cv := cv) h0 (a := a) (K := wpS P ops C cv L l) (by unfold atS; rw [h0]; exact h)
    refine HeadS.first hC hsel hs hc hn (fun T' a' hT => seqB_ready hT.1) hV h0 hkn l.length T a inv hB.1.1 (Region.free_spec h0 hB.1.2) hy (fun v hv => ?_)
    refine ih (k + 1) _ _ (fun j hj => ?_) (by omega) (inv.set hB.1.1 hkn) hB.2 (h2 v hv)
    have := hl (j + 1) (by simp; omega)
    simpa [Nat.add_assoc, Nat.add_comm 1 j] using this
/-- one operation that yields one value, or calls -/
def upQ (P : Program) (C : World → Prop) (cv : FuncId → Array Value → Value) (w : World) (v : Value) : Result Next → Prop
  | .ok (.value u) w' => w' = w ∧ u = v
  | .ok .skip w' => w' = w ∧ v = undef
  | .ok (.enter f args) w' => w' = w ∧ v = cv f args ∧ Calls P f args w' fun e w'' => e = .returned (cv f args) ∧ C w''
  | _ => False
theorem upS_of_upQ {w : World} {v : Value} {r : Result Next} (hC : C w) (h : upQ P C cv w v r) : upS P C cv (fun u => u = v) r := by
  cases r with
  | halt x w' => exact h.elim
  | ok x w' =>
    cases x with
    | value u => obtain ⟨rfl, rfl⟩ := h; exact ⟨hC, rfl⟩
    | skip => obtain ⟨rfl, rfl⟩ := h; exact ⟨hC, rfl⟩
    | enter f args => obtain ⟨rfl, rfl, h⟩ := h; exact ⟨hC, rfl, h⟩
    | _ => exact h.elim
def opQ (P : Program) (C : World → Prop) (cv : FuncId → Array Value → Value) (o : Oper) (a : Act) (K : Act → Prop) : Prop :=
  ∃ v, (∀ w, C w → upQ P C cv w v ((execOp a.eval o).run P w)) ∧ K (a.put o.dst v)
theorem bs_step {Q : Act → Prop} {a : Act} {o : Oper} {rest : List Oper} (h : ∀ K : Act → Prop, (∀ a, Box (wpS P ops C cv Q rest a) → K a) → Box (if Region.wanted o (yielded ops a.tmps) then opQ P C cv o a K else K (a.put o.dst undef))) : Box (wpS P ops C cv Q (o :: rest) a) := by
  refine ⟨?_⟩
  have h1 := (h (wpS P ops C cv Q rest) (fun a hb => hb.out)).out
  show if _ then _ else _
  split
  · rename_i hw
    rw [if_pos hw] at h1
    obtain ⟨v, h2, h3⟩ := h1
    exact ⟨fun u => u = v, ⟨v, rfl⟩, fun w hC => upS_of_upQ hC (h2 w hC), fun u hu => hu ▸ h3⟩
  · rename_i hw
    rw [if_neg hw] at h1
    exact h1
/-- one operation that leaves one of several values -/
theorem bs_some {Q : Act → Prop} {a : Act} {o : Oper} {rest : List Oper} (V : Value → Prop) (hV : ∃ v, V v) (hw : Region.wanted o (yielded ops a.tmps) = true) (h1 : ∀ w, C w → upS P C cv V ((execOp a.eval o).run P w)) (h2 : ∀ v, V v → Box (wpS P ops C cv Q rest (a.put o.dst v))) : Box (wpS P ops C cv Q (o :: rest) a) := by
  refine ⟨?_⟩
  show if _ then _ else _
  rw [if_pos hw]
  exact ⟨V, hV, h1, fun v hv => (h2 v hv).out⟩
theorem bs_nil {Q : Act → Prop} {a : Act} (h : Q a) : Box (wpS P ops C cv Q [] a) := ⟨h⟩
end
attribute [go_sem] opQ upQ
/-- THE LAW -/
theorem some_tail {P : Program} {C : World → Prop} {id : Nat} {Q : Exit → Act → World → Prop} {a : Act} {w : World} {l : List Oper} (cv : FuncId → Array Value → Value) (n : Nat) (hm : P.follows .mixedOrders = true) (hB : Region.lexTailB .any l.toArray n = true) (hC : C w.drew)
    (h : Box (wpS P l.toArray C cv (fun a' => ∀ w', C w' → wpList P l.toArray Q (l.drop n) a' w') (l.take n) a)) : (Code.region id l.toArray true).wp P Q a w := by
  simp only [Region.lexTailB, Bool.and_eq_true, decide_eq_true_eq] at hB
  have hn := hB.1.1.1.2
  have hsz : l.toArray.size = l.length := by simp
  have htl : (l.take n).length = n := by rw [List.length_take]; omega
  have inv : HeadInv .any l.toArray n (Array.replicate l.toArray.size false) :=
    ⟨Array.size_replicate, fun j x _ hT => (by rw [getD_replicate_false] at hT; cases hT), fun t _ ht => getD_in (by rw [Array.size_replicate]; exact ht) (getD_replicate_false _ _)⟩
  have hh := HeadS.text (P := P) (C := C) (cv := cv) (g := l.toArray.size - n) ⟨_, hC⟩ hB.1.1.1.1 hB.1.1.2 hB.1.2 hn (l.take n) 0 (Array.replicate l.toArray.size false) a
    (fun j hj => by rw [htl] at hj; simp [hj]) (by rw [htl]; omega) inv (by rw [htl]; exact hB.2) h.out
  refine wp_region_any hm ?_
  have h2 := HeadS.sound (Q := Q) (g := l.toArray.size - n) (fun T a' w' hw' hT => by
    have := wpAny_of_seq (md := .any) (Q' := Q) (l.drop n) n T a' w' (fun j => by simp [List.getElem?_drop]) (by rw [List.length_drop, ← hsz]; exact hT.1) (hT.2 w' hw')
    rwa [List.length_drop, ← hsz] at this) _ _ _ _ hC hh
  rw [htl, show l.toArray.size - n + n = l.toArray.size by omega] at h2
  exact h2
theorem ext_some {P : Program} {id : Nat} {Q : Exit → Act → World → Prop} {a : Act} {w : World} {l : List Oper} (cv : FuncId → Array Value → Value) (n : Nat) (hm : P.follows .mixedOrders = true) (hB : Region.lexTailB .any l.toArray n = true)
    (h : Box (wpS P l.toArray (fun w' => ∃ x : Ext w, w' = x.w) cv (fun a' => ∀ w', (∃ x : Ext w, w' = x.w) → wpList P l.toArray Q (l.drop n) a' w') (l.take n) a)) : (Code.region id l.toArray true).wp P Q a w :=
  some_tail cv n hm hB ⟨Ext.start w, rfl⟩ h
end Go.Proofs.YthidjbobjjoekaaGreat
