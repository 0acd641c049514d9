/- A region that draws its order, walked by a plan: quiet operations (which read, or call what only makes memory and leaves one value) are taken in the text's order, and only at the others is it asked which of them comes first. Conditions: the program follows mixed orders; the plan passes the check planB. -/
import Derived.Test.YtieifhfgedoiaaaGreatDoorNQw
import Derived.OrdersHeld
import Derived.Test.YtieifhfgedoiaaaGreatDoorNMb
namespace Go.Proofs.YtieifhfgedoiaaaGreatDoor
open Go Go.RowKit
set_option linter.unusedVariables false
inductive Plan where
 | done
 | quiet (i : Nat) (p : Plan)
 | one (i : Nat) (p : Plan)
 | two (i : Nat) (p : Plan) (j : Nat) (q : Plan)
 | three (i : Nat) (p : Plan) (j : Nat) (q : Plan) (k : Nat) (r : Plan)
def planB (ops : Array Oper) : Plan → Array Bool → Bool
 | .done, T => Region.ready .any ops T == []
 | .quiet i p, T => (Region.ready .any ops T).contains i && Region.free .any ops T i && planB ops p (T.setIfInBounds i true)
 | .one i p, T => Region.ready .any ops T == [i] && planB ops p (T.setIfInBounds i true)
 | .two i p j q, T => Region.ready .any ops T == [i, j] && planB ops p (T.setIfInBounds i true) && planB ops q (T.setIfInBounds j true)
 | .three i p j q k r, T => Region.ready .any ops T == [i, j, k] && planB ops p (T.setIfInBounds i true) && planB ops q (T.setIfInBounds j true) && planB ops r (T.setIfInBounds k true)
section
variable {P : Program} {ops : Array Oper} {Q : Exit → Act → World → Prop} {S : List Nat} {w0 : World}
structure ExtS (S : List Nat) (w0 : World) where
 w : World
 h : ButS S w0 w
theorem ExtS.cell {S : List Nat} {w0 : World} (x : ExtS S w0) (a : Addr) (h : (w0.cell? a).isSome = true) (hn : a.block ∉ S) : x.w.cell? a = w0.cell? a := by
 obtain ⟨v, hv⟩ := Option.isSome_iff_exists.1 h
 exact World.cell?_of_block (x.h.block _ (World.block_lt_of_cell? w0 a hv) hn)
theorem ExtS.froz {S : List Nat} {w0 : World} (x : ExtS S w0) (a : Addr) (h : (w0.cell? a).isSome = true) (hn : a.block ∉ S) : x.w.frozen? a = w0.frozen? a := by
 obtain ⟨v, hv⟩ := Option.isSome_iff_exists.1 h
 have e := x.h.block _ (World.block_lt_of_cell? w0 a hv) hn
 unfold World.frozen?
 rw [e]
instance (S : List Nat) (w : World) : Nonempty (ExtS S w) := ⟨⟨w, ButS.refl S w⟩⟩
def Cw (S : List Nat) (w0 : World) (w : World) : Prop := ButS S w0 w
def Op1 (P : Program) (ops : Array Oper) (Q : Exit → Act → World → Prop) (S : List Nat) (w0 : World) (i : Nat) (K : Act → World → Prop) (a : Act) (W : World) : Prop :=
 ∀ w, Below W.heap.size W w → wpOp P ops Q i (fun a' w' => Cw S w0 w' ∧ K a' w') a w
def upE (P : Program) (w : World) (v : Value) : Result Next → Prop
 | .ok (.value u) w' => w' = w ∧ u = v
 | .ok .skip w' => w' = w ∧ v = undef
 | .ok (.enter f args) w' => w' = w ∧ Calls P f args w (fun e w'' => e = .returned v ∧ Below w.heap.size w w'')
 | _ => False
theorem upE_value (P : Program) (w w' : World) (v u : Value) : upE P w v (.ok (.value u) w') = (w' = w ∧ u = v) := rfl
theorem upE_skip (P : Program) (w w' : World) (v : Value) : upE P w v (.ok .skip w') = (w' = w ∧ v = undef) := rfl
theorem upE_enter (P : Program) (w w' : World) (v : Value) (f : FuncId) (args : Array Value) : upE P w v (.ok (.enter f args) w') = (w' = w ∧ Calls P f args w (fun e w'' => e = .returned v ∧ Below w.heap.size w w'')) := rfl
def quE (P : Program) (S : List Nat) (w0 : World) (o : Oper) (v : Value) (a : Act) : Prop := ∀ w, Cw S w0 w → upE P w v ((execOp a.eval o).run P w)
def YdE (P : Program) (ops : Array Oper) (S : List Nat) (w0 : World) (o : Oper) (v : Value) (a : Act) : Prop :=
 (Region.wanted o (yielded ops a.tmps) = true ∧ quE P S w0 o v a) ∨ (Region.wanted o (yielded ops a.tmps) = false ∧ v = undef)
def Plan.run (P : Program) (ops : Array Oper) (Q : Exit → Act → World → Prop) (S : List Nat) (w0 : World) : Plan → Act → World → Prop
 | .done, a, W => ∀ w, Below W.heap.size W w → Q .normal a w
 | .quiet i p, a, W => ∃ o v, ops[i]? = some o ∧ YdE P ops S w0 o v a ∧ p.run P ops Q S w0 (a.put o.dst v) W
 | .one i p, a, W => Op1 P ops Q S w0 i (p.run P ops Q S w0) a W
 | .two i p j q, a, W => Op1 P ops Q S w0 i (p.run P ops Q S w0) a W ∧ Op1 P ops Q S w0 j (q.run P ops Q S w0) a W
 | .three i p j q k r, a, W => Op1 P ops Q S w0 i (p.run P ops Q S w0) a W ∧ Op1 P ops Q S w0 j (q.run P ops Q S w0) a W ∧ Op1 P ops Q S w0 k (r.run P ops Q S w0) a W
def anyE (P : Program) (ops : Array Oper) (Q : Exit → Act → World → Prop) (S : List Nat) (w0 : World) : Nat → Array Bool → Act → World → Prop
 | 0, T, a, W => Region.ready .any ops T = [] ∧ ∀ w, Below W.heap.size W w → Q .normal a w
 | f + 1, T, a, W => (Region.ready .any ops T = [] → ∀ w, Below W.heap.size W w → Q .normal a w) ∧
   ∀ i ∈ Region.ready .any ops T, Op1 P ops Q S w0 i (anyE P ops Q S w0 f (T.setIfInBounds i true)) a W
theorem bnext {a b c : World} (h : Below a.heap.size a b) (k : Below b.heap.size b c) : Below a.heap.size a c := h.trans (k.mono h.size)
theorem anyE_up : ∀ (f : Nat) {T : Array Bool} {a : Act} {W w : World}, Below W.heap.size W w → anyE P ops Q S w0 f T a W → anyE P ops Q S w0 f T a w
 | 0, _, _, _, _, hb, h => ⟨h.1, fun w' hw => h.2 w' (bnext hb hw)⟩
 | f + 1, _, _, _, _, hb, h => ⟨fun h0 w' hw => h.1 h0 w' (bnext hb hw), fun i hi w' hw => h.2 i hi w' (bnext hb hw)⟩
theorem any_of_anyE : ∀ (f : Nat) {T : Array Bool} {a : Act} {W : World}, anyE P ops Q S w0 f T a W → wpAny P .any ops Q f T a W
 | 0, _, _, W, h => ⟨h.1, h.2 W (Below.refl _ _)⟩
 | f + 1, _, _, W, h => ⟨fun h0 => h.1 h0 W (Below.refl _ _), fun i hi => wpOp_mono (fun a' w' hh => any_of_anyE f hh.2) (h.2 i hi W (Below.refl _ _))⟩
theorem YdE.of_same {o : Oper} {v : Value} {a a' : Act} (hy : YdE P ops S w0 o v a) (he : execOp a'.eval o = execOp a.eval o)
  (hw : Region.wanted o (yielded ops a'.tmps) = Region.wanted o (yielded ops a.tmps)) : YdE P ops S w0 o v a' := by
 unfold YdE quE at *
 rw [he, hw]
 exact hy
theorem YdE.wpOp {i : Nat} {o : Oper} {v : Value} {a : Act} {w : World} {K : Act → World → Prop} (hi : ops[i]? = some o) (hy : YdE P ops S w0 o v a) (hC : Cw S w0 w)
  (h : ∀ w', Below w.heap.size w w' → K (a.put o.dst v) w') : wpOp P ops Q i K a w := by
 unfold Go.wpOp
 simp only [hi]
 rcases hy with ⟨hw, hv⟩ | ⟨hw, rfl⟩
 ·simp only [hw, if_true]
  refine .inl ?_
  have h3 := hv w hC
  unfold Oper.wp
  generalize (execOp a.eval o).run P w = r at *
  cases r with
  | ok n w' =>
   cases n <;> simp only [upE] at h3 <;> simp only [Oper.upon]
   case value u =>
    obtain ⟨e1, e2⟩ := h3
    rw [e1, e2]
    exact h _ (Below.refl _ _)
   case skip =>
    obtain ⟨e1, e2⟩ := h3
    rw [e1, ← e2]
    exact h _ (Below.refl _ _)
   case enter f args =>
    obtain ⟨e1, hc⟩ := h3
    rw [e1]
    exact hc.mono fun e w'' ⟨he, hw''⟩ => by subst he; exact h _ hw''
  | halt x w' => simp only [upE] at h3
 ·simp only [hw, Bool.false_eq_true, if_false]; exact h _ (Below.refl _ _)
theorem wpOp_putE {j : Nat} {oi oj : Oper} {v : Value} (hj : ops[j]? = some oj) (hap : oi.apart ops oj = true)
  (hsi : ∀ cs b, oi.op ≠ .select cs b) (hsj : ∀ cs b, oj.op ≠ .select cs b)
  (hQ : ∀ c a w, Q (.panic c) (a.put oi.dst v) w → Q (.panic c) a w) {K : Act → World → Prop} {a : Act} {w : World}
  (hy : YdE P ops S w0 oi v a) (h : wpOp P ops Q j K (a.put oi.dst v) w) :
  wpOp P ops Q j (fun a' w' => YdE P ops S w0 oi v a' ∧ K (a'.put oi.dst v) w') a w := by
 obtain ⟨h1, h2, h3⟩ := Oper.apart_spec hap
 have keep : ∀ (a : Act), YdE P ops S w0 oi v a → ∀ u, YdE P ops S w0 oi v (a.put oj.dst u) := fun a hy u =>
  hy.of_same (execOp_put oi hsi a oj.dst u h3) (wanted_put oi a oj.dst u h3)
 have keepD : ∀ d, YdE P ops S w0 oi v { a with defers := d :: a.defers } := fun d => hy.of_same rfl rfl
 unfold wpOp at *
 simp only [hj] at *
 rw [wanted_put oj a oi.dst v h1] at h
 split
 ·rename_i hw
  simp only [hw, if_true] at h
  rcases h with h | ⟨hasks, hlets⟩
  case inr => exact .inr ⟨by unfold Oper.asks at *; rw [execOp_put oj hsj a oi.dst v h1] at hasks; exact hasks, hlets⟩
  refine .inl ?_
  unfold Oper.wp at *
  rw [execOp_put oj hsj a oi.dst v h1] at h
  generalize (execOp a.eval oj).run P w = r at *
  cases r with
  | ok n w' =>
   cases n <;> simp only [Oper.upon] at h ⊢
   case value u => exact ⟨keep a hy u, by rw [← Act.put_comm a v u h2]; exact h⟩
   case skip => exact ⟨keep a hy _, by rw [← Act.put_comm a v undef h2]; exact h⟩
   case defer d =>
    refine ⟨keep _ (keepD d) _, ?_⟩
    rw [← Act.put_comm _ v undef h2, ← Act.put_defers]
    exact h
   case enter f args =>
    refine Calls.mono h fun e w'' he => ?_
    cases e with
    | returned u => exact ⟨keep a hy u, by rw [← Act.put_comm a v u h2]; exact he⟩
    | panicked c => exact hQ _ _ _ he
    | outgrown => exact he
   case row row args => exact Rows.mono h fun u w'' he => ⟨keep a hy u, by rw [← Act.put_comm a v u h2]; exact he⟩
  | halt x w' =>
   cases x <;> simp only [Oper.upon] at h ⊢
   case panic u => exact hQ _ _ _ h
 ·rename_i hw
  simp only [hw] at h
  exact ⟨keep a hy _, by rw [← Act.put_comm a v undef h2]; exact h⟩
theorem anyE_first {i : Nat} {oi : Oper} {v : Value} (hi : ops[i]? = some oi) (hsel : ∀ (j : Nat) (o : Oper) cs b, ops[j]? = some o → o.op ≠ .select cs b)
  (hQ : ∀ c a w, Q (.panic c) (a.put oi.dst v) w → Q (.panic c) a w) :
  ∀ (f : Nat) (T : Array Bool) (a : Act) (W : World),
   (∀ j oj, ops[j]? = some oj → j ≠ i → T.getD j true = false → (∀ e ∈ oj.after, Region.binds .any e = true → e.on ≠ i) → oi.apart ops oj = true) →
   i ∈ Region.ready .any ops T → YdE P ops S w0 oi v a → Cw S w0 W →
   anyE P ops Q S w0 f (T.setIfInBounds i true) (a.put oi.dst v) W → anyE P ops Q S w0 (f + 1) T a W := by
 intro f
 induction f with
 | zero =>
  intro T a W hfree hr hy hC H
  refine ⟨fun h => (by rw [h] at hr; cases hr), fun j hj w hw => ?_⟩
  by_cases hji : j = i
  ·subst hji
   exact hy.wpOp hi (ButS.low hC hw) fun w' hw' => ⟨ButS.low (ButS.low hC hw) hw', anyE_up _ (bnext hw hw') H⟩
  ·have := ready_mono hj hji
   rw [H.1] at this
   cases this
 | succ f ih =>
  intro T a W hfree hr hy hC H
  refine ⟨fun h => (by rw [h] at hr; cases hr), fun j hj w hw => ?_⟩
  by_cases hji : j = i
  ·subst hji
   exact hy.wpOp hi (ButS.low hC hw) fun w' hw' => ⟨ButS.low (ButS.low hC hw) hw', anyE_up _ (bnext hw hw') H⟩
  ·have h1 := H.2 j (ready_mono hj hji) w hw
   obtain ⟨hjun, oj, hoj, hall⟩ := mem_ready.1 hj
   have hnot : ∀ e ∈ oj.after, Region.binds .any e = true → e.on ≠ i := fun e he hb heq => by
    have h1 := hall e he hb
    have h0 := (mem_ready.1 hr).1
    rw [heq] at h1
    rcases Nat.lt_or_ge i T.size with h' | h'
    ·simp [h'] at h0 h1; rw [h0] at h1; cases h1
    ·simp [Array.getElem?_eq_none h'] at h1
   have h2 := wpOp_putE hoj (hfree j oj hoj hji hjun hnot) (fun cs b => hsel i oi cs b hi) (fun cs b => hsel j oj cs b hoj) hQ hy h1
   have hfree' : ∀ k ok, ops[k]? = some ok → k ≠ i → (T.setIfInBounds j true).getD k true = false →
     (∀ e ∈ ok.after, Region.binds .any e = true → e.on ≠ i) → oi.apart ops ok = true := fun k ok hk hki hun hno => by
    refine hfree k ok hk hki ?_ hno
    by_cases hjk : j = k
    ·subst hjk; exact hjun
    ·rw [getD_set_ne true hjk] at hun; exact hun
   refine wpOp_mono (fun a' w' h3 => ⟨h3.2.1, ih (T.setIfInBounds j true) a' w' hfree' (ready_mono hr (Ne.symm hji)) h3.1 h3.2.1 ?_⟩) h2
   rw [Array.setIfInBounds_comm _ _ hji]
   exact h3.2.2
def Plan.deep : Plan → Nat
 | .done => 0
 | .quiet _ p => p.deep + 1
 | .one _ p => p.deep + 1
 | .two _ p _ q => max p.deep q.deep + 1
 | .three _ p _ q _ r => max p.deep (max q.deep r.deep) + 1
theorem anyE_more : ∀ (f g : Nat) {T : Array Bool} {a : Act} {W : World}, anyE P ops Q S w0 f T a W → f ≤ g → anyE P ops Q S w0 g T a W
 | 0, 0, _, _, _, h, _ => h
 | 0, g + 1, _, _, _, h, _ => ⟨fun _ => h.2, fun i hi => by rw [h.1] at hi; cases hi⟩
 | f + 1, 0, _, _, _, h, hg => by omega
 | f + 1, g + 1, _, _, _, h, hg => ⟨h.1, fun i hi w hw => wpOp_mono (fun a' w' hh => ⟨hh.1, anyE_more f g hh.2 (by omega)⟩) (h.2 i hi w hw)⟩
theorem plan_sound (hsel : Region.noSelect ops = true) (hQ : ∀ c (a a' : Act) w, Q (.panic c) a' w → Q (.panic c) a w) :
  ∀ (p : Plan) (T : Array Bool) (a : Act) (W : World), planB ops p T = true → Cw S w0 W → p.run P ops Q S w0 a W → anyE P ops Q S w0 p.deep T a W := by
 have hs := Region.noSelect_spec hsel
 intro p
 induction p with
 | done => intro T a W hB hC h; exact ⟨by simpa [planB] using hB, h⟩
 | quiet i p ih =>
  intro T a W hB hC h
  simp only [planB, Bool.and_eq_true] at hB
  obtain ⟨⟨b1, b2⟩, b3⟩ := hB
  obtain ⟨o, v, ho, hy, hr⟩ := h
  exact anyE_first ho hs (fun c a w => hQ c _ _ w) _ T a W (Region.free_spec ho b2) (by simpa using b1) hy hC (ih _ _ _ b3 hC hr)
 | one i p ih =>
  intro T a W hB hC h
  simp only [planB, Bool.and_eq_true, beq_iff_eq] at hB
  refine ⟨fun h0 => (by rw [hB.1] at h0; cases h0), fun j hj w hw => ?_⟩
  rw [hB.1, List.mem_singleton] at hj
  subst hj
  exact wpOp_mono (fun a' w' hh => ⟨hh.1, ih _ _ _ hB.2 hh.1 hh.2⟩) (h w hw)
 | two i p j q ih1 ih2 =>
  intro T a W hB hC h
  simp only [planB, Bool.and_eq_true, beq_iff_eq] at hB
  refine ⟨fun h0 => (by rw [hB.1.1] at h0; cases h0), fun k hk w hw => ?_⟩
  rw [hB.1.1] at hk
  simp only [List.mem_cons, List.not_mem_nil, or_false] at hk
  rcases hk with rfl | rfl
  ·exact wpOp_mono (fun a' w' hh => ⟨hh.1, anyE_more _ _ (ih1 _ _ _ hB.1.2 hh.1 hh.2) (by omega)⟩) (h.1 w hw)
  ·exact wpOp_mono (fun a' w' hh => ⟨hh.1, anyE_more _ _ (ih2 _ _ _ hB.2 hh.1 hh.2) (by omega)⟩) (h.2 w hw)
 | three i p j q k r ih1 ih2 ih3 =>
  intro T a W hB hC h
  simp only [planB, Bool.and_eq_true, beq_iff_eq] at hB
  refine ⟨fun h0 => (by rw [hB.1.1.1] at h0; cases h0), fun m hm w hw => ?_⟩
  rw [hB.1.1.1] at hm
  simp only [List.mem_cons, List.not_mem_nil, or_false] at hm
  rcases hm with rfl | rfl | rfl
  ·exact wpOp_mono (fun a' w' hh => ⟨hh.1, anyE_more _ _ (ih1 _ _ _ hB.1.1.2 hh.1 hh.2) (by omega)⟩) (h.1 w hw)
  ·exact wpOp_mono (fun a' w' hh => ⟨hh.1, anyE_more _ _ (ih2 _ _ _ hB.1.2 hh.1 hh.2) (by omega)⟩) (h.2.1 w hw)
  ·exact wpOp_mono (fun a' w' hh => ⟨hh.1, anyE_more _ _ (ih3 _ _ _ hB.2 hh.1 hh.2) (by omega)⟩) (h.2.2 w hw)
theorem region_plan {id : Nat} {a : Act} {w : World} {l : List Oper} (S : List Nat) (p : Plan) (hm : P.follows .mixedOrders = true) (hB : (Region.noSelect l.toArray && decide (p.deep ≤ l.length) && planB l.toArray p (Array.replicate l.toArray.size false)) = true)
  (h : Box (p.run P l.toArray (fun e a w => e = .normal ∧ Q .normal a w) S w a w)) : (Code.region id l.toArray true).wp P Q a w := by
 simp only [Bool.and_eq_true, decide_eq_true_eq] at hB
 have h1 := plan_sound (P := P) (S := S) (w0 := w) (Q := fun e a w => e = .normal ∧ Q .normal a w) hB.1.1 (fun c a a' w h => by cases h.1) p _ a w hB.2 (ButS.refl _ _) h.out
 have h2 := anyE_more _ l.toArray.size h1 (by simpa using hB.1.2)
 have h3 : (Code.region id l.toArray true).wp P (fun e a w => e = .normal ∧ Q .normal a w) a w :=
  wp_region_any hm (any_of_anyE _ (anyE_up _ (Below.refl w.heap.size w).drew h2))
 exact Code.wp_mono (fun e a w hh => by obtain ⟨rfl, hq⟩ := hh; exact hq) h3
theorem p_done {a : Act} {W : World} (h : ∀ w, Below W.heap.size W w → Q .normal a w) : Box (Plan.run P ops (fun e a w => e = .normal ∧ Q .normal a w) S w0 .done a W) := ⟨fun w hw => ⟨rfl, h w hw⟩⟩
theorem p_quiet {i : Nat} {p : Plan} {a : Act} {W : World} {o : Oper} (hi : ops[i]? = some o)
  (h : ∀ K : Act → Prop, (∀ a, Box (p.run P ops Q S w0 a W) → K a) → Box (if Region.wanted o (yielded ops a.tmps) then ∃ v, (∀ x : ExtS S w0, upE P x.w v ((execOp a.eval o).run P x.w)) ∧ K (a.put o.dst v) else K (a.put o.dst undef))) : Box (Plan.run P ops Q S w0 (.quiet i p) a W) := by
 have h1 := (h (fun a => Box (p.run P ops Q S w0 a W)) (fun a h => h)).out
 by_cases hw : Region.wanted o (yielded ops a.tmps) = true
 ·rw [if_pos hw] at h1
  obtain ⟨v, h2, h3⟩ := h1
  exact ⟨o, v, hi, .inl ⟨hw, fun w hC => h2 ⟨w, hC⟩⟩, h3.out⟩
 ·rw [if_neg hw] at h1
  exact ⟨o, undef, hi, .inr ⟨by simpa using hw, rfl⟩, h1.out⟩
theorem op1_of {i : Nat} {p : Plan} {a : Act} {W : World} {o : Oper} (hi : ops[i]? = some o)
  (h : ∀ w, Below W.heap.size W w → ∀ K : Act → World → Prop, (∀ a' w', ButS S w0 w' → Box (p.run P ops Q S w0 a' w') → K a' w') → wpList P ops (fun e a w => e = .normal ∧ K a w) [o] a w) : Op1 P ops Q S w0 i (p.run P ops Q S w0) a W := by
 intro w hw
 have h1 := h w hw (fun a' w' => Cw S w0 w' ∧ p.run P ops Q S w0 a' w') (fun a' w' hb hr => ⟨hb, hr.out⟩)
 unfold wpOp
 simp only [hi]
 simp only [wpList] at h1
 by_cases hwa : Region.wanted o (yielded ops a.tmps) = true
 ·rw [if_pos hwa] at h1 ⊢
  refine .inl ?_
  rcases h1 with h1 | ⟨_, h1⟩
  ·unfold Oper.wp at *
   generalize (execOp a.eval o).run P w = r at *
   cases r with
   | ok nx w' =>
    cases nx <;> simp only [Oper.upon] at h1 ⊢
    case value u => exact h1.2
    case skip => exact h1.2
    case defer d => exact h1.2
    case enter f args =>
     refine h1.mono fun e w'' he => ?_
     cases e with
     | returned u => exact he.2
     | panicked c => cases he.1
     | outgrown => exact absurd he (by simp [LetsOut])
    case row row args => exact h1.mono fun u w'' he => he.2
   | halt x w' =>
    cases x <;> simp only [Oper.upon] at h1 ⊢
    case panic u => cases h1.1
  ·exact absurd h1 (by simp [LetsOut])
 ·rw [if_neg hwa] at h1 ⊢
  exact h1.2
theorem p_one {i : Nat} {p : Plan} {a : Act} {W : World} {o : Oper} (hi : ops[i]? = some o)
  (h : ∀ w, Below W.heap.size W w → ∀ K : Act → World → Prop, (∀ a' w', ButS S w0 w' → Box (p.run P ops Q S w0 a' w') → K a' w') → wpList P ops (fun e a w => e = .normal ∧ K a w) [o] a w) : Box (Plan.run P ops Q S w0 (.one i p) a W) := ⟨op1_of hi h⟩
theorem p_two {i j : Nat} {p q : Plan} {a : Act} {W : World} (h : Box (Plan.run P ops Q S w0 (.one i p) a W)) (k : Box (Plan.run P ops Q S w0 (.one j q) a W)) : Box (Plan.run P ops Q S w0 (.two i p j q) a W) := ⟨h.out, k.out⟩
end
end Go.Proofs.YtieifhfgedoiaaaGreatDoor
