/- A region that draws its order, whose last operations (from k on) stand in one forced order: the head by a plan, the tail in the text's order. Conditions: the program follows mixed orders; the plan passes the check planK. -/
import Derived.Test.YtieifhfgedoiaaaGreatDoorNQp
import Derived.StillTail
namespace Go.Proofs.YtieifhfgedoiaaaGreatDoor
open Go Go.RowKit
set_option linter.unusedVariables false
def Plan.len : Plan → Nat
 | .done => 0
 | .quiet _ p => p.len + 1
 | .one _ p => p.len + 1
 | .two _ p _ q => p.len + 1
 | .three _ p _ q _ r => p.len + 1
def planK (ops : Array Oper) (k : Nat) : Plan → Array Bool → Bool
 | .done, T => Region.seqB .any ops (ops.size - k) k T
 | .quiet i p, T => (Region.ready .any ops T).contains i && Region.free .any ops T i && decide (i < k) && planK ops k p (T.setIfInBounds i true)
 | .one i p, T => Region.ready .any ops T == [i] && decide (i < k) && planK ops k p (T.setIfInBounds i true)
 | .two i p j q, T => Region.ready .any ops T == [i, j] && decide (i < k) && decide (j < k) && decide (p.len = q.len) && planK ops k p (T.setIfInBounds i true) && planK ops k q (T.setIfInBounds j true)
 | .three i p j q m r, T => Region.ready .any ops T == [i, j, m] && decide (i < k) && decide (j < k) && decide (m < k) && decide (p.len = q.len) && decide (p.len = r.len) && planK ops k p (T.setIfInBounds i true) && planK ops k q (T.setIfInBounds j true) && planK ops k r (T.setIfInBounds m true)
section
variable {P : Program} {ops : Array Oper} {Q L : Exit → Act → World → Prop} {S : List Nat} {w0 : World} {k : Nat}
def anyT (P : Program) (ops : Array Oper) (L : Exit → Act → World → Prop) (S : List Nat) (w0 : World) (k : Nat) : Nat → Array Bool → Act → World → Prop
 | 0, T, a, W => Region.seqB .any ops (ops.size - k) k T = true ∧ ∀ w, Below W.heap.size W w → L .normal a w
 | f + 1, T, a, W => (Region.ready .any ops T ≠ [] ∧ ∀ i ∈ Region.ready .any ops T, i < k) ∧ ∀ i ∈ Region.ready .any ops T, Op1 P ops L S w0 i (anyT P ops L S w0 k f (T.setIfInBounds i true)) a W
theorem anyT_up : ∀ (f : Nat) {T : Array Bool} {a : Act} {W w : World}, Below W.heap.size W w → anyT P ops L S w0 k f T a W → anyT P ops L S w0 k f T a w
 | 0, _, _, _, _, hb, h => ⟨h.1, fun w' hw => h.2 w' (bnext hb hw)⟩
 | f + 1, _, _, _, _, hb, h => ⟨h.1, fun i hi w' hw => h.2 i hi w' (bnext hb hw)⟩
theorem wpOp_q {i : Nat} {K : Act → World → Prop} {a : Act} {w : World} (hL : ∀ c a w, ¬ L (.panic c) a w) (hO : ¬ LetsOut L) (h : wpOp P ops L i K a w) : wpOp P ops Q i K a w := by
 unfold wpOp at *
 split
 ·rename_i hn; simp only [hn] at h; exact h
 ·rename_i o ho
  simp only [ho] at h
  by_cases hwa : Region.wanted o (yielded ops a.tmps) = true
  ·rw [if_pos hwa] at h ⊢
   refine .inl ?_
   rcases h with h | ⟨_, h⟩
   ·unfold Oper.wp at *
    generalize (execOp a.eval o).run P w = r at *
    cases r with
    | ok nx w' =>
     cases nx <;> simp only [Oper.upon] at h ⊢
     case value u => exact h
     case skip => exact h
     case defer d => exact h
     case enter f args =>
      refine h.mono fun e w'' he => ?_
      cases e with
      | returned u => exact he
      | panicked c => exact absurd he (hL _ _ _)
      | outgrown => exact absurd he hO
     case row row args => exact h
    | halt x w' =>
     cases x <;> simp only [Oper.upon] at h ⊢
     case panic u => exact absurd h (hL _ _ _)
   ·exact absurd h hO
  ·rw [if_neg hwa] at h ⊢; exact h
theorem any_of_anyT (hL : ∀ c a w, ¬ L (.panic c) a w) (hO : ¬ LetsOut L) (l : List Oper) (hl : ∀ j, l[j]? = ops[k + j]?) (hk : l.length = ops.size - k) (hT : ∀ a w, L .normal a w → wpList P ops Q l a w) :
  ∀ (f : Nat) {T : Array Bool} {a : Act} {W : World}, anyT P ops L S w0 k f T a W → wpAny P .any ops Q (l.length + f) T a W
 | 0, T, a, W, h => by
  have := wpAny_of_seq (md := .any) (Q' := Q) l k T a W hl (by rw [hk]; exact h.1) (hT _ _ (h.2 W (Below.refl _ _)))
  simpa using this
 | f + 1, T, a, W, h => ⟨fun h0 => absurd h0 h.1.1, fun i hi => wpOp_mono (fun a' w' hh => any_of_anyT hL hO l hl hk hT f hh.2) (wpOp_q hL hO (h.2 i hi W (Below.refl _ _)))⟩
theorem anyT_first {i : Nat} {oi : Oper} {v : Value} (hs : Region.sinkB .any ops k = true) (hc : Region.chainB .any ops k = true) (hn : k < ops.size) (hi : ops[i]? = some oi) (hik : i < k)
  (hsel : ∀ (j : Nat) (o : Oper) cs b, ops[j]? = some o → o.op ≠ .select cs b) (hQ : ∀ c a w, L (.panic c) (a.put oi.dst v) w → L (.panic c) a w) :
  ∀ (f : Nat) (T : Array Bool) (a : Act) (W : World), HeadInv .any ops k T →
   (∀ j oj, ops[j]? = some oj → j ≠ i → T.getD j true = false → (∀ e ∈ oj.after, Region.binds .any e = true → e.on ≠ i) → oi.apart ops oj = true) →
   i ∈ Region.ready .any ops T → YdE P ops S w0 oi v a → Cw S w0 W →
   anyT P ops L S w0 k f (T.setIfInBounds i true) (a.put oi.dst v) W → anyT P ops L S w0 k (f + 1) T a W := by
 intro f
 induction f with
 | zero =>
  intro T a W inv hfree hr hy hC H
  have hlt : ∀ j, j ∈ Region.ready .any ops T → j < k := fun j hj =>
   Nat.lt_of_not_le fun hnj => tail_waits hs hc hn inv _ i rfl hik (mem_ready.1 hr).1 j hnj hj
  refine ⟨⟨fun h => (by rw [h] at hr; cases hr), hlt⟩, fun j hj w hw => ?_⟩
  by_cases hji : j = i
  ·subst hji
   exact hy.wpOp hi (ButS.low hC hw) fun w' hw' => ⟨ButS.low (ButS.low hC hw) hw', anyT_up _ (bnext hw hw') H⟩
  ·exact absurd (hlt j hj) (Nat.not_lt.2 (seqB_ready H.1 j (ready_mono hj hji)))
 | succ f ih =>
  intro T a W inv hfree hr hy hC H
  have hlt : ∀ j, j ∈ Region.ready .any ops T → j < k := fun j hj =>
   Nat.lt_of_not_le fun hnj => tail_waits hs hc hn inv _ i rfl hik (mem_ready.1 hr).1 j hnj hj
  refine ⟨⟨fun h => (by rw [h] at hr; cases hr), hlt⟩, fun j hj w hw => ?_⟩
  by_cases hji : j = i
  ·subst hji
   exact hy.wpOp hi (ButS.low hC hw) fun w' hw' => ⟨ButS.low (ButS.low hC hw) hw', anyT_up _ (bnext hw hw') H⟩
  ·have h1 := H.2 j (ready_mono hj hji) w hw
   obtain ⟨hjun, oj, hoj, hall⟩ := mem_ready.1 hj
   have hnot : ∀ e ∈ oj.after, Region.binds .any e = true → e.on ≠ i := fun e he hb heq => by
    have h1 := hall e he hb
    have h0 := (mem_ready.1 hr).1
    rw [heq] at h1
    rcases Nat.lt_or_ge i T.size with h' | h'
    ·simp [h'] at h0 h1; rw [h0] at h1; cases h1
    ·simp [Array.getElem?_eq_none h'] at h1
   have h2 := wpOp_putE hoj (hfree j oj hoj hji hjun hnot) (fun cs b => hsel i oi cs b hi) (fun cs b => hsel j oj cs b hoj) hQ hy h1
   have hfree' : ∀ k ok, ops[k]? = some ok → k ≠ i → (T.setIfInBounds j true).getD k true = false →
     (∀ e ∈ ok.after, Region.binds .any e = true → e.on ≠ i) → oi.apart ops ok = true := fun k ok hk hki hun hno => by
    refine hfree k ok hk hki ?_ hno
    by_cases hjk : j = k
    ·subst hjk; exact hjun
    ·rw [getD_set_ne true hjk] at hun; exact hun
   refine wpOp_mono (fun a' w' h3 => ⟨h3.2.1, ih (T.setIfInBounds j true) a' w' (inv.set hj (hlt j hj)) hfree' (ready_mono hr (Ne.symm hji)) h3.1 h3.2.1 ?_⟩) h2
   rw [Array.setIfInBounds_comm _ _ hji]
   exact h3.2.2
theorem planT_sound (hsel : Region.noSelect ops = true) (hs : Region.sinkB .any ops k = true) (hc : Region.chainB .any ops k = true) (hn : k < ops.size) (hQ : ∀ c (a a' : Act) w, L (.panic c) a' w → L (.panic c) a w) :
  ∀ (p : Plan) (T : Array Bool) (a : Act) (W : World), planK ops k p T = true → HeadInv .any ops k T → Cw S w0 W → p.run P ops L S w0 a W → anyT P ops L S w0 k p.len T a W := by
 have hs2 := Region.noSelect_spec hsel
 intro p
 induction p with
 | done => intro T a W hB inv hC h; exact ⟨by simpa [planK] using hB, h⟩
 | quiet i p ih =>
  intro T a W hB inv hC h
  simp only [planK, Bool.and_eq_true, decide_eq_true_eq] at hB
  obtain ⟨⟨⟨b1, b2⟩, b4⟩, b3⟩ := hB
  have hm : i ∈ Region.ready .any ops T := by simpa using b1
  obtain ⟨o, v, ho, hy, hr⟩ := h
  exact anyT_first hs hc hn ho b4 hs2 (fun c a w => hQ c _ _ w) _ T a W inv (Region.free_spec ho b2) hm hy hC (ih _ _ _ b3 (inv.set hm b4) hC hr)
 | one i p ih =>
  intro T a W hB inv hC h
  simp only [planK, Bool.and_eq_true, beq_iff_eq, decide_eq_true_eq] at hB
  obtain ⟨⟨b1, b2⟩, b3⟩ := hB
  refine ⟨⟨fun h0 => (by rw [b1] at h0; cases h0), fun j hj => (by rw [b1, List.mem_singleton] at hj; omega)⟩, fun j hj w hw => ?_⟩
  have hj2 := hj
  rw [b1, List.mem_singleton] at hj
  subst hj
  exact wpOp_mono (fun a' w' hh => ⟨hh.1, ih _ _ _ b3 (inv.set hj2 b2) hh.1 hh.2⟩) (h w hw)
 | two i p j q ih1 ih2 =>
  intro T a W hB inv hC h
  simp only [planK, Bool.and_eq_true, beq_iff_eq, decide_eq_true_eq] at hB
  obtain ⟨⟨⟨⟨⟨b1, b2⟩, b3⟩, b4⟩, b5⟩, b6⟩ := hB
  refine ⟨⟨fun h0 => (by rw [b1] at h0; cases h0), fun m hm => (by rw [b1] at hm; simp only [List.mem_cons, List.not_mem_nil, or_false] at hm; omega)⟩, fun m hm w hw => ?_⟩
  have hm2 := hm
  rw [b1] at hm
  simp only [List.mem_cons, List.not_mem_nil, or_false] at hm
  rcases hm with rfl | rfl
  ·exact wpOp_mono (fun a' w' hh => ⟨hh.1, ih1 _ _ _ b5 (inv.set hm2 b2) hh.1 hh.2⟩) (h.1 w hw)
  ·exact wpOp_mono (fun a' w' hh => ⟨hh.1, by rw [b4]; exact ih2 _ _ _ b6 (inv.set hm2 b3) hh.1 hh.2⟩) (h.2 w hw)
 | three i p j q m r ih1 ih2 ih3 =>
  intro T a W hB inv hC h
  simp only [planK, Bool.and_eq_true, beq_iff_eq, decide_eq_true_eq] at hB
  obtain ⟨⟨⟨⟨⟨⟨⟨⟨b1, b2⟩, b3⟩, b4⟩, b5⟩, b6⟩, b7⟩, b8⟩, b9⟩ := hB
  refine ⟨⟨fun h0 => (by rw [b1] at h0; cases h0), fun n hm => (by rw [b1] at hm; simp only [List.mem_cons, List.not_mem_nil, or_false] at hm; omega)⟩, fun n hm w hw => ?_⟩
  have hm2 := hm
  rw [b1] at hm
  simp only [List.mem_cons, List.not_mem_nil, or_false] at hm
  rcases hm with rfl | rfl | rfl
  ·exact wpOp_mono (fun a' w' hh => ⟨hh.1, ih1 _ _ _ b7 (inv.set hm2 b2) hh.1 hh.2⟩) (h.1 w hw)
  ·exact wpOp_mono (fun a' w' hh => ⟨hh.1, by rw [b5]; exact ih2 _ _ _ b8 (inv.set hm2 b3) hh.1 hh.2⟩) (h.2.1 w hw)
  ·exact wpOp_mono (fun a' w' hh => ⟨hh.1, by rw [b6]; exact ih3 _ _ _ b9 (inv.set hm2 b4) hh.1 hh.2⟩) (h.2.2 w hw)
end
theorem region_planT {P : Program} {Q : Exit → Act → World → Prop} {id : Nat} {a : Act} {w : World} {l : List Oper} (S : List Nat) (k : Nat) (p : Plan) (hm : P.follows .mixedOrders = true)
  (hB : (Region.noSelect l.toArray && decide (k < l.toArray.size) && decide (p.len = k) && Region.sinkB .any l.toArray k && Region.chainB .any l.toArray k && planK l.toArray k p (Array.replicate l.toArray.size false)) = true)
  (h : Box (p.run P l.toArray (fun e a w => e = .normal ∧ (fun _ a w => wpList P l.toArray Q (l.drop k) a w) Exit.normal a w) S w a w)) : (Code.region id l.toArray true).wp P Q a w := by
 simp only [Bool.and_eq_true, decide_eq_true_eq] at hB
 obtain ⟨⟨⟨⟨⟨b1, b2⟩, b3⟩, b4⟩, b5⟩, b6⟩ := hB
 have hsz : l.toArray.size = l.length := by simp
 have inv : HeadInv .any l.toArray k (Array.replicate l.toArray.size false) :=
  ⟨Array.size_replicate, fun j x _ hT => (by rw [getD_replicate_false] at hT; cases hT), fun t _ ht => getD_in (by rw [Array.size_replicate]; exact ht) (getD_replicate_false _ _)⟩
 have h1 := planT_sound (P := P) (S := S) (w0 := w) b1 b4 b5 b2 (fun c a a' w h => by cases h.1) p _ a w b6 inv (ButS.refl _ _) h.out
 have hdl : (l.drop k).length = l.toArray.size - k := by rw [List.length_drop, hsz]
 have h2 := any_of_anyT (Q := Q) (fun c a w h => by cases h.1) (by simp [LetsOut]) (l.drop k) (fun j => by simp [List.getElem?_drop]) hdl (fun a w h => h.2) p.len (anyT_up _ (Below.refl w.heap.size w).drew h1)
 rw [hdl, b3, show l.toArray.size - k + k = l.toArray.size by omega] at h2
 exact wp_region_any hm h2
theorem p_doneT {P : Program} {ops : Array Oper} {S : List Nat} {w0 : World} {L : Act → World → Prop} {a : Act} {W : World} (h : ∀ w, Below W.heap.size W w → L a w) : Box (Plan.run P ops (fun e a w => e = .normal ∧ L a w) S w0 .done a W) := ⟨fun w hw => ⟨rfl, h w hw⟩⟩
end Go.Proofs.YtieifhfgedoiaaaGreatDoor
