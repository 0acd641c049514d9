/- Inside a wide fence (a round of a range over a function too): a region of code that draws its order is walked once, as Qt has it outside. Conditions: the fence shuts no function out; no operation of the region is a deferral. -/
import Derived.Test.YtmpkfpabejpbkaaGreatDoorCQt
import Derived.RangeFuncNested
import Derived.RangeFuncCalls
import Derived.RangeFuncFrom
import Derived.OrdersIn
import Derived.OwnWalkIn
namespace Go.Proofs.YtmpkfpabejpbkaaGreatDoor.C
open Go Go.RowKit
set_option linter.unusedVariables false
/-- a fence that shuts nothing out -/
structure WideF (P : Program) (F : Fence) (n : Nat) : Prop where
  fn : ∀ f, F.fn f
  dp : F.depth.isSome = true → 1 ≤ n
  calls : ∀ (f : FuncId) (args : Array Value) (w : World) (R : Ending → World → Prop), Calls P f args w R → CallsIn F (n - 1) P f args w R
theorem WideF.wide (P : Program) (n : Nat) : WideF P Fence.wide n := ⟨fun _ => trivial, fun h => by simp [Fence.wide] at h, fun _ _ _ _ h => callsIn_wide.2 h⟩
theorem WideF.round (P : Program) (n l : Nat) : WideF P (Fence.wide.inRound l) n := ⟨fun _ => trivial, fun h => by simp [Fence.wide] at h, fun _ _ _ _ h => CallsIn.inRound l (callsIn_wide.2 h)⟩
def noDefer (l : List Oper) : Bool := l.all fun o => match o.op with
  | .defer _ => false
  | _ => true
theorem noDefer_spec {l : List Oper} (h : noDefer l = true) {i : Nat} {o : Oper} (ho : l.toArray[i]? = some o) : ∀ c, o.op ≠ .defer c := by
  intro c hc
  have hm : o ∈ l := by
    have : l[i]? = some o := by simpa using ho
    exact List.mem_of_getElem? this
  have := List.all_eq_true.1 h o hm
  simp [hc] at this
section
variable {P : Program} {F : Fence} {m : Nat} {ops : Array Oper} {C : World → Prop} {n : Nat}
theorem wpIn_of_quiet {o : Oper} {a : Act} {K : Act → Prop} {K' : Act → World → Prop} {Q' : Exit → Act → World → Prop} {w : World} (hF : WideF P F m) (hd : ∀ c, o.op ≠ .defer c) (hw : C w) (h : ∀ a w', C w' → K a → K' a w') (hh : o.quiet P a C K) : o.wpIn F m P a w K' Q' := by
  obtain ⟨v, h1, h2⟩ := hh
  have h3 := h1 w hw
  refine ⟨fun f _ => hF.fn f, ?_⟩
  rw [Oper.semAt_eq F.round a.eval o hd]
  unfold Oper.quietAt at h3
  generalize (execOp a.eval o).run P w = r at *
  cases r with
  | halt x w' => exact h3.elim
  | ok x w' =>
    cases x with
    | value u => obtain ⟨rfl, rfl⟩ := h3; exact h _ _ hw h2
    | skip => obtain ⟨rfl, rfl⟩ := h3; exact h _ _ hw h2
    | enter f args =>
      obtain ⟨rfl, hc⟩ := h3
      refine ⟨hF.dp, hF.calls _ _ _ _ (hc.mono ?_)⟩
      rintro e w'' ⟨rfl, hw''⟩
      exact h _ _ hw'' h2
    | _ => exact h3.elim
theorem wpOpIn_of_qOp {i : Nat} {a : Act} {K : Act → Prop} {K' : Act → World → Prop} {Q' : Exit → Act → World → Prop} {w : World} (hF : WideF P F m) (hd : ∀ o, ops[i]? = some o → ∀ c, o.op ≠ .defer c) (hC : C w) (h : ∀ a w', C w' → K a → K' a w') (hh : qOp P ops C i K a) : wpOpIn F m P ops Q' i K' a w := by
  unfold qOp at hh
  unfold wpOpIn
  cases ho : ops[i]? with
  | none => rw [ho] at hh; exact h _ _ hC hh
  | some o =>
    rw [ho] at hh
    simp only at hh ⊢
    split
    · rename_i hw; rw [if_pos hw] at hh; exact wpIn_of_quiet hF (hd o ho) hC h hh
    · rename_i hw; rw [if_neg hw] at hh; exact ⟨fun f _ => hF.fn f, h _ _ hC hh⟩
theorem AnyHead.soundIn {E : Array Bool → Act → Prop} {Q : Exit → Act → World → Prop} {g : Nat} (hF : WideF P F m) (hd : ∀ (i : Nat) (o : Oper), ops[i]? = some o → ∀ c, o.op ≠ .defer c)
    (hE : ∀ T a w, C w → E T a → wpAnyIn F m P .any ops Q g T a w) (f : Nat) :
    ∀ T a w, C w → AnyHead P ops C n E f T a → wpAnyIn F m P .any ops Q (g + f) T a w := by
  induction f with
  | zero => exact fun T a w hw h => hE T a w hw h
  | succ f ih =>
    intro T a w hw h
    refine ⟨fun h0 => absurd h0 h.1.1, fun i hi => ?_⟩
    exact wpOpIn_of_qOp hF (hd i) hw (fun a' w' hw' h' => ih _ a' w' hw' h') (h.2 i hi)
theorem wpAnyIn_of_seq {Q' : Exit → Act → World → Prop} (l : List Oper) : ∀ (k : Nat) (listed : Array Bool) (a : Act) (w : World), (∀ j, l[j]? = ops[k + j]?) →
    Region.seqB .any ops l.length k listed = true → wpListIn F m P ops Q' l a w → wpAnyIn F m P .any ops Q' l.length listed a w := by
  induction l with
  | nil => intro k T a w _ hB h; exact ⟨by simpa [Region.seqB] using hB, h⟩
  | cons o l ih =>
    intro k T a w hl hB h
    have h0 : ops[k]? = some o := by simpa using (hl 0).symm
    simp only [List.length_cons, Region.seqB, Bool.and_eq_true, decide_eq_true_eq] at hB
    refine ⟨fun h1 => (by rw [hB.1] at h1; cases h1), fun i hi => ?_⟩
    rw [hB.1] at hi
    obtain rfl : i = k := by simpa using hi
    have hw : wpOpIn F m P ops Q' i (wpListIn F m P ops Q' l) a w := by unfold wpOpIn; simp only [h0]; exact h
    exact wpOpIn_mono (fun a' w' h' => ih (i + 1) _ a' w' (fun j => by have := hl (j + 1); simpa [Nat.add_assoc, Nat.add_comm 1 j] using this) hB.2 h') hw
end
theorem quiet_tailIn {P : Program} {F : Fence} {m : Nat} {C : World → Prop} {id : Nat} {Q : Exit → Act → World → Prop} {a : Act} {w : World} {l : List Oper} (n : Nat) (hm : P.follows .mixedOrders = true) (hF : WideF P F m) (hd : noDefer l = true) (hB : Region.lexTailB .any l.toArray n = true) (hC : C w.drew)
    (h : wpQuiet P l.toArray C (fun a' => ∀ w', C w' → wpListIn F m P l.toArray Q (l.drop n) a' w') (l.take n) a) : (Code.region id l.toArray true).wpIn F m P Q a w := by
  simp only [Region.lexTailB, Bool.and_eq_true, decide_eq_true_eq] at hB
  have hn := hB.1.1.1.2
  have hsz : l.toArray.size = l.length := by simp
  have htl : (l.take n).length = n := by rw [List.length_take]; omega
  have inv : HeadInv .any l.toArray n (Array.replicate l.toArray.size false) :=
    ⟨Array.size_replicate, fun j x _ hT => (by rw [getD_replicate_false] at hT; cases hT), fun t _ ht => getD_in (by rw [Array.size_replicate]; exact ht) (getD_replicate_false _ _)⟩
  have hh := AnyHead.text (P := P) (C := C) (g := l.toArray.size - n) hB.1.1.1.1 hB.1.1.2 hB.1.2 hn (l.take n) 0 (Array.replicate l.toArray.size false) a
    (fun j hj => by rw [htl] at hj; simp [hj]) (by rw [htl]; omega) inv (by rw [htl]; exact hB.2) h
  refine wpIn_region_any hm ?_
  have h2 := AnyHead.soundIn (Q := Q) (g := l.toArray.size - n) hF (fun i o ho => noDefer_spec hd ho) (fun T a' w' hw' hT => by
    have := wpAnyIn_of_seq (F := F) (m := m) (Q' := Q) (l.drop n) n T a' w' (fun j => by simp [List.getElem?_drop]) (by rw [List.length_drop, ← hsz]; exact hT.1) (hT.2 w' hw')
    rwa [List.length_drop, ← hsz] at this) _ _ _ _ hC hh
  rw [htl, show l.toArray.size - n + n = l.toArray.size by omega] at h2
  exact h2
/-- all quiet -/
theorem wpAnyIn_of_quiet {P : Program} {F : Fence} {m : Nat} {C : World → Prop} {ops : Array Oper} {Q : Act → Prop} {Q' : Exit → Act → World → Prop} (hF : WideF P F m) (hd : ∀ (i : Nat) (o : Oper), ops[i]? = some o → ∀ c, o.op ≠ .defer c) (hQ : ∀ a w, C w → Q a → Q' .normal a w) : ∀ (fuel : Nat) (listed : Array Bool) (a : Act) (w : World), C w →
    wpAnyQ P .any ops C Q fuel listed a → wpAnyIn F m P .any ops Q' fuel listed a w
  | 0, _, _, _, hw, h => ⟨h.1, hQ _ _ hw h.2⟩
  | fuel + 1, _, _, _, hw, h => ⟨fun h0 => hQ _ _ hw (h.1 h0), fun i hi => wpOpIn_of_qOp hF (hd i) hw (fun a' w' hw' => wpAnyIn_of_quiet hF hd hQ fuel _ a' w' hw') (h.2 i hi)⟩
/-- The law at the class of worlds that have new memory alone. -/
theorem ext_tailIn {P : Program} {F : Fence} {m : Nat} {id : Nat} {Q : Exit → Act → World → Prop} {a : Act} {w : World} {l : List Oper} (n : Nat) (hm : P.follows .mixedOrders = true) (hF : WideF P F m) (hd : noDefer l = true) (hB : Region.lexTailB .any l.toArray n = true)
    (h : wpQuiet P l.toArray (fun w' => ∃ x : Ext w, w' = x.w) (fun a' => ∀ w', (∃ x : Ext w, w' = x.w) → wpListIn F m P l.toArray Q (l.drop n) a' w') (l.take n) a) : (Code.region id l.toArray true).wpIn F m P Q a w :=
  quiet_tailIn n hm hF hd hB ⟨Ext.start w, rfl⟩ h
theorem quiet_allIn {P : Program} {F : Fence} {m : Nat} {C : World → Prop} {id : Nat} {Q : Exit → Act → World → Prop} {a : Act} {w : World} {l : List Oper} (hm : P.follows .mixedOrders = true) (hF : WideF P F m) (hd : noDefer l = true) (hB : Region.lexB .any l.toArray = true) (hC : C w.drew)
    (h : wpQuiet P l.toArray C (fun a' => ∀ w', C w' → Q .normal a' w') l a) : (Code.region id l.toArray true).wpIn F m P Q a w := by
  simp only [Region.lexB, Bool.and_eq_true] at hB
  refine wpIn_region_any hm (wpAnyIn_of_quiet (Q := fun a' => ∀ w', C w' → Q .normal a' w') hF (fun i o ho => noDefer_spec hd ho) (fun _ w' hw' h => h w' hw') _ _ _ _ hC ?_)
  have := wpAnyQ_lex (C := C) (md := .any) hB.1 l 0 (Array.replicate l.toArray.size false) a (by simp) (by simpa using hB.2) h
  simpa using this
theorem ext_allIn {P : Program} {F : Fence} {m : Nat} {id : Nat} {Q : Exit → Act → World → Prop} {a : Act} {w : World} {l : List Oper} (hm : P.follows .mixedOrders = true) (hF : WideF P F m) (hd : noDefer l = true) (hB : Region.lexB .any l.toArray = true)
    (h : wpQuiet P l.toArray (fun w' => ∃ x : Ext w, w' = x.w) (fun a' => ∀ w', (∃ x : Ext w, w' = x.w) → Q .normal a' w') l a) : (Code.region id l.toArray true).wpIn F m P Q a w :=
  quiet_allIn hm hF hd hB ⟨Ext.start w, rfl⟩ h
end Go.Proofs.YtmpkfpabejpbkaaGreatDoor.C
