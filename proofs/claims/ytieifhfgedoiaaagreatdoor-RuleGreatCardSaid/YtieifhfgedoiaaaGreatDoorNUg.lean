/- RuleGreat: great letters sound as their small ones: the pieces of a text as an iterator, the text in great letters, and the walk. Conditions: those of each theorem. -/
import Derived.Test.YtieifhfgedoiaaaGreatDoorNQa
import Derived.RangeFuncNested
import Derived.RangeFuncCalls
import Derived.RangeFuncFrom
import Derived.OrdersIn
import Derived.OwnWalkIn
import Derived.RangeFuncBound
import Derived.RangeFuncLeaves
import Derived.RangeFuncWrites
import Derived.Shelf.Abstract
import Derived.Shelf.RegionOpen
import Derived.Test.YtieifhfgedoiaaaGreatDoorNOw
import Derived.Shelf.Strings.Builder1
import Derived.Shelf.LaysM
import Derived.Test.YtieifhfgedoiaaaGreatDoorProg
import Derived.Test.YtieifhfgedoiaaaGreatDoorNLfD
import Derived.Test.YtieifhfgedoiaaaGreatDoorNRgP
import Derived.Test.YtieifhfgedoiaaaGreatDoorNSc
import Derived.Test.YtieifhfgedoiaaaGreatDoorNLfF
import Derived.Test.YtieifhfgedoiaaaGreatDoorNFa
import Derived.Test.YtieifhfgedoiaaaGreatDoorNPhD
import Derived.TacticsInMore
import Derived.LoopNIn
import Derived.LoopIn
import Derived.Shelf.Strings.BuilderK
import Derived.Test.YtieifhfgedoiaaaGreatDoorNTa
import Derived.Test.YtieifhfgedoiaaaGreatDoorNGa
import Derived.Test.YtieifhfgedoiaaaGreatDoorNVs
/- Inside a wide fence: a region that draws its order is walked once; the goals kept behind a structure. Conditions: those of each theorem. -/
namespace Go.Proofs.YtieifhfgedoiaaaGreatDoor
open Go Go.RowKit
set_option linter.unusedVariables false
section
variable {P : Program} {ops : Array Oper} {C : World → Prop} {n : Nat}

end

instance (w : World) : Nonempty (Ext w) := ⟨Ext.start w⟩
end Go.Proofs.YtieifhfgedoiaaaGreatDoor

namespace Go.Proofs.YtieifhfgedoiaaaGreatDoor
open Go Go.RowKit
set_option linter.unusedVariables false
def noDefer (l : List Oper) : Bool := l.all fun o => match o.op with
  | .defer _ => false
  | _ => true
theorem noDefer_spec {l : List Oper} (h : noDefer l = true) {i : Nat} {o : Oper} (ho : l.toArray[i]? = some o) : ∀ c, o.op ≠ .defer c := by
  intro c hc
  have hm : o ∈ l := by
    have : l[i]? = some o := by simpa using ho
    exact List.mem_of_getElem? this
  have := List.all_eq_true.1 h o hm
  simp [hc] at this
section
variable {P : Program} {F : Fence} {m : Nat} {ops : Array Oper} {C : World → Prop} {n : Nat}
theorem wpIn_of_quiet {o : Oper} {a : Act} {K : Act → Prop} {K' : Act → World → Prop} {Q' : Exit → Act → World → Prop} {w : World} (hF : WideF P F m) (hd : ∀ c, o.op ≠ .defer c) (hw : C w) (h : ∀ a w', C w' → K a → K' a w') (hh : o.quiet P a C K) : o.wpIn F m P a w K' Q' := by
  obtain ⟨v, h1, h2⟩ := hh
  have h3 := h1 w hw
  refine ⟨fun f _ => hF.fn f, ?_⟩
  rw [Oper.semAt_eq F.round a.eval o hd]
  unfold Oper.quietAt at h3
  generalize (execOp a.eval o).run P w = r at *
  cases r with
  | halt x w' => exact h3.elim
  | ok x w' =>
    cases x with
    | value u => obtain ⟨rfl, rfl⟩ := h3; exact h _ _ hw h2
    | skip => obtain ⟨rfl, rfl⟩ := h3; exact h _ _ hw h2
    | enter f args =>
      obtain ⟨rfl, hc⟩ := h3
      refine ⟨hF.dp, hF.calls _ _ _ _ (hc.mono ?_)⟩
      rintro e w'' ⟨rfl, hw''⟩
      exact h _ _ hw'' h2
    | _ => exact h3.elim
theorem wpOpIn_of_qOp {i : Nat} {a : Act} {K : Act → Prop} {K' : Act → World → Prop} {Q' : Exit → Act → World → Prop} {w : World} (hF : WideF P F m) (hd : ∀ o, ops[i]? = some o → ∀ c, o.op ≠ .defer c) (hC : C w) (h : ∀ a w', C w' → K a → K' a w') (hh : qOp P ops C i K a) : wpOpIn F m P ops Q' i K' a w := by
  unfold qOp at hh
  unfold wpOpIn
  cases ho : ops[i]? with
  | none => rw [ho] at hh; exact h _ _ hC hh
  | some o =>
    rw [ho] at hh
    simp only at hh ⊢
    split
    · rename_i hw; rw [if_pos hw] at hh; exact wpIn_of_quiet hF (hd o ho) hC h hh
    · rename_i hw; rw [if_neg hw] at hh; exact ⟨fun f _ => hF.fn f, h _ _ hC hh⟩
theorem AnyHead.soundIn {E : Array Bool → Act → Prop} {Q : Exit → Act → World → Prop} {g : Nat} (hF : WideF P F m) (hd : ∀ (i : Nat) (o : Oper), ops[i]? = some o → ∀ c, o.op ≠ .defer c)
    (hE : ∀ T a w, C w → E T a → wpAnyIn F m P .any ops Q g T a w) (f : Nat) :
    ∀ T a w, C w → AnyHead P ops C n E f T a → wpAnyIn F m P .any ops Q (g + f) T a w := by
  induction f with
  | zero => exact fun T a w hw h => hE T a w hw h
  | succ f ih =>
    intro T a w hw h
    refine ⟨fun h0 => absurd h0 h.1.1, fun i hi => ?_⟩
    exact wpOpIn_of_qOp hF (hd i) hw (fun a' w' hw' h' => ih _ a' w' hw' h') (h.2 i hi)
theorem wpAnyIn_of_seq {Q' : Exit → Act → World → Prop} (l : List Oper) : ∀ (k : Nat) (listed : Array Bool) (a : Act) (w : World), (∀ j, l[j]? = ops[k + j]?) →
    Region.seqB .any ops l.length k listed = true → wpListIn F m P ops Q' l a w → wpAnyIn F m P .any ops Q' l.length listed a w := by
  induction l with
  | nil => intro k T a w _ hB h; exact ⟨by simpa [Region.seqB] using hB, h⟩
  | cons o l ih =>
    intro k T a w hl hB h
    have h0 : ops[k]? = some o := by simpa using (hl 0).symm
    simp only [List.length_cons, Region.seqB, Bool.and_eq_true, decide_eq_true_eq] at hB
    refine ⟨fun h1 => (by rw [hB.1] at h1; cases h1), fun i hi => ?_⟩
    rw [hB.1] at hi
    obtain rfl : i = k := by simpa using hi
    have hw : wpOpIn F m P ops Q' i (wpListIn F m P ops Q' l) a w := by unfold wpOpIn; simp only [h0]; exact h
    exact wpOpIn_mono (fun a' w' h' => ih (i + 1) _ a' w' (fun j => by have := hl (j + 1); simpa [Nat.add_assoc, Nat.add_comm 1 j] using this) hB.2 h') hw
end
theorem quiet_tailIn {P : Program} {F : Fence} {m : Nat} {C : World → Prop} {id : Nat} {Q : Exit → Act → World → Prop} {a : Act} {w : World} {l : List Oper} (n : Nat) (hm : P.follows .mixedOrders = true) (hF : WideF P F m) (hd : noDefer l = true) (hB : Region.lexTailB .any l.toArray n = true) (hC : C w.drew)
    (h : wpQuiet P l.toArray C (fun a' => ∀ w', C w' → wpListIn F m P l.toArray Q (l.drop n) a' w') (l.take n) a) : (Code.region id l.toArray true).wpIn F m P Q a w := by
  simp only [Region.lexTailB, Bool.and_eq_true, decide_eq_true_eq] at hB
  have hn := hB.1.1.1.2
  have hsz : l.toArray.size = l.length := by simp
  have htl : (l.take n).length = n := by rw [List.length_take]; omega
  have inv : HeadInv .any l.toArray n (Array.replicate l.toArray.size false) :=
    ⟨Array.size_replicate, fun j x _ hT => (by rw [getD_replicate_false] at hT; cases hT), fun t _ ht => getD_in (by rw [Array.size_replicate]; exact ht) (getD_replicate_false _ _)⟩
  have hh := AnyHead.text (P := P) (C := C) (g := l.toArray.size - n) hB.1.1.1.1 hB.1.1.2 hB.1.2 hn (l.take n) 0 (Array.replicate l.toArray.size false) a
    (fun j hj => by rw [htl] at hj; simp [hj]) (by rw [htl]; omega) inv (by rw [htl]; exact hB.2) h
  refine wpIn_region_any hm ?_
  have h2 := AnyHead.soundIn (Q := Q) (g := l.toArray.size - n) hF (fun i o ho => noDefer_spec hd ho) (fun T a' w' hw' hT => by
    have := wpAnyIn_of_seq (F := F) (m := m) (Q' := Q) (l.drop n) n T a' w' (fun j => by simp [List.getElem?_drop]) (by rw [List.length_drop, ← hsz]; exact hT.1) (hT.2 w' hw')
    rwa [List.length_drop, ← hsz] at this) _ _ _ _ hC hh
  rw [htl, show l.toArray.size - n + n = l.toArray.size by omega] at h2
  exact h2
/-- all quiet -/
theorem wpAnyIn_of_quiet {P : Program} {F : Fence} {m : Nat} {C : World → Prop} {ops : Array Oper} {Q : Act → Prop} {Q' : Exit → Act → World → Prop} (hF : WideF P F m) (hd : ∀ (i : Nat) (o : Oper), ops[i]? = some o → ∀ c, o.op ≠ .defer c) (hQ : ∀ a w, C w → Q a → Q' .normal a w) : ∀ (fuel : Nat) (listed : Array Bool) (a : Act) (w : World), C w →
    wpAnyQ P .any ops C Q fuel listed a → wpAnyIn F m P .any ops Q' fuel listed a w
  | 0, _, _, _, hw, h => ⟨h.1, hQ _ _ hw h.2⟩
  | fuel + 1, _, _, _, hw, h => ⟨fun h0 => hQ _ _ hw (h.1 h0), fun i hi => wpOpIn_of_qOp hF (hd i) hw (fun a' w' hw' => wpAnyIn_of_quiet hF hd hQ fuel _ a' w' hw') (h.2 i hi)⟩
/-- The law at the class of worlds that have new memory alone. -/
theorem ext_tailIn {P : Program} {F : Fence} {m : Nat} {id : Nat} {Q : Exit → Act → World → Prop} {a : Act} {w : World} {l : List Oper} (n : Nat) (hm : P.follows .mixedOrders = true) (hF : WideF P F m) (hd : noDefer l = true) (hB : Region.lexTailB .any l.toArray n = true)
    (h : wpQuiet P l.toArray (fun w' => ∃ x : Ext w, w' = x.w) (fun a' => ∀ w', (∃ x : Ext w, w' = x.w) → wpListIn F m P l.toArray Q (l.drop n) a' w') (l.take n) a) : (Code.region id l.toArray true).wpIn F m P Q a w :=
  quiet_tailIn n hm hF hd hB ⟨Ext.start w, rfl⟩ h
theorem quiet_allIn {P : Program} {F : Fence} {m : Nat} {C : World → Prop} {id : Nat} {Q : Exit → Act → World → Prop} {a : Act} {w : World} {l : List Oper} (hm : P.follows .mixedOrders = true) (hF : WideF P F m) (hd : noDefer l = true) (hB : Region.lexB .any l.toArray = true) (hC : C w.drew)
    (h : wpQuiet P l.toArray C (fun a' => ∀ w', C w' → Q .normal a' w') l a) : (Code.region id l.toArray true).wpIn F m P Q a w := by
  simp only [Region.lexB, Bool.and_eq_true] at hB
  refine wpIn_region_any hm (wpAnyIn_of_quiet (Q := fun a' => ∀ w', C w' → Q .normal a' w') hF (fun i o ho => noDefer_spec hd ho) (fun _ w' hw' h => h w' hw') _ _ _ _ hC ?_)
  have := wpAnyQ_lex (C := C) (md := .any) hB.1 l 0 (Array.replicate l.toArray.size false) a (by simp) (by simpa using hB.2) h
  simpa using this
theorem ext_allIn {P : Program} {F : Fence} {m : Nat} {id : Nat} {Q : Exit → Act → World → Prop} {a : Act} {w : World} {l : List Oper} (hm : P.follows .mixedOrders = true) (hF : WideF P F m) (hd : noDefer l = true) (hB : Region.lexB .any l.toArray = true)
    (h : wpQuiet P l.toArray (fun w' => ∃ x : Ext w, w' = x.w) (fun a' => ∀ w', (∃ x : Ext w, w' = x.w) → Q .normal a' w') l a) : (Code.region id l.toArray true).wpIn F m P Q a w :=
  quiet_allIn hm hF hd hB ⟨Ext.start w, rfl⟩ h
end Go.Proofs.YtieifhfgedoiaaaGreatDoor

namespace Go.Proofs.YtieifhfgedoiaaaGreatDoor
open Go Go.RowKit
set_option linter.unusedVariables false
section
variable {P : Program} {ops : Array Oper} {C : World → Prop} {Q : Act → Prop} {a : Act}
end
theorem ext_allB {P : Program} {id : Nat} {Q : Exit → Act → World → Prop} {a : Act} {w : World} {l : List Oper} (hm : P.follows .mixedOrders = true) (hB : Region.lexB .any l.toArray = true)
    (h : Box (wpQuiet P l.toArray (fun w' => ∃ x : Ext w, w' = x.w) (fun a' => ∀ w', (∃ x : Ext w, w' = x.w) → Q .normal a' w') l a)) : (Code.region id l.toArray true).wp P Q a w := ext_all hm hB h.out
theorem ext_tailInB {P : Program} {F : Fence} {m : Nat} {id : Nat} {Q : Exit → Act → World → Prop} {a : Act} {w : World} {l : List Oper} (n : Nat) (hm : P.follows .mixedOrders = true) (hF : WideF P F m) (hd : noDefer l = true) (hB : Region.lexTailB .any l.toArray n = true)
    (h : Box (wpQuiet P l.toArray (fun w' => ∃ x : Ext w, w' = x.w) (fun a' => ∀ w', (∃ x : Ext w, w' = x.w) → wpListIn F m P l.toArray Q (l.drop n) a' w') (l.take n) a)) : (Code.region id l.toArray true).wpIn F m P Q a w := ext_tailIn n hm hF hd hB h.out
theorem ext_allInB {P : Program} {F : Fence} {m : Nat} {id : Nat} {Q : Exit → Act → World → Prop} {a : Act} {w : World} {l : List Oper} (hm : P.follows .mixedOrders = true) (hF : WideF P F m) (hd : noDefer l = true) (hB : Region.lexB .any l.toArray = true)
    (h : Box (wpQuiet P l.toArray (fun w' => ∃ x : Ext w, w' = x.w) (fun a' => ∀ w', (∃ x : Ext w, w' = x.w) → Q .normal a' w') l a)) : (Code.region id l.toArray true).wpIn F m P Q a w := ext_allIn hm hF hd hB h.out
/-- the same over worlds that only draw -/
theorem draw_allB {P : Program} {id : Nat} {Q : Exit → Act → World → Prop} {a : Act} {w : World} {l : List Oper} (hm : P.follows .mixedOrders = true) (hB : Region.lexB .any l.toArray = true)
    (h : Box (wpQuiet P l.toArray (fun w' => ∃ n, w' = w.drewN n) (fun a' => ∀ w', (∃ n, w' = w.drewN n) → Q .normal a' w') l a)) : (Code.region id l.toArray true).wp P Q a w := wp_region_quiet_lit hm hB h.out
theorem draw_allInB {P : Program} {F : Fence} {m : Nat} {id : Nat} {Q : Exit → Act → World → Prop} {a : Act} {w : World} {l : List Oper} (hm : P.follows .mixedOrders = true) (hF : WideF P F m) (hd : noDefer l = true) (hB : Region.lexB .any l.toArray = true)
    (h : Box (wpQuiet P l.toArray (fun w' => ∃ n, w' = w.drewN n) (fun a' => ∀ w', (∃ n, w' = w.drewN n) → Q .normal a' w') l a)) : (Code.region id l.toArray true).wpIn F m P Q a w := quiet_allIn hm hF hd hB ⟨1, rfl⟩ h.out
end Go.Proofs.YtieifhfgedoiaaaGreatDoor
/- A range over a function whose iterator yields the members of a known list in their order, out of memory of its own and of one block that lay before: a round that goes on keeps what lies below a number, that block, and whatever the iterator has laid since its call. Conditions: those of the theorem. -/
namespace Go.Proofs.YtieifhfgedoiaaaGreatDoor
open Go Go.RowKit Go.Shelf
set_option linter.unusedVariables false
/-- what lies below n₀, what lies at n₁ and beyond and is no cells, and the block kb are kept -/
structure KC (n₀ n₁ kb : Nat) (W W' : World) : Prop where
  low : Below n₀ W W'
  up : ∀ k o, n₁ ≤ k → W.heap[k]? = some o → o.isCells = false → W'.heap[k]? = some o
  at_ : W'.heap[kb]? = W.heap[kb]?
theorem KC.trans {n₀ n₁ kb : Nat} {a b c : World} (h : KC n₀ n₁ kb a b) (k : KC n₀ n₁ kb b c) : KC n₀ n₁ kb a c :=
  ⟨h.low.trans k.low, fun i o hi ho hc => k.up i o hi (h.up i o hi ho hc) hc, k.at_.trans h.at_⟩
theorem KC.refl (n₀ n₁ kb : Nat) (a : World) : KC n₀ n₁ kb a a := ⟨Below.refl _ _, fun _ _ _ ho _ => ho, rfl⟩
/-- the iterator yields `all`, in order; each round is asked at the next member alone; a round that goes on keeps what lies below n₀, and what the iterator has laid -/
def SeqOwn {α : Type} (F : Fence) (n : Nat) (P : Program) (g : Nat) (lb : Array Value) (encs : α → Array Value) (n₀ kb : Nat) (all : List α) (w : World) : Prop :=
  ∀ (l : Nat) (J Jx : List α → World → Prop) (W : World), Below w.heap.size w W → AbidesFrom W.heap.size J →
    (∀ pre x W1, J pre W1 → pre ++ [x] <+: all → YieldAt F (n - 1) P l (encs x) W1 fun e W' =>
      (e = .returned (.bool true) ∧ J (pre ++ [x]) W' ∧ KC n₀ W.heap.size kb W1 W') ∨ (e = .returned (.bool false) ∧ Jx (pre ++ [x]) W')) →
    J [] W →
    CallsIn F n P g (#[.func (.yield l) #[] #[]] ++ lb) W fun e W' => (∃ v, e = .returned v) ∧ (J all W' ∨ (∃ pre, pre <+: all ∧ Jx pre W'))
variable {F : Fence} {n : Nat} {P : Program}
theorem rangeFunc_own {α : Type} {g : Operand} {ps : Array Tmp} {assign body : Code} {Q : Exit → Act → World → Prop} {a : Act} {w : World}
    (hro : F.round = none) (h1 : 1 ≤ n) {gf : Nat} {lb : Array Value} (hg : a.eval g = .func (.func gf) #[] lb) (hFg : F.fn gf) (eg : ∀ args w, (callFunc gf args).run P w = .ok (.enter gf args) w)
    {encs : α → Array Value} {n₀ kb : Nat} {all : List α} {w0 : World} (hseq : SeqOwn F (n - 1) P gf lb encs n₀ kb all w0) (hn₀ : n₀ ≤ w.heap.size) (hkb : kb < w.heap.size) (hb0 : Below w0.heap.size w0 w) (hps : ∀ x, (encs x).size = ps.size)
    (I : List α → World → Prop) (Ix : Code → List α → World → Prop) (hI : OwnFrom w.heap.size I) (hIx : ∀ c, OwnFrom w.heap.size (Ix c)) (h0 : I [] w) (Ax : α → Act → World → Prop) (hAx : ∀ x a', OwnFrom w.heap.size (fun (_ : Unit) W => Ax x a' W))
    (hassign : ∀ (l : Nat) (pre : List α) (x : α) (W : World) (K : Act → World → Prop), I pre W → pre ++ [x] <+: all → (∀ a' W', KeepsFrom w.heap.size W W' → KC n₀ (w.heap.size + 2) kb W W' → I pre W' → Ax x a' W' → K a' W') →
      assign.wpIn (F.inRound l) (n - 1 - 1) P (Exit.then K (fun _ _ _ => False)) { tmps := (ps.zip (encs x)).foldl (fun t (p, v) => t.setIfInBounds p v) a.tmps, defers := [] } W)
    (hbody : ∀ (l : Nat) (pre : List α) (x : α) (a' : Act) (W : World), w.heap.size ≤ l → (∃ r, W.heap[l]? = some (.loop r)) → pre ++ [x] <+: all → I pre W → Ax x a' W → body.wpIn (F.inRound l) (n - 1 - 1) P (ownPostG w.heap.size (KC n₀ (w.heap.size + 2) kb) I Ix (pre ++ [x]) W) a' W)
    (hdone : ∀ (D : Nat) (W : World), w.heap.size ≤ D → I all W → W.heap[D]? = some (.deferred (some [])) → Q .normal { a with defers := { target := .collected D, args := #[] } :: a.defers } W)
    (hstop : ∀ (D : Nat) (c : Code) (pre : List α) (W : World), w.heap.size ≤ D → pre <+: all → Ix c pre W → W.heap[D]? = some (.deferred (some [])) → c.wpIn F n P Q { a with defers := { target := .collected D, args := #[] } :: a.defers } W) :
    (Code.rangeFunc g ps assign body).wpIn F n P Q a w := by
  refine wpIn_rangeFunc ?_
  intro fn hfn
  rw [hro]
  -- the loop's record, in each of its states
  obtain ⟨R, hR⟩ : ∃ R : LoopState → Option Code → Loop, R = fun st pe => { state := st, pending := pe, fn, tmps := a.tmps, params := ps, assign, body, defers := w.heap.size } := ⟨_, rfl⟩
  obtain ⟨V, hV⟩ : ∃ V, (w.alloc (.deferred (some []))).alloc (.loop (R .ready none)) = V := ⟨_, rfl⟩
  -- the two blocks of the loop's own: the deferred calls' at w.heap.size, the record's behind it
  have book : V.heap[w.heap.size + 1]? = some (.loop (R .ready none)) ∧ V.heap[w.heap.size]? = some (.deferred (some [])) := by
    rw [← hV]
    refine ⟨?_, (Below.heap_alloc _ _ _ (by simp)).trans (World.alloc_heap_new w _)⟩
    have := World.alloc_heap_new (w.alloc (.deferred (some []))) (.loop (R .ready none))
    rwa [World.size_alloc] at this
  have low : Below w0.heap.size w0 V := by
    rw [← hV]; exact hb0.trans ((((Below.refl _ w).alloc (Nat.le_refl _) _).alloc (by simp) _).mono hb0.size)
  have hVs : w.heap.size + 2 = V.heap.size := by rw [← hV]; simp
  refine ⟨w.heap.size + 1, [{ target := .collected w.heap.size, args := #[] }], V, { target := .fn (.func gf) lb, args := #[.func (.yield (w.heap.size + 1)) #[] #[]] }, V, gf,
    #[.func (.yield (w.heap.size + 1)) #[] #[]] ++ lb, V, ?_, ?_, ?_, ?_, fun _ => h1, ?_⟩
  · rw [← hV, hR]; exact run_enterLoop_outer _ _ _ _ _
  · simp only [resolve, hg]
    simp [go_sem]
  · intro f' hf'
    simp [Target.leads] at hf'
    subst hf'
    exact hFg
  · simp [invoke, go_sem, eg]
  have walkrow : ∀ {A : World} {row : Option Nat}, (∀ r, row = some r → V.heap.size ≤ r ∧ ∃ o : Obj, A.heap[r]? = some o ∧ o.isWalk = true) → ∀ r, row = some r → w.heap.size ≤ r ∧ ∃ o : Obj, A.heap[r]? = some o ∧ o.isCells = false := by
    intro A row hr r e
    obtain ⟨hB, o, ho, hw⟩ := hr r e
    exact ⟨by omega, o, ho, Obj.not_cells_of_walk hw⟩
  refine (hseq (w.heap.size + 1)
    (fun pre W => I pre W ∧ W.heap[w.heap.size + 1]? = some (.loop (R .ready none)) ∧ W.heap[w.heap.size]? = some (.deferred (some [])))
    (fun pre W => ∃ c, Ix c pre W ∧ W.heap[w.heap.size + 1]? = some (.loop (R .done (some c))) ∧ W.heap[w.heap.size]? = some (.deferred (some [])))
    V low
    (fun s A B row hs hg' hr => ⟨hI s A B row hs.1 hg' (walkrow hr), (grownBy_keeps hg' (fun r e => (hr r e).2) hs.2.1 rfl).trans hs.2.1, (grownBy_keeps hg' (fun r e => (hr r e).2) hs.2.2 rfl).trans hs.2.2⟩)
    ?_ ⟨by rw [← hV]; exact hI.alloc _ (hI.alloc _ h0), book⟩).mono ?_
  · rintro pre x W ⟨hi, hl, hk⟩ hnext
    have hy := run_yield (P := P) (args := encs x) hl (by rw [hR]; exact hps x)
    rw [hR] at hy
    refine ⟨fn, _, assign, body, hy, roundIn_of_wpIn hfn (hassign _ pre x W _ hi hnext ?_)⟩
    clear hy
    intro a' X hkX hlX hiX hax
    have hl' := hkX.same _ _ (by omega) hl rfl
    have hk' := hkX.same _ _ (Nat.le_refl _) hk rfl
    have hlt : w.heap.size + 1 < X.heap.size := (Array.getElem?_eq_some_iff.1 hl').1
    refine ⟨_, run_beginRound hl' (by rw [hR]), ?_⟩
    obtain ⟨Y, hY⟩ : ∃ Y, X.putObj (w.heap.size + 1) (.loop { R .ready none with state := .busy }) = Y := ⟨_, rfl⟩
    have hlY : Y.heap[w.heap.size + 1]? = some (.loop { R .ready none with state := .busy }) := by rw [← hY]; exact World.putObj_heap_same hlt
    have hkY : Y.heap[w.heap.size]? = some (.deferred (some [])) := by rw [← hY]; exact (World.putObj_heap_other (by omega)).trans hk'
    have hXY : KC n₀ (w.heap.size + 2) kb X Y := by rw [← hY]; exact ⟨belowK_b hn₀ _ _ _ _ (by omega) hl' rfl rfl, fun k o hk ho _ => (World.putObj_heap_other (by omega)).trans ho, World.putObj_heap_other (by omega)⟩
    have hiY : I pre Y := by rw [← hY]; exact hI.putObj _ hiX (by omega) hl' rfl
    have haY : Ax x a' Y := by rw [← hY]; exact (hAx x a').putObj (s := ()) _ hax (by omega) hl' rfl
    rw [hY]
    refine wpIn_mono (hbody _ pre x a' _ (by omega) ⟨_, hlY⟩ hnext hiY haY) ?_
    have fin : ∀ (jump : Option Code) (Z : World), KeepsFrom w.heap.size Y Z →
        (Instr.endRound (w.heap.size + 1) jump).run P Z = .ok (.bool jump.isNone) (Z.putObj (w.heap.size + 1) (.loop (R (if jump.isNone then .ready else .done) jump))) ∧
        Z.heap[w.heap.size + 1]? = some (.loop { R .ready none with state := .busy }) ∧
        (Z.putObj (w.heap.size + 1) (.loop (R (if jump.isNone then .ready else .done) jump))).heap[w.heap.size + 1]? = some (.loop (R (if jump.isNone then .ready else .done) jump)) ∧
        (Z.putObj (w.heap.size + 1) (.loop (R (if jump.isNone then .ready else .done) jump))).heap[w.heap.size]? = some (.deferred (some [])) := by
      intro jump Z hkZ
      have hlZ := hkZ.same _ _ (by omega) hlY rfl
      have he := run_endRound (P := P) jump hlZ
      rw [hR] at he ⊢
      exact ⟨he, by rw [hR] at hlZ; exact hlZ, World.putObj_heap_same (Array.getElem?_eq_some_iff.1 hlZ).1, (World.putObj_heap_other (by omega)).trans (hkZ.same _ _ (Nat.le_refl _) hkY rfl)⟩
    have out : ∀ (c : Code) (Z : World), KeepsFrom w.heap.size Y Z → Ix c (pre ++ [x]) Z → ∃ v Z', (Instr.endRound (w.heap.size + 1) (some c)).run P Z = .ok v Z' ∧ v = .bool false ∧ ∃ c, Ix c (pre ++ [x]) Z' ∧ Z'.heap[w.heap.size + 1]? = some (.loop (R .done (some c))) ∧ Z'.heap[w.heap.size]? = some (.deferred (some [])) := by
      intro c Z hkZ hiZ
      obtain ⟨f1, f2, f3, f4⟩ := fin (some c) Z hkZ
      exact ⟨_, _, f1, rfl, c, (hIx c).putObj _ hiZ (by omega) f2 rfl, f3, f4⟩
    rintro e a3 Z hp
    cases e with
    | normal =>
      obtain ⟨hkZ, hlowZ, hiZ⟩ := hp
      obtain ⟨f1, f2, f3, f4⟩ := fin none Z hkZ
      exact ⟨_, _, f1, .inl ⟨rfl, ⟨hI.putObj _ hiZ (by omega) f2 rfl, f3, f4⟩, by rw [← hVs]; exact hlX.trans ((hXY.trans hlowZ).trans ⟨belowK_b hn₀ _ _ _ _ (by omega) f2 rfl rfl, fun k o hk ho _ => (World.putObj_heap_other (by omega)).trans ho, World.putObj_heap_other (by omega)⟩)⟩⟩
    | ret =>
      obtain ⟨v, Z', e1, rfl, e3⟩ := out .ret Z hp.1 hp.2
      exact ⟨_, _, e1, .inr ⟨rfl, e3⟩⟩
    | exit id =>
      obtain ⟨v, Z', e1, rfl, e3⟩ := out (.exit id) Z hp.1 hp.2
      exact ⟨_, _, e1, .inr ⟨rfl, e3⟩⟩
    | goto t =>
      obtain ⟨v, Z', e1, rfl, e3⟩ := out (.goto t) Z hp.1 hp.2
      exact ⟨_, _, e1, .inr ⟨rfl, e3⟩⟩
    | panic ch => exact hp.elim
    | outgrown => exact hp.elim
  · rintro e X ⟨⟨v, rfl⟩, (⟨hi, hl, hk⟩ | ⟨pre, hpre, c, hi, hl, hk⟩)⟩
    · have he := run_endLoop (P := P) hl (by rw [hR]; simp)
      rw [hR] at he
      exact ⟨none, _, he, hdone _ _ (Nat.le_refl _) (hI.putObj _ hi (by omega) hl rfl) ((World.putObj_heap_other (by omega)).trans hk)⟩
    · have he := run_endLoop (P := P) hl (by rw [hR]; simp)
      rw [hR] at he
      exact ⟨some c, _, he, hstop _ c pre _ (Nat.le_refl _) hpre ((hIx c).putObj _ hi (by omega) hl rfl) ((World.putObj_heap_other (by omega)).trans hk)⟩
end Go.Proofs.YtieifhfgedoiaaaGreatDoor
/- The program's rules: their text. Conditions: those of each theorem. -/
namespace Go.Proofs
open Go.Shelf
def Tryz.lays169_ren : Go.Shelf.Ren := ⟨fun | 169 => 35 | n => n, fun | 70 => 88 | 9 => 9 | 0 => 0 | 72 => 91 | 37 => 89 | 127 => 128 | 3 => 3 | 5 => 5 | n => n, fun | n => n⟩
theorem Tryz.lays169 : Go.Proofs.Lays.n169 Tryz.prog Tryz.lays169_ren := {
 mixed := by kernel_rfl
 f169 := Tryz.func35.trans (congrArg some (by kernel_rfl))
 t0 := Tryz.underlying0
 a0 := Tryz.isAgg0
 z0 := Tryz.sizeOf0
 v0 := Tryz.zeroValue0
 t3 := Tryz.underlying3
 a3 := Tryz.isAgg3
 z3 := Tryz.sizeOf3
 v3 := Tryz.zeroValue3
 t9 := Tryz.underlying9
 a9 := Tryz.isAgg9
 z9 := Tryz.sizeOf9
 v9 := Tryz.zeroValue9
 t37 := Tryz.underlying89
 a37 := Tryz.isAgg89
 z37 := Tryz.sizeOf89
 v37 := Tryz.zeroValue89
 t70 := Tryz.underlying88
 a70 := Tryz.isAgg88
 z70 := Tryz.sizeOf88
 v70 := Tryz.zeroValue88
 t72 := Tryz.underlying91
 a72 := Tryz.isAgg91
 z72 := Tryz.sizeOf91
 v72 := Tryz.zeroValue91
 t127 := Tryz.underlying128
 a127 := Tryz.isAgg128
 z127 := Tryz.sizeOf128
 v127 := Tryz.zeroValue128 }
theorem Tryz.Builder_Extra_169 : Builder.Extra Tryz.prog Tryz.lays169_ren := {
 sizeBuilder := by kernel_rfl
 liesBuilder := by kernel_rfl
 t5 := Tryz.underlying5
 a5 := Tryz.isAgg5
 z5 := Tryz.sizeOf5
 v5 := Tryz.zeroValue5
 infoByte := by kernel_rfl
 cellsByte := by kernel_rfl
 sizeByte := by kernel_rfl
 neB5 := by decide }
open Go.RowKit in
/-- (*strings.Builder).String: "String returns the accumulated string.": WHATEVER THE BUILDER HOLDS. (LAID: no walk: one application.) -/
theorem Tryz.Builder_String_any (B b : Nat) (l : List UInt8) (w : World) (h : Lib.IsBuilder 91 5 B b (Lib.byteCells l) w) (hBw : B ≤ w.heap.size) :
  Calls Tryz.prog 35 #[.pointer (some ⟨b, 0, none⟩)] w fun e w' => e = .returned (.string ⟨l.toArray⟩) ∧ Below B w w' := Any.Builder_String_any Tryz.lays169 Tryz.Builder_Extra_169 B b l w h hBw
end Go.Proofs
namespace Go.Proofs
open Go.Shelf
def Tryz.lays166_ren : Go.Shelf.Ren := ⟨fun | 166 => 34 | 240 => 52 | 276 => 70 | n => n, fun | 70 => 88 | 9 => 9 | 0 => 0 | 72 => 91 | 37 => 89 | 3 => 3 | 5 => 5 | 4 => 4 | 20 => 20 | 75 => 100 | 80 => 103 | 164 => 148 | n => n, fun | n => n⟩
theorem Tryz.lays166 : Go.Proofs.Lays.n166 Tryz.prog Tryz.lays166_ren := {
 mixed := by kernel_rfl
 f166 := Tryz.func34.trans (congrArg some (by kernel_rfl))
 f240 := Tryz.func52.trans (congrArg some (by kernel_rfl))
 f276 := Tryz.func70.trans (congrArg some (by kernel_rfl))
 t0 := Tryz.underlying0
 a0 := Tryz.isAgg0
 z0 := Tryz.sizeOf0
 v0 := Tryz.zeroValue0
 t3 := Tryz.underlying3
 a3 := Tryz.isAgg3
 z3 := Tryz.sizeOf3
 v3 := Tryz.zeroValue3
 t4 := Tryz.underlying4
 a4 := Tryz.isAgg4
 z4 := Tryz.sizeOf4
 v4 := Tryz.zeroValue4
 t9 := Tryz.underlying9
 a9 := Tryz.isAgg9
 z9 := Tryz.sizeOf9
 v9 := Tryz.zeroValue9
 t20 := Tryz.underlying20
 a20 := Tryz.isAgg20
 z20 := Tryz.sizeOf20
 v20 := Tryz.zeroValue20
 t37 := Tryz.underlying89
 a37 := Tryz.isAgg89
 z37 := Tryz.sizeOf89
 v37 := Tryz.zeroValue89
 t70 := Tryz.underlying88
 a70 := Tryz.isAgg88
 z70 := Tryz.sizeOf88
 v70 := Tryz.zeroValue88
 t72 := Tryz.underlying91
 a72 := Tryz.isAgg91
 z72 := Tryz.sizeOf91
 v72 := Tryz.zeroValue91
 t75 := Tryz.underlying100
 a75 := Tryz.isAgg100
 z75 := Tryz.sizeOf100
 v75 := Tryz.zeroValue100
 t164 := Tryz.underlying148
 a164 := Tryz.isAgg148
 z164 := Tryz.sizeOf148
 v164 := Tryz.zeroValue148 }
theorem Tryz.Builder_Extra_166 : Builder.Extra Tryz.prog Tryz.lays166_ren := {
 sizeBuilder := by kernel_rfl
 liesBuilder := by kernel_rfl
 t5 := Tryz.underlying5
 a5 := Tryz.isAgg5
 z5 := Tryz.sizeOf5
 v5 := Tryz.zeroValue5
 infoByte := by kernel_rfl
 cellsByte := by kernel_rfl
 sizeByte := by kernel_rfl
 neB5 := by decide }
open Go.RowKit in
theorem Tryz.Builder_WriteString (B b : Nat) (bs : List Value) (s : ByteArray) (w : World) (h : Lib.IsBuilder 91 5 B b bs w) (hlen : bs.length + s.size ≤ 140737488355328) (hBw : B ≤ w.heap.size) :
  Calls Tryz.prog 34 #[.pointer (some ⟨b, 0, none⟩), .string s] w fun e w' => e = .returned (.tuple #[.int .i64 s.size, .nilIface]) ∧ (Lib.BuilderAt 91 5 B b (.pointer (some ⟨b, 0, none⟩)) (bs ++ Lib.strCells s) w' ∧ Below B w w') := Any.Builder_WriteString Tryz.lays166 Tryz.Builder_Extra_166 B b bs s w h hlen hBw
end Go.Proofs
namespace Go.Proofs.YtieifhfgedoiaaaGreatDoor
open Go.RowKit Go.Lib
set_option linter.unusedVariables false
set_option linter.unusedSimpArgs false
theorem nl_cells (s : ByteArray) : strCells (s ++ ⟨#[10]⟩) = byteCells (s.data.toList ++ [10]) := by
 rw [strCells_eq]
 congr 1
theorem isB_low {T e : TypeId} {B b : Nat} {bs : List Value} {w w' : World} (h : IsBuilder T e B b bs w) (hb : Below w.heap.size w w') : IsBuilder T e B b bs w' := by
 rcases h with h | h
 ·obtain ⟨h1, v, h2, h3, h4⟩ := h
  exact .inl ⟨h1, v, (show Blk w b T _ from h2).low hb, own_low h3 hb, h4⟩
 ·obtain ⟨h1, v, h2, h3, h4⟩ := h
  exact .inr ⟨h1, v, (show Blk w b T _ from h2).low hb, own_low h3 hb, h4⟩
end Go.Proofs.YtieifhfgedoiaaaGreatDoor
/- back and Upper. Conditions: those of each theorem. -/
namespace Go.Proofs.YtieifhfgedoiaaaGreatDoor
open Go.RowKit Go.Lib
set_option linter.unusedVariables false
set_option linter.unusedSimpArgs false

def backI (r : Int) : Int := if r = 255 then -121 else if r < 256 ∨ (945 ≤ r ∧ r ≤ 971) ∨ (1072 ≤ r ∧ r ≤ 1103) then 32 else if r ≤ 383 then 1 else if r = 940 then 38 else if 941 ≤ r ∧ r ≤ 943 then 37 else if r = 972 then 64 else if r = 973 ∨ r = 974 then 63 else 80
def upI (r : Int) : Int := if ¬ SmallP r then r else if r = 305 then 73 else if r = 383 then 83 else if r = 962 then 931 else if GreatP (r - backI r) ∧ lowI (r - backI r) = r then r - backI r else r
theorem backI_in (r : Int) (h0 : 97 ≤ r) (h9 : r ≤ 1119) : -121 ≤ backI r ∧ backI r ≤ 80 ∧ 0 ≤ r - backI r := by
  unfold backI; (repeat' split) <;> omega
def Cx18 (r : Int) (w : World) : Prop := Calls Tryz.prog 18 #[.int .i32 r] w fun e w' => e = .returned (.int .i32 (backI r)) ∧ w = w'
set_option maxHeartbeats 8000000 in
theorem back18 (r : Int) (h0 : 97 ≤ r) (h9 : r ≤ 1119) (w : World) : Cx18 r w := by
 unfold Cx18
 refine sp r 255 (fun _ => ?_) fun _ => sp r 256 (fun _ => ?_) fun _ => sp r 384 (fun _ => ?_) fun _ => sp r 940 (fun _ => ?_) fun _ => sp r 941 (fun _ => ?_) fun _ => sp r 944 (fun _ => ?_) fun _ => sp r 945 (fun _ => ?_) fun _ => sp r 972 (fun _ => ?_) fun _ => sp r 973 (fun _ => ?_) fun _ => sp r 974 (fun _ => ?_) fun _ => sp r 975 (fun _ => ?_) fun _ => sp r 1072 (fun _ => ?_) fun _ => sp r 1104 (fun _ => ?_) fun _ => ?_
 all_goals
  first | have := e1 r 255 (by omega) | have := n1 r 255 (by omega)
  first | have := e1 r 940 (by omega) | have := n1 r 940 (by omega)
  first | have := e1 r 972 (by omega) | have := n1 r 972 (by omega)
  first | have := e1 r 973 (by omega) | have := n1 r 973 (by omega)
  first | have := e1 r 974 (by omega) | have := n1 r 974 (by omega)
  first | have := dmt r 256 (by omega) | have := dmf r 256 (by omega)
  first | have := dgt r 945 (by omega) | have := dgf r 945 (by omega)
  first | have := dgt r 1072 (by omega) | have := dgf r 1072 (by omega)
  first | have := dgt r 941 (by omega) | have := dgf r 941 (by omega)
  first | have := dlt r 971 (by omega) | have := dlf r 971 (by omega)
  first | have := dlt r 1103 (by omega) | have := dlf r 1103 (by omega)
  first | have := dlt r 383 (by omega) | have := dlf r 383 (by omega)
  first | have := dlt r 943 (by omega) | have := dlf r 943 (by omega)
  go_enter Tryz.func18, Tryz.ntmps18
  go_wp2_with fail
  go_ret
  exact ⟨rk (by unfold backI; (repeat' split) <;> first | rfl | omega), rfl⟩
def Cx10 (r : Int) (w : World) : Prop := Calls Tryz.prog 10 #[.int .i32 r] w fun e w' => e = .returned (.int .i32 (upI r)) ∧ w = w'
theorem upper10_n (r : Int) (hs : ¬ SmallP r) (h0 : 0 ≤ r) (h9 : r ≤ 1114111) (w : World) : Cx10 r w := by
  unfold Cx10
  have hS := hid (fun w => small105 r h0 h9 w)
  rw [show smallB r = false from decide_eq_false hs] at hS
  have hv : upI r = r := by unfold upI; rw [if_pos hs]
  rw [hv]
  go_enter Tryz.func10, Tryz.ntmps10
  go_wp2_with (go_at_call 8; (with_reducible refine Calls.mono (hS.out _) ?_); rintro e w' ⟨rfl, rfl⟩)
  go_ret
  exact ⟨rfl, rfl⟩
set_option maxHeartbeats 8000000 in
theorem upper10_c (r : Int) (hs : SmallP r) (hc : r = 305 ∨ r = 383 ∨ r = 962) (w : World) : Cx10 r w := by
  unfold Cx10
  have hS := hid (fun w => small105 r (by omega) (by omega) w)
  rw [show smallB r = true from decide_eq_true hs] at hS
  have hv : upI r = if r = 305 then 73 else if r = 383 then 83 else 931 := by
    unfold upI; rw [if_neg (fun h => h hs)]; (repeat' split) <;> first | rfl | omega
  rw [hv]
  clear hv
  rcases hc with rfl | rfl | rfl
  all_goals
    go_enter Tryz.func10, Tryz.ntmps10
    go_wp2_with (go_at_call 8; (with_reducible refine Calls.mono (hS.out _) ?_); rintro e w' ⟨rfl, rfl⟩)
    go_ret
    exact ⟨rfl, rfl⟩
set_option maxHeartbeats 8000000 in
theorem upper10_s (r : Int) (hs : SmallP r) (h1 : r ≠ 305) (h2 : r ≠ 383) (h3 : r ≠ 962) (w : World) : Cx10 r w := by
  unfold Cx10
  have hb97 : 97 ≤ r ∧ r ≤ 1119 := by unfold SmallP at hs; omega
  have hS := hid (fun w => small105 r (by omega) (by omega) w)
  rw [show smallB r = true from decide_eq_true hs] at hS
  have hB : Hid (∀ w, Calls Tryz.prog 18 #[.int .i32 r] w fun e w' => e = .returned (.int .i32 (backI r)) ∧ w = w') := hid (fun w => back18 r (by omega) (by omega) w)
  obtain ⟨b1, b2, b3⟩ := backI_in r hb97.1 hb97.2
  have t1 := n1 r 305 h1
  have t2 := n1 r 383 h2
  have t3 := n1 r 962 h3
  have hG := hid (fun w => great71 (r - backI r) (by omega) (by omega) w)
  have hL := hid (fun w => lower54 (r - backI r) (by omega) (by omega) w)
  have hv : upI r = if GreatP (r - backI r) ∧ lowI (r - backI r) = r then r - backI r else r := by
    unfold upI; rw [if_neg (fun h => h hs), if_neg h1, if_neg h2, if_neg h3]
  rw [hv]
  generalize hx : backI r = bb at *
  clear hv hx
  by_cases hg : GreatP (r - bb)
  · rw [show greatB (r - bb) = true from decide_eq_true hg] at hG
    by_cases hl : lowI (r - bb) = r
    · rw [if_pos ⟨hg, hl⟩]
      rw [hl] at hL
      have te : (r == r) = true := beq_self_eq_true r
      go_enter Tryz.func10, Tryz.ntmps10
      go_wp2_with (first | (go_at_call 8; (with_reducible refine Calls.mono (hS.out _) ?_); rintro e w' ⟨rfl, rfl⟩) | (go_at_call 18; (with_reducible refine Calls.mono (hB.out _) ?_); rintro e w' ⟨rfl, rfl⟩) | (go_at_call 7; (with_reducible refine Calls.mono (hG.out _) ?_); rintro e w' ⟨rfl, rfl⟩) | (go_at_call 9; (with_reducible refine Calls.mono (hL.out _) ?_); rintro e w' ⟨rfl, rfl⟩))
      go_ret
      exact ⟨rfl, rfl⟩
    · rw [if_neg (fun h => hl h.2)]
      generalize lowI (r - bb) = l at *
      have tn : (l == r) = false := beq_false_of hl
      go_enter Tryz.func10, Tryz.ntmps10
      go_wp2_with (first | (go_at_call 8; (with_reducible refine Calls.mono (hS.out _) ?_); rintro e w' ⟨rfl, rfl⟩) | (go_at_call 18; (with_reducible refine Calls.mono (hB.out _) ?_); rintro e w' ⟨rfl, rfl⟩) | (go_at_call 7; (with_reducible refine Calls.mono (hG.out _) ?_); rintro e w' ⟨rfl, rfl⟩) | (go_at_call 9; (with_reducible refine Calls.mono (hL.out _) ?_); rintro e w' ⟨rfl, rfl⟩))
      go_ret
      exact ⟨rfl, rfl⟩
  · rw [show greatB (r - bb) = false from decide_eq_false hg] at hG
    rw [if_neg (fun h => hg h.1)]
    go_enter Tryz.func10, Tryz.ntmps10
    go_wp2_with (first | (go_at_call 8; (with_reducible refine Calls.mono (hS.out _) ?_); rintro e w' ⟨rfl, rfl⟩) | (go_at_call 18; (with_reducible refine Calls.mono (hB.out _) ?_); rintro e w' ⟨rfl, rfl⟩) | (go_at_call 7; (with_reducible refine Calls.mono (hG.out _) ?_); rintro e w' ⟨rfl, rfl⟩) | (go_at_call 9; (with_reducible refine Calls.mono (hL.out _) ?_); rintro e w' ⟨rfl, rfl⟩))
    go_ret
    exact ⟨rfl, rfl⟩
theorem upper10 (r : Int) (h0 : 0 ≤ r) (h9 : r ≤ 1114111) (w : World) : Calls Tryz.prog 10 #[.int .i32 r] w fun e w' => e = .returned (.int .i32 (upI r)) ∧ w = w' := by
  by_cases hs : SmallP r
  · by_cases h1 : r = 305
    · exact upper10_c r hs (.inl h1) w
    · by_cases h2 : r = 383
      · exact upper10_c r hs (.inr (.inl h2)) w
      · by_cases h3 : r = 962
        · exact upper10_c r hs (.inr (.inr h3)) w
        · exact upper10_s r hs h1 h2 h3 w
  · exact upper10_n r hs h0 h9 w
theorem upI_in (r : Int) (h0 : 0 ≤ r) (h9 : r ≤ 1114111) : 0 ≤ upI r ∧ upI r ≤ 1114111 := by
  unfold upI
  by_cases hs : SmallP r
  · rw [if_neg (fun h => h hs)]
    have hb97 : 97 ≤ r ∧ r ≤ 1119 := by unfold SmallP at hs; omega
    obtain ⟨b1, b2, b3⟩ := backI_in r hb97.1 hb97.2
    (repeat' split) <;> omega
  · rw [if_pos hs]; exact ⟨h0, h9⟩
end Go.Proofs.YtieifhfgedoiaaaGreatDoor
/- Words in great letters, in plain Lean: the same pieces, great for small. No program in sight. Conditions: those of each theorem. -/
namespace Go.Proofs.YtieifhfgedoiaaaGreatDoor
open Go.RowKit Go.Lib
set_option linter.unusedVariables false
set_option linter.unusedSimpArgs false
def GoodC (r : Nat) : Prop := greatB r = false ∧ (smallB r = true → lowI (upI r) = r ∧ upI r ≠ r) ∧ r ≠ 223
def GoodF (s : ByteArray) (p : Nat) : Prop := ∀ q ∈ posL s p, GoodC (rnN s q)
def letB (s : ByteArray) (p : Nat) : Bool := decide (isBr s p = false ∧ kindI (rnN s p) = 1)
def chunkU (s : ByteArray) (p : Nat) : List UInt8 := if letB s p = true then (Utf8.encode (upI (rnN s p))).toList else (s.data.toList.drop p).take (wdN s p)
def upF (s : ByteArray) (p : Nat) : List UInt8 := ((posL s p).map (chunkU s)).flatten
def upW (s : ByteArray) : ByteArray := ⟨(upF s 0).toArray⟩
theorem kind1 {r : Int} (h : kindI r = 1) : GreatP r ∨ SmallP r := by
  unfold kindI at h
  by_cases h0 : r < 0 ∨ (55296 ≤ r ∧ r ≤ 57343) ∨ r > 1114111
  · rw [if_pos h0] at h; omega
  · rw [if_neg h0] at h
    by_cases h1 : GreatP r ∨ SmallP r
    · exact h1
    · exfalso
      rw [if_neg h1] at h
      (repeat' split at h) <;> omega
theorem up_in {r : Nat} (hs : SmallP r) (hl : lowI (upI r) = r) (hu : upI r ≠ r) : ∃ u : Nat, upI r = (u : Int) ∧ (u < 128 ↔ r < 128) ∧ u < 2048 ∧ r < 2048 := by
  have hb : (97 : Int) ≤ r ∧ (r : Int) ≤ 1119 := by unfold SmallP at hs; omega
  unfold upI at hl hu ⊢
  rw [if_neg (fun h => h hs)] at hl hu ⊢
  by_cases h1 : (r : Int) = 305
  · rw [if_pos h1] at hl; exfalso; rw [h1] at hl; revert hl; decide
  · rw [if_neg h1] at hl hu ⊢
    by_cases h2 : (r : Int) = 383
    · rw [if_pos h2] at hl; exfalso; rw [h2] at hl; revert hl; decide
    · rw [if_neg h2] at hl hu ⊢
      by_cases h3 : (r : Int) = 962
      · rw [if_pos h3] at hl; exfalso; rw [h3] at hl; revert hl; decide
      · rw [if_neg h3] at hl hu ⊢
        by_cases h4 : GreatP (r - backI r) ∧ lowI (r - backI r) = r
        · rw [if_pos h4]
          refine ⟨((r : Int) - backI r).toNat, ?_⟩
          have h5 : (0 : Int) ≤ r - backI r ∧ (r : Int) - backI r < 2048 ∧ ((r : Int) - backI r < 128 ↔ (r : Int) < 128) := by
            unfold SmallP at hs
            unfold backI; (repeat' split) <;> omega
          omega
        · rw [if_neg h4] at hu; exact absurd rfl hu
structure LetP (s : ByteArray) (p : Nat) : Prop where
  sm : SmallP (rnN s p)
  ng : ¬ GreatP (rnN s p)
  up : ∃ u : Nat, upI (rnN s p) = (u : Int) ∧ (u < 128 ↔ rnN s p < 128) ∧ u < 2048 ∧ rnN s p < 2048 ∧ lowI (u : Int) = rnN s p
theorem letP {s : ByteArray} {p : Nat} (g : GoodC (rnN s p)) (h : letB s p = true) : LetP s p := by
  obtain ⟨g1, g2, g3⟩ := g
  have hg : ¬ GreatP (rnN s p) := of_decide_eq_false g1
  have hs : SmallP (rnN s p) := (kind1 (of_decide_eq_true h).2).resolve_left hg
  obtain ⟨hl, hu⟩ := g2 (decide_eq_true hs)
  obtain ⟨u, h1, h2, h3, h4⟩ := up_in hs hl hu
  exact ⟨hs, hg, u, h1, h2, h3, h4, by rw [← h1]; exact hl⟩
theorem enc_l {u : Nat} (h : u < 2048) : (Utf8.encode (u : Int)).toList.length = if u < 128 then 1 else 2 := by
  by_cases h1 : u < 128
  · rw [enc_1 h1, if_pos h1]; rfl
  · rw [enc_2 (by omega) h, if_neg h1]; rfl
theorem let_wd {s : ByteArray} {p : Nat} (hp : p < s.size) (h2 : rnN s p < 2048) : wdN s p = if rnN s p < 128 then 1 else 2 := by
  rw [(enc_wd2 hp h2 rfl).2, enc_l h2]
theorem chunk_len {s : ByteArray} {p : Nat} (hp : p < s.size) (g : GoodC (rnN s p)) : (chunkU s p).length = wdN s p := by
  unfold chunkU
  by_cases h : letB s p = true
  · obtain ⟨_, _, u, h1, h2, h3, h4, h5⟩ := letP g h
    rw [if_pos h, h1, enc_l h3, let_wd hp h4]
    by_cases h6 : u < 128
    · rw [if_pos h6, if_pos (h2.1 h6)]
    · rw [if_neg h6, if_neg (fun k => h6 (h2.2 k))]
  · rw [if_neg h, List.length_take, List.length_drop]
    have := wdN_pos hp
    have : s.data.toList.length = s.size := Array.length_toList
    omega
theorem upF_more {s : ByteArray} {p : Nat} (h : p < s.size) : upF s p = chunkU s p ++ upF s (p + wdN s p) := by
  unfold upF; rw [posL_more h]; rfl
theorem upF_end {s : ByteArray} {p : Nat} (h : ¬ p < s.size) : upF s p = [] := by
  unfold upF; rw [posL_end h]; rfl
theorem goodF_more {s : ByteArray} {p : Nat} (h : p < s.size) (g : GoodF s p) : GoodC (rnN s p) ∧ GoodF s (p + wdN s p) := by
  unfold GoodF at g; rw [posL_more h] at g
  exact ⟨g p List.mem_cons_self, fun q hq => g q (List.mem_cons_of_mem _ hq)⟩
theorem upF_len {s : ByteArray} : ∀ (k p : Nat), s.size - p = k → p ≤ s.size → GoodF s p → (upF s p).length = s.size - p := by
  intro k
  induction k using Nat.strongRecOn with
  | ind k ih =>
    intro p hk hp g
    by_cases h : p < s.size
    · obtain ⟨g1, g2⟩ := goodF_more h g
      have hw := wdN_pos h
      rw [upF_more h, List.length_append, chunk_len h g1, ih (s.size - (p + wdN s p)) (by omega) (p + wdN s p) rfl (by omega) g2]
      omega
    · rw [upF_end h]; simp; omega
theorem upW_size {s : ByteArray} (g : GoodF s 0) : (upW s).size = s.size := by
  show (upF s 0).toArray.size = _
  rw [List.size_toArray, upF_len _ 0 rfl (Nat.zero_le _) g]; omega
/-- q is a place between two pieces. -/
def Bdy (s : ByteArray) (q : Nat) : Prop := (upF s 0).drop q = upF s q ∧ GoodF s q ∧ q ≤ s.size ∧ (upW s).size = s.size
theorem bd_next {s : ByteArray} {q : Nat} (h : Bdy s q) (hq : q < s.size) : Bdy s (q + wdN s q) := by
  obtain ⟨h1, h2, h3, h4⟩ := h
  obtain ⟨g1, g2⟩ := goodF_more hq h2
  have hw := wdN_pos hq
  refine ⟨?_, g2, by omega, h4⟩
  rw [← List.drop_drop, h1, upF_more hq]
  rw [show wdN s q = (chunkU s q).length from (chunk_len hq g1).symm, List.drop_left]
theorem upW_at {s : ByteArray} {q : Nat} (h : Bdy s q) (hq : q < s.size) (i : Nat) (hi : i < wdN s q) : (upW s).get! (q + i) = (chunkU s q).getD i 0 := by
  have e : (upW s).get! (q + i) = (upF s 0).getD (q + i) 0 := by rw [← getD_get!']; rfl
  have e2 : (upF s 0).getD (q + i) 0 = ((upF s 0).drop q).getD i 0 := by rw [List.getD_eq_getElem?_getD, List.getD_eq_getElem?_getD, List.getElem?_drop]
  rw [e, e2, h.1, upF_more hq, List.getD_eq_getElem?_getD, List.getD_eq_getElem?_getD, List.getElem?_append_left (by rw [chunk_len hq (goodF_more hq h.2.1).1]; exact hi)]
theorem upW_same {s : ByteArray} {q : Nat} (h : Bdy s q) (hq : q < s.size) (hl : letB s q = false) (i : Nat) (hi : i < wdN s q) : (upW s).get! (q + i) = s.get! (q + i) := by
  rw [upW_at h hq i hi]
  unfold chunkU
  rw [if_neg (by rw [hl]; decide), ← getD_get!' s, List.getD_eq_getElem?_getD, List.getD_eq_getElem?_getD, List.getElem?_take, if_pos hi, List.getElem?_drop]
theorem decN_1 (n b0 b1 b2 b3 : Nat) (h : ¬ b1 / 64 = 2) : decodeN n b0 b1 b2 b3 = if b0 < 128 then (b0, 1) else (65533, 1) := by
  unfold decodeN
  by_cases h0 : b0 < 128
  · rw [if_pos h0, if_pos h0]
  · rw [if_neg h0, if_neg h0, if_neg (fun k => h k.2.2), if_neg (fun k => h k.2.1.2), if_neg (fun k => h k.2.1.2)]
theorem decN_2 (n b0 b1 b2 b3 c2 c3 : Nat) (h : ¬ b2 / 64 = 2) (h' : ¬ c2 / 64 = 2) : decodeN n b0 b1 b2 b3 = decodeN n b0 b1 c2 c3 := by
  unfold decodeN
  rw [if_neg (c := b0 / 16 = 14 ∧ _) (fun k => h k.2.2.2), if_neg (c := b0 / 8 = 30 ∧ _) (fun k => h k.2.2.1.2), if_neg (c := b0 / 16 = 14 ∧ (1 < n ∧ b1 / 64 = 2) ∧ 2 < n ∧ c2 / 64 = 2) (fun k => h' k.2.2.2), if_neg (c := b0 / 8 = 30 ∧ (1 < n ∧ b1 / 64 = 2) ∧ (2 < n ∧ c2 / 64 = 2) ∧ _) (fun k => h' k.2.2.1.2)]
theorem decN_3 (n b0 b1 b2 b3 c3 : Nat) (h : ¬ b3 / 64 = 2) (h' : ¬ c3 / 64 = 2) : decodeN n b0 b1 b2 b3 = decodeN n b0 b1 b2 c3 := by
  unfold decodeN
  rw [if_neg (c := b0 / 8 = 30 ∧ (1 < n ∧ b1 / 64 = 2) ∧ (2 < n ∧ b2 / 64 = 2) ∧ 3 < n ∧ b3 / 64 = 2) (fun k => h k.2.2.2.2), if_neg (c := b0 / 8 = 30 ∧ (1 < n ∧ b1 / 64 = 2) ∧ (2 < n ∧ b2 / 64 = 2) ∧ 3 < n ∧ c3 / 64 = 2) (fun k => h' k.2.2.2.2)]
/-- Two bytes are the same, or neither continues a form. -/
def Sm (a b : UInt8) : Prop := a = b ∨ (¬ a.toNat / 64 = 2 ∧ ¬ b.toNat / 64 = 2)
theorem decN_sim {n : Nat} {b0 : Nat} {b1 b2 b3 c1 c2 c3 : UInt8} (s1 : Sm b1 c1) (s2 : b1.toNat / 64 = 2 → Sm b2 c2) (s3 : b1.toNat / 64 = 2 → b2.toNat / 64 = 2 → Sm b3 c3) :
    decodeN n b0 b1.toNat b2.toNat b3.toNat = decodeN n b0 c1.toNat c2.toNat c3.toNat := by
  rcases s1 with rfl | ⟨h, h'⟩
  · by_cases h1 : b1.toNat / 64 = 2
    · rcases s2 h1 with rfl | ⟨h, h'⟩
      · by_cases h2 : b2.toNat / 64 = 2
        · rcases s3 h1 h2 with rfl | ⟨h, h'⟩
          · rfl
          · exact decN_3 _ _ _ _ _ _ h h'
        · exact decN_2 _ _ _ _ _ _ _ h2 h2
      · exact decN_2 _ _ _ _ _ _ _ h h'
    · rw [decN_1 _ _ _ _ _ h1, decN_1 _ _ _ _ _ h1]
  · rw [decN_1 _ _ _ _ _ h, decN_1 _ _ _ _ _ h']
theorem dv2 {n b0 b1 b2 b3 : Nat} (a : b0 / 32 = 6) (h : 1 < n) (c : b1 / 64 = 2) : decodeN n b0 b1 b2 b3 = if b0 % 32 * 64 + b1 % 64 ≥ 128 then (b0 % 32 * 64 + b1 % 64, 2) else (65533, 1) := by
  unfold decodeN; rw [if_neg (by omega), if_pos ⟨a, h, c⟩]
theorem dv3 {n b0 b1 b2 b3 c3 : Nat} (a : b0 / 16 = 14) (h : 2 < n) (c : b1 / 64 = 2) (c2 : b2 / 64 = 2) : decodeN n b0 b1 b2 b3 = decodeN n b0 b1 b2 c3 := by
  unfold decodeN
  simp only [if_neg (show ¬ b0 < 128 by omega), if_neg (show ¬ (b0 / 32 = 6 ∧ (1 < n ∧ b1 / 64 = 2)) by omega), if_pos (show b0 / 16 = 14 ∧ (1 < n ∧ b1 / 64 = 2) ∧ (2 < n ∧ b2 / 64 = 2) from ⟨a, ⟨by omega, c⟩, h, c2⟩)]
theorem decN_same {n b0 b1 b2 b3 c1 c2 c3 r w : Nat} (h : decodeN n b0 b1 b2 b3 = (r, w)) (hb : ¬ (r = 65533 ∧ w = 1)) (k1 : 1 < w → c1 = b1) (k2 : 2 < w → c2 = b2) (k3 : 3 < w → c3 = b3) : decodeN n b0 c1 c2 c3 = (r, w) := by
  rcases decodeN_shape n b0 b1 b2 b3 with ⟨a, e⟩ | ⟨a, b, c, d, e⟩ | ⟨a, b, c, c2', d, d2, e⟩ | ⟨a, b, c, c2', c3', d, d2, e⟩ | e
  · rw [← h, e]
    unfold decodeN; rw [if_pos a]
  · have h' := h
    rw [e] at h'; injection h' with h1 h2
    rw [k1 (by omega), ← h, dv2 a b c, dv2 a b c]
  · have h' := h
    rw [e] at h'; injection h' with h1 h2
    rw [k1 (by omega), k2 (by omega), ← h]
    exact dv3 a b c c2'
  · have h' := h
    rw [e] at h'; injection h' with h1 h2
    rw [k1 (by omega), k2 (by omega), k3 (by omega)]
    exact h
  · rw [e] at h; injection h with h1 h2; exact absurd ⟨h1.symm, h2.symm⟩ hb
theorem get_out {s : ByteArray} {q : Nat} (h : s.size ≤ q) : s.get! q = 0 := by
  rw [← getD_get!', List.getD_eq_getElem?_getD, List.getElem?_eq_none (by rw [show s.data.toList.length = s.size from Array.length_toList]; exact h)]; rfl
theorem u8n (n : Nat) (h : n < 256) : (UInt8.ofNat n).toNat = n := by simp [Nat.mod_eq_of_lt h]
theorem dec_eta (s : ByteArray) (p : Nat) : Utf8.decode s p = (rnN s p, wdN s p) := rfl
/-- A place between two pieces: the first byte in both texts. -/
theorem bd_sm {s : ByteArray} {q : Nat} (h : Bdy s q) : Sm (s.get! q) ((upW s).get! q) := by
  by_cases hq : q < s.size
  · have g1 := (goodF_more hq h.2.1).1
    have hw := wdN_pos hq
    cases hl : letB s q
    · have := upW_same h hq hl 0 (by omega)
      rw [Nat.add_zero] at this
      exact .inl this.symm
    · obtain ⟨_, _, u, h1, h2, h3, h4, h5⟩ := letP g1 hl
      have e := upW_at h hq 0 (by omega)
      rw [Nat.add_zero] at e
      have hd := dec_eta s q
      rw [decode_at, let_wd hq h4] at hd
      refine .inr ⟨?_, ?_⟩
      · intro hc
        rcases decodeN_shape (s.size - q) (s.get! q).toNat (s.get! (q + 1)).toNat (s.get! (q + 2)).toNat (s.get! (q + 3)).toNat with ⟨a, e⟩ | ⟨a, b, c, d, e⟩ | ⟨a, b, c, c2, d, d2, e⟩ | ⟨a, b, c, c2, c3, d, d2, e⟩ | e
        · omega
        · omega
        · omega
        · omega
        · rw [e] at hd; injection hd with ha hb; omega
      · rw [e]; unfold chunkU; rw [if_pos hl, h1]
        by_cases h6 : u < 128
        · rw [enc_1 h6]
          show ¬ (UInt8.ofNat u).toNat / 64 = 2
          rw [u8n _ (by omega)]; omega
        · rw [enc_2 (by omega) h3]
          show ¬ (UInt8.ofNat (192 + u / 64)).toNat / 64 = 2
          rw [u8n _ (by omega)]; omega
  · exact .inl (by rw [get_out (by omega), get_out (by rw [h.2.2.2]; omega)])
theorem bd_cont {s : ByteArray} {q : Nat} (h : Bdy s q) (hc : (s.get! q).toNat / 64 = 2) : q < s.size ∧ wdN s q = 1 := by
  by_cases hq : q < s.size
  · refine ⟨hq, ?_⟩
    have hd := dec_eta s q
    rw [decode_at] at hd
    rcases decodeN_shape (s.size - q) (s.get! q).toNat (s.get! (q + 1)).toNat (s.get! (q + 2)).toNat (s.get! (q + 3)).toNat with ⟨a, e⟩ | ⟨a, b, c, d, e⟩ | ⟨a, b, c, c2, d, d2, e⟩ | ⟨a, b, c, c2, c3, d, d2, e⟩ | e
    · omega
    · omega
    · omega
    · omega
    · rw [e] at hd; injection hd with ha hb; exact hb.symm
  · rw [get_out (by omega)] at hc; exact absurd hc (by decide)
theorem br_let {s : ByteArray} {q : Nat} (hb : isBr s q = true) : letB s q = false ∧ rnN s q = 65533 ∧ wdN s q = 1 := by
  have h : rnN s q = 65533 ∧ wdN s q = 1 := of_decide_eq_true hb
  exact ⟨decide_eq_false (fun k => by rw [hb] at k; exact Bool.noConfusion k.1), h⟩
/-- What stands in the great text at a place between two pieces. -/
theorem bd_dec {s : ByteArray} {q : Nat} (h : Bdy s q) (hq : q < s.size) : Utf8.decode (upW s) q = (if letB s q then (upI (rnN s q)).toNat else rnN s q, wdN s q) := by
  have g1 := (goodF_more hq h.2.1).1
  have hw := wdN_pos hq
  have hz := h.2.2.2
  cases hl : letB s q
  · rw [if_neg (by decide)]
    have hd := dec_eta s q
    rw [decode_at] at hd ⊢
    have e0 := upW_same h hq hl 0 (by omega)
    rw [Nat.add_zero] at e0
    rw [hz, e0]
    cases hb : isBr s q
    · have hnb : ¬ (rnN s q = 65533 ∧ wdN s q = 1) := of_decide_eq_false hb
      exact decN_same hd hnb (fun k => by rw [upW_same h hq hl 1 k]) (fun k => by rw [upW_same h hq hl 2 k]) (fun k => by rw [upW_same h hq hl 3 k])
    · obtain ⟨_, hr, hw1⟩ := br_let hb
      have n1 := bd_next h hq
      rw [hw1] at n1
      rw [← hd]
      refine (decN_sim (bd_sm n1) (fun c1 => ?_) (fun c1 c2 => ?_)).symm
      · obtain ⟨h1, w1⟩ := bd_cont n1 c1
        have n2 := bd_next n1 h1
        rw [w1] at n2
        exact bd_sm n2
      · obtain ⟨h1, w1⟩ := bd_cont n1 c1
        have n2 := bd_next n1 h1
        rw [w1] at n2
        obtain ⟨h2, w2⟩ := bd_cont n2 c2
        have n3 := bd_next n2 h2
        rw [w2] at n3
        exact bd_sm n3
  · rw [if_pos rfl]
    obtain ⟨_, _, u, h1, h2, h3, h4, h5⟩ := letP g1 hl
    have hwd := let_wd hq h4
    have hc : chunkU s q = (Utf8.encode (u : Int)).toList := by unfold chunkU; rw [if_pos hl, h1]
    have hqT : q < (upW s).size := by omega
    have hst : stB (upW s) q (Utf8.encode (u : Int)).toList = true := by
      have e0 := upW_at h hq 0 (by omega)
      rw [Nat.add_zero, hc] at e0
      by_cases h6 : u < 128
      · rw [enc_1 h6] at e0 ⊢
        rw [stB_one]
        exact decide_eq_true ⟨hqT, e0⟩
      · rw [if_neg (fun k => h6 (h2.2 k))] at hwd
        have e1 := upW_at h hq 1 (by omega)
        rw [hc] at e1
        rw [enc_2 (by omega) h3] at e0 e1 ⊢
        rw [stB_cons, stB_one, Bool.and_eq_true]
        exact ⟨decide_eq_true ⟨hqT, e0⟩, decide_eq_true ⟨by omega, e1⟩⟩
    rw [enc_st hqT h3, decide_eq_true_eq] at hst
    rw [hst, h1, hwd, enc_l h3]
    have e : (if u < 128 then 1 else 2) = if rnN s q < 128 then 1 else 2 := by
      by_cases h6 : u < 128
      · rw [if_pos h6, if_pos (h2.1 h6)]
      · rw [if_neg h6, if_neg (fun k => h6 (h2.2 k))]
    rw [e, Int.toNat_natCast]
theorem bd_word {s : ByteArray} {q : Nat} (h : Bdy s q) (hq : q < s.size) : wdN (upW s) q = wdN s q ∧ wordAt (upW s) q = wordAt s q := by
  have g1 := (goodF_more hq h.2.1).1
  have hd := bd_dec h hq
  have hr : rnN (upW s) q = if letB s q then (upI (rnN s q)).toNat else rnN s q := by unfold rnN at hd ⊢; rw [hd]
  have hw : wdN (upW s) q = wdN s q := by show (Utf8.decode (upW s) q).2 = _; rw [hd]
  refine ⟨hw, ?_⟩
  cases hl : letB s q
  · rw [hl, if_neg (by decide)] at hr
    have hb : isBr (upW s) q = isBr s q := by unfold isBr; rw [hr, hw]
    unfold wordAt
    rw [hb, hr]
    have h0 := wdN_pos hq
    have e0 := upW_same h hq hl 0 (by omega)
    rw [Nat.add_zero] at e0
    rw [show byteN (upW s) q = byteN s q from congrArg UInt8.toNat e0]
  · rw [hl, if_pos rfl] at hr
    obtain ⟨_, hg, u, h1, h2, h3, h4, h5⟩ := letP g1 hl
    have hr' : rnN (upW s) q = u := by rw [hr, h1, Int.toNat_natCast]
    have hb : isBr (upW s) q = false := by
      unfold isBr; rw [hr']; exact decide_eq_false fun k => by omega
    have hb' : isBr s q = false := (of_decide_eq_true hl).1
    unfold wordAt
    rw [hb, hb', if_neg (by decide), if_neg (by decide), hr', h5]
    have : lowI (rnN s q : Int) = (rnN s q : Int) := by unfold lowI; rw [if_pos hg]
    rw [this]
theorem posL_up {s : ByteArray} : ∀ (k p : Nat), s.size - p = k → Bdy s p → posL (upW s) p = posL s p ∧ (posL s p).map (wordAt (upW s)) = (posL s p).map (wordAt s) := by
  intro k
  induction k using Nat.strongRecOn with
  | ind k ih =>
    intro p hk h
    by_cases hp : p < s.size
    · have hw := wdN_pos hp
      obtain ⟨h1, h2⟩ := bd_word h hp
      obtain ⟨h3, h4⟩ := ih (s.size - (p + wdN s p)) (by omega) (p + wdN s p) rfl (bd_next h hp)
      have e1 : posL s p = p :: posL s (p + wdN s p) := posL_more hp
      have e2 : posL (upW s) p = p :: posL (upW s) (p + wdN (upW s) p) := posL_more (by have := h.2.2.2; omega)
      refine ⟨?_, ?_⟩
      · rw [e2, e1, h1, h3]
      · rw [e1, List.map_cons, List.map_cons, h2, h4]
    · have e1 : posL s p = [] := posL_end hp
      have e2 : posL (upW s) p = [] := posL_end (by have := h.2.2.2; omega)
      exact ⟨by rw [e1, e2], by rw [e1, List.map_nil, List.map_nil]⟩
theorem bd_0 {s : ByteArray} (g : GoodF s 0) : Bdy s 0 := ⟨rfl, g, Nat.zero_le _, upW_size g⟩
theorem wordL_up {s : ByteArray} (g : GoodF s 0) : wordL (upW s) = wordL s := by
  obtain ⟨h1, h2⟩ := posL_up _ 0 rfl (bd_0 g)
  unfold wordL; rw [h1, h2]
theorem sndL_ph {x : Rs} (g : RsG x) {w : List One} {a b : List Nat} : ∀ (m k : Nat), w.length - k = m → (sndL x w a k).map (·.ph) = (sndL x w b k).map (·.ph) := by
  intro m
  induction m using Nat.strongRecOn with
  | ind m ih =>
    intro k hk
    by_cases h : k < w.length
    · rw [sndL_more g h, sndL_more g h, List.map_cons, List.map_cons, ih (w.length - (k + stepN x w k)) (by have := step_in g h; omega) _ rfl]
    · rw [sndL_end h, sndL_end h]
/-- A word and its great one: none of both, or the same phones. -/
theorem sounds_up {x : Rs} (gx : RsG x) {s : ByteArray} (g : GoodF s 0) :
    (soundsR x s = none ∧ soundsR x (upW s) = none) ∨ ∃ l l', soundsR x s = some l ∧ soundsR x (upW s) = some l' ∧ l.map (·.ph) = l'.map (·.ph) := by
  have hp : (sndL x (wordL s) (atL s) 0).map (·.ph) = (sndL x (wordL s) (atL (upW s)) 0).map (·.ph) := sndL_ph gx _ 0 rfl
  have hm : ∀ l : List Snd, manyN l = ((l.map (·.ph)).map List.length).sum := fun l => by unfold manyN; rw [List.map_map]; rfl
  unfold soundsR
  rw [wordL_up g]
  by_cases h1 : (wordL s).length > 64
  · rw [if_pos h1, if_pos h1]; exact .inl ⟨rfl, rfl⟩
  · rw [if_neg h1, if_neg h1, hm, hm, ← hp]
    by_cases h2 : (((sndL x (wordL s) (atL s) 0).map (·.ph)).map List.length).sum > 128
    · rw [if_pos h2, if_pos h2]; exact .inl ⟨rfl, rfl⟩
    · rw [if_neg h2, if_neg h2]; exact .inr ⟨_, _, rfl, rfl, hp⟩
end Go.Proofs.YtieifhfgedoiaaaGreatDoor
/- A text's pieces as an iterator; a piece's kind; a letter's great one. Conditions: those of each theorem. -/
namespace Go.Proofs.YtieifhfgedoiaaaGreatDoor
open Go.RowKit Go.Lib Go.Shelf
set_option linter.unusedVariables false
set_option linter.unusedSimpArgs false
attribute [local go_sem] Oper.semAt_some
theorem up21 (r : Int) (h0 : 0 ≤ r) (h9 : r ≤ 1114111) (hn : r ≠ 223) (b : Bool) (t : ByteArray) (w : World) :
    Calls Tryz.prog 21 #[.int .i32 r, .bool b, .string t] w fun e w' => e = .returned (.string (Utf8.encode (upI r))) ∧ w = w' := by
  have hU := hid (fun w => upper10 r h0 h9 w)
  have t1 := n1 r 223 hn
  generalize upI r = u at *
  go_enter Tryz.func21, Tryz.ntmps21
  go_wp2_with (go_at_call 10; (with_reducible refine Calls.mono (hU.out _) ?_); rintro e w' ⟨rfl, rfl⟩)
  go_ret
  exact ⟨rfl, rfl⟩
def pcV (s : ByteArray) (p : Nat) : Value := .agg #[.int .i64 p, .int .i64 (wdN s p), .int .i32 (rnN s p), .bool (isBr s p)]
theorem of33_t (a b r : Int) (w : World) :
    Calls Tryz.prog 33 #[.agg #[.int .i64 a, .int .i64 b, .int .i32 r, .bool true]] w fun e w' => e = .returned (.int .i64 11) ∧ Below w.heap.size w w' := by
  have hB : Below w.heap.size w (w.alloc (.cells #[.int .i64 a, .int .i64 b, .int .i32 r, .bool true] 96)) := (Below.refl _ w).alloc (Nat.le_refl _) _
  have HB := hid hB
  clear hB
  go_enter Tryz.func33, Tryz.ntmps33
  go_wp2_with fail
  go_ret
  exact ⟨rfl, HB.out⟩
theorem of33_f (a b r : Int) (h0 : 0 ≤ r) (h9 : r ≤ 1114111) (w : World) :
    Calls Tryz.prog 33 #[.agg #[.int .i64 a, .int .i64 b, .int .i32 r, .bool false]] w fun e w' => e = .returned (.int .i64 (kindI r)) ∧ Below w.heap.size w w' := by
  have hB : Below w.heap.size w (w.alloc (.cells #[.int .i64 a, .int .i64 b, .int .i32 r, .bool false] 96)) := (Below.refl _ w).alloc (Nat.le_refl _) _
  have HB := hid hB
  clear hB
  have hK := hid (fun w => kind81 r h0 h9 w)
  generalize kindI r = k at *
  go_enter Tryz.func33, Tryz.ntmps33
  go_wp2_with (go_at_call 51; (with_reducible refine Calls.mono (hK.out _) ?_); rintro e w' ⟨rfl, rfl⟩)
  go_ret
  exact ⟨rfl, HB.out⟩
theorem pieces32 (F : Fence) (n : Nat) (hf : F.fn 32) (hro : F.round = none) (s : ByteArray) (w : World) :
    CallsIn F n Tryz.prog 32 #[.string s] w fun e w' => e = .returned (.func (.func 50) #[] #[.pointer (some ⟨w.heap.size, 0, none⟩)]) ∧ w' = w.alloc (.cells #[.string s] 9) := by
  refine callsIn_of_wp Tryz.func32 rfl hf ?_ hro
  simp only [Tryz.ntmps32, List.size_toArray, List.length_cons, List.length_nil, Nat.reduceAdd, Nat.reduceSub, Array.replicate_succ, Array.replicate_zero, List.push_toArray, List.append_toArray, List.nil_append, List.cons_append]
  gi_wp2
  go_ret
  exact ⟨rfl, rfl⟩
theorem grown_none {W W' : World} (h : Below W.heap.size W W') : W.grownBy W' none := ⟨h.os, h.tape, h.output, h.size, fun k hk _ => h.block k hk⟩
theorem grown_iter {W : World} {k : Nat} {s : ByteArray} {pos pos' : Nat} (h : W.heap[k]? = some (.stringIter s pos)) : W.grownBy (W.iterAt k s pos') (some k) :=
  ⟨rfl, rfl, rfl, by rw [iterAt_size]; exact Nat.le_refl _, fun i hi hne => iterAt_other W k i s pos' (fun e => hne (by rw [e]))⟩
theorem piece_dat {s : ByteArray} {p : Nat} (hp : p < s.size) :
    (isBr s p = false ∧ ((rnN s p : Int) == 65533) = false ∧ (Utf8.encode (rnN s p : Int)).size = wdN s p) ∨
    (isBr s p = false ∧ rnN s p = 65533 ∧ wdN s p = 3 ∧ stB (s.extract p s.size) 0 [239, 191, 189] = true) ∨
    (isBr s p = true ∧ rnN s p = 65533 ∧ wdN s p = 1 ∧ stB (s.extract p s.size) 0 [239, 191, 189] = false) := by
  have hd := dec_at s p hp
  have hst := stB_ext s p 0 (Nat.le_of_lt hp) [239, 191, 189]
  rw [Nat.add_zero] at hst
  rw [hst]
  unfold isBr
  change DecAt s p (rnN s p) (wdN s p) at hd
  generalize rnN s p = r at *
  generalize wdN s p = w at *
  cases hd with
  | rune _ _ h1 h2 h3 h4 h5 h6 h7 => exact .inl ⟨decide_eq_false (fun k => h1 k.1), beq_false_of (by omega), h3⟩
  | lost h1 h2 =>
    refine .inr (.inl ⟨rfl, rfl, rfl, ?_⟩)
    unfold stB
    rw [Bool.and_eq_true]
    exact ⟨decide_eq_true h1, h2⟩
  | broken h0 h1 =>
    refine .inr (.inr ⟨rfl, rfl, rfl, ?_⟩)
    unfold stB
    rw [Bool.and_eq_false_iff]
    rcases h1 with h1 | ⟨h1, h2⟩
    · exact .inl (decide_eq_false (by show ¬ p + 3 ≤ _; omega))
    · exact .inr h2
theorem enc_lost : (Utf8.encode ((65533 : Nat) : Int)).size = 3 := by rw [enc_size 65533 (by omega)]; rfl
set_option maxRecDepth 100000 in
set_option maxHeartbeats 4000000 in
theorem pieces50 (n : Nat) (hn : 1 ≤ n) (l Bs n₀ : Nat) (s : ByteArray) (hs : s.size ≤ 100000000) (J Jx : List Nat → World → Prop) (W : World) (hsz : n₀ ≤ W.heap.size) (hJ : AbidesFrom W.heap.size J)
    (hY : ∀ pre x W1, J pre W1 → pre ++ [x] <+: posL s 0 → YieldAt Fence.wide (n - 1) Tryz.prog l #[pcV s x] W1 fun e W' =>
      (e = .returned (.bool true) ∧ J (pre ++ [x]) W' ∧ KC n₀ W.heap.size Bs W1 W') ∨ (e = .returned (.bool false) ∧ Jx (pre ++ [x]) W'))
    (hBs : W.cell? ⟨Bs, 0, none⟩ = some (.string s)) (hBl : Bs < W.heap.size) (h0 : J [] W) :
    CallsIn Fence.wide n Tryz.prog 50 #[.func (.yield l) #[] #[], .pointer (some ⟨Bs, 0, none⟩)] W fun e W' => (∃ v, e = .returned v) ∧
      (J (posL s 0) W' ∨ (∃ pre, pre <+: posL s 0 ∧ Jx pre W')) := by
  refine callsIn_of_wp Tryz.func50 rfl trivial ?_ rfl
  simp only [Tryz.ntmps50, List.size_toArray, List.length_cons, List.length_nil, Nat.reduceAdd, Nat.reduceSub, Array.replicate_succ, Array.replicate_zero, List.push_toArray, List.append_toArray, List.nil_append, List.cons_append]
  gi_wp2_with fail
  gi_loopw [] (fun wr => ∃ (pos : Nat) (ps : List Nat), Hid (posL s 0 = ps ++ posL s pos) ∧ pos ≤ s.size ∧ Hid (J ps wr) ∧ Hid (wr.heap[W.heap.size]? = some (.stringIter s pos)) ∧ Hid (wr.cell? ⟨Bs, 0, none⟩ = some (.string s)) ∧ W.heap.size < wr.heap.size) (fun wr => s.size - wr.iterPos W.heap.size)
  case atStart =>
    exact ⟨0, [], hid rfl, Nat.zero_le _, hid (hJ _ _ _ none h0 (World.grownBy_alloc W _ none) (fun r e => by cases e)), hid (heap_alloc_new W _), hid ((((Below.refl W.heap.size W).alloc (Nat.le_refl _) (.stringIter s 0)).cell (p := ⟨Bs, 0, none⟩) hBl).trans hBs), at_lt (heap_alloc_new W _)⟩
  case round =>
    obtain ⟨pos, ps, hL, hps, hJs, hit, hcs, hIl⟩ := hrel
    have hpos0 := hid (iterPos_of hit.out)
    by_cases hp : pos < s.size
    · have hnx : ∀ ty, (Instr.next (.pointer (some ⟨W.heap.size, 0, none⟩)) true ty).run Tryz.prog wr = _ := fun ty => Lib.run_next_any_at wr W.heap.size s pos ty hit.out hp
      change ∀ ty, (Instr.next (.pointer (some ⟨W.heap.size, 0, none⟩)) true ty).run Tryz.prog wr = .ok (.tuple #[.bool true, .int .i64 pos, .int .i32 (rnN s pos)]) (wr.iterAt W.heap.size s (pos + wdN s pos)) at hnx
      have hwd := wdN_pos hp
      have hJ1 : Hid (J ps (wr.iterAt W.heap.size s (pos + wdN s pos))) := hid (hJ _ _ _ _ hJs.out (grown_iter hit.out) (fun r e => by cases e; exact ⟨Nat.le_refl _, _, hit.out, rfl⟩))
      have hit1 := hid (iterAt_heap wr W.heap.size s pos (pos + wdN s pos) hit.out)
      have hcs1 : (wr.iterAt W.heap.size s (pos + wdN s pos)).cell? ⟨Bs, 0, none⟩ = some (.string s) := (World.cell?_of_block (a := ⟨Bs, 0, none⟩) (iterAt_other wr W.heap.size Bs s (pos + wdN s pos) (by omega))).trans hcs.out
      have hI1 : W.heap.size < (wr.iterAt W.heap.size s (pos + wdN s pos)).heap.size := by rw [iterAt_size]; exact hIl
      have hL2 : Hid (posL s 0 = (ps ++ [pos]) ++ posL s (pos + wdN s pos)) := by rw [hL.out, posL_more hp, List.append_assoc]; exact hid rfl
      have hpre : Hid (ps ++ [pos] <+: posL s 0) := hid ⟨_, hL2.out.symm⟩
      have hmeas : Hid (1 ≤ wdN s pos ∧ pos + wdN s pos ≤ s.size ∧ pos < s.size) := hid ⟨hwd.1, hwd.2.2, hp⟩
      obtain ⟨W1, hW1⟩ : ∃ W1, wr.iterAt W.heap.size s (pos + wdN s pos) = W1 := ⟨_, rfl⟩
      rw [hW1] at hnx hJ1 hit1 hcs1 hI1
      have hps2 : (pos : Int) ≤ s.size := by omega
      have HC := hid hcs1
      have hgo : Hid (∀ (W2 W3 : World), Below W1.heap.size W1 W2 → KC n₀ W.heap.size Bs W2 W3 → W3.heap[W.heap.size]? = some (.stringIter s (pos + wdN s pos)) ∧ W3.cell? ⟨Bs, 0, none⟩ = some (.string s) ∧ W.heap.size < W3.heap.size) := hid (fun W2 W3 hB hK =>
        ⟨hK.up _ _ (Nat.le_refl _) ((hB.block _ hI1).trans hit1.out) rfl, (World.cell?_of_block (a := ⟨Bs, 0, none⟩) hK.at_).trans ((hB.cell (p := ⟨Bs, 0, none⟩) (show Bs < W1.heap.size by omega)).trans HC.out), Nat.lt_of_lt_of_le hI1 (Nat.le_trans hB.size hK.low.size)⟩)
      have HY := hid hY
      clear hW1 hwd hL hJs hit hcs hY h0 hBs
      rcases piece_dat hp with ⟨hb, hq, he⟩ | ⟨hb, hr, hw, hst⟩ | ⟨hb, hr, hw, hst⟩
      · have he2 : ((Utf8.encode (rnN s pos : Int)).size : Int) = (wdN s pos : Int) := by rw [he]
        have hB2 : Below W1.heap.size W1 (W1.alloc (.cells #[.int .i64 pos, .int .i64 (wdN s pos), .int .i32 (rnN s pos), .bool false] 96)) := (Below.refl _ _).alloc (Nat.le_refl _) _
        have hJ2 : J ps (W1.alloc (.cells #[.int .i64 pos, .int .i64 (wdN s pos), .int .i32 (rnN s pos), .bool false] 96)) := hJ _ _ _ none hJ1.out (World.grownBy_alloc W1 _ none) (fun r e => by cases e)
        obtain ⟨fn, tmps, assign, body, hy, hR⟩ := HY.out _ pos _ hJ2 hpre.out
        unfold pcV at hy
        rw [hb] at hy
        have HB := hid hB2
        clear hB2 hJ2 he hp HY
        generalize wdN s pos = wd at *
        generalize rnN s pos = r at *
        gi_wp2_with fail
        refine ⟨trivial, ?_⟩
        gi_wp2_with fail
        refine hR.mono ?_
        rintro e W3 (⟨rfl, hJ3, hk3⟩ | ⟨rfl, hJx3⟩)
        · obtain ⟨g1, g2, g3⟩ := hgo.out _ _ HB.out hk3
          have G1 := hid g1
          have G2 := hid g2
          have GJ := hid hJ3
          clear g1 g2 hk3 hJ3 hR hy hnx
          gi_wp2_with fail
          go_roundw
          case rel => exact ⟨pos + wd, ps ++ [pos], hL2, hmeas.out.2.1, GJ, G1, G2, g3⟩
          case measure =>
            have h1 := iterPos_of G1.out
            have h2 := hpos0.out
            have h3 := hmeas.out
            omega
        · gi_wp2_with fail
          refine bodyPost_ret (results_none rfl _ _ _) rfl ?_
          exact ⟨⟨_, rfl⟩, .inr ⟨_, hpre.out, hJx3⟩⟩
      · have hq : ((rnN s pos : Int) == 65533) = true := by rw [hr]; decide
        have he2 : ((Utf8.encode (rnN s pos : Int)).size : Int) = (wdN s pos : Int) := by rw [hr, hw, enc_lost]
        have hP : Hid (∀ w, Calls Tryz.prog 48 #[.string (s.extract pos s.size), .string ⟨#[239, 191, 189]⟩] w fun e w' => e = .returned (.bool true) ∧ w = w') := hid (fun w => by
          have h := hasPrefix_any (s.extract pos s.size) ⟨#[239, 191, 189]⟩ (by rw [ext_size]; omega) (by decide) w
          rw [show stB (s.extract pos s.size) 0 (⟨#[239, 191, 189]⟩ : ByteArray).data.toList = true from hst] at h
          exact h)
        have hB2 : Below W1.heap.size W1 (W1.alloc (.cells #[.int .i64 pos, .int .i64 (wdN s pos), .int .i32 (rnN s pos), .bool false] 96)) := (Below.refl _ _).alloc (Nat.le_refl _) _
        have hJ2 : J ps (W1.alloc (.cells #[.int .i64 pos, .int .i64 (wdN s pos), .int .i32 (rnN s pos), .bool false] 96)) := hJ _ _ _ none hJ1.out (World.grownBy_alloc W1 _ none) (fun r e => by cases e)
        obtain ⟨fn, tmps, assign, body, hy, hR⟩ := HY.out _ pos _ hJ2 hpre.out
        unfold pcV at hy
        rw [hb] at hy
        have hcs2 := (hB2.cell (p := ⟨Bs, 0, none⟩) (show Bs < W1.heap.size by omega)).trans HC.out
        have HB := hid hB2
        clear hB2 hJ2 hp HY hr hw hst hcs1
        generalize wdN s pos = wd at *
        generalize rnN s pos = r at *
        gi_wp2_with fail
        refine ⟨trivial, ?_⟩
        with_reducible refine CallsIn.mono (callsIn_wide.2 (hP.out _)) ?_
        rintro e w' ⟨rfl, rfl⟩
        gi_wp2_with fail
        refine hR.mono ?_
        rintro e W3 (⟨rfl, hJ3, hk3⟩ | ⟨rfl, hJx3⟩)
        · obtain ⟨g1, g2, g3⟩ := hgo.out _ _ HB.out hk3
          have G1 := hid g1
          have G2 := hid g2
          have GJ := hid hJ3
          clear g1 g2 hk3 hJ3 hR hy hnx
          gi_wp2_with fail
          go_roundw
          case rel => exact ⟨pos + wd, ps ++ [pos], hL2, hmeas.out.2.1, GJ, G1, G2, g3⟩
          case measure =>
            have h1 := iterPos_of G1.out
            have h2 := hpos0.out
            have h3 := hmeas.out
            omega
        · gi_wp2_with fail
          refine bodyPost_ret (results_none rfl _ _ _) rfl ?_
          exact ⟨⟨_, rfl⟩, .inr ⟨_, hpre.out, hJx3⟩⟩
      · have hq : ((rnN s pos : Int) == 65533) = true := by rw [hr]; decide
        have he2 : ((Utf8.encode (rnN s pos : Int)).size : Int) = 3 := by rw [hr, enc_lost]; rfl
        have hP : Hid (∀ w, Calls Tryz.prog 48 #[.string (s.extract pos s.size), .string ⟨#[239, 191, 189]⟩] w fun e w' => e = .returned (.bool false) ∧ w = w') := hid (fun w => by
          have h := hasPrefix_any (s.extract pos s.size) ⟨#[239, 191, 189]⟩ (by rw [ext_size]; omega) (by decide) w
          rw [show stB (s.extract pos s.size) 0 (⟨#[239, 191, 189]⟩ : ByteArray).data.toList = false from hst] at h
          exact h)
        have hB2 : Below W1.heap.size W1 (W1.alloc (.cells #[.int .i64 pos, .int .i64 1, .int .i32 (rnN s pos), .bool true] 96)) := (Below.refl _ _).alloc (Nat.le_refl _) _
        have hJ2 : J ps (W1.alloc (.cells #[.int .i64 pos, .int .i64 1, .int .i32 (rnN s pos), .bool true] 96)) := hJ _ _ _ none hJ1.out (World.grownBy_alloc W1 _ none) (fun r e => by cases e)
        obtain ⟨fn, tmps, assign, body, hy, hR⟩ := HY.out _ pos _ hJ2 hpre.out
        unfold pcV at hy
        rw [hb, hw, show ((1 : Nat) : Int) = 1 from rfl] at hy
        have hcs2 := (((Below.refl W1.heap.size W1).alloc (Nat.le_refl _) (.cells #[.int .i64 pos, .int .i64 3, .int .i32 (rnN s pos), .bool false] 96)).cell (p := ⟨Bs, 0, none⟩) (show Bs < W1.heap.size by omega)).trans HC.out
        have HB := hid hB2
        rw [hw] at hL2 hmeas hit1 hgo
        clear hB2 hJ2 hp HY hr hst hcs1
        generalize rnN s pos = r at *
        gi_wp2_with fail
        refine ⟨trivial, ?_⟩
        with_reducible refine CallsIn.mono (callsIn_wide.2 (hP.out _)) ?_
        rintro e w' ⟨rfl, rfl⟩
        gi_wp2_with fail
        refine hR.mono ?_
        rintro e W3 (⟨rfl, hJ3, hk3⟩ | ⟨rfl, hJx3⟩)
        · obtain ⟨g1, g2, g3⟩ := hgo.out _ _ HB.out hk3
          have G1 := hid g1
          have G2 := hid g2
          have GJ := hid hJ3
          clear g1 g2 hk3 hJ3 hR hy hnx
          gi_wp2_with fail
          go_roundw
          case rel => exact ⟨pos + 1, ps ++ [pos], hL2, hmeas.out.2.1, GJ, G1, G2, g3⟩
          case measure =>
            have h1 := iterPos_of G1.out
            have h2 := hpos0.out
            have h3 := hmeas.out
            omega
        · gi_wp2_with fail
          refine bodyPost_ret (results_none rfl _ _ _) rfl ?_
          exact ⟨⟨_, rfl⟩, .inr ⟨_, hpre.out, hJx3⟩⟩
    · obtain rfl : pos = s.size := by omega
      have hnx : ∀ ty, (Instr.next (.pointer (some ⟨W.heap.size, 0, none⟩)) true ty).run Tryz.prog wr = _ := fun ty => Lib.run_next_end_at wr W.heap.size s s.size ty hit.out hp
      have hJ9 : Hid (J (posL s 0) wr) := by rw [hL.out, posL_end hp, List.append_nil]; exact hJs
      clear hL hJs hY h0 hBs
      gi_wp2_with fail
      go_end0
      exact ⟨⟨_, rfl⟩, .inl hJ9.out⟩
end Go.Proofs.YtieifhfgedoiaaaGreatDoor
/- A text in great letters: what stands in memory while class.turn goes over the pieces. Conditions: those of each theorem. -/
namespace Go.Proofs.YtieifhfgedoiaaaGreatDoor
open Go.RowKit Go.Lib Go.Shelf
set_option linter.unusedVariables false
set_option linter.unusedSimpArgs false
theorem wstr34 (B b : Nat) (bs : List Value) (s : ByteArray) (w : World) (h : IsBuilderF 91 5 B b bs w) (hlen : bs.length + s.size ≤ 140737488355328) (hBw : B ≤ w.heap.size) :
    Calls Tryz.prog 34 #[.pointer (some ⟨b, 0, none⟩), .string s] w fun e w' => e = .returned (.tuple #[.int .i64 s.size, .nilIface]) ∧ (BuilderAtF 91 5 B b (.pointer (some ⟨b, 0, none⟩)) (bs ++ strCells s) w' ∧ Below B w w' ∧ OthersKept 5 (some b) w w') :=
  Any.Builder_WriteString_k Tryz.lays166 Tryz.Builder_Extra_166 B b bs s w h hlen hBw
theorem str35 (B b : Nat) (l : List UInt8) (w : World) (h : IsBuilderF 91 5 B b (byteCells l) w) (hBw : B ≤ w.heap.size) :
    Calls Tryz.prog 35 #[.pointer (some ⟨b, 0, none⟩)] w fun e w' => e = .returned (.string ⟨l.toArray⟩) ∧ (IsBuilderF 91 5 B b (byteCells l) w' ∧ Below B w w' ∧ OthersKept 5 (some b) w w') :=
  Any.Builder_String_any_k Tryz.lays169 Tryz.Builder_Extra_169 B b l w h hBw
theorem bf_kept {T e : TypeId} {B b : Nat} {bs : List Value} {W W' : World} {row : Option Nat} (h : IsBuilderF T e B b bs W) (hg : W.grownBy W' row) (h1 : some b ≠ row) (h2 : ∀ r c fz, row = some r → W.heap[r]? ≠ some (.cells c e fz)) : IsBuilderF T e B b bs W' := by
  have key : ∀ v : Value, W.ownsRowF B e 1 v bs.length bs → W'.ownsRowF B e 1 v bs.length bs := by
    intro v hv
    refine hv.kept hg ?_
    rcases hv.2 with ⟨rfl, _⟩ | ⟨g, cap, cur, fz, rfl, _, hgg, _⟩
    · exact .inl rfl
    · refine .inr fun e' => h2 g cur fz e'.symm hgg
  rcases h with h | h
  · obtain ⟨a1, v, a2, a3, a4⟩ := h
    exact .inl ⟨a1, v, (show Blk W b T _ from a2).kept hg h1, key v a3, a4⟩
  · obtain ⟨a1, v, a2, a3, a4⟩ := h
    exact .inr ⟨a1, v, (show Blk W b T _ from a2).kept hg h1, key v a3, a4⟩
/-- The blocks of class.turn: the text, the closure, the builder, led, the pieces' own text. -/
structure TS (w0 W : World) (s : ByteArray) (bs : List UInt8) : Prop where
  k0 : Blk W w0.heap.size 9 #[.string s]
  k1 : Blk W (w0.heap.size + 1) 58 #[.func (.func 21) #[] #[]]
  bu : IsBuilderF 91 5 w0.heap.size (w0.heap.size + 2) (byteCells bs) W
  k3 : ∃ b, Blk W (w0.heap.size + 3) 4 #[.bool b]
  k4 : Blk W (w0.heap.size + 4) 9 #[.string s]
  bel : Below w0.heap.size w0 W
/-- What a step of the body keeps. -/
structure BK (N : Nat) (W W' : World) : Prop where
  size : W.heap.size ≤ W'.heap.size
  nc : ∀ (k : Nat) (o : Obj), W.heap[k]? = some o → o.isCells = false → W'.heap[k]? = some o
  low : Below N W W'
  at4 : W'.heap[N + 4]? = W.heap[N + 4]?
theorem BK.trans {N : Nat} {a b c : World} (h : BK N a b) (k : BK N b c) : BK N a c :=
  ⟨Nat.le_trans h.size k.size, fun i o ho hc => k.nc i o (h.nc i o ho hc) hc, h.low.trans k.low, k.at4.trans h.at4⟩
theorem blkN {W : World} {B : Nat} {t : TypeId} {c : Array Value} {row : Option Nat} (h : Blk W B t c) (hr : ∀ r, row = some r → ∃ o : Obj, W.heap[r]? = some o ∧ o.isCells = false) : some B ≠ row := by
  intro e
  obtain ⟨o, ho, hc⟩ := hr B e.symm
  rw [show W.heap[B]? = _ from h] at ho
  injection ho with ho
  subst ho
  cases hc
theorem bf_blk {T e : TypeId} {B b : Nat} {bs : List Value} {W : World} (h : IsBuilderF T e B b bs W) : ∃ c, Blk W b T c := by
  rcases h with ⟨_, v, h2, _⟩ | ⟨_, v, h2, _⟩ <;> exact ⟨_, h2⟩
theorem TS.grown {w0 W W' : World} {s : ByteArray} {bs : List UInt8} {row : Option Nat} (h : TS w0 W s bs) (hg : W.grownBy W' row) (hr : ∀ r, row = some r → w0.heap.size ≤ r ∧ ∃ o : Obj, W.heap[r]? = some o ∧ o.isCells = false) : TS w0 W' s bs := by
  have hr2 := fun r e => (hr r e).2
  obtain ⟨b, hb⟩ := h.k3
  obtain ⟨c, hc⟩ := bf_blk h.bu
  refine ⟨h.k0.kept hg (blkN h.k0 hr2), h.k1.kept hg (blkN h.k1 hr2), bf_kept h.bu hg (blkN hc hr2) (fun r c fz e ho => ?_), ⟨b, hb.kept hg (blkN hb hr2)⟩, h.k4.kept hg (blkN h.k4 hr2), h.bel.grown hg h.bel.size (fun k e => (hr k e).1)⟩
  obtain ⟨o, ho', hc'⟩ := hr2 r e
  rw [ho] at ho'
  injection ho' with ho'
  subst ho'
  cases hc'
theorem TS.lt {w0 W : World} {s : ByteArray} {bs : List UInt8} (h : TS w0 W s bs) : w0.heap.size + 4 < W.heap.size := h.k4.lt
theorem TS.step {w0 W W' : World} {s : ByteArray} {bs : List UInt8} (h : TS w0 W s bs) (hb : Below W.heap.size W W') : TS w0 W' s bs ∧ BK w0.heap.size W W' :=
  ⟨h.grown (grown_none hb) (fun r e => by cases e), hb.size, fun k o ho _ => (hb.block k (Array.getElem?_eq_some_iff.1 ho).1).trans ho, hb.mono (by have := h.lt; omega), hb.block _ h.lt⟩
theorem cells_app (bs : List UInt8) (t : ByteArray) : byteCells bs ++ strCells t = byteCells (bs ++ t.data.toList) := by
  rw [strCells_eq]; unfold byteCells; rw [List.map_append]
theorem ok_of {W W' : World} {b k : Nat} {t : TypeId} {c : Array Value} (h : OthersKept 5 (some b) W W') (hk : Blk W k t c) (hne : k ≠ b) (ht : t ≠ 5) : Blk W' k t c :=
  h k _ hk (fun e => hne (Option.some.inj e)) (fun c' fz e => by injection e with _ e2 _; exact ht e2)
theorem TS.wrote {w0 W W' : World} {s : ByteArray} {bs : List UInt8} {p : Value} {t : ByteArray} (h : TS w0 W s bs) (hB : BuilderAtF 91 5 w0.heap.size (w0.heap.size + 2) (.pointer (some ⟨w0.heap.size + 2, 0, none⟩)) (byteCells bs ++ strCells t) W')
    (hb : Below w0.heap.size W W') (hk : OthersKept 5 (some (w0.heap.size + 2)) W W') : TS w0 W' s (bs ++ t.data.toList) ∧ BK w0.heap.size W W' := by
  obtain ⟨b, hb3⟩ := h.k3
  obtain ⟨c, hc⟩ := bf_blk h.bu
  have k4' := ok_of hk h.k4 (by omega) (by decide)
  refine ⟨⟨ok_of hk h.k0 (by omega) (by decide), ok_of hk h.k1 (by omega) (by decide), by rw [← cells_app]; exact .inr hB, ⟨b, ok_of hk hb3 (by omega) (by decide)⟩, k4', h.bel.trans hb⟩, hb.size, fun k o ho ho2 => ?_, hb, (show W'.heap[_]? = _ from k4').trans (show W.heap[_]? = _ from h.k4).symm⟩
  refine hk k o ho (fun e => ?_) (fun c' fz e => by subst e; cases ho2)
  have e := Option.some.inj e
  subst e
  rw [show W.heap[_]? = _ from hc] at ho
  injection ho with ho
  subst ho
  cases ho2
theorem TS.led {w0 W : World} {s : ByteArray} {bs : List UInt8} (h : TS w0 W s bs) (v : Bool) : TS w0 (W.setCell ⟨w0.heap.size + 3, 0, none⟩ (.bool v)) s bs ∧ BK w0.heap.size W (W.setCell ⟨w0.heap.size + 3, 0, none⟩ (.bool v)) := by
  obtain ⟨b, hb3⟩ := h.k3
  have hg : W.grownBy (W.setCell ⟨w0.heap.size + 3, 0, none⟩ (.bool v)) (some (w0.heap.size + 3)) := ⟨rfl, rfl, rfl, by simp [World.setCell], fun k _ hk => Below.heap_setCell _ _ _ _ (fun e => hk (by simp [e]))⟩
  have hb : Below w0.heap.size W (W.setCell ⟨w0.heap.size + 3, 0, none⟩ (.bool v)) := (Below.refl _ W).setCell (p := ⟨w0.heap.size + 3, 0, none⟩) (show w0.heap.size ≤ w0.heap.size + 3 by omega) _
  have ne : ∀ k : Nat, k ≠ w0.heap.size + 3 → some k ≠ some (w0.heap.size + 3) := fun k hk e => hk (Option.some.inj e)
  have k4' := h.k4.kept hg (ne _ (by omega))
  refine ⟨⟨h.k0.kept hg (ne _ (by omega)), h.k1.kept hg (ne _ (by omega)), bf_kept h.bu hg (ne _ (by omega)) (fun r c fz e ho => ?_), ⟨v, hb3.set 0 _⟩, k4', h.bel.trans hb⟩, hb.size, fun k o ho ho2 => ?_, hb, (show (W.setCell _ _).heap[_]? = _ from k4').trans (show W.heap[_]? = _ from h.k4).symm⟩
  · have e := Option.some.inj e
    subst e
    rw [show W.heap[_]? = _ from hb3] at ho
    injection ho with ho
    injection ho with _ h2 _
    exact absurd h2 (by decide)
  · refine (hg.block k (Array.getElem?_eq_some_iff.1 ho).1 (ne k fun e => ?_)).trans ho
    subst e
    rw [show W.heap[_]? = _ from hb3] at ho
    injection ho with ho
    subst ho
    cases ho2
end Go.Proofs.YtieifhfgedoiaaaGreatDoor
/- class.turn at the closure of UpperText, class.UpperText. Conditions: those of each theorem. -/
namespace Go.Proofs.YtieifhfgedoiaaaGreatDoor
open Go.RowKit Go.Lib Go.Shelf
set_option linter.unusedVariables false
set_option linter.unusedSimpArgs false
attribute [local go_sem] Oper.semAt_some Ext.cell Ext.froz
theorem name_actZ {F : Fence} {n : Nat} {c : Code} {Q : Exit → Act → World → Prop} {a : Act} {w : World} (h : ∀ T D, a.tmps = T → a.defers = D → c.wpIn F n Tryz.prog Q ⟨T, D⟩ w) : c.wpIn F n Tryz.prog Q a w := h _ _ rfl rfl
def pcZ (s : ByteArray) (p : Nat) : Array Value := #[.int .i64 p, .int .i64 (wdN s p), .int .i32 (rnN s p), .bool (isBr s p)]
def upP (s : ByteArray) (pre : List Nat) : List UInt8 := (pre.map (chunkU s)).flatten
theorem upP_snoc (s : ByteArray) (pre : List Nat) (x : Nat) : upP s (pre ++ [x]) = upP s pre ++ chunkU s x := by
  unfold upP; rw [List.map_append, List.flatten_append]; simp
theorem ts_start (w : World) (s : ByteArray) : TS w (((((w.alloc (.cells #[.string s] 9)).alloc (.cells #[.func (.func 21) #[] #[]] 58)).alloc (.cells #[.pointer none, .slice none 0 0] 91)).alloc (.cells #[.bool false] 4)).alloc (.cells #[.string s] 9)) s [] := by
  have b0 := Blk.new w 9 #[.string s]
  have b1 := Blk.new (w.alloc (.cells #[.string s] 9)) 58 #[.func (.func 21) #[] #[]]
  have b2 := Blk.new ((w.alloc (.cells #[.string s] 9)).alloc (.cells #[.func (.func 21) #[] #[]] 58)) 91 #[.pointer none, .slice none 0 0]
  have b3 := Blk.new (((w.alloc (.cells #[.string s] 9)).alloc (.cells #[.func (.func 21) #[] #[]] 58)).alloc (.cells #[.pointer none, .slice none 0 0] 91)) 4 #[.bool false]
  have b4 := Blk.new ((((w.alloc (.cells #[.string s] 9)).alloc (.cells #[.func (.func 21) #[] #[]] 58)).alloc (.cells #[.pointer none, .slice none 0 0] 91)).alloc (.cells #[.bool false] 4)) 9 #[.string s]
  simp only [World.size_alloc] at b1 b2 b3 b4
  refine ⟨(((b0.alloc _).alloc _).alloc _).alloc _, ((b1.alloc _).alloc _).alloc _, .inl ⟨by omega, .slice none 0 0, (b2.alloc _).alloc _, World.ownsRowF_of (World.ownsRow_nil _ _ _ _), by simp [Value.ownBlock]⟩, ⟨false, b3.alloc _⟩, b4, ?_⟩
  exact (((((Below.refl w.heap.size w).alloc (Nat.le_refl _) _).alloc (by simp) _).alloc (by simp; omega) _).alloc (by simp; omega) _).alloc (by simp; omega) _
theorem BK.kf {N B : Nat} {W W' : World} (h : BK N W W') : KeepsFrom B W W' := ⟨h.size, fun k o _ hk hc => h.nc k o hk hc⟩
theorem BK.kc {N n : Nat} {W W' : World} (h : BK N W W') : KC N n (N + 4) W W' := ⟨h.low, fun k o _ ho hc => h.nc k o ho hc, h.at4⟩
theorem upP_len {s : ByteArray} (g : GoodF s 0) {pre : List Nat} (h : pre <+: posL s 0) : (upP s pre).length ≤ s.size := by
  obtain ⟨t, ht⟩ := h
  have h1 : upF s 0 = upP s pre ++ upP s t := by
    show upP s (posL s 0) = _
    rw [← ht]; unfold upP; rw [List.map_append, List.flatten_append]
  have h2 := upF_len _ 0 rfl (Nat.zero_le _) g
  rw [h1, List.length_append] at h2
  omega
theorem chunk_let {s : ByteArray} {x : Nat} (h : letB s x = true) : (Utf8.encode (upI (rnN s x))).data.toList = chunkU s x := by
  unfold chunkU; rw [if_pos h, toList_data]
theorem chunk_not {s : ByteArray} {x : Nat} (h : letB s x = false) : (s.extract x (x + wdN s x)).data.toList = chunkU s x := by
  unfold chunkU; rw [if_neg (by rw [h]; decide), ← toList_data, extract_toList, show x + wdN s x - x = wdN s x by omega]
theorem of33 {s : ByteArray} {x : Nat} (hx : x < s.size) : ∃ kv : Int, (∀ W, Calls Tryz.prog 33 #[.agg #[.int .i64 x, .int .i64 (wdN s x), .int .i32 (rnN s x), .bool (isBr s x)]] W fun e w' => e = .returned (.int .i64 kv) ∧ Below W.heap.size W w') ∧ letB s x = decide (kv = 1) := by
  have hr := rn_bd hx
  cases hb : isBr s x
  · exact ⟨kindI (rnN s x), fun W => of33_f _ _ _ (by omega) (by omega) W, by unfold letB; rw [hb]; simp⟩
  · exact ⟨11, fun W => of33_t _ _ _ W, by unfold letB; rw [hb]; simp⟩
set_option maxRecDepth 100000 in
set_option maxHeartbeats 8000000 in
theorem turn20 (s : ByteArray) (hs : s.size ≤ 100000) (g : GoodF s 0) (w : World) :
    Calls Tryz.prog 20 #[.string s, .func (.func 21) #[] #[]] w fun e w' => e = .returned (.string (upW s)) ∧ Below w.heap.size w w' := by
  refine (callsIn_wide (n := 9)).1 ?_
  refine callsIn_of_wp_marks Tryz.func20 rfl trivial ?_ rfl
  simp only [Tryz.ntmps20, List.size_toArray, List.length_cons, List.length_nil, Nat.reduceAdd, Nat.reduceSub, Array.replicate_succ, Array.replicate_zero, List.push_toArray, List.append_toArray, List.nil_append, List.cons_append]
  refine wpIn_wide.2 ?_
  have HG := hid g
  clear g
  have hP := hid (fun W => (callsIn_wide (n := 8)).1 (pieces32 Fence.wide 8 trivial rfl s W))
  go_wp2_with fail
  with_reducible refine Calls.mono (hP.out _) ?_
  rintro e w4 ⟨rfl, hw4⟩
  have ht := ts_start w s
  rw [← hw4] at ht
  have hN : w4.heap.size = w.heap.size + 5 := by rw [hw4]; simp
  have HT := hid ht
  clear hw4 ht hP
  simp only [World.size_alloc, Nat.add_assoc, Nat.reduceAdd]
  go_wp2_with fail
  refine (wpIn_wide (n := 9)).1 ?_
  refine name_actZ ?_
  intro Tm D hTm hD
  have hseq : SeqOwn Fence.wide (9 - 1) Tryz.prog 50 #[.pointer (some ⟨w.heap.size + 4, 0, none⟩)] (fun p => #[pcV s p]) w.heap.size (w.heap.size + 4) (posL s 0) w4 := fun l J Jx W hW hJ hY h0 =>
    pieces50 8 (by omega) l (w.heap.size + 4) w.heap.size s (by omega) J Jx W (by have := hW.size; omega) hJ hY ((hW.cell (p := ⟨w.heap.size + 4, 0, none⟩) (show w.heap.size + 4 < w4.heap.size by omega)).trans (HT.out.k4.cell (k := 0) rfl)) (by have := hW.size; omega) h0
  refine rangeFunc_own (F := Fence.wide) (α := Nat) rfl (by omega) (gf := 50) (lb := #[.pointer (some ⟨w.heap.size + 4, 0, none⟩)]) (by subst hTm; rfl) trivial (enters_of Tryz.func50 (by kernel_rfl) rfl)
    hseq (by omega) (by omega) (Below.refl _ _) (fun _ => rfl)
    (fun pre W => TS w W s (upP s pre))
    (fun _ _ _ => False)
    (fun pre W W' row h hg hr => h.grown hg (fun r e => ⟨by have := (hr r e).1; omega, (hr r e).2⟩))
    (fun _ => ownFrom_pure _ _)
    HT.out
    (fun x a' W => ∃ Bx, w4.heap.size ≤ Bx ∧ Blk W Bx 96 (pcZ s x) ∧ a' = { tmps := (Tm.setIfInBounds 12 (pcV s x)).setIfInBounds 7 (.pointer (some ⟨Bx, 0, none⟩)), defers := [] })
    (fun x a' _ X Y row hh hg hr => by obtain ⟨Bx, h1, h2, h3⟩ := hh; exact ⟨Bx, h1, h2.kept hg (blkN h2 (fun r e => (hr r e).2)), h3⟩)
    ?assign ?body ?done ?stop
  case assign =>
    rintro l pre x W K hI hpre hK
    subst hTm hD
    have hsz := hI.lt
    obtain ⟨h1, h2⟩ := hI.step ((Below.refl W.heap.size W).alloc (Nat.le_refl _) (.cells (pcZ s x) 96))
    have hB := Blk.new W 96 (pcZ s x)
    have H := hK _ _ h2.kf h2.kc h1 ⟨W.heap.size, by omega, hB, rfl⟩
    clear hK h1 h2 hB
    dsimp only at H
    simp only [List.setIfInBounds_toArray, List.set_cons_succ, List.set_cons_zero] at H
    unfold pcV pcZ at H
    unfold pcV
    gi_wp2
    exact H
  case body =>
    rintro l pre x a' W hl hr hnext hI ⟨Bx, hBx, kx, rfl⟩
    have hxm : x ∈ posL s 0 := hnext.subset (by simp)
    have hx := posL_lt _ 0 rfl x hxm
    have hgc := HG.out x hxm
    have hwd := wdN_pos hx
    have hlen := upP_len HG.out ((List.prefix_append pre [x]).trans hnext)
    have hrl := rn_bd hx
    obtain ⟨q, hq⟩ : ∃ q, x + wdN s x = q := ⟨_, rfl⟩
    have hti : ((x : Int) + (wdN s x : Int)) = (q : Int) := by omega
    have hxt : (x : Int) ≤ q := by omega
    have hxt2 : decide (x ≤ q) = true := decide_eq_true (by omega)
    have hts : (q : Int) ≤ s.size := by omega
    have hxs : (x : Int) ≤ s.size := by omega
    obtain ⟨kv, hOf, hkv⟩ := of33 hx
    have HOf := hid hOf
    have HS := hid (upP_snoc s pre x)
    have HLen := hid hlen
    have HGc := hid hgc
    have HI := hid hI
    replace kx : Blk W Bx 96 #[.int .i64 x, .int .i64 (wdN s x), .int .i32 (rnN s x), .bool (isBr s x)] := kx
    have HX := hid kx
    have hsW := hI.lt
    have hchN : Hid (letB s x = false → (s.extract x q).data.toList = chunkU s x) := hid (fun h => by rw [← hq]; exact chunk_not h)
    have hchL : Hid (letB s x = true → (Utf8.encode (upI (rnN s x))).data.toList = chunkU s x) := hid chunk_let
    have hcl : Hid (GoodC (rnN s x)) := HGc
    have c0 := kx.cell (k := 0) (v := .int .i64 x) rfl
    have c1 := kx.cell (k := 1) (v := .int .i64 (wdN s x)) rfl
    have c2 := kx.cell (k := 2) (v := .int .i32 (rnN s x)) rfl
    have c3 := kx.cell (k := 3) (v := .bool (isBr s x)) rfl
    have hes : (s.extract x q).size ≤ 100000 := by rw [ByteArray.size_extract]; omega
    clear hOf hl hr hnext hxm hgc hI kx hlen hwd
    generalize hr' : rnN s x = r at *
    generalize hw' : wdN s x = wd at *
    generalize hb' : isBr s x = br at *
    have HR := hid hr'
    clear hr' hw' hb'
    subst hTm hD
    dsimp only
    simp only [List.setIfInBounds_toArray, List.set_cons_succ, List.set_cons_zero]
    gi_wp2_with fail
    refine ⟨trivial, ?_⟩
    with_reducible refine (CallsIn.inRound l (callsIn_wide.2 (HOf.out _))).mono ?_
    rintro e W1 ⟨rfl, hb1⟩
    obtain ⟨hI1, hK1⟩ := HI.out.step hb1
    have kx1 := HX.out.low hb1
    have d0 := kx1.cell (k := 0) (v := .int .i64 x) rfl
    have d2 := kx1.cell (k := 2) (v := .int .i32 r) rfl
    have e0 := hI1.k0.cell (k := 0) rfl
    have e1 := hI1.k1.cell (k := 0) rfl
    obtain ⟨lb, hlb⟩ := hI1.k3
    have e3 := hlb.cell (k := 0) rfl
    have f3 := hlb.froz 0
    have hI1s := hI1.lt
    have I1 := hid hI1
    have KK1 := hid hK1
    clear hI1 hK1 kx1 hlb hb1 c0 c1 c2 c3
    have fin : Hid (∀ (W2 : World) (v : Bool) (t : ByteArray), t.data.toList = chunkU s x → BuilderAtF 91 5 w.heap.size (w.heap.size + 2) (.pointer (some ⟨w.heap.size + 2, 0, none⟩)) (byteCells (upP s pre) ++ strCells t) W2 → ∀ W0, TS w W0 s (upP s pre) → BK w.heap.size W W0 → Below w.heap.size W0 W2 → OthersKept 5 (some (w.heap.size + 2)) W0 W2 →
        (TS w W2 s (upP s (pre ++ [x])) ∧ BK w.heap.size W W2) ∧ (TS w (W2.setCell ⟨w.heap.size + 3, 0, none⟩ (.bool v)) s (upP s (pre ++ [x])) ∧ BK w.heap.size W (W2.setCell ⟨w.heap.size + 3, 0, none⟩ (.bool v)))) := hid (fun W2 v t ht hB W0 h0 k0 hb hk => by
      obtain ⟨g1, g2⟩ := h0.wrote (p := .pointer none) hB hb hk
      rw [ht, ← HS.out] at g1
      obtain ⟨g3, g4⟩ := g1.led v
      exact ⟨⟨g1, k0.trans g2⟩, g3, k0.trans (g2.trans g4)⟩)
    by_cases h1 : kv = 1
    · have hlt : letB s x = true := by rw [hkv]; exact decide_eq_true h1
      subst h1
      have HP := hid (letP (s := s) (p := x) (by rw [HR.out]; exact hcl.out) hlt)
      have hne : (r : Int) ≠ 223 := by have := hcl.out.2.2; omega
      have HE : Hid (∀ (b : Bool) (t : ByteArray) (X : World), Calls Tryz.prog 21 #[.int .i32 r, .bool b, .string t] X fun e w' => e = .returned (.string (Utf8.encode (upI r))) ∧ Below X.heap.size X w') :=
        hid (fun b t X => (up21 r (by omega) (by omega) hne b t X).mono fun _ _ h => ⟨h.1, h.2 ▸ Below.refl _ _⟩)
      have hel := enc_le (upI r)
      have HCh := hid (hchL.out hlt)
      clear HP hne hlt
      generalize Utf8.encode (upI r) = E at *
      gi_wp2_with fail
      refine ext_tailInB 8 (by kernel_rfl) (WideF.round _ _ _) (by kernel_rfl) (by kernel_rfl) ?_
      simp only [List.take_succ_cons, List.take_zero, List.drop_succ_cons, List.drop_zero]
      repeat (refine bq_step (fun K hK => ?_); go_simp; refine ⟨hK _ ?_⟩; clear hK K)
      refine bq_step (fun K hK => ?_)
      go_simp
      refine ⟨?_⟩
      apply Exists.intro
      refine ⟨fun xx => ?_, hK _ ?_⟩
      · with_reducible exact Ext.call (HE.out _ _ _)
      clear hK K
      refine bq_nil ?_
      rintro _ ⟨xx, rfl⟩
      obtain ⟨hI2, hK2⟩ := I1.out.step xx.h
      have hs2 := hI2.lt
      have HW := hid (wstr34 w.heap.size (w.heap.size + 2) (byteCells (upP s pre)) E xx.w hI2.bu (by rw [byteCells_length]; have := HLen.out; omega) (by omega))
      have I2 := hid hI2
      have KK2 := hid (KK1.out.trans hK2)
      clear hI2 hK2
      gi_wp2_with fail
      refine ⟨trivial, ?_⟩
      with_reducible refine (CallsIn.inRound l (callsIn_wide.2 HW.out)).mono ?_
      rintro e W2 ⟨rfl, hB2, hb2, hk2⟩
      obtain ⟨⟨g1, g2⟩, g3, g4⟩ := fin.out W2 true _ HCh.out hB2 xx.w I2.out KK2.out hb2 hk2
      obtain ⟨lb2, hlb2⟩ := g1.k3
      have e3' := hlb2.cell (k := 0) rfl
      have f3' := hlb2.froz 0
      have hl2 := g1.lt
      have G1 := hid g3
      have G2 := hid g4
      clear g1 g2 g3 g4 hB2 hb2 hk2 fin hlb2 e3 f3
      gi_wp2_with fail
      exact ⟨G2.out.kf, G2.out.kc, G1.out⟩
    · have hlf : letB s x = false := by rw [hkv]; exact decide_eq_false h1
      have t1 := n1 kv 1 h1
      have HW := hid (wstr34 w.heap.size (w.heap.size + 2) (byteCells (upP s pre)) (s.extract x q) W1 I1.out.bu (by rw [byteCells_length]; have := HLen.out; omega) (by omega))
      by_cases h2 : kv = 2
      · subst h2
        gi_wp2_with fail
        refine ⟨trivial, ?_⟩
        with_reducible refine (CallsIn.inRound l (callsIn_wide.2 HW.out)).mono ?_
        rintro e W2 ⟨rfl, hB2, hb2, hk2⟩
        obtain ⟨⟨g1, g2⟩, _⟩ := fin.out W2 true _ (hchN.out hlf) hB2 W1 I1.out KK1.out hb2 hk2
        have G1 := hid g1
        have G2 := hid g2
        clear g1 g2 hB2 hb2 hk2 hlf fin
        gi_wp2_with fail
        exact ⟨G2.out.kf, G2.out.kc, G1.out⟩
      · have t2 := n1 kv 2 h2
        have t3 : (kv != 2) = true := bne_true_of h2
        gi_wp2_with fail
        refine ⟨trivial, ?_⟩
        with_reducible refine (CallsIn.inRound l (callsIn_wide.2 HW.out)).mono ?_
        rintro e W2 ⟨rfl, hB2, hb2, hk2⟩
        obtain ⟨⟨g1, g2⟩, g3, g4⟩ := fin.out W2 false _ (hchN.out hlf) hB2 W1 I1.out KK1.out hb2 hk2
        obtain ⟨lb2, hlb2⟩ := g1.k3
        have e3' := hlb2.cell (k := 0) rfl
        have f3' := hlb2.froz 0
        have hl2 := g1.lt
        have G1 := hid g3
        have G2 := hid g4
        clear g1 g2 g3 g4 hB2 hb2 hk2 hlf fin hlb2 e3 f3
        gi_wp2_with fail
        exact ⟨G2.out.kf, G2.out.kc, G1.out⟩
  case done =>
    rintro Dk W hDk hI hK
    have HS := hid (str35 w.heap.size (w.heap.size + 2) (upP s (posL s 0)) W hI.bu (by have := hI.lt; omega))
    obtain ⟨c, hc⟩ := bf_blk hI.bu
    have hlt := hI.lt
    have HI := hid hI
    have hK0 := hid hK
    subst hTm hD
    clear hI hK
    go_wp2_with fail
    with_reducible refine Calls.mono HS.out ?_
    rintro e W2 ⟨rfl, hB2, hb2, hk2⟩
    have hK2 : W2.heap[Dk]? = some (.deferred (some [])) := hk2 Dk _ hK0.out (fun e => by
      have e := Option.some.inj e
      subst e
      have := hK0.out
      rw [show W.heap[_]? = _ from hc] at this
      cases this) (fun _ _ e => by cases e)
    have HK2 := hid hK2
    have HB2 := hid hb2
    clear hK2 hB2 hb2 hk2 hc
    go_wp2_with fail
    refine ⟨by simp, .inl ⟨_, _, rfl, run_takeDeferred HK2.out, ?_⟩⟩
    have hFin : Below w.heap.size w (W2.putObj Dk (.deferred none)) := (HI.out.bel.trans HB2.out).trans (belowK_b (w := w4) (by omega) _ _ _ _ hDk HK2.out rfl rfl)
    exact ⟨_, results_tmp rfl _ _ _, ⟨rfl, hFin⟩⟩
  case stop =>
    rintro Dk c pre W hDk hpre h _
    exact h.elim
end Go.Proofs.YtieifhfgedoiaaaGreatDoor
/- RuleGreat: great letters sound as their small ones. Conditions: those of each theorem. -/
namespace Go.Proofs.YtieifhfgedoiaaaGreatDoor
open Go.RowKit Go.Lib
open Go.ChangeMaps
set_option linter.unusedVariables false
set_option linter.unusedSimpArgs false
attribute [local go_sem] ExtS.cell ExtS.froz upE_value upE_skip upE_enter Ext.cell Ext.froz
theorem upper12 (s : ByteArray) (hs : s.size ≤ 100000) (g : GoodF s 0) (w : World) :
  Calls Tryz.prog 12 #[.string s] w fun e w' => e = .returned (.string (upW s)) ∧ Below w.heap.size w w' := by
 have hT := hid (turn20 s hs g w)
 clear g
 generalize upW s = u at *
 go_enter Tryz.func12, Tryz.ntmps12
 go_wp2_with fail
 go_at_call 20
 with_reducible refine Calls.mono hT.out ?_
 rintro e w1 ⟨rfl, hb⟩
 have HB := hid hb
 clear hb hT
 go_wp2_with fail
 go_ret
 exact ⟨rfl, HB.out⟩
theorem empty_good : RsG Rs.empty := ⟨fun u hu => (by cases hu), fun n y hy => (by cases hy)⟩
theorem allP_map {l l' : List Snd} (h : l.map (·.ph) = l'.map (·.ph)) : allP l = allP l' := by
 unfold allP; rw [List.flatMap_def, List.flatMap_def, h]
set_option maxRecDepth 100000 in
set_option maxHeartbeats 8000000 in
theorem great3 (s t : ByteArray) (w : World) (m : Int) (hm : w.cell? ⟨0, 0, none⟩ = some (.int .i64 m)) :
  Calls Tryz.prog 3 #[.string s, .string t] w fun e w' => e = .returned (.bool true) ∧ Below w.heap.size w w' := by
 obtain ⟨i0, hi, hz0, hz1, hz2⟩ := info_parts info66b
 have h0 : 0 < w.heap.size := World.block_lt_of_cell? w _ hm
 have hW := hid (wakes11 w m hm)
 have hL := hid (fun W => long12 s W)
 have hR := hid (fun W (hb : Below w.heap.size w W) (hs : s.size ≤ 8000) => read13 s (by omega) W m (by rw [hb.cell (p := ⟨0, 0, none⟩) h0]; exact hm))
 clear hm
 go_enter Tryz.func3, Tryz.ntmps3
 go_wp2_with fail
 go_at_call 4
 with_reducible refine Calls.mono (hW.out) ?_
 rintro e w1 ⟨rfl, hb1⟩
 skip
 have hb1H := hid hb1
 clear hb1 hW
 by_cases hlong : 8000 < s.size
 ·have q1 : decide ((8000 : Int) < s.size) = true := decide_eq_true (by omega)
  have q2 : decide (8000 < s.size) = true := decide_eq_true hlong
  clear hR
  go_wp2_with (go_at_call 5; (with_reducible refine Calls.mono (hL.out _) ?_); rintro e w2 ⟨rfl, rfl⟩)
  go_ret
  exact ⟨rfl, hb1H.out⟩
 have q1 : decide ((8000 : Int) < s.size) = false := decide_eq_false (by omega)
 have q2 : decide (8000 < s.size) = false := decide_eq_false hlong
 have hR2 := hid (hR.out _ hb1H.out (by omega))
 clear hR
 by_cases hlt : 1000 < t.size
 ·have q3 : decide ((1000 : Int) < t.size) = true := decide_eq_true (by omega)
  have q4 : decide (1000 < t.size) = true := decide_eq_true hlt
  clear hR2
  go_wp2_with (go_at_call 5; (with_reducible refine Calls.mono (hL.out _) ?_); rintro e w2 ⟨rfl, rfl⟩)
  go_ret
  exact ⟨rfl, hb1H.out⟩
 have q3 : decide ((1000 : Int) < t.size) = false := decide_eq_false (by omega)
 have q4 : decide (1000 < t.size) = false := decide_eq_false hlt
 obtain ⟨o, ho⟩ : ∃ o, linesR Rs.empty 0 (linesB s) = o := ⟨_, rfl⟩
 rw [ho] at hR2
 have HO := hid ho
 clear ho
 go_wp2_with (go_at_call 5; (with_reducible refine Calls.mono (hL.out _) ?_); rintro e w2 ⟨rfl, rfl⟩)
 cases o with
 | bad er q =>
  go_at_call 6
  with_reducible refine Calls.mono (hR2.out) ?_
  rintro e w3 ⟨⟨c, rfl, hV1⟩, hb3⟩
  skip
  have hi31 : (Tryz.prog.info? 31).map (·.size) = some c.size := by rw [hV1.1]; kernel_rfl
  have hb3H := hid hb3
  clear hb3 hR2
  go_wp2_with (refine wpList_store_row rfl 31 _ _ rfl w3.heap.size c rfl rfl 31 Tryz.zeroCells31 (heap_alloc_new _ _) hi31 (by rw [hV1.1]; kernel_rfl) hV1.2 ?_)
  have hBR := hid (setRow_but (w3.alloc (.cells Tryz.zeroCells31 31)) w3.heap.size c)
  have hbA : Below w3.heap.size w3 (w3.alloc (.cells Tryz.zeroCells31 31)) := (Below.refl _ _).alloc (Nat.le_refl _) _
  have hB3 := hid (hbA.trans (hBR.out.below (fun k hk => by rw [List.mem_singleton] at hk; omega) hbA.size))
  go_ret
  exact ⟨rfl, bnext (bnext hb1H.out hb3H.out) hB3.out⟩
 | ok y =>
  have gy := hid (linesR_good HO.out empty_good)
  go_at_call 6
  with_reducible refine Calls.mono (hR2.out) ?_
  rintro e w3 ⟨⟨X, c, rfl, hP, hV, hn⟩, hb3⟩
  skip
  have hV1 := hV.one
  have hi31 : (Tryz.prog.info? 31).map (·.size) = some c.size := by rw [hV1.1]; kernel_rfl
  have hb3H := hid hb3
  have hPH := hid hP
  have hVH := hid hV
  clear hb3 hR2 hP hV
  go_wp2_with (first | refine wpList_store_row rfl 31 _ _ rfl w3.heap.size c rfl rfl 31 Tryz.zeroCells31 (heap_alloc_new _ _) hi31 (by rw [hV1.1]; kernel_rfl) hV1.2 ?_)
  have hBR := hid (setRow_but (w3.alloc (.cells Tryz.zeroCells31 31)) w3.heap.size c)
  have hk4 := hid (setRow_heap _ w3.heap.size Tryz.zeroCells31 c 31 _ (heap_alloc_new w3 (.cells Tryz.zeroCells31 31)))
  have hbA : Below w3.heap.size w3 (w3.alloc (.cells Tryz.zeroCells31 31)) := (Below.refl _ _).alloc (Nat.le_refl _) _
  have hB3 := hid (hbA.trans (hBR.out.below (fun k hk => by rw [List.mem_singleton] at hk; omega) hbA.size))
  have hb4 := hid (bnext (bnext hb1H.out hb3H.out) hB3.out)
  have hP4 := hid (hPH.out.low hB3.out)
  have hV4 := hid (hVH.out.low hB3.out)
  clear hbA hBR hB3 hb3H hPH hVH hb1H
  have hsz4 : ((w3.alloc (.cells Tryz.zeroCells31 31)).setRow w3.heap.size c).heap.size = w3.heap.size + 1 := by simp
  generalize (w3.alloc (.cells Tryz.zeroCells31 31)).setRow w3.heap.size c = W4 at *
  generalize w3.heap.size = T at *
  have hts : t.size ≤ 1000 := by omega
  clear hk4 hV4
  go_wp2_with fail
  go_loopw [] (fun wr => ∃ (pos : Nat) (ps : List Nat), Hid (posL t 0 = ps ++ posL t pos) ∧ Hid (∀ q ∈ ps, GoodC (rnN t q)) ∧ pos ≤ t.size ∧ Hid (wr.heap[(T + 1)]? = some (.stringIter t pos)) ∧ Hid (Below (T + 1) W4 wr)) (fun wr => t.size - wr.iterPos (T + 1))
  case atStart => exact ⟨0, [], hid rfl, hid (fun q hq => by cases hq), Nat.zero_le _, by rw [← hsz4]; exact hid (heap_alloc_new W4 _), by rw [← hsz4]; exact hid ((Below.refl _ _).alloc (Nat.le_refl _) _)⟩
  case round =>
   obtain ⟨pos, ps, hL, HQ, hps, hit, HBw⟩ := hrel
   have hpos0 := hid (iterPos_of hit.out)
   by_cases hp : pos < t.size
   ·have hnx : ∀ ty, (Instr.next (.pointer (some ⟨(T + 1), 0, none⟩)) true ty).run Tryz.prog wr = _ := fun ty => Lib.run_next_any_at wr (T + 1) t pos ty hit.out hp
    change ∀ ty, (Instr.next (.pointer (some ⟨(T + 1), 0, none⟩)) true ty).run Tryz.prog wr = .ok (.tuple #[.bool true, .int .i64 pos, .int .i32 (rnN t pos)]) (wr.iterAt (T + 1) t (pos + wdN t pos)) at hnx
    have hwd := wdN_pos hp
    have hrl := rn_bd hp
    have hit1 := hid (iterAt_heap wr (T + 1) t pos (pos + wdN t pos) hit.out)
    have HBW := hid (Lib.below_iterAt HBw.out (k := (T + 1)) (Nat.le_refl _) t (pos + wdN t pos))
    have HB1 := hid (bnext hb4.out (by rw [hsz4]; exact HBW.out))
    have hL2 : Hid (posL t 0 = (ps ++ [pos]) ++ posL t (pos + wdN t pos)) := by rw [hL.out, posL_more hp, List.append_assoc]; exact hid rfl
    have hmeas : Hid (1 ≤ wdN t pos ∧ pos + wdN t pos ≤ t.size ∧ pos < t.size) := hid ⟨hwd.1, hwd.2.2, hp⟩
    obtain ⟨W1, hW1⟩ : ∃ W1, wr.iterAt (T + 1) t (pos + wdN t pos) = W1 := ⟨_, rfl⟩
    rw [hW1] at hnx hit1 HBW HB1
    clear hW1 hwd hL hit HBw hP4 hb4 hp
    generalize hr' : rnN t pos = r at *
    have HR := hid hr'
    clear hr'
    generalize wdN t pos = wd at *
    have hGr := hid (fun W => great71 (r : Int) (by omega) (by omega) W)
    have hSm := hid (fun W => small105 (r : Int) (by omega) (by omega) W)
    have hUp := hid (fun W => upper10 (r : Int) (by omega) (by omega) W)
    have hui := upI_in (r : Int) (by omega) (by omega)
    have hLo := hid (fun W => lower54 (upI (r : Int)) hui.1 hui.2 W)
    clear hui
    obtain ⟨gB, hgB⟩ : ∃ gB, greatB (r : Int) = gB := ⟨_, rfl⟩
    rw [hgB] at hGr
    have HgB := hid hgB
    clear hgB
    obtain ⟨sB, hsB⟩ : ∃ sB, smallB (r : Int) = sB := ⟨_, rfl⟩
    rw [hsB] at hSm
    have HsB := hid hsB
    clear hsB
    obtain ⟨u, hu⟩ : ∃ u, upI (r : Int) = u := ⟨_, rfl⟩
    rw [hu] at hUp hLo
    have HU := hid hu
    clear hu
    obtain ⟨lo, hlo⟩ : ∃ lo, lowI u = lo := ⟨_, rfl⟩
    rw [hlo] at hLo
    have HLo := hid hlo
    clear hlo
    cases gB
    ·cases sB
     ·have h223 : (r : Int) ≠ 223 := by
       intro e
       have := HsB.out
       rw [e] at this
       revert this
       decide
      have t3 : ((r : Int) == 223) = false := n1 _ _ h223
      have hgd : Hid (GoodC r) := hid ⟨HgB.out, fun h => (by rw [HsB.out] at h; cases h), by omega⟩
      go_wp2_with (first | (go_at_call 7; (with_reducible refine Calls.mono (hGr.out _) ?_); rintro e wz ⟨rfl, rfl⟩) | (go_at_call 8; (with_reducible refine Calls.mono (hSm.out _) ?_); rintro e wz ⟨rfl, rfl⟩) | (go_at_call 10; (with_reducible refine Calls.mono (hUp.out _) ?_); rintro e wz ⟨rfl, rfl⟩) | (go_at_call 9; (with_reducible refine Calls.mono (hLo.out _) ?_); rintro e wz ⟨rfl, rfl⟩))
      go_roundw
      case rel => exact ⟨pos + wd, ps ++ [pos], hL2, hid (fun q hq => by rcases List.mem_append.1 hq with h | h; exact HQ.out q h; rw [List.mem_singleton] at h; subst h; rw [HR.out]; exact hgd.out), hmeas.out.2.1, hit1, HBW⟩
      case measure =>
       have h1 := iterPos_of hit1.out
       have h2 := hpos0.out
       have h3 := hmeas.out
       omega
     ·by_cases h1 : lo = (r : Int)
      ·subst h1
       have t1 : ((r : Int) != (r : Int)) = false := by simp
       by_cases h2 : u = (r : Int)
       ·have t2 : (u == (r : Int)) = true := beq_iff_eq.2 h2
        clear h2
        go_wp2_with (first | (go_at_call 7; (with_reducible refine Calls.mono (hGr.out _) ?_); rintro e wz ⟨rfl, rfl⟩) | (go_at_call 8; (with_reducible refine Calls.mono (hSm.out _) ?_); rintro e wz ⟨rfl, rfl⟩) | (go_at_call 10; (with_reducible refine Calls.mono (hUp.out _) ?_); rintro e wz ⟨rfl, rfl⟩) | (go_at_call 9; (with_reducible refine Calls.mono (hLo.out _) ?_); rintro e wz ⟨rfl, rfl⟩))
        go_ret
        exact ⟨rfl, HB1.out⟩
       ·have t2 : (u == (r : Int)) = false := n1 _ _ h2
        by_cases h3 : (r : Int) = 223
        ·have t3 : ((r : Int) == 223) = true := beq_iff_eq.2 h3
         clear h3
         go_wp2_with (first | (go_at_call 7; (with_reducible refine Calls.mono (hGr.out _) ?_); rintro e wz ⟨rfl, rfl⟩) | (go_at_call 8; (with_reducible refine Calls.mono (hSm.out _) ?_); rintro e wz ⟨rfl, rfl⟩) | (go_at_call 10; (with_reducible refine Calls.mono (hUp.out _) ?_); rintro e wz ⟨rfl, rfl⟩) | (go_at_call 9; (with_reducible refine Calls.mono (hLo.out _) ?_); rintro e wz ⟨rfl, rfl⟩))
         go_ret
         exact ⟨rfl, HB1.out⟩
        ·have t3 : ((r : Int) == 223) = false := n1 _ _ h3
         have hgd : Hid (GoodC r) := hid ⟨HgB.out, fun _ => ⟨by rw [HU.out]; exact HLo.out, by rw [HU.out]; exact h2⟩, by omega⟩
         go_wp2_with (first | (go_at_call 7; (with_reducible refine Calls.mono (hGr.out _) ?_); rintro e wz ⟨rfl, rfl⟩) | (go_at_call 8; (with_reducible refine Calls.mono (hSm.out _) ?_); rintro e wz ⟨rfl, rfl⟩) | (go_at_call 10; (with_reducible refine Calls.mono (hUp.out _) ?_); rintro e wz ⟨rfl, rfl⟩) | (go_at_call 9; (with_reducible refine Calls.mono (hLo.out _) ?_); rintro e wz ⟨rfl, rfl⟩))
         go_roundw
         case rel => exact ⟨pos + wd, ps ++ [pos], hL2, hid (fun q hq => by rcases List.mem_append.1 hq with h | h; exact HQ.out q h; rw [List.mem_singleton] at h; subst h; rw [HR.out]; exact hgd.out), hmeas.out.2.1, hit1, HBW⟩
         case measure =>
          have h1 := iterPos_of hit1.out
          have h2 := hpos0.out
          have h3 := hmeas.out
          omega
      ·have t1 : (lo != (r : Int)) = true := bne_true_of h1
       go_wp2_with (first | (go_at_call 7; (with_reducible refine Calls.mono (hGr.out _) ?_); rintro e wz ⟨rfl, rfl⟩) | (go_at_call 8; (with_reducible refine Calls.mono (hSm.out _) ?_); rintro e wz ⟨rfl, rfl⟩) | (go_at_call 10; (with_reducible refine Calls.mono (hUp.out _) ?_); rintro e wz ⟨rfl, rfl⟩) | (go_at_call 9; (with_reducible refine Calls.mono (hLo.out _) ?_); rintro e wz ⟨rfl, rfl⟩))
       go_ret
       exact ⟨rfl, HB1.out⟩
    ·cases sB
     ·go_wp2_with (first | (go_at_call 7; (with_reducible refine Calls.mono (hGr.out _) ?_); rintro e wz ⟨rfl, rfl⟩) | (go_at_call 8; (with_reducible refine Calls.mono (hSm.out _) ?_); rintro e wz ⟨rfl, rfl⟩) | (go_at_call 10; (with_reducible refine Calls.mono (hUp.out _) ?_); rintro e wz ⟨rfl, rfl⟩) | (go_at_call 9; (with_reducible refine Calls.mono (hLo.out _) ?_); rintro e wz ⟨rfl, rfl⟩))
      go_ret
      exact ⟨rfl, HB1.out⟩
     ·go_wp2_with (first | (go_at_call 7; (with_reducible refine Calls.mono (hGr.out _) ?_); rintro e wz ⟨rfl, rfl⟩) | (go_at_call 8; (with_reducible refine Calls.mono (hSm.out _) ?_); rintro e wz ⟨rfl, rfl⟩) | (go_at_call 10; (with_reducible refine Calls.mono (hUp.out _) ?_); rintro e wz ⟨rfl, rfl⟩) | (go_at_call 9; (with_reducible refine Calls.mono (hLo.out _) ?_); rintro e wz ⟨rfl, rfl⟩))
      go_ret
      exact ⟨rfl, HB1.out⟩
   ·obtain rfl : pos = t.size := by omega
    have hnx : ∀ ty, (Instr.next (.pointer (some ⟨(T + 1), 0, none⟩)) true ty).run Tryz.prog wr = _ := fun ty => Lib.run_next_end_at wr (T + 1) t t.size ty hit.out hp
    have HGF : Hid (GoodF t 0) := hid (by unfold GoodF; rw [hL.out, posL_end hp, List.append_nil]; exact HQ.out)
    have hP7 := hid (hP4.out.low (by rw [hsz4]; exact HBw.out))
    have HB7 := hid (bnext hb4.out (by rw [hsz4]; exact HBw.out))
    clear hL HQ hit hpos0 hP4 hb4 HBw
    have hS := hid (phones24 hP7.out gy.out hn t (by omega))
    have hUT := hid (fun W => upper12 t (by omega) HGF.out W)
    have husz := upW_size HGF.out
    have hS2 := hid (fun W (hb : Below wr.heap.size wr W) => phones24 (hP7.out.low hb) gy.out hn (upW t) (by omega))
    have HSU := hid (sounds_up gy.out HGF.out)
    clear hP7 hp
    generalize upW t = T2 at *
    go_wp2_with fail
    go_at_call 11
    with_reducible refine Calls.mono (hS.out) ?_
    rintro e wC ⟨hpC, hbC⟩
    skip
    have HBC := hid hbC
    have HB10 := hid (bnext HB7.out hbC)
    rcases HSU.out with ⟨s1, s2⟩ | ⟨l, l', s1, s2, s3⟩
    ·rw [s1] at hpC
     rw [s2] at hS2
     have h6 : e = .returned (.tuple #[.slice none 0 0, .int .i64 3]) := hpC
     subst h6
     clear hpC hbC hS HB7 s1 s2 HSU
     go_wp2_with fail
     go_at_call 12
     with_reducible refine Calls.mono (hUT.out _) ?_
     rintro e wU ⟨rfl, hbU⟩
     have HBU := hid (bnext HBC.out hbU)
     have HB12 := hid (bnext HB10.out hbU)
     clear hbU HBC HB10
     go_wp2_with fail
     go_at_call 11
     with_reducible refine Calls.mono (hS2.out _ HBU.out) ?_
     rintro e wD ⟨hpD, hbD⟩
     skip
     have h7 : e = .returned (.tuple #[.slice none 0 0, .int .i64 3]) := hpD
     subst h7
     have HB11 := hid (bnext HB12.out hbD)
     have hA := hid (same26q (w := wD) (p1 := none) (p2 := none) (c1 := 0) (c2 := 0) [] (ph_nil _ _) (ph_nil _ _) (by simp))
     clear hpD hbD hS2 HB12 HBU
     go_wp2_with fail
     go_at_call 13
     with_reducible refine Calls.mono (hA.out) ?_
     rintro e wE ⟨rfl, m1, rfl⟩
     skip
     go_wp2_with fail
     go_ret
     exact ⟨rfl, bel_dr HB11.out m1⟩
    ·rw [s1] at hpC
     rw [s2] at hS2
     obtain ⟨vl, he, hPc⟩ := (show ∃ v, e = .returned (.tuple #[v, .int .i64 0]) ∧ wC.ownsRow wr.heap.size 60 3 v (allP l).length (flatE Ph.cells (allP l)) from hpC)
     subst he
     obtain ⟨pp, cp, rfl⟩ := own_shape hPc
     have HPC := hid (own_phR hPc)
     have hmany : (allP l).length ≤ 100000000 := by have := sounds_many s1; rw [allP_len]; omega
     have S3 := hid (allP_map s3)
     clear hpC hbC hS HB7 hPc HSU
     go_wp2_with fail
     go_at_call 12
     with_reducible refine Calls.mono (hUT.out _) ?_
     rintro e wU ⟨rfl, hbU⟩
     have HBU := hid (bnext HBC.out hbU)
     have HB12 := hid (bnext HB10.out hbU)
     have HPU := hid (HPC.out.low hbU)
     clear hbU HBC HB10 HPC
     go_wp2_with fail
     go_at_call 11
     with_reducible refine Calls.mono (hS2.out _ HBU.out) ?_
     rintro e wD ⟨hpD, hbD⟩
     skip
     obtain ⟨v2, he2, hPd⟩ := (show ∃ v, e = .returned (.tuple #[v, .int .i64 0]) ∧ wD.ownsRow wU.heap.size 60 3 v (allP l').length (flatE Ph.cells (allP l')) from hpD)
     subst he2
     rw [← S3.out] at hPd
     obtain ⟨p2, c2, rfl⟩ := own_shape hPd
     have HB11 := hid (bnext HB12.out hbD)
     have hA := hid (same26q (w := wD) (p1 := pp) (p2 := p2) (c1 := cp) (c2 := c2) (allP l) (HPU.out.low hbD) (own_phR hPd) hmany)
     clear hpD hbD hS2 HB12 HBU hPd HPU
     go_wp2_with fail
     go_at_call 13
     with_reducible refine Calls.mono (hA.out) ?_
     rintro e wE ⟨rfl, m1, rfl⟩
     skip
     go_wp2_with fail
     go_ret
     exact ⟨rfl, bel_dr HB11.out m1⟩
end Go.Proofs.YtieifhfgedoiaaaGreatDoor
