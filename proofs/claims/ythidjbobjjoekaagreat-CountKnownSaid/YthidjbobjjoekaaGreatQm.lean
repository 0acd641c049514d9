/- A range over a function whose iterator yields the members of a known list in their order, out of memory of its own: a round that goes on keeps what lies below a number, and whatever the iterator has laid since its call. Conditions: those of the theorem. -/
import Derived.RangeFuncNested
import Derived.RangeFuncBound
import Derived.RangeFuncCalls
import Derived.RangeFuncLeaves
import Derived.RangeFuncFrom
import Derived.RangeFuncWrites
import Derived.Shelf.Abstract
import Derived.Shelf.RegionOpen
namespace Go.Proofs.YthidjbobjjoekaaGreat
open Go Go.RowKit Go.Shelf
set_option linter.unusedVariables false
/-- what lies below n₀, and what lies at n₁ and beyond, is kept -/
structure KB (n₀ n₁ : Nat) (W W' : World) : Prop where
  low : Below n₀ W W'
  up : ∀ k, n₁ ≤ k → k < W.heap.size → W'.heap[k]? = W.heap[k]?
theorem KB.trans {n₀ n₁ : Nat} {a b c : World} (h : KB n₀ n₁ a b) (k : KB n₀ n₁ b c) : KB n₀ n₁ a c :=
  ⟨h.low.trans k.low, fun i hi hl => (k.up i hi (Nat.lt_of_lt_of_le hl h.low.size)).trans (h.up i hi hl)⟩
theorem KB.refl (n₀ n₁ : Nat) (a : World) : KB n₀ n₁ a a := ⟨Below.refl _ _, fun _ _ _ => rfl⟩
/-- the iterator yields `all`, in order; each round is asked at the next member alone; a round that goes on keeps what lies below n₀, and what the iterator has laid -/
def SeqOwn {α : Type} (F : Fence) (n : Nat) (P : Program) (g : Nat) (lb : Array Value) (encs : α → Array Value) (n₀ : Nat) (all : List α) (w : World) : Prop :=
  ∀ (l : Nat) (J Jx : List α → World → Prop) (W : World), Below w.heap.size w W → AbidesFrom W.heap.size J →
    (∀ pre x W1, J pre W1 → pre ++ [x] <+: all → YieldAt F (n - 1) P l (encs x) W1 fun e W' =>
      (e = .returned (.bool true) ∧ J (pre ++ [x]) W' ∧ KB n₀ W.heap.size W1 W') ∨ (e = .returned (.bool false) ∧ Jx (pre ++ [x]) W')) →
    J [] W →
    CallsIn F n P g (#[.func (.yield l) #[] #[]] ++ lb) W fun e W' => (∃ v, e = .returned v) ∧ (J all W' ∨ (∃ pre, pre <+: all ∧ Jx pre W'))
variable {F : Fence} {n : Nat} {P : Program}
theorem rangeFunc_own {α : Type} {g : Operand} {ps : Array Tmp} {assign body : Code} {Q : Exit → Act → World → Prop} {a : Act} {w : World}
    (hro : F.round = none) (h1 : 1 ≤ n) {gf : Nat} {lb : Array Value} (hg : a.eval g = .func (.func gf) #[] lb) (hFg : F.fn gf) (eg : ∀ args w, (callFunc gf args).run P w = .ok (.enter gf args) w)
    {encs : α → Array Value} {n₀ : Nat} {all : List α} {w0 : World} (hseq : SeqOwn F (n - 1) P gf lb encs n₀ all w0) (hn₀ : n₀ ≤ w.heap.size) (hb0 : Below w0.heap.size w0 w) (hps : ∀ x, (encs x).size = ps.size)
    (I : List α → World → Prop) (Ix : Code → List α → World → Prop) (hI : OwnFrom w.heap.size I) (hIx : ∀ c, OwnFrom w.heap.size (Ix c)) (h0 : I [] w) (Ax : α → Act → World → Prop) (hAx : ∀ x a', OwnFrom w.heap.size (fun (_ : Unit) W => Ax x a' W))
    (hassign : ∀ (l : Nat) (pre : List α) (x : α) (W : World) (K : Act → World → Prop), I pre W → pre ++ [x] <+: all → (∀ a' W', KeepsFrom w.heap.size W W' → KB n₀ (w.heap.size + 2) W W' → I pre W' → Ax x a' W' → K a' W') →
      assign.wpIn (F.inRound l) (n - 1 - 1) P (Exit.then K (fun _ _ _ => False)) { tmps := (ps.zip (encs x)).foldl (fun t (p, v) => t.setIfInBounds p v) a.tmps, defers := [] } W)
    (hbody : ∀ (l : Nat) (pre : List α) (x : α) (a' : Act) (W : World), w.heap.size ≤ l → (∃ r, W.heap[l]? = some (.loop r)) → pre ++ [x] <+: all → I pre W → Ax x a' W → body.wpIn (F.inRound l) (n - 1 - 1) P (ownPostG w.heap.size (KB n₀ (w.heap.size + 2)) I Ix (pre ++ [x]) W) a' W)
    (hdone : ∀ (D : Nat) (W : World), w.heap.size ≤ D → I all W → W.heap[D]? = some (.deferred (some [])) → Q .normal { a with defers := { target := .collected D, args := #[] } :: a.defers } W)
    (hstop : ∀ (D : Nat) (c : Code) (pre : List α) (W : World), w.heap.size ≤ D → pre <+: all → Ix c pre W → W.heap[D]? = some (.deferred (some [])) → c.wpIn F n P Q { a with defers := { target := .collected D, args := #[] } :: a.defers } W) :
    (Code.rangeFunc g ps assign body).wpIn F n P Q a w := by
  refine wpIn_rangeFunc ?_
  intro fn hfn
  rw [hro]
  -- the loop's record, in each of its states
  obtain ⟨R, hR⟩ : ∃ R : LoopState → Option Code → Loop, R = fun st pe => { state := st, pending := pe, fn, tmps := a.tmps, params := ps, assign, body, defers := w.heap.size } := ⟨_, rfl⟩
  obtain ⟨V, hV⟩ : ∃ V, (w.alloc (.deferred (some []))).alloc (.loop (R .ready none)) = V := ⟨_, rfl⟩
  -- the two blocks of the loop's own: the deferred calls' at w.heap.size, the record's behind it
  have book : V.heap[w.heap.size + 1]? = some (.loop (R .ready none)) ∧ V.heap[w.heap.size]? = some (.deferred (some [])) := by
    rw [← hV]
    refine ⟨?_, (Below.heap_alloc _ _ _ (by simp)).trans (World.alloc_heap_new w _)⟩
    have := World.alloc_heap_new (w.alloc (.deferred (some []))) (.loop (R .ready none))
    rwa [World.size_alloc] at this
  have low : Below w0.heap.size w0 V := by
    rw [← hV]; exact hb0.trans ((((Below.refl _ w).alloc (Nat.le_refl _) _).alloc (by simp) _).mono hb0.size)
  have hVs : w.heap.size + 2 = V.heap.size := by rw [← hV]; simp
  refine ⟨w.heap.size + 1, [{ target := .collected w.heap.size, args := #[] }], V, { target := .fn (.func gf) lb, args := #[.func (.yield (w.heap.size + 1)) #[] #[]] }, V, gf,
    #[.func (.yield (w.heap.size + 1)) #[] #[]] ++ lb, V, ?_, ?_, ?_, ?_, fun _ => h1, ?_⟩
  · rw [← hV, hR]; exact run_enterLoop_outer _ _ _ _ _
  · simp only [resolve, hg]
    simp [go_sem]
  · intro f' hf'
    simp [Target.leads] at hf'
    subst hf'
    exact hFg
  · simp [invoke, go_sem, eg]
  have walkrow : ∀ {A : World} {row : Option Nat}, (∀ r, row = some r → V.heap.size ≤ r ∧ ∃ o : Obj, A.heap[r]? = some o ∧ o.isWalk = true) → ∀ r, row = some r → w.heap.size ≤ r ∧ ∃ o : Obj, A.heap[r]? = some o ∧ o.isCells = false := by
    intro A row hr r e
    obtain ⟨hB, o, ho, hw⟩ := hr r e
    exact ⟨by omega, o, ho, Obj.not_cells_of_walk hw⟩
  refine (hseq (w.heap.size + 1)
    (fun pre W => I pre W ∧ W.heap[w.heap.size + 1]? = some (.loop (R .ready none)) ∧ W.heap[w.heap.size]? = some (.deferred (some [])))
    (fun pre W => ∃ c, Ix c pre W ∧ W.heap[w.heap.size + 1]? = some (.loop (R .done (some c))) ∧ W.heap[w.heap.size]? = some (.deferred (some [])))
    V low
    (fun s A B row hs hg' hr => ⟨hI s A B row hs.1 hg' (walkrow hr), (grownBy_keeps hg' (fun r e => (hr r e).2) hs.2.1 rfl).trans hs.2.1, (grownBy_keeps hg' (fun r e => (hr r e).2) hs.2.2 rfl).trans hs.2.2⟩)
    ?_ ⟨by rw [← hV]; exact hI.alloc _ (hI.alloc _ h0), book⟩).mono ?_
  · rintro pre x W ⟨hi, hl, hk⟩ hnext
    have hy := run_yield (P := P) (args := encs x) hl (by rw [hR]; exact hps x)
    rw [hR] at hy
    refine ⟨fn, _, assign, body, hy, roundIn_of_wpIn hfn (hassign _ pre x W _ hi hnext ?_)⟩
    clear hy
    intro a' X hkX hlX hiX hax
    have hl' := hkX.same _ _ (by omega) hl rfl
    have hk' := hkX.same _ _ (Nat.le_refl _) hk rfl
    have hlt : w.heap.size + 1 < X.heap.size := (Array.getElem?_eq_some_iff.1 hl').1
    refine ⟨_, run_beginRound hl' (by rw [hR]), ?_⟩
    obtain ⟨Y, hY⟩ : ∃ Y, X.putObj (w.heap.size + 1) (.loop { R .ready none with state := .busy }) = Y := ⟨_, rfl⟩
    have hlY : Y.heap[w.heap.size + 1]? = some (.loop { R .ready none with state := .busy }) := by rw [← hY]; exact World.putObj_heap_same hlt
    have hkY : Y.heap[w.heap.size]? = some (.deferred (some [])) := by rw [← hY]; exact (World.putObj_heap_other (by omega)).trans hk'
    have hXY : KB n₀ (w.heap.size + 2) X Y := by rw [← hY]; exact ⟨belowK_b hn₀ _ _ _ _ (by omega) hl' rfl rfl, fun k hk _ => World.putObj_heap_other (by omega)⟩
    have hiY : I pre Y := by rw [← hY]; exact hI.putObj _ hiX (by omega) hl' rfl
    have haY : Ax x a' Y := by rw [← hY]; exact (hAx x a').putObj (s := ()) _ hax (by omega) hl' rfl
    rw [hY]
    refine wpIn_mono (hbody _ pre x a' _ (by omega) ⟨_, hlY⟩ hnext hiY haY) ?_
    have fin : ∀ (jump : Option Code) (Z : World), KeepsFrom w.heap.size Y Z →
        (Instr.endRound (w.heap.size + 1) jump).run P Z = .ok (.bool jump.isNone) (Z.putObj (w.heap.size + 1) (.loop (R (if jump.isNone then .ready else .done) jump))) ∧
        Z.heap[w.heap.size + 1]? = some (.loop { R .ready none with state := .busy }) ∧
        (Z.putObj (w.heap.size + 1) (.loop (R (if jump.isNone then .ready else .done) jump))).heap[w.heap.size + 1]? = some (.loop (R (if jump.isNone then .ready else .done) jump)) ∧
        (Z.putObj (w.heap.size + 1) (.loop (R (if jump.isNone then .ready else .done) jump))).heap[w.heap.size]? = some (.deferred (some [])) := by
      intro jump Z hkZ
      have hlZ := hkZ.same _ _ (by omega) hlY rfl
      have he := run_endRound (P := P) jump hlZ
      rw [hR] at he ⊢
      exact ⟨he, by rw [hR] at hlZ; exact hlZ, World.putObj_heap_same (Array.getElem?_eq_some_iff.1 hlZ).1, (World.putObj_heap_other (by omega)).trans (hkZ.same _ _ (Nat.le_refl _) hkY rfl)⟩
    have out : ∀ (c : Code) (Z : World), KeepsFrom w.heap.size Y Z → Ix c (pre ++ [x]) Z → ∃ v Z', (Instr.endRound (w.heap.size + 1) (some c)).run P Z = .ok v Z' ∧ v = .bool false ∧ ∃ c, Ix c (pre ++ [x]) Z' ∧ Z'.heap[w.heap.size + 1]? = some (.loop (R .done (some c))) ∧ Z'.heap[w.heap.size]? = some (.deferred (some [])) := by
      intro c Z hkZ hiZ
      obtain ⟨f1, f2, f3, f4⟩ := fin (some c) Z hkZ
      exact ⟨_, _, f1, rfl, c, (hIx c).putObj _ hiZ (by omega) f2 rfl, f3, f4⟩
    rintro e a3 Z hp
    cases e with
    | normal =>
      obtain ⟨hkZ, hlowZ, hiZ⟩ := hp
      obtain ⟨f1, f2, f3, f4⟩ := fin none Z hkZ
      exact ⟨_, _, f1, .inl ⟨rfl, ⟨hI.putObj _ hiZ (by omega) f2 rfl, f3, f4⟩, by rw [← hVs]; exact hlX.trans ((hXY.trans hlowZ).trans ⟨belowK_b hn₀ _ _ _ _ (by omega) f2 rfl rfl, fun k hk _ => World.putObj_heap_other (by omega)⟩)⟩⟩
    | ret =>
      obtain ⟨v, Z', e1, rfl, e3⟩ := out .ret Z hp.1 hp.2
      exact ⟨_, _, e1, .inr ⟨rfl, e3⟩⟩
    | exit id =>
      obtain ⟨v, Z', e1, rfl, e3⟩ := out (.exit id) Z hp.1 hp.2
      exact ⟨_, _, e1, .inr ⟨rfl, e3⟩⟩
    | goto t =>
      obtain ⟨v, Z', e1, rfl, e3⟩ := out (.goto t) Z hp.1 hp.2
      exact ⟨_, _, e1, .inr ⟨rfl, e3⟩⟩
    | panic ch => exact hp.elim
    | outgrown => exact hp.elim
  · rintro e X ⟨⟨v, rfl⟩, (⟨hi, hl, hk⟩ | ⟨pre, hpre, c, hi, hl, hk⟩)⟩
    · have he := run_endLoop (P := P) hl (by rw [hR]; simp)
      rw [hR] at he
      exact ⟨none, _, he, hdone _ _ (Nat.le_refl _) (hI.putObj _ hi (by omega) hl rfl) ((World.putObj_heap_other (by omega)).trans hk)⟩
    · have he := run_endLoop (P := P) hl (by rw [hR]; simp)
      rw [hR] at he
      exact ⟨some c, _, he, hstop _ c pre _ (Nat.le_refl _) hpre ((hIx c).putObj _ hi (by omega) hl rfl) ((World.putObj_heap_other (by omega)).trans hk)⟩
end Go.Proofs.YthidjbobjjoekaaGreat
