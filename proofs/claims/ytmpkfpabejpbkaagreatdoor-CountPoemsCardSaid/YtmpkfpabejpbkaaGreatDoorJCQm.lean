/- A range over a function whose iterator yields the members of a known list in their order, out of memory of its own: a round that goes on keeps what lies below a number, and whatever the iterator has laid since its call. Conditions: those of the theorem. -/
import Derived.RangeFuncNested
import Derived.RangeFuncBound
import Derived.RangeFuncCalls
import Derived.RangeFuncLeaves
import Derived.RangeFuncFrom
import Derived.RangeFuncWrites
import Derived.Shelf.Abstract
import Derived.Shelf.RegionOpen
import Derived.Test.YtmpkfpabejpbkaaGreatDoorJCTaD
import Derived.OwnWalkIn
import Derived.TacticsInMore
import Derived.LoopNIn
import Derived.LoopIn
namespace Go.Proofs.YtmpkfpabejpbkaaGreatDoor.C
open Go Go.RowKit Go.Shelf
set_option linter.unusedVariables false
/-- what lies below n₀, and what lies at n₁ and beyond, is kept -/
structure KB (n₀ n₁ : Nat) (W W' : World) : Prop where
  low : Below n₀ W W'
  up : ∀ k, n₁ ≤ k → k < W.heap.size → W'.heap[k]? = W.heap[k]?
theorem KB.trans {n₀ n₁ : Nat} {a b c : World} (h : KB n₀ n₁ a b) (k : KB n₀ n₁ b c) : KB n₀ n₁ a c :=
  ⟨h.low.trans k.low, fun i hi hl => (k.up i hi (Nat.lt_of_lt_of_le hl h.low.size)).trans (h.up i hi hl)⟩
theorem KB.refl (n₀ n₁ : Nat) (a : World) : KB n₀ n₁ a a := ⟨Below.refl _ _, fun _ _ _ => rfl⟩
/-- the iterator yields `all`, in order; each round is asked at the next member alone; a round that goes on keeps what lies below n₀, and what the iterator has laid -/
def SeqOwn {α : Type} (F : Fence) (n : Nat) (P : Program) (g : Nat) (lb : Array Value) (encs : α → Array Value) (n₀ : Nat) (all : List α) (w : World) : Prop :=
  ∀ (l : Nat) (J Jx : List α → World → Prop) (W : World), Below w.heap.size w W → AbidesFrom W.heap.size J →
    (∀ pre x W1, J pre W1 → pre ++ [x] <+: all → YieldAt F (n - 1) P l (encs x) W1 fun e W' =>
      (e = .returned (.bool true) ∧ J (pre ++ [x]) W' ∧ KB n₀ W.heap.size W1 W') ∨ (e = .returned (.bool false) ∧ Jx (pre ++ [x]) W')) →
    J [] W →
    CallsIn F n P g (#[.func (.yield l) #[] #[]] ++ lb) W fun e W' => (∃ v, e = .returned v) ∧ (J all W' ∨ (∃ pre, pre <+: all ∧ Jx pre W'))
variable {F : Fence} {n : Nat} {P : Program}
theorem rangeFunc_own {α : Type} {g : Operand} {ps : Array Tmp} {assign body : Code} {Q : Exit → Act → World → Prop} {a : Act} {w : World}
    (hro : F.round = none) (h1 : 1 ≤ n) {gf : Nat} {lb : Array Value} (hg : a.eval g = .func (.func gf) #[] lb) (hFg : F.fn gf) (eg : ∀ args w, (callFunc gf args).run P w = .ok (.enter gf args) w)
    {encs : α → Array Value} {n₀ : Nat} {all : List α} {w0 : World} (hseq : SeqOwn F (n - 1) P gf lb encs n₀ all w0) (hn₀ : n₀ ≤ w.heap.size) (hb0 : Below w0.heap.size w0 w) (hps : ∀ x, (encs x).size = ps.size)
    (I : List α → World → Prop) (Ix : Code → List α → World → Prop) (hI : OwnFrom w.heap.size I) (hIx : ∀ c, OwnFrom w.heap.size (Ix c)) (h0 : I [] w) (Ax : α → Act → World → Prop) (hAx : ∀ x a', OwnFrom w.heap.size (fun (_ : Unit) W => Ax x a' W))
    (hassign : ∀ (l : Nat) (pre : List α) (x : α) (W : World) (K : Act → World → Prop), I pre W → pre ++ [x] <+: all → (∀ a' W', KeepsFrom w.heap.size W W' → KB n₀ (w.heap.size + 2) W W' → I pre W' → Ax x a' W' → K a' W') →
      assign.wpIn (F.inRound l) (n - 1 - 1) P (Exit.then K (fun _ _ _ => False)) { tmps := (ps.zip (encs x)).foldl (fun t (p, v) => t.setIfInBounds p v) a.tmps, defers := [] } W)
    (hbody : ∀ (l : Nat) (pre : List α) (x : α) (a' : Act) (W : World), w.heap.size ≤ l → (∃ r, W.heap[l]? = some (.loop r)) → pre ++ [x] <+: all → I pre W → Ax x a' W → body.wpIn (F.inRound l) (n - 1 - 1) P (ownPostG w.heap.size (KB n₀ (w.heap.size + 2)) I Ix (pre ++ [x]) W) a' W)
    (hdone : ∀ (D : Nat) (W : World), w.heap.size ≤ D → I all W → W.heap[D]? = some (.deferred (some [])) → Q .normal { a with defers := { target := .collected D, args := #[] } :: a.defers } W)
    (hstop : ∀ (D : Nat) (c : Code) (pre : List α) (W : World), w.heap.size ≤ D → pre <+: all → Ix c pre W → W.heap[D]? = some (.deferred (some [])) → c.wpIn F n P Q { a with defers := { target := .collected D, args := #[] } :: a.defers } W) :
    (Code.rangeFunc g ps assign body).wpIn F n P Q a w := by
  refine wpIn_rangeFunc ?_
  intro fn hfn
  rw [hro]
  -- the loop's record, in each of its states
  obtain ⟨R, hR⟩ : ∃ R : LoopState → Option Code → Loop, R = fun st pe => { state := st, pending := pe, fn, tmps := a.tmps, params := ps, assign, body, defers := w.heap.size } := ⟨_, rfl⟩
  obtain ⟨V, hV⟩ : ∃ V, (w.alloc (.deferred (some []))).alloc (.loop (R .ready none)) = V := ⟨_, rfl⟩
  -- the two blocks of the loop's own: the deferred calls' at w.heap.size, the record's behind it
  have book : V.heap[w.heap.size + 1]? = some (.loop (R .ready none)) ∧ V.heap[w.heap.size]? = some (.deferred (some [])) := by
    rw [← hV]
    refine ⟨?_, (Below.heap_alloc _ _ _ (by simp)).trans (World.alloc_heap_new w _)⟩
    have := World.alloc_heap_new (w.alloc (.deferred (some []))) (.loop (R .ready none))
    rwa [World.size_alloc] at this
  have low : Below w0.heap.size w0 V := by
    rw [← hV]; exact hb0.trans ((((Below.refl _ w).alloc (Nat.le_refl _) _).alloc (by simp) _).mono hb0.size)
  have hVs : w.heap.size + 2 = V.heap.size := by rw [← hV]; simp
  refine ⟨w.heap.size + 1, [{ target := .collected w.heap.size, args := #[] }], V, { target := .fn (.func gf) lb, args := #[.func (.yield (w.heap.size + 1)) #[] #[]] }, V, gf,
    #[.func (.yield (w.heap.size + 1)) #[] #[]] ++ lb, V, ?_, ?_, ?_, ?_, fun _ => h1, ?_⟩
  · rw [← hV, hR]; exact run_enterLoop_outer _ _ _ _ _
  · simp only [resolve, hg]
    simp [go_sem]
  · intro f' hf'
    simp [Target.leads] at hf'
    subst hf'
    exact hFg
  · simp [invoke, go_sem, eg]
  have walkrow : ∀ {A : World} {row : Option Nat}, (∀ r, row = some r → V.heap.size ≤ r ∧ ∃ o : Obj, A.heap[r]? = some o ∧ o.isWalk = true) → ∀ r, row = some r → w.heap.size ≤ r ∧ ∃ o : Obj, A.heap[r]? = some o ∧ o.isCells = false := by
    intro A row hr r e
    obtain ⟨hB, o, ho, hw⟩ := hr r e
    exact ⟨by omega, o, ho, Obj.not_cells_of_walk hw⟩
  refine (hseq (w.heap.size + 1)
    (fun pre W => I pre W ∧ W.heap[w.heap.size + 1]? = some (.loop (R .ready none)) ∧ W.heap[w.heap.size]? = some (.deferred (some [])))
    (fun pre W => ∃ c, Ix c pre W ∧ W.heap[w.heap.size + 1]? = some (.loop (R .done (some c))) ∧ W.heap[w.heap.size]? = some (.deferred (some [])))
    V low
    (fun s A B row hs hg' hr => ⟨hI s A B row hs.1 hg' (walkrow hr), (grownBy_keeps hg' (fun r e => (hr r e).2) hs.2.1 rfl).trans hs.2.1, (grownBy_keeps hg' (fun r e => (hr r e).2) hs.2.2 rfl).trans hs.2.2⟩)
    ?_ ⟨by rw [← hV]; exact hI.alloc _ (hI.alloc _ h0), book⟩).mono ?_
  · rintro pre x W ⟨hi, hl, hk⟩ hnext
    have hy := run_yield (P := P) (args := encs x) hl (by rw [hR]; exact hps x)
    rw [hR] at hy
    refine ⟨fn, _, assign, body, hy, roundIn_of_wpIn hfn (hassign _ pre x W _ hi hnext ?_)⟩
    clear hy
    intro a' X hkX hlX hiX hax
    have hl' := hkX.same _ _ (by omega) hl rfl
    have hk' := hkX.same _ _ (Nat.le_refl _) hk rfl
    have hlt : w.heap.size + 1 < X.heap.size := (Array.getElem?_eq_some_iff.1 hl').1
    refine ⟨_, run_beginRound hl' (by rw [hR]), ?_⟩
    obtain ⟨Y, hY⟩ : ∃ Y, X.putObj (w.heap.size + 1) (.loop { R .ready none with state := .busy }) = Y := ⟨_, rfl⟩
    have hlY : Y.heap[w.heap.size + 1]? = some (.loop { R .ready none with state := .busy }) := by rw [← hY]; exact World.putObj_heap_same hlt
    have hkY : Y.heap[w.heap.size]? = some (.deferred (some [])) := by rw [← hY]; exact (World.putObj_heap_other (by omega)).trans hk'
    have hXY : KB n₀ (w.heap.size + 2) X Y := by rw [← hY]; exact ⟨belowK_b hn₀ _ _ _ _ (by omega) hl' rfl rfl, fun k hk _ => World.putObj_heap_other (by omega)⟩
    have hiY : I pre Y := by rw [← hY]; exact hI.putObj _ hiX (by omega) hl' rfl
    have haY : Ax x a' Y := by rw [← hY]; exact (hAx x a').putObj (s := ()) _ hax (by omega) hl' rfl
    rw [hY]
    refine wpIn_mono (hbody _ pre x a' _ (by omega) ⟨_, hlY⟩ hnext hiY haY) ?_
    have fin : ∀ (jump : Option Code) (Z : World), KeepsFrom w.heap.size Y Z →
        (Instr.endRound (w.heap.size + 1) jump).run P Z = .ok (.bool jump.isNone) (Z.putObj (w.heap.size + 1) (.loop (R (if jump.isNone then .ready else .done) jump))) ∧
        Z.heap[w.heap.size + 1]? = some (.loop { R .ready none with state := .busy }) ∧
        (Z.putObj (w.heap.size + 1) (.loop (R (if jump.isNone then .ready else .done) jump))).heap[w.heap.size + 1]? = some (.loop (R (if jump.isNone then .ready else .done) jump)) ∧
        (Z.putObj (w.heap.size + 1) (.loop (R (if jump.isNone then .ready else .done) jump))).heap[w.heap.size]? = some (.deferred (some [])) := by
      intro jump Z hkZ
      have hlZ := hkZ.same _ _ (by omega) hlY rfl
      have he := run_endRound (P := P) jump hlZ
      rw [hR] at he ⊢
      exact ⟨he, by rw [hR] at hlZ; exact hlZ, World.putObj_heap_same (Array.getElem?_eq_some_iff.1 hlZ).1, (World.putObj_heap_other (by omega)).trans (hkZ.same _ _ (Nat.le_refl _) hkY rfl)⟩
    have out : ∀ (c : Code) (Z : World), KeepsFrom w.heap.size Y Z → Ix c (pre ++ [x]) Z → ∃ v Z', (Instr.endRound (w.heap.size + 1) (some c)).run P Z = .ok v Z' ∧ v = .bool false ∧ ∃ c, Ix c (pre ++ [x]) Z' ∧ Z'.heap[w.heap.size + 1]? = some (.loop (R .done (some c))) ∧ Z'.heap[w.heap.size]? = some (.deferred (some [])) := by
      intro c Z hkZ hiZ
      obtain ⟨f1, f2, f3, f4⟩ := fin (some c) Z hkZ
      exact ⟨_, _, f1, rfl, c, (hIx c).putObj _ hiZ (by omega) f2 rfl, f3, f4⟩
    rintro e a3 Z hp
    cases e with
    | normal =>
      obtain ⟨hkZ, hlowZ, hiZ⟩ := hp
      obtain ⟨f1, f2, f3, f4⟩ := fin none Z hkZ
      exact ⟨_, _, f1, .inl ⟨rfl, ⟨hI.putObj _ hiZ (by omega) f2 rfl, f3, f4⟩, by rw [← hVs]; exact hlX.trans ((hXY.trans hlowZ).trans ⟨belowK_b hn₀ _ _ _ _ (by omega) f2 rfl rfl, fun k hk _ => World.putObj_heap_other (by omega)⟩)⟩⟩
    | ret =>
      obtain ⟨v, Z', e1, rfl, e3⟩ := out .ret Z hp.1 hp.2
      exact ⟨_, _, e1, .inr ⟨rfl, e3⟩⟩
    | exit id =>
      obtain ⟨v, Z', e1, rfl, e3⟩ := out (.exit id) Z hp.1 hp.2
      exact ⟨_, _, e1, .inr ⟨rfl, e3⟩⟩
    | goto t =>
      obtain ⟨v, Z', e1, rfl, e3⟩ := out (.goto t) Z hp.1 hp.2
      exact ⟨_, _, e1, .inr ⟨rfl, e3⟩⟩
    | panic ch => exact hp.elim
    | outgrown => exact hp.elim
  · rintro e X ⟨⟨v, rfl⟩, (⟨hi, hl, hk⟩ | ⟨pre, hpre, c, hi, hl, hk⟩)⟩
    · have he := run_endLoop (P := P) hl (by rw [hR]; simp)
      rw [hR] at he
      exact ⟨none, _, he, hdone _ _ (Nat.le_refl _) (hI.putObj _ hi (by omega) hl rfl) ((World.putObj_heap_other (by omega)).trans hk)⟩
    · have he := run_endLoop (P := P) hl (by rw [hR]; simp)
      rw [hR] at he
      exact ⟨some c, _, he, hstop _ c pre _ (Nat.le_refl _) hpre ((hIx c).putObj _ hi (by omega) hl rfl) ((World.putObj_heap_other (by omega)).trans hk)⟩
end Go.Proofs.YtmpkfpabejpbkaaGreatDoor.C
/- t.Each() of a tally: its entries in order, as an iterator. Conditions: none beyond the tally's own. -/
namespace Go.Proofs.YtmpkfpabejpbkaaGreatDoor.C
open Go.RowKit Go.Lib Go.Sort Go.Shelf
set_option linter.unusedVariables false
set_option linter.unusedSimpArgs false
attribute [local go_sem] Oper.semAt_some
theorem take_snoc {α : Type} (l : List α) (k : Nat) (x : α) (h : l[k]? = some x) : l.take (k + 1) = l.take k ++ [x] := by
  rw [List.take_add_one, h]; rfl
theorem EntAt.kept {w w' : World} {g : Nat} {L : List Ent} (h : EntAt w g L) (he : w'.heap[g]? = w.heap[g]?) : EntAt w' g L := fun k x hx =>
  ⟨(World.cell?_of_block (a := ⟨g, k * 2, none⟩) he).trans (h k x hx).1, (World.cell?_of_block (a := ⟨g, k * 2 + 1, none⟩) he).trans (h k x hx).2⟩
theorem grownNone {W W' : World} (h : Below W.heap.size W W') : W.grownBy W' none := ⟨h.os, h.tape, h.output, h.size, fun k hk _ => h.block k hk⟩
theorem tal_each_in (F : Fence) (n : Nat) (hf : F.fn 33) (hro : F.round = none) (b : Nat) (w : World) :
    CallsIn F n Tryz.prog 33 #[.pointer (some ⟨b, 0, none⟩)] w fun e w' => e = .returned (.func (.func 51) #[] #[.pointer (some ⟨w.heap.size, 0, none⟩)]) ∧ w' = w.alloc (.cells #[.pointer (some ⟨b, 0, none⟩)] 29) := by
  refine callsIn_of_wp Tryz.func33 rfl hf ?_ hro
  simp only [Tryz.ntmps33, List.size_toArray, List.length_cons, List.length_nil, Nat.reduceAdd, Nat.reduceSub, Array.replicate_succ, Array.replicate_zero, List.push_toArray, List.append_toArray, List.nil_append, List.cons_append]
  gi_wp2
  go_ret
  exact ⟨rfl, rfl⟩
set_option maxRecDepth 100000 in
set_option maxHeartbeats 2000000 in
theorem tal_next1 (n : Nat) (hn : 1 ≤ n) (l Bs b m n₀ : Nat) (L : List Ent) (J Jx : List Ent → World → Prop) (W : World) (hsz : n₀ ≤ W.heap.size) (hJ : AbidesFrom W.heap.size J)
    (hY : ∀ pre x W1, J pre W1 → pre ++ [x] <+: L → YieldAt Fence.wide (n - 1) Tryz.prog l #[.string x.1, .int .i64 x.2] W1 fun e W' =>
      (e = .returned (.bool true) ∧ J (pre ++ [x]) W' ∧ KB n₀ W.heap.size W1 W') ∨ (e = .returned (.bool false) ∧ Jx (pre ++ [x]) W'))
    (hBs : W.cell? ⟨Bs, 0, none⟩ = some (.pointer (some ⟨b, 0, none⟩))) (hT : Tal W b m L) (h0 : J [] W) :
    CallsIn Fence.wide n Tryz.prog 51 #[.func (.yield l) #[] #[], .pointer (some ⟨Bs, 0, none⟩)] W fun e W' => (∃ v, e = .returned v) ∧
      (J L W' ∨ (∃ pre, pre <+: L ∧ Jx pre W')) := by
  have hE := hid (entries_any hT)
  have hlen := hT.he.len
  clear hT
  refine callsIn_of_wp Tryz.func51 rfl trivial ?_ rfl
  simp only [Tryz.ntmps51, List.size_toArray, List.length_cons, List.length_nil, Nat.reduceAdd, Nat.reduceSub, Array.replicate_succ, Array.replicate_zero, List.push_toArray, List.append_toArray, List.nil_append, List.cons_append]
  gi_wp2_with fail
  refine ⟨trivial, ?_⟩
  with_reducible refine CallsIn.mono (callsIn_wide.2 hE.out) ?_
  rintro e W1 ⟨v, rfl, hlow, hv⟩
  have hJ1 : J [] W1 := hJ _ _ _ none h0 (grownNone hlow) (fun r e => by cases e)
  rcases hv with ⟨hL, rfl⟩ | ⟨g, cap, rfl, hg, hgl, hat⟩
  · subst hL
    gi_wp2_with fail
    gi_loopw [8] (fun i wr => i = .int .i64 0 ∧ J [] wr) (fun _ _ => 0)
    case atStart => exact ⟨rfl, hJ1⟩
    case round =>
      obtain ⟨rfl, hJs⟩ := hrel
      gi_wp2
      go_end0
      exact ⟨⟨_, rfl⟩, .inl hJs⟩
  · gi_wp2_with fail
    gi_loopw [8] (fun i wr => ∃ k : Nat, k ≤ L.length ∧ i = .int .i64 k ∧ J (L.take k) wr ∧ Below n₀ W wr ∧ EntAt wr g L ∧ g < wr.heap.size ∧ W.heap.size ≤ wr.heap.size) (fun i _ => L.length - (intOf i).toNat)
    case atStart => exact ⟨0, Nat.zero_le _, rfl, hJ1, hlow.mono hsz, hat, hgl, hlow.size⟩
    case round =>
      obtain ⟨k, hk, rfl, hJs, hnx, hat2, hgl2, hsz2⟩ := hrel
      by_cases hlt : k < L.length
      · obtain ⟨x, hx⟩ : ∃ x, L[k]? = some x := ⟨_, List.getElem?_eq_getElem hlt⟩
        obtain ⟨q0, q1⟩ := hat2 k x hx
        have hJ2 : J (L.take k) (wr.alloc (.cells #[.string x.1, .int .i64 x.2] 119)) := hJ _ _ _ none hJs (World.grownBy_alloc wr _ none) (fun r e => by cases e)
        have hB2 : Below wr.heap.size wr (wr.alloc (.cells #[.string x.1, .int .i64 x.2] 119)) := (Below.refl _ _).alloc (Nat.le_refl _) _
        have htk := hid (take_snoc L k _ hx)
        obtain ⟨fn, tmps, assign, body, hy, hR⟩ := hY _ x _ hJ2 (by rw [← htk.out]; exact List.take_prefix _ _)
        have hki : (k : Int) < L.length := by omega
        have HA := hid hat2
        have HB := hid hB2
        have HN := hid hnx
        obtain ⟨x1, x2⟩ := x
        dsimp only at q0 q1 hy hR HB htk
        clear hY hx hat hat2 hB2 hnx hlow hJs hJ1 h0 hJ2 hBs
        gi_wp2
        refine hR.mono ?_
        rintro e W3 (⟨rfl, hJ3, hk3⟩ | ⟨rfl, hJx3⟩)
        · have HK := hid hk3
          clear hk3
          gi_wp2
          go_roundw
          case rel => exact ⟨k + 1, by omega, by go_num, by rw [htk.out]; exact hJ3, HN.out.trans ((HB.out.mono (by omega)).trans HK.out.low), HA.out.kept ((HK.out.up g hg (by simp; omega)).trans (HB.out.block g hgl2)), Nat.lt_of_lt_of_le hgl2 (Nat.le_trans HB.out.size HK.out.low.size), Nat.le_trans hsz2 (Nat.le_trans HB.out.size HK.out.low.size)⟩
          case measure => simp [intOf]; omega
        · gi_wp2
          refine bodyPost_ret (results_none rfl _ _ _) rfl ?_
          exact ⟨⟨_, rfl⟩, .inr ⟨_, by rw [← htk.out]; exact List.take_prefix _ _, hJx3⟩⟩
      · obtain rfl : k = L.length := by omega
        gi_wp2
        go_end0
        exact ⟨⟨_, rfl⟩, .inl (by rw [List.take_length] at hJs; exact hJs)⟩
/-- t.Each() of a tally: all its entries, in order. -/
theorem tal_next (n : Nat) (hn : 1 ≤ n) (Bs b m n₀ : Nat) (L : List Ent) (w : World) (hBs : Bs < w.heap.size) (hn₀ : n₀ ≤ w.heap.size)
    (hc : w.cell? ⟨Bs, 0, none⟩ = some (.pointer (some ⟨b, 0, none⟩))) (hT : Tal w b m L) :
    SeqOwn Fence.wide n Tryz.prog 51 #[.pointer (some ⟨Bs, 0, none⟩)] (fun x : Ent => #[.string x.1, .int .i64 x.2]) n₀ L w := fun l J Jx W hW hJ hY h0 =>
  tal_next1 n hn l Bs b m n₀ L J Jx W (Nat.le_trans hn₀ hW.size) hJ hY ((hW.cell (p := ⟨Bs, 0, none⟩) hBs).trans hc) (hT.low hW) h0
end Go.Proofs.YtmpkfpabejpbkaaGreatDoor.C
