/- Small functions of word (bare, joint, dot) and the plain scanner. Conditions: those of the theorems. -/
import Derived.Test.YteodfondjogmoaaGreatDoorProg
import Derived.WalkKit
import Derived.WalkSpells
import Derived.WalkMore
import Derived.WalkLawsBesides
import Derived.Deep.QuietTactic
import Derived.BigQuiet
import Derived.Deep.RegionHeld3
import Derived.Deep.RegionLawGrows
import Derived.StillTailTactics
import Derived.Lib.Hide
import Derived.RangeFuncNested
import Derived.RangeFuncBound
import Derived.RangeFuncCalls
import Derived.RangeFuncLeaves
import Derived.RangeFuncFrom
import Derived.RangeFuncWrites
import Derived.Shelf.Abstract
import Derived.Shelf.RegionOpen
namespace Go.Proofs.YteodfondjogmoaaGreatDoor
open Go Go.RowKit Go.Lib
set_option linter.unusedVariables false
set_option linter.unusedSimpArgs false
/-- a piece with the marks behind it -/
structure Un where
  k : Int
  r : Int
  f : Int
  t : Int
  al : Bool
abbrev Un.v (u : Un) : Value := .agg #[.int .i64 u.k, .int .i32 u.r, .int .i64 u.f, .int .i64 u.t, .bool u.al]
theorem rkb {a b : Bool} (h : a = b) : Ending.returned (.bool a) = Ending.returned (.bool b) := by rw [h]
def bareU (k : Int) : Bool := k == 11 || (k == 4 || k == 9)
theorem bare81 (k : Int) (w : World) : Calls Tryz.prog 192 #[.int .i64 k] w fun e w' => e = .returned (.bool (bareU k)) ∧ w = w' := by
  obtain ⟨a, ha⟩ : ∃ a, (k == 11) = a := ⟨_, rfl⟩
  obtain ⟨b, hb⟩ : ∃ b, (k == 4) = b := ⟨_, rfl⟩
  obtain ⟨c, hc⟩ : ∃ c, (k == 9) = c := ⟨_, rfl⟩
  have hv : Hid (bareU k = (a || (b || c))) := hid (by unfold bareU; rw [ha, hb, hc])
  cases a <;> cases b <;> cases c
  all_goals
    go_enter Tryz.func192, Tryz.ntmps192
    go_wp2_with fail
    go_ret
    exact ⟨by rw [hv.out]; rfl, rfl⟩
def jointU (u : Un) : Bool := (u.r == 39 || (u.r == 8217 || (u.r == 45 || u.r == 8208))) && u.al
theorem joint82 (u : Un) (w : World) : Calls Tryz.prog 193 #[u.v] w fun e w' => e = .returned (.bool (jointU u)) ∧ Below w.heap.size w w' := by
  obtain ⟨k, r, f, t, al⟩ := u
  obtain ⟨a, ha⟩ : ∃ a, (r == 39) = a := ⟨_, rfl⟩
  obtain ⟨b, hb⟩ : ∃ b, (r == 8217) = b := ⟨_, rfl⟩
  obtain ⟨c, hc⟩ : ∃ c, (r == 45) = c := ⟨_, rfl⟩
  obtain ⟨d, hd⟩ : ∃ d, (r == 8208) = d := ⟨_, rfl⟩
  have hv : Hid (jointU ⟨k, r, f, t, al⟩ = ((a || (b || (c || d))) && al)) := hid (by unfold jointU; dsimp only; rw [ha, hb, hc, hd])
  cases a <;> cases b <;> cases c <;> cases d
  all_goals
    go_enter Tryz.func193, Tryz.ntmps193
    go_wp2_with fail
    go_ret
    exact ⟨by rw [hv.out]; first | rfl | (cases al <;> rfl), by first | exact (Below.refl _ w).alloc (Nat.le_refl _) _⟩
def dotU (u : Un) : Bool := u.al && (u.r == 44 || u.r == 46)
theorem dot83 (u : Un) (w : World) : Calls Tryz.prog 194 #[u.v] w fun e w' => e = .returned (.bool (dotU u)) ∧ Below w.heap.size w w' := by
  obtain ⟨k, r, f, t, al⟩ := u
  obtain ⟨a, ha⟩ : ∃ a, (r == 44) = a := ⟨_, rfl⟩
  obtain ⟨b, hb⟩ : ∃ b, (r == 46) = b := ⟨_, rfl⟩
  have hv : Hid (dotU ⟨k, r, f, t, al⟩ = (al && (a || b))) := hid (by unfold dotU; dsimp only; rw [ha, hb])
  cases al <;> cases a <;> cases b
  all_goals
    go_enter Tryz.func194, Tryz.ntmps194
    go_wp2_with fail
    go_ret
    exact ⟨by rw [hv.out]; rfl, by first | exact (Below.refl _ w).alloc (Nat.le_refl _) _⟩
end Go.Proofs.YteodfondjogmoaaGreatDoor
/- A range over a function whose iterator yields the members of a known list in their order and keeps state of its own in memory: the iterator names the blocks that are its own (S), a round keeps those and what the iterator reads (R), and the caller's invariant abides whatever the iterator does to its own blocks. Conditions: those of the theorems. -/
namespace Go.Proofs.YteodfondjogmoaaGreatDoor
open Go Go.RowKit Go.Shelf
set_option linter.unusedVariables false
/-- the blocks of T lie as they lay; nothing has gone -/
structure Kept (T : Nat → Prop) (W W' : World) : Prop where
  os : W'.os = W.os
  tape : W'.tape = W.tape
  output : W'.output = W.output
  size : W.heap.size ≤ W'.heap.size
  block : ∀ k, k < W.heap.size → T k → W'.heap[k]? = W.heap[k]?
namespace Kept
variable {T T' : Nat → Prop} {a b c W W' : World}
theorem refl (T : Nat → Prop) (W : World) : Kept T W W := ⟨rfl, rfl, rfl, Nat.le_refl _, fun _ _ _ => rfl⟩
theorem trans (h : Kept T a b) (k : Kept T b c) : Kept T a c :=
  ⟨k.os.trans h.os, k.tape.trans h.tape, k.output.trans h.output, Nat.le_trans h.size k.size, fun i hi ht => (k.block i (Nat.lt_of_lt_of_le hi h.size) ht).trans (h.block i hi ht)⟩
theorem mono (h : Kept T a b) (hT : ∀ k, k < a.heap.size → T' k → T k) : Kept T' a b := ⟨h.os, h.tape, h.output, h.size, fun k hk ht => h.block k hk (hT k hk ht)⟩
theorem of_below {B : Nat} (h : Below B a b) (hT : ∀ k, k < a.heap.size → T k → k < B) : Kept T a b := ⟨h.os, h.tape, h.output, h.size, fun k hk ht => h.block k (hT k hk ht)⟩
theorem of_all (h : Below a.heap.size a b) (T : Nat → Prop) : Kept T a b := of_below h (fun _ hk _ => hk)
theorem below {B : Nat} (h : Kept T a b) (hB : B ≤ a.heap.size) (hT : ∀ k, k < B → T k) : Below B a b := ⟨h.os, h.tape, h.output, h.size, fun k hk => h.block k (by omega) (hT k hk)⟩
theorem alloc (T : Nat → Prop) (W : World) (o : Obj) : Kept T W (W.alloc o) := ⟨rfl, rfl, rfl, by simp, fun k hk _ => Below.heap_alloc _ _ _ hk⟩
theorem drew (T : Nat → Prop) (W : World) : Kept T W W.drew := ⟨rfl, rfl, rfl, Nat.le_refl _, fun _ _ _ => rfl⟩
theorem setCell (W : World) {p : Addr} (hp : ¬ T p.block) (u : Value) : Kept T W (W.setCell p u) :=
  ⟨rfl, rfl, rfl, by simp [World.setCell], fun k hk ht => Below.heap_setCell _ _ _ _ (fun e => hp (e ▸ ht))⟩
theorem putObj (W : World) {l : Nat} (hl : ¬ T l) (o : Obj) : Kept T W (W.putObj l o) :=
  ⟨rfl, rfl, rfl, by simp [World.putObj], fun k hk ht => World.putObj_heap_other (fun e => hl (e ▸ ht))⟩
theorem grown {row : Option Nat} (hg : W.grownBy W' row) (hr : ∀ r, row = some r → ¬ T r) : Kept T W W' :=
  ⟨hg.os, hg.tape, hg.output, hg.size, fun k hk ht => hg.block k hk (fun e => hr k e.symm ht)⟩
theorem cell (h : Kept T W W') {p : Addr} {v : Value} (hc : W.cell? p = some v) (hT : T p.block) : W'.cell? p = some v :=
  (World.cell?_of_block (h.block _ (World.block_lt_of_cell? W p hc) hT)).trans hc
theorem frozen (h : Kept T W W') {p : Addr} {v : Bool} (hlt : p.block < W.heap.size) (hc : W.frozen? p = v) (hT : T p.block) : W'.frozen? p = v :=
  (World.frozen?_of_block (h.block _ hlt hT)).trans hc
theorem obj (h : Kept T W W') {k : Nat} {o : Obj} (hc : W.heap[k]? = some o) (hT : T k) : W'.heap[k]? = some o :=
  (h.block k (Array.getElem?_eq_some_iff.1 hc).1 hT).trans hc
end Kept
/-- nothing is the iterator's own yet -/
def none' : Nat → Prop := fun _ => False
/-- the caller's invariant abides whatever an iterator does to blocks of its own -/
def Free {α : Type} (B : Nat) (J : List α → (Nat → Prop) → World → Prop) : Prop :=
  ∀ pre S S' W W', J pre S W → (∀ k, S k → B ≤ k ∧ k < W.heap.size) → Kept (fun k => ¬ S k) W W' → (∀ k, S' k → S k ∨ (W.heap.size ≤ k ∧ k < W'.heap.size)) → J pre S' W'
theorem Free.up {α : Type} {B B' : Nat} {J : List α → (Nat → Prop) → World → Prop} (h : Free B J) (hB : B ≤ B') : Free B' J :=
  fun pre S S' W W' hj hs hk hs' => h pre S S' W W' hj (fun k hk => ⟨Nat.le_trans hB (hs k hk).1, (hs k hk).2⟩) hk hs'
/-- what speaks of no world and of nobody's blocks -/
theorem Free.none {α : Type} (B : Nat) (p : List α → Prop) : Free B (fun pre _ _ => p pre) := fun _ _ _ _ _ h _ _ _ => h
theorem Free.and {α : Type} {B : Nat} {I I' : List α → (Nat → Prop) → World → Prop} (h : Free B I) (h' : Free B I') : Free B (fun pre S W => I pre S W ∧ I' pre S W) :=
  fun pre S S' W W' hs hb hk hn => ⟨h pre S S' W W' hs.1 hb hk hn, h' pre S S' W W' hs.2 hb hk hn⟩
/-- what hangs on cells below B alone -/
theorem Free.low {α : Type} {B : Nat} {I : List α → World → Prop} (h : ∀ pre W W', I pre W → Below B W W' → I pre W') (hB : ∀ pre W, I pre W → B ≤ W.heap.size) : Free B (fun pre _ W => I pre W) :=
  fun pre S S' W W' hs hb hk hn => h pre W W' hs (hk.below (hB pre W hs) (fun k hk' hS => by have := (hb k hS).1; omega))
/-- the iterator yields `all`, in order; rounds keep what it reads (R) and what it has of its own (S) -/
def SeqS {α : Type} (F : Fence) (n : Nat) (P : Program) (g : Nat) (lb : Array Value) (encs : α → Array Value) (R : Nat → Prop) (all : List α) (w : World) : Prop :=
  ∀ (l : Nat) (J Jx : List α → (Nat → Prop) → World → Prop) (W : World), Below w.heap.size w W → Free W.heap.size J → Free W.heap.size Jx →
    (∀ pre S x W1, J pre S W1 → W.heap.size ≤ W1.heap.size → (∀ k, S k → W.heap.size ≤ k ∧ k < W1.heap.size) → pre ++ [x] <+: all → YieldAt F (n - 1) P l (encs x) W1 fun e W' =>
      Kept (fun k => R k ∨ S k) W1 W' ∧ ((e = .returned (.bool true) ∧ J (pre ++ [x]) S W') ∨ (e = .returned (.bool false) ∧ Jx (pre ++ [x]) S W'))) →
    J [] none' W →
    CallsIn F n P g (#[.func (.yield l) #[] #[]] ++ lb) W fun e W' => (∃ v, e = .returned v) ∧ (J all none' W' ∨ (∃ pre, pre <+: all ∧ Jx pre none' W'))
/-- how the body of a round may be left -/
def postS {α : Type} (R S : Nat → Prop) (I : List α → (Nat → Prop) → World → Prop) (Ix : Code → List α → (Nat → Prop) → World → Prop) (xs : List α) (W : World) : Exit → Act → World → Prop
  | .normal, _, W' => Kept (fun k => R k ∨ S k) W W' ∧ I xs S W'
  | .ret, _, W' => Kept (fun k => R k ∨ S k) W W' ∧ Ix .ret xs S W'
  | .exit id, _, W' => Kept (fun k => R k ∨ S k) W W' ∧ Ix (.exit id) xs S W'
  | .goto t, _, W' => Kept (fun k => R k ∨ S k) W W' ∧ Ix (.goto t) xs S W'
  | .panic _, _, _ => False
  | .outgrown, _, _ => False
variable {F : Fence} {n : Nat} {P : Program}
/-- **the law at a loop that stands in no round** -/
theorem rangeFunc_s {α : Type} {g : Operand} {ps : Array Tmp} {assign body : Code} {Q : Exit → Act → World → Prop} {a : Act} {w : World}
    (hro : F.round = none) (h1 : 1 ≤ n) {gf : Nat} {lb : Array Value} (hg : a.eval g = .func (.func gf) #[] lb) (hFg : F.fn gf) (eg : ∀ args w, (callFunc gf args).run P w = .ok (.enter gf args) w)
    {encs : α → Array Value} {R : Nat → Prop} {all : List α} {w0 : World} (hseq : SeqS F (n - 1) P gf lb encs R all w0) (hR : ∀ k, R k → k < w.heap.size) (hb0 : Below w0.heap.size w0 w) (hps : ∀ x, (encs x).size = ps.size)
    (I : List α → (Nat → Prop) → World → Prop) (Ix : Code → List α → (Nat → Prop) → World → Prop) (hI : Free w.heap.size I) (hIx : ∀ c, Free w.heap.size (Ix c)) (h0 : I [] none' w) (Ax : List α → (Nat → Prop) → α → Act → World → Prop) (hAx : ∀ pre S x a' W l o, Ax pre S x a' W → S l → (∀ k, S k → w.heap.size ≤ k ∧ k < W.heap.size) → Ax pre S x a' (W.putObj l o))
    (hassign : ∀ (l : Nat) (pre : List α) (S : Nat → Prop) (x : α) (W : World) (K : Act → World → Prop), I pre S W → w.heap.size ≤ W.heap.size → (∀ k, S k → w.heap.size ≤ k ∧ k < W.heap.size) → pre ++ [x] <+: all → (∀ a' W', Kept (fun k => R k ∨ S k) W W' → Ax pre S x a' W' → K a' W') →
      assign.wpIn (F.inRound l) (n - 1 - 1) P (Exit.then K (fun _ _ _ => False)) { tmps := (ps.zip (encs x)).foldl (fun t (p, v) => t.setIfInBounds p v) a.tmps, defers := [] } W)
    (hbody : ∀ (l : Nat) (pre : List α) (S : Nat → Prop) (x : α) (a' : Act) (W : World), S l → (∃ r, W.heap[l]? = some (.loop r)) → w.heap.size ≤ W.heap.size → (∀ k, S k → w.heap.size ≤ k ∧ k < W.heap.size) → pre ++ [x] <+: all → Ax pre S x a' W → body.wpIn (F.inRound l) (n - 1 - 1) P (postS R S I Ix (pre ++ [x]) W) a' W)
    (hdone : ∀ (D : Nat) (W : World), w.heap.size ≤ D → I all (fun k => k = D) W → W.heap[D]? = some (.deferred (some [])) → Q .normal { a with defers := { target := .collected D, args := #[] } :: a.defers } W)
    (hstop : ∀ (D : Nat) (c : Code) (pre : List α) (W : World), w.heap.size ≤ D → pre <+: all → Ix c pre (fun k => k = D) W → W.heap[D]? = some (.deferred (some [])) → c.wpIn F n P Q { a with defers := { target := .collected D, args := #[] } :: a.defers } W) :
    (Code.rangeFunc g ps assign body).wpIn F n P Q a w := by
  refine wpIn_rangeFunc ?_
  intro fn hfn
  rw [hro]
  -- the loop's record, in each of its states
  obtain ⟨X0, hX0⟩ : ∃ X0 : LoopState → Option Code → Loop, X0 = fun st pe => { state := st, pending := pe, fn, tmps := a.tmps, params := ps, assign, body, defers := w.heap.size } := ⟨_, rfl⟩
  obtain ⟨V, hV⟩ : ∃ V, (w.alloc (.deferred (some []))).alloc (.loop (X0 .ready none)) = V := ⟨_, rfl⟩
  have book : V.heap[w.heap.size + 1]? = some (.loop (X0 .ready none)) ∧ V.heap[w.heap.size]? = some (.deferred (some [])) := by
    rw [← hV]
    refine ⟨?_, (Below.heap_alloc _ _ _ (by simp)).trans (World.alloc_heap_new w _)⟩
    have := World.alloc_heap_new (w.alloc (.deferred (some []))) (.loop (X0 .ready none))
    rwa [World.size_alloc] at this
  have low : Below w0.heap.size w0 V := by
    rw [← hV]; exact hb0.trans ((((Below.refl _ w).alloc (Nat.le_refl _) _).alloc (by simp) _).mono hb0.size)
  have hVs : V.heap.size = w.heap.size + 2 := by rw [← hV]; simp
  have hKV : Kept (fun k => ¬ none' k) w V := by rw [← hV]; exact (Kept.alloc _ _ _).trans (Kept.alloc _ _ _)
  refine ⟨w.heap.size + 1, [{ target := .collected w.heap.size, args := #[] }], V, { target := .fn (.func gf) lb, args := #[.func (.yield (w.heap.size + 1)) #[] #[]] }, V, gf,
    #[.func (.yield (w.heap.size + 1)) #[] #[]] ++ lb, V, ?_, ?_, ?_, ?_, fun _ => h1, ?_⟩
  · rw [← hV, hX0]; exact run_enterLoop_outer _ _ _ _ _
  · simp only [resolve, hg]
    simp [go_sem]
  · intro f' hf'
    simp [Target.leads] at hf'
    subst hf'
    exact hFg
  · simp [invoke, go_sem, eg]
  clear hV
  have hVl : w.heap.size ≤ V.heap.size := by omega
  have iV := fun S' hS' => hI [] none' S' w V h0 (fun k hk => hk.elim) hKV hS'
  clear hKV h0
  obtain ⟨N, hN⟩ : ∃ N, N = w.heap.size := ⟨_, rfl⟩
  obtain ⟨U, hU⟩ : ∃ U : (Nat → Prop) → Nat → Prop, U = fun S k => S k ∨ k = N + 1 ∨ k = N := ⟨_, rfl⟩
  have U1 : ∀ S, U S (N + 1) := fun S => by rw [hU]; exact .inr (.inl rfl)
  have U2 : ∀ S, U S N := fun S => by rw [hU]; exact .inr (.inr rfl)
  have U0 : ∀ S k, S k → U S k := fun S k h => by rw [hU]; exact .inl h
  have U3 : ∀ S k, U S k → S k ∨ k = N + 1 ∨ k = N := fun S k h => by rw [hU] at h; exact h
  rw [← hN] at hI hIx hR hassign hbody hdone hstop hAx book hVs hX0 iV ⊢
  have iV0 : I [] (U none') V := iV _ (fun k hk => .inr (by rcases U3 _ k hk with h | h | h <;> first | exact False.elim h | omega))
  clear iV
  -- an invariant of the caller's, with the loop's two blocks beside it
  have lift : ∀ (A : List α → (Nat → Prop) → World → Prop) (o1 : Obj), Free N A → Free V.heap.size (fun pre S W => A pre (U S) W ∧ W.heap[N + 1]? = some o1 ∧ W.heap[N]? = some (.deferred (some []))) := by
    intro A o1 hA pre S S' W W' ⟨ha, hl, hk⟩ hS hK hS'
    have hlt := (Array.getElem?_eq_some_iff.1 hl).1
    refine ⟨hA pre (U S) (U S') W W' ha (fun k hk => ?_) (hK.mono (fun k _ hk hs => hk (U0 _ _ hs))) (fun k hk => ?_), hK.obj hl (fun h => ?_), hK.obj hk (fun h => ?_)⟩
    · rcases U3 _ k hk with h | h | h
      · have := hS k h; omega
      all_goals omega
    · rcases U3 _ k hk with h | h | h
      · rcases hS' k h with h | h
        · exact .inl (U0 _ _ h)
        · exact .inr h
      · exact .inl (h ▸ U1 S)
      · exact .inl (h ▸ U2 S)
    · have := (hS _ h).1; omega
    · have := (hS _ h).1; omega
  refine (hseq (N + 1)
    (fun pre S W => I pre (U S) W ∧ W.heap[N + 1]? = some (.loop (X0 .ready none)) ∧ W.heap[N]? = some (.deferred (some [])))
    (fun pre S W => ∃ c, Ix c pre (U S) W ∧ W.heap[N + 1]? = some (.loop (X0 .done (some c))) ∧ W.heap[N]? = some (.deferred (some [])))
    V low (lift I _ hI) (fun pre S S' W W' ⟨c, h⟩ hS hK hS' => ⟨c, lift (Ix c) _ (hIx c) pre S S' W W' h hS hK hS'⟩)
    ?_ ⟨iV0, book⟩).mono ?_
  · rintro pre S x W ⟨hi, hl, hk⟩ hW hS hnext
    have hlt0 : N + 1 < W.heap.size := (Array.getElem?_eq_some_iff.1 hl).1
    have hUS : ∀ k, U S k → N ≤ k ∧ k < W.heap.size := by
      intro k hk
      rcases U3 _ k hk with h | h | h
      · have := hS k h; omega
      all_goals omega
    have hy := run_yield (P := P) (args := encs x) hl (by rw [hX0]; exact hps x)
    rw [hX0] at hy
    refine ⟨fn, _, assign, body, hy, roundIn_of_wpIn hfn (hassign _ pre (U S) x W _ hi (by omega) hUS hnext ?_)⟩
    clear hy
    intro a' X hkX hax
    have hl' := hkX.obj hl (.inr (U1 S))
    have hk' := hkX.obj hk (.inr (U2 S))
    have hlt : N + 1 < X.heap.size := (Array.getElem?_eq_some_iff.1 hl').1
    refine ⟨_, run_beginRound hl' (by rw [hX0]), ?_⟩
    obtain ⟨Y, hY⟩ : ∃ Y, X.putObj (N + 1) (.loop { X0 .ready none with state := .busy }) = Y := ⟨_, rfl⟩
    have hlY : Y.heap[N + 1]? = some (.loop { X0 .ready none with state := .busy }) := by rw [← hY]; exact World.putObj_heap_same hlt
    have hkY : Y.heap[N]? = some (.deferred (some [])) := by rw [← hY]; exact (World.putObj_heap_other (by omega)).trans hk'
    have notR : ¬ (R (N + 1) ∨ S (N + 1)) := by
      rintro (h | h)
      · have := hR _ h; omega
      · have := (hS _ h).1; omega
    have hXY : Kept (fun k => R k ∨ S k) X Y := by rw [← hY]; exact Kept.putObj X notR _
    have hYs : Y.heap.size = X.heap.size := by rw [← hY]; simp [World.putObj]
    have hUX : ∀ k, U S k → N ≤ k ∧ k < X.heap.size := fun k hk => ⟨(hUS k hk).1, Nat.lt_of_lt_of_le (hUS k hk).2 hkX.size⟩
    have haY : Ax pre (U S) x a' Y := by rw [← hY]; exact hAx pre (U S) x a' X _ _ hax (U1 S) hUX
    have hWX := hkX.size
    rw [hY]
    refine wpIn_mono (hbody _ pre (U S) x a' _ (U1 S) ⟨_, hlY⟩ (by omega) (fun k hk => by have := hUX k hk; omega) hnext haY) ?_
    have fin : ∀ (jump : Option Code) (Z : World), Kept (fun k => R k ∨ U S k) Y Z →
        (Instr.endRound (N + 1) jump).run P Z = .ok (.bool jump.isNone) (Z.putObj (N + 1) (.loop (X0 (if jump.isNone then .ready else .done) jump))) ∧
        (Z.putObj (N + 1) (.loop (X0 (if jump.isNone then .ready else .done) jump))).heap[N + 1]? = some (.loop (X0 (if jump.isNone then .ready else .done) jump)) ∧
        (Z.putObj (N + 1) (.loop (X0 (if jump.isNone then .ready else .done) jump))).heap[N]? = some (.deferred (some [])) ∧
        Kept (fun k => R k ∨ S k) W (Z.putObj (N + 1) (.loop (X0 (if jump.isNone then .ready else .done) jump))) ∧
        (∀ (A : List α → (Nat → Prop) → World → Prop) qs, Free N A → A qs (U S) Z → A qs (U S) (Z.putObj (N + 1) (.loop (X0 (if jump.isNone then .ready else .done) jump)))) := by
      intro jump Z hkZ
      have hlZ := hkZ.obj hlY (.inr (U1 S))
      have hZs := hkZ.size
      have he := run_endRound (P := P) jump hlZ
      rw [hX0] at he ⊢
      have hO : ∀ k, R k ∨ S k → R k ∨ U S k := fun k h => h.elim .inl (fun h => .inr (U0 _ _ h))
      refine ⟨he, World.putObj_heap_same (Array.getElem?_eq_some_iff.1 hlZ).1, (World.putObj_heap_other (by omega)).trans (hkZ.obj hkY (.inr (U2 S))),
        (((hkX.mono (fun k _ h => hO k h)).trans hXY).trans (hkZ.mono (fun k _ h => hO k h))).trans (Kept.putObj Z notR _), ?_⟩
      intro A qs hA ha
      exact hA qs (U S) (U S) Z _ ha (fun k hk => by have := hUX k hk; omega) (Kept.putObj Z (fun h => h (U1 S)) _) (fun k hk => .inl hk)
    have out : ∀ (c : Code) (Z : World), Kept (fun k => R k ∨ U S k) Y Z → Ix c (pre ++ [x]) (U S) Z → ∃ v Z', (Instr.endRound (N + 1) (some c)).run P Z = .ok v Z' ∧ v = .bool false ∧ Kept (fun k => R k ∨ S k) W Z' ∧ ∃ c, Ix c (pre ++ [x]) (U S) Z' ∧ Z'.heap[N + 1]? = some (.loop (X0 .done (some c))) ∧ Z'.heap[N]? = some (.deferred (some [])) := by
      intro c Z hkZ hiZ
      obtain ⟨f1, f3, f4, f5, f6⟩ := fin (some c) Z hkZ
      exact ⟨_, _, f1, rfl, f5, c, f6 _ _ (hIx c) hiZ, f3, f4⟩
    rintro e a3 Z hp
    cases e with
    | normal =>
      obtain ⟨hkZ, hiZ⟩ := hp
      obtain ⟨f1, f3, f4, f5, f6⟩ := fin none Z hkZ
      exact ⟨_, _, f1, f5, .inl ⟨rfl, f6 _ _ hI hiZ, f3, f4⟩⟩
    | ret =>
      obtain ⟨v, Z', e1, rfl, e2, e3⟩ := out .ret Z hp.1 hp.2
      exact ⟨_, _, e1, e2, .inr ⟨rfl, e3⟩⟩
    | exit id =>
      obtain ⟨v, Z', e1, rfl, e2, e3⟩ := out (.exit id) Z hp.1 hp.2
      exact ⟨_, _, e1, e2, .inr ⟨rfl, e3⟩⟩
    | goto t =>
      obtain ⟨v, Z', e1, rfl, e2, e3⟩ := out (.goto t) Z hp.1 hp.2
      exact ⟨_, _, e1, e2, .inr ⟨rfl, e3⟩⟩
    | panic ch => exact hp.elim
    | outgrown => exact hp.elim
  · have last : ∀ (A : List α → (Nat → Prop) → World → Prop) qs X o, Free N A → A qs (U none') X → X.heap[N + 1]? = some o → X.heap[N]? = some (.deferred (some [])) → ∀ o', A qs (fun k => k = N) (X.putObj (N + 1) o') := by
      intro A qs X o hA ha hl hk o'
      have hlt := (Array.getElem?_eq_some_iff.1 hl).1
      exact hA qs (U none') _ X _ ha (fun k hk => by rcases U3 _ k hk with h | h | h <;> first | exact False.elim h | omega) (Kept.putObj X (fun h => h (U1 _)) _) (fun k hk => .inl (hk ▸ U2 _))
    rintro e X ⟨⟨v, rfl⟩, (⟨hi, hl, hk⟩ | ⟨pre, hpre, c, hi, hl, hk⟩)⟩
    · have he := run_endLoop (P := P) hl (by rw [hX0]; simp)
      rw [hX0] at he
      exact ⟨none, _, he, hdone _ _ (Nat.le_refl _) (last I _ X _ hI hi hl hk _) ((World.putObj_heap_other (by omega)).trans hk)⟩
    · have he := run_endLoop (P := P) hl (by rw [hX0]; simp)
      rw [hX0] at he
      exact ⟨some c, _, he, hstop _ c pre _ (Nat.le_refl _) hpre (last (Ix c) _ X _ (hIx c) hi hl hk _) ((World.putObj_heap_other (by omega)).trans hk)⟩
/-- **the law at a loop that stands in a round** -/
theorem rangeFunc_sN {α : Type} {g : Operand} {ps : Array Tmp} {assign body : Code} {Q : Exit → Act → World → Prop} {a : Act} {w : World}
    {l₀ : Nat} {r₀ : Loop} (hro : F.round = some l₀) (hl₀ : w.heap[l₀]? = some (.loop r₀)) (h1 : 1 ≤ n) {gf : Nat} {lb : Array Value} (hg : a.eval g = .func (.func gf) #[] lb) (hFg : F.fn gf) (eg : ∀ args w, (callFunc gf args).run P w = .ok (.enter gf args) w)
    {encs : α → Array Value} {R : Nat → Prop} {all : List α} {w0 : World} (hseq : SeqS F (n - 1) P gf lb encs R all w0) (hR : ∀ k, R k → k < w.heap.size) (hb0 : Below w0.heap.size w0 w) (hps : ∀ x, (encs x).size = ps.size)
    (I : List α → (Nat → Prop) → World → Prop) (Ix : Code → List α → (Nat → Prop) → World → Prop) (hI : Free w.heap.size I) (hIx : ∀ c, Free w.heap.size (Ix c)) (h0 : I [] none' w) (Ax : List α → (Nat → Prop) → α → Act → World → Prop) (hAx : ∀ pre S x a' W l o, Ax pre S x a' W → S l → (∀ k, S k → w.heap.size ≤ k ∧ k < W.heap.size) → Ax pre S x a' (W.putObj l o))
    (hassign : ∀ (l : Nat) (pre : List α) (S : Nat → Prop) (x : α) (W : World) (K : Act → World → Prop), I pre S W → w.heap.size ≤ W.heap.size → (∀ k, S k → w.heap.size ≤ k ∧ k < W.heap.size) → pre ++ [x] <+: all → (∀ a' W', Kept (fun k => R k ∨ S k) W W' → Ax pre S x a' W' → K a' W') →
      assign.wpIn (F.inRound l) (n - 1 - 1) P (Exit.then K (fun _ _ _ => False)) { tmps := (ps.zip (encs x)).foldl (fun t (p, v) => t.setIfInBounds p v) a.tmps, defers := [] } W)
    (hbody : ∀ (l : Nat) (pre : List α) (S : Nat → Prop) (x : α) (a' : Act) (W : World), S l → (∃ r, W.heap[l]? = some (.loop r)) → w.heap.size ≤ W.heap.size → (∀ k, S k → w.heap.size ≤ k ∧ k < W.heap.size) → pre ++ [x] <+: all → Ax pre S x a' W → body.wpIn (F.inRound l) (n - 1 - 1) P (postS R S I Ix (pre ++ [x]) W) a' W)
    (hdone : ∀ (W : World), w.heap.size ≤ W.heap.size → I all none' W → Q .normal a W)
    (hstop : ∀ (c : Code) (pre : List α) (W : World), w.heap.size ≤ W.heap.size → pre <+: all → Ix c pre none' W → c.wpIn F n P Q a W) :
    (Code.rangeFunc g ps assign body).wpIn F n P Q a w := by
  refine wpIn_rangeFunc ?_
  intro fn hfn
  rw [hro]
  -- the loop's record, in each of its states
  obtain ⟨X0, hX0⟩ : ∃ X0 : LoopState → Option Code → Loop, X0 = fun st pe => { state := st, pending := pe, fn, tmps := a.tmps, params := ps, assign, body, defers := r₀.defers } := ⟨_, rfl⟩
  obtain ⟨V, hV⟩ : ∃ V, w.alloc (.loop (X0 .ready none)) = V := ⟨_, rfl⟩
  have book : V.heap[w.heap.size]? = some (.loop (X0 .ready none)) := by rw [← hV]; exact World.alloc_heap_new w _
  have low : Below w0.heap.size w0 V := by
    rw [← hV]; exact hb0.trans (((Below.refl _ w).alloc (Nat.le_refl _) _).mono hb0.size)
  have hVs : V.heap.size = w.heap.size + 1 := by rw [← hV]; simp
  have hKV : Kept (fun k => ¬ none' k) w V := by rw [← hV]; exact Kept.alloc _ _ _
  refine ⟨w.heap.size, [], V, { target := .fn (.func gf) lb, args := #[.func (.yield w.heap.size) #[] #[]] }, V, gf,
    #[.func (.yield w.heap.size) #[] #[]] ++ lb, V, ?_, ?_, ?_, ?_, fun _ => h1, ?_⟩
  · rw [← hV, hX0]; exact run_enterLoop_inner hl₀ _ _ _ _ _
  · simp only [resolve, hg]
    simp [go_sem]
  · intro f' hf'
    simp [Target.leads] at hf'
    subst hf'
    exact hFg
  · simp [invoke, go_sem, eg]
  clear hV
  have hVl : w.heap.size ≤ V.heap.size := by omega
  have iV := fun S' hS' => hI [] none' S' w V h0 (fun k hk => hk.elim) hKV hS'
  clear hKV h0
  obtain ⟨N, hN⟩ : ∃ N, N = w.heap.size := ⟨_, rfl⟩
  obtain ⟨U, hU⟩ : ∃ U : (Nat → Prop) → Nat → Prop, U = fun S k => S k ∨ k = N := ⟨_, rfl⟩
  have U1 : ∀ S, U S N := fun S => by rw [hU]; exact .inr rfl
  have U0 : ∀ S k, S k → U S k := fun S k h => by rw [hU]; exact .inl h
  have U3 : ∀ S k, U S k → S k ∨ k = N := fun S k h => by rw [hU] at h; exact h
  rw [← hN] at hI hIx hR hassign hbody hdone hstop hAx book hVs iV ⊢
  have iV0 : I [] (U none') V := iV _ (fun k hk => .inr (by rcases U3 _ k hk with h | h <;> first | exact False.elim h | omega))
  clear iV
  -- an invariant of the caller's, with the loop's two blocks beside it
  have lift : ∀ (A : List α → (Nat → Prop) → World → Prop) (o1 : Obj), Free N A → Free V.heap.size (fun pre S W => A pre (U S) W ∧ W.heap[N]? = some o1) := by
    intro A o1 hA pre S S' W W' ⟨ha, hl⟩ hS hK hS'
    have hlt := (Array.getElem?_eq_some_iff.1 hl).1
    refine ⟨hA pre (U S) (U S') W W' ha (fun k hk => ?_) (hK.mono (fun k _ hk hs => hk (U0 _ _ hs))) (fun k hk => ?_), hK.obj hl (fun h => ?_)⟩
    · rcases U3 _ k hk with h | h
      · have := hS k h; omega
      · omega
    · rcases U3 _ k hk with h | h
      · rcases hS' k h with h | h
        · exact .inl (U0 _ _ h)
        · exact .inr h
      · exact .inl (h ▸ U1 S)
    · have := (hS _ h).1; omega
  refine (hseq N
    (fun pre S W => I pre (U S) W ∧ W.heap[N]? = some (.loop (X0 .ready none)))
    (fun pre S W => ∃ c, Ix c pre (U S) W ∧ W.heap[N]? = some (.loop (X0 .done (some c))))
    V low (lift I _ hI) (fun pre S S' W W' ⟨c, h⟩ hS hK hS' => ⟨c, lift (Ix c) _ (hIx c) pre S S' W W' h hS hK hS'⟩)
    ?_ ⟨iV0, book⟩).mono ?_
  · rintro pre S x W ⟨hi, hl⟩ hW hS hnext
    have hlt0 : N < W.heap.size := (Array.getElem?_eq_some_iff.1 hl).1
    have hUS : ∀ k, U S k → N ≤ k ∧ k < W.heap.size := by
      intro k hk
      rcases U3 _ k hk with h | h
      · have := hS k h; omega
      · omega
    have hy := run_yield (P := P) (args := encs x) hl (by rw [hX0]; exact hps x)
    rw [hX0] at hy
    refine ⟨fn, _, assign, body, hy, roundIn_of_wpIn hfn (hassign _ pre (U S) x W _ hi (by omega) hUS hnext ?_)⟩
    clear hy
    intro a' X hkX hax
    have hl' := hkX.obj hl (.inr (U1 S))
    have hlt : N < X.heap.size := (Array.getElem?_eq_some_iff.1 hl').1
    refine ⟨_, run_beginRound hl' (by rw [hX0]), ?_⟩
    obtain ⟨Y, hY⟩ : ∃ Y, X.putObj (N) (.loop { X0 .ready none with state := .busy }) = Y := ⟨_, rfl⟩
    have hlY : Y.heap[N]? = some (.loop { X0 .ready none with state := .busy }) := by rw [← hY]; exact World.putObj_heap_same hlt
    have notR : ¬ (R (N) ∨ S (N)) := by
      rintro (h | h)
      · have := hR _ h; omega
      · have := (hS _ h).1; omega
    have hXY : Kept (fun k => R k ∨ S k) X Y := by rw [← hY]; exact Kept.putObj X notR _
    have hYs : Y.heap.size = X.heap.size := by rw [← hY]; simp [World.putObj]
    have hUX : ∀ k, U S k → N ≤ k ∧ k < X.heap.size := fun k hk => ⟨(hUS k hk).1, Nat.lt_of_lt_of_le (hUS k hk).2 hkX.size⟩
    have haY : Ax pre (U S) x a' Y := by rw [← hY]; exact hAx pre (U S) x a' X _ _ hax (U1 S) hUX
    have hWX := hkX.size
    rw [hY]
    refine wpIn_mono (hbody _ pre (U S) x a' _ (U1 S) ⟨_, hlY⟩ (by omega) (fun k hk => by have := hUX k hk; omega) hnext haY) ?_
    have fin : ∀ (jump : Option Code) (Z : World), Kept (fun k => R k ∨ U S k) Y Z →
        (Instr.endRound (N) jump).run P Z = .ok (.bool jump.isNone) (Z.putObj (N) (.loop (X0 (if jump.isNone then .ready else .done) jump))) ∧
        (Z.putObj (N) (.loop (X0 (if jump.isNone then .ready else .done) jump))).heap[N]? = some (.loop (X0 (if jump.isNone then .ready else .done) jump)) ∧
        Kept (fun k => R k ∨ S k) W (Z.putObj (N) (.loop (X0 (if jump.isNone then .ready else .done) jump))) ∧
        (∀ (A : List α → (Nat → Prop) → World → Prop) qs, Free N A → A qs (U S) Z → A qs (U S) (Z.putObj (N) (.loop (X0 (if jump.isNone then .ready else .done) jump)))) := by
      intro jump Z hkZ
      have hlZ := hkZ.obj hlY (.inr (U1 S))
      have hZs := hkZ.size
      have he := run_endRound (P := P) jump hlZ
      rw [hX0] at he ⊢
      have hO : ∀ k, R k ∨ S k → R k ∨ U S k := fun k h => h.elim .inl (fun h => .inr (U0 _ _ h))
      refine ⟨he, World.putObj_heap_same (Array.getElem?_eq_some_iff.1 hlZ).1,
        (((hkX.mono (fun k _ h => hO k h)).trans hXY).trans (hkZ.mono (fun k _ h => hO k h))).trans (Kept.putObj Z notR _), ?_⟩
      intro A qs hA ha
      exact hA qs (U S) (U S) Z _ ha (fun k hk => by have := hUX k hk; omega) (Kept.putObj Z (fun h => h (U1 S)) _) (fun k hk => .inl hk)
    have out : ∀ (c : Code) (Z : World), Kept (fun k => R k ∨ U S k) Y Z → Ix c (pre ++ [x]) (U S) Z → ∃ v Z', (Instr.endRound (N) (some c)).run P Z = .ok v Z' ∧ v = .bool false ∧ Kept (fun k => R k ∨ S k) W Z' ∧ ∃ c, Ix c (pre ++ [x]) (U S) Z' ∧ Z'.heap[N]? = some (.loop (X0 .done (some c))) := by
      intro c Z hkZ hiZ
      obtain ⟨f1, f3, f5, f6⟩ := fin (some c) Z hkZ
      exact ⟨_, _, f1, rfl, f5, c, f6 _ _ (hIx c) hiZ, f3⟩
    rintro e a3 Z hp
    cases e with
    | normal =>
      obtain ⟨hkZ, hiZ⟩ := hp
      obtain ⟨f1, f3, f5, f6⟩ := fin none Z hkZ
      exact ⟨_, _, f1, f5, .inl ⟨rfl, f6 _ _ hI hiZ, f3⟩⟩
    | ret =>
      obtain ⟨v, Z', e1, rfl, e2, e3⟩ := out .ret Z hp.1 hp.2
      exact ⟨_, _, e1, e2, .inr ⟨rfl, e3⟩⟩
    | exit id =>
      obtain ⟨v, Z', e1, rfl, e2, e3⟩ := out (.exit id) Z hp.1 hp.2
      exact ⟨_, _, e1, e2, .inr ⟨rfl, e3⟩⟩
    | goto t =>
      obtain ⟨v, Z', e1, rfl, e2, e3⟩ := out (.goto t) Z hp.1 hp.2
      exact ⟨_, _, e1, e2, .inr ⟨rfl, e3⟩⟩
    | panic ch => exact hp.elim
    | outgrown => exact hp.elim
  · have last : ∀ (A : List α → (Nat → Prop) → World → Prop) qs X o, Free N A → A qs (U none') X → X.heap[N]? = some o → ∀ o', A qs none' (X.putObj N o') := by
      intro A qs X o hA ha hl o'
      have hlt := (Array.getElem?_eq_some_iff.1 hl).1
      exact hA qs (U none') _ X _ ha (fun k hk => by rcases U3 _ k hk with h | h <;> first | exact False.elim h | omega) (Kept.putObj X (fun h => h (U1 _)) _) (fun k hk => False.elim hk)
    rintro e X ⟨⟨v, rfl⟩, (⟨hi, hl⟩ | ⟨pre, hpre, c, hi, hl⟩)⟩
    · have he := run_endLoop (P := P) hl (by rw [hX0]; simp)
      rw [hX0] at he
      have hlt := (Array.getElem?_eq_some_iff.1 hl).1
      exact ⟨none, _, he, hdone _ (by simp [World.putObj]; omega) (last I _ X _ hI hi hl _)⟩
    · have he := run_endLoop (P := P) hl (by rw [hX0]; simp)
      rw [hX0] at he
      have hlt := (Array.getElem?_eq_some_iff.1 hl).1
      exact ⟨some c, _, he, hstop c pre _ (by simp [World.putObj]; omega) hpre (last (Ix c) _ X _ (hIx c) hi hl _)⟩
end Go.Proofs.YteodfondjogmoaaGreatDoor
/- word's scanner: fits and begin. Conditions: those of the theorems. -/
namespace Go.Proofs.YteodfondjogmoaaGreatDoor
open Go Go.RowKit Go.Lib
set_option linter.unusedVariables false
set_option linter.unusedSimpArgs false
/-- a block of cells, as it lies -/
def Blk (W : World) (B : Nat) (t : TypeId) (c : Array Value) : Prop := W.heap[B]? = some (.cells c t (0, 0))
section
variable {W W' : World} {B : Nat} {t : TypeId} {c : Array Value}
theorem Blk.lt (h : Blk W B t c) : B < W.heap.size := (Array.getElem?_eq_some_iff.1 h).1
theorem Blk.cell (h : Blk W B t c) {k : Nat} {v : Value} (hk : c[k]? = some v) : W.cell? ⟨B, k, none⟩ = some v := by
  unfold Blk at h; simp [World.cell?, h, hk]
theorem Blk.froz (h : Blk W B t c) (k : Nat) : W.frozen? ⟨B, k, none⟩ = false := by
  unfold Blk at h; simp [World.frozen?, h]
theorem Blk.low (h : Blk W B t c) (hb : Below W.heap.size W W') : Blk W' B t c := (hb.block B h.lt).trans h
theorem Blk.keep {T : Nat → Prop} (h : Blk W B t c) (hb : Kept T W W') (hT : T B) : Blk W' B t c := (hb.block B h.lt hT).trans h
theorem Blk.new (W : World) (t : TypeId) (c : Array Value) : Blk (W.alloc (.cells c t)) W.heap.size t c := heap_alloc_new W _
theorem Blk.alloc (h : Blk W B t c) (o : Obj) : Blk (W.alloc o) B t c := h.low ((Below.refl _ _).alloc (Nat.le_refl _) _)
theorem Blk.drew (h : Blk W B t c) : Blk W.drew B t c := h
theorem Blk.other (h : Blk W B t c) {B' k : Nat} (hne : B ≠ B') (u : Value) : Blk (W.setCell ⟨B', k, none⟩ u) B t c :=
  (Below.heap_setCell W ⟨B', k, none⟩ u B hne).trans h
theorem Blk.set (h : Blk W B t c) (k : Nat) (u : Value) : Blk (W.setCell ⟨B, k, none⟩ u) B t (c.setIfInBounds k u) := by
  obtain ⟨hlt, hk⟩ := Array.getElem?_eq_some_iff.1 h
  show (W.heap.modify B _)[B]? = _
  rw [Array.getElem?_eq_getElem (by rw [Array.size_modify]; exact hlt), Array.getElem_modify_self, hk]
  rfl
end
theorem Blk.upd {W : World} {B : Nat} {t : TypeId} {c c' : Array Value} (h : Blk W B t c) (k : Nat) (u : Value) (hc : c.setIfInBounds k u = c') : Blk (W.setCell ⟨B, k, none⟩ u) B t c' := hc ▸ h.set k u
/-- what stands behind the text so far -/
structure Sc where
  st : Int
  kd : Int
  f : Int
  t : Int
  h : Un
abbrev Un.cells (u : Un) : Array Value := #[.int .i64 u.k, .int .i32 u.r, .int .i64 u.f, .int .i64 u.t, .bool u.al]
abbrev Sc.cells (s : Sc) : Array Value := #[.int .i64 s.st, .int .i64 s.kd, .int .i64 s.f, .int .i64 s.t, .int .i64 s.h.k, .int .i32 s.h.r, .int .i64 s.h.f, .int .i64 s.h.t, .bool s.h.al]
def fitsU (s : Sc) (u : Un) : Sc × Int :=
  if s.st = 1 ∨ s.st = 2 then
    if u.k = 1 then ({ s with st := 1 }, 1)
    else if s.st = 1 ∧ jointU u = true then ({ s with st := 2, h := u }, 2) else (s, 0)
  else if s.st = 3 ∨ s.st = 4 then
    if u.k = 3 then ({ s with st := 3 }, 1)
    else if s.st = 3 ∧ dotU u = true then ({ s with st := 4, h := u }, 2) else (s, 0)
  else if s.st = 5 then (s, if u.k = 5 then 1 else 0)
  else if s.st = 6 then (s, if u.k = 11 then 1 else 0)
  else if s.st = 8 then if u.k = 4 ∧ u.r = 10 then ({ s with st := 7 }, 1) else (s, 0)
  else (s, 0)
def beginU (u : Un) (h : Un) : Sc :=
  if u.k = 1 then ⟨1, 1, u.f, u.t, h⟩ else if u.k = 3 then ⟨3, 2, u.f, u.t, h⟩ else if u.k = 5 then ⟨5, 3, u.f, u.t, h⟩
  else if u.k = 11 then ⟨6, 7, u.f, u.t, h⟩ else if u.k = 4 then ⟨if u.r = 13 then 8 else 7, 4, u.f, u.t, h⟩
  else if u.k = 6 ∨ u.k = 7 ∨ u.k = 8 then ⟨9, 5, u.f, u.t, h⟩ else ⟨9, 6, u.f, u.t, h⟩
theorem beq_t {a b : Int} (h : a = b) : (a == b) = true := by subst h; exact beq_self_eq_true _
theorem beq_f {a b : Int} (h : ¬ a = b) : (a == b) = false := by simpa using h
theorem rki {a b : Int} (h : a = b) : Ending.returned (.int .i64 a) = Ending.returned (.int .i64 b) := by rw [h]
def Fits (sc : Sc) (u : Un) : Prop := ∀ (w : World) (b : Nat), Blk w b 256 sc.cells →
  Calls Tryz.prog 164 #[.pointer (some ⟨b, 0, none⟩), u.v] w fun e w' => e = .returned (.int .i64 (fitsU sc u).2) ∧ Blk w' b 256 (fitsU sc u).1.cells ∧ Kept (fun k => k ≠ b) w w'
def Beg (sc : Sc) (u : Un) : Prop := ∀ (w : World) (b : Nat), Blk w b 256 sc.cells →
  Calls Tryz.prog 166 #[.pointer (some ⟨b, 0, none⟩), u.v] w fun e w' => (∃ v, e = .returned v) ∧ Blk w' b 256 (beginU u sc.h).cells ∧ Kept (fun k => k ≠ b) w w'
section
variable {w : World} {b : Nat} {T : Nat → Prop}
end
/-- nothing fits: no store -/
theorem fits_no (sc : Sc) (u : Un) (h1 : ¬ sc.st = 1) (h2 : ¬ sc.st = 2) (h3 : ¬ sc.st = 3) (h4 : ¬ sc.st = 4) (h5 : ¬ sc.st = 5) (h6 : ¬ sc.st = 6) (h8 : ¬ sc.st = 8) : Fits sc u := by
  intro w b hB
  have hb := hB.lt
  obtain ⟨st, kd, f, t, h⟩ := sc
  obtain ⟨hk, hr, hf, ht, hal⟩ := h
  obtain ⟨k, r, uf, ut, al⟩ := u
  dsimp only at h1 h2 h3 h4 h5 h6 h8
  have e1 := beq_f h1
  have e2 := beq_f h2
  have e3 := beq_f h3
  have e4 := beq_f h4
  have e5 := beq_f h5
  have e6 := beq_f h6
  have e8 := beq_f h8
  have hv : Hid (fitsU ⟨st, kd, f, t, ⟨hk, hr, hf, ht, hal⟩⟩ ⟨k, r, uf, ut, al⟩ = (⟨st, kd, f, t, ⟨hk, hr, hf, ht, hal⟩⟩, 0)) := hid (by
    unfold fitsU; dsimp only; rw [if_neg (by omega), if_neg (by omega), if_neg h5, if_neg h6, if_neg h8])
  rw [hv.out]
  clear hv
  have c0 := hB.cell (k := 0) rfl
  have c1 := hB.cell (k := 1) rfl
  have c2 := hB.cell (k := 2) rfl
  have c3 := hB.cell (k := 3) rfl
  have c4 := hB.cell (k := 4) rfl
  have c5 := hB.cell (k := 5) rfl
  have c6 := hB.cell (k := 6) rfl
  have c7 := hB.cell (k := 7) rfl
  have c8 := hB.cell (k := 8) rfl
  have z0 := hB.froz 0
  have z1 := hB.froz 1
  have z2 := hB.froz 2
  have z3 := hB.froz 3
  have z4 := hB.froz 4
  have z5 := hB.froz 5
  have z6 := hB.froz 6
  have z7 := hB.froz 7
  have z8 := hB.froz 8
  try dsimp only at c0 c1 c2 c3 c4 c5 c6 c7 c8
  have HB := hid hB
  clear hB
  go_enter Tryz.func164, Tryz.ntmps164
  go_wp2_with fail
  go_ret
  exact ⟨rfl, HB.out.alloc _, Kept.alloc _ _ _⟩
theorem fits_1k (sc : Sc) (u : Un) (hs : sc.st = 1) (hk1 : u.k = 1) : Fits sc u := by
  intro w b hB
  have hb := hB.lt
  obtain ⟨st, kd, f, t, h⟩ := sc
  obtain ⟨hk, hr, hf, ht, hal⟩ := h
  obtain ⟨k, r, uf, ut, al⟩ := u
  dsimp only at hs
  subst hs
  dsimp only at hk1
  have e1 := beq_t hk1
  have hv : Hid (fitsU ⟨1, kd, f, t, ⟨hk, hr, hf, ht, hal⟩⟩ ⟨k, r, uf, ut, al⟩ = (⟨1, kd, f, t, ⟨hk, hr, hf, ht, hal⟩⟩, 1)) := hid (by
    unfold fitsU; simp [*])
  rw [hv.out]
  clear hv
  have c0 := hB.cell (k := 0) rfl
  have c1 := hB.cell (k := 1) rfl
  have c2 := hB.cell (k := 2) rfl
  have c3 := hB.cell (k := 3) rfl
  have c4 := hB.cell (k := 4) rfl
  have c5 := hB.cell (k := 5) rfl
  have c6 := hB.cell (k := 6) rfl
  have c7 := hB.cell (k := 7) rfl
  have c8 := hB.cell (k := 8) rfl
  have z0 := hB.froz 0
  have z1 := hB.froz 1
  have z2 := hB.froz 2
  have z3 := hB.froz 3
  have z4 := hB.froz 4
  have z5 := hB.froz 5
  have z6 := hB.froz 6
  have z7 := hB.froz 7
  have z8 := hB.froz 8
  try dsimp only at c0 c1 c2 c3 c4 c5 c6 c7 c8
  have HB := hid hB
  clear hB
  go_enter Tryz.func164, Tryz.ntmps164
  go_wp2_with fail
  go_ret
  exact ⟨rfl, (HB.out.upd 0 _ rfl).alloc _, (Kept.setCell w (p := ⟨b, 0, none⟩) (T := fun k => k ≠ b) (fun h => h rfl) _).trans (Kept.alloc _ _ _)⟩
theorem fits_2k (sc : Sc) (u : Un) (hs : sc.st = 2) (hk1 : u.k = 1) : Fits sc u := by
  intro w b hB
  have hb := hB.lt
  obtain ⟨st, kd, f, t, h⟩ := sc
  obtain ⟨hk, hr, hf, ht, hal⟩ := h
  obtain ⟨k, r, uf, ut, al⟩ := u
  dsimp only at hs
  subst hs
  dsimp only at hk1
  have e1 := beq_t hk1
  have hv : Hid (fitsU ⟨2, kd, f, t, ⟨hk, hr, hf, ht, hal⟩⟩ ⟨k, r, uf, ut, al⟩ = (⟨1, kd, f, t, ⟨hk, hr, hf, ht, hal⟩⟩, 1)) := hid (by
    unfold fitsU; simp [*])
  rw [hv.out]
  clear hv
  have c0 := hB.cell (k := 0) rfl
  have c1 := hB.cell (k := 1) rfl
  have c2 := hB.cell (k := 2) rfl
  have c3 := hB.cell (k := 3) rfl
  have c4 := hB.cell (k := 4) rfl
  have c5 := hB.cell (k := 5) rfl
  have c6 := hB.cell (k := 6) rfl
  have c7 := hB.cell (k := 7) rfl
  have c8 := hB.cell (k := 8) rfl
  have z0 := hB.froz 0
  have z1 := hB.froz 1
  have z2 := hB.froz 2
  have z3 := hB.froz 3
  have z4 := hB.froz 4
  have z5 := hB.froz 5
  have z6 := hB.froz 6
  have z7 := hB.froz 7
  have z8 := hB.froz 8
  try dsimp only at c0 c1 c2 c3 c4 c5 c6 c7 c8
  have HB := hid hB
  clear hB
  go_enter Tryz.func164, Tryz.ntmps164
  go_wp2_with fail
  go_ret
  exact ⟨rfl, (HB.out.upd 0 _ rfl).alloc _, (Kept.setCell w (p := ⟨b, 0, none⟩) (T := fun k => k ≠ b) (fun h => h rfl) _).trans (Kept.alloc _ _ _)⟩
theorem fits_2n (sc : Sc) (u : Un) (hs : sc.st = 2) (hk1 : ¬ u.k = 1) : Fits sc u := by
  intro w b hB
  have hb := hB.lt
  obtain ⟨st, kd, f, t, h⟩ := sc
  obtain ⟨hk, hr, hf, ht, hal⟩ := h
  obtain ⟨k, r, uf, ut, al⟩ := u
  dsimp only at hs
  subst hs
  dsimp only at hk1
  have e1 := beq_f hk1
  have hv : Hid (fitsU ⟨2, kd, f, t, ⟨hk, hr, hf, ht, hal⟩⟩ ⟨k, r, uf, ut, al⟩ = (⟨2, kd, f, t, ⟨hk, hr, hf, ht, hal⟩⟩, 0)) := hid (by
    unfold fitsU; simp [*])
  rw [hv.out]
  clear hv
  have c0 := hB.cell (k := 0) rfl
  have c1 := hB.cell (k := 1) rfl
  have c2 := hB.cell (k := 2) rfl
  have c3 := hB.cell (k := 3) rfl
  have c4 := hB.cell (k := 4) rfl
  have c5 := hB.cell (k := 5) rfl
  have c6 := hB.cell (k := 6) rfl
  have c7 := hB.cell (k := 7) rfl
  have c8 := hB.cell (k := 8) rfl
  have z0 := hB.froz 0
  have z1 := hB.froz 1
  have z2 := hB.froz 2
  have z3 := hB.froz 3
  have z4 := hB.froz 4
  have z5 := hB.froz 5
  have z6 := hB.froz 6
  have z7 := hB.froz 7
  have z8 := hB.froz 8
  try dsimp only at c0 c1 c2 c3 c4 c5 c6 c7 c8
  have HB := hid hB
  clear hB
  go_enter Tryz.func164, Tryz.ntmps164
  go_wp2_with fail
  go_ret
  exact ⟨rfl, HB.out.alloc _, Kept.alloc _ _ _⟩
theorem fits_1n (sc : Sc) (u : Un) (hs : sc.st = 1) (hk1 : ¬ u.k = 1) (hj : jointU u = false) : Fits sc u := by
  intro w b hB
  have hb := hB.lt
  obtain ⟨st, kd, f, t, h⟩ := sc
  obtain ⟨hk, hr, hf, ht, hal⟩ := h
  obtain ⟨k, r, uf, ut, al⟩ := u
  dsimp only at hs
  subst hs
  dsimp only at hk1
  have e1 := beq_f hk1
  have hC := hid (fun w => joint82 ⟨k, r, uf, ut, al⟩ w)
  rw [hj] at hC
  have hv : Hid (fitsU ⟨1, kd, f, t, ⟨hk, hr, hf, ht, hal⟩⟩ ⟨k, r, uf, ut, al⟩ = (⟨1, kd, f, t, ⟨hk, hr, hf, ht, hal⟩⟩, 0)) := hid (by
    unfold fitsU; simp [*])
  rw [hv.out]
  clear hv
  have c0 := hB.cell (k := 0) rfl
  have c1 := hB.cell (k := 1) rfl
  have c2 := hB.cell (k := 2) rfl
  have c3 := hB.cell (k := 3) rfl
  have c4 := hB.cell (k := 4) rfl
  have c5 := hB.cell (k := 5) rfl
  have c6 := hB.cell (k := 6) rfl
  have c7 := hB.cell (k := 7) rfl
  have c8 := hB.cell (k := 8) rfl
  have z0 := hB.froz 0
  have z1 := hB.froz 1
  have z2 := hB.froz 2
  have z3 := hB.froz 3
  have z4 := hB.froz 4
  have z5 := hB.froz 5
  have z6 := hB.froz 6
  have z7 := hB.froz 7
  have z8 := hB.froz 8
  try dsimp only at c0 c1 c2 c3 c4 c5 c6 c7 c8
  have HB := hid hB
  clear hB
  go_enter Tryz.func164, Tryz.ntmps164
  go_wp2_with (go_at_call 193; (with_reducible refine Calls.mono (hC.out _) ?_); rintro e w9 ⟨rfl, hb9⟩; have hb9 := hid hb9)
  go_ret
  exact ⟨rfl, (HB.out.alloc _).low hb9.out, (Kept.alloc _ _ _).trans (Kept.of_all hb9.out _)⟩
theorem fits_3k (sc : Sc) (u : Un) (hs : sc.st = 3) (hk1 : u.k = 3) : Fits sc u := by
  intro w b hB
  have hb := hB.lt
  obtain ⟨st, kd, f, t, h⟩ := sc
  obtain ⟨hk, hr, hf, ht, hal⟩ := h
  obtain ⟨k, r, uf, ut, al⟩ := u
  dsimp only at hs
  subst hs
  dsimp only at hk1
  have e1 := beq_t hk1
  have hv : Hid (fitsU ⟨3, kd, f, t, ⟨hk, hr, hf, ht, hal⟩⟩ ⟨k, r, uf, ut, al⟩ = (⟨3, kd, f, t, ⟨hk, hr, hf, ht, hal⟩⟩, 1)) := hid (by
    unfold fitsU; simp [*])
  rw [hv.out]
  clear hv
  have c0 := hB.cell (k := 0) rfl
  have c1 := hB.cell (k := 1) rfl
  have c2 := hB.cell (k := 2) rfl
  have c3 := hB.cell (k := 3) rfl
  have c4 := hB.cell (k := 4) rfl
  have c5 := hB.cell (k := 5) rfl
  have c6 := hB.cell (k := 6) rfl
  have c7 := hB.cell (k := 7) rfl
  have c8 := hB.cell (k := 8) rfl
  have z0 := hB.froz 0
  have z1 := hB.froz 1
  have z2 := hB.froz 2
  have z3 := hB.froz 3
  have z4 := hB.froz 4
  have z5 := hB.froz 5
  have z6 := hB.froz 6
  have z7 := hB.froz 7
  have z8 := hB.froz 8
  try dsimp only at c0 c1 c2 c3 c4 c5 c6 c7 c8
  have HB := hid hB
  clear hB
  go_enter Tryz.func164, Tryz.ntmps164
  go_wp2_with fail
  go_ret
  exact ⟨rfl, (HB.out.upd 0 _ rfl).alloc _, (Kept.setCell w (p := ⟨b, 0, none⟩) (T := fun k => k ≠ b) (fun h => h rfl) _).trans (Kept.alloc _ _ _)⟩
theorem fits_4k (sc : Sc) (u : Un) (hs : sc.st = 4) (hk1 : u.k = 3) : Fits sc u := by
  intro w b hB
  have hb := hB.lt
  obtain ⟨st, kd, f, t, h⟩ := sc
  obtain ⟨hk, hr, hf, ht, hal⟩ := h
  obtain ⟨k, r, uf, ut, al⟩ := u
  dsimp only at hs
  subst hs
  dsimp only at hk1
  have e1 := beq_t hk1
  have hv : Hid (fitsU ⟨4, kd, f, t, ⟨hk, hr, hf, ht, hal⟩⟩ ⟨k, r, uf, ut, al⟩ = (⟨3, kd, f, t, ⟨hk, hr, hf, ht, hal⟩⟩, 1)) := hid (by
    unfold fitsU; simp [*])
  rw [hv.out]
  clear hv
  have c0 := hB.cell (k := 0) rfl
  have c1 := hB.cell (k := 1) rfl
  have c2 := hB.cell (k := 2) rfl
  have c3 := hB.cell (k := 3) rfl
  have c4 := hB.cell (k := 4) rfl
  have c5 := hB.cell (k := 5) rfl
  have c6 := hB.cell (k := 6) rfl
  have c7 := hB.cell (k := 7) rfl
  have c8 := hB.cell (k := 8) rfl
  have z0 := hB.froz 0
  have z1 := hB.froz 1
  have z2 := hB.froz 2
  have z3 := hB.froz 3
  have z4 := hB.froz 4
  have z5 := hB.froz 5
  have z6 := hB.froz 6
  have z7 := hB.froz 7
  have z8 := hB.froz 8
  try dsimp only at c0 c1 c2 c3 c4 c5 c6 c7 c8
  have HB := hid hB
  clear hB
  go_enter Tryz.func164, Tryz.ntmps164
  go_wp2_with fail
  go_ret
  exact ⟨rfl, (HB.out.upd 0 _ rfl).alloc _, (Kept.setCell w (p := ⟨b, 0, none⟩) (T := fun k => k ≠ b) (fun h => h rfl) _).trans (Kept.alloc _ _ _)⟩
theorem fits_4n (sc : Sc) (u : Un) (hs : sc.st = 4) (hk1 : ¬ u.k = 3) : Fits sc u := by
  intro w b hB
  have hb := hB.lt
  obtain ⟨st, kd, f, t, h⟩ := sc
  obtain ⟨hk, hr, hf, ht, hal⟩ := h
  obtain ⟨k, r, uf, ut, al⟩ := u
  dsimp only at hs
  subst hs
  dsimp only at hk1
  have e1 := beq_f hk1
  have hv : Hid (fitsU ⟨4, kd, f, t, ⟨hk, hr, hf, ht, hal⟩⟩ ⟨k, r, uf, ut, al⟩ = (⟨4, kd, f, t, ⟨hk, hr, hf, ht, hal⟩⟩, 0)) := hid (by
    unfold fitsU; simp [*])
  rw [hv.out]
  clear hv
  have c0 := hB.cell (k := 0) rfl
  have c1 := hB.cell (k := 1) rfl
  have c2 := hB.cell (k := 2) rfl
  have c3 := hB.cell (k := 3) rfl
  have c4 := hB.cell (k := 4) rfl
  have c5 := hB.cell (k := 5) rfl
  have c6 := hB.cell (k := 6) rfl
  have c7 := hB.cell (k := 7) rfl
  have c8 := hB.cell (k := 8) rfl
  have z0 := hB.froz 0
  have z1 := hB.froz 1
  have z2 := hB.froz 2
  have z3 := hB.froz 3
  have z4 := hB.froz 4
  have z5 := hB.froz 5
  have z6 := hB.froz 6
  have z7 := hB.froz 7
  have z8 := hB.froz 8
  try dsimp only at c0 c1 c2 c3 c4 c5 c6 c7 c8
  have HB := hid hB
  clear hB
  go_enter Tryz.func164, Tryz.ntmps164
  go_wp2_with fail
  go_ret
  exact ⟨rfl, HB.out.alloc _, Kept.alloc _ _ _⟩
theorem fits_3n (sc : Sc) (u : Un) (hs : sc.st = 3) (hk1 : ¬ u.k = 3) (hj : dotU u = false) : Fits sc u := by
  intro w b hB
  have hb := hB.lt
  obtain ⟨st, kd, f, t, h⟩ := sc
  obtain ⟨hk, hr, hf, ht, hal⟩ := h
  obtain ⟨k, r, uf, ut, al⟩ := u
  dsimp only at hs
  subst hs
  dsimp only at hk1
  have e1 := beq_f hk1
  have hC := hid (fun w => dot83 ⟨k, r, uf, ut, al⟩ w)
  rw [hj] at hC
  have hv : Hid (fitsU ⟨3, kd, f, t, ⟨hk, hr, hf, ht, hal⟩⟩ ⟨k, r, uf, ut, al⟩ = (⟨3, kd, f, t, ⟨hk, hr, hf, ht, hal⟩⟩, 0)) := hid (by
    unfold fitsU; simp [*])
  rw [hv.out]
  clear hv
  have c0 := hB.cell (k := 0) rfl
  have c1 := hB.cell (k := 1) rfl
  have c2 := hB.cell (k := 2) rfl
  have c3 := hB.cell (k := 3) rfl
  have c4 := hB.cell (k := 4) rfl
  have c5 := hB.cell (k := 5) rfl
  have c6 := hB.cell (k := 6) rfl
  have c7 := hB.cell (k := 7) rfl
  have c8 := hB.cell (k := 8) rfl
  have z0 := hB.froz 0
  have z1 := hB.froz 1
  have z2 := hB.froz 2
  have z3 := hB.froz 3
  have z4 := hB.froz 4
  have z5 := hB.froz 5
  have z6 := hB.froz 6
  have z7 := hB.froz 7
  have z8 := hB.froz 8
  try dsimp only at c0 c1 c2 c3 c4 c5 c6 c7 c8
  have HB := hid hB
  clear hB
  go_enter Tryz.func164, Tryz.ntmps164
  go_wp2_with (go_at_call 194; (with_reducible refine Calls.mono (hC.out _) ?_); rintro e w9 ⟨rfl, hb9⟩; have hb9 := hid hb9)
  go_ret
  exact ⟨rfl, (HB.out.alloc _).low hb9.out, (Kept.alloc _ _ _).trans (Kept.of_all hb9.out _)⟩
theorem fits_5k (sc : Sc) (u : Un) (hs : sc.st = 5) (hk1 : u.k = 5) : Fits sc u := by
  intro w b hB
  have hb := hB.lt
  obtain ⟨st, kd, f, t, h⟩ := sc
  obtain ⟨hk, hr, hf, ht, hal⟩ := h
  obtain ⟨k, r, uf, ut, al⟩ := u
  dsimp only at hs
  subst hs
  dsimp only at hk1
  have e1 := beq_t hk1
  have hv : Hid (fitsU ⟨5, kd, f, t, ⟨hk, hr, hf, ht, hal⟩⟩ ⟨k, r, uf, ut, al⟩ = (⟨5, kd, f, t, ⟨hk, hr, hf, ht, hal⟩⟩, 1)) := hid (by
    unfold fitsU; simp [*])
  rw [hv.out]
  clear hv
  have c0 := hB.cell (k := 0) rfl
  have c1 := hB.cell (k := 1) rfl
  have c2 := hB.cell (k := 2) rfl
  have c3 := hB.cell (k := 3) rfl
  have c4 := hB.cell (k := 4) rfl
  have c5 := hB.cell (k := 5) rfl
  have c6 := hB.cell (k := 6) rfl
  have c7 := hB.cell (k := 7) rfl
  have c8 := hB.cell (k := 8) rfl
  have z0 := hB.froz 0
  have z1 := hB.froz 1
  have z2 := hB.froz 2
  have z3 := hB.froz 3
  have z4 := hB.froz 4
  have z5 := hB.froz 5
  have z6 := hB.froz 6
  have z7 := hB.froz 7
  have z8 := hB.froz 8
  try dsimp only at c0 c1 c2 c3 c4 c5 c6 c7 c8
  have HB := hid hB
  clear hB
  go_enter Tryz.func164, Tryz.ntmps164
  go_wp2_with fail
  go_ret
  exact ⟨rfl, HB.out.alloc _, Kept.alloc _ _ _⟩
theorem fits_5n (sc : Sc) (u : Un) (hs : sc.st = 5) (hk1 : ¬ u.k = 5) : Fits sc u := by
  intro w b hB
  have hb := hB.lt
  obtain ⟨st, kd, f, t, h⟩ := sc
  obtain ⟨hk, hr, hf, ht, hal⟩ := h
  obtain ⟨k, r, uf, ut, al⟩ := u
  dsimp only at hs
  subst hs
  dsimp only at hk1
  have e1 := beq_f hk1
  have hv : Hid (fitsU ⟨5, kd, f, t, ⟨hk, hr, hf, ht, hal⟩⟩ ⟨k, r, uf, ut, al⟩ = (⟨5, kd, f, t, ⟨hk, hr, hf, ht, hal⟩⟩, 0)) := hid (by
    unfold fitsU; simp [*])
  rw [hv.out]
  clear hv
  have c0 := hB.cell (k := 0) rfl
  have c1 := hB.cell (k := 1) rfl
  have c2 := hB.cell (k := 2) rfl
  have c3 := hB.cell (k := 3) rfl
  have c4 := hB.cell (k := 4) rfl
  have c5 := hB.cell (k := 5) rfl
  have c6 := hB.cell (k := 6) rfl
  have c7 := hB.cell (k := 7) rfl
  have c8 := hB.cell (k := 8) rfl
  have z0 := hB.froz 0
  have z1 := hB.froz 1
  have z2 := hB.froz 2
  have z3 := hB.froz 3
  have z4 := hB.froz 4
  have z5 := hB.froz 5
  have z6 := hB.froz 6
  have z7 := hB.froz 7
  have z8 := hB.froz 8
  try dsimp only at c0 c1 c2 c3 c4 c5 c6 c7 c8
  have HB := hid hB
  clear hB
  go_enter Tryz.func164, Tryz.ntmps164
  go_wp2_with fail
  go_ret
  exact ⟨rfl, HB.out.alloc _, Kept.alloc _ _ _⟩
theorem fits_6k (sc : Sc) (u : Un) (hs : sc.st = 6) (hk1 : u.k = 11) : Fits sc u := by
  intro w b hB
  have hb := hB.lt
  obtain ⟨st, kd, f, t, h⟩ := sc
  obtain ⟨hk, hr, hf, ht, hal⟩ := h
  obtain ⟨k, r, uf, ut, al⟩ := u
  dsimp only at hs
  subst hs
  dsimp only at hk1
  have e1 := beq_t hk1
  have hv : Hid (fitsU ⟨6, kd, f, t, ⟨hk, hr, hf, ht, hal⟩⟩ ⟨k, r, uf, ut, al⟩ = (⟨6, kd, f, t, ⟨hk, hr, hf, ht, hal⟩⟩, 1)) := hid (by
    unfold fitsU; simp [*])
  rw [hv.out]
  clear hv
  have c0 := hB.cell (k := 0) rfl
  have c1 := hB.cell (k := 1) rfl
  have c2 := hB.cell (k := 2) rfl
  have c3 := hB.cell (k := 3) rfl
  have c4 := hB.cell (k := 4) rfl
  have c5 := hB.cell (k := 5) rfl
  have c6 := hB.cell (k := 6) rfl
  have c7 := hB.cell (k := 7) rfl
  have c8 := hB.cell (k := 8) rfl
  have z0 := hB.froz 0
  have z1 := hB.froz 1
  have z2 := hB.froz 2
  have z3 := hB.froz 3
  have z4 := hB.froz 4
  have z5 := hB.froz 5
  have z6 := hB.froz 6
  have z7 := hB.froz 7
  have z8 := hB.froz 8
  try dsimp only at c0 c1 c2 c3 c4 c5 c6 c7 c8
  have HB := hid hB
  clear hB
  go_enter Tryz.func164, Tryz.ntmps164
  go_wp2_with fail
  go_ret
  exact ⟨rfl, HB.out.alloc _, Kept.alloc _ _ _⟩
theorem fits_6n (sc : Sc) (u : Un) (hs : sc.st = 6) (hk1 : ¬ u.k = 11) : Fits sc u := by
  intro w b hB
  have hb := hB.lt
  obtain ⟨st, kd, f, t, h⟩ := sc
  obtain ⟨hk, hr, hf, ht, hal⟩ := h
  obtain ⟨k, r, uf, ut, al⟩ := u
  dsimp only at hs
  subst hs
  dsimp only at hk1
  have e1 := beq_f hk1
  have hv : Hid (fitsU ⟨6, kd, f, t, ⟨hk, hr, hf, ht, hal⟩⟩ ⟨k, r, uf, ut, al⟩ = (⟨6, kd, f, t, ⟨hk, hr, hf, ht, hal⟩⟩, 0)) := hid (by
    unfold fitsU; simp [*])
  rw [hv.out]
  clear hv
  have c0 := hB.cell (k := 0) rfl
  have c1 := hB.cell (k := 1) rfl
  have c2 := hB.cell (k := 2) rfl
  have c3 := hB.cell (k := 3) rfl
  have c4 := hB.cell (k := 4) rfl
  have c5 := hB.cell (k := 5) rfl
  have c6 := hB.cell (k := 6) rfl
  have c7 := hB.cell (k := 7) rfl
  have c8 := hB.cell (k := 8) rfl
  have z0 := hB.froz 0
  have z1 := hB.froz 1
  have z2 := hB.froz 2
  have z3 := hB.froz 3
  have z4 := hB.froz 4
  have z5 := hB.froz 5
  have z6 := hB.froz 6
  have z7 := hB.froz 7
  have z8 := hB.froz 8
  try dsimp only at c0 c1 c2 c3 c4 c5 c6 c7 c8
  have HB := hid hB
  clear hB
  go_enter Tryz.func164, Tryz.ntmps164
  go_wp2_with fail
  go_ret
  exact ⟨rfl, HB.out.alloc _, Kept.alloc _ _ _⟩
theorem fits_8k (sc : Sc) (u : Un) (hs : sc.st = 8) (hk1 : u.k = 4) (hr1 : u.r = 10) : Fits sc u := by
  intro w b hB
  have hb := hB.lt
  obtain ⟨st, kd, f, t, h⟩ := sc
  obtain ⟨hk, hr, hf, ht, hal⟩ := h
  obtain ⟨k, r, uf, ut, al⟩ := u
  dsimp only at hs
  subst hs
  dsimp only at hk1
  have e1 := beq_t hk1
  dsimp only at hr1
  have e2 := beq_t hr1
  have hv : Hid (fitsU ⟨8, kd, f, t, ⟨hk, hr, hf, ht, hal⟩⟩ ⟨k, r, uf, ut, al⟩ = (⟨7, kd, f, t, ⟨hk, hr, hf, ht, hal⟩⟩, 1)) := hid (by
    unfold fitsU; simp [*])
  rw [hv.out]
  clear hv
  have c0 := hB.cell (k := 0) rfl
  have c1 := hB.cell (k := 1) rfl
  have c2 := hB.cell (k := 2) rfl
  have c3 := hB.cell (k := 3) rfl
  have c4 := hB.cell (k := 4) rfl
  have c5 := hB.cell (k := 5) rfl
  have c6 := hB.cell (k := 6) rfl
  have c7 := hB.cell (k := 7) rfl
  have c8 := hB.cell (k := 8) rfl
  have z0 := hB.froz 0
  have z1 := hB.froz 1
  have z2 := hB.froz 2
  have z3 := hB.froz 3
  have z4 := hB.froz 4
  have z5 := hB.froz 5
  have z6 := hB.froz 6
  have z7 := hB.froz 7
  have z8 := hB.froz 8
  try dsimp only at c0 c1 c2 c3 c4 c5 c6 c7 c8
  have HB := hid hB
  clear hB
  go_enter Tryz.func164, Tryz.ntmps164
  go_wp2_with fail
  go_ret
  exact ⟨rfl, (HB.out.upd 0 _ rfl).alloc _, (Kept.setCell w (p := ⟨b, 0, none⟩) (T := fun k => k ≠ b) (fun h => h rfl) _).trans (Kept.alloc _ _ _)⟩
theorem fits_8r (sc : Sc) (u : Un) (hs : sc.st = 8) (hk1 : u.k = 4) (hr1 : ¬ u.r = 10) : Fits sc u := by
  intro w b hB
  have hb := hB.lt
  obtain ⟨st, kd, f, t, h⟩ := sc
  obtain ⟨hk, hr, hf, ht, hal⟩ := h
  obtain ⟨k, r, uf, ut, al⟩ := u
  dsimp only at hs
  subst hs
  dsimp only at hk1
  have e1 := beq_t hk1
  dsimp only at hr1
  have e2 := beq_f hr1
  have hv : Hid (fitsU ⟨8, kd, f, t, ⟨hk, hr, hf, ht, hal⟩⟩ ⟨k, r, uf, ut, al⟩ = (⟨8, kd, f, t, ⟨hk, hr, hf, ht, hal⟩⟩, 0)) := hid (by
    unfold fitsU; simp [*])
  rw [hv.out]
  clear hv
  have c0 := hB.cell (k := 0) rfl
  have c1 := hB.cell (k := 1) rfl
  have c2 := hB.cell (k := 2) rfl
  have c3 := hB.cell (k := 3) rfl
  have c4 := hB.cell (k := 4) rfl
  have c5 := hB.cell (k := 5) rfl
  have c6 := hB.cell (k := 6) rfl
  have c7 := hB.cell (k := 7) rfl
  have c8 := hB.cell (k := 8) rfl
  have z0 := hB.froz 0
  have z1 := hB.froz 1
  have z2 := hB.froz 2
  have z3 := hB.froz 3
  have z4 := hB.froz 4
  have z5 := hB.froz 5
  have z6 := hB.froz 6
  have z7 := hB.froz 7
  have z8 := hB.froz 8
  try dsimp only at c0 c1 c2 c3 c4 c5 c6 c7 c8
  have HB := hid hB
  clear hB
  go_enter Tryz.func164, Tryz.ntmps164
  go_wp2_with fail
  go_ret
  exact ⟨rfl, HB.out.alloc _, Kept.alloc _ _ _⟩
theorem fits_8n (sc : Sc) (u : Un) (hs : sc.st = 8) (hk1 : ¬ u.k = 4) : Fits sc u := by
  intro w b hB
  have hb := hB.lt
  obtain ⟨st, kd, f, t, h⟩ := sc
  obtain ⟨hk, hr, hf, ht, hal⟩ := h
  obtain ⟨k, r, uf, ut, al⟩ := u
  dsimp only at hs
  subst hs
  dsimp only at hk1
  have e1 := beq_f hk1
  have hv : Hid (fitsU ⟨8, kd, f, t, ⟨hk, hr, hf, ht, hal⟩⟩ ⟨k, r, uf, ut, al⟩ = (⟨8, kd, f, t, ⟨hk, hr, hf, ht, hal⟩⟩, 0)) := hid (by
    unfold fitsU; simp [*])
  rw [hv.out]
  clear hv
  have c0 := hB.cell (k := 0) rfl
  have c1 := hB.cell (k := 1) rfl
  have c2 := hB.cell (k := 2) rfl
  have c3 := hB.cell (k := 3) rfl
  have c4 := hB.cell (k := 4) rfl
  have c5 := hB.cell (k := 5) rfl
  have c6 := hB.cell (k := 6) rfl
  have c7 := hB.cell (k := 7) rfl
  have c8 := hB.cell (k := 8) rfl
  have z0 := hB.froz 0
  have z1 := hB.froz 1
  have z2 := hB.froz 2
  have z3 := hB.froz 3
  have z4 := hB.froz 4
  have z5 := hB.froz 5
  have z6 := hB.froz 6
  have z7 := hB.froz 7
  have z8 := hB.froz 8
  try dsimp only at c0 c1 c2 c3 c4 c5 c6 c7 c8
  have HB := hid hB
  clear hB
  go_enter Tryz.func164, Tryz.ntmps164
  go_wp2_with fail
  go_ret
  exact ⟨rfl, HB.out.alloc _, Kept.alloc _ _ _⟩
end Go.Proofs.YteodfondjogmoaaGreatDoor
