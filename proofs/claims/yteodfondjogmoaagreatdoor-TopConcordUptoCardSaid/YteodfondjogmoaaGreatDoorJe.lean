/- A poem in memory; Poem.Each as an iterator. Conditions: those of each theorem. -/
import Derived.Test.YteodfondjogmoaaGreatDoorJc
import Derived.StillTail
import Derived.Deep.Quiet
import Derived.Below
import Derived.WalkKit
import Derived.RangeFuncNested
import Derived.RangeFuncCalls
import Derived.RangeFuncFrom
import Derived.OrdersIn
import Derived.OwnWalkIn
namespace Go.Proofs.YteodfondjogmoaaGreatDoor
open Go Go.RowKit Go.Lib Go.Shelf
set_option linter.unusedVariables false
set_option linter.unusedSimpArgs false
attribute [local go_sem] Oper.semAt_some
/-- a line of verse -/
structure Vs where
  tx : ByteArray
  a : Int
  b : Int
  c : Int
  f : Int
  t : Int
abbrev Vs.v (x : Vs) : Value := .agg #[.string x.tx, .int .i64 x.a, .int .i64 x.b, .int .i64 x.c, .int .i64 x.f, .int .i64 x.t]
abbrev Vs.cells (x : Vs) : Array Value := #[.string x.tx, .int .i64 x.a, .int .i64 x.b, .int .i64 x.c, .int .i64 x.f, .int .i64 x.t]
def VsAt (w : World) (g k : Nat) (v : Vs) : Prop := w.cell? ⟨g, k * 6, none⟩ = some (.string v.tx) ∧ w.cell? ⟨g, k * 6 + 1, none⟩ = some (.int .i64 v.a) ∧ w.cell? ⟨g, k * 6 + 2, none⟩ = some (.int .i64 v.b) ∧ w.cell? ⟨g, k * 6 + 3, none⟩ = some (.int .i64 v.c) ∧ w.cell? ⟨g, k * 6 + 4, none⟩ = some (.int .i64 v.f) ∧ w.cell? ⟨g, k * 6 + 5, none⟩ = some (.int .i64 v.t)
/-- a poem's lines in memory -/
structure PmAt (w : World) (pb g : Nat) (a : Option Addr) (cap : Nat) (L : List Vs) : Prop where
  c1 : w.cell? ⟨pb, 1, none⟩ = some (.slice a L.length cap)
  ha : L = [] ∨ a = some ⟨g, 0, none⟩
  row : ∀ k v, L[k]? = some v → VsAt w g k v
theorem PmAt.keep {T : Nat → Prop} {w w' : World} {pb g cap : Nat} {a : Option Addr} {L : List Vs} (h : PmAt w pb g a cap L) (hk : Kept T w w') (h1 : T pb) (h2 : T g) : PmAt w' pb g a cap L :=
  ⟨hk.cell h.c1 h1, h.ha, fun k v hv => by
    obtain ⟨a0, a1, a2, a3, a4, a5⟩ := h.row k v hv
    exact ⟨hk.cell a0 h2, hk.cell a1 h2, hk.cell a2 h2, hk.cell a3 h2, hk.cell a4 h2, hk.cell a5 h2⟩⟩
theorem PmAt.low {w w' : World} {pb g cap : Nat} {a : Option Addr} {L : List Vs} (h : PmAt w pb g a cap L) (hb : Below w.heap.size w w') : PmAt w' pb g a cap L := h.keep (Kept.of_all hb (fun _ => True)) trivial trivial
def eachL : Nat → List Vs → List (Nat × Vs)
  | _, [] => []
  | k, v :: r => (k, v) :: eachL (k + 1) r
theorem each11 (p : Option Addr) (w : World) : Calls Tryz.prog 92 #[.pointer p] w fun e w' => e = .returned (.func (.func 132) #[] #[.pointer (some ⟨w.heap.size, 0, none⟩)]) ∧ w' = w.alloc (.cells #[.pointer p] 94) := by
  go_enter Tryz.func92, Tryz.ntmps92
  go_wp2_with fail
  go_ret
  exact ⟨rfl, rfl⟩
set_option maxHeartbeats 4000000 in
theorem each37 (L : List Vs) (hL : L.length ≤ 70000) (pb g cap : Nat) (a : Option Addr) (l kb : Nat) (RR : Nat → Prop) (hR : RR kb ∧ RR pb ∧ RR g) (J Jx : List (Nat × Vs) → (Nat → Prop) → World → Prop) (W : World) (hJ : Free W.heap.size J) (hX : Free W.heap.size Jx)
    (hY : ∀ pre S x W1, J pre S W1 → W.heap.size ≤ W1.heap.size → (∀ k, S k → W.heap.size ≤ k ∧ k < W1.heap.size) → pre ++ [x] <+: eachL 0 L → YieldAt Fence.wide 8 Tryz.prog l #[.int .i64 x.1, x.2.v] W1 fun e W' =>
      Kept (fun k => RR k ∨ S k) W1 W' ∧ ((e = .returned (.bool true) ∧ J (pre ++ [x]) S W') ∨ (e = .returned (.bool false) ∧ Jx (pre ++ [x]) S W')))
    (hc : W.cell? ⟨kb, 0, none⟩ = some (.pointer (some ⟨pb, 0, none⟩))) (hP : PmAt W pb g a cap L) (h0 : J [] none' W) :
    CallsIn Fence.wide 9 Tryz.prog 132 #[.func (.yield l) #[] #[], .pointer (some ⟨kb, 0, none⟩)] W fun e W' => (∃ v, e = .returned v) ∧ (J (eachL 0 L) none' W' ∨ (∃ pre, pre <+: eachL 0 L ∧ Jx pre none' W')) := by
  have hkb : kb < W.heap.size := World.block_lt_of_cell? W _ hc
  have c1 := hP.c1
  have HR := hid hR
  have HJ := hid hJ
  have HX := hid hX
  have HY := hid hY
  have H0 := hid h0
  have HP := hid hP
  clear hR hJ hX hY h0 hP
  refine callsIn_of_wp Tryz.func132 rfl trivial ?_ rfl
  simp only [Tryz.ntmps132, List.size_toArray, List.length_cons, List.length_nil, Nat.reduceAdd, Nat.reduceSub, Array.replicate_succ, Array.replicate_zero, List.push_toArray, List.append_toArray, List.nil_append, List.cons_append]
  gi_wp2_with fail
  obtain ⟨n, hn⟩ : ∃ n, L.length = n := ⟨_, rfl⟩
  rw [hn] at hL ⊢
  have HN := hid hn
  clear hn c1
  gi_loopw [13] (fun i wr => ∃ (k : Nat) (ps : List (Nat × Vs)), k ≤ n ∧ i = .int .i64 k ∧ Hid (eachL 0 L = ps ++ eachL k (L.drop k)) ∧ Hid (J ps none' wr) ∧ Hid (PmAt wr pb g a cap L) ∧ W.heap.size ≤ wr.heap.size) (fun i wr => n - (intOf i).toNat)
  case atStart => exact ⟨0, [], Nat.zero_le _, rfl, hid rfl, H0, HP, Nat.le_refl _⟩
  case round =>
    obtain ⟨k, ps, hk, rfl, hE, hJs, hPs, hIl⟩ := hrel
    by_cases hp : k < n
    · obtain ⟨v, hv⟩ : ∃ v, L[k]? = some v := ⟨_, List.getElem?_eq_getElem (by rw [HN.out]; exact hp)⟩
      have ha : a = some ⟨g, 0, none⟩ := hPs.out.ha.resolve_left (fun h => by rw [h] at hv; cases hv)
      obtain ⟨q0, q1, q2, q3, q4, q5⟩ := hPs.out.row k v hv
      have hE2 : Hid (eachL 0 L = (ps ++ [(k, v)]) ++ eachL (k + 1) (L.drop (k + 1))) := by
        have hd : L.drop k = v :: L.drop (k + 1) := by
          obtain ⟨h1, h2⟩ := List.getElem?_eq_some_iff.1 hv
          rw [List.drop_eq_getElem_cons h1, h2]
        rw [hE.out, hd, List.append_assoc]
        exact hid rfl
      have hpre : Hid (ps ++ [(k, v)] <+: eachL 0 L) := hid ⟨_, hE2.out.symm⟩
      have hkI : (k : Int) < n := by omega
      have hJ2 : J ps none' (wr.alloc (.cells v.cells 136)) := HJ.out _ _ _ _ _ hJs.out (fun k h => h.elim) (Kept.alloc _ _ _) (fun k h => h.elim)
      obtain ⟨fn, tmps, assign, body, hy, hRd2⟩ := HY.out _ _ (k, v) _ hJ2 (by rw [World.size_alloc]; omega) (fun k h => h.elim) hpre.out
      have hP2 := hid (hPs.out.low ((Below.refl _ wr).alloc (Nat.le_refl _) (.cells v.cells 136)))
      have hs2 : W.heap.size ≤ (wr.alloc (.cells v.cells 136)).heap.size := by rw [World.size_alloc]; omega
      obtain ⟨tx, va, vb, vc, vf, vt⟩ := v
      dsimp only at q0 q1 q2 q3 q4 q5
      change (Instr.yield l #[.int .i64 k, .agg #[.string tx, .int .i64 va, .int .i64 vb, .int .i64 vc, .int .i64 vf, .int .i64 vt]]).run Tryz.prog (wr.alloc (.cells #[.string tx, .int .i64 va, .int .i64 vb, .int .i64 vc, .int .i64 vf, .int .i64 vt] 136)) = _ at hy
      have HRd := hid hRd2
      have hS2 := hid hs2
      subst ha
      clear hJ2 hE hJs hPs hRd2 hs2 hv
      gi_wp2_with fail
      refine (RoundIn.wide HRd.out).mono ?_
      rintro e W3 ⟨hk3, (⟨rfl, hJ3⟩ | ⟨rfl, hJx3⟩)⟩
      · have G2 := hid (hP2.out.keep hk3 (.inl HR.out.2.1) (.inl HR.out.2.2))
        have G3 : W.heap.size ≤ W3.heap.size := Nat.le_trans hS2.out hk3.size
        have GJ := hid hJ3
        clear hk3 hJ3 hy q0 q1 q2 q3 q4 q5
        gi_wp2_with fail
        go_roundw
        case rel => exact ⟨k + 1, _, by omega, by go_num, hE2, GJ, G2, G3⟩
        case measure => simp [intOf]; omega
      · have GX := hid hJx3
        clear hk3 hJx3 hy q0 q1 q2 q3 q4 q5
        gi_wp2_with fail
        refine bodyPost_ret (results_none rfl _ _ _) rfl ?_
        exact ⟨⟨_, rfl⟩, .inr ⟨_, hpre.out, GX.out⟩⟩
    · obtain rfl : k = n := by omega
      have hJ9 : Hid (J (eachL 0 L) none' wr) := by
        rw [hE.out, List.drop_eq_nil_of_le (by rw [HN.out]; exact Nat.le_refl _)]
        show Hid (J (ps ++ []) none' wr)
        rw [List.append_nil]
        exact hJs
      clear hE hJs
      gi_wp2_with fail
      go_end0
      exact ⟨⟨_, rfl⟩, .inl hJ9.out⟩
theorem each_seq (L : List Vs) (hL : L.length ≤ 70000) (pb g cap : Nat) (a : Option Addr) (kb : Nat) (w : World) (hc : w.cell? ⟨kb, 0, none⟩ = some (.pointer (some ⟨pb, 0, none⟩))) (hP : PmAt w pb g a cap L) :
    SeqS Fence.wide 9 Tryz.prog 132 #[.pointer (some ⟨kb, 0, none⟩)] (fun x => #[.int .i64 x.1, x.2.v]) (fun k => k = kb ∨ k = pb ∨ k = g) (eachL 0 L) w := fun l J Jx W hW hJ hX hY h0 =>
  each37 L hL pb g cap a l kb (fun k => k = kb ∨ k = pb ∨ k = g) ⟨.inl rfl, .inr (.inl rfl), .inr (.inr rfl)⟩ J Jx W hJ hX hY ((hW.cell (p := ⟨kb, 0, none⟩) (World.block_lt_of_cell? w _ hc)).trans hc) (hP.low hW) h0
end Go.Proofs.YteodfondjogmoaaGreatDoor
/- A region of code that draws its order, whose first n operations read or call what only makes new memory, and whose last ones stand in one forced order: it is enough to walk it once, in the text's order. Conditions: the program follows mixed orders; the order of the region passes the check lexTailB. -/
namespace Go.Proofs.YteodfondjogmoaaGreatDoor.C
open Go Go.RowKit
set_option linter.unusedVariables false
section
variable {P : Program} {ops : Array Oper} {C : World → Prop} {n : Nat}

/-- Whatever order is drawn, till all of the first n operations have come up. -/
def AnyHead (P : Program) (ops : Array Oper) (C : World → Prop) (n : Nat) (E : Array Bool → Act → Prop) : Nat → Array Bool → Act → Prop
  | 0, T, a => E T a
  | f + 1, T, a => (Region.ready .any ops T ≠ [] ∧ ∀ i, i ∈ Region.ready .any ops T → i < n) ∧
      ∀ i, i ∈ Region.ready .any ops T → qOp P ops C i (AnyHead P ops C n E f (T.setIfInBounds i true)) a

theorem AnyHead.sound {E : Array Bool → Act → Prop} {Q : Exit → Act → World → Prop} {g : Nat}
    (hE : ∀ T a w, C w → E T a → wpAny P .any ops Q g T a w) (f : Nat) :
    ∀ T a w, C w → AnyHead P ops C n E f T a → wpAny P .any ops Q (g + f) T a w := by
  induction f with
  | zero => exact fun T a w hw h => hE T a w hw h
  | succ f ih =>
    intro T a w hw h
    refine ⟨fun h0 => absurd h0 h.1.1, fun i hi => ?_⟩
    exact wpOp_of_qOp hw (fun a' w' hw' h' => ih _ a' w' hw' h') (h.2 i hi)

/-- A quiet operation that may come up now may as well come first. -/
theorem AnyHead.first {E : Array Bool → Act → Prop} (hsel : Region.noSelect ops = true) (hs : Region.sinkB .any ops n = true) (hc : Region.chainB .any ops n = true) (hn : n < ops.size)
    (hE : ∀ T a, E T a → ∀ j, j ∈ Region.ready .any ops T → n ≤ j) {i : Nat} {o : Oper} {v : Value} (ho : ops[i]? = some o) (hin : i < n) (f : Nat) :
    ∀ T a, HeadInv .any ops n T → i ∈ Region.ready .any ops T →
      (∀ j x, ops[j]? = some x → j ≠ i → T.getD j true = false → (∀ e ∈ x.after, Region.binds .any e = true → e.on ≠ i) → o.apart ops x = true) →
      YieldsIn P ops C o v a → AnyHead P ops C n E f (T.setIfInBounds i true) (a.put o.dst v) → AnyHead P ops C n E (f + 1) T a := by
  have nosel := Region.noSelect_spec hsel
  induction f with
  | zero =>
    intro T a inv hi hap hy h
    have hlt : ∀ j, j ∈ Region.ready .any ops T → j < n := fun j hj =>
      Nat.lt_of_not_le fun hnj => tail_waits hs hc hn inv _ i rfl hin (mem_ready.1 hi).1 j hnj hj
    refine ⟨⟨fun h0 => by simp [h0] at hi, hlt⟩, fun j hj => ?_⟩
    rcases Nat.decEq j i with hne | rfl
    · exact absurd (hlt j hj) (Nat.not_lt.2 (hE _ _ h j (ready_mono hj hne)))
    · exact hy.qOp ho h
  | succ f ih =>
    intro T a inv hi hap hy h
    have hun := (mem_ready.1 hi).1
    have hlt : ∀ j, j ∈ Region.ready .any ops T → j < n := fun j hj =>
      Nat.lt_of_not_le fun hnj => tail_waits hs hc hn inv _ i rfl hin hun j hnj hj
    refine ⟨⟨fun h0 => by simp [h0] at hi, hlt⟩, fun j hj => ?_⟩
    rcases Nat.decEq j i with hne | rfl
    · obtain ⟨hjun, x, hx, hwait⟩ := mem_ready.1 hj
      have hno : ∀ e ∈ x.after, Region.binds .any e = true → e.on ≠ i := fun e he hb h1 => by
        have h2 := hwait e he hb
        rw [h1, getD_both hun] at h2
        exact Bool.false_ne_true h2
      refine qOp_mono (fun a' h' => ?_) (qOp_put hx (hap j x hx hne hjun hno) (fun cs b => nosel i o cs b ho) (fun cs b => nosel j x cs b hx) hy (h.2 j (ready_mono hj hne)))
      refine ih _ a' (inv.set hj (hlt j hj)) (ready_mono hi (Ne.symm hne)) (fun k y hk hki hkT hky => ?_) h'.1 ?_
      · refine hap k y hk hki ?_ hky
        rcases Nat.decEq j k with hjk | rfl
        · rwa [getD_set_ne true hjk] at hkT
        · exact hjun
      · rw [Array.setIfInBounds_comm _ _ hne]
        exact h'.2
    · exact hy.qOp ho h

theorem AnyHead.text {g : Nat} {L : Act → Prop} (hsel : Region.noSelect ops = true) (hs : Region.sinkB .any ops n = true) (hc : Region.chainB .any ops n = true) (hn : n < ops.size) (l : List Oper) :
    ∀ k T a, (∀ j, j < l.length → ops[k + j]? = l[j]?) → k + l.length = n → HeadInv .any ops n T → Region.lexHead .any ops g l.length k T = true →
      wpQuiet P ops C L l a → AnyHead P ops C n (fun T' a' => Region.seqB .any ops g n T' = true ∧ L a') l.length T a := by
  induction l with
  | nil =>
    intro k T a _ hk _ hB h
    obtain rfl : k = n := hk
    exact ⟨hB, h⟩
  | cons o l ih =>
    intro k T a hl hk inv hB h
    have h0 : ops[k]? = some o := by have := hl 0 (by simp); simpa using this
    simp only [List.length_cons, Region.lexHead, Bool.and_eq_true, List.contains_iff_mem] at hB
    simp only [List.length_cons] at hk
    have hkn : k < n := by omega
    obtain ⟨v, hy, h2⟩ := yieldsIn_of_qOp (P := P) (C := C) h0 (a := a) (K := wpQuiet P ops C L l) (by unfold qOp; rw [h0]; exact h)
    refine AnyHead.first hsel hs hc hn (fun T' a' hT => seqB_ready hT.1) h0 hkn l.length T a inv hB.1.1 (Region.free_spec h0 hB.1.2) hy ?_
    refine ih (k + 1) _ _ (fun j hj => ?_) (by omega) (inv.set hB.1.1 hkn) hB.2 h2
    have := hl (j + 1) (by simp; omega)
    simpa [Nat.add_assoc, Nat.add_comm 1 j] using this
end

/-- THE LAW: a region that draws its order, walked once. -/
theorem quiet_tail {P : Program} {C : World → Prop} {id : Nat} {Q : Exit → Act → World → Prop} {a : Act} {w : World} {l : List Oper} (n : Nat) (hm : P.follows .mixedOrders = true) (hB : Region.lexTailB .any l.toArray n = true) (hC : C w.drew)
    (h : wpQuiet P l.toArray C (fun a' => ∀ w', C w' → wpList P l.toArray Q (l.drop n) a' w') (l.take n) a) : (Code.region id l.toArray true).wp P Q a w := by
  simp only [Region.lexTailB, Bool.and_eq_true, decide_eq_true_eq] at hB
  have hn := hB.1.1.1.2
  have hsz : l.toArray.size = l.length := by simp
  have htl : (l.take n).length = n := by rw [List.length_take]; omega
  have inv : HeadInv .any l.toArray n (Array.replicate l.toArray.size false) :=
    ⟨Array.size_replicate, fun j x _ hT => (by rw [getD_replicate_false] at hT; cases hT), fun t _ ht => getD_in (by rw [Array.size_replicate]; exact ht) (getD_replicate_false _ _)⟩
  have hh := AnyHead.text (P := P) (C := C) (g := l.toArray.size - n) hB.1.1.1.1 hB.1.1.2 hB.1.2 hn (l.take n) 0 (Array.replicate l.toArray.size false) a
    (fun j hj => by rw [htl] at hj; simp [hj]) (by rw [htl]; omega) inv (by rw [htl]; exact hB.2) h
  refine wp_region_any hm ?_
  have h2 := AnyHead.sound (Q := Q) (g := l.toArray.size - n) (fun T a' w' hw' hT => by
    have := wpAny_of_seq (md := .any) (Q' := Q) (l.drop n) n T a' w' (fun j => by simp [List.getElem?_drop]) (by rw [List.length_drop, ← hsz]; exact hT.1) (hT.2 w' hw')
    rwa [List.length_drop, ← hsz] at this) _ _ _ _ hC hh
  rw [htl, show l.toArray.size - n + n = l.toArray.size by omega] at h2
  exact h2

/-- A world to which only new memory has come since w0. -/
structure Ext (w0 : World) where
  w : World
  h : Below w0.heap.size w0 w
theorem Ext.cell {w0 : World} (x : Ext w0) (a : Addr) (h : (w0.cell? a).isSome = true) : x.w.cell? a = w0.cell? a := by
  obtain ⟨v, hv⟩ := Option.isSome_iff_exists.1 h
  exact x.h.cell (World.block_lt_of_cell? w0 a hv)
theorem Ext.froz {w0 : World} (x : Ext w0) (a : Addr) (h : (w0.cell? a).isSome = true) : x.w.frozen? a = w0.frozen? a := by
  obtain ⟨v, hv⟩ := Option.isSome_iff_exists.1 h
  exact x.h.frozen (World.block_lt_of_cell? w0 a hv)
def Ext.start (w : World) : Ext w := ⟨w.drew, (Below.refl _ _).drew⟩
instance (w : World) : Nonempty (Ext w) := ⟨Ext.start w⟩
theorem Ext.call {P : Program} {f : FuncId} {args : Array Value} {w0 : World} {x : Ext w0} {v : Value} (h : Calls P f args x.w fun e w' => e = .returned v ∧ Below x.w.heap.size x.w w') :
    Calls P f args x.w fun e w'' => e = .returned v ∧ ∃ y : Ext w0, w'' = y.w :=
  h.mono fun _ w' hh => ⟨hh.1, ⟨w', x.h.trans (hh.2.mono x.h.size)⟩, rfl⟩
/-- The law at the class of such worlds. -/
theorem ext_tail {P : Program} {id : Nat} {Q : Exit → Act → World → Prop} {a : Act} {w : World} {l : List Oper} (n : Nat) (hm : P.follows .mixedOrders = true) (hB : Region.lexTailB .any l.toArray n = true)
    (h : wpQuiet P l.toArray (fun w' => ∃ x : Ext w, w' = x.w) (fun a' => ∀ w', (∃ x : Ext w, w' = x.w) → wpList P l.toArray Q (l.drop n) a' w') (l.take n) a) : (Code.region id l.toArray true).wp P Q a w :=
  quiet_tail n hm hB ⟨Ext.start w, rfl⟩ h
theorem ext_all {P : Program} {id : Nat} {Q : Exit → Act → World → Prop} {a : Act} {w : World} {l : List Oper} (hm : P.follows .mixedOrders = true) (hB : Region.lexB .any l.toArray = true)
    (h : wpQuiet P l.toArray (fun w' => ∃ x : Ext w, w' = x.w) (fun a' => ∀ w', (∃ x : Ext w, w' = x.w) → Q .normal a' w') l a) : (Code.region id l.toArray true).wp P Q a w :=
  wp_region_quiet (C := fun w' => ∃ x : Ext w, w' = x.w) hm hB ⟨Ext.start w, rfl⟩ (by simpa using h)
end Go.Proofs.YteodfondjogmoaaGreatDoor.C
/- Inside a wide fence (a round of a range over a function too): a region of code that draws its order is walked once, as Qt has it outside. Conditions: the fence shuts no function out; no operation of the region is a deferral. -/
namespace Go.Proofs.YteodfondjogmoaaGreatDoor.C
open Go Go.RowKit
set_option linter.unusedVariables false
/-- a fence that shuts nothing out -/
structure WideF (P : Program) (F : Fence) (n : Nat) : Prop where
  fn : ∀ f, F.fn f
  dp : F.depth.isSome = true → 1 ≤ n
  calls : ∀ (f : FuncId) (args : Array Value) (w : World) (R : Ending → World → Prop), Calls P f args w R → CallsIn F (n - 1) P f args w R
theorem WideF.wide (P : Program) (n : Nat) : WideF P Fence.wide n := ⟨fun _ => trivial, fun h => by simp [Fence.wide] at h, fun _ _ _ _ h => callsIn_wide.2 h⟩
theorem WideF.round (P : Program) (n l : Nat) : WideF P (Fence.wide.inRound l) n := ⟨fun _ => trivial, fun h => by simp [Fence.wide] at h, fun _ _ _ _ h => CallsIn.inRound l (callsIn_wide.2 h)⟩
def noDefer (l : List Oper) : Bool := l.all fun o => match o.op with
  | .defer _ => false
  | _ => true
theorem noDefer_spec {l : List Oper} (h : noDefer l = true) {i : Nat} {o : Oper} (ho : l.toArray[i]? = some o) : ∀ c, o.op ≠ .defer c := by
  intro c hc
  have hm : o ∈ l := by
    have : l[i]? = some o := by simpa using ho
    exact List.mem_of_getElem? this
  have := List.all_eq_true.1 h o hm
  simp [hc] at this
section
variable {P : Program} {F : Fence} {m : Nat} {ops : Array Oper} {C : World → Prop} {n : Nat}
theorem wpIn_of_quiet {o : Oper} {a : Act} {K : Act → Prop} {K' : Act → World → Prop} {Q' : Exit → Act → World → Prop} {w : World} (hF : WideF P F m) (hd : ∀ c, o.op ≠ .defer c) (hw : C w) (h : ∀ a w', C w' → K a → K' a w') (hh : o.quiet P a C K) : o.wpIn F m P a w K' Q' := by
  obtain ⟨v, h1, h2⟩ := hh
  have h3 := h1 w hw
  refine ⟨fun f _ => hF.fn f, ?_⟩
  rw [Oper.semAt_eq F.round a.eval o hd]
  unfold Oper.quietAt at h3
  generalize (execOp a.eval o).run P w = r at *
  cases r with
  | halt x w' => exact h3.elim
  | ok x w' =>
    cases x with
    | value u => obtain ⟨rfl, rfl⟩ := h3; exact h _ _ hw h2
    | skip => obtain ⟨rfl, rfl⟩ := h3; exact h _ _ hw h2
    | enter f args =>
      obtain ⟨rfl, hc⟩ := h3
      refine ⟨hF.dp, hF.calls _ _ _ _ (hc.mono ?_)⟩
      rintro e w'' ⟨rfl, hw''⟩
      exact h _ _ hw'' h2
    | _ => exact h3.elim
theorem wpOpIn_of_qOp {i : Nat} {a : Act} {K : Act → Prop} {K' : Act → World → Prop} {Q' : Exit → Act → World → Prop} {w : World} (hF : WideF P F m) (hd : ∀ o, ops[i]? = some o → ∀ c, o.op ≠ .defer c) (hC : C w) (h : ∀ a w', C w' → K a → K' a w') (hh : qOp P ops C i K a) : wpOpIn F m P ops Q' i K' a w := by
  unfold qOp at hh
  unfold wpOpIn
  cases ho : ops[i]? with
  | none => rw [ho] at hh; exact h _ _ hC hh
  | some o =>
    rw [ho] at hh
    simp only at hh ⊢
    split
    · rename_i hw; rw [if_pos hw] at hh; exact wpIn_of_quiet hF (hd o ho) hC h hh
    · rename_i hw; rw [if_neg hw] at hh; exact ⟨fun f _ => hF.fn f, h _ _ hC hh⟩
theorem AnyHead.soundIn {E : Array Bool → Act → Prop} {Q : Exit → Act → World → Prop} {g : Nat} (hF : WideF P F m) (hd : ∀ (i : Nat) (o : Oper), ops[i]? = some o → ∀ c, o.op ≠ .defer c)
    (hE : ∀ T a w, C w → E T a → wpAnyIn F m P .any ops Q g T a w) (f : Nat) :
    ∀ T a w, C w → AnyHead P ops C n E f T a → wpAnyIn F m P .any ops Q (g + f) T a w := by
  induction f with
  | zero => exact fun T a w hw h => hE T a w hw h
  | succ f ih =>
    intro T a w hw h
    refine ⟨fun h0 => absurd h0 h.1.1, fun i hi => ?_⟩
    exact wpOpIn_of_qOp hF (hd i) hw (fun a' w' hw' h' => ih _ a' w' hw' h') (h.2 i hi)
theorem wpAnyIn_of_seq {Q' : Exit → Act → World → Prop} (l : List Oper) : ∀ (k : Nat) (listed : Array Bool) (a : Act) (w : World), (∀ j, l[j]? = ops[k + j]?) →
    Region.seqB .any ops l.length k listed = true → wpListIn F m P ops Q' l a w → wpAnyIn F m P .any ops Q' l.length listed a w := by
  induction l with
  | nil => intro k T a w _ hB h; exact ⟨by simpa [Region.seqB] using hB, h⟩
  | cons o l ih =>
    intro k T a w hl hB h
    have h0 : ops[k]? = some o := by simpa using (hl 0).symm
    simp only [List.length_cons, Region.seqB, Bool.and_eq_true, decide_eq_true_eq] at hB
    refine ⟨fun h1 => (by rw [hB.1] at h1; cases h1), fun i hi => ?_⟩
    rw [hB.1] at hi
    obtain rfl : i = k := by simpa using hi
    have hw : wpOpIn F m P ops Q' i (wpListIn F m P ops Q' l) a w := by unfold wpOpIn; simp only [h0]; exact h
    exact wpOpIn_mono (fun a' w' h' => ih (i + 1) _ a' w' (fun j => by have := hl (j + 1); simpa [Nat.add_assoc, Nat.add_comm 1 j] using this) hB.2 h') hw
end
theorem quiet_tailIn {P : Program} {F : Fence} {m : Nat} {C : World → Prop} {id : Nat} {Q : Exit → Act → World → Prop} {a : Act} {w : World} {l : List Oper} (n : Nat) (hm : P.follows .mixedOrders = true) (hF : WideF P F m) (hd : noDefer l = true) (hB : Region.lexTailB .any l.toArray n = true) (hC : C w.drew)
    (h : wpQuiet P l.toArray C (fun a' => ∀ w', C w' → wpListIn F m P l.toArray Q (l.drop n) a' w') (l.take n) a) : (Code.region id l.toArray true).wpIn F m P Q a w := by
  simp only [Region.lexTailB, Bool.and_eq_true, decide_eq_true_eq] at hB
  have hn := hB.1.1.1.2
  have hsz : l.toArray.size = l.length := by simp
  have htl : (l.take n).length = n := by rw [List.length_take]; omega
  have inv : HeadInv .any l.toArray n (Array.replicate l.toArray.size false) :=
    ⟨Array.size_replicate, fun j x _ hT => (by rw [getD_replicate_false] at hT; cases hT), fun t _ ht => getD_in (by rw [Array.size_replicate]; exact ht) (getD_replicate_false _ _)⟩
  have hh := AnyHead.text (P := P) (C := C) (g := l.toArray.size - n) hB.1.1.1.1 hB.1.1.2 hB.1.2 hn (l.take n) 0 (Array.replicate l.toArray.size false) a
    (fun j hj => by rw [htl] at hj; simp [hj]) (by rw [htl]; omega) inv (by rw [htl]; exact hB.2) h
  refine wpIn_region_any hm ?_
  have h2 := AnyHead.soundIn (Q := Q) (g := l.toArray.size - n) hF (fun i o ho => noDefer_spec hd ho) (fun T a' w' hw' hT => by
    have := wpAnyIn_of_seq (F := F) (m := m) (Q' := Q) (l.drop n) n T a' w' (fun j => by simp [List.getElem?_drop]) (by rw [List.length_drop, ← hsz]; exact hT.1) (hT.2 w' hw')
    rwa [List.length_drop, ← hsz] at this) _ _ _ _ hC hh
  rw [htl, show l.toArray.size - n + n = l.toArray.size by omega] at h2
  exact h2
/-- all quiet -/
theorem wpAnyIn_of_quiet {P : Program} {F : Fence} {m : Nat} {C : World → Prop} {ops : Array Oper} {Q : Act → Prop} {Q' : Exit → Act → World → Prop} (hF : WideF P F m) (hd : ∀ (i : Nat) (o : Oper), ops[i]? = some o → ∀ c, o.op ≠ .defer c) (hQ : ∀ a w, C w → Q a → Q' .normal a w) : ∀ (fuel : Nat) (listed : Array Bool) (a : Act) (w : World), C w →
    wpAnyQ P .any ops C Q fuel listed a → wpAnyIn F m P .any ops Q' fuel listed a w
  | 0, _, _, _, hw, h => ⟨h.1, hQ _ _ hw h.2⟩
  | fuel + 1, _, _, _, hw, h => ⟨fun h0 => hQ _ _ hw (h.1 h0), fun i hi => wpOpIn_of_qOp hF (hd i) hw (fun a' w' hw' => wpAnyIn_of_quiet hF hd hQ fuel _ a' w' hw') (h.2 i hi)⟩
/-- The law at the class of worlds that have new memory alone. -/
theorem ext_tailIn {P : Program} {F : Fence} {m : Nat} {id : Nat} {Q : Exit → Act → World → Prop} {a : Act} {w : World} {l : List Oper} (n : Nat) (hm : P.follows .mixedOrders = true) (hF : WideF P F m) (hd : noDefer l = true) (hB : Region.lexTailB .any l.toArray n = true)
    (h : wpQuiet P l.toArray (fun w' => ∃ x : Ext w, w' = x.w) (fun a' => ∀ w', (∃ x : Ext w, w' = x.w) → wpListIn F m P l.toArray Q (l.drop n) a' w') (l.take n) a) : (Code.region id l.toArray true).wpIn F m P Q a w :=
  quiet_tailIn n hm hF hd hB ⟨Ext.start w, rfl⟩ h
theorem quiet_allIn {P : Program} {F : Fence} {m : Nat} {C : World → Prop} {id : Nat} {Q : Exit → Act → World → Prop} {a : Act} {w : World} {l : List Oper} (hm : P.follows .mixedOrders = true) (hF : WideF P F m) (hd : noDefer l = true) (hB : Region.lexB .any l.toArray = true) (hC : C w.drew)
    (h : wpQuiet P l.toArray C (fun a' => ∀ w', C w' → Q .normal a' w') l a) : (Code.region id l.toArray true).wpIn F m P Q a w := by
  simp only [Region.lexB, Bool.and_eq_true] at hB
  refine wpIn_region_any hm (wpAnyIn_of_quiet (Q := fun a' => ∀ w', C w' → Q .normal a' w') hF (fun i o ho => noDefer_spec hd ho) (fun _ w' hw' h => h w' hw') _ _ _ _ hC ?_)
  have := wpAnyQ_lex (C := C) (md := .any) hB.1 l 0 (Array.replicate l.toArray.size false) a (by simp) (by simpa using hB.2) h
  simpa using this
theorem ext_allIn {P : Program} {F : Fence} {m : Nat} {id : Nat} {Q : Exit → Act → World → Prop} {a : Act} {w : World} {l : List Oper} (hm : P.follows .mixedOrders = true) (hF : WideF P F m) (hd : noDefer l = true) (hB : Region.lexB .any l.toArray = true)
    (h : wpQuiet P l.toArray (fun w' => ∃ x : Ext w, w' = x.w) (fun a' => ∀ w', (∃ x : Ext w, w' = x.w) → Q .normal a' w') l a) : (Code.region id l.toArray true).wpIn F m P Q a w :=
  quiet_allIn hm hF hd hB ⟨Ext.start w, rfl⟩ h
end Go.Proofs.YteodfondjogmoaaGreatDoor.C
/- The laws of Qt and Qf on a region that draws its order, their goals kept behind a structure: Lean brings the type of a hole to head form, and a bare `wpQuiet ..` would run the rest of the region there. Conditions: those of each theorem. -/
namespace Go.Proofs.YteodfondjogmoaaGreatDoor.C
open Go Go.RowKit
set_option linter.unusedVariables false
structure Box (p : Prop) : Prop where
  out : p
section
variable {P : Program} {ops : Array Oper} {C : World → Prop} {Q : Act → Prop} {a : Act}
theorem bq_step {o : Oper} {rest : List Oper} (h : ∀ K : Act → Prop, (∀ a, Box (wpQuiet P ops C Q rest a) → K a) → Box (if Region.wanted o (yielded ops a.tmps) then o.quiet P a C K else K (a.put o.dst undef))) : Box (wpQuiet P ops C Q (o :: rest) a) :=
  ⟨wpQuiet_step fun K hK => (h K (fun a hb => hK a hb.out)).out⟩
theorem bq_nil (h : Q a) : Box (wpQuiet P ops C Q [] a) := ⟨h⟩
end
theorem ext_tailB {P : Program} {id : Nat} {Q : Exit → Act → World → Prop} {a : Act} {w : World} {l : List Oper} (n : Nat) (hm : P.follows .mixedOrders = true) (hB : Region.lexTailB .any l.toArray n = true)
    (h : Box (wpQuiet P l.toArray (fun w' => ∃ x : Ext w, w' = x.w) (fun a' => ∀ w', (∃ x : Ext w, w' = x.w) → wpList P l.toArray Q (l.drop n) a' w') (l.take n) a)) : (Code.region id l.toArray true).wp P Q a w := ext_tail n hm hB h.out
theorem ext_allB {P : Program} {id : Nat} {Q : Exit → Act → World → Prop} {a : Act} {w : World} {l : List Oper} (hm : P.follows .mixedOrders = true) (hB : Region.lexB .any l.toArray = true)
    (h : Box (wpQuiet P l.toArray (fun w' => ∃ x : Ext w, w' = x.w) (fun a' => ∀ w', (∃ x : Ext w, w' = x.w) → Q .normal a' w') l a)) : (Code.region id l.toArray true).wp P Q a w := ext_all hm hB h.out
theorem ext_tailInB {P : Program} {F : Fence} {m : Nat} {id : Nat} {Q : Exit → Act → World → Prop} {a : Act} {w : World} {l : List Oper} (n : Nat) (hm : P.follows .mixedOrders = true) (hF : WideF P F m) (hd : noDefer l = true) (hB : Region.lexTailB .any l.toArray n = true)
    (h : Box (wpQuiet P l.toArray (fun w' => ∃ x : Ext w, w' = x.w) (fun a' => ∀ w', (∃ x : Ext w, w' = x.w) → wpListIn F m P l.toArray Q (l.drop n) a' w') (l.take n) a)) : (Code.region id l.toArray true).wpIn F m P Q a w := ext_tailIn n hm hF hd hB h.out
theorem ext_allInB {P : Program} {F : Fence} {m : Nat} {id : Nat} {Q : Exit → Act → World → Prop} {a : Act} {w : World} {l : List Oper} (hm : P.follows .mixedOrders = true) (hF : WideF P F m) (hd : noDefer l = true) (hB : Region.lexB .any l.toArray = true)
    (h : Box (wpQuiet P l.toArray (fun w' => ∃ x : Ext w, w' = x.w) (fun a' => ∀ w', (∃ x : Ext w, w' = x.w) → Q .normal a' w') l a)) : (Code.region id l.toArray true).wpIn F m P Q a w := ext_allIn hm hF hd hB h.out
/-- the same over worlds that only draw -/
theorem draw_allB {P : Program} {id : Nat} {Q : Exit → Act → World → Prop} {a : Act} {w : World} {l : List Oper} (hm : P.follows .mixedOrders = true) (hB : Region.lexB .any l.toArray = true)
    (h : Box (wpQuiet P l.toArray (fun w' => ∃ n, w' = w.drewN n) (fun a' => ∀ w', (∃ n, w' = w.drewN n) → Q .normal a' w') l a)) : (Code.region id l.toArray true).wp P Q a w := wp_region_quiet_lit hm hB h.out
theorem draw_allInB {P : Program} {F : Fence} {m : Nat} {id : Nat} {Q : Exit → Act → World → Prop} {a : Act} {w : World} {l : List Oper} (hm : P.follows .mixedOrders = true) (hF : WideF P F m) (hd : noDefer l = true) (hB : Region.lexB .any l.toArray = true)
    (h : Box (wpQuiet P l.toArray (fun w' => ∃ n, w' = w.drewN n) (fun a' => ∀ w', (∃ n, w' = w.drewN n) → Q .normal a' w') l a)) : (Code.region id l.toArray true).wpIn F m P Q a w := quiet_allIn hm hF hd hB ⟨1, rfl⟩ h.out
end Go.Proofs.YteodfondjogmoaaGreatDoor.C
/- Poem.Words: the words of a poem's lines, as an iterator. Conditions: those of each theorem. -/
namespace Go.Proofs.YteodfondjogmoaaGreatDoor
open Go Go.RowKit Go.Lib Go.Shelf
set_option linter.unusedVariables false
set_option linter.unusedSimpArgs false
attribute [local go_sem] Oper.semAt_some C.Ext.cell C.Ext.froz
/-- a word of a line, with the line's number -/
def prW (x : Nat × Vs) (y : Tk) : Nat × ByteArray := (x.1, x.2.tx.extract y.f.toNat y.t.toNat)
def lnW (x : Nat × Vs) : List (Nat × ByteArray) := (wordsL x.2.tx).map (prW x)
def pW (l : List (Nat × Vs)) : List (Nat × ByteArray) := l.flatMap lnW
theorem pW_snoc (pre : List (Nat × Vs)) (x : Nat × Vs) : pW (pre ++ [x]) = pW pre ++ lnW x := by unfold pW; simp
theorem pW_pre {pre all : List (Nat × Vs)} (h : pre <+: all) : pW pre <+: pW all := by
  obtain ⟨q, rfl⟩ := h
  unfold pW; rw [List.flatMap_append]; exact List.prefix_append _ _
theorem eachL_mem : ∀ (L : List Vs) (k : Nat) (x : Nat × Vs), x ∈ eachL k L → x.2 ∈ L
  | [], _, x, h => by cases h
  | v :: r, k, x, h => by
    unfold eachL at h
    rcases List.mem_cons.1 h with rfl | h
    · exact List.mem_cons_self ..
    · exact List.mem_cons_of_mem _ (eachL_mem r (k + 1) x h)
theorem SeqS.inRound {α : Type} {F : Fence} {n : Nat} {P : Program} {g : Nat} {lb : Array Value} {encs : α → Array Value} {R : Nat → Prop} {all : List α} {w : World} (l : Nat) (h : SeqS F n P g lb encs R all w) : SeqS (F.inRound l) n P g lb encs R all w := h
theorem pwords7 (p : Option Addr) (w : World) : Calls Tryz.prog 46 #[.pointer p] w fun e w' => e = .returned (.func (.func 91) #[] #[.pointer (some ⟨w.heap.size, 0, none⟩)]) ∧ w' = w.alloc (.cells #[.pointer p] 94) := by
  go_enter Tryz.func46, Tryz.ntmps46
  go_wp2_with fail
  go_ret
  exact ⟨rfl, rfl⟩
set_option maxHeartbeats 8000000 in
theorem pwords26 (hOf : OfOk) (L : List Vs) (hL : L.length ≤ 70000) (hLs : ∀ v ∈ L, v.tx.size ≤ 100000) (pb g cap : Nat) (a : Option Addr) (l kb : Nat) (RR : Nat → Prop) (hR : RR kb ∧ RR pb ∧ RR g) (J Jx : List (Nat × ByteArray) → (Nat → Prop) → World → Prop) (W : World) (hJ : Free W.heap.size J) (hX : Free W.heap.size Jx)
    (hY : ∀ pre S x W1, J pre S W1 → W.heap.size ≤ W1.heap.size → (∀ k, S k → W.heap.size ≤ k ∧ k < W1.heap.size) → pre ++ [x] <+: pW (eachL 0 L) → YieldAt Fence.wide 8 Tryz.prog l #[.int .i64 x.1, .string x.2] W1 fun e W' =>
      Kept (fun k => RR k ∨ S k) W1 W' ∧ ((e = .returned (.bool true) ∧ J (pre ++ [x]) S W') ∨ (e = .returned (.bool false) ∧ Jx (pre ++ [x]) S W')))
    (hc : W.cell? ⟨kb, 0, none⟩ = some (.pointer (some ⟨pb, 0, none⟩))) (hPm : PmAt W pb g a cap L) (hgW : pb < W.heap.size ∧ g < W.heap.size) (h0 : J [] none' W) :
    CallsIn Fence.wide 9 Tryz.prog 91 #[.func (.yield l) #[] #[], .pointer (some ⟨kb, 0, none⟩)] W fun e W' => (∃ v, e = .returned v) ∧ (J (pW (eachL 0 L)) none' W' ∨ (∃ pre, pre <+: pW (eachL 0 L) ∧ Jx pre none' W')) := by
  have HPm := hid hPm
  clear hPm
  have hkb : kb < W.heap.size := World.block_lt_of_cell? W _ hc
  refine callsIn_of_wp_marks Tryz.func91 rfl trivial ?_ rfl
  simp only [Tryz.ntmps91, List.size_toArray, List.length_cons, List.length_nil, Nat.reduceAdd, Nat.reduceSub, Array.replicate_succ, Array.replicate_zero, List.push_toArray, List.append_toArray, List.nil_append, List.cons_append]
  have HJ := hid hJ
  have HX := hid hX
  have HY := hid hY
  have HR := hid hR
  have H0 := hid h0
  have HOf := hid hOf
  have hOf' := hOf
  have hP := hid (fun W => each11 (some ⟨pb, 0, none⟩) W)
  clear hJ hX hY hR h0 hOf
  have hc1 : (W.alloc (.cells #[.func (.yield l) #[] #[]] 166)).cell? ⟨kb, 0, none⟩ = some (.pointer (some ⟨pb, 0, none⟩)) := by
    exact (((Below.refl W.heap.size W).alloc (Nat.le_refl _) _).cell (p := ⟨kb, 0, none⟩) hkb).trans hc
  gi_wp2_with fail
  refine ⟨trivial, ?_⟩
  with_reducible refine CallsIn.mono (callsIn_wide.2 (hP.out _)) ?_
  rintro e w4 ⟨rfl, hw4⟩
  have b0 := (Blk.new W 166 #[.func (.yield l) #[] #[]]).alloc (.cells #[.pointer (some ⟨pb, 0, none⟩)] 94)
  have b2 := Blk.new (W.alloc (.cells #[.func (.yield l) #[] #[]] 166)) 94 #[.pointer (some ⟨pb, 0, none⟩)]
  rw [← hw4] at b0 b2
  simp only [World.size_alloc, Nat.add_assoc, Nat.reduceAdd] at b2
  have hN : w4.heap.size = W.heap.size + 2 := by rw [hw4]; simp
  have hK4 : Kept (fun k => ¬ none' k) W w4 := by rw [hw4]; exact (Kept.alloc _ _ _).trans (Kept.alloc _ _ _)
  have hB4 : Below W.heap.size W w4 := by rw [hw4]; exact ((Below.refl _ W).alloc (Nat.le_refl _) _).alloc (by simp) _
  clear hw4 hc1 hP
  simp only [World.size_alloc, Nat.add_assoc, Nat.reduceAdd]
  obtain ⟨N, hNN⟩ : ∃ N, N = W.heap.size := ⟨_, rfl⟩
  rw [← hNN] at hgW hN b0 b2 hB4 HJ HX HY ⊢
  have B0 := hid b0
  have B2 := hid b2
  have HK4 := hid hK4
  clear b0 b2 hK4
  obtain ⟨U, hU⟩ : ∃ U : (Nat → Prop) → Nat → Prop, U = fun S k => S k ∨ k = N ∨ k = N + 1 := ⟨_, rfl⟩
  have U1 : Hid (∀ S k, U S k → S k ∨ k = N ∨ k = N + 1) := hid (fun S k h => by rw [hU] at h; exact h)
  have U2 : Hid (∀ S k, S k ∨ k = N ∨ k = N + 1 → U S k) := hid (fun S k h => by rw [hU]; exact h)
  clear hU
  have U4 : Hid (∀ S (X : World), (∀ k, S k → N ≤ k ∧ k < X.heap.size) → N + 2 ≤ X.heap.size → ∀ k, U S k → N ≤ k ∧ k < X.heap.size) := hid (fun S X h1 h2 k h => by
    rcases U1.out _ _ h with h | h | h
    · exact h1 k h
    all_goals omega)
  have U5 : Hid (∀ (S S' : Nat → Prop) (X Y : World), (∀ k, S' k → S k ∨ (X.heap.size ≤ k ∧ k < Y.heap.size)) → ∀ k, U S' k → U S k ∨ (X.heap.size ≤ k ∧ k < Y.heap.size)) := hid (fun S S' X Y h1 k h => by
    rcases U1.out _ _ h with h | h
    · rcases h1 k h with h | h
      · exact .inl (U2.out _ _ (.inl h))
      · exact .inr h
    · exact .inl (U2.out _ _ (.inr h)))
  have H1 : Hid (J [] (U none') w4) := hid (HJ.out _ none' _ _ _ H0.out (fun k h => h.elim) HK4.out (fun k h => .inr (by
    rcases U1.out _ _ h with h | h | h
    · exact h.elim
    all_goals omega)))
  clear H0 HK4
  have HNN := hid hNN
  clear hNN
  gi_wp2_with fail
  refine name_actZ ?_
  intro Tm D hTm hD
  have hseq := (each_seq L hL pb g cap a (N + 1) w4 (B2.out.cell (k := 0) rfl) (HPm.out.keep (Kept.of_below hB4 (T := fun k => k < N) (fun _ _ h => h)) hgW.1 hgW.2)).wide 8
  refine rangeFunc_s (F := Fence.wide) (α := Nat × Vs) rfl (by omega) (gf := 132) (lb := #[.pointer (some ⟨N + 1, 0, none⟩)]) (by subst hTm; rfl) trivial (enters_of Tryz.func132 (by kernel_rfl) rfl)
    hseq (fun k hk => by rcases hk with h | h | h <;> omega) (Below.refl _ _) (fun _ => rfl)
    (fun pre S W => J (pW pre) (U S) W ∧ Blk W N 166 #[.func (.yield l) #[] #[]] ∧ N + 2 ≤ W.heap.size)
    (fun c _ S W => c = .ret ∧ N + 2 ≤ W.heap.size ∧ ∃ q, q <+: pW (eachL 0 L) ∧ Jx q (U S) W)
    ?hI ?hIx ⟨H1.out, B0.out, by omega⟩
    (fun pre S x a' W => ∃ Bi Bv, w4.heap.size ≤ Bi ∧ Bi < Bv ∧ ¬ S Bi ∧ ¬ S Bv ∧ Blk W Bi 3 #[.int .i64 x.1] ∧ Blk W Bv 136 x.2.cells ∧ J (pW pre) (fun k => U S k ∨ k = Bi ∨ k = Bv) W ∧ Blk W N 166 #[.func (.yield l) #[] #[]] ∧ a' = { tmps := (((Tm.setIfInBounds 8 (.int .i64 x.1)).setIfInBounds 9 x.2.v).setIfInBounds 3 (.pointer (some ⟨Bi, 0, none⟩))).setIfInBounds 4 (.pointer (some ⟨Bv, 0, none⟩)), defers := [] })
    ?hAx ?assign ?body ?done ?stop
  case hI =>
    intro pre S S' X Y ⟨h1, h3, h4⟩ hS hK hS'
    refine ⟨HJ.out _ (U S) _ X Y h1 (U4.out _ _ (fun k h => by have := hS k h; omega) h4) (hK.mono (fun k _ h hs => h (U2.out _ _ (.inl hs)))) (U5.out _ _ _ _ hS'), h3.keep hK (fun h => ?_), by have := hK.size; omega⟩
    · have := (hS _ h).1; omega
  case hIx =>
    intro c pre S S' X Y ⟨h0, h4, q, hq, h1⟩ hS hK hS'
    exact ⟨h0, by have := hK.size; omega, q, hq, HX.out _ (U S) _ X Y h1 (U4.out _ _ (fun k h => by have := hS k h; omega) h4) (hK.mono (fun k _ h hs => h (U2.out _ _ (.inl hs)))) (U5.out _ _ _ _ hS')⟩
  case hAx =>
    intro pre S x a' W5 lb o ⟨Bi, Bv, g1, g1', g2, g2', g3, g3', g4, g6, g7⟩ hSl hS
    have hb := g3'.lt
    refine ⟨Bi, Bv, g1, g1', g2, g2', g3.put (fun e => g2 (e ▸ hSl)) _, g3'.put (fun e => g2' (e ▸ hSl)) _, ?_, g6.put (by have := hS _ hSl; omega) _, g7⟩
    have u4 := U4.out S W5 (fun k h => by have := hS k h; omega) (by omega)
    exact HJ.out _ _ _ W5 _ g4 (fun k h => h.elim (fun h => u4 k h) (fun h => by omega)) (Kept.putObj W5 (fun h => h (.inl (U2.out _ _ (.inl hSl)))) _) (fun k h => .inl h)
  case assign =>
    rintro l' pre S x W5 K ⟨hJ5, h05, h45⟩ hW5 hS5 hpre hK
    subst hTm hD
    have kA : ∀ T, Kept T W5 ((W5.alloc (.cells #[.int .i64 x.1] 3)).alloc (.cells x.2.cells 136)) := fun T => (Kept.alloc T W5 _).trans (Kept.alloc T _ _)
    have hB1 := (Blk.new W5 3 #[.int .i64 x.1]).alloc (.cells x.2.cells 136)
    have hB2 := Blk.new (W5.alloc (.cells #[.int .i64 x.1] 3)) 136 x.2.cells
    rw [World.size_alloc] at hB2
    have hJ6 := HJ.out _ (U S) (fun k => U S k ∨ k = W5.heap.size ∨ k = W5.heap.size + 1) W5 _ hJ5 (U4.out _ _ (fun k h => by have := hS5 k h; omega) h45) (kA _) (fun k h => by
      rcases h with h | h
      · exact .inl h
      · exact .inr ⟨by omega, by simp only [World.size_alloc]; omega⟩)
    have H := hK _ _ (kA _) ⟨W5.heap.size, W5.heap.size + 1, by omega, by omega, (fun h => by have := (hS5 _ h).2; omega), (fun h => by have := (hS5 _ h).2; omega), hB1, hB2, hJ6, (h05.alloc _).alloc _, rfl⟩
    clear hK kA hB1 hB2 hJ6 hJ5 h05
    obtain ⟨xi, tx, va, vb, vc, vf, vt⟩ := x
    dsimp only at H
    simp only [List.setIfInBounds_toArray, List.set_cons_succ, List.set_cons_zero] at H
    gi_wp2
    exact H
  case body =>
    rintro l' pre S x a' W5 hSl ⟨rec, hrec⟩ hW5 hS5 hpre ⟨Bi, Bv, hBi, hBv, hSi, hSv, ki, kv, hJ5, k0, rfl⟩
    have hxm : x.2 ∈ L := eachL_mem L 0 x (hpre.subset (by simp))
    have hts := hLs x.2 hxm
    have hpu := pW_pre hpre
    rw [pW_snoc] at hpu
    have hwo := words_ok x.2.tx (by omega)
    have hbv := kv.lt
    have hl0 := at_lt hrec
    have hSl2 := hS5 _ hSl
    obtain ⟨xi, tx, va, vb, vc, vf, vt⟩ := x
    dsimp only at ki kv hts hwo
    have hWd := hid (fun W => words27 tx W)
    have c0 := kv.cell (k := 0) rfl
    try dsimp only at c0
    subst hTm hD
    dsimp only
    simp only [List.setIfInBounds_toArray, List.set_cons_succ, List.set_cons_zero]
    have u4 := U4.out S W5 (fun k h => by have := hS5 k h; omega) (by omega)
    obtain ⟨V, hV⟩ : ∃ V : Nat → Prop, V = fun k => U S k ∨ k = Bi ∨ k = Bv ∨ k = W5.heap.size := ⟨_, rfl⟩
    have v1 : Hid (∀ k, V k → U S k ∨ k = Bi ∨ k = Bv ∨ k = W5.heap.size) := hid (fun k h => by rw [hV] at h; exact h)
    have v2 : Hid (∀ k, U S k ∨ k = Bi ∨ k = Bv ∨ k = W5.heap.size → V k) := hid (fun k h => by rw [hV]; exact h)
    have v4 : Hid (∀ k, V k → N ≤ k ∧ k < W5.heap.size + 1) := hid (fun k h => by
      rcases v1.out k h with h | h | h | h
      · have := u4 k h; omega
      all_goals omega)
    have KI := hid ki
    have KV := hid kv
    have K0 := hid k0
    have J6 := hid (HJ.out _ _ V W5 (W5.alloc (.cells #[.string tx] 9)) hJ5 (fun k h => h.elim (fun h => u4 k h) (fun h => by omega)) (Kept.alloc _ _ _) (fun k h => by
      rcases v1.out k h with h | h | h | h
      · exact .inl (.inl h)
      · exact .inl (.inr (.inl h))
      · exact .inl (.inr (.inr h))
      · exact .inr (by rw [World.size_alloc]; omega)))
    have hR5 : Hid (∀ k, (k = N + 1 ∨ k = pb ∨ k = g) ∨ S k → k < W5.heap.size) := hid (fun k h => by
      rcases h with h | h
      · rcases h with h | h | h <;> omega
      · exact (hS5 k h).2)
    have sV : Hid (∀ k, S k → V k) := hid (fun k h => v2.out k (.inl (U2.out _ _ (.inl h))))
    have nV : Hid (V (N + 1)) := hid (v2.out _ (.inl (U2.out _ _ (.inr (.inr rfl)))))
    have nV0 : Hid (V N) := hid (v2.out _ (.inl (U2.out _ _ (.inr (.inl rfl)))))
    have HW := hid hwo
    have HP := hid hpu
    have HR5 := hid hrec
    have HS5 := hid hS5
    clear hV hJ5 hpu hwo hrec hS5 u4 hSl hSi hSv hpre hxm ki kv k0 hseq HOf hLs
    gi_wp2_with fail
    refine ⟨trivial, ?_⟩
    with_reducible refine (CallsIn.inRound l' (callsIn_wide.2 (hWd.out _))).mono ?_
    rintro e W6 ⟨rfl, hw6⟩
    have hs6 : W6.heap.size = W5.heap.size + 1 := by rw [hw6]; simp
    have KI6 : Hid (Blk W6 Bi 3 #[.int .i64 xi]) := hid (by rw [hw6]; exact KI.out.alloc _)
    have KV6 : Hid (Blk W6 Bv 136 #[.string tx, .int .i64 va, .int .i64 vb, .int .i64 vc, .int .i64 vf, .int .i64 vt]) := hid (by rw [hw6]; exact KV.out.alloc _)
    have K06 : Hid (Blk W6 N 166 #[.func (.yield l) #[] #[]]) := hid (by rw [hw6]; exact K0.out.alloc _)
    have KS6 : Hid (Blk W6 W5.heap.size 9 #[.string tx]) := hid (by rw [hw6]; exact Blk.new W5 9 #[.string tx])
    have J6' : Hid (J (pW pre) V W6) := hid (by rw [hw6]; exact J6.out)
    have HR6 : Hid (W6.heap[l']? = some (.loop rec)) := hid (by rw [hw6]; exact (Below.heap_alloc _ _ _ hl0).trans HR5.out)
    have HK6 : Hid (Kept (fun k => (k = N + 1 ∨ k = pb ∨ k = g) ∨ S k) W5 W6) := hid (by rw [hw6]; exact Kept.alloc _ _ _)
    clear hw6 KI KV K0 J6 HR5 hWd
    gi_wp2_with fail
    refine name_actZ ?_
    intro Tm2 D2 hTm2 hD2
    have hseq2 := SeqS.inRound l' ((words_seq hOf' tx (by omega) W5.heap.size W6 (KS6.out.cell (k := 0) rfl)).wide 6)
    refine rangeFunc_sN (F := Fence.wide.inRound l') (n := 9 - 1 - 1) (α := Tk) (l₀ := l') (r₀ := rec) rfl HR6.out (by omega) (gf := 127) (lb := #[.pointer (some ⟨W5.heap.size, 0, none⟩)]) (by subst hTm2; rfl) trivial (enters_of Tryz.func127 (by kernel_rfl) rfl)
      hseq2 (fun k hk => by omega) (Below.refl _ _) (fun _ => rfl)
      (fun qs S' X => J (pW pre ++ qs.map (prW ⟨xi, ⟨tx, va, vb, vc, vf, vt⟩⟩)) (fun k => S' k ∨ V k) X ∧ Blk X N 166 #[.func (.yield l) #[] #[]] ∧ Blk X Bi 3 #[.int .i64 xi] ∧ Blk X Bv 136 #[.string tx, .int .i64 va, .int .i64 vb, .int .i64 vc, .int .i64 vf, .int .i64 vt] ∧ W5.heap.size + 1 ≤ X.heap.size ∧ Kept (fun k => (k = N + 1 ∨ k = pb ∨ k = g) ∨ S k) W5 X)
      (fun c _ S' X => c = .ret ∧ W5.heap.size + 1 ≤ X.heap.size ∧ Kept (fun k => (k = N + 1 ∨ k = pb ∨ k = g) ∨ S k) W5 X ∧ ∃ q, q <+: pW (eachL 0 L) ∧ Jx q (fun k => S' k ∨ V k) X)
      ?hI2 ?hIx2 ?h02
      (fun qs S' y a' X => ∃ Bp, W6.heap.size ≤ Bp ∧ ¬ S' Bp ∧ Blk X Bp 37 #[.int .i64 y.f, .int .i64 y.t] ∧ J (pW pre ++ qs.map (prW ⟨xi, ⟨tx, va, vb, vc, vf, vt⟩⟩)) (fun k => (S' k ∨ V k) ∨ k = Bp) X ∧ Blk X N 166 #[.func (.yield l) #[] #[]] ∧ Blk X Bi 3 #[.int .i64 xi] ∧ Blk X Bv 136 #[.string tx, .int .i64 va, .int .i64 vb, .int .i64 vc, .int .i64 vf, .int .i64 vt] ∧ W5.heap.size + 1 ≤ X.heap.size ∧ Kept (fun k => (k = N + 1 ∨ k = pb ∨ k = g) ∨ S k) W5 X ∧ a' = { tmps := (Tm2.setIfInBounds 13 y.span).setIfInBounds 5 (.pointer (some ⟨Bp, 0, none⟩)), defers := [] })
      ?hAx2 ?assign2 ?body2 ?done2 ?stop2
    case hI2 =>
      intro qs S' S'' X Y ⟨h1, g0, gi, gv, hsz, hk⟩ hS hK hS'
      have nb : ∀ k, k < W5.heap.size → ¬ S' k := fun k h hs => by have := (hS k hs).1; omega
      exact ⟨HJ.out _ _ _ X Y h1 (fun k h => h.elim (fun h => by have := hS k h; omega) (fun h => by have := v4.out k h; omega)) (hK.mono (fun k _ h hs => h (.inl hs))) (fun k h => h.elim (fun h => (hS' k h).imp .inl id) (fun h => .inl (.inr h))),
        g0.keep hK (nb _ (by omega)), gi.keep hK (nb _ (by omega)), gv.keep hK (nb _ (by omega)), by have := hK.size; omega, hk.trans (hK.mono (fun k _ ht => nb k (hR5.out k ht)))⟩
    case hIx2 =>
      intro c qs S' S'' X Y ⟨h0, hsz, hk, q, hq, h1⟩ hS hK hS'
      have nb : ∀ k, k < W5.heap.size → ¬ S' k := fun k h hs => by have := (hS k hs).1; omega
      exact ⟨h0, by have := hK.size; omega, hk.trans (hK.mono (fun k _ ht => nb k (hR5.out k ht))), q, hq, HX.out _ _ _ X Y h1 (fun k h => h.elim (fun h => by have := hS k h; omega) (fun h => by have := v4.out k h; omega)) (hK.mono (fun k _ h hs => h (.inl hs))) (fun k h => h.elim (fun h => (hS' k h).imp .inl id) (fun h => .inl (.inr h)))⟩
    case h02 =>
      have hj := HJ.out _ V (fun k => none' k ∨ V k) W6 W6 J6'.out (fun k h => by have := v4.out k h; omega) (Kept.refl _ _) (fun k h => .inl (h.elim (fun h => h.elim) id))
      refine ⟨?_, K06.out, KI6.out, KV6.out, by omega, HK6.out⟩
      rw [List.map_nil, List.append_nil]
      exact hj
    case hAx2 =>
      intro qs S' y a' X lb o ⟨Bp, g1, g2, g3, g4, g0, gi, gv, hsz, hk, g7⟩ hSl hS
      have hb := g3.lt
      have hlb := (hS _ hSl).1
      exact ⟨Bp, g1, g2, g3.put (fun e => g2 (e ▸ hSl)) _, HJ.out _ _ _ X _ g4 (fun k h => h.elim (fun h => h.elim (fun h => by have := hS k h; omega) (fun h => by have := v4.out k h; omega)) (fun h => by omega)) (Kept.putObj X (fun h => h (.inl (.inl hSl))) _) (fun k h => .inl h),
        g0.put (by omega) _, gi.put (by omega) _, gv.put (by omega) _, by simp [World.putObj]; omega, hk.trans (Kept.putObj X (fun ht => by have := hR5.out _ ht; omega) _), g7⟩
    case assign2 =>
      rintro l2 qs S' y X K ⟨hJ7, g0, gi, gv, hsz, hk⟩ hX7 hS7 hpre2 hK
      subst hTm2 hD2
      have hB := Blk.new X 37 #[.int .i64 y.f, .int .i64 y.t]
      have hJ8 := HJ.out _ _ (fun k => (S' k ∨ V k) ∨ k = X.heap.size) X (X.alloc (.cells #[.int .i64 y.f, .int .i64 y.t] 37)) hJ7 (fun k h => h.elim (fun h => by have := hS7 k h; omega) (fun h => by have := v4.out k h; omega)) (Kept.alloc _ _ _) (fun k h => h.elim .inl (fun h => .inr ⟨by omega, by rw [World.size_alloc]; omega⟩))
      have H := hK _ _ (Kept.alloc _ _ _) ⟨X.heap.size, by omega, (fun h => by have := (hS7 _ h).2; omega), hB, hJ8, g0.alloc _, gi.alloc _, gv.alloc _, by rw [World.size_alloc]; omega, hk.trans (Kept.alloc _ _ _), rfl⟩
      clear hK hB hJ8 hJ7 g0 gi gv hk
      obtain ⟨kd, f, t⟩ := y
      dsimp only at H
      simp only [List.setIfInBounds_toArray, List.set_cons_succ, List.set_cons_zero] at H
      gi_wp2
      exact H
    case body2 =>
      rintro l2 qs S' y a' X hSl2' ⟨rec2, hrec2⟩ hX7 hS7 hpre2 ⟨Bp, hBp, hSp, kp, hJ7, g0, gi, gv, hsz, hk, rfl⟩
      have hym := HW.out y (hpre2.subset (by simp))
      have hpo : Hid ((pW pre ++ qs.map (prW ⟨xi, ⟨tx, va, vb, vc, vf, vt⟩⟩)) ++ [prW ⟨xi, ⟨tx, va, vb, vc, vf, vt⟩⟩ y] <+: pW (eachL 0 L)) := hid (by
        refine List.IsPrefix.trans ?_ HP.out
        rw [List.append_assoc]
        refine (List.prefix_append_right_inj _).2 ?_
        have h := List.IsPrefix.map (prW ⟨xi, ⟨tx, va, vb, vc, vf, vt⟩⟩) hpre2
        rw [List.map_append] at h
        exact h)
      have hbp := kp.lt
      obtain ⟨kd, f, t⟩ := y
      dsimp only at kp hym
      obtain ⟨fn, rfl⟩ := Int.eq_ofNat_of_zero_le hym.1
      obtain ⟨tn, rfl⟩ := Int.eq_ofNat_of_zero_le (Int.le_trans hym.1 hym.2.1)
      have hxt : (fn : Int) ≤ tn := hym.2.1
      have hxt2 : decide (fn ≤ tn) = true := decide_eq_true (by omega)
      have hts2 : (tn : Int) ≤ tx.size := hym.2.2
      have hxs : (fn : Int) ≤ tx.size := by omega
      subst hTm2 hD2
      dsimp only
      simp only [List.setIfInBounds_toArray, List.set_cons_succ, List.set_cons_zero]
      have e0 := g0.cell (k := 0) rfl
      have i0 := gi.cell (k := 0) rfl
      have t0 := gv.cell (k := 0) rfl
      have p0 := kp.cell (k := 0) rfl
      have p1 := kp.cell (k := 1) rfl
      have hbn := g0.lt
      have hbi := gi.lt
      have hbv := gv.lt
      have G0 := hid g0
      have GI := hid gi
      have GV := hid gv
      have HJ7 := hid hJ7
      have HK := hid hk
      have s2 : Hid (∀ k, (S' k ∨ V k) ∨ k = Bp → N ≤ k ∧ k < X.heap.size) := hid (fun k h => h.elim (fun h => h.elim (fun h => by have := hS7 k h; omega) (fun h => by have := v4.out k h; omega)) (fun h => by omega))
      have HS7 := hid hS7
      clear g0 gi gv hJ7 hk kp hpre2 hym hrec2 hSl2' hSp hS7 hseq2
      gi_wp2_with fail
      refine C.ext_tailInB 9 (by kernel_rfl) (C.WideF.round _ _ _) (by kernel_rfl) (by kernel_rfl) ?_
      simp only [List.take_succ_cons, List.take_zero, List.drop_succ_cons, List.drop_zero]
      repeat (refine C.bq_step (fun K hK => ?_); go_simp; refine ⟨hK _ ?_⟩; clear hK K)
      refine C.bq_nil ?_
      rintro _ ⟨xx, rfl⟩
      have hxx := xx.h
      have hsx := hxx.size
      have hJ8 := HJ.out _ _ (fun k => (S' k ∨ V k) ∨ k = Bp) X xx.w HJ7.out s2.out (Kept.of_all hxx _) (fun k h => .inl h)
      obtain ⟨fn2, tmps2, assign2, body2, hy, hR⟩ := HY.out _ _ (xi, tx.extract fn tn) xx.w hJ8 (by omega) (fun k h => by have := s2.out k h; omega) hpo.out
      have HR' := hid hR
      have HX8 := hid hxx
      clear hR hJ8 hxx
      gi_wp2_with fail
      refine (RoundIn.inRound l2 (RoundIn.wide HR'.out)).mono ?_
      rintro e W8 ⟨hk8, (⟨rfl, hJ9⟩ | ⟨rfl, hJ9⟩)⟩
      all_goals
        have hs8 := hk8.size
        have hKX : Hid (Kept (fun k => k = W5.heap.size ∨ S' k) X W8) := hid ((Kept.of_all HX8.out _).trans (hk8.mono (fun k _ h => .inr (.inl (h.elim (fun h => .inr (v2.out _ (.inr (.inr (.inr h))))) .inl)))))
        have hK5 : Hid (Kept (fun k => (k = N + 1 ∨ k = pb ∨ k = g) ∨ S k) W5 W8) := hid (HK.out.trans ((Kept.of_all HX8.out _).trans (hk8.mono (fun k _ h => h.elim (fun h => h.elim (fun h => .inr (.inl (.inr (h ▸ nV.out)))) (fun h => .inl (h.elim (fun h => h ▸ HR.out.2.1) (fun h => h ▸ HR.out.2.2)))) (fun h => .inr (.inl (.inr (sV.out k h))))))))
        have D0 := hid ((G0.out.low HX8.out).keep hk8 (.inr (.inl (.inr nV0.out))))
        have DI := hid ((GI.out.low HX8.out).keep hk8 (.inr (.inl (.inr (v2.out _ (.inr (.inl rfl)))))))
        have DV := hid ((GV.out.low HX8.out).keep hk8 (.inr (.inl (.inr (v2.out _ (.inr (.inr (.inl rfl))))))))
        have J9 := hid hJ9
        have s29 : Hid (∀ k, (S' k ∨ V k) ∨ k = Bp → N ≤ k ∧ k < W8.heap.size) := hid (fun k h => by have := s2.out k h; omega)
        clear hk8 hJ9 hy
        gi_wp2_with fail
      · refine ⟨hKX.out, ?_, D0.out, DI.out, DV.out, by omega, hK5.out⟩
        rw [List.map_append, ← List.append_assoc]
        exact HJ.out _ _ _ W8 W8 J9.out s29.out (Kept.refl _ _) (fun k h => .inl (.inl h))
      · exact ⟨hKX.out, rfl, by omega, hK5.out, _, hpo.out, HX.out _ _ _ W8 W8 J9.out s29.out (Kept.refl _ _) (fun k h => .inl (.inl h))⟩
    case done2 =>
      rintro W9 hW9 ⟨hJ9, g0, gi, gv, hsz, hk⟩
      have hv : Hid (pW (pre ++ [(xi, ⟨tx, va, vb, vc, vf, vt⟩)]) = pW pre ++ (wordsL tx).map (prW ⟨xi, ⟨tx, va, vb, vc, vf, vt⟩⟩)) := hid (pW_snoc pre _)
      have G0 := hid g0
      have HK := hid hk
      have J9 := hid (HJ.out _ _ (U S) W9 W9 hJ9 (fun k h => h.elim (fun h => h.elim) (fun h => by have := v4.out k h; omega)) (Kept.refl _ _) (fun k h => .inl (.inr (v2.out k (.inl h)))))
      subst hTm2 hD2
      clear hJ9 g0 gi gv hk hseq2
      gi_wp2_with fail
      show Kept _ _ _ ∧ (J (pW (pre ++ [(xi, ⟨tx, va, vb, vc, vf, vt⟩)])) (U S) _ ∧ Blk _ N 166 _ ∧ _)
      rw [hv.out]
      exact ⟨HK.out, J9.out, G0.out, by omega⟩
    case stop2 =>
      rintro c qs W9 hW9 hpre2 ⟨rfl, hsz, hk, q, hq, hXq⟩
      have HK := hid hk
      have HQ := hid hq
      have X9 := hid (HX.out _ _ (U S) W9 W9 hXq (fun k h => h.elim (fun h => h.elim) (fun h => by have := v4.out k h; omega)) (Kept.refl _ _) (fun k h => .inl (.inr (v2.out k (.inl h)))))
      subst hTm2 hD2
      clear hk hq hXq hpre2 hseq2
      gi_wp2_with fail
      exact ⟨HK.out, rfl, by omega, _, HQ.out, X9.out⟩
  case done =>
    rintro Dk W9 hDk ⟨hJ9, k0, h49⟩ hK
    have hDl := at_lt hK
    have s9 := U4.out (fun k => k = Dk) W9 (fun k h => by omega) h49
    have SD : Hid (U (fun k => k = Dk) Dk) := hid (U2.out _ _ (.inl rfl))
    have S9 := hid s9
    have hK0 := hid hK
    have J9 := hid hJ9
    clear k0 hK hJ9 s9 hseq HOf
    subst hTm hD
    gi_wp2_with fail
    refine ⟨by simp, .inl ⟨_, _, rfl, run_takeDeferred hK0.out, ?_⟩⟩
    exact ⟨_, results_none rfl _ _ _, ⟨_, rfl⟩, .inl (HJ.out _ _ none' W9 _ J9.out S9.out (Kept.putObj W9 (fun h => h SD.out) _) (fun k h => h.elim))⟩
  case stop =>
    rintro Dk c pre W9 hDk hpre ⟨rfl, h49, q, hq, hXq⟩ hK
    have hDl := at_lt hK
    have s9 := U4.out (fun k => k = Dk) W9 (fun k h => by omega) h49
    have SD : Hid (U (fun k => k = Dk) Dk) := hid (U2.out _ _ (.inl rfl))
    have hK0 := hid hK
    have HXq := hid hXq
    have S9 := hid s9
    clear hK hXq s9 hseq HOf
    subst hTm hD
    gi_wp2_with fail
    refine ⟨by simp, .inl ⟨_, _, rfl, run_takeDeferred hK0.out, ?_⟩⟩
    exact ⟨_, results_none rfl _ _ _, ⟨_, rfl⟩, .inr ⟨q, hq, HX.out _ _ none' W9 _ HXq.out S9.out (Kept.putObj W9 (fun h => h SD.out) _) (fun k h => h.elim)⟩⟩
theorem pwords_seq (hOf : OfOk) (L : List Vs) (hL : L.length ≤ 70000) (hLs : ∀ v ∈ L, v.tx.size ≤ 100000) (pb g cap : Nat) (a : Option Addr) (kb : Nat) (w : World) (hc : w.cell? ⟨kb, 0, none⟩ = some (.pointer (some ⟨pb, 0, none⟩))) (hP : PmAt w pb g a cap L) (hgW : pb < w.heap.size ∧ g < w.heap.size) :
    SeqS Fence.wide 9 Tryz.prog 91 #[.pointer (some ⟨kb, 0, none⟩)] (fun x => #[.int .i64 x.1, .string x.2]) (fun k => k = kb ∨ k = pb ∨ k = g) (pW (eachL 0 L)) w := fun l J Jx W hW hJ hX hY h0 =>
  pwords26 hOf L hL hLs pb g cap a l kb (fun k => k = kb ∨ k = pb ∨ k = g) ⟨.inl rfl, .inr (.inl rfl), .inr (.inr rfl)⟩ J Jx W hJ hX hY ((hW.cell (p := ⟨kb, 0, none⟩) (World.block_lt_of_cell? w _ hc)).trans hc) (hP.low hW) (by have := hW.size; omega) h0
end Go.Proofs.YteodfondjogmoaaGreatDoor
