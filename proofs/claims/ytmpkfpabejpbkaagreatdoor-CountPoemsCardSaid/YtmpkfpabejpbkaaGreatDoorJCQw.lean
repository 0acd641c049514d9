/- A region that draws its order in whose midst one call writes, everything ahead of it and behind it being quiet: walked once, the call in its place. Conditions: the program follows mixed orders; the order of the region passes two checks. -/
import Derived.Test.YtmpkfpabejpbkaaGreatDoorCQx
import Derived.Test.YtmpkfpabejpbkaaGreatDoorJCTaQ
import Derived.Test.YtmpkfpabejpbkaaGreatDoorJCTaJ
namespace Go.Proofs.YtmpkfpabejpbkaaGreatDoor.C
open Go Go.RowKit
set_option linter.unusedVariables false
section
variable {P : Program} {ops : Array Oper} {C : World → Prop} {n : Nat}
theorem wp_then {o : Oper} {a : Act} {w : World} {K L : Act → World → Prop} {Q : Exit → Act → World → Prop} (h : o.wp P a w K (Exit.then L Q)) : o.wp P a w K Q := by
  unfold Oper.wp at *
  generalize (execOp a.eval o).run P w = r at *
  cases r with
  | ok nx w' =>
    cases nx <;> first | exact h | skip
  | halt r w' => cases r <;> exact h
/-- what lies at n and beyond waits for all that lies ahead -/
def Waits (ops : Array Oper) (n : Nat) : Prop := ∀ T, HeadInv .any ops n T → ∀ i, i < n → T.getD i true = false → ∀ t, n ≤ t → t ∉ Region.ready .any ops T
/-- .. by a direct tie of each later one -/
def restB (ops : Array Oper) (n : Nat) : Bool :=
  (List.range ops.size).all fun t => decide (t ≤ n) || match ops[t]? with | some o => o.after.any (fun e => Region.binds .any e && decide (n ≤ e.on) && decide (e.on < ops.size)) | none => true
theorem waits_of (hs : Region.sinkB .any ops n = true) (hr : restB ops n = true) (hn : n < ops.size) : Waits ops n := by
  intro T inv
  have key : ∀ (d i : Nat), n - i = d → i < n → T.getD i true = false → n ∉ Region.ready .any ops T := by
    intro d
    induction d using Nat.strongRecOn with
    | _ d ih =>
      intro i hd hi hun hrd
      obtain ⟨_, ot, hot, hall⟩ := mem_ready.1 hrd
      have h1 := List.all_eq_true.1 hs i (List.mem_range.2 hi)
      obtain ⟨j, hj, hj2⟩ := List.any_eq_true.1 h1
      simp only [Bool.and_eq_true, decide_eq_true_eq] at hj2
      obtain ⟨oj, hoj, e, he, hb, hon⟩ := Region.waitsFor_spec hj2.2
      have hjle : j ≤ n := by have := List.mem_range.1 hj; omega
      by_cases hjt : j = n
      · subst hjt
        have : oj = ot := Option.some.inj (hoj.symm.trans hot)
        subst this
        have h2 := hall e he hb
        rw [hon, getD_both hun] at h2
        cases h2
      · cases hl : T.getD j false with
        | true =>
          have h2 := inv.closed j oj hoj hl e he hb
          rw [hon, getD_both hun] at h2
          cases h2
        | false =>
          have hjs : j < T.size := by rw [inv.size]; omega
          exact ih (n - j) (by omega) j rfl (by omega) (getD_in hjs hl) hrd
  intro i hi hun t ht hrd
  by_cases htn : t = n
  · subst htn; exact key _ i rfl hi hun hrd
  · obtain ⟨_, ot, hot, hall⟩ := mem_ready.1 hrd
    have htlt : t < ops.size := (Array.getElem?_eq_some_iff.1 hot).1
    have h1 := List.all_eq_true.1 hr t (List.mem_range.2 htlt)
    simp only [Bool.or_eq_true, decide_eq_true_eq] at h1
    rcases h1 with h1 | h1
    · omega
    · rw [hot] at h1
      dsimp only at h1
      obtain ⟨e, he, hb⟩ := Array.any_eq_true'.1 h1
      simp only [Bool.and_eq_true, decide_eq_true_eq] at hb
      have h2 := hall e he hb.1.1
      rw [getD_both (inv.tail e.on hb.1.2 hb.2)] at h2
      cases h2
theorem waits_chain (hs : Region.sinkB .any ops n = true) (hc : Region.chainB .any ops n = true) (hn : n < ops.size) : Waits ops n := fun T inv i hi hun t ht => tail_waits hs hc hn inv _ i rfl hi hun t ht
theorem AnyHead.firstW {E : Array Bool → Act → Prop} (hsel : Region.noSelect ops = true) (hw : Waits ops n)
    (hE : ∀ T a, E T a → ∀ j, j ∈ Region.ready .any ops T → n ≤ j) {i : Nat} {o : Oper} {v : Value} (ho : ops[i]? = some o) (hin : i < n) (f : Nat) :
    ∀ T a, HeadInv .any ops n T → i ∈ Region.ready .any ops T →
      (∀ j x, ops[j]? = some x → j ≠ i → T.getD j true = false → (∀ e ∈ x.after, Region.binds .any e = true → e.on ≠ i) → o.apart ops x = true) →
      YieldsIn P ops C o v a → AnyHead P ops C n E f (T.setIfInBounds i true) (a.put o.dst v) → AnyHead P ops C n E (f + 1) T a := by
  have nosel := Region.noSelect_spec hsel
  induction f with
  | zero =>
    intro T a inv hi hap hy h
    have hlt : ∀ j, j ∈ Region.ready .any ops T → j < n := fun j hj =>
      Nat.lt_of_not_le fun hnj => hw T inv i hin (mem_ready.1 hi).1 j hnj hj
    refine ⟨⟨fun h0 => by simp [h0] at hi, hlt⟩, fun j hj => ?_⟩
    rcases Nat.decEq j i with hne | rfl
    · exact absurd (hlt j hj) (Nat.not_lt.2 (hE _ _ h j (ready_mono hj hne)))
    · exact hy.qOp ho h
  | succ f ih =>
    intro T a inv hi hap hy h
    have hun := (mem_ready.1 hi).1
    have hlt : ∀ j, j ∈ Region.ready .any ops T → j < n := fun j hj =>
      Nat.lt_of_not_le fun hnj => hw T inv i hin hun j hnj hj
    refine ⟨⟨fun h0 => by simp [h0] at hi, hlt⟩, fun j hj => ?_⟩
    rcases Nat.decEq j i with hne | rfl
    · obtain ⟨hjun, x, hx, hwait⟩ := mem_ready.1 hj
      have hno : ∀ e ∈ x.after, Region.binds .any e = true → e.on ≠ i := fun e he hb h1 => by
        have h2 := hwait e he hb
        rw [h1, getD_both hun] at h2
        exact Bool.false_ne_true h2
      refine qOp_mono (fun a' h' => ?_) (qOp_put hx (hap j x hx hne hjun hno) (fun cs b => nosel i o cs b ho) (fun cs b => nosel j x cs b hx) hy (h.2 j (ready_mono hj hne)))
      refine ih _ a' (inv.set hj (hlt j hj)) (ready_mono hi (Ne.symm hne)) (fun k y hk hki hkT hky => ?_) h'.1 ?_
      · refine hap k y hk hki ?_ hky
        rcases Nat.decEq j k with hjk | rfl
        · rwa [getD_set_ne true hjk] at hkT
        · exact hjun
      · rw [Array.setIfInBounds_comm _ _ hne]
        exact h'.2
    · exact hy.qOp ho h
/-- the order of the text, from operation k on, ends at the marks Z -/
def lexTo (ops : Array Oper) (Z : Array Bool) : Nat → Nat → Array Bool → Bool
  | 0, _, T => T == Z
  | f + 1, k, T => (Region.ready .any ops T).contains k && Region.free .any ops T k && lexTo ops Z f (k + 1) (T.setIfInBounds k true)
theorem AnyHead.textW {L : Act → Prop} {Z : Array Bool} (hsel : Region.noSelect ops = true) (hw : Waits ops n) (hZ : ∀ j, j ∈ Region.ready .any ops Z → n ≤ j) (l : List Oper) :
    ∀ k T a, (∀ j, j < l.length → ops[k + j]? = l[j]?) → k + l.length = n → HeadInv .any ops n T → lexTo ops Z l.length k T = true →
      wpQuiet P ops C L l a → AnyHead P ops C n (fun T' a' => T' = Z ∧ L a') l.length T a := by
  induction l with
  | nil =>
    intro k T a _ hk _ hB h
    exact ⟨by simpa [lexTo] using hB, h⟩
  | cons o l ih =>
    intro k T a hl hk inv hB h
    have h0 : ops[k]? = some o := by have := hl 0 (by simp); simpa using this
    simp only [List.length_cons, lexTo, Bool.and_eq_true, List.contains_iff_mem] at hB
    simp only [List.length_cons] at hk
    have hkn : k < n := by omega
    obtain ⟨v, hy, h2⟩ := yieldsIn_of_qOp (P := P) (C := C) h0 (a := a) (K := wpQuiet P ops C L l) (by unfold qOp; rw [h0]; exact h)
    refine AnyHead.firstW hsel hw (fun T' a' hT => by rw [hT.1]; exact hZ) h0 hkn l.length T a inv hB.1.1 (Region.free_spec h0 hB.1.2) hy ?_
    refine ih (k + 1) _ _ (fun j hj => ?_) (by omega) (inv.set hB.1.1 hkn) hB.2 h2
    have := hl (j + 1) (by simp; omega)
    simpa [Nat.add_assoc, Nat.add_comm 1 j] using this
end
/-- the first k marked -/
def upTo (s k : Nat) : Array Bool := (List.replicate k true ++ List.replicate (s - k) false).toArray
theorem upTo_tail (s k t : Nat) (h : k ≤ t) : (upTo s k).getD t false = false := by
  unfold upTo
  rw [Array.getD_eq_getD_getElem?, List.getElem?_toArray, List.getElem?_append_right (by simpa using h), List.getElem?_replicate]
  split <;> rfl
def closedB (ops : Array Oper) (T : Array Bool) : Bool :=
  (List.range ops.size).all fun j => match ops[j]? with | some oj => !T.getD j false || oj.after.all (fun e => !Region.binds .any e || T.getD e.on false) | none => true
/-- the two checks -/
def callB (ops : Array Oper) (p n : Nat) : Bool :=
  Region.noSelect ops && decide (p < n) && decide (n < ops.size) && Region.sinkB .any ops p && restB ops p && lexTo ops (upTo ops.size p) p 0 (Array.replicate ops.size false) &&
  decide (Region.ready .any ops (upTo ops.size p) = [p]) && decide ((upTo ops.size p).setIfInBounds p true = upTo ops.size (p + 1)) && closedB ops (upTo ops.size (p + 1)) &&
  Region.sinkB .any ops n && Region.chainB .any ops n && Region.lexHead .any ops (ops.size - n) (n - (p + 1)) (p + 1) (upTo ops.size (p + 1))
/-- what is left behind the call: quiet again, of a class of worlds that may be named then -/
structure Later (P : Program) (l : List Oper) (p n : Nat) (Q : Exit → Act → World → Prop) (a : Act) (w : World) : Prop where
  out : ∃ C : World → Prop, C w ∧ wpQuiet P l.toArray C (fun a' => ∀ w', C w' → wpList P l.toArray Q (l.drop n) a' w') ((l.take n).drop (p + 1)) a
theorem region_call {P : Program} {C : World → Prop} {id : Nat} {Q : Exit → Act → World → Prop} {a : Act} {w : World} {l : List Oper} (p n : Nat) (o : Oper) (hm : P.follows .mixedOrders = true) (hB : callB l.toArray p n = true) (ho : l[p]? = some o) (hC : C w.drew)
    (h : wpQuiet P l.toArray C (fun a' => ∀ w', C w' → wpList P l.toArray (Exit.then (Later P l p n Q) Q) [o] a' w') (l.take p) a) : (Code.region id l.toArray true).wp P Q a w := by
  simp only [callB, Bool.and_eq_true, decide_eq_true_eq] at hB
  obtain ⟨⟨⟨⟨⟨⟨⟨⟨⟨⟨⟨b1, b2⟩, b3⟩, b4⟩, b5⟩, b6⟩, b7⟩, b8⟩, b9⟩, b10⟩, b11⟩, b12⟩ := hB
  have hsz : l.toArray.size = l.length := by simp
  have htp : (l.take p).length = p := by rw [List.length_take]; omega
  have hw1 : Waits l.toArray p := waits_of b4 b5 (by omega)
  have inv0 : HeadInv .any l.toArray p (Array.replicate l.toArray.size false) :=
    ⟨Array.size_replicate, fun j x _ hT => (by rw [getD_replicate_false] at hT; cases hT), fun t _ ht => getD_in (by rw [Array.size_replicate]; exact ht) (getD_replicate_false _ _)⟩
  have hh := AnyHead.textW (P := P) (C := C) (Z := upTo l.toArray.size p) b1 hw1 (fun j hj => by rw [b7] at hj; simp at hj; omega) (l.take p) 0 (Array.replicate l.toArray.size false) a
    (fun j hj => by rw [htp] at hj; simp [hj]) (by rw [htp]; omega) inv0 (by rw [htp]; exact b6) h
  refine wp_region_any hm ?_
  have h2 := AnyHead.sound (Q := Q) (g := l.toArray.size - p) (fun T a' w' hw' hT => by
    obtain ⟨rfl, hL⟩ := hT
    have hgo := hL w' hw'
    rw [show l.toArray.size - p = (l.toArray.size - (p + 1)) + 1 by omega]
    refine ⟨fun h0 => (by rw [b7] at h0; cases h0), fun i hi => ?_⟩
    rw [b7] at hi
    have hip : i = p := by simpa using hi
    subst hip
    have h0 : l.toArray[i]? = some o := by simpa using ho
    have hop : wpOp P l.toArray Q i (fun a' w' => Later P l i n Q a' w') a' w' := by
      unfold wpOp
      simp only [h0]
      have hgo' : (if Region.wanted o (yielded l.toArray a'.tmps) then o.wp P a' w' (wpList P l.toArray (Exit.then (Later P l i n Q) Q) []) (Exit.then (Later P l i n Q) Q) ∨ (o.asks P a' w' ∧ LetsOut (Exit.then (Later P l i n Q) Q)) else wpList P l.toArray (Exit.then (Later P l i n Q) Q) [] (a'.put o.dst undef) w') := hgo
      split at hgo'
      · rename_i hwt
        rw [if_pos hwt]
        rcases hgo' with hgo' | hgo'
        · exact .inl (wp_then hgo')
        · exact .inr hgo'
      · rename_i hwt
        rw [if_neg hwt]
        exact hgo'
    refine wpOp_mono (fun a2 w2 hl2 => ?_) hop
    obtain ⟨C2, hC2, hq2⟩ := hl2.out
    rw [b8]
    have hdl : ((l.take n).drop (i + 1)).length = n - (i + 1) := by rw [List.length_drop, List.length_take]; omega
    have inv1 : HeadInv .any l.toArray n (upTo l.toArray.size (i + 1)) := by
      refine ⟨by simp [upTo]; omega, fun j oj hj hl e he hb => ?_, fun t ht ht' => ?_⟩
      · have h1 := List.all_eq_true.1 b9 j (List.mem_range.2 (Array.getElem?_eq_some_iff.1 hj).1)
        rw [hj] at h1
        dsimp only at h1
        rw [hl] at h1
        simp only [Bool.not_true, Bool.false_or] at h1
        have h2 := (Array.all_eq_true'.1 h1) e he
        rw [hb] at h2
        simpa using h2
      · exact getD_in (by simp [upTo]; omega) (upTo_tail _ _ _ (by omega))
    have hh2 := AnyHead.text (P := P) (C := C2) (g := l.toArray.size - n) b1 b10 b11 b3 ((l.take n).drop (i + 1)) (i + 1) (upTo l.toArray.size (i + 1)) a2
      (fun j hj => by rw [hdl] at hj; rw [List.getElem?_drop, List.getElem?_take, if_pos (by omega)]; simp) (by rw [hdl]; omega) inv1 (by rw [hdl]; exact b12) hq2
    have h3 := AnyHead.sound (Q := Q) (g := l.toArray.size - n) (fun T a3 w3 hw3 hT => by
      have := wpAny_of_seq (md := .any) (Q' := Q) (l.drop n) n T a3 w3 (fun j => by simp [List.getElem?_drop]) (by rw [List.length_drop, ← hsz]; exact hT.1) (hT.2 w3 hw3)
      rwa [List.length_drop, ← hsz] at this) _ _ _ _ hC2 hh2
    rw [hdl, show l.toArray.size - n + (n - (i + 1)) = l.toArray.size - (i + 1) by omega] at h3
    exact h3) _ _ _ _ hC hh
  rw [htp, show l.toArray.size - p + p = l.toArray.size by omega] at h2
  exact h2
theorem region_callB {P : Program} {id : Nat} {Q : Exit → Act → World → Prop} {a : Act} {w : World} {l : List Oper} (p n : Nat) (o : Oper) (hm : P.follows .mixedOrders = true) (hB : callB l.toArray p n = true) (ho : l[p]? = some o)
    (h : Box (wpQuiet P l.toArray (fun w' => ∃ q, w' = w.drewN q) (fun a' => ∀ w', (∃ q, w' = w.drewN q) → wpList P l.toArray (Exit.then (Later P l p n Q) Q) [o] a' w') (l.take p) a)) : (Code.region id l.toArray true).wp P Q a w :=
  region_call p n o hm hB ho ⟨1, rfl⟩ h.out
theorem Later.draws {P : Program} {l : List Oper} {p n : Nat} {Q : Exit → Act → World → Prop} {a : Act} {w : World}
    (h : Box (wpQuiet P l.toArray (fun w' => ∃ q, w' = w.drewN q) (fun a' => ∀ w', (∃ q, w' = w.drewN q) → wpList P l.toArray Q (l.drop n) a' w') ((l.take n).drop (p + 1)) a)) : Later P l p n Q a w := ⟨_, ⟨0, rfl⟩, h.out⟩
end Go.Proofs.YtmpkfpabejpbkaaGreatDoor.C
/- The document's Add and Merge walked: they answer as the program's, and what they hand back are the same entries. Conditions: those of each theorem. -/
namespace Go.Proofs.YtmpkfpabejpbkaaGreatDoor.C
open Go.RowKit Go.Lib Go.Sort Go.Shelf
set_option linter.unusedVariables false
set_option linter.unusedSimpArgs false
set_option maxRecDepth 100000 in
set_option maxHeartbeats 2000000 in
theorem radd_any {w : World} {v : Value} {L : List Ent} (h : EntsIn w v L) (hE : Ents L) (hnd : (keysL L).Nodup) (k : ByteArray) (n : Int) :
    Calls Tryz.prog 8 #[v, .string k, .int .i64 n] w fun e w' => ∃ u, e = .returned (.tuple #[u, .int .i64 (addE L k n)]) ∧ EntsIn w' u (addR L k n) ∧ Below w.heap.size w w' ∧ (u = v ∨ ∀ g, u.ownBlock = some g → w.heap.size ≤ g) := by
  have hC := hid (rcount_any h k (by have := hE.len; omega))
  have hT := hid (rtotal_any h hE)
  have hP := hid (fun (hn : 1 ≤ n ∧ n ≤ 2147483648) => rput_any h k n (by have := hE.len; omega) (by have := (countL_le k hE.pos); have := hE.tot; omega))
  have hmem := mem_keys_pos hnd hE.pos k
  have hc0 := (countL_le k hE.pos).1
  have hc1 := (countL_le k hE.pos).2
  have hs0 := sumL_pos hE.pos
  have hst := hE.tot
  have hlen := hE.len
  have HV := hid h
  obtain ⟨p, cap, rfl, hat⟩ := h.opened
  clear hat h hE
  by_cases c1 : n < 1 ∨ 2147483648 < n
  · have hA : addE L k n = 2 := if_pos c1
    have hR : addR L k n = L := by unfold addR; rw [hA]; rfl
    rw [hA, hR]
    clear hA hR hP
    rcases c1 with c1 | c1
    · have t1 : decide (n < 1) = true := decide_eq_true c1
      go_enter Tryz.func8, Tryz.ntmps8
      go_wp2_with fail
      go_ret2
      exact ⟨_, rfl, HV.out, Below.refl _ _, .inl rfl⟩
    · have t1 : decide (n < 1) = false := decide_eq_false (by omega)
      have t2 : decide (2147483648 < n) = true := decide_eq_true c1
      go_enter Tryz.func8, Tryz.ntmps8
      go_wp2_with fail
      go_ret2
      exact ⟨_, rfl, HV.out, Below.refl _ _, .inl rfl⟩
  have t1 : decide (n < 1) = false := decide_eq_false (by omega)
  have t2 : decide (2147483648 < n) = false := decide_eq_false (by omega)
  by_cases c2 : k ∉ keysL L ∧ 4096 ≤ L.length
  · have hA : addE L k n = 3 := by unfold addE; rw [if_neg c1, if_pos (.inl c2)]
    have hR : addR L k n = L := by unfold addR; rw [hA]; rfl
    rw [hA, hR]
    have z : countL L k = 0 := by
      have := c2.1
      rw [hmem] at this
      omega
    have t3 : decide ((4096 : Int) ≤ (L.length : Int)) = true := decide_eq_true (by omega)
    have t3' : decide (4096 ≤ L.length) = true := decide_eq_true (by omega)
    rw [z] at hC
    clear hA hR hP z c2 hc0 hc1
    generalize L.length = q at *
    go_enter Tryz.func8, Tryz.ntmps8
    go_wp2_with fail
    with_reducible refine Calls.mono hC.out ?_
    rintro e w' ⟨rfl, rfl⟩
    go_wp2_with fail
    go_ret2
    exact ⟨_, rfl, HV.out, Below.refl _ _, .inl rfl⟩
  have hz : (countL L k == 0) = true ∧ decide ((4096 : Int) ≤ (L.length : Int)) = false ∧ decide (4096 ≤ L.length) = false ∨ (countL L k == 0) = false := by
    by_cases hk : k ∈ keysL L
    · rw [hmem] at hk
      exact .inr (by rw [beq_eq_false_iff_ne]; omega)
    · have h4 : ¬ 4096 ≤ L.length := fun h => c2 ⟨hk, h⟩
      refine .inl ⟨?_, decide_eq_false (by omega), decide_eq_false h4⟩
      rw [hmem] at hk
      rw [beq_iff_eq]; omega
  have hres : (2147483648 < sumL L + n ∧ addE L k n = 3 ∧ addR L k n = L) ∨ (¬ 2147483648 < sumL L + n ∧ addE L k n = 0 ∧ addR L k n = putL L k n) := by
    by_cases h3 : 2147483648 < sumL L + n
    · have hA : addE L k n = 3 := by unfold addE; rw [if_neg c1, if_pos (.inr h3)]
      exact .inl ⟨h3, hA, by unfold addR; rw [hA]; rfl⟩
    · have hA : addE L k n = 0 := by unfold addE; rw [if_neg c1, if_neg (by rintro (h | h); exact c2 h; exact h3 h)]
      exact .inr ⟨h3, hA, by unfold addR; rw [hA]; rfl⟩
  have hPp := hid (hP.out (by omega))
  have hz' := hid hz
  have hres' := hid hres
  clear hP hz hres c2 hmem
  generalize addE L k n = A at *
  generalize addR L k n = R at *
  generalize putL L k n = U at *
  generalize hc : countL L k = c at *
  generalize L.length = q at *
  generalize sumL L = S at *
  clear hc
  have hw : IntKind.i64.wrap (S + n) = S + n := IntWalk.i64_in _ (by omega)
  rcases hz'.out with ⟨z1, z2, z3⟩ | z1
  all_goals
    clear hz'
    rcases hres'.out with ⟨r1, rfl, rfl⟩ | ⟨r1, rfl, rfl⟩
    all_goals
      clear hres'
      first | (have t5 : decide (2147483648 < S + n) = true := decide_eq_true r1) | (have t5 : decide (2147483648 < S + n) = false := decide_eq_false r1)
      clear r1
      go_enter Tryz.func8, Tryz.ntmps8
      go_wp2_with fail
      with_reducible refine Calls.mono hC.out ?_
      rintro e w' ⟨rfl, rfl⟩
      go_wp2_with fail
      with_reducible refine Calls.mono hT.out ?_
      rintro e w' ⟨rfl, rfl⟩
      go_wp2_with fail
      first
        | (with_reducible refine Calls.mono hPp.out ?_
           rintro e w' ⟨u, rfl, hu, hb, hfr⟩
           have hfr2 := hid hfr
           clear hfr
           have hu2 := hid hu
           have hb2 := hid hb
           clear hu hb
           go_wp2_with fail
           go_ret2
           exact ⟨_, rfl, hu2.out, hb2.out, .inr hfr2.out⟩)
        | (go_ret2
           exact ⟨_, rfl, HV.out, Below.refl _ _, .inl rfl⟩)
end Go.Proofs.YtmpkfpabejpbkaaGreatDoor.C
