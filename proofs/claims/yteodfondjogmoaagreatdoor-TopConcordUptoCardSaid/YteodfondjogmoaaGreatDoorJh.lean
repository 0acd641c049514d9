/- A region of code that draws its order, some of whose operations write or make memory (the effects): it is enough to walk it once, in the text's order; the class of worlds hangs on what the effects that are done have left in their slots. Conditions: those of the theorem; each effect is shown to go well whichever of the others are done. -/
import Derived.Test.YteodfondjogmoaaGreatDoorJe
import Derived.Test.YteodfondjogmoaaGreatDoorJg
namespace Go.Proofs.YteodfondjogmoaaGreatDoor.C
open Go Go.RowKit
set_option linter.unusedVariables false
section
variable {P : Program} {ops : Array Oper} {es : List (Nat × Option Tmp)} {H : List (Option Value) → World → Prop} {cv : FuncId → Array Value → Value → Prop} {n : Nat}
def kOf (es : List (Nat × Option Tmp)) (i : Nat) : Option Nat := es.findIdx? fun p => p.1 == i
def slotV (a : Act) : Option Tmp → Value
  | some s => a.tmps.getD s undef
  | none => undef
def valE (es : List (Nat × Option Tmp)) (k : Nat) (u : Value) : Value := match es[k]? with
  | some (_, none) => undef
  | _ => u
/-- does operation i wait for operation e at once? -/
def depB (ops : Array Oper) (i e : Nat) : Bool := match ops[i]? with
  | some o => o.after.any fun d => Region.binds .any d && d.on == e
  | none => false
def nxE (es : List (Nat × Option Tmp)) (i : Nat) (x : List (Option Value)) (u : Value) : List (Option Value) := match kOf es i with
  | some k => x.set k (some (valE es k u))
  | none => x
/-- what the effects that are done have left -/
def stE (es : List (Nat × Option Tmp)) (T : Array Bool) (a : Act) : List (Option Value) := es.map fun p => if T.getD p.1 false = true then some (slotV a p.2) else none
def fitE (ops : Array Oper) (es : List (Nat × Option Tmp)) (i : Nat) (x : List (Option Value)) (a : Act) : Prop := x.length = es.length ∧ (∀ k, kOf es i = some k → x[k]? = some none) ∧ ∀ (m : Nat) (p : Nat × Option Tmp), es[m]? = some p → depB ops i p.1 = true → x[m]? = some (some (slotV a p.2))
def goE (P : Program) (es : List (Nat × Option Tmp)) (H : List (Option Value) → World → Prop) (cv : FuncId → Array Value → Value → Prop) (i : Nat) (x : List (Option Value)) : Result Next → Prop
  | .ok (.value u) w' => H (nxE es i x u) w'
  | .ok .skip w' => H (nxE es i x undef) w'
  | .ok (.enter f args) w' => (∃ u, cv f args u) ∧ Calls P f args w' fun e w'' => ∃ u, e = .returned u ∧ cv f args u ∧ H (nxE es i x u) w''
  | _ => False
def outE (cv : FuncId → Array Value → Value → Prop) (u : Value) : Result Next → Prop
  | .ok (.value v) _ => u = v
  | .ok .skip _ => u = undef
  | .ok (.enter f args) _ => cv f args u
  | _ => False
def okE (P : Program) (ops : Array Oper) (es : List (Nat × Option Tmp)) (H : List (Option Value) → World → Prop) (cv : FuncId → Array Value → Value → Prop) (i : Nat) (o : Oper) (a : Act) : Prop :=
  (∃ x w, fitE ops es i x a ∧ H x w) ∧ ∀ x w, fitE ops es i x a → H x w → goE P es H cv i x ((execOp a.eval o).run P w)
def canE (P : Program) (ops : Array Oper) (es : List (Nat × Option Tmp)) (H : List (Option Value) → World → Prop) (cv : FuncId → Array Value → Value → Prop) (i : Nat) (o : Oper) (a : Act) (u : Value) : Prop :=
  if Region.wanted o (yielded ops a.tmps) = true then ∃ x w, fitE ops es i x a ∧ H x w ∧ outE cv u ((execOp a.eval o).run P w) else u = undef
def yiE (P : Program) (ops : Array Oper) (es : List (Nat × Option Tmp)) (H : List (Option Value) → World → Prop) (cv : FuncId → Array Value → Value → Prop) (i : Nat) (o : Oper) (a : Act) : Prop :=
  (Region.wanted o (yielded ops a.tmps) = true → okE P ops es H cv i o a) ∧ (Region.wanted o (yielded ops a.tmps) = false → kOf es i = none)
def atE (P : Program) (ops : Array Oper) (es : List (Nat × Option Tmp)) (H : List (Option Value) → World → Prop) (cv : FuncId → Array Value → Value → Prop) (i : Nat) (K : Act → Prop) (a : Act) : Prop :=
  match ops[i]? with
  | none => K a
  | some o => yiE P ops es H cv i o a ∧ ∀ u, canE P ops es H cv i o a u → K (a.put o.dst u)
theorem atE_mono {i : Nat} {a : Act} {K K' : Act → Prop} (h : ∀ a, K a → K' a) (hh : atE P ops es H cv i K a) : atE P ops es H cv i K' a := by
  unfold atE at *
  cases ho : ops[i]? with
  | none => rw [ho] at hh; exact h _ hh
  | some o => rw [ho] at hh; exact ⟨hh.1, fun u hu => h _ (hh.2 u hu)⟩
theorem yiE.same {i : Nat} {o : Oper} {a a' : Act} (hy : yiE P ops es H cv i o a) (he : execOp a'.eval o = execOp a.eval o) (hw : Region.wanted o (yielded ops a'.tmps) = Region.wanted o (yielded ops a.tmps)) (hf : ∀ x, fitE ops es i x a' ↔ fitE ops es i x a) : yiE P ops es H cv i o a' := by
  unfold yiE okE at *
  rw [he, hw]
  simp only [hf]
  exact hy
theorem canE_same {i : Nat} {o : Oper} {a a' : Act} {u : Value} (he : execOp a'.eval o = execOp a.eval o) (hw : Region.wanted o (yielded ops a'.tmps) = Region.wanted o (yielded ops a.tmps)) (hf : ∀ x, fitE ops es i x a' ↔ fitE ops es i x a) : canE P ops es H cv i o a' u ↔ canE P ops es H cv i o a u := by
  unfold canE
  rw [he, hw]
  simp only [hf]
/-- some value there is -/
theorem canE_ne {i : Nat} {o : Oper} {a : Act} (hy : yiE P ops es H cv i o a) : ∃ u, canE P ops es H cv i o a u := by
  by_cases hw : Region.wanted o (yielded ops a.tmps) = true
  · obtain ⟨⟨x, w, h1, h2⟩, hy2⟩ := hy.1 hw
    have h3 := hy2 x w h1 h2
    unfold canE
    generalize hr : (execOp a.eval o).run P w = r at *
    cases r with
    | halt e w' => exact h3.elim
    | ok y w' =>
      cases y with
      | value u => exact ⟨u, by rw [if_pos hw]; exact ⟨x, w, h1, h2, by rw [hr]; rfl⟩⟩
      | skip => exact ⟨undef, by rw [if_pos hw]; exact ⟨x, w, h1, h2, by rw [hr]; rfl⟩⟩
      | enter f args =>
        obtain ⟨⟨u, hu⟩, _⟩ := h3
        exact ⟨u, by rw [if_pos hw]; exact ⟨x, w, h1, h2, by rw [hr]; exact hu⟩⟩
      | _ => exact h3.elim
  · exact ⟨undef, by unfold canE; rw [if_neg hw]⟩
/-- the effects' numbers and slots are well told -/
def wfE (ops : Array Oper) (es : List (Nat × Option Tmp)) : Bool :=
  (List.range ops.size).all fun i => match ops[i]? with
    | none => true
    | some o => es.all fun p => (decide (p.1 = i) && decide (o.dst = p.2)) || (decide (p.1 ≠ i) && (decide (p.2 = none) || decide (o.dst ≠ p.2)))
theorem wfE_spec (h : wfE ops es = true) {i : Nat} {o : Oper} (ho : ops[i]? = some o) {p : Nat × Option Tmp} (hp : p ∈ es) : (p.1 = i ∧ o.dst = p.2) ∨ (p.1 ≠ i ∧ (p.2 = none ∨ o.dst ≠ p.2)) := by
  have hi := (Array.getElem?_eq_some_iff.1 ho).1
  have h1 := List.all_eq_true.1 h i (List.mem_range.2 hi)
  rw [ho] at h1
  have h2 := List.all_eq_true.1 h1 p hp
  simpa using h2
theorem slot_ne {a : Act} {d s : Option Tmp} {u : Value} (h : s = none ∨ d ≠ s) : slotV (a.put d u) s = slotV a s := by
  cases s with
  | none => rfl
  | some s =>
    have h := h.resolve_left (by simp)
    cases d with
    | none => rfl
    | some d =>
      have hne : ¬ d = s := fun e => h (by rw [e])
      simp [slotV, Act.put, Array.getD_eq_getD_getElem?, hne]
theorem slot_eq {a : Act} {s : Tmp} {u : Value} (hs : s < a.tmps.size) : slotV (a.put (some s) u) (some s) = u := by
  simp [slotV, Act.put, Array.getD_eq_getD_getElem?, hs]
theorem fit_put (hwf : wfE ops es = true) {i j : Nat} {oj : Oper} (hj : ops[j]? = some oj) (hd : depB ops i j = false) {a : Act} {u : Value} (x : List (Option Value)) : fitE ops es i x (a.put oj.dst u) ↔ fitE ops es i x a := by
  unfold fitE
  have key : ∀ (m : Nat) (p : Nat × Option Tmp), es[m]? = some p → depB ops i p.1 = true → slotV (a.put oj.dst u) p.2 = slotV a p.2 := fun m p hm hdep => by
    rcases wfE_spec hwf hj (List.mem_of_getElem? hm) with ⟨h1, h2⟩ | ⟨h1, h2⟩
    · rw [h1, hd] at hdep; cases hdep
    · exact slot_ne h2
  constructor
  · rintro ⟨h1, h2, h3⟩
    exact ⟨h1, h2, fun m p hm hdep => by rw [← key m p hm hdep]; exact h3 m p hm hdep⟩
  · rintro ⟨h1, h2, h3⟩
    exact ⟨h1, h2, fun m p hm hdep => by rw [key m p hm hdep]; exact h3 m p hm hdep⟩
theorem atE_put (hwf : wfE ops es = true) {i j : Nat} {oi oj : Oper} (hi : ops[i]? = some oi) (hj : ops[j]? = some oj) (hdi : depB ops i j = false) (hdj : depB ops j i = false) (hap : oi.apart ops oj = true)
    (hsi : ∀ cs b, oi.op ≠ .select cs b) (hsj : ∀ cs b, oj.op ≠ .select cs b) {K : Act → Prop} {a : Act}
    (hy : yiE P ops es H cv i oi a) (h : ∀ v, canE P ops es H cv i oi a v → atE P ops es H cv j K (a.put oi.dst v)) :
    atE P ops es H cv j (fun a' => yiE P ops es H cv i oi a' ∧ ∀ v, canE P ops es H cv i oi a' v → K (a'.put oi.dst v)) a := by
  obtain ⟨h1, h2, h3⟩ := Oper.apart_spec hap
  have si : ∀ u, execOp (a.put oj.dst u).eval oi = execOp a.eval oi := fun u => execOp_put oi hsi a oj.dst u h3
  have wi : ∀ u, Region.wanted oi (yielded ops (a.put oj.dst u).tmps) = Region.wanted oi (yielded ops a.tmps) := fun u => wanted_put oi a oj.dst u h3
  have sj : ∀ v, execOp (a.put oi.dst v).eval oj = execOp a.eval oj := fun v => execOp_put oj hsj a oi.dst v h1
  have wj : ∀ v, Region.wanted oj (yielded ops (a.put oi.dst v).tmps) = Region.wanted oj (yielded ops a.tmps) := fun v => wanted_put oj a oi.dst v h1
  have fi : ∀ u x, fitE ops es i x (a.put oj.dst u) ↔ fitE ops es i x a := fun u x => fit_put hwf hj hdi x
  have fj : ∀ v x, fitE ops es j x (a.put oi.dst v) ↔ fitE ops es j x a := fun v x => fit_put hwf hi hdj x
  unfold atE at *
  rw [hj] at *
  dsimp only at *
  obtain ⟨v0, hv0⟩ := canE_ne hy
  refine ⟨(h v0 hv0).1.same (sj v0).symm (wj v0).symm (fun x => (fj v0 x).symm), fun u hu => ⟨hy.same (si u) (wi u) (fi u), fun v hv => ?_⟩⟩
  have hv' := (canE_same (si u) (wi u) (fi u)).1 hv
  rw [← Act.put_comm a v u h2]
  exact (h v hv').2 u ((canE_same (sj v) (wj v) (fj v)).2 hu)
/-- Whatever order is drawn, till all of the first n operations have come up. -/
def HeadE (P : Program) (ops : Array Oper) (es : List (Nat × Option Tmp)) (H : List (Option Value) → World → Prop) (cv : FuncId → Array Value → Value → Prop) (n : Nat) (E : Array Bool → Act → Prop) : Nat → Array Bool → Act → Prop
  | 0, T, a => E T a
  | f + 1, T, a => (Region.ready .any ops T ≠ [] ∧ ∀ i, i ∈ Region.ready .any ops T → i < n) ∧
      ∀ i, i ∈ Region.ready .any ops T → atE P ops es H cv i (HeadE P ops es H cv n E f (T.setIfInBounds i true)) a
theorem put_size (a : Act) (d : Option Tmp) (u : Value) : (a.put d u).tmps.size = a.tmps.size := by
  cases d <;> simp [Act.put]
theorem stE_next (hwf : wfE ops es = true) (hn : (es.map (·.1)).Nodup) {T : Array Bool} {a : Act} {i : Nat} {o : Oper} {u : Value} (ho : ops[i]? = some o) (hT : i < T.size) (hs : ∀ p ∈ es, ∀ s, p.2 = some s → s < a.tmps.size) : stE es (T.setIfInBounds i true) (a.put o.dst u) = nxE es i (stE es T a) u := by
  have hmap : ∀ p ∈ es, (if (T.setIfInBounds i true).getD p.1 false = true then some (slotV (a.put o.dst u) p.2) else none) = if p.1 = i then some (match p.2 with | some _ => u | none => undef) else (if T.getD p.1 false = true then some (slotV a p.2) else none) := by
    intro p hp
    rcases wfE_spec hwf ho hp with ⟨h1, h2⟩ | ⟨h1, h2⟩
    · rw [if_pos h1, h1]
      have : (T.setIfInBounds i true).getD i false = true := by simp [Array.getD_eq_getD_getElem?, hT]
      rw [if_pos this, h2]
      cases hp2 : p.2 with
      | none => rfl
      | some s => rw [slot_eq (hs p hp s hp2)]
    · rw [if_neg h1, slot_ne h2]
      have : (T.setIfInBounds i true).getD p.1 false = T.getD p.1 false := by simp [Array.getD_eq_getD_getElem?, Ne.symm h1]
      rw [this]
  have e1 : stE es (T.setIfInBounds i true) (a.put o.dst u) = es.map fun p => if p.1 = i then some (match p.2 with | some _ => u | none => undef) else (if T.getD p.1 false = true then some (slotV a p.2) else none) := List.map_congr_left hmap
  rw [e1]
  unfold nxE kOf stE valE
  clear e1 hmap hwf hs
  induction es with
  | nil => rfl
  | cons p r ih =>
    rw [List.map_cons, List.nodup_cons] at hn
    rw [List.findIdx?_cons]
    by_cases hp : p.1 = i
    · have hno : ∀ q ∈ r, q.1 ≠ i := fun q hq e => hn.1 (by rw [hp, ← e]; exact List.mem_map_of_mem hq)
      have hb : (p.1 == i) = true := by simp [hp]
      rw [hb]
      simp only [if_true, List.map_cons, if_pos hp, List.set_cons_zero, List.getElem?_cons_zero]
      congr 1
      · obtain ⟨p1, p2⟩ := p
        cases p2 <;> rfl
      · exact List.map_congr_left fun q hq => by rw [if_neg (hno q hq)]
    · have hb : (p.1 == i) = false := by simp [hp]
      rw [hb]
      have ih' := ih hn.2
      simp only [List.map_cons, if_neg hp, Bool.false_eq_true, if_false]
      rw [ih']
      cases hk : r.findIdx? (fun q => q.1 == i) with
      | none => rfl
      | some k => rfl
theorem fit_of (hwf : wfE ops es = true) {T : Array Bool} {a : Act} {i : Nat} (hT : T.getD i false = false) (hdep : ∀ p ∈ es, depB ops i p.1 = true → T.getD p.1 false = true) : fitE ops es i (stE es T a) a := by
  refine ⟨by simp [stE], fun k hk => ?_, fun m p hm hd => ?_⟩
  · unfold kOf at hk
    rw [List.findIdx?_eq_some_iff_getElem] at hk
    obtain ⟨h1, h2, _⟩ := hk
    have e : (es[k]).1 = i := by simpa using h2
    unfold stE
    rw [List.getElem?_map, List.getElem?_eq_getElem h1]
    rw [Array.getD_eq_getD_getElem?] at hT
    simp [e, hT]
  · unfold stE
    rw [List.getElem?_map, hm]
    have := hdep p (List.mem_of_getElem? hm) hd
    simp only [Option.map_some, this, if_true]
theorem dep_ready {T : Array Bool} {i e : Nat} (hi : i ∈ Region.ready .any ops T) (h : depB ops i e = true) : T.getD e false = true := by
  obtain ⟨_, o, ho, hw⟩ := mem_ready.1 hi
  unfold depB at h
  rw [ho] at h
  dsimp only at h
  rw [Array.any_eq_true] at h
  obtain ⟨k, hk, h⟩ := h
  rw [Bool.and_eq_true, beq_iff_eq] at h
  rw [← h.2]
  exact hw _ (Array.getElem_mem hk) h.1
theorem wpOp_of_atE (hwf : wfE ops es = true) (hn : (es.map (·.1)).Nodup) {i : Nat} {T : Array Bool} {a : Act} {K : Act → Prop} {K' : Act → World → Prop} {Q' : Exit → Act → World → Prop} {w : World} (hTi : T.getD i false = false) (hdep : ∀ p ∈ es, depB ops i p.1 = true → T.getD p.1 false = true) (hsz : T.size = ops.size) (hs : ∀ p ∈ es, ∀ s, p.2 = some s → s < a.tmps.size) (hH : H (stE es T a) w)
    (h : ∀ a' w', (∀ p ∈ es, ∀ s, p.2 = some s → s < a'.tmps.size) → H (stE es (T.setIfInBounds i true) a') w' → K a' → K' a' w') (hh : atE P ops es H cv i K a) (hi : i < ops.size) : wpOp P ops Q' i K' a w := by
  unfold atE at hh
  unfold wpOp
  cases ho : ops[i]? with
  | none => rw [Array.getElem?_eq_getElem hi] at ho; cases ho
  | some o =>
    rw [ho] at hh
    dsimp only at hh ⊢
    obtain ⟨⟨hy1, hy2⟩, hk⟩ := hh
    have hnx := fun u => stE_next hwf hn (u := u) ho (hsz ▸ hi : i < T.size) hs
    have hsp : ∀ u, ∀ p ∈ es, ∀ s, p.2 = some s → s < (a.put o.dst u).tmps.size := fun u p hp s e => by rw [put_size]; exact hs p hp s e
    have hft := fit_of (a := a) hwf hTi hdep
    unfold canE at hk
    split
    · rename_i hw
      simp only [hw, if_true] at hk
      have hr := (hy1 hw).2 _ w hft hH
      refine .inl ?_
      unfold Oper.wp
      generalize hrr : (execOp a.eval o).run P w = r at *
      cases r with
      | halt x w' => exact hr.elim
      | ok x w' =>
        cases x with
        | value u => exact h _ _ (hsp u) (by rw [hnx u]; exact hr) (hk u ⟨_, w, hft, hH, by rw [hrr]; rfl⟩)
        | skip => exact h _ _ (hsp undef) (by rw [hnx undef]; exact hr) (hk undef ⟨_, w, hft, hH, by rw [hrr]; rfl⟩)
        | enter f args =>
          refine hr.2.mono ?_
          rintro e w'' ⟨u, rfl, hu, hw''⟩
          exact h _ _ (hsp _) (by rw [hnx]; exact hw'') (hk _ ⟨_, w, hft, hH, by rw [hrr]; exact hu⟩)
        | _ => exact hr.elim
    · rename_i hw
      have hw' : Region.wanted o (yielded ops a.tmps) = false := by simpa using hw
      simp only [hw', Bool.false_eq_true, if_false] at hk
      have hk0 := hy2 hw'
      have e := hnx undef
      unfold nxE at e
      rw [hk0] at e
      exact h _ _ (hsp undef) (by rw [e]; exact hH) (hk undef rfl)
theorem HeadE.sound (hwf : wfE ops es = true) (hn : (es.map (·.1)).Nodup) {E : Array Bool → Act → Prop} {Q : Exit → Act → World → Prop} {g : Nat}
    (hE : ∀ T a w, T.size = ops.size → (∀ p ∈ es, ∀ s, p.2 = some s → s < a.tmps.size) → H (stE es T a) w → E T a → wpAny P .any ops Q g T a w) (f : Nat) :
    ∀ T a w, T.size = ops.size → (∀ p ∈ es, ∀ s, p.2 = some s → s < a.tmps.size) → H (stE es T a) w → HeadE P ops es H cv n E f T a → wpAny P .any ops Q (g + f) T a w := by
  induction f with
  | zero => exact fun T a w hsz hs hw h => hE T a w hsz hs hw h
  | succ f ih =>
    intro T a w hsz hs hw h
    refine ⟨fun h0 => absurd h0 h.1.1, fun i hi => ?_⟩
    have hun := (mem_ready.1 hi).1
    have hlt : i < T.size := by
      by_cases hlt : i < T.size
      · exact hlt
      · obtain ⟨_, x, hx, _⟩ := mem_ready.1 hi
        have := (Array.getElem?_eq_some_iff.1 hx).1
        omega
    have hTi : T.getD i false = false := getD_both hun
    exact wpOp_of_atE hwf hn hTi (fun p _ hd => dep_ready hi hd) hsz hs hw (fun a' w' hs' hw' h' => ih _ a' w' (by simpa using hsz) hs' hw' h') (h.2 i hi) (hsz ▸ hlt)
theorem HeadE.first {E : Array Bool → Act → Prop} (hwf : wfE ops es = true) (hsel : Region.noSelect ops = true) (hs : Region.sinkB .any ops n = true) (hc : Region.chainB .any ops n = true) (hn : n < ops.size)
    (hE : ∀ T a, E T a → ∀ j, j ∈ Region.ready .any ops T → n ≤ j) {i : Nat} {o : Oper} (ho : ops[i]? = some o) (hin : i < n) (f : Nat) :
    ∀ T a, HeadInv .any ops n T → i ∈ Region.ready .any ops T →
      (∀ j x, ops[j]? = some x → j ≠ i → T.getD j true = false → (∀ e ∈ x.after, Region.binds .any e = true → e.on ≠ i) → o.apart ops x = true) →
      yiE P ops es H cv i o a → (∀ v, canE P ops es H cv i o a v → HeadE P ops es H cv n E f (T.setIfInBounds i true) (a.put o.dst v)) → HeadE P ops es H cv n E (f + 1) T a := by
  have nosel := Region.noSelect_spec hsel
  induction f with
  | zero =>
    intro T a inv hi hap hy h
    obtain ⟨v0, hv0⟩ := canE_ne hy
    have hlt : ∀ j, j ∈ Region.ready .any ops T → j < n := fun j hj =>
      Nat.lt_of_not_le fun hnj => tail_waits hs hc hn inv _ i rfl hin (mem_ready.1 hi).1 j hnj hj
    refine ⟨⟨fun h0 => by simp [h0] at hi, hlt⟩, fun j hj => ?_⟩
    rcases Nat.decEq j i with hne | rfl
    · exact absurd (hlt j hj) (Nat.not_lt.2 (hE _ _ (h v0 hv0) j (ready_mono hj hne)))
    · unfold atE; rw [ho]; exact ⟨hy, h⟩
  | succ f ih =>
    intro T a inv hi hap hy h
    have hun := (mem_ready.1 hi).1
    have hlt : ∀ j, j ∈ Region.ready .any ops T → j < n := fun j hj =>
      Nat.lt_of_not_le fun hnj => tail_waits hs hc hn inv _ i rfl hin hun j hnj hj
    refine ⟨⟨fun h0 => by simp [h0] at hi, hlt⟩, fun j hj => ?_⟩
    rcases Nat.decEq j i with hne | rfl
    · obtain ⟨hjun, x, hx, hwait⟩ := mem_ready.1 hj
      have hno : ∀ e ∈ x.after, Region.binds .any e = true → e.on ≠ i := fun e he hb h1 => by
        have h2 := hwait e he hb
        rw [h1, getD_both hun] at h2
        exact Bool.false_ne_true h2
      refine atE_mono (fun a' h' => ?_) (atE_put hwf ho hx (by
        cases hd : depB ops i j with
        | false => rfl
        | true => have := dep_ready hi hd; rw [getD_both hjun] at this; cases this) (by
        cases hd : depB ops j i with
        | false => rfl
        | true => have := dep_ready hj hd; rw [getD_both hun] at this; cases this) (hap j x hx hne hjun hno) (fun cs b => nosel i o cs b ho) (fun cs b => nosel j x cs b hx) hy (fun v hv => (h v hv).2 j (ready_mono hj hne)))
      refine ih _ a' (inv.set hj (hlt j hj)) (ready_mono hi (Ne.symm hne)) (fun k y hk hki hkT hky => ?_) h'.1 (fun v hv => ?_)
      · refine hap k y hk hki ?_ hky
        rcases Nat.decEq j k with hjk | rfl
        · rwa [getD_set_ne true hjk] at hkT
        · exact hjun
      · rw [Array.setIfInBounds_comm _ _ hne]
        exact h'.2 v hv
    · unfold atE; rw [ho]; exact ⟨hy, h⟩
/-- the walk in the text's order -/
def wpGE (P : Program) (ops : Array Oper) (es : List (Nat × Option Tmp)) (H : List (Option Value) → World → Prop) (cv : FuncId → Array Value → Value → Prop) (Q : Act → Prop) : Nat → List Oper → Act → Prop
  | _, [], a => Q a
  | k, o :: rest, a => yiE P ops es H cv k o a ∧ ∀ u, canE P ops es H cv k o a u → wpGE P ops es H cv Q (k + 1) rest (a.put o.dst u)
theorem HeadE.text {g : Nat} {L : Act → Prop} (hwf : wfE ops es = true) (hsel : Region.noSelect ops = true) (hs : Region.sinkB .any ops n = true) (hc : Region.chainB .any ops n = true) (hn : n < ops.size) (l : List Oper) :
    ∀ k T a, T.size = ops.size → (∀ j, j < k → T.getD j false = true) → (∀ j, j < l.length → ops[k + j]? = l[j]?) → k + l.length = n → HeadInv .any ops n T → Region.lexHead .any ops g l.length k T = true →
      wpGE P ops es H cv L k l a → HeadE P ops es H cv n (fun T' a' => Region.seqB .any ops g n T' = true ∧ (∀ j, j < n → T'.getD j false = true) ∧ L a') l.length T a := by
  induction l with
  | nil =>
    intro k T a _ hd _ hk _ hB h
    obtain rfl : k = n := hk
    exact ⟨hB, hd, h⟩
  | cons o l ih =>
    intro k T a hsz hd hl hk inv hB h
    have h0 : ops[k]? = some o := by have := hl 0 (by simp); simpa using this
    have hklt := (Array.getElem?_eq_some_iff.1 h0).1
    simp only [List.length_cons, Region.lexHead, Bool.and_eq_true, List.contains_iff_mem] at hB
    simp only [List.length_cons] at hk
    have hkn : k < n := by omega
    refine HeadE.first hwf hsel hs hc hn (fun T' a' hT => seqB_ready hT.1) h0 hkn l.length T a inv hB.1.1 (Region.free_spec h0 hB.1.2) h.1 (fun v hv => ?_)
    refine ih (k + 1) _ _ (by simpa using hsz) (fun j hj => ?_) (fun j hj => ?_) (by omega) (inv.set hB.1.1 hkn) hB.2 (h.2 v hv)
    · rcases Nat.lt_succ_iff_lt_or_eq.1 hj with hj | rfl
      · have e : (T.setIfInBounds k true).getD j false = T.getD j false := by simp [Array.getD_eq_getD_getElem?, Nat.ne_of_gt hj]
        rw [e]; exact hd j hj
      · simp [Array.getD_eq_getD_getElem?, hsz, hklt]
    · have := hl (j + 1) (by simp; omega)
      simpa [Nat.add_assoc, Nat.add_comm 1 j] using this
/-! the steps of the walk -/
def upQE (w : World) (v : Value) : Result Next → Prop
  | .ok (.value u) w' => w' = w ∧ u = v
  | .ok .skip w' => w' = w ∧ v = undef
  | _ => False
def opQE (P : Program) (w0 : World) (o : Oper) (a : Act) (K : Act → Prop) : Prop :=
  ∃ v, (∀ w, (∃ z : Ext w0, w = z.w) → upQE w v ((execOp a.eval o).run P w)) ∧ K (a.put o.dst v)
/-- the effects' class: new memory alone since w0, whatever a callee does besides -/
structure ClsE (w0 : World) (H : List (Option Value) → World → Prop) : Prop where
  ext : ∀ x w, H x w → Below w0.heap.size w0 w
  up : ∀ x w w', H x w → Below w.heap.size w w' → H x w'
theorem wit0 {w1 : World} (h0 : H (es.map fun _ => none) w1) {k : Nat} {a : Act} (hd : es.all (fun p => !depB ops k p.1) = true) : ∃ x w, fitE ops es k x a ∧ H x w := by
  refine ⟨_, w1, ⟨by simp, fun m hm => ?_, fun m p hm hdep => ?_⟩, h0⟩
  · unfold kOf at hm
    rw [List.findIdx?_eq_some_iff_getElem] at hm
    obtain ⟨h1, _⟩ := hm
    simp [h1]
  · have := List.all_eq_true.1 hd p (List.mem_of_getElem? hm)
    rw [hdep] at this
    cases this
theorem ge_step {w0 : World} (hC : ClsE w0 H) {Q : Act → Prop} {k : Nat} {o : Oper} {rest : List Oper} {a : Act} (hk : kOf es k = none) (hwit : ∃ x w, fitE ops es k x a ∧ H x w)
    (h : ∀ K : Act → Prop, (∀ a, Box (wpGE P ops es H cv Q (k + 1) rest a) → K a) → Box (if Region.wanted o (yielded ops a.tmps) then opQE P w0 o a K else K (a.put o.dst undef))) : Box (wpGE P ops es H cv Q k (o :: rest) a) := by
  have h1 := (h (wpGE P ops es H cv Q (k + 1) rest) (fun a hb => hb.out)).out
  have nx : ∀ x u, nxE es k x u = x := fun x u => by unfold nxE; rw [hk]
  refine ⟨?_⟩
  by_cases hw : Region.wanted o (yielded ops a.tmps) = true
  · rw [if_pos hw] at h1
    obtain ⟨v, h2, h3⟩ := h1
    have h4 : ∀ x w, H x w → upQE w v ((execOp a.eval o).run P w) := fun x w hx => h2 w ⟨⟨w, hC.ext x w hx⟩, rfl⟩
    refine ⟨⟨fun _ => ⟨hwit, fun x w _ hx => ?_⟩, fun e => by rw [hw] at e; cases e⟩, fun u hu => ?_⟩
    · have h5 := h4 x w hx
      generalize (execOp a.eval o).run P w = r at *
      cases r with
      | halt e w' => exact h5.elim
      | ok y w' =>
        cases y with
        | value u => obtain ⟨rfl, rfl⟩ := h5; show H (nxE es k x u) _; rw [nx]; exact hx
        | skip => obtain ⟨rfl, rfl⟩ := h5; show H (nxE es k x undef) _; rw [nx]; exact hx
        | _ => exact h5.elim
    · unfold canE at hu
      rw [if_pos hw] at hu
      obtain ⟨x, w, _, hx, ho⟩ := hu
      have h5 := h4 x w hx
      have : u = v := by
        generalize (execOp a.eval o).run P w = r at *
        cases r with
        | halt e w' => exact h5.elim
        | ok y w' =>
          cases y with
          | value u' => obtain ⟨_, rfl⟩ := h5; exact ho
          | skip => obtain ⟨_, rfl⟩ := h5; exact ho
          | _ => exact h5.elim
      subst this
      exact h3
  · rw [if_neg hw] at h1
    refine ⟨⟨fun e => absurd e hw, fun _ => hk⟩, fun u hu => ?_⟩
    unfold canE at hu
    rw [if_neg hw] at hu
    subst hu
    exact h1
theorem ge_eff {Q : Act → Prop} {k m : Nat} {o : Oper} {rest : List Oper} {a : Act} (hk : kOf es k = some m) (hw : Region.wanted o (yielded ops a.tmps) = true) (hwit : ∃ x w, fitE ops es k x a ∧ H x w) (V : Value → Prop)
    (hrun : ∀ x w, fitE ops es k x a → x[m]? = some none → H x w → ∃ u w', ((execOp a.eval o).run P w = .ok (.value u) w' ∨ ((execOp a.eval o).run P w = .ok .skip w' ∧ u = undef)) ∧ V u ∧ H (x.set m (some (valE es m u))) w')
    (h : ∀ u, V u → Box (wpGE P ops es H cv Q (k + 1) rest (a.put o.dst u))) : Box (wpGE P ops es H cv Q k (o :: rest) a) := by
  have nx : ∀ x u, nxE es k x u = x.set m (some (valE es m u)) := fun x u => by unfold nxE; rw [hk]
  refine ⟨⟨fun _ => ⟨hwit, fun x w hf hx => ?_⟩, fun e => by rw [hw] at e; cases e⟩, fun u hu => ?_⟩
  · obtain ⟨u, w', e, _, h2⟩ := hrun x w hf (hf.2.1 m hk) hx
    rcases e with e | ⟨e, rfl⟩
    · rw [e]
      show H (nxE es k x u) w'
      rw [nx]
      exact h2
    · rw [e]
      show H (nxE es k x undef) w'
      rw [nx]
      exact h2
  · unfold canE at hu
    rw [if_pos hw] at hu
    obtain ⟨x, w, hf, hx, ho⟩ := hu
    obtain ⟨u', w', e, hV, _⟩ := hrun x w hf (hf.2.1 m hk) hx
    rcases e with e | ⟨e, rfl⟩
    · rw [e] at ho
      obtain rfl : u = u' := ho
      exact (h u hV).out
    · rw [e] at ho
      obtain rfl : u = undef := ho
      exact (h _ hV).out
/-- a step whose value is known -/
theorem ge_val {Q : Act → Prop} {k : Nat} {o : Oper} {rest : List Oper} {a : Act} (hk : kOf es k = none) (hwit : ∃ x w, fitE ops es k x a ∧ H x w) (hw : Region.wanted o (yielded ops a.tmps) = true) (v : Value)
    (hrun : ∀ x w, fitE ops es k x a → H x w → (execOp a.eval o).run P w = .ok (.value v) w) (h : Box (wpGE P ops es H cv Q (k + 1) rest (a.put o.dst v))) : Box (wpGE P ops es H cv Q k (o :: rest) a) := by
  have nx : ∀ x u, nxE es k x u = x := fun x u => by unfold nxE; rw [hk]
  refine ⟨⟨fun _ => ⟨hwit, fun x w hf hx => ?_⟩, fun e => by rw [hw] at e; cases e⟩, fun u hu => ?_⟩
  · rw [hrun x w hf hx]
    show H (nxE es k x v) w
    rw [nx]; exact hx
  · unfold canE at hu
    rw [if_pos hw] at hu
    obtain ⟨x, w, hf, hx, ho⟩ := hu
    rw [hrun x w hf hx] at ho
    obtain rfl : u = v := ho
    exact h.out
/-- a call -/
theorem ge_call {Q : Act → Prop} {k : Nat} {o : Oper} {rest : List Oper} {a : Act} (hwit : ∃ x w, fitE ops es k x a ∧ H x w) (hw : Region.wanted o (yielded ops a.tmps) = true) {f : FuncId} {args : Array Value}
    (hrun : ∀ x w, fitE ops es k x a → H x w → (execOp a.eval o).run P w = .ok (.enter f args) w) (hne : ∃ u, cv f args u) (hc : ∀ x w, fitE ops es k x a → H x w → Calls P f args w fun e w' => ∃ u, e = .returned u ∧ cv f args u ∧ H (nxE es k x u) w')
    (hk : kOf es k = none ∨ ∃ m, kOf es k = some m) (h : ∀ u, cv f args u → Box (wpGE P ops es H cv Q (k + 1) rest (a.put o.dst u))) : Box (wpGE P ops es H cv Q k (o :: rest) a) := by
  refine ⟨⟨fun _ => ⟨hwit, fun x w hf hx => ?_⟩, fun e => by rw [hw] at e; cases e⟩, fun u hu => ?_⟩
  · rw [hrun x w hf hx]
    exact ⟨hne, hc x w hf hx⟩
  · unfold canE at hu
    rw [if_pos hw] at hu
    obtain ⟨x, w, hf, hx, ho⟩ := hu
    rw [hrun x w hf hx] at ho
    exact (h u ho).out
theorem ge_nil {Q : Act → Prop} {k : Nat} {a : Act} (h : Q a) : Box (wpGE P ops es H cv Q k [] a) := ⟨h⟩
end
attribute [go_sem] opQE upQE
/-- **THE LAW** -/
theorem eff_tail {P : Program} {id : Nat} {Q : Exit → Act → World → Prop} {a : Act} {w : World} {l : List Oper} (n : Nat) (es : List (Nat × Option Tmp)) (H : List (Option Value) → World → Prop) (cv : FuncId → Array Value → Value → Prop) (hm : P.follows .mixedOrders = true) (hB : Region.lexTailB .any l.toArray n = true)
    (hwf : (wfE l.toArray es && decide ((es.map (·.1)).Nodup) && es.all (fun p => decide (p.1 < n))) = true) (hsl : es.all (fun p => match p.2 with | some s => decide (s < a.tmps.size) | none => true) = true) (h0 : H (es.map fun _ => none) w.drew)
    (h : Box (wpGE P l.toArray es H cv (fun a' => ∀ w', H (es.map fun p => some (slotV a' p.2)) w' → wpList P l.toArray Q (l.drop n) a' w') 0 (l.take n) a)) : (Code.region id l.toArray true).wp P Q a w := by
  simp only [Region.lexTailB, Bool.and_eq_true, decide_eq_true_eq] at hB
  simp only [Bool.and_eq_true, decide_eq_true_eq, List.all_eq_true] at hwf hsl
  have hsl : ∀ p ∈ es, ∀ s, p.2 = some s → s < a.tmps.size := fun p hp s e => by have := hsl p hp; rw [e] at this; exact of_decide_eq_true this
  obtain ⟨⟨hwf, hnd⟩, hlt⟩ := hwf
  have hn := hB.1.1.1.2
  have hsz : l.toArray.size = l.length := by simp
  have htl : (l.take n).length = n := by rw [List.length_take]; omega
  have inv : HeadInv .any l.toArray n (Array.replicate l.toArray.size false) :=
    ⟨Array.size_replicate, fun j x _ hT => (by rw [getD_replicate_false] at hT; cases hT), fun t _ ht => getD_in (by rw [Array.size_replicate]; exact ht) (getD_replicate_false _ _)⟩
  have hh := HeadE.text (P := P) (H := H) (es := es) (cv := cv) (g := l.toArray.size - n) hwf hB.1.1.1.1 hB.1.1.2 hB.1.2 hn (l.take n) 0 (Array.replicate l.toArray.size false) a
    Array.size_replicate (fun j hj => absurd hj (Nat.not_lt_zero _)) (fun j hj => by rw [htl] at hj; simp [hj]) (by rw [htl]; omega) inv (by rw [htl]; exact hB.2) h.out
  refine wp_region_any hm ?_
  have h2 := HeadE.sound (Q := Q) (g := l.toArray.size - n) hwf hnd (fun T a' w' hTs hs' hw' hT => by
    have e : stE es T a' = es.map fun p => some (slotV a' p.2) := List.map_congr_left fun p hp => by rw [if_pos (hT.2.1 p.1 (hlt p hp))]
    rw [e] at hw'
    have := wpAny_of_seq (md := .any) (Q' := Q) (l.drop n) n T a' w' (fun j => by simp [List.getElem?_drop]) (by rw [List.length_drop, ← hsz]; exact hT.1) (hT.2.2 w' hw')
    rwa [List.length_drop, ← hsz] at this) _ _ _ _ Array.size_replicate hsl (by
      have e : stE es (Array.replicate l.toArray.size false) a = es.map fun _ => none := List.map_congr_left fun p _ => by rw [getD_replicate_false]; rfl
      rw [e]; exact h0) hh
  rw [htl, show l.toArray.size - n + n = l.toArray.size by omega] at h2
  exact h2
end Go.Proofs.YteodfondjogmoaaGreatDoor.C
/- The law of Gq inside a wide fence. Conditions: the fence shuts no function out; no operation of the region is a deferral. -/
namespace Go.Proofs.YteodfondjogmoaaGreatDoor.C
open Go Go.RowKit
set_option linter.unusedVariables false
section
variable {P : Program} {F : Fence} {m : Nat} {ops : Array Oper} {es : List (Nat × Option Tmp)} {H : List (Option Value) → World → Prop} {cv : FuncId → Array Value → Value → Prop} {n : Nat}
theorem wpOpIn_of_atE (hF : WideF P F m) (hwf : wfE ops es = true) (hn : (es.map (·.1)).Nodup) {i : Nat} (hd : ∀ o, ops[i]? = some o → ∀ c, o.op ≠ .defer c) {T : Array Bool} {a : Act} {K : Act → Prop} {K' : Act → World → Prop} {Q' : Exit → Act → World → Prop} {w : World} (hTi : T.getD i false = false) (hdep : ∀ p ∈ es, depB ops i p.1 = true → T.getD p.1 false = true) (hsz : T.size = ops.size) (hs : ∀ p ∈ es, ∀ s, p.2 = some s → s < a.tmps.size) (hH : H (stE es T a) w)
    (h : ∀ a' w', (∀ p ∈ es, ∀ s, p.2 = some s → s < a'.tmps.size) → H (stE es (T.setIfInBounds i true) a') w' → K a' → K' a' w') (hh : atE P ops es H cv i K a) (hi : i < ops.size) : wpOpIn F m P ops Q' i K' a w := by
  unfold atE at hh
  unfold wpOpIn
  cases ho : ops[i]? with
  | none => rw [Array.getElem?_eq_getElem hi] at ho; cases ho
  | some o =>
    rw [ho] at hh
    dsimp only at hh ⊢
    obtain ⟨⟨hy1, hy2⟩, hk⟩ := hh
    have hnx := fun u => stE_next hwf hn (u := u) ho (hsz ▸ hi : i < T.size) hs
    have hsp : ∀ u, ∀ p ∈ es, ∀ s, p.2 = some s → s < (a.put o.dst u).tmps.size := fun u p hp s e => by rw [put_size]; exact hs p hp s e
    have hft := fit_of (a := a) hwf hTi hdep
    unfold canE at hk
    split
    · rename_i hw
      simp only [hw, if_true] at hk
      have hr := (hy1 hw).2 _ w hft hH
      refine ⟨fun f _ => hF.fn f, ?_⟩
      rw [Oper.semAt_eq F.round a.eval o (hd o ho)]
      generalize hrr : (execOp a.eval o).run P w = r at *
      cases r with
      | halt x w' => exact hr.elim
      | ok x w' =>
        cases x with
        | value u => exact h _ _ (hsp u) (by rw [hnx u]; exact hr) (hk u ⟨_, w, hft, hH, by rw [hrr]; rfl⟩)
        | skip => exact h _ _ (hsp undef) (by rw [hnx undef]; exact hr) (hk undef ⟨_, w, hft, hH, by rw [hrr]; rfl⟩)
        | enter f args =>
          refine ⟨hF.dp, hF.calls _ _ _ _ (hr.2.mono ?_)⟩
          rintro e w'' ⟨u, rfl, hu, hw''⟩
          exact h _ _ (hsp _) (by rw [hnx]; exact hw'') (hk _ ⟨_, w, hft, hH, by rw [hrr]; exact hu⟩)
        | _ => exact hr.elim
    · rename_i hw
      have hw' : Region.wanted o (yielded ops a.tmps) = false := by simpa using hw
      simp only [hw', Bool.false_eq_true, if_false] at hk
      have hk0 := hy2 hw'
      have e := hnx undef
      unfold nxE at e
      rw [hk0] at e
      exact ⟨fun f _ => hF.fn f, h _ _ (hsp undef) (by rw [e]; exact hH) (hk undef rfl)⟩
theorem HeadE.soundIn (hF : WideF P F m) (hwf : wfE ops es = true) (hn : (es.map (·.1)).Nodup) (hd : ∀ (i : Nat) (o : Oper), ops[i]? = some o → ∀ c, o.op ≠ .defer c) {E : Array Bool → Act → Prop} {Q : Exit → Act → World → Prop} {g : Nat}
    (hE : ∀ T a w, T.size = ops.size → (∀ p ∈ es, ∀ s, p.2 = some s → s < a.tmps.size) → H (stE es T a) w → E T a → wpAnyIn F m P .any ops Q g T a w) (f : Nat) :
    ∀ T a w, T.size = ops.size → (∀ p ∈ es, ∀ s, p.2 = some s → s < a.tmps.size) → H (stE es T a) w → HeadE P ops es H cv n E f T a → wpAnyIn F m P .any ops Q (g + f) T a w := by
  induction f with
  | zero => exact fun T a w hsz hs hw h => hE T a w hsz hs hw h
  | succ f ih =>
    intro T a w hsz hs hw h
    refine ⟨fun h0 => absurd h0 h.1.1, fun i hi => ?_⟩
    have hun := (mem_ready.1 hi).1
    have hlt : i < T.size := by
      by_cases hlt : i < T.size
      · exact hlt
      · obtain ⟨_, x, hx, _⟩ := mem_ready.1 hi
        have := (Array.getElem?_eq_some_iff.1 hx).1
        omega
    exact wpOpIn_of_atE hF hwf hn (hd i) (getD_both hun) (fun p _ hd => dep_ready hi hd) hsz hs hw (fun a' w' hs' hw' h' => ih _ a' w' (by simpa using hsz) hs' hw' h') (h.2 i hi) (hsz ▸ hlt)
end
/-- **THE LAW inside a fence** -/
theorem eff_tailIn {P : Program} {F : Fence} {m : Nat} {id : Nat} {Q : Exit → Act → World → Prop} {a : Act} {w : World} {l : List Oper} (n : Nat) (es : List (Nat × Option Tmp)) (H : List (Option Value) → World → Prop) (cv : FuncId → Array Value → Value → Prop) (hm : P.follows .mixedOrders = true) (hF : WideF P F m) (hd : noDefer l = true) (hB : Region.lexTailB .any l.toArray n = true)
    (hwf : (wfE l.toArray es && decide ((es.map (·.1)).Nodup) && es.all (fun p => decide (p.1 < n))) = true) (hsl : es.all (fun p => match p.2 with | some s => decide (s < a.tmps.size) | none => true) = true) (h0 : H (es.map fun _ => none) w.drew)
    (h : Box (wpGE P l.toArray es H cv (fun a' => ∀ w', H (es.map fun p => some (slotV a' p.2)) w' → wpListIn F m P l.toArray Q (l.drop n) a' w') 0 (l.take n) a)) : (Code.region id l.toArray true).wpIn F m P Q a w := by
  simp only [Region.lexTailB, Bool.and_eq_true, decide_eq_true_eq] at hB
  simp only [Bool.and_eq_true, decide_eq_true_eq, List.all_eq_true] at hwf hsl
  have hsl : ∀ p ∈ es, ∀ s, p.2 = some s → s < a.tmps.size := fun p hp s e => by have := hsl p hp; rw [e] at this; exact of_decide_eq_true this
  obtain ⟨⟨hwf, hnd⟩, hlt⟩ := hwf
  have hn := hB.1.1.1.2
  have hsz : l.toArray.size = l.length := by simp
  have htl : (l.take n).length = n := by rw [List.length_take]; omega
  have inv : HeadInv .any l.toArray n (Array.replicate l.toArray.size false) :=
    ⟨Array.size_replicate, fun j x _ hT => (by rw [getD_replicate_false] at hT; cases hT), fun t _ ht => getD_in (by rw [Array.size_replicate]; exact ht) (getD_replicate_false _ _)⟩
  have hh := HeadE.text (P := P) (H := H) (es := es) (cv := cv) (g := l.toArray.size - n) hwf hB.1.1.1.1 hB.1.1.2 hB.1.2 hn (l.take n) 0 (Array.replicate l.toArray.size false) a
    Array.size_replicate (fun j hj => absurd hj (Nat.not_lt_zero _)) (fun j hj => by rw [htl] at hj; simp [hj]) (by rw [htl]; omega) inv (by rw [htl]; exact hB.2) h.out
  refine wpIn_region_any hm ?_
  have h2 := HeadE.soundIn (Q := Q) (g := l.toArray.size - n) hF hwf hnd (fun i o ho => noDefer_spec hd ho) (fun T a' w' hTs hs' hw' hT => by
    have e : stE es T a' = es.map fun p => some (slotV a' p.2) := List.map_congr_left fun p hp => by rw [if_pos (hT.2.1 p.1 (hlt p hp))]
    rw [e] at hw'
    have := wpAnyIn_of_seq (F := F) (m := m) (Q' := Q) (l.drop n) n T a' w' (fun j => by simp [List.getElem?_drop]) (by rw [List.length_drop, ← hsz]; exact hT.1) (hT.2.2 w' hw')
    rwa [List.length_drop, ← hsz] at this) _ _ _ _ Array.size_replicate hsl (by
      have e : stE es (Array.replicate l.toArray.size false) a = es.map fun _ => none := List.map_congr_left fun p _ => by rw [getD_replicate_false]; rfl
      rw [e]; exact h0) hh
  rw [htl, show l.toArray.size - n + n = l.toArray.size by omega] at h2
  exact h2
end Go.Proofs.YteodfondjogmoaaGreatDoor.C
/- Concord.Around, At. Conditions: those of each theorem. -/
namespace Go.Proofs.YteodfondjogmoaaGreatDoor
open Go Go.RowKit Go.Lib Go.Shelf
set_option linter.unusedVariables false
set_option linter.unusedSimpArgs false
attribute [local go_sem] Oper.semAt_some C.Ext.cell C.Ext.froz
/-- a variable that is made and stored to, at whatever time -/
def AlS (w2 : World) (t : TypeId) (z f : Array Value) (x : List (Option Value)) (w' : World) : Prop := Below w2.heap.size w2 w' ∧ match x with
  | [none, none] => True
  | [some u, none] => ∃ p : Nat, u = .pointer (some ⟨p, 0, none⟩) ∧ w2.heap.size ≤ p ∧ Blk w' p t z
  | [some u, some _] => ∃ p : Nat, u = .pointer (some ⟨p, 0, none⟩) ∧ w2.heap.size ≤ p ∧ Blk w' p t f
  | _ => False
theorem AlS.start (w2 : World) (t : TypeId) (z f : Array Value) : AlS w2 t z f [none, none] w2.drew := ⟨(Below.refl _ _).drew, trivial⟩
theorem AlS.cls (w2 : World) (t : TypeId) (z f : Array Value) : C.ClsE w2 (AlS w2 t z f) := by
  refine ⟨fun x w' h => h.1, fun x w' w'' h hb => ⟨h.1.trans (hb.mono h.1.size), ?_⟩⟩
  have h2 := h.2
  split at h2
  · trivial
  · obtain ⟨p, a1, a2, a3⟩ := h2; exact ⟨p, a1, a2, a3.low hb⟩
  · obtain ⟨p, a1, a2, a3⟩ := h2; exact ⟨p, a1, a2, a3.low hb⟩
  · exact h2.elim
def AlV (w2 : World) (t : TypeId) (z f : Array Value) (u : Value) : Prop := ∃ p : Nat, u = .pointer (some ⟨p, 0, none⟩) ∧ w2.heap.size ≤ p ∧ ∃ w', AlS w2 t z f [some u, none] w'
theorem AlS.made {w2 w : World} {t : TypeId} {z f : Array Value} {x : List (Option Value)} (hl : x.length = 2) (h0 : x[0]? = some none) (h : AlS w2 t z f x w) :
    AlV w2 t z f (.pointer (some ⟨w.heap.size, 0, none⟩)) ∧ AlS w2 t z f (x.set 0 (some (.pointer (some ⟨w.heap.size, 0, none⟩)))) (w.alloc (.cells z t)) := by
  match x, hl, h0, h with
  | [a, b], _, h0, h =>
    obtain rfl : a = none := by simpa using h0
    obtain ⟨h1, h2⟩ := h
    cases b with
    | some v => exact h2.elim
    | none =>
      have k : AlS w2 t z f [some (.pointer (some ⟨w.heap.size, 0, none⟩)), none] (w.alloc (.cells z t)) := ⟨h1.alloc h1.size _, _, rfl, h1.size, Blk.new w t z⟩
      exact ⟨⟨_, rfl, h1.size, _, k⟩, k⟩
theorem AlS.store {w2 w : World} {t : TypeId} {z f : Array Value} {x : List (Option Value)} {u : Value} (hl : x.length = 2) (h0 : x[0]? = some (some u)) (h1 : x[1]? = some none) (h : AlS w2 t z f x w) :
    ∃ q : Nat, u = .pointer (some ⟨q, 0, none⟩) ∧ w2.heap.size ≤ q ∧ Blk w q t z ∧ ∀ w'', Blk w'' q t f → Below w2.heap.size w w'' → AlS w2 t z f (x.set 1 (some undef)) w'' := by
  match x, hl, h0, h1, h with
  | [a, b], _, h0, h1, h =>
    obtain rfl : a = some u := by simpa using h0
    obtain rfl : b = none := by simpa using h1
    obtain ⟨e1, q, e2, e3, e4⟩ := h
    exact ⟨q, e2, e3, e4, fun w'' k hb => ⟨e1.trans hb, q, e2, e3, k⟩⟩
theorem fit2 {ops : Array Oper} {e0 e1 : Nat} {s0 s1 : Option Tmp} {i : Nat} {a : Act} {u : Value} (hk : (C.kOf [(e0, s0), (e1, s1)] i == some 1) = true) (hd : C.depB ops i e1 = false) (hu : C.slotV a s0 = u) : C.fitE ops [(e0, s0), (e1, s1)] i [some u, none] a := by
  refine ⟨rfl, fun k h => ?_, fun m p hm h => ?_⟩
  · rw [beq_iff_eq] at hk
    rw [hk] at h
    obtain rfl := Option.some.inj h
    rfl
  · match m, hm with
    | 0, hm => obtain rfl : (e0, s0) = p := by simpa using hm
               show some (some u) = _
               rw [hu]
    | 1, hm => obtain rfl : (e1, s1) = p := by simpa using hm
               rw [hd] at h; cases h
section
variable {w : World} {c : Cc} {rs : List PmR} {E : List En} {ks : List ByteArray}
set_option maxHeartbeats 4000000 in
theorem around41 (h : CcAt w c rs E ks) {i : Nat} {e : En} (he : E[i]? = some e) {r : PmR} {v : Vs} (hK : KnowR w rs e r v) :
    Calls Tryz.prog 40 #[.pointer (some ⟨c.cb, 0, none⟩), e.h.v, .int .i64 65536] w fun x w' => x = .returned (.tuple #[.string (v.tx.extract 0 (e.h.f - v.f).toNat), .string (v.tx.extract (e.h.t - v.f).toNat v.tx.size), .int .i64 0]) ∧ Below w.heap.size w w' := by
  have hi := (List.getElem?_eq_some_iff.1 he).1
  obtain ⟨K1, K2, K3, K4, K5⟩ := hK
  have hln := K3.ln
  have hsp := K3.sp
  have hsz : v.tx.size ≤ 1024 := K3.vs
  have hrp := (h.ps.row _ _ K1).1
  have hpa : c.pa = some ⟨c.pg, 0, none⟩ := h.ps.ha.resolve_left (fun e0 => by rw [e0] at K1; cases K1)
  have hpl := (List.getElem?_eq_some_iff.1 K1).1
  have hlv := K3.hv
  have c0 := h.c0
  rw [hpa] at c0
  obtain ⟨⟨hp, hl, hw, hn, hf, ht⟩, ek⟩ := e
  obtain ⟨l0, l1, l2, l3⟩ := hln
  have hs0 : r.d.src.size ≤ 65536 := K3.ok.sz
  obtain ⟨tx, va, vb, vc, vf, vt⟩ := v
  dsimp only at hrp hpl hsp hlv l0 l1 l2 l3 hsz ⊢
  obtain ⟨a, ha⟩ : ∃ a : Nat, hf - vf = a := ⟨(hf - vf).toNat, by omega⟩
  obtain ⟨b, hb⟩ : ∃ b : Nat, ht - vf = b := ⟨(ht - vf).toNat, by omega⟩
  have hwa : IntKind.i64.wrap (hf - vf) = a := by rw [ha]; exact IntWalk.i64_in _ (by omega)
  have hwb : IntKind.i64.wrap (ht - vf) = b := by rw [hb]; exact IntWalk.i64_in _ (by omega)
  have hat : (a : Int) ≤ tx.size := by omega
  have hbt : (b : Int) ≤ tx.size := by omega
  have hat2 : decide (a ≤ tx.size) = true := decide_eq_true (by omega)
  have hbt2 : decide (b ≤ tx.size) = true := decide_eq_true (by omega)
  have hppl : (hp : Int) < rs.length := by omega
  have haz : (tx.extract 0 a).size ≤ 1024 := by rw [ByteArray.size_extract]; omega
  have hbz : (tx.extract b tx.size).size ≤ 1024 := by rw [ByteArray.size_extract]; omega
  have hCt := hid (fun W => rcount35 (tx.extract 0 a) (by omega) W)
  have hpn : (posL (tx.extract 0 a) 0).length ≤ 1024 := by have := posL_len (tx.extract 0 a) _ 0 rfl; omega
  have hpn2 : (posL (tx.extract b tx.size) 0).length ≤ 1024 := by have := posL_len (tx.extract b tx.size) _ 0 rfl; omega
  have hC1 := hid (fun W => cut81_none (tx.extract 0 a) 0 (by omega) W)
  have hC2 := hid (fun W => cut81_all (tx.extract b tx.size) 65536 (by omega) (by omega) (by omega) (by omega) W)
  rw [ha, hb, Int.toNat_natCast, Int.toNat_natCast]
  generalize hA : tx.extract 0 a = A at *
  generalize hB : tx.extract b tx.size = B at *
  have HA := hid hA
  have HBB := hid hB
  clear hA hB
  generalize (posL A 0).length = nA at *
  generalize ((posL A 0).filter (isBr A)).length = mA at *
  have hmin : min (nA : Int) 65536 = nA := by omega
  have hnA : (nA : Int) ≤ 1024 := by omega
  have hnA0 : (nA : Int) ≤ 65536 := by omega
  obtain ⟨w1, hw1⟩ : ∃ w1, w.alloc (.cells (Hw.cells ⟨hp, hl, hw, hn, hf, ht⟩) 39) = w1 := ⟨_, rfl⟩
  have hb1 : Below w.heap.size w w1 := by rw [← hw1]; exact (Below.refl _ w).alloc (Nat.le_refl _) _
  have k1 : Blk w1 w.heap.size 39 (Hw.cells ⟨hp, hl, hw, hn, hf, ht⟩) := by rw [← hw1]; exact Blk.new _ _ _
  have hIx := hid (index75 (h.low hb1) he)
  have t0 := k1.cell (k := 0) rfl
  have t1 := k1.cell (k := 1) rfl
  have t2 := k1.cell (k := 2) rfl
  have t3 := k1.cell (k := 3) rfl
  have t4 := k1.cell (k := 4) rfl
  have t5 := k1.cell (k := 5) rfl
  try dsimp only [Hw.cells] at t0 t1 t2 t3 t4 t5
  have HB := hid hb1
  have HK := hid k1
  have C0 := hid (And.intro c0 hrp)
  have KK := hid K2
  have HV := hid hlv
  generalize rs.length = nr at *
  clear h he hb1 k1 c0 hrp K1 K2 K3 l0 l1 l2 l3 hi hpa hlv hpn hpn2 ha hb hsp
  go_enter Tryz.func40, Tryz.ntmps40
  go_wp2_with fail
  try rw [show w.alloc (.cells #[.int .i64 hp, .int .i64 hl, .int .i64 hw, .int .i64 hn, .int .i64 hf, .int .i64 ht] 39) = w1 from hw1]
  clear hw1
  with_reducible refine Calls.mono hIx.out ?_
  rintro x w2 ⟨rfl, hb2⟩
  have hb22 := HB.out.trans (hb2.mono HB.out.size)
  have c01 := lowc C0.out.1 hb22
  have c02 := lowc C0.out.2 hb22
  have k2 := HK.out.low hb2
  have u0 := k2.cell (k := 0) rfl
  have u1 := k2.cell (k := 1) rfl
  have u2 := k2.cell (k := 2) rfl
  have u3 := k2.cell (k := 3) rfl
  have u4 := k2.cell (k := 4) rfl
  have u5 := k2.cell (k := 5) rfl
  try dsimp only [Hw.cells] at u0 u1 u2 u3 u4 u5
  have hLn := hid (fun x : C.Ext w2 => line79 ((KK.out.low hb22).low x.h) HV.out)
  have HB2 := hid hb22
  have HK2 := hid k2
  clear t0 t1 t2 t3 t4 t5 hb2 hb22 k2 HB HK C0 KK hIx
  go_wp2_with fail
  have h00 := AlS.start w2 136 #[.string ⟨#[]⟩, .int .i64 0, .int .i64 0, .int .i64 0, .int .i64 0, .int .i64 0] #[.string tx, .int .i64 va, .int .i64 vb, .int .i64 vc, .int .i64 vf, .int .i64 vt]
  have hCl := AlS.cls w2 136 #[.string ⟨#[]⟩, .int .i64 0, .int .i64 0, .int .i64 0, .int .i64 0, .int .i64 0] #[.string tx, .int .i64 va, .int .i64 vb, .int .i64 vc, .int .i64 vf, .int .i64 vt]
  refine C.eff_tail 16 [(14, some 9), (15, none)] (AlS w2 136 #[.string ⟨#[]⟩, .int .i64 0, .int .i64 0, .int .i64 0, .int .i64 0, .int .i64 0] #[.string tx, .int .i64 va, .int .i64 vb, .int .i64 vc, .int .i64 vf, .int .i64 vt]) (fun f args u => u = .tuple #[.agg #[.string tx, .int .i64 va, .int .i64 vb, .int .i64 vc, .int .i64 vf, .int .i64 vt], .int .i64 0]) (by kernel_rfl) (by kernel_rfl) (by kernel_rfl) rfl h00 ?_
  simp only [List.take_succ_cons, List.take_zero, List.drop_succ_cons, List.drop_zero]
  iterate 10 (refine C.ge_step hCl (by kernel_rfl) (C.wit0 h00 (by kernel_rfl)) (fun K hK => ?_); go_simp; refine ⟨hK _ ?_⟩; clear hK K)
  refine C.ge_call (f := 76) (args := #[.pointer (some ⟨r.pb, 0, none⟩), .int .i64 hl]) (C.wit0 h00 (by kernel_rfl)) rfl (fun x w' _ _ => by go_simp) ⟨_, rfl⟩ (fun x w' _ hx => ?_) (.inl (by kernel_rfl)) ?_
  · refine (hLn.out ⟨w', hx.1⟩).mono ?_
    rintro e w'' ⟨rfl, hb⟩
    exact ⟨_, rfl, rfl, hCl.up _ _ _ hx hb⟩
  rintro u rfl
  iterate 3 (refine C.ge_step hCl (by kernel_rfl) (C.wit0 h00 (by kernel_rfl)) (fun K hK => ?_); go_simp; refine ⟨hK _ ?_⟩; clear hK K)
  refine C.ge_eff (m := 0) (by kernel_rfl) rfl (C.wit0 h00 (by kernel_rfl)) (AlV w2 136 #[.string ⟨#[]⟩, .int .i64 0, .int .i64 0, .int .i64 0, .int .i64 0, .int .i64 0] #[.string tx, .int .i64 va, .int .i64 vb, .int .i64 vc, .int .i64 vf, .int .i64 vt]) ?_ ?_
  · intro x w' hf hx0 hx
    obtain ⟨e1, e2⟩ := AlS.made hf.1 hx0 hx
    refine ⟨_, _, .inl ?_, e1, e2⟩
    go_simp
  rintro u ⟨p, rfl, hp, w', hw'⟩
  refine C.ge_eff (m := 1) (by kernel_rfl) rfl ⟨_, w', fit2 (by kernel_rfl) (by kernel_rfl) rfl, hw'⟩ (fun u => u = undef) ?_ ?_
  · intro x w' hf hx0 hx
    obtain ⟨q, hq, hqs, kz, hfin⟩ := AlS.store hf.1 (hf.2.2 0 _ rfl (by kernel_rfl)) hx0 hx
    obtain rfl : p = q := by
      have e : (Value.pointer (some ⟨p, 0, none⟩)) = .pointer (some ⟨q, 0, none⟩) := hq
      simpa using e
    clear hq hf hx hx0 hw'
    have n0 := kz.cell (k := 0) rfl
    have n1 := kz.cell (k := 1) rfl
    have n2 := kz.cell (k := 2) rfl
    have n3 := kz.cell (k := 3) rfl
    have n4 := kz.cell (k := 4) rfl
    have n5 := kz.cell (k := 5) rfl
    have z0 := kz.froz 0
    have z1 := kz.froz 1
    have z2 := kz.froz 2
    have z3 := kz.froz 3
    have z4 := kz.froz 4
    have z5 := kz.froz 5
    refine ⟨undef, (((((w'.setCell ⟨p, 0, none⟩ (.string tx)).setCell ⟨p, 1, none⟩ (.int .i64 va)).setCell ⟨p, 2, none⟩ (.int .i64 vb)).setCell ⟨p, 3, none⟩ (.int .i64 vc)).setCell ⟨p, 4, none⟩ (.int .i64 vf)).setCell ⟨p, 5, none⟩ (.int .i64 vt), ?hrun, rfl, hfin _ ?blk ?bel⟩
    case hrun =>
      go_simp
    case blk => exact (((((kz.upd 0 _ rfl).upd 1 _ rfl).upd 2 _ rfl).upd 3 _ rfl).upd 4 _ rfl).upd 5 _ rfl
    case bel => exact ((((((Below.refl _ w').setCell (p := ⟨p, 0, none⟩) hp _).setCell (p := ⟨p, 1, none⟩) hp _).setCell (p := ⟨p, 2, none⟩) hp _).setCell (p := ⟨p, 3, none⟩) hp _).setCell (p := ⟨p, 4, none⟩) hp _).setCell (p := ⟨p, 5, none⟩) hp _
  rintro u rfl
  refine C.ge_nil ?_
  intro w3 hw3
  obtain ⟨hb3, q, hq, hqs, kq⟩ := hw3
  obtain rfl : p = q := by
    have e : (Value.pointer (some ⟨p, 0, none⟩)) = .pointer (some ⟨q, 0, none⟩) := hq
    simpa using e
  have k3 := HK2.out.low hb3
  have hb4 := hid (HB2.out.trans (hb3.mono HB2.out.size))
  clear hq hw' hCl h00 hLn u0 u1 u2 u3 u4 u5 c01 c02
  have u0 := k3.cell (k := 0) rfl
  have u4 := k3.cell (k := 4) rfl
  have u5 := k3.cell (k := 5) rfl
  have v0 := kq.cell (k := 0) rfl
  have v4 := kq.cell (k := 4) rfl
  try dsimp only [Hw.cells] at u0 u4 u5
  clear kq k3 hb3 HB2 HK2
  go_wp2_with fail
  refine C.draw_allB (by kernel_rfl) (by kernel_rfl) ?_
  repeat (refine C.bq_step (fun K hK => ?_); go_simp; refine ⟨hK _ ?_⟩; clear hK K)
  refine C.bq_nil ?_
  rintro _ ⟨dn, rfl⟩
  have hb5 := hid (hb4.out.trans (below_drN w3 dn))
  generalize w3.drewN dn = w4 at *
  rw [HA.out, HBB.out]
  go_wp2_with fail
  with_reducible refine Calls.mono (hCt.out _) ?_
  rintro x w5 ⟨rfl, hb6⟩
  have hb7 := hid (hb5.out.trans (hb6.mono hb5.out.size))
  go_wp2_with fail
  with_reducible refine Calls.mono (hC1.out _) ?_
  rintro x w' ⟨rfl, rfl⟩
  go_wp2_with fail
  with_reducible refine Calls.mono (hC2.out _) ?_
  rintro x w6 ⟨rfl, hb8⟩
  have hb9 := hb7.out.trans (hb8.mono hb7.out.size)
  go_wp2_with fail
  try rw [Exit.noGoto_ret]
  refine bodyPost_ret (v := .tuple #[.string A, .string B, .int .i64 0]) (by simp [results, Tryz.results40, go_sem]) rfl ⟨rfl, hb9⟩
end
end Go.Proofs.YteodfondjogmoaaGreatDoor
