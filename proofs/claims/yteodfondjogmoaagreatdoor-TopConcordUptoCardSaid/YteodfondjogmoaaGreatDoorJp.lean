/- The law of Gr once more: an operation that waits for several effects at once is shown to go well in whatever worlds there are; where there is none, its slot holds nothing. Conditions: those of each theorem. -/
import Derived.Test.YteodfondjogmoaaGreatDoorJo
import Derived.Test.YteodfondjogmoaaGreatDoorJi
namespace Go.Proofs.YteodfondjogmoaaGreatDoor.Z
open Go Go.RowKit C
set_option linter.unusedVariables false
section
variable {P : Program} {ops : Array Oper} {es : List (Nat × Option Tmp)} {H : List (Option Value) → World → Prop} {cv : FuncId → Array Value → Value → Prop} {n : Nat}
def okE (P : Program) (ops : Array Oper) (es : List (Nat × Option Tmp)) (H : List (Option Value) → World → Prop) (cv : FuncId → Array Value → Value → Prop) (i : Nat) (o : Oper) (a : Act) : Prop :=
  ∀ x w, fitE ops es i x a → H x w → goE P es H cv i x ((execOp a.eval o).run P w)
def canX (P : Program) (ops : Array Oper) (es : List (Nat × Option Tmp)) (H : List (Option Value) → World → Prop) (cv : FuncId → Array Value → Value → Prop) (i : Nat) (o : Oper) (a : Act) (u : Value) : Prop :=
  ∃ x w, fitE ops es i x a ∧ H x w ∧ outE cv u ((execOp a.eval o).run P w)
def canE (P : Program) (ops : Array Oper) (es : List (Nat × Option Tmp)) (H : List (Option Value) → World → Prop) (cv : FuncId → Array Value → Value → Prop) (i : Nat) (o : Oper) (a : Act) (u : Value) : Prop :=
  if Region.wanted o (yielded ops a.tmps) = true then canX P ops es H cv i o a u ∨ ((∀ u', ¬ canX P ops es H cv i o a u') ∧ u = undef) else u = undef
def yiE (P : Program) (ops : Array Oper) (es : List (Nat × Option Tmp)) (H : List (Option Value) → World → Prop) (cv : FuncId → Array Value → Value → Prop) (i : Nat) (o : Oper) (a : Act) : Prop :=
  (Region.wanted o (yielded ops a.tmps) = true → okE P ops es H cv i o a) ∧ (Region.wanted o (yielded ops a.tmps) = false → kOf es i = none)
def atE (P : Program) (ops : Array Oper) (es : List (Nat × Option Tmp)) (H : List (Option Value) → World → Prop) (cv : FuncId → Array Value → Value → Prop) (i : Nat) (K : Act → Prop) (a : Act) : Prop :=
  match ops[i]? with
  | none => K a
  | some o => yiE P ops es H cv i o a ∧ ∀ u, canE P ops es H cv i o a u → K (a.put o.dst u)
theorem atE_mono {i : Nat} {a : Act} {K K' : Act → Prop} (h : ∀ a, K a → K' a) (hh : atE P ops es H cv i K a) : atE P ops es H cv i K' a := by
  unfold atE at *
  cases ho : ops[i]? with
  | none => rw [ho] at hh; exact h _ hh
  | some o => rw [ho] at hh; exact ⟨hh.1, fun u hu => h _ (hh.2 u hu)⟩
theorem yiE.same {i : Nat} {o : Oper} {a a' : Act} (hy : yiE P ops es H cv i o a) (he : execOp a'.eval o = execOp a.eval o) (hw : Region.wanted o (yielded ops a'.tmps) = Region.wanted o (yielded ops a.tmps)) (hf : ∀ x, fitE ops es i x a' ↔ fitE ops es i x a) : yiE P ops es H cv i o a' := by
  unfold yiE okE at *
  rw [he, hw]
  simp only [hf]
  exact hy
theorem canE_same {i : Nat} {o : Oper} {a a' : Act} {u : Value} (he : execOp a'.eval o = execOp a.eval o) (hw : Region.wanted o (yielded ops a'.tmps) = Region.wanted o (yielded ops a.tmps)) (hf : ∀ x, fitE ops es i x a' ↔ fitE ops es i x a) : canE P ops es H cv i o a' u ↔ canE P ops es H cv i o a u := by
  unfold canE canX
  rw [he, hw]
  simp only [hf]
theorem canE_ne {i : Nat} {o : Oper} {a : Act} : ∃ u, canE P ops es H cv i o a u := by
  by_cases hw : Region.wanted o (yielded ops a.tmps) = true
  · by_cases h : ∃ u, canX P ops es H cv i o a u
    · obtain ⟨u, hu⟩ := h
      exact ⟨u, by unfold canE; rw [if_pos hw]; exact .inl hu⟩
    · exact ⟨undef, by unfold canE; rw [if_pos hw]; exact .inr ⟨fun u hu => h ⟨u, hu⟩, rfl⟩⟩
  · exact ⟨undef, by unfold canE; rw [if_neg hw]⟩
theorem atE_put (hwf : wfE ops es = true) {i j : Nat} {oi oj : Oper} (hi : ops[i]? = some oi) (hj : ops[j]? = some oj) (hdi : depB ops i j = false) (hdj : depB ops j i = false) (hap : oi.apart ops oj = true)
    (hsi : ∀ cs b, oi.op ≠ .select cs b) (hsj : ∀ cs b, oj.op ≠ .select cs b) {K : Act → Prop} {a : Act}
    (hy : yiE P ops es H cv i oi a) (h : ∀ v, canE P ops es H cv i oi a v → atE P ops es H cv j K (a.put oi.dst v)) :
    atE P ops es H cv j (fun a' => yiE P ops es H cv i oi a' ∧ ∀ v, canE P ops es H cv i oi a' v → K (a'.put oi.dst v)) a := by
  obtain ⟨h1, h2, h3⟩ := Oper.apart_spec hap
  have si : ∀ u, execOp (a.put oj.dst u).eval oi = execOp a.eval oi := fun u => execOp_put oi hsi a oj.dst u h3
  have wi : ∀ u, Region.wanted oi (yielded ops (a.put oj.dst u).tmps) = Region.wanted oi (yielded ops a.tmps) := fun u => wanted_put oi a oj.dst u h3
  have sj : ∀ v, execOp (a.put oi.dst v).eval oj = execOp a.eval oj := fun v => execOp_put oj hsj a oi.dst v h1
  have wj : ∀ v, Region.wanted oj (yielded ops (a.put oi.dst v).tmps) = Region.wanted oj (yielded ops a.tmps) := fun v => wanted_put oj a oi.dst v h1
  have fi : ∀ u x, fitE ops es i x (a.put oj.dst u) ↔ fitE ops es i x a := fun u x => fit_put hwf hj hdi x
  have fj : ∀ v x, fitE ops es j x (a.put oi.dst v) ↔ fitE ops es j x a := fun v x => fit_put hwf hi hdj x
  unfold atE at *
  rw [hj] at *
  dsimp only at *
  obtain ⟨v0, hv0⟩ := canE_ne (P := P) (ops := ops) (es := es) (H := H) (cv := cv) (i := i) (o := oi) (a := a)
  refine ⟨(h v0 hv0).1.same (sj v0).symm (wj v0).symm (fun x => (fj v0 x).symm), fun u hu => ⟨hy.same (si u) (wi u) (fi u), fun v hv => ?_⟩⟩
  have hv' := (canE_same (si u) (wi u) (fi u)).1 hv
  rw [← Act.put_comm a v u h2]
  exact (h v hv').2 u ((canE_same (sj v) (wj v) (fj v)).2 hu)
def HeadE (P : Program) (ops : Array Oper) (es : List (Nat × Option Tmp)) (H : List (Option Value) → World → Prop) (cv : FuncId → Array Value → Value → Prop) (n : Nat) (E : Array Bool → Act → Prop) : Nat → Array Bool → Act → Prop
  | 0, T, a => E T a
  | f + 1, T, a => (Region.ready .any ops T ≠ [] ∧ ∀ i, i ∈ Region.ready .any ops T → i < n) ∧
      ∀ i, i ∈ Region.ready .any ops T → atE P ops es H cv i (HeadE P ops es H cv n E f (T.setIfInBounds i true)) a
theorem HeadE.first {E : Array Bool → Act → Prop} (hwf : wfE ops es = true) (hsel : Region.noSelect ops = true) (hs : Region.sinkB .any ops n = true) (hc : Region.chainB .any ops n = true) (hn : n < ops.size)
    (hE : ∀ T a, E T a → ∀ j, j ∈ Region.ready .any ops T → n ≤ j) {i : Nat} {o : Oper} (ho : ops[i]? = some o) (hin : i < n) (f : Nat) :
    ∀ T a, HeadInv .any ops n T → i ∈ Region.ready .any ops T →
      (∀ j x, ops[j]? = some x → j ≠ i → T.getD j true = false → (∀ e ∈ x.after, Region.binds .any e = true → e.on ≠ i) → o.apart ops x = true) →
      yiE P ops es H cv i o a → (∀ v, canE P ops es H cv i o a v → HeadE P ops es H cv n E f (T.setIfInBounds i true) (a.put o.dst v)) → HeadE P ops es H cv n E (f + 1) T a := by
  have nosel := Region.noSelect_spec hsel
  induction f with
  | zero =>
    intro T a inv hi hap hy h
    obtain ⟨v0, hv0⟩ := canE_ne (P := P) (ops := ops) (es := es) (H := H) (cv := cv) (i := i) (o := o) (a := a)
    have hlt : ∀ j, j ∈ Region.ready .any ops T → j < n := fun j hj =>
      Nat.lt_of_not_le fun hnj => tail_waits hs hc hn inv _ i rfl hin (mem_ready.1 hi).1 j hnj hj
    refine ⟨⟨fun h0 => by simp [h0] at hi, hlt⟩, fun j hj => ?_⟩
    rcases Nat.decEq j i with hne | rfl
    · exact absurd (hlt j hj) (Nat.not_lt.2 (hE _ _ (h v0 hv0) j (ready_mono hj hne)))
    · unfold atE; rw [ho]; exact ⟨hy, h⟩
  | succ f ih =>
    intro T a inv hi hap hy h
    have hun := (mem_ready.1 hi).1
    have hlt : ∀ j, j ∈ Region.ready .any ops T → j < n := fun j hj =>
      Nat.lt_of_not_le fun hnj => tail_waits hs hc hn inv _ i rfl hin hun j hnj hj
    refine ⟨⟨fun h0 => by simp [h0] at hi, hlt⟩, fun j hj => ?_⟩
    rcases Nat.decEq j i with hne | rfl
    · obtain ⟨hjun, x, hx, hwait⟩ := mem_ready.1 hj
      have hno : ∀ e ∈ x.after, Region.binds .any e = true → e.on ≠ i := fun e he hb h1 => by
        have h2 := hwait e he hb
        rw [h1, getD_both hun] at h2
        exact Bool.false_ne_true h2
      refine atE_mono (fun a' h' => ?_) (atE_put hwf ho hx (by
        cases hd : depB ops i j with
        | false => rfl
        | true => have := dep_ready hi hd; rw [getD_both hjun] at this; cases this) (by
        cases hd : depB ops j i with
        | false => rfl
        | true => have := dep_ready hj hd; rw [getD_both hun] at this; cases this) (hap j x hx hne hjun hno) (fun cs b => nosel i o cs b ho) (fun cs b => nosel j x cs b hx) hy (fun v hv => (h v hv).2 j (ready_mono hj hne)))
      refine ih _ a' (inv.set hj (hlt j hj)) (ready_mono hi (Ne.symm hne)) (fun k y hk hki hkT hky => ?_) h'.1 (fun v hv => ?_)
      · refine hap k y hk hki ?_ hky
        rcases Nat.decEq j k with hjk | rfl
        · rwa [getD_set_ne true hjk] at hkT
        · exact hjun
      · rw [Array.setIfInBounds_comm _ _ hne]
        exact h'.2 v hv
    · unfold atE; rw [ho]; exact ⟨hy, h⟩
def wpGE (P : Program) (ops : Array Oper) (es : List (Nat × Option Tmp)) (H : List (Option Value) → World → Prop) (cv : FuncId → Array Value → Value → Prop) (Q : Act → Prop) : Nat → List Oper → Act → Prop
  | _, [], a => Q a
  | k, o :: rest, a => yiE P ops es H cv k o a ∧ ∀ u, canE P ops es H cv k o a u → wpGE P ops es H cv Q (k + 1) rest (a.put o.dst u)
theorem HeadE.text {g : Nat} {L : Act → Prop} (hwf : wfE ops es = true) (hsel : Region.noSelect ops = true) (hs : Region.sinkB .any ops n = true) (hc : Region.chainB .any ops n = true) (hn : n < ops.size) (l : List Oper) :
    ∀ k T a, T.size = ops.size → (∀ j, j < k → T.getD j false = true) → (∀ j, j < l.length → ops[k + j]? = l[j]?) → k + l.length = n → HeadInv .any ops n T → Region.lexHead .any ops g l.length k T = true →
      wpGE P ops es H cv L k l a → HeadE P ops es H cv n (fun T' a' => Region.seqB .any ops g n T' = true ∧ (∀ j, j < n → T'.getD j false = true) ∧ L a') l.length T a := by
  induction l with
  | nil =>
    intro k T a _ hd _ hk _ hB h
    obtain rfl : k = n := hk
    exact ⟨hB, hd, h⟩
  | cons o l ih =>
    intro k T a hsz hd hl hk inv hB h
    have h0 : ops[k]? = some o := by have := hl 0 (by simp); simpa using this
    have hklt := (Array.getElem?_eq_some_iff.1 h0).1
    simp only [List.length_cons, Region.lexHead, Bool.and_eq_true, List.contains_iff_mem] at hB
    simp only [List.length_cons] at hk
    have hkn : k < n := by omega
    refine HeadE.first hwf hsel hs hc hn (fun T' a' hT => seqB_ready hT.1) h0 hkn l.length T a inv hB.1.1 (Region.free_spec h0 hB.1.2) h.1 (fun v hv => ?_)
    refine ih (k + 1) _ _ (by simpa using hsz) (fun j hj => ?_) (fun j hj => ?_) (by omega) (inv.set hB.1.1 hkn) hB.2 (h.2 v hv)
    · rcases Nat.lt_succ_iff_lt_or_eq.1 hj with hj | rfl
      · have e : (T.setIfInBounds k true).getD j false = T.getD j false := by simp [Array.getD_eq_getD_getElem?, Nat.ne_of_gt hj]
        rw [e]; exact hd j hj
      · simp [Array.getD_eq_getD_getElem?, hsz, hklt]
    · have := hl (j + 1) (by simp; omega)
      simpa [Nat.add_assoc, Nat.add_comm 1 j] using this
theorem gk_step {T : Nat → Prop} {w0 : World} (hC : ClsK T w0 H) {Q : Act → Prop} {k : Nat} {o : Oper} {rest : List Oper} {a : Act} (hk : kOf es k = none) (hwit : ∃ x w, fitE ops es k x a ∧ H x w)
    (h : ∀ K : Act → Prop, (∀ a, Box (wpGE P ops es H cv Q (k + 1) rest a) → K a) → Box (if Region.wanted o (yielded ops a.tmps) then opQK P T w0 o a K else K (a.put o.dst undef))) : Box (wpGE P ops es H cv Q k (o :: rest) a) := by
  have h1 := (h (wpGE P ops es H cv Q (k + 1) rest) (fun a hb => hb.out)).out
  have nx : ∀ x u, nxE es k x u = x := fun x u => by unfold nxE; rw [hk]
  refine ⟨?_⟩
  by_cases hw : Region.wanted o (yielded ops a.tmps) = true
  · rw [if_pos hw] at h1
    obtain ⟨v, h2, h3⟩ := h1
    have h4 : ∀ x w, H x w → upQE w v ((execOp a.eval o).run P w) := fun x w hx => h2 w ⟨⟨w, hC.ext x w hx⟩, rfl⟩
    refine ⟨⟨fun _ => fun x w _ hx => ?_, fun e => by rw [hw] at e; cases e⟩, fun u hu => ?_⟩
    · have h5 := h4 x w hx
      generalize (execOp a.eval o).run P w = r at *
      cases r with
      | halt e w' => exact h5.elim
      | ok y w' =>
        cases y with
        | value u => obtain ⟨rfl, rfl⟩ := h5; show H (nxE es k x u) _; rw [nx]; exact hx
        | skip => obtain ⟨rfl, rfl⟩ := h5; show H (nxE es k x undef) _; rw [nx]; exact hx
        | _ => exact h5.elim
    · unfold canE at hu
      rw [if_pos hw] at hu
      have hu : canX P ops es H cv k o a u := by
        rcases hu with hu | ⟨hn, _⟩
        · exact hu
        · obtain ⟨x, w, hf, hx⟩ := hwit
          refine (hn v ⟨x, w, hf, hx, ?_⟩).elim
          have h5 := h4 x w hx
          generalize (execOp a.eval o).run P w = r at *
          cases r with
          | halt e w' => exact h5.elim
          | ok y w' =>
            cases y with
            | value u => obtain ⟨_, rfl⟩ := h5; exact rfl
            | skip => obtain ⟨_, rfl⟩ := h5; exact rfl
            | _ => exact h5.elim
      obtain ⟨x, w, _, hx, ho⟩ := hu
      have h5 := h4 x w hx
      have : u = v := by
        generalize (execOp a.eval o).run P w = r at *
        cases r with
        | halt e w' => exact h5.elim
        | ok y w' =>
          cases y with
          | value u' => obtain ⟨_, rfl⟩ := h5; exact ho
          | skip => obtain ⟨_, rfl⟩ := h5; exact ho
          | _ => exact h5.elim
      subst this
      exact h3
  · rw [if_neg hw] at h1
    refine ⟨⟨fun e => absurd e hw, fun _ => hk⟩, fun u hu => ?_⟩
    unfold canE at hu
    rw [if_neg hw] at hu
    subst hu
    exact h1
theorem ge_eff {Q : Act → Prop} {k m : Nat} {o : Oper} {rest : List Oper} {a : Act} (hk : kOf es k = some m) (hw : Region.wanted o (yielded ops a.tmps) = true) (hwit : ∃ x w, fitE ops es k x a ∧ H x w) (V : Value → Prop)
    (hrun : ∀ x w, fitE ops es k x a → x[m]? = some none → H x w → ∃ u w', ((execOp a.eval o).run P w = .ok (.value u) w' ∨ ((execOp a.eval o).run P w = .ok .skip w' ∧ u = undef)) ∧ V u ∧ H (x.set m (some (valE es m u))) w')
    (h : ∀ u, V u → Box (wpGE P ops es H cv Q (k + 1) rest (a.put o.dst u))) : Box (wpGE P ops es H cv Q k (o :: rest) a) := by
  have nx : ∀ x u, nxE es k x u = x.set m (some (valE es m u)) := fun x u => by unfold nxE; rw [hk]
  refine ⟨⟨fun _ => fun x w hf hx => ?_, fun e => by rw [hw] at e; cases e⟩, fun u hu => ?_⟩
  · obtain ⟨u, w', e, _, h2⟩ := hrun x w hf (hf.2.1 m hk) hx
    rcases e with e | ⟨e, rfl⟩
    · rw [e]
      show H (nxE es k x u) w'
      rw [nx]
      exact h2
    · rw [e]
      show H (nxE es k x undef) w'
      rw [nx]
      exact h2
  · unfold canE at hu
    rw [if_pos hw] at hu
    have hu : canX P ops es H cv k o a u := by
      rcases hu with hu | ⟨hn, _⟩
      · exact hu
      · obtain ⟨x, w, hf, hx⟩ := hwit
        obtain ⟨u', w', e, hV, _⟩ := hrun x w hf (hf.2.1 m hk) hx
        rcases e with e | ⟨e, rfl⟩
        · exact (hn u' ⟨x, w, hf, hx, by rw [e]; rfl⟩).elim
        · exact (hn undef ⟨x, w, hf, hx, by rw [e]; rfl⟩).elim
    obtain ⟨x, w, hf, hx, ho⟩ := hu
    obtain ⟨u', w', e, hV, _⟩ := hrun x w hf (hf.2.1 m hk) hx
    rcases e with e | ⟨e, rfl⟩
    · rw [e] at ho
      obtain rfl : u = u' := ho
      exact (h u hV).out
    · rw [e] at ho
      obtain rfl : u = undef := ho
      exact (h _ hV).out
/-- an effect that waits for several others -/
theorem ge_eff2 {Q : Act → Prop} {k m : Nat} {o : Oper} {rest : List Oper} {a : Act} (hk : kOf es k = some m) (hw : Region.wanted o (yielded ops a.tmps) = true) (V : Value → Prop)
    (hrun : ∀ x w, fitE ops es k x a → x[m]? = some none → H x w → ∃ u w', ((execOp a.eval o).run P w = .ok (.value u) w' ∨ ((execOp a.eval o).run P w = .ok .skip w' ∧ u = undef)) ∧ V u ∧ H (x.set m (some (valE es m u))) w')
    (h : ∀ u, V u ∨ u = undef → Box (wpGE P ops es H cv Q (k + 1) rest (a.put o.dst u))) : Box (wpGE P ops es H cv Q k (o :: rest) a) := by
  have nx : ∀ x u, nxE es k x u = x.set m (some (valE es m u)) := fun x u => by unfold nxE; rw [hk]
  refine ⟨⟨fun _ => fun x w hf hx => ?_, fun e => by rw [hw] at e; cases e⟩, fun u hu => ?_⟩
  · obtain ⟨u, w', e, _, h2⟩ := hrun x w hf (hf.2.1 m hk) hx
    rcases e with e | ⟨e, rfl⟩
    · rw [e]
      show H (nxE es k x u) w'
      rw [nx]
      exact h2
    · rw [e]
      show H (nxE es k x undef) w'
      rw [nx]
      exact h2
  · unfold canE at hu
    rw [if_pos hw] at hu
    rcases hu with hu | ⟨_, rfl⟩
    rotate_left
    · exact (h _ (.inr rfl)).out
    obtain ⟨x, w, hf, hx, ho⟩ := hu
    obtain ⟨u', w', e, hV, _⟩ := hrun x w hf (hf.2.1 m hk) hx
    rcases e with e | ⟨e, rfl⟩
    · rw [e] at ho
      obtain rfl : u = u' := ho
      exact (h u (.inl hV)).out
    · rw [e] at ho
      obtain rfl : u = undef := ho
      exact (h _ (.inl hV)).out
theorem ge_val {Q : Act → Prop} {k : Nat} {o : Oper} {rest : List Oper} {a : Act} (hk : kOf es k = none) (hwit : ∃ x w, fitE ops es k x a ∧ H x w) (hw : Region.wanted o (yielded ops a.tmps) = true) (v : Value)
    (hrun : ∀ x w, fitE ops es k x a → H x w → (execOp a.eval o).run P w = .ok (.value v) w) (h : Box (wpGE P ops es H cv Q (k + 1) rest (a.put o.dst v))) : Box (wpGE P ops es H cv Q k (o :: rest) a) := by
  have nx : ∀ x u, nxE es k x u = x := fun x u => by unfold nxE; rw [hk]
  refine ⟨⟨fun _ => fun x w hf hx => ?_, fun e => by rw [hw] at e; cases e⟩, fun u hu => ?_⟩
  · rw [hrun x w hf hx]
    show H (nxE es k x v) w
    rw [nx]; exact hx
  · unfold canE at hu
    rw [if_pos hw] at hu
    have hu : canX P ops es H cv k o a u := by
      rcases hu with hu | ⟨hn, _⟩
      · exact hu
      · obtain ⟨x, w, hf, hx⟩ := hwit
        exact (hn v ⟨x, w, hf, hx, by rw [hrun x w hf hx]; rfl⟩).elim
    obtain ⟨x, w, hf, hx, ho⟩ := hu
    rw [hrun x w hf hx] at ho
    obtain rfl : u = v := ho
    exact h.out
theorem ge_call {Q : Act → Prop} {k : Nat} {o : Oper} {rest : List Oper} {a : Act} (hwit : ∃ x w, fitE ops es k x a ∧ H x w) (hw : Region.wanted o (yielded ops a.tmps) = true) {f : FuncId} {args : Array Value}
    (hrun : ∀ x w, fitE ops es k x a → H x w → (execOp a.eval o).run P w = .ok (.enter f args) w) (hne : ∃ u, cv f args u) (hc : ∀ x w, fitE ops es k x a → H x w → Calls P f args w fun e w' => ∃ u, e = .returned u ∧ cv f args u ∧ H (nxE es k x u) w')
    (hk : kOf es k = none ∨ ∃ m, kOf es k = some m) (h : ∀ u, cv f args u → Box (wpGE P ops es H cv Q (k + 1) rest (a.put o.dst u))) : Box (wpGE P ops es H cv Q k (o :: rest) a) := by
  refine ⟨⟨fun _ => fun x w hf hx => ?_, fun e => by rw [hw] at e; cases e⟩, fun u hu => ?_⟩
  · rw [hrun x w hf hx]
    exact ⟨hne, hc x w hf hx⟩
  · unfold canE at hu
    rw [if_pos hw] at hu
    have hu : canX P ops es H cv k o a u := by
      rcases hu with hu | ⟨hn, _⟩
      · exact hu
      · obtain ⟨x, w, hf, hx⟩ := hwit
        obtain ⟨u', hu'⟩ := hne
        exact (hn u' ⟨x, w, hf, hx, by rw [hrun x w hf hx]; exact hu'⟩).elim
    obtain ⟨x, w, hf, hx, ho⟩ := hu
    rw [hrun x w hf hx] at ho
    exact (h u ho).out
theorem ge_nil {Q : Act → Prop} {k : Nat} {a : Act} (h : Q a) : Box (wpGE P ops es H cv Q k [] a) := ⟨h⟩
/-- where no world has what the effects of D have left, nothing is to be shown of what waits for them all -/
theorem no_rest {Q : Act → Prop} (D : List Nat) (hQ : ∀ a', (∀ w', ¬ H (es.map fun p => some (slotV a' p.2)) w') → Q a') : ∀ (l : List Oper) (k : Nat) (a : Act),
    (∀ x w, x.length = es.length → (∀ m ∈ D, ∀ p, es[m]? = some p → x[m]? = some (some (slotV a p.2))) → ¬ H x w) →
    (List.range l.length).all (fun j => D.all fun m => match es[m]? with | some p => depB ops (k + j) p.1 | none => true) = true →
    l.all (fun o => o.guard.isNone && D.all fun m => match es[m]? with | some p => decide (p.2 = none) || decide (o.dst ≠ p.2) | none => true) = true → wpGE P ops es H cv Q k l a
  | [], k, a, hD, _, _ => hQ a (fun w' => hD _ w' (by simp) (fun m hm p hp => by rw [List.getElem?_map, hp]; rfl))
  | o :: r, k, a, hD, hdep, hdst => by
    rw [List.all_cons, Bool.and_eq_true, Bool.and_eq_true] at hdst
    obtain ⟨⟨hg, hd⟩, hdst⟩ := hdst
    have hw : Region.wanted o (yielded ops a.tmps) = true := by
      rw [Option.isNone_iff_eq_none] at hg
      simp [Region.wanted, hg]
    have h0 := List.all_eq_true.1 hdep 0 (List.mem_range.2 (by simp))
    refine ⟨⟨fun _ x w hf hx => (hD x w hf.1 (fun m hm p hp => hf.2.2 m p hp ?_) hx).elim, fun e => by rw [hw] at e; cases e⟩, fun u _ => ?_⟩
    · have h1 := List.all_eq_true.1 h0 m hm
      rw [hp] at h1
      exact h1
    · refine no_rest D hQ r (k + 1) _ (fun x w hl hx => hD x w hl (fun m hm p hp => ?_)) ?_ hdst
      · rw [hx m hm p hp]
        have h1 := List.all_eq_true.1 hd m hm
        rw [hp] at h1
        rw [slot_ne (by simpa using h1)]
      · rw [List.all_eq_true] at hdep ⊢
        intro j hj
        have := hdep (j + 1) (List.mem_range.2 (by rw [List.length_cons]; have := List.mem_range.1 hj; omega))
        rw [show k + 1 + j = k + (j + 1) by omega]
        exact this
/-- a reading step that waits for several effects -/
theorem gk_step2 {T : Nat → Prop} {w0 : World} (hC : ClsK T w0 H) {Q : Act → Prop} {k : Nat} {o : Oper} {rest : List Oper} {a : Act} (D : List Nat) (hk : kOf es k = none)
    (hds : (List.range es.length).all (fun m => D.contains m || !(match es[m]? with | some p => depB ops k p.1 | none => false)) = true)
    (hdep : (List.range rest.length).all (fun j => D.all fun m => match es[m]? with | some p => depB ops (k + 1 + j) p.1 | none => true) = true)
    (hdst : (o :: rest).all (fun o => o.guard.isNone && D.all fun m => match es[m]? with | some p => decide (p.2 = none) || decide (o.dst ≠ p.2) | none => true) = true)
    (hQ : ∀ a', (∀ w', ¬ H (es.map fun p => some (slotV a' p.2)) w') → Q a')
    (h : ∀ K : Act → Prop, (∀ a, Box (wpGE P ops es H cv Q (k + 1) rest a) → K a) → Box (if Region.wanted o (yielded ops a.tmps) then opQK P T w0 o a K else K (a.put o.dst undef))) : Box (wpGE P ops es H cv Q k (o :: rest) a) := by
  by_cases hwit : ∃ x w, fitE ops es k x a ∧ H x w
  · exact gk_step hC hk hwit h
  · have hno : ∀ x w, x.length = es.length → (∀ m ∈ D, ∀ p, es[m]? = some p → x[m]? = some (some (slotV a p.2))) → ¬ H x w := by
      intro x w hl hx hH
      refine hwit ⟨x, w, ⟨hl, fun k' hk' => ?_, fun m p hm hd => ?_⟩, hH⟩
      · rw [hk] at hk'; cases hk'
      · have hlt := (List.getElem?_eq_some_iff.1 hm).1
        have h1 := List.all_eq_true.1 hds m (List.mem_range.2 hlt)
        rw [hm] at h1
        dsimp only at h1
        rw [hd, Bool.not_true, Bool.or_false, List.contains_iff_mem] at h1
        exact hx m h1 p hm
    rw [List.all_cons, Bool.and_eq_true, Bool.and_eq_true] at hdst
    obtain ⟨⟨hg, hd⟩, hdst⟩ := hdst
    have hw : Region.wanted o (yielded ops a.tmps) = true := by
      rw [Option.isNone_iff_eq_none] at hg
      simp [Region.wanted, hg]
    refine ⟨⟨⟨fun _ x w hf hx => (hwit ⟨x, w, hf, hx⟩).elim, fun e => by rw [hw] at e; cases e⟩, fun u _ => ?_⟩⟩
    refine no_rest D hQ rest (k + 1) _ (fun x w hl hx => hno x w hl (fun m hm p hp => ?_)) hdep hdst
    rw [hx m hm p hp]
    have h1 := List.all_eq_true.1 hd m hm
    rw [hp] at h1
    rw [slot_ne (by simpa using h1)]
end
section
variable {P : Program} {F : Fence} {m : Nat} {ops : Array Oper} {es : List (Nat × Option Tmp)} {H : List (Option Value) → World → Prop} {cv : FuncId → Array Value → Value → Prop} {n : Nat}
theorem wpOpIn_of_atE (hF : WideF P F m) (hwf : wfE ops es = true) (hn : (es.map (·.1)).Nodup) {i : Nat} (hd : ∀ o, ops[i]? = some o → ∀ c, o.op ≠ .defer c) {T : Array Bool} {a : Act} {K : Act → Prop} {K' : Act → World → Prop} {Q' : Exit → Act → World → Prop} {w : World} (hTi : T.getD i false = false) (hdep : ∀ p ∈ es, depB ops i p.1 = true → T.getD p.1 false = true) (hsz : T.size = ops.size) (hs : ∀ p ∈ es, ∀ s, p.2 = some s → s < a.tmps.size) (hH : H (stE es T a) w)
    (h : ∀ a' w', (∀ p ∈ es, ∀ s, p.2 = some s → s < a'.tmps.size) → H (stE es (T.setIfInBounds i true) a') w' → K a' → K' a' w') (hh : atE P ops es H cv i K a) (hi : i < ops.size) : wpOpIn F m P ops Q' i K' a w := by
  unfold atE at hh
  unfold wpOpIn
  cases ho : ops[i]? with
  | none => rw [Array.getElem?_eq_getElem hi] at ho; cases ho
  | some o =>
    rw [ho] at hh
    dsimp only at hh ⊢
    obtain ⟨⟨hy1, hy2⟩, hk⟩ := hh
    have hnx := fun u => stE_next hwf hn (u := u) ho (hsz ▸ hi : i < T.size) hs
    have hsp : ∀ u, ∀ p ∈ es, ∀ s, p.2 = some s → s < (a.put o.dst u).tmps.size := fun u p hp s e => by rw [put_size]; exact hs p hp s e
    have hft := fit_of (a := a) hwf hTi hdep
    unfold canE at hk
    split
    · rename_i hw
      simp only [hw, if_true] at hk
      have hr := hy1 hw _ w hft hH
      refine ⟨fun f _ => hF.fn f, ?_⟩
      rw [Oper.semAt_eq F.round a.eval o (hd o ho)]
      generalize hrr : (execOp a.eval o).run P w = r at *
      cases r with
      | halt x w' => exact hr.elim
      | ok x w' =>
        cases x with
        | value u => exact h _ _ (hsp u) (by rw [hnx u]; exact hr) (hk u (.inl ⟨_, w, hft, hH, by rw [hrr]; rfl⟩))
        | skip => exact h _ _ (hsp undef) (by rw [hnx undef]; exact hr) (hk undef (.inl ⟨_, w, hft, hH, by rw [hrr]; rfl⟩))
        | enter f args =>
          refine ⟨hF.dp, hF.calls _ _ _ _ (hr.2.mono ?_)⟩
          rintro e w'' ⟨u, rfl, hu, hw''⟩
          exact h _ _ (hsp _) (by rw [hnx]; exact hw'') (hk _ (.inl ⟨_, w, hft, hH, by rw [hrr]; exact hu⟩))
        | _ => exact hr.elim
    · rename_i hw
      have hw' : Region.wanted o (yielded ops a.tmps) = false := by simpa using hw
      simp only [hw', Bool.false_eq_true, if_false] at hk
      have hk0 := hy2 hw'
      have e := hnx undef
      unfold nxE at e
      rw [hk0] at e
      exact ⟨fun f _ => hF.fn f, h _ _ (hsp undef) (by rw [e]; exact hH) (hk undef rfl)⟩
theorem HeadE.soundIn (hF : WideF P F m) (hwf : wfE ops es = true) (hn : (es.map (·.1)).Nodup) (hd : ∀ (i : Nat) (o : Oper), ops[i]? = some o → ∀ c, o.op ≠ .defer c) {E : Array Bool → Act → Prop} {Q : Exit → Act → World → Prop} {g : Nat}
    (hE : ∀ T a w, T.size = ops.size → (∀ p ∈ es, ∀ s, p.2 = some s → s < a.tmps.size) → H (stE es T a) w → E T a → wpAnyIn F m P .any ops Q g T a w) (f : Nat) :
    ∀ T a w, T.size = ops.size → (∀ p ∈ es, ∀ s, p.2 = some s → s < a.tmps.size) → H (stE es T a) w → HeadE P ops es H cv n E f T a → wpAnyIn F m P .any ops Q (g + f) T a w := by
  induction f with
  | zero => exact fun T a w hsz hs hw h => hE T a w hsz hs hw h
  | succ f ih =>
    intro T a w hsz hs hw h
    refine ⟨fun h0 => absurd h0 h.1.1, fun i hi => ?_⟩
    have hun := (mem_ready.1 hi).1
    have hlt : i < T.size := by
      by_cases hlt : i < T.size
      · exact hlt
      · obtain ⟨_, x, hx, _⟩ := mem_ready.1 hi
        have := (Array.getElem?_eq_some_iff.1 hx).1
        omega
    exact wpOpIn_of_atE hF hwf hn (hd i) (getD_both hun) (fun p _ hd => dep_ready hi hd) hsz hs hw (fun a' w' hs' hw' h' => ih _ a' w' (by simpa using hsz) hs' hw' h') (h.2 i hi) (hsz ▸ hlt)
end
theorem eff_tailIn {P : Program} {F : Fence} {m : Nat} {id : Nat} {Q : Exit → Act → World → Prop} {a : Act} {w : World} {l : List Oper} (n : Nat) (es : List (Nat × Option Tmp)) (H : List (Option Value) → World → Prop) (cv : FuncId → Array Value → Value → Prop) (hm : P.follows .mixedOrders = true) (hF : WideF P F m) (hd : noDefer l = true) (hB : Region.lexTailB .any l.toArray n = true)
    (hwf : (wfE l.toArray es && decide ((es.map (·.1)).Nodup) && es.all (fun p => decide (p.1 < n))) = true) (hsl : es.all (fun p => match p.2 with | some s => decide (s < a.tmps.size) | none => true) = true) (h0 : H (es.map fun _ => none) w.drew)
    (h : Box (wpGE P l.toArray es H cv (fun a' => ∀ w', H (es.map fun p => some (slotV a' p.2)) w' → wpListIn F m P l.toArray Q (l.drop n) a' w') 0 (l.take n) a)) : (Code.region id l.toArray true).wpIn F m P Q a w := by
  simp only [Region.lexTailB, Bool.and_eq_true, decide_eq_true_eq] at hB
  simp only [Bool.and_eq_true, decide_eq_true_eq, List.all_eq_true] at hwf hsl
  have hsl : ∀ p ∈ es, ∀ s, p.2 = some s → s < a.tmps.size := fun p hp s e => by have := hsl p hp; rw [e] at this; exact of_decide_eq_true this
  obtain ⟨⟨hwf, hnd⟩, hlt⟩ := hwf
  have hn := hB.1.1.1.2
  have hsz : l.toArray.size = l.length := by simp
  have htl : (l.take n).length = n := by rw [List.length_take]; omega
  have inv : HeadInv .any l.toArray n (Array.replicate l.toArray.size false) :=
    ⟨Array.size_replicate, fun j x _ hT => (by rw [getD_replicate_false] at hT; cases hT), fun t _ ht => getD_in (by rw [Array.size_replicate]; exact ht) (getD_replicate_false _ _)⟩
  have hh := HeadE.text (P := P) (H := H) (es := es) (cv := cv) (g := l.toArray.size - n) hwf hB.1.1.1.1 hB.1.1.2 hB.1.2 hn (l.take n) 0 (Array.replicate l.toArray.size false) a
    Array.size_replicate (fun j hj => absurd hj (Nat.not_lt_zero _)) (fun j hj => by rw [htl] at hj; simp [hj]) (by rw [htl]; omega) inv (by rw [htl]; exact hB.2) h.out
  refine wpIn_region_any hm ?_
  have h2 := HeadE.soundIn (Q := Q) (g := l.toArray.size - n) hF hwf hnd (fun i o ho => noDefer_spec hd ho) (fun T a' w' hTs hs' hw' hT => by
    have e : stE es T a' = es.map fun p => some (slotV a' p.2) := List.map_congr_left fun p hp => by rw [if_pos (hT.2.1 p.1 (hlt p hp))]
    rw [e] at hw'
    have := wpAnyIn_of_seq (F := F) (m := m) (Q' := Q) (l.drop n) n T a' w' (fun j => by simp [List.getElem?_drop]) (by rw [List.length_drop, ← hsz]; exact hT.1) (hT.2.2 w' hw')
    rwa [List.length_drop, ← hsz] at this) _ _ _ _ Array.size_replicate hsl (by
      have e : stE es (Array.replicate l.toArray.size false) a = es.map fun _ => none := List.map_congr_left fun p _ => by rw [getD_replicate_false]; rfl
      rw [e]; exact h0) hh
  rw [htl, show l.toArray.size - n + n = l.toArray.size by omega] at h2
  exact h2
end Go.Proofs.YteodfondjogmoaaGreatDoor.Z
/- What concord.New keeps at each of its loops. Conditions: those of each theorem. -/
namespace Go.Proofs.YteodfondjogmoaaGreatDoor
open Go Go.RowKit Go.Lib Go.Shelf Go.Maps
set_option linter.unusedVariables false
set_option linter.unusedSimpArgs false
abbrev plD (rs : List PmR) : List Pd := rs.map (·.d)
def NewPost (w : World) (rs : List PmR) (e : Ending) (w' : World) : Prop :=
  Below w.heap.size w w' ∧ ((e = .returned (.tuple #[.pointer none, .int .i64 3]) ∧ 32768 < (alE 0 (plD rs)).length) ∨ ∃ c E ks, e = .returned (.tuple #[.pointer (some ⟨c.cb, 0, none⟩), .int .i64 0]) ∧ CcAt w' c rs E ks)
/-- between poems -/
structure OutI (w5 : World) (M : Nat) (x : Nx) (n : Nat) (rs : List PmR) (k : Nat) (Ds : List Nat) (W : World) : Prop where
  nw : ∃ hv ov, NwAt W x n (fun g => g < M ∨ g ∈ Ds) (alE 0 ((plD rs).take k)) (alE 0 ((plD rs).take k)) hv ov
  low : Below M w5 W
  nd : Ds.Nodup
  mks : ∀ D ∈ Ds, W.heap[D]? = some (.deferred (some [])) ∧ M + 3 ≤ D
  sz : M + 3 ≤ W.heap.size
/-- between lines, between words: F is kept, C are counters -/
structure StI (w9 : World) (x : Nx) (n : Nat) (F : Nat → Prop) (C : List (Nat × Nat)) (E : List En) (S : Nat → Prop) (W : World) : Prop where
  nw : ∃ hv ov, NwAt W x n (fun g => F g ∨ (∃ c ∈ C, c.1 = g) ∨ S g) E E hv ov
  ct : ∀ c ∈ C, Blk W c.1 3 #[.int .i64 c.2]
  kp : Kept F w9 W
/-- too many words -/
structure ErrI (w9 : World) (F : Nat → Prop) (N : Nat) (rs : List PmR) (c : Code) (W : World) : Prop where
  ret : c = .ret
  r2 : Blk W N 27 #[.pointer none]
  r3 : Blk W (N + 1) 75 #[.int .i64 3]
  kp : Kept (fun g => F g ∧ g ≠ N ∧ g ≠ N + 1) w9 W
  big : 32768 < (alE 0 (plD rs)).length
/-- what lies below -/
theorem PsAt.keepB {w w' : World} {a : Option Addr} {g : Nat} {rs : List PmR} {M : Nat} (h : PsAt w a g rs) (hb : Below M w w') (hM : M = w.heap.size) : PsAt w' a g rs := h.low (hM ▸ hb)
section
variable {w9 W W' : World} {x : Nx} {n N B : Nat} {F S S' : Nat → Prop} {C : List (Nat × Nat)} {E : List En} {rs : List PmR} {c : Code}
theorem StI.free (h : StI w9 x n F C E S W) (hF : ∀ g, F g → g < B) (hC : ∀ c ∈ C, c.1 < B) (hS : ∀ k, S k → B ≤ k ∧ k < W.heap.size) (hK : Kept (fun k => ¬ S k) W W') (hS' : ∀ k, S' k → S k ∨ (W.heap.size ≤ k ∧ k < W'.heap.size)) : StI w9 x n F C E S' W' := by
  obtain ⟨hv, ov, hnw⟩ := h.nw
  refine ⟨⟨hv, ov, hnw.keep hK (fun g hg hs => hg (.inr (.inr hs))) (fun g hg => ?_)⟩, fun c hc => (h.ct c hc).keep hK (fun hs => by have := (hS _ hs).1; have := hC c hc; omega), h.kp.trans (hK.mono fun g _ hg hs => by have := (hS _ hs).1; have := hF g hg; omega)⟩
  rcases hg with hg | hg | hg
  · exact .inl (.inl hg)
  · exact .inl (.inr (.inl hg))
  · exact (hS' g hg).imp (fun h => .inr (.inr h)) id
theorem ErrI.free (h : ErrI w9 F N rs c W) (hF : ∀ g, F g → g < B) (hN : N + 1 < B) (hS : ∀ k, S k → B ≤ k ∧ k < W.heap.size) (hK : Kept (fun k => ¬ S k) W W') : ErrI w9 F N rs c W' :=
  ⟨h.ret, h.r2.keep hK (fun hs => by have := (hS _ hs).1; omega), h.r3.keep hK (fun hs => by have := (hS _ hs).1; omega), h.kp.trans (hK.mono fun g _ hg hs => by have := (hS _ hs).1; have := hF g hg.1; omega), h.big⟩
/-- new memory, new counters; what was the iterator's becomes kept -/
theorem StI.more {F' : Nat → Prop} {C' : List (Nat × Nat)} {W1 : World} (h : StI w9 x n F C E S W) (hb : Below W.heap.size W W1) (hC : ∀ c ∈ C', c ∈ C ∨ Blk W1 c.1 3 #[.int .i64 c.2]) (hN : ∀ g, (F' g ∨ (∃ c ∈ C', c.1 = g) ∨ S' g) → (F g ∨ (∃ c ∈ C, c.1 = g) ∨ S g) ∨ (W.heap.size ≤ g ∧ g < W1.heap.size)) : StI W1 x n F' C' E S' W1 := by
  obtain ⟨hv, ov, hnw⟩ := h.nw
  refine ⟨⟨hv, ov, hnw.keep (Kept.of_all hb (fun _ => True)) (fun _ _ => trivial) hN⟩, fun c hc => ?_, Kept.refl _ _⟩
  rcases hC c hc with h1 | h1
  · exact (h.ct c h1).low hb
  · exact h1
end
end Go.Proofs.YteodfondjogmoaaGreatDoor
/- What concord.New's drawn regions lean on: which of the effects must be done ahead of an operation. Conditions: those of each theorem. -/
namespace Go.Proofs.YteodfondjogmoaaGreatDoor
open Go Go.RowKit Go.Lib Go.Shelf Go.Maps
set_option linter.unusedVariables false
set_option linter.unusedSimpArgs false
namespace C
instance {T : Nat → Prop} {w0 : World} : Nonempty (ExtK T w0) := ⟨⟨w0, Kept.refl _ _⟩⟩
theorem fit_at {ops : Array Oper} {es : List (Nat × Option Tmp)} {i : Nat} {x : List (Option Value)} {a : Act} (hl : x.length = es.length) (k0 : Nat) (hk : (kOf es i == some k0) = true) (hx : x[k0]? = some none) (ds : List Nat)
    (hds : (List.range es.length).all (fun m => ds.contains m || !(match es[m]? with | some p => depB ops i p.1 | none => false)) = true) (h : ∀ m ∈ ds, ∀ p, es[m]? = some p → x[m]? = some (some (slotV a p.2))) : fitE ops es i x a := by
  refine ⟨hl, fun k hk' => ?_, fun m p hm hd => ?_⟩
  · rw [beq_iff_eq] at hk
    rw [hk] at hk'
    obtain rfl := Option.some.inj hk'
    exact hx
  · have hlt := (List.getElem?_eq_some_iff.1 hm).1
    have h1 := List.all_eq_true.1 hds m (List.mem_range.2 hlt)
    rw [hm] at h1
    dsimp only at h1
    rw [hd, Bool.not_true, Bool.or_false, List.contains_iff_mem] at h1
    exact h m h1 p hm
theorem fit_non {ops : Array Oper} {es : List (Nat × Option Tmp)} {i : Nat} {x : List (Option Value)} {a : Act} (hl : x.length = es.length) (hk : kOf es i = none) (ds : List Nat)
    (hds : (List.range es.length).all (fun m => ds.contains m || !(match es[m]? with | some p => depB ops i p.1 | none => false)) = true) (h : ∀ m ∈ ds, ∀ p, es[m]? = some p → x[m]? = some (some (slotV a p.2))) : fitE ops es i x a := by
  refine ⟨hl, fun k hk' => ?_, fun m p hm hd => ?_⟩
  · rw [hk] at hk'; cases hk'
  · have hlt := (List.getElem?_eq_some_iff.1 hm).1
    have h1 := List.all_eq_true.1 hds m (List.mem_range.2 hlt)
    rw [hm] at h1
    dsimp only at h1
    rw [hd, Bool.not_true, Bool.or_false, List.contains_iff_mem] at h1
    exact h m h1 p hm
theorem exec_append {P : Program} {w w' : World} {a : Act} {o : Oper} (s x : Operand) (t : TypeId) (ho : o.op = Op.call { callee := .builtin .append, args := #[s, x], argTypes := #[t, t] }) {vs vx u : Value} (hs : a.eval s = vs) (hx : a.eval x = vx) (hr : (Builtin.append_ #[t, t] o.type #[vs, vx]).run P w = .ok u w') : (execOp a.eval o).run P w = .ok (.value u) w' := by
  simp [execOp, ho, resolve, invoke, builtin, hs, hx, hr, Result.andThen]
end C
section
variable {w w1 w2 : World} {x : Nx} {n : Nat} {No : Nat → Prop} {E G : List En} {hv ov : Value} {e : En} {v : Value} {X : List (Option Value)}
theorem two_none (hl : X.length = 2) (h0 : X[0]? = some none) (h1 : X[1]? = some none) : X = [none, none] := by
  match X, hl with
  | [a, b], _ => simp at h0 h1; rw [h0, h1]
theorem two_some {y : Value} (hl : X.length = 2) (h0 : X[0]? = some (some y)) (h1 : X[1]? = some none) : X = [some y, none] := by
  match X, hl with
  | [a, b], _ => simp at h0 h1; rw [h0, h1]
/-- of a block of one number -/
def V0 (w2 : World) (x : Nx) (n : Nat) (No : Nat → Prop) (E : List En) (hv ov : Value) (e : En) (v : Value) (u : Value) : Prop := ∃ g, u = .slice (some ⟨g, 0, none⟩) 1 1 ∧ ∃ w', H19 w2 x n No E hv ov e v [some u, none] w'
theorem H19.v0 (h : H19 w2 x n No E hv ov e v X w) (hl : X.length = 2) (hx : X[0]? = some none) : V0 w2 x n No E hv ov e v (.slice (some ⟨w.heap.size, 0, none⟩) 1 1) := by
  have h1 := h.made hl hx
  have e1 := two_none hl hx (h.ord hx)
  rw [e1] at h1
  exact ⟨_, rfl, _, h1⟩
/-- the six effects of the other region -/
structure Wt (w2 : World) (x : Nx) (n : Nat) (E : List En) (hv ov : Value) (e : En) (P : List (Option Value) → Prop) : Prop where
  ex : ∃ X w, X.length = 6 ∧ P X ∧ H21 w2 x n E hv ov e X w
def V1 (w2 : World) (x : Nx) (n : Nat) (E : List En) (hv ov : Value) (e : En) (u : Value) : Prop := (∃ g, u = .slice (some ⟨g, 0, none⟩) 1 1) ∧ Wt w2 x n E hv ov e fun X => X[0]? = some (some hv) ∧ X[1]? = some (some u) ∧ X[2]? = some none
def V2 (w2 : World) (x : Nx) (n : Nat) (E : List En) (hv ov : Value) (e : En) (u : Value) : Prop := (∃ g c, u = .slice (some ⟨g, 0, none⟩) (E.length + 1) c) ∧ Wt w2 x n E hv ov e fun X => X[0]? = some (some hv) ∧ X[2]? = some (some u) ∧ X[5]? = some none
def V3 (w2 : World) (x : Nx) (n : Nat) (E : List En) (hv ov : Value) (e : En) (u : Value) : Prop := (∃ g, u = .slice (some ⟨g, 0, none⟩) 1 1) ∧ Wt w2 x n E hv ov e fun X => X[3]? = some (some u) ∧ X[4]? = some none
theorem six_cases (hl : X.length = 6) {i : Nat} (hi : i < 6) : X[i]? = some none ∨ ∃ u, X[i]? = some (some u) := by
  have h : i < X.length := by omega
  rw [List.getElem?_eq_getElem h]
  cases hx : X[i] with
  | none => exact .inl rfl
  | some u => exact .inr ⟨u, rfl⟩
theorem H21.v1 (h : H21 w2 x n E hv ov e X w) (hl : X.length = 6) (hx : X[1]? = some none) : V1 w2 x n E hv ov e (.slice (some ⟨w.heap.size, 0, none⟩) 1 1) := by
  have h2 := h.r1 hx
  have key : ∀ Y, H21 w2 x n E hv ov e Y w → Y.length = 6 → Y[0]? = some (some hv) → Y[1]? = some none → Y[2]? = some none → V1 w2 x n E hv ov e (.slice (some ⟨w.heap.size, 0, none⟩) 1 1) := fun Y hY hl q0 q1 q2 => by
    refine ⟨⟨_, rfl⟩, ⟨_, _, ?_, ⟨?_, ?_, ?_⟩, hY.made1 hl q1⟩⟩
    · rw [List.length_set]; exact hl
    · rw [List.getElem?_set_ne (by omega)]; exact q0
    · exact List.getElem?_set_self (by omega)
    · rw [List.getElem?_set_ne (by omega)]; exact q2
  rcases six_cases hl (i := 0) (by omega) with h0 | ⟨u, h0⟩
  · refine key _ (h.read hl h0).2 (by rw [List.length_set]; exact hl) (List.getElem?_set_self (by omega)) ?_ ?_
    · rw [List.getElem?_set_ne (by omega)]; exact hx
    · rw [List.getElem?_set_ne (by omega)]; exact h2
  · obtain rfl := h.rd u h0
    exact key _ h hl h0 hx h2
theorem H21.x5 (h : H21 w2 x n E hv ov e X w) (hl : X.length = 6) (hx : X[2]? = some none) : X[5]? = some none := by
  rcases six_cases hl (i := 5) (by omega) with h0 | ⟨u, h0⟩
  · exact h0
  · obtain ⟨_, u', hu', _⟩ := h.c1 u h0; rw [hx] at hu'; simp at hu'
theorem H21.v2 (h : H21 w2 x n E hv ov e X w) {w' : World} {u y0 : Value} (hl : X.length = 6) (hx0 : X[0]? = some (some y0)) (hx2 : X[2]? = some none) (hs : ∃ g c, u = .slice (some ⟨g, 0, none⟩) (E.length + 1) c) (h' : H21 w2 x n E hv ov e (X.set 2 (some u)) w') : V2 w2 x n E hv ov e u := by
  obtain rfl := h.rd _ hx0
  refine ⟨hs, ⟨_, _, ?_, ⟨?_, ?_, ?_⟩, h'⟩⟩
  · rw [List.length_set]; exact hl
  · rw [List.getElem?_set_ne (by omega)]; exact hx0
  · exact List.getElem?_set_self (by omega)
  · rw [List.getElem?_set_ne (by omega)]; exact h.x5 hl hx2
theorem H21.v3 (h : H21 w2 x n E hv ov e X w) (hl : X.length = 6) (hx : X[3]? = some none) : V3 w2 x n E hv ov e (.slice (some ⟨w.heap.size, 0, none⟩) 1 1) := by
  refine ⟨⟨_, rfl⟩, ⟨_, _, ?_, ⟨?_, ?_⟩, h.made3 hl hx⟩⟩
  · rw [List.length_set]; exact hl
  · exact List.getElem?_set_self (by omega)
  · rw [List.getElem?_set_ne (by omega)]; exact h.r3 hx
theorem H21.x0 (h : H21 w2 x n E hv ov e X w) (hl : X.length = 6) {u : Value} (hx : X[2]? = some (some u)) : X[0]? = some (some hv) := by
  rcases six_cases hl (i := 0) (by omega) with h0 | ⟨u', h0⟩
  · have := h.r0 h0; rw [hx] at this; simp at this
  · rw [h0, h.rd _ h0]
end
/-- a counter that goes on, beside another one: 0 it is read, 1 it is stored -/
structure H22 (W : World) (b m : Nat) (X : List (Option Value)) (w : World) : Prop where
  kept : Kept (fun q => q ≠ b) W w
  rd : ∀ u, X[0]? = some (some u) → u = .int .i64 m
  r : X[0]? = some none → X[1]? = some none
  c0 : X[1]? = some none → Blk w b 3 #[.int .i64 m]
  c1 : ∀ u, X[1]? = some (some u) → Blk w b 3 #[.int .i64 ((m + 1 : Nat) : Int)]
theorem H22.cls (W : World) (b m : Nat) : C.ClsK (fun q => q ≠ b) W (H22 W b m) := ⟨fun _ _ h => h.kept⟩
theorem H22.start {W : World} {b m : Nat} (h : Blk W b 3 #[.int .i64 m]) : H22 W b m [none, none] W.drew :=
  ⟨Kept.drew _ _, fun u hu => by simp at hu, fun _ => rfl, fun _ => h.keep (Kept.drew (fun _ => True) W) trivial, fun u hu => by simp at hu⟩
theorem H22.start1 {W : World} {b m : Nat} (h : Blk W b 3 #[.int .i64 m]) : H22 W b m [some (.int .i64 m), none] W.drew :=
  ⟨Kept.drew _ _, fun u hu => by simpa using hu.symm, fun hu => by simp at hu, fun _ => h.keep (Kept.drew (fun _ => True) W) trivial, fun u hu => by simp at hu⟩
theorem H22.read {W w : World} {b m : Nat} {X : List (Option Value)} (h : H22 W b m X w) (hl : X.length = 2) (hx : X[0]? = some none) : w.cell? ⟨b, 0, none⟩ = some (.int .i64 m) ∧ H22 W b m (X.set 0 (some (.int .i64 m))) w := by
  have h1 := h.r hx
  have e1 : (X.set 0 (some (Value.int .i64 m)))[1]? = some none := by rw [List.getElem?_set_ne (by omega)]; exact h1
  refine ⟨(h.c0 h1).cell (k := 0) rfl, h.kept, fun u hu => ?_, fun hu => e1, fun _ => h.c0 h1, fun u hu => by rw [e1] at hu; simp at hu⟩
  rw [List.getElem?_set_self (by omega)] at hu
  exact (Option.some.inj (Option.some.inj hu)).symm
theorem H22.put {W w : World} {b m : Nat} {X : List (Option Value)} (h : H22 W b m X w) (hl : X.length = 2) {y : Value} (hx0 : X[0]? = some (some y)) (hx : X[1]? = some none) : H22 W b m (X.set 1 (some undef)) (w.setCell ⟨b, 0, none⟩ (.int .i64 ((m + 1 : Nat) : Int))) := by
  have e0 : (X.set 1 (some undef))[0]? = some (some y) := by rw [List.getElem?_set_ne (by omega)]; exact hx0
  refine ⟨h.kept.trans (Kept.setCell w (fun h => h rfl) _), fun u hu => ?_, fun hu => by rw [e0] at hu; simp at hu, fun hu => by rw [List.getElem?_set_self (by omega)] at hu; simp at hu, fun u hu => (h.c0 hx).upd 0 _ rfl⟩
  rw [e0] at hu
  obtain rfl := Option.some.inj (Option.some.inj hu)
  exact h.rd _ hx0
/-- the keys are asked for, then sorted -/
def H24 (w0 : World) (mb : Nat) (E : List En) (X : List (Option Value)) (w : World) : Prop := X.length = 2 ∧
  (X[0]? = some none → X[1]? = some none ∧ w = w0.drew) ∧
  (∀ u, X[0]? = some (some u) → u = .func (.func 136) #[] #[.pointer (some ⟨w0.heap.size, 0, none⟩)] ∧ (X[1]? = some none → w = w0.drew.alloc (.cells #[.map (some mb)] 105))) ∧
  (∀ v, X[1]? = some (some v) → ∃ ks : List ByteArray, KsOk E ks ∧ w.ownsRow (w0.heap.size + 1) 9 1 v ks.length (ks.map .string)) ∧ Below w0.heap.size w0 w
theorem H24.cls (w0 : World) (mb : Nat) (E : List En) : C.ClsK (fun _ => True) w0 (H24 w0 mb E) := ⟨fun _ _ h => Kept.of_all h.2.2.2.2 _⟩
theorem H24.start (w0 : World) (mb : Nat) (E : List En) : H24 w0 mb E [none, none] w0.drew :=
  ⟨rfl, fun _ => ⟨rfl, rfl⟩, fun u hu => by simp at hu, fun u hu => by simp at hu, (Below.refl _ _).drew⟩
theorem H24.one (w0 : World) (mb : Nat) (E : List En) : H24 w0 mb E [some (.func (.func 136) #[] #[.pointer (some ⟨w0.heap.size, 0, none⟩)]), none] (w0.drew.alloc (.cells #[.map (some mb)] 105)) :=
  ⟨rfl, fun h => by simp at h, fun u hu => ⟨by simpa using hu.symm, fun _ => rfl⟩, fun u hu => by simp at hu, ((Below.refl _ _).drew).alloc (by simp) _⟩
theorem H24.two {w0 : World} {mb : Nat} {E : List En} {v : Value} {ks : List ByteArray} {w : World} (hk : KsOk E ks) (ho : w.ownsRow (w0.heap.size + 1) 9 1 v ks.length (ks.map .string)) (hb : Below (w0.heap.size + 1) (w0.drew.alloc (.cells #[.map (some mb)] 105)) w) : H24 w0 mb E [some (.func (.func 136) #[] #[.pointer (some ⟨w0.heap.size, 0, none⟩)]), some v] w :=
  ⟨rfl, fun h => by simp at h, fun u hu => ⟨by simpa using hu.symm, fun h => by simp at h⟩, fun u hu => by simp at hu; subst hu; exact ⟨ks, hk, ho⟩, (((Below.refl _ _).drew).alloc (by simp) _).trans (hb.mono (by omega))⟩
theorem enCl_map (E : List En) : enCl E = (E.map (·.h)).flatMap Hw.cl := by
  show E.flatMap _ = _
  rw [List.flatMap_map]
theorem PmOk.keep {w w' : World} {r : PmR} {T : Nat → Prop} (h : PmOk w r) (hK : Kept T w w') (h1 : T r.pb) (h2 : T r.g) : PmOk w' r :=
  ⟨h.pm.keep hK h1 h2, hK.cell h.src h1, by have := h.lt; have := hK.size; omega, h.ok⟩
theorem PsAt.keep {w w' : World} {a : Option Addr} {g : Nat} {rs : List PmR} {T : Nat → Prop} (h : PsAt w a g rs) (hK : Kept T w w') (hg : ∀ r, rs[0]? = some r → T g) (hr : ∀ r ∈ rs, T r.pb ∧ T r.g) : PsAt w' a g rs := by
  refine ⟨h.ha, fun k r hk => ?_⟩
  have hm := List.mem_of_getElem? hk
  have h0 : T g := by
    have hl := (List.getElem?_eq_some_iff.1 hk).1
    exact hg rs[0] (List.getElem?_eq_getElem (by omega))
  exact ⟨hK.cell (h.row k r hk).1 h0, (h.row k r hk).2.keep hK (hr r hm).1 (hr r hm).2⟩
end Go.Proofs.YteodfondjogmoaaGreatDoor
