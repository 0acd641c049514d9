/- A lookup in the groups hangs on the map's own block alone. Conditions: those of each theorem. -/
import Derived.Test.YteodfondjogmoaaGreatDoorJf
import Derived.Test.YteodfondjogmoaaGreatDoorJh
import Derived.Test.YteodfondjogmoaaGreatDoorJa
import Derived.Test.YteodfondjogmoaaGreatDoorJn
namespace Go.Proofs.YteodfondjogmoaaGreatDoor
open Go Go.RowKit Go.Lib Go.Shelf Go.Maps Go.MapKept Go.ChangeShapes
open Go.WideElems (Fit rd rg pl rd_val elemAt)
set_option linter.unusedVariables false
theorem now_str (κ : ByteArray) : ∀ (es : List MapEntry) (i : Nat), (∀ e ∈ es, ∃ b, e.key = .string b) → ∃ r, Instr.findNow .string (.string κ) es i = some r
  | [], i, _ => ⟨none, rfl⟩
  | e :: t, i, h => by
    obtain ⟨b, hb⟩ := h e (List.mem_cons_self ..)
    obtain ⟨r, hr⟩ := now_str κ t (i + 1) (fun x hx => h x (List.mem_cons_of_mem _ hx))
    unfold Instr.findNow
    rw [hb]
    unfold Instr.sameNow
    cases hq : (κ == b) with
    | true => dsimp only; rw [hq]; exact ⟨_, rfl⟩
    | false => dsimp only; rw [hq]; exact ⟨r, hr⟩
theorem find_str (κ : ByteArray) (es : List MapEntry) (h : ∀ e ∈ es, ∃ b, e.key = .string b) : ∃ r, ∀ w, (Instr.findKey 9 (.string κ) es).run Tryz.prog w = .ok r w := by
  obtain ⟨r, hr⟩ := now_str κ es 0 h
  refine ⟨r, fun w => ?_⟩
  unfold Instr.findKey
  simp only [Sem.run_bind, run_underlying Tryz.underlying9, Result.andThen, hr]
  rfl
theorem look_all {mb : Nat} {es : Array MapEntry} {clock : Nat} (hk : ∀ e ∈ es.toList, ∃ b, e.key = .string b) (κ : ByteArray) (hκ : κ.size ≤ maxLen) : ∃ v, ∀ w : World, w.heap[mb]? = some (.map es clock) → (Instr.lookup 105 (.map (some mb)) (.string κ) false).run Tryz.prog w = .ok v w := by
  obtain ⟨r, hr⟩ := find_str κ es.toList hk
  have K : Keyed Tryz.prog 9 := string_keyed Tryz.underlying9
  have hkey : keyOf Tryz.prog 9 (.string κ) = some (.string κ.data.toList) := by simp [keyOf, Tryz.underlying9, mapKey, hκ]
  have hz : ∀ w, (zeroValue 49).run Tryz.prog w = .ok (.slice none 0 0) w := fun w => by kernel_rfl
  cases r with
  | none => exact ⟨.slice none 0 0, fun w hb => by simp [Instr.lookup, run_underlying Tryz.underlying105, MapKept.run_getObj_map hb, K.check w _ hkey, hr w, hz w, Result.andThen]⟩
  | some p =>
    obtain ⟨i, v⟩ := p
    exact ⟨v, fun w hb => by simp [Instr.lookup, run_underlying Tryz.underlying105, MapKept.run_getObj_map hb, K.check w _ hkey, hr w, Result.andThen]⟩
/-- the same map, the same answer -/
theorem GrAt.look_same {w w' : World} {mb base : Nat} {No : Nat → Prop} {E : List En} (h : GrAt w mb base No E) (κ : ByteArray) (hκ : κ.size ≤ maxLen) (hb : w'.heap[mb]? = w.heap[mb]?) {v : Value}
    (hrun : (Instr.lookup 105 (.map (some mb)) (.string κ) false).run Tryz.prog w = .ok v w) : (Instr.lookup 105 (.map (some mb)) (.string κ) false).run Tryz.prog w' = .ok v w' := by
  obtain ⟨D, ⟨es, clock, hbk, F, _⟩, _⟩ := h
  obtain ⟨u, hu⟩ := look_all (mb := mb) (es := es) (clock := clock) (fun e he => by
    obtain ⟨y, hy⟩ := F.reads e he
    obtain ⟨x, hx, _, _⟩ := Maps.keyOf_str Tryz.underlying9 (Go.WideElems.rd_key hy)
    exact ⟨_, hx⟩) κ hκ
  have h1 := hu w hbk
  rw [hrun] at h1
  have h2 := hu w' (hb.trans hbk)
  have e : v = u := by simpa using h1
  rw [e]; exact h2
end Go.Proofs.YteodfondjogmoaaGreatDoor
/- The law of Gq where the effects turn old blocks too: the class keeps the blocks of T. Conditions: those of each theorem. -/
namespace Go.Proofs.YteodfondjogmoaaGreatDoor.C
open Go Go.RowKit
set_option linter.unusedVariables false
structure ExtK (T : Nat → Prop) (w0 : World) where
  w : World
  h : Kept T w0 w
theorem ExtK.cell {T : Nat → Prop} {w0 : World} (x : ExtK T w0) (a : Addr) (hT : T a.block) (h : (w0.cell? a).isSome = true) : x.w.cell? a = w0.cell? a := by
  obtain ⟨v, hv⟩ := Option.isSome_iff_exists.1 h
  rw [x.h.cell hv hT, hv]
def opQK (P : Program) (T : Nat → Prop) (w0 : World) (o : Oper) (a : Act) (K : Act → Prop) : Prop :=
  ∃ v, (∀ w, (∃ z : ExtK T w0, w = z.w) → upQE w v ((execOp a.eval o).run P w)) ∧ K (a.put o.dst v)
/-- the effects' class: the blocks of T stay -/
structure ClsK (T : Nat → Prop) (w0 : World) (H : List (Option Value) → World → Prop) : Prop where
  ext : ∀ x w, H x w → Kept T w0 w
section
variable {P : Program} {ops : Array Oper} {es : List (Nat × Option Tmp)} {H : List (Option Value) → World → Prop} {cv : FuncId → Array Value → Value → Prop} {n : Nat} {T : Nat → Prop}
theorem gk_step {w0 : World} (hC : ClsK T w0 H) {Q : Act → Prop} {k : Nat} {o : Oper} {rest : List Oper} {a : Act} (hk : kOf es k = none) (hwit : ∃ x w, fitE ops es k x a ∧ H x w)
    (h : ∀ K : Act → Prop, (∀ a, Box (wpGE P ops es H cv Q (k + 1) rest a) → K a) → Box (if Region.wanted o (yielded ops a.tmps) then opQK P T w0 o a K else K (a.put o.dst undef))) : Box (wpGE P ops es H cv Q k (o :: rest) a) := by
  have h1 := (h (wpGE P ops es H cv Q (k + 1) rest) (fun a hb => hb.out)).out
  have nx : ∀ x u, nxE es k x u = x := fun x u => by unfold nxE; rw [hk]
  refine ⟨?_⟩
  by_cases hw : Region.wanted o (yielded ops a.tmps) = true
  · rw [if_pos hw] at h1
    obtain ⟨v, h2, h3⟩ := h1
    have h4 : ∀ x w, H x w → upQE w v ((execOp a.eval o).run P w) := fun x w hx => h2 w ⟨⟨w, hC.ext x w hx⟩, rfl⟩
    refine ⟨⟨fun _ => ⟨hwit, fun x w _ hx => ?_⟩, fun e => by rw [hw] at e; cases e⟩, fun u hu => ?_⟩
    · have h5 := h4 x w hx
      generalize (execOp a.eval o).run P w = r at *
      cases r with
      | halt e w' => exact h5.elim
      | ok y w' =>
        cases y with
        | value u => obtain ⟨rfl, rfl⟩ := h5; show H (nxE es k x u) _; rw [nx]; exact hx
        | skip => obtain ⟨rfl, rfl⟩ := h5; show H (nxE es k x undef) _; rw [nx]; exact hx
        | _ => exact h5.elim
    · unfold canE at hu
      rw [if_pos hw] at hu
      obtain ⟨x, w, _, hx, ho⟩ := hu
      have h5 := h4 x w hx
      have : u = v := by
        generalize (execOp a.eval o).run P w = r at *
        cases r with
        | halt e w' => exact h5.elim
        | ok y w' =>
          cases y with
          | value u' => obtain ⟨_, rfl⟩ := h5; exact ho
          | skip => obtain ⟨_, rfl⟩ := h5; exact ho
          | _ => exact h5.elim
      subst this
      exact h3
  · rw [if_neg hw] at h1
    refine ⟨⟨fun e => absurd e hw, fun _ => hk⟩, fun u hu => ?_⟩
    unfold canE at hu
    rw [if_neg hw] at hu
    subst hu
    exact h1
end
attribute [go_sem] opQK
end Go.Proofs.YteodfondjogmoaaGreatDoor.C
/- A concordance while it is made. Conditions: those of each theorem. -/
namespace Go.Proofs.YteodfondjogmoaaGreatDoor
open Go Go.RowKit Go.Lib Go.Shelf Go.Maps
set_option linter.unusedVariables false
set_option linter.unusedSimpArgs false
structure Nx where
  tb : Nat
  cb : Nat
  mb : Nat
  base : Nat
  pa : Option Addr
  pc : Nat
abbrev enCl (E : List En) : List Value := E.flatMap fun e => e.h.cl
abbrev enKs (E : List En) : List Value := E.map fun e => .string e.k
structure NwAt (W : World) (x : Nx) (n : Nat) (No : Nat → Prop) (E G : List En) (hv ov : Value) : Prop where
  tbk : Blk W x.tb 27 #[.pointer (some ⟨x.cb, 0, none⟩)]
  cbk : Blk W x.cb 107 #[.slice x.pa n x.pc, hv, ov, .slice none 0 0, .map (some x.mb)]
  hr : W.ownsRow x.base 39 6 hv E.length (enCl E)
  orr : W.ownsRow x.base 9 1 ov E.length (enKs E)
  gr : GrAt W x.mb x.base No G
  nt : ¬ No x.tb
  nc : ¬ No x.cb
  nm : ¬ No x.mb
  nh : ∀ g, hv.ownBlock = some g → ¬ No g
  nO : ∀ g, ov.ownBlock = some g → ¬ No g
  lo : ∀ g, No g → g < W.heap.size
  len : E.length ≤ 32768
  bs : x.base ≤ W.heap.size
section
variable {W W' w w1 w2 : World} {x : Nx} {n : Nat} {No No' T : Nat → Prop} {E G : List En} {hv ov : Value}
theorem GrAt.obj {mb base : Nat} (h : GrAt W mb base No G) : ∃ es clock, W.heap[mb]? = some (.map es clock) := by
  obtain ⟨D, ⟨es, clock, hb, _⟩, _⟩ := h
  exact ⟨es, clock, hb⟩
theorem NwAt.hap (h : NwAt W x n No E G hv ov) {g : Nat} (hg : hv.ownBlock = some g) : g ≠ x.tb ∧ g ≠ x.cb ∧ g ≠ x.mb ∧ ov.ownBlock ≠ some g ∧ g < W.heap.size ∧ ∃ c, W.heap[g]? = some (.cells c 39 (0, 0)) := by
  obtain ⟨c, hc⟩ := P.own_type h.hr g hg
  refine ⟨fun e => ?_, fun e => ?_, fun e => ?_, fun e => ?_, (h.hr.lt g hg).2, c, hc⟩
  · subst e; have := h.tbk; unfold Blk at this; rw [hc] at this; simp at this
  · subst e; have := h.cbk; unfold Blk at this; rw [hc] at this; simp at this
  · subst e; obtain ⟨es, clock, hb⟩ := h.gr.obj; rw [hc] at hb; simp at hb
  · obtain ⟨c', hc'⟩ := P.own_type h.orr g e; rw [hc] at hc'; simp at hc'
theorem NwAt.oap (h : NwAt W x n No E G hv ov) {g : Nat} (hg : ov.ownBlock = some g) : g ≠ x.tb ∧ g ≠ x.cb ∧ g ≠ x.mb ∧ hv.ownBlock ≠ some g ∧ g < W.heap.size ∧ ∃ c, W.heap[g]? = some (.cells c 9 (0, 0)) := by
  obtain ⟨c, hc⟩ := P.own_type h.orr g hg
  refine ⟨fun e => ?_, fun e => ?_, fun e => ?_, fun e => ?_, (h.orr.lt g hg).2, c, hc⟩
  · subst e; have := h.tbk; unfold Blk at this; rw [hc] at this; simp at this
  · subst e; have := h.cbk; unfold Blk at this; rw [hc] at this; simp at this
  · subst e; obtain ⟨es, clock, hb⟩ := h.gr.obj; rw [hc] at hb; simp at hb
  · obtain ⟨c', hc'⟩ := P.own_type h.hr g e; rw [hc] at hc'; simp at hc'
theorem NwAt.blk (h : NwAt W x n No E G hv ov) : x.tb ≠ x.cb ∧ x.cb ≠ x.mb ∧ x.tb ≠ x.mb := by
  refine ⟨fun e => ?_, fun e => ?_, fun e => ?_⟩
  · have h1 := h.tbk; have h2 := h.cbk; unfold Blk at h1 h2; rw [e, h2] at h1; simp at h1
  · obtain ⟨es, clock, hb⟩ := h.gr.obj; have h2 := h.cbk; unfold Blk at h2; rw [e, hb] at h2; simp at h2
  · obtain ⟨es, clock, hb⟩ := h.gr.obj; have h2 := h.tbk; unfold Blk at h2; rw [e, hb] at h2; simp at h2
/-- over whatever turns blocks of No alone -/
theorem NwAt.keep (h : NwAt W x n No E G hv ov) (hK : Kept T W W') (hT : ∀ g, ¬ No g → T g) (hN : ∀ g, No' g → No g ∨ (W.heap.size ≤ g ∧ g < W'.heap.size)) : NwAt W' x n No' E G hv ov := by
  have htl := h.tbk.lt
  have hcl := h.cbk.lt
  have hml := h.gr.lt.1
  have old : ∀ g, g < W.heap.size → ¬ No g → ¬ No' g := fun g hg hn hn' => (hN g hn').elim hn (fun e => by omega)
  refine ⟨h.tbk.keep hK (hT _ h.nt), h.cbk.keep hK (hT _ h.nc), row_keep h.hr hK (fun g hg => hT g (h.nh g hg)), row_keep h.orr hK (fun g hg => hT g (h.nO g hg)), ?_, old _ htl h.nt, old _ hcl h.nc, old _ hml h.nm,
    fun g hg => old g (h.hr.lt g hg).2 (h.nh g hg), fun g hg => old g (h.orr.lt g hg).2 (h.nO g hg), fun g hg => ?_, h.len, Nat.le_trans h.bs hK.size⟩
  · have h1 : GrAt W x.mb x.base (fun g => No g ∨ W.heap.size ≤ g) G := h.gr.reno (fun g hg => hg)
    have h2 := h1.keep hK (hT _ h.nm) (fun g hg => .inl (.inl (Classical.byContradiction fun hn => hg (hT g hn))))
    exact h2.reno (fun g hg => .inl ((hN g hg).imp id (fun e => e.1)))
  · rcases hN g hg with e | e
    · have := h.lo g e; have := hK.size; omega
    · exact e.2
/-- a word's number joins its group -/
theorem NwAt.group (h : NwAt w x n No E E hv ov) (e : En) (hκ : e.k.size ≤ maxLen) {v : Value} (hrun : (Instr.lookup 105 (.map (some x.mb)) (.string e.k) false).run Tryz.prog w = .ok v w) :
    GrV w x.base (grp E e.k) v ∧ (∀ g, v.ownBlock = some g → ¬ No g ∧ g ≠ x.tb ∧ g ≠ x.cb ∧ g ≠ x.mb ∧ hv.ownBlock ≠ some g ∧ ov.ownBlock ≠ some g ∧ g < w.heap.size) ∧
    ∀ w1 v', w.grownBy w1 v.ownBlock → GrV w1 x.base (grp E e.k ++ [E.length]) v' → (v'.ownBlock = v.ownBlock ∨ v'.ownBlock = some w.heap.size) →
      ∃ w3, (Instr.mapUpdate 105 (.map (some x.mb)) (.string e.k) v').run Tryz.prog w1 = .ok () w3 ∧ NwAt w3 x n No E (E ++ [e]) hv ov ∧ Kept (fun g => v.ownBlock ≠ some g ∧ g ≠ x.mb) w w3 := by
  obtain ⟨v0, h1, h2, h3, h4⟩ := h.gr.look (by have := h.len; unfold maxLen; omega) e.k hκ
  obtain rfl : v0 = v := by rw [hrun] at h1; simpa using h1.symm
  have hap : ∀ g, v0.ownBlock = some g → ¬ No g ∧ g ≠ x.tb ∧ g ≠ x.cb ∧ g ≠ x.mb ∧ hv.ownBlock ≠ some g ∧ ov.ownBlock ≠ some g ∧ g < w.heap.size := by
    intro g hg
    obtain ⟨c, hc⟩ := P.own_type h2.1 g hg
    refine ⟨h3 g hg, fun e => ?_, fun e => ?_, fun e => ?_, fun e => ?_, fun e => ?_, (h2.1.lt g hg).2⟩
    · subst e; have := h.tbk; unfold Blk at this; rw [hc] at this; simp at this
    · subst e; have := h.cbk; unfold Blk at this; rw [hc] at this; simp at this
    · subst e; obtain ⟨es, clock, hb⟩ := h.gr.obj; rw [hc] at hb; simp at hb
    · obtain ⟨_, _, _, _, _, c', hc'⟩ := h.hap e; rw [hc] at hc'; simp at hc'
    · obtain ⟨_, _, _, _, _, c', hc'⟩ := h.oap e; rw [hc] at hc'; simp at hc'
  refine ⟨h2, hap, ?_⟩
  intro w1 v' hgr hv' hloc
  obtain ⟨w3, r1, r2, r3⟩ := h4 w1 v' e rfl hgr hv' (hloc.imp id fun h => ⟨_, h, Nat.le_refl _⟩) (fun g hg hn => by
    rcases hloc with h5 | h5
    · rw [h5] at hg; exact h3 g hg hn
    · rw [h5] at hg; have := Option.some.inj hg; have := h.lo g hn; omega)
  have hK : Kept (fun g => v0.ownBlock ≠ some g ∧ g ≠ x.mb) w w3 := (Kept.grown hgr (fun r hr h => h.1 hr)).trans (Kept.grown r2 (fun r hr h => h.2 (Option.some.inj hr).symm))
  have hb := h.blk
  refine ⟨w3, r1, ⟨h.tbk.keep hK ⟨fun e => (hap _ e).2.1 rfl, hb.2.2⟩, h.cbk.keep hK ⟨fun e => (hap _ e).2.2.1 rfl, hb.2.1⟩, row_keep h.hr hK (fun g hg => ⟨fun e => (hap g e).2.2.2.2.1 hg, (h.hap hg).2.2.1⟩), row_keep h.orr hK (fun g hg => ⟨fun e => (hap g e).2.2.2.2.2.1 hg, (h.oap hg).2.2.1⟩), r3, h.nt, h.nc, h.nm, h.nh, h.nO, fun g hg => Nat.lt_of_lt_of_le (h.lo g hg) hK.size, h.len, Nat.le_trans h.bs hK.size⟩, hK⟩
/-! 'c.at[key] = append(c.at[key], len(c.hits))', in whatever order it is reckoned: a new block of one, the row that has grown -/
structure H19 (w2 : World) (x : Nx) (n : Nat) (No : Nat → Prop) (E : List En) (hv ov : Value) (e : En) (v : Value) (X : List (Option Value)) (w : World) : Prop where
  kept : Kept (fun g => v.ownBlock ≠ some g) w2 w
  bs : ∀ u, X[0]? = some (some u) → ∃ g, u = .slice (some ⟨g, 0, none⟩) 1 1 ∧ w2.heap.size ≤ g ∧ Blk w g 3 #[.int .i64 E.length]
  ord : X[0]? = some none → X[1]? = some none
  pre : X[1]? = some none → NwAt w x n No E E hv ov
  post : ∀ u, X[1]? = some (some u) → ∃ w3, (Instr.mapUpdate 105 (.map (some x.mb)) (.string e.k) u).run Tryz.prog w = .ok () w3 ∧ NwAt w3 x n No E (E ++ [e]) hv ov ∧ Kept (fun g => v.ownBlock ≠ some g ∧ g ≠ x.mb) w2 w3
theorem H19.cls (w2 : World) (x : Nx) (n : Nat) (No : Nat → Prop) (E : List En) (hv ov : Value) (e : En) (v : Value) : C.ClsK (fun g => v.ownBlock ≠ some g) w2 (H19 w2 x n No E hv ov e v) := ⟨fun _ _ h => h.kept⟩
theorem H19.start (h : NwAt w2 x n No E E hv ov) (e : En) (v : Value) : H19 w2 x n No E hv ov e v [none, none] w2.drew :=
  ⟨Kept.drew _ _, fun u hu => by simp at hu, fun _ => rfl, fun _ => h.keep (Kept.drew (fun _ => True) _) (fun _ _ => trivial) (fun g hg => .inl hg), fun u hu => by simp at hu⟩
theorem H19.made {e : En} {v : Value} {X : List (Option Value)} (hl : X.length = 2) (hx : X[0]? = some none) (h : H19 w2 x n No E hv ov e v X w) : H19 w2 x n No E hv ov e v (X.set 0 (some (.slice (some ⟨w.heap.size, 0, none⟩) 1 1))) (w.alloc (.cells #[.int .i64 E.length] 3)) := by
  have h1 := h.ord hx
  have e1 : (X.set 0 (some (Value.slice (some ⟨w.heap.size, 0, none⟩) 1 1)))[1]? = some none := by rw [List.getElem?_set_ne (by omega)]; exact h1
  refine ⟨h.kept.trans (Kept.alloc _ _ _), fun u hu => ?_, fun _ => e1, fun _ => (h.pre h1).keep (Kept.alloc (fun _ => True) _ _) (fun _ _ => trivial) (fun g hg => .inl hg), fun u hu => by rw [e1] at hu; simp at hu⟩
  rw [List.getElem?_set_self (by omega)] at hu
  obtain rfl := Option.some.inj (Option.some.inj hu)
  exact ⟨_, rfl, h.kept.size, Blk.new _ _ _⟩
theorem info3 : (Tryz.prog.info? 3).map (fun i => (i.zero, i.size, i.bytes)) = some (some (.int .i64 0), 1, 8) := by kernel_rfl
theorem grv_push {b : Nat} {l : List Nat} {v' : Value} {k : Nat} (h1 : w1.ownsRow b 3 1 v' (l.length + 1) ((l.map Int.ofNat).map (Value.int .i64) ++ [.int .i64 k])) (hw : ∀ z ∈ l.map Int.ofNat, (Lit.int .i64 z).wf = true) (hk : k < 1000000) : GrV w1 b (l ++ [k]) v' := by
  unfold GrV World.ownsInts
  refine ⟨?_, fun z hz => ?_⟩
  · rw [List.map_append, List.map_append, List.length_append, List.length_map]
    exact h1
  · rw [List.map_append, List.mem_append] at hz
    rcases hz with hz | hz
    · exact hw z hz
    · have e : z = (k : Int) := by simpa using hz
      subst e
      unfold Lit.wf
      dsimp only
      have a1 : IntKind.i64.min = -9223372036854775808 := by decide +kernel
      have a2 : IntKind.i64.max = 9223372036854775807 := by decide +kernel
      rw [a1, a2, Bool.and_eq_true, decide_eq_true_eq, decide_eq_true_eq]
      omega
/-- the append -/
theorem H19.grow {e : En} (hκ : e.k.size ≤ maxLen) {v : Value} (hrun : (Instr.lookup 105 (.map (some x.mb)) (.string e.k) false).run Tryz.prog w2 = .ok v w2) (h2 : NwAt w2 x n No E E hv ov) {X : List (Option Value)} (hl : X.length = 2) {g : Nat} (hx0 : X[0]? = some (some (.slice (some ⟨g, 0, none⟩) 1 1))) (hx1 : X[1]? = some none) (h : H19 w2 x n No E hv ov e v X w) (ty : TypeId) :
    ∃ u w', (Builtin.append_ #[49, 49] ty #[v, .slice (some ⟨g, 0, none⟩) 1 1]).run Tryz.prog w = .ok u w' ∧ H19 w2 x n No E hv ov e v (X.set 1 (some u)) w' := by
  obtain ⟨i3, hi, hz0, hz1, hz2⟩ := info_parts info3
  have hN := h.pre hx1
  have hmv : v.ownBlock ≠ some x.mb := fun e0 => ((h2.group e hκ hrun).2.1 _ e0).2.2.2.1 rfl
  have hr2 := h2.gr.look_same e.k hκ (h.kept.block x.mb h2.gr.lt.1 hmv) hrun
  obtain ⟨g1, g2, g3⟩ := hN.group e hκ hr2
  obtain ⟨g', e1, e2, e3⟩ := h.bs _ hx0
  obtain rfl : g = g' := by have := (Value.slice.inj e1).1; simpa using this
  have hgl : (grp E e.k).length ≤ 32768 := by rw [grp_len]; exact Nat.le_trans List.countP_le_length hN.len
  have g11 := g1.1
  rw [List.length_map] at g11
  obtain ⟨u, w', r1, r2, r3, _, r5⟩ := run_append_own_at (P := Tryz.prog) w x.base 49 ty 3 i3 _ 1 8 Tryz.underlying49 hi hz0 hz1 hz2 rfl (by decide) v (grp E e.k).length _ g11 ⟨g, 0, none⟩ 1 1 [.int .i64 E.length] rfl (by
    intro j u hj
    match j, hj with
    | 0, hj => simp at hj; subst hj; simpa [Addr.add] using e3.cell (k := 0) rfl) (by simp [Value.oneCell']) (by unfold maxLen; omega) (by omega) hN.bs
  refine ⟨u, w', r1, ?_⟩
  have hG := grv_push (k := E.length) r2 g1.2 (by have := hN.len; omega)
  obtain ⟨w3, s1, s2, s3⟩ := g3 w' u r3 hG r5
  have hK : Kept (fun g => v.ownBlock ≠ some g) w w' := Kept.grown r3 (fun r hr h => h hr)
  refine ⟨h.kept.trans hK, fun u' hu' => ?_, fun e0 => ?_, fun e0 => ?_, fun u' hu' => ?_⟩
  · rw [List.getElem?_set_ne (by omega)] at hu'
    obtain ⟨g0, a, b, c⟩ := h.bs u' hu'
    refine ⟨g0, a, b, c.keep hK (fun e4 => ?_)⟩
    have h5 := (g2 g0 e4).1
    have h6 := (h2.group e hκ hrun).2.1 g0 e4
    omega
  · rw [List.getElem?_set_ne (by omega), hx0] at e0; simp at e0
  · rw [List.getElem?_set_self (by omega)] at e0; simp at e0
  · rw [List.getElem?_set_self (by omega)] at hu'
    obtain rfl := Option.some.inj (Option.some.inj hu')
    exact ⟨w3, s1, s2, (h.kept.mono (fun g _ h => h.1)).trans s3⟩
end
end Go.Proofs.YteodfondjogmoaaGreatDoor
/- 'c.hits, c.of = append(c.hits, ..), append(c.of, key)', in whatever order it is reckoned. Conditions: those of each theorem. -/
namespace Go.Proofs.YteodfondjogmoaaGreatDoor
open Go Go.RowKit Go.Lib Go.Shelf Go.Maps
set_option linter.unusedVariables false
set_option linter.unusedSimpArgs false
section
variable {w w1 w2 : World} {x : Nx} {n : Nat} {No : Nat → Prop} {E G : List En} {hv ov : Value} {e : En} {X : List (Option Value)}
/-- the effects: 0 the hits are read, 1 a block of one hit, 2 the hits have grown, 3 a block of one key, 4 the keys have grown, 5 the hits are stored -/
structure H21 (w2 : World) (x : Nx) (n : Nat) (E : List En) (hv ov : Value) (e : En) (X : List (Option Value)) (w : World) : Prop where
  kept : Kept (fun g => hv.ownBlock ≠ some g ∧ ov.ownBlock ≠ some g ∧ g ≠ x.cb) w2 w
  rd : ∀ u, X[0]? = some (some u) → u = hv
  b1 : ∀ u, X[1]? = some (some u) → ∃ g, u = .slice (some ⟨g, 0, none⟩) 1 1 ∧ w2.heap.size ≤ g ∧ Blk w g 39 e.h.cells
  b3 : ∀ u, X[3]? = some (some u) → ∃ g, u = .slice (some ⟨g, 0, none⟩) 1 1 ∧ w2.heap.size ≤ g ∧ Blk w g 9 #[.string e.k]
  h0 : X[2]? = some none → w.ownsRow x.base 39 6 hv E.length (enCl E)
  h1 : ∀ u, X[2]? = some (some u) → w.ownsRow x.base 39 6 u (E.length + 1) (enCl E ++ e.h.cl) ∧ (u.ownBlock = hv.ownBlock ∨ ∃ g, u.ownBlock = some g ∧ w2.heap.size ≤ g)
  o0 : X[4]? = some none → w.ownsRow x.base 9 1 ov E.length (enKs E)
  o1 : ∀ u, X[4]? = some (some u) → w.ownsRow x.base 9 1 u (E.length + 1) (enKs E ++ [.string e.k]) ∧ (u.ownBlock = ov.ownBlock ∨ ∃ g, u.ownBlock = some g ∧ w2.heap.size ≤ g)
  c0 : X[5]? = some none → Blk w x.cb 107 #[.slice x.pa n x.pc, hv, ov, .slice none 0 0, .map (some x.mb)]
  c1 : ∀ u, X[5]? = some (some u) → X[0]? = some (some hv) ∧ ∃ u', X[2]? = some (some u') ∧ Blk w x.cb 107 #[.slice x.pa n x.pc, u', ov, .slice none 0 0, .map (some x.mb)]
  r1 : X[1]? = some none → X[2]? = some none
  r3 : X[3]? = some none → X[4]? = some none
  r0 : X[0]? = some none → X[2]? = some none
theorem H21.cls (w2 : World) (x : Nx) (n : Nat) (E : List En) (hv ov : Value) (e : En) : C.ClsK (fun g => hv.ownBlock ≠ some g ∧ ov.ownBlock ≠ some g ∧ g ≠ x.cb) w2 (H21 w2 x n E hv ov e) := ⟨fun _ _ h => h.kept⟩
theorem H21.start (h : NwAt w2 x n No E G hv ov) (e : En) : H21 w2 x n E hv ov e [none, none, none, none, none, none] w2.drew := by
  have hd := h.keep (No' := No) (Kept.drew (fun _ => True) w2) (fun _ _ => trivial) (fun g hg => .inl hg)
  exact ⟨Kept.drew _ _, fun u hu => by simp at hu, fun u hu => by simp at hu, fun u hu => by simp at hu, fun _ => hd.hr, fun u hu => by simp at hu, fun _ => hd.orr, fun u hu => by simp at hu, fun _ => hd.cbk, fun u hu => by simp at hu, fun _ => rfl, fun _ => rfl, fun _ => rfl⟩
/-- the keys' field -/
theorem H21.of2 (h : H21 w2 x n E hv ov e X w) (hl : X.length = 6) : w.cell? ⟨x.cb, 2, none⟩ = some ov := by
  cases hx : X[5]? with
  | none => rw [List.getElem?_eq_none_iff] at hx; omega
  | some y => cases y with
    | none => exact (h.c0 hx).cell (k := 2) rfl
    | some u => obtain ⟨_, u', _, hb⟩ := h.c1 u hx; exact hb.cell (k := 2) rfl
/-- the hits are read -/
theorem H21.read (h : H21 w2 x n E hv ov e X w) (hl : X.length = 6) (hx : X[0]? = some none) : w.cell? ⟨x.cb, 1, none⟩ = some hv ∧ H21 w2 x n E hv ov e (X.set 0 (some hv)) w := by
  have h5 : X[5]? = some none := by
    cases h5 : X[5]? with
    | none => rw [List.getElem?_eq_none_iff] at h5; omega
    | some y => cases y with
      | none => rfl
      | some u => have := (h.c1 u h5).1; rw [hx] at this; simp at this
  have ne : ∀ i, i ≠ 0 → (X.set 0 (some hv))[i]? = X[i]? := fun i hi => List.getElem?_set_ne (by omega)
  refine ⟨(h.c0 h5).cell (k := 1) rfl, h.kept, fun u hu => ?_, fun u hu => h.b1 u (ne 1 (by omega) ▸ hu), fun u hu => h.b3 u (ne 3 (by omega) ▸ hu), fun hu => h.h0 (ne 2 (by omega) ▸ hu), fun u hu => h.h1 u (ne 2 (by omega) ▸ hu), fun hu => h.o0 (ne 4 (by omega) ▸ hu), fun u hu => h.o1 u (ne 4 (by omega) ▸ hu), fun hu => h.c0 h5, fun u hu => by rw [ne 5 (by omega), h5] at hu; simp at hu, fun hu => by rw [ne 2 (by omega)]; exact h.r1 (ne 1 (by omega) ▸ hu), fun hu => by rw [ne 4 (by omega)]; exact h.r3 (ne 3 (by omega) ▸ hu), fun hu => by rw [List.getElem?_set_self (by omega)] at hu; simp at hu⟩
  rw [List.getElem?_set_self (by omega)] at hu
  exact (Option.some.inj (Option.some.inj hu)).symm
/-- what new blocks leave -/
theorem H21.up (h : H21 w2 x n E hv ov e X w) (hb : Below w.heap.size w w1) : H21 w2 x n E hv ov e X w1 := by
  have hK : Kept (fun _ => True) w w1 := Kept.of_all hb _
  refine ⟨h.kept.trans (hK.mono fun _ _ _ => trivial), h.rd, fun u hu => ?_, fun u hu => ?_, fun hu => row_keep (h.h0 hu) hK (fun _ _ => trivial), fun u hu => ⟨row_keep (h.h1 u hu).1 hK (fun _ _ => trivial), (h.h1 u hu).2⟩, fun hu => row_keep (h.o0 hu) hK (fun _ _ => trivial), fun u hu => ⟨row_keep (h.o1 u hu).1 hK (fun _ _ => trivial), (h.o1 u hu).2⟩, fun hu => (h.c0 hu).low hb, fun u hu => ?_, h.r1, h.r3, h.r0⟩
  · obtain ⟨g, a, b, c⟩ := h.b1 u hu; exact ⟨g, a, b, c.low hb⟩
  · obtain ⟨g, a, b, c⟩ := h.b3 u hu; exact ⟨g, a, b, c.low hb⟩
  · obtain ⟨a, u', b, c⟩ := h.c1 u hu; exact ⟨a, u', b, c.low hb⟩
theorem H21.made1 (h : H21 w2 x n E hv ov e X w) (hl : X.length = 6) (hx : X[1]? = some none) : H21 w2 x n E hv ov e (X.set 1 (some (.slice (some ⟨w.heap.size, 0, none⟩) 1 1))) (w.alloc (.cells e.h.cells 39)) := by
  have hu := h.up ((Below.refl _ w).alloc (Nat.le_refl _) (.cells e.h.cells 39))
  have ne : ∀ i, i ≠ 1 → (X.set 1 (some (Value.slice (some ⟨w.heap.size, 0, none⟩) 1 1)))[i]? = X[i]? := fun i hi => List.getElem?_set_ne (by omega)
  refine ⟨hu.kept, fun u hu' => hu.rd u (ne 0 (by omega) ▸ hu'), fun u hu' => ?_, fun u hu' => hu.b3 u (ne 3 (by omega) ▸ hu'), fun hu' => hu.h0 (ne 2 (by omega) ▸ hu'), fun u hu' => hu.h1 u (ne 2 (by omega) ▸ hu'), fun hu' => hu.o0 (ne 4 (by omega) ▸ hu'), fun u hu' => hu.o1 u (ne 4 (by omega) ▸ hu'), fun hu' => hu.c0 (ne 5 (by omega) ▸ hu'), fun u hu' => by
    obtain ⟨a, u', b, c⟩ := hu.c1 u (ne 5 (by omega) ▸ hu')
    exact ⟨by rw [ne 0 (by omega)]; exact a, u', by rw [ne 2 (by omega)]; exact b, c⟩, fun _ => by rw [ne 2 (by omega)]; exact h.r1 hx, fun hu' => by rw [ne 4 (by omega)]; exact h.r3 (ne 3 (by omega) ▸ hu'), fun hu' => by rw [ne 2 (by omega)]; exact h.r0 (ne 0 (by omega) ▸ hu')⟩
  rw [List.getElem?_set_self (by omega)] at hu'
  obtain rfl := Option.some.inj (Option.some.inj hu')
  exact ⟨_, rfl, h.kept.size, Blk.new _ _ _⟩
theorem H21.made3 (h : H21 w2 x n E hv ov e X w) (hl : X.length = 6) (hx : X[3]? = some none) : H21 w2 x n E hv ov e (X.set 3 (some (.slice (some ⟨w.heap.size, 0, none⟩) 1 1))) (w.alloc (.cells #[.string e.k] 9)) := by
  have hu := h.up ((Below.refl _ w).alloc (Nat.le_refl _) (.cells #[.string e.k] 9))
  have ne : ∀ i, i ≠ 3 → (X.set 3 (some (Value.slice (some ⟨w.heap.size, 0, none⟩) 1 1)))[i]? = X[i]? := fun i hi => List.getElem?_set_ne (by omega)
  refine ⟨hu.kept, fun u hu' => hu.rd u (ne 0 (by omega) ▸ hu'), fun u hu' => hu.b1 u (ne 1 (by omega) ▸ hu'), fun u hu' => ?_, fun hu' => hu.h0 (ne 2 (by omega) ▸ hu'), fun u hu' => hu.h1 u (ne 2 (by omega) ▸ hu'), fun hu' => hu.o0 (ne 4 (by omega) ▸ hu'), fun u hu' => hu.o1 u (ne 4 (by omega) ▸ hu'), fun hu' => hu.c0 (ne 5 (by omega) ▸ hu'), fun u hu' => by
    obtain ⟨a, u', b, c⟩ := hu.c1 u (ne 5 (by omega) ▸ hu')
    exact ⟨by rw [ne 0 (by omega)]; exact a, u', by rw [ne 2 (by omega)]; exact b, c⟩, fun hu' => by rw [ne 2 (by omega)]; exact h.r1 (ne 1 (by omega) ▸ hu'), fun _ => by rw [ne 4 (by omega)]; exact h.r3 hx, fun hu' => by rw [ne 2 (by omega)]; exact h.r0 (ne 0 (by omega) ▸ hu')⟩
  rw [List.getElem?_set_self (by omega)] at hu'
  obtain rfl := Option.some.inj (Option.some.inj hu')
  exact ⟨_, rfl, h.kept.size, Blk.new _ _ _⟩
/-- over a row that has grown: what is no row of that type stays -/
theorem cb_ne {a : Value} {t b m k : Nat} {xs : List Value} {c : Array Value} (h : w.ownsRow b t m a k xs) (hb : Blk w x.cb 107 c) (ht : t ≠ 107) : a.ownBlock ≠ some x.cb := fun e0 => by
  obtain ⟨c', hc⟩ := P.own_type h _ e0
  unfold Blk at hb
  rw [hc] at hb
  simp at hb
  exact ht hb.2
theorem own_ne {a a' : Value} {t t' b m m' k k' : Nat} {xs xs' : List Value} (h : w.ownsRow b t m a k xs) (h' : w.ownsRow b t' m' a' k' xs') (ht : t ≠ t') : ∀ g, a.ownBlock = some g → a'.ownBlock ≠ some g := fun g hg hg' => by
  obtain ⟨c, hc⟩ := P.own_type h _ hg
  obtain ⟨c', hc'⟩ := P.own_type h' _ hg'
  rw [hc] at hc'
  simp at hc'
  exact ht hc'.2
theorem H21.cblk (h : H21 w2 x n E hv ov e X w) (hl : X.length = 6) : ∃ c, Blk w x.cb 107 c := by
  cases hx : X[5]? with
  | none => rw [List.getElem?_eq_none_iff] at hx; omega
  | some y => cases y with
    | none => exact ⟨_, h.c0 hx⟩
    | some u => obtain ⟨_, u', _, hb⟩ := h.c1 u hx; exact ⟨_, hb⟩
theorem info9 : (Tryz.prog.info? 9).map (fun i => (i.zero, i.size, i.bytes)) = some (some (.string ⟨#[]⟩), 1, 16) := by kernel_rfl
/-- the hits grow -/
theorem H21.grow2 (h : H21 w2 x n E hv ov e X w) (h2 : NwAt w2 x n No E G hv ov) (hl : X.length = 6) {g : Nat} {y0 : Value} (hx0 : X[0]? = some (some y0)) (hx1 : X[1]? = some (some (.slice (some ⟨g, 0, none⟩) 1 1))) (hx2 : X[2]? = some none) (ty : TypeId) :
    ∃ u w', (Builtin.append_ #[59, 59] ty #[hv, .slice (some ⟨g, 0, none⟩) 1 1]).run Tryz.prog w = .ok u w' ∧ (∃ g c, u = .slice (some ⟨g, 0, none⟩) (E.length + 1) c) ∧ H21 w2 x n E hv ov e (X.set 2 (some u)) w' := by
  obtain ⟨i3, hi, hz0, hz1, hz2⟩ := info_parts info39
  obtain ⟨g', e1, e2, e3⟩ := h.b1 _ hx1
  obtain rfl : g = g' := by have := (Value.slice.inj e1).1; simpa using this
  have hrw := h.h0 hx2
  have hlen := h2.len
  have hbs := h2.bs
  have hks := h.kept.size
  obtain ⟨u, w', r1, r2, r3, _, r5⟩ := run_append_own_at (P := Tryz.prog) w x.base 59 ty 39 i3 _ 6 48 Tryz.underlying59 hi hz0 hz1 hz2 rfl (by decide) hv E.length _ hrw ⟨g, 0, none⟩ 1 1 e.h.cl rfl (by
    intro j u hj
    match j, hj with
    | 0, hj => simp at hj; subst hj; simpa [Addr.add] using e3.cell (k := 0) rfl
    | 1, hj => simp at hj; subst hj; simpa [Addr.add] using e3.cell (k := 1) rfl
    | 2, hj => simp at hj; subst hj; simpa [Addr.add] using e3.cell (k := 2) rfl
    | 3, hj => simp at hj; subst hj; simpa [Addr.add] using e3.cell (k := 3) rfl
    | 4, hj => simp at hj; subst hj; simpa [Addr.add] using e3.cell (k := 4) rfl
    | 5, hj => simp at hj; subst hj; simpa [Addr.add] using e3.cell (k := 5) rfl
    | j + 6, hj => simp at hj) (by simp [Value.oneCell']) (by unfold maxLen; omega) (by omega) (by omega)
  obtain ⟨gu, cu, hu0⟩ := ownsRow_succ r2
  refine ⟨u, w', r1, ⟨gu, cu, hu0⟩, ?_⟩
  have hK : Kept (fun q => hv.ownBlock ≠ some q) w w' := Kept.grown r3 (fun r hr h => h hr)
  have hw2 : ∀ q, hv.ownBlock = some q → q < w2.heap.size := fun q hq => (h2.hr.lt q hq).2
  obtain ⟨cc, hcb⟩ := h.cblk hl
  have hvc : hv.ownBlock ≠ some x.cb := fun e0 => (h2.hap e0).2.1 rfl
  have ne : ∀ i, i ≠ 2 → (X.set 2 (some u))[i]? = X[i]? := fun i hi => List.getElem?_set_ne (by omega)
  have h5 : X[5]? = some none := by
    cases h5 : X[5]? with
    | none => rw [List.getElem?_eq_none_iff] at h5; omega
    | some y => cases y with
      | none => rfl
      | some u => obtain ⟨_, u', hu', _⟩ := h.c1 u h5; rw [hx2] at hu'; simp at hu'
  have fr : ∀ q, w2.heap.size ≤ q → hv.ownBlock ≠ some q := fun q hq e0 => by have := hw2 q e0; omega
  refine ⟨h.kept.trans (hK.mono fun q _ hq => hq.1), fun u' hu' => h.rd u' (ne 0 (by omega) ▸ hu'), fun u' hu' => ?_, fun u' hu' => ?_, fun hu' => by rw [List.getElem?_set_self (by omega)] at hu'; simp at hu', fun u' hu' => ?_, fun hu' => row_keep (h.o0 (ne 4 (by omega) ▸ hu')) hK (fun q hq => own_ne (h.o0 (ne 4 (by omega) ▸ hu')) hrw (by decide) q hq), fun u' hu' => ?_, fun _ => (h.c0 h5).keep hK hvc, fun u' hu' => by rw [ne 5 (by omega), h5] at hu'; simp at hu', fun hu' => by rw [ne 1 (by omega), hx1] at hu'; simp at hu', fun hu' => by rw [ne 4 (by omega)]; exact h.r3 (ne 3 (by omega) ▸ hu'), fun hu' => by rw [ne 0 (by omega), hx0] at hu'; simp at hu'⟩
  · obtain ⟨q, a, b, c⟩ := h.b1 u' (ne 1 (by omega) ▸ hu'); exact ⟨q, a, b, c.keep hK (fr q b)⟩
  · obtain ⟨q, a, b, c⟩ := h.b3 u' (ne 3 (by omega) ▸ hu'); exact ⟨q, a, b, c.keep hK (fr q b)⟩
  · rw [List.getElem?_set_self (by omega)] at hu'
    obtain rfl := Option.some.inj (Option.some.inj hu')
    exact ⟨r2, r5.imp id fun h => ⟨_, h, hks⟩⟩
  · obtain ⟨a, b⟩ := h.o1 u' (ne 4 (by omega) ▸ hu')
    exact ⟨row_keep a hK (fun q hq => own_ne a hrw (by decide) q hq), b⟩
/-- the keys grow -/
theorem H21.grow4 (h : H21 w2 x n E hv ov e X w) (h2 : NwAt w2 x n No E G hv ov) (hl : X.length = 6) {g : Nat} (hx3 : X[3]? = some (some (.slice (some ⟨g, 0, none⟩) 1 1))) (hx4 : X[4]? = some none) (ty : TypeId) :
    ∃ u w', (Builtin.append_ #[22, 22] ty #[ov, .slice (some ⟨g, 0, none⟩) 1 1]).run Tryz.prog w = .ok u w' ∧ (∃ g c, u = .slice (some ⟨g, 0, none⟩) (E.length + 1) c) ∧ H21 w2 x n E hv ov e (X.set 4 (some u)) w' := by
  obtain ⟨i3, hi, hz0, hz1, hz2⟩ := info_parts info9
  obtain ⟨g', e1, e2, e3⟩ := h.b3 _ hx3
  obtain rfl : g = g' := by have := (Value.slice.inj e1).1; simpa using this
  have hrw := h.o0 hx4
  have hlen := h2.len
  have hbs := h2.bs
  have hks := h.kept.size
  obtain ⟨u, w', r1, r2, r3, _, r5⟩ := run_append_own_at (P := Tryz.prog) w x.base 22 ty 9 i3 _ 1 16 Tryz.underlying22 hi hz0 hz1 hz2 rfl (by decide) ov E.length _ hrw ⟨g, 0, none⟩ 1 1 [.string e.k] rfl (by
    intro j u hj
    match j, hj with
    | 0, hj => simp at hj; subst hj; simpa [Addr.add] using e3.cell (k := 0) rfl) (by simp [Value.oneCell']) (by unfold maxLen; omega) (by omega) (by omega)
  obtain ⟨gu, cu, hu0⟩ := ownsRow_succ r2
  refine ⟨u, w', r1, ⟨gu, cu, hu0⟩, ?_⟩
  have hK : Kept (fun q => ov.ownBlock ≠ some q) w w' := Kept.grown r3 (fun r hr h => h hr)
  have hw2 : ∀ q, ov.ownBlock = some q → q < w2.heap.size := fun q hq => (h2.orr.lt q hq).2
  have hvc : ov.ownBlock ≠ some x.cb := fun e0 => (h2.oap e0).2.1 rfl
  have ne : ∀ i, i ≠ 4 → (X.set 4 (some u))[i]? = X[i]? := fun i hi => List.getElem?_set_ne (by omega)
  have fr : ∀ q, w2.heap.size ≤ q → ov.ownBlock ≠ some q := fun q hq e0 => by have := hw2 q e0; omega
  refine ⟨h.kept.trans (hK.mono fun q _ hq => hq.2.1), fun u' hu' => h.rd u' (ne 0 (by omega) ▸ hu'), fun u' hu' => ?_, fun u' hu' => ?_, fun hu' => row_keep (h.h0 (ne 2 (by omega) ▸ hu')) hK (fun q hq => own_ne (h.h0 (ne 2 (by omega) ▸ hu')) hrw (by decide) q hq), fun u' hu' => ?_, fun hu' => by rw [List.getElem?_set_self (by omega)] at hu'; simp at hu', fun u' hu' => ?_, fun hu' => (h.c0 (ne 5 (by omega) ▸ hu')).keep hK hvc, fun u' hu' => ?_, fun hu' => by rw [ne 2 (by omega)]; exact h.r1 (ne 1 (by omega) ▸ hu'), fun hu' => by rw [ne 3 (by omega), hx3] at hu'; simp at hu', fun hu' => by rw [ne 2 (by omega)]; exact h.r0 (ne 0 (by omega) ▸ hu')⟩
  · obtain ⟨q, a, b, c⟩ := h.b1 u' (ne 1 (by omega) ▸ hu'); exact ⟨q, a, b, c.keep hK (fr q b)⟩
  · obtain ⟨q, a, b, c⟩ := h.b3 u' (ne 3 (by omega) ▸ hu'); exact ⟨q, a, b, c.keep hK (fr q b)⟩
  · obtain ⟨a, b⟩ := h.h1 u' (ne 2 (by omega) ▸ hu')
    exact ⟨row_keep a hK (fun q hq => own_ne a hrw (by decide) q hq), b⟩
  · rw [List.getElem?_set_self (by omega)] at hu'
    obtain rfl := Option.some.inj (Option.some.inj hu')
    exact ⟨r2, r5.imp id fun h => ⟨_, h, hks⟩⟩
  · obtain ⟨a, u'', b, c⟩ := h.c1 u' (ne 5 (by omega) ▸ hu')
    exact ⟨by rw [ne 0 (by omega)]; exact a, u'', by rw [ne 2 (by omega)]; exact b, c.keep hK hvc⟩
/-- the hits are stored -/
theorem H21.put5 (h : H21 w2 x n E hv ov e X w) (h2 : NwAt w2 x n No E G hv ov) (hl : X.length = 6) {u : Value} (hx0 : X[0]? = some (some hv)) (hx2 : X[2]? = some (some u)) (hx5 : X[5]? = some none) : H21 w2 x n E hv ov e (X.set 5 (some undef)) (w.setCell ⟨x.cb, 1, none⟩ u) := by
  have hK : Kept (fun q => q ≠ x.cb) w (w.setCell ⟨x.cb, 1, none⟩ u) := Kept.setCell w (fun h => h rfl) _
  have hcb := h.c0 hx5
  have hcs := h2.cbk.lt
  have ne : ∀ i, i ≠ 5 → (X.set 5 (some undef))[i]? = X[i]? := fun i hi => List.getElem?_set_ne (by omega)
  refine ⟨h.kept.trans (hK.mono fun q _ hq => hq.2.2), fun u' hu' => h.rd u' (ne 0 (by omega) ▸ hu'), fun u' hu' => ?_, fun u' hu' => ?_, fun hu' => by rw [ne 2 (by omega), hx2] at hu'; simp at hu', fun u' hu' => ?_, fun hu' => row_keep (h.o0 (ne 4 (by omega) ▸ hu')) hK (fun q hq e0 => cb_ne (h.o0 (ne 4 (by omega) ▸ hu')) hcb (by decide) (e0 ▸ hq)), fun u' hu' => ?_, fun hu' => by rw [List.getElem?_set_self (by omega)] at hu'; simp at hu', fun u' hu' => ⟨by rw [ne 0 (by omega)]; exact hx0, u, by rw [ne 2 (by omega)]; exact hx2, hcb.upd 1 u rfl⟩, fun hu' => by rw [ne 2 (by omega)]; exact h.r1 (ne 1 (by omega) ▸ hu'), fun hu' => by rw [ne 4 (by omega)]; exact h.r3 (ne 3 (by omega) ▸ hu'), fun hu' => by rw [ne 2 (by omega)]; exact h.r0 (ne 0 (by omega) ▸ hu')⟩
  · obtain ⟨q, a, b, c⟩ := h.b1 u' (ne 1 (by omega) ▸ hu'); exact ⟨q, a, b, c.keep hK (by omega)⟩
  · obtain ⟨q, a, b, c⟩ := h.b3 u' (ne 3 (by omega) ▸ hu'); exact ⟨q, a, b, c.keep hK (by omega)⟩
  · obtain ⟨a, b⟩ := h.h1 u' (ne 2 (by omega) ▸ hu')
    exact ⟨row_keep a hK (fun q hq e0 => cb_ne a hcb (by decide) (e0 ▸ hq)), b⟩
  · obtain ⟨a, b⟩ := h.o1 u' (ne 4 (by omega) ▸ hu')
    exact ⟨row_keep a hK (fun q hq e0 => cb_ne a hcb (by decide) (e0 ▸ hq)), b⟩
/-- behind it all -/
theorem H21.fin {u0 u1 u2 u3 u4 u5 : Value} (h : H21 w2 x n E hv ov e [some u0, some u1, some u2, some u3, some u4, some u5] w) (h2 : NwAt w2 x n No E G hv ov) (hlen : E.length + 1 ≤ 32768) :
    NwAt (w.setCell ⟨x.cb, 2, none⟩ u4) x n No (E ++ [e]) G u2 u4 ∧ Kept (fun g => No g) w2 (w.setCell ⟨x.cb, 2, none⟩ u4) ∧ Blk w x.cb 107 #[.slice x.pa n x.pc, u2, ov, .slice none 0 0, .map (some x.mb)] := by
  obtain ⟨_, u', hu', hcb⟩ := h.c1 u5 rfl
  obtain rfl : u2 = u' := by simpa using hu'
  obtain ⟨hh, hhl⟩ := h.h1 u2 rfl
  obtain ⟨ho, hol⟩ := h.o1 u4 rfl
  have hK : Kept (fun q => q ≠ x.cb) w (w.setCell ⟨x.cb, 2, none⟩ u4) := Kept.setCell w (fun h => h rfl) _
  have hKw : Kept (fun g => hv.ownBlock ≠ some g ∧ ov.ownBlock ≠ some g ∧ g ≠ x.cb) w2 (w.setCell ⟨x.cb, 2, none⟩ u4) := h.kept.trans (hK.mono fun q _ hq => hq.2.2)
  have hb := h2.blk
  have e1 : enCl (E ++ [e]) = enCl E ++ e.h.cl := by show (E ++ [e]).flatMap _ = _; rw [List.flatMap_append, List.flatMap_cons, List.flatMap_nil, List.append_nil]
  have e2 : enKs (E ++ [e]) = enKs E ++ [.string e.k] := by show (E ++ [e]).map _ = _; rw [List.map_append]; rfl
  have e3 : (E ++ [e]).length = E.length + 1 := by rw [List.length_append]; rfl
  refine ⟨⟨h2.tbk.keep hKw ⟨fun e0 => (h2.hap e0).1 rfl, fun e0 => (h2.oap e0).1 rfl, hb.1⟩, hcb.upd 2 u4 rfl, ?_, ?_, ?_, h2.nt, h2.nc, h2.nm, fun g hg hn => ?_, fun g hg hn => ?_, fun g hg => Nat.lt_of_lt_of_le (h2.lo g hg) hKw.size, by rw [e3]; exact hlen, Nat.le_trans h2.bs hKw.size⟩, hKw.mono (fun g _ hg => ⟨fun e0 => h2.nh g e0 hg, fun e0 => h2.nO g e0 hg, fun e0 => h2.nc (e0 ▸ hg)⟩), hcb⟩
  · rw [e1, e3]; exact row_keep hh hK (fun q hq e0 => cb_ne hh hcb (by decide) (e0 ▸ hq))
  · rw [e2, e3]; exact row_keep ho hK (fun q hq e0 => cb_ne ho hcb (by decide) (e0 ▸ hq))
  · refine h2.gr.keep hKw ⟨fun e0 => (h2.hap e0).2.2.1 rfl, fun e0 => (h2.oap e0).2.2.1 rfl, fun e0 => hb.2.1 e0.symm⟩ (fun g hg => .inr ?_)
    rintro ⟨_, _, c, hc⟩
    by_cases a1 : hv.ownBlock = some g
    · obtain ⟨_, _, _, _, _, c', hc'⟩ := h2.hap a1; rw [hc] at hc'; simp at hc'
    · by_cases a2 : ov.ownBlock = some g
      · obtain ⟨_, _, _, _, _, c', hc'⟩ := h2.oap a2; rw [hc] at hc'; simp at hc'
      · by_cases a3 : g = x.cb
        · subst a3; have := h2.cbk; unfold Blk at this; rw [hc] at this; simp at this
        · exact hg ⟨a1, a2, a3⟩
  · rcases hhl with e0 | ⟨q, e0, hq⟩
    · exact h2.nh g (e0 ▸ hg) hn
    · rw [e0] at hg; have := Option.some.inj hg; have := h2.lo g hn; omega
  · rcases hol with e0 | ⟨q, e0, hq⟩
    · exact h2.nO g (e0 ▸ hg) hn
    · rw [e0] at hg; have := Option.some.inj hg; have := h2.lo g hn; omega
end
end Go.Proofs.YteodfondjogmoaaGreatDoor
/- What concord.New's walk leans on. Conditions: those of each theorem. -/
namespace Go.Proofs.YteodfondjogmoaaGreatDoor
open Go Go.RowKit Go.Lib Go.Shelf
set_option linter.unusedVariables false
set_option linter.unusedSimpArgs false
abbrev mkD (D : Nat) : Deferred := { target := .collected D, args := #[] }
/-- a function leaves behind ranges over functions, none of which deferred a call -/
theorem leaves_marks {F : Fence} {n : Nat} {P : Program} {fn : Func} {tmps : Array Value} {R : Ending → World → Prop} : ∀ (Ds : List Nat) (w : World), Ds.Nodup → (∀ D ∈ Ds, w.heap[D]? = some (.deferred (some []))) → (∀ w', Kept (fun g => g ∉ Ds) w w' → LeavesInM F n P fn tmps R [] .returning w') → LeavesInM F n P fn tmps R (Ds.map mkD) .returning w
  | [], w, _, _, h => h w (Kept.refl _ _)
  | D :: r, w, hn, hm, h => by
    rw [List.nodup_cons] at hn
    have h0 := hm D (List.mem_cons_self ..)
    have hK : Kept (fun g => g ≠ D) w (w.putObj D (.deferred none)) := Kept.putObj w (fun h => h rfl) _
    refine ⟨by simp, .inl ⟨D, _, rfl, run_takeDeferred h0, ?_⟩⟩
    refine leaves_marks r _ hn.2 (fun D' hD' => hK.obj (hm D' (List.mem_cons_of_mem _ hD')) (fun e => hn.1 (e ▸ hD'))) (fun w' hw' => ?_)
    refine h w' ((hK.mono fun g _ hg e => hg (e ▸ List.mem_cons_self ..)).trans (hw'.mono fun g _ hg e => hg (List.mem_cons_of_mem _ e)))
/-- what a row of one's own looks like -/
theorem own_sl {w : World} {b : Nat} {e : TypeId} {m : Nat} {v : Value} {n : Nat} {xs : List Value} (h : w.ownsRow b e m v n xs) : ∃ a c, v = .slice a n c := by
  rcases h.2 with ⟨rfl, rfl⟩ | ⟨g, cap, cur, rfl, _⟩
  · exact ⟨none, 0, rfl⟩
  · exact ⟨_, _, rfl⟩
theorem alE_take (ds : List Pd) (k : Nat) (d : Pd) (h : ds[k]? = some d) : alE 0 (ds.take (k + 1)) = alE 0 (ds.take k) ++ pmE k 0 (eachL 0 d.L) := by
  rw [List.take_add_one, h, Option.toList_some, alE_snoc, List.length_take]
  have := (List.getElem?_eq_some_iff.1 h).1
  congr 2
  omega
theorem alE_take_le (ds : List Pd) (k : Nat) : (alE 0 (ds.take k)).length ≤ (alE 0 ds).length := by
  have key : ∀ (l : List Pd) (j m : Nat), (alE j (l.take m)).length ≤ (alE j l).length := by
    intro l
    induction l with
    | nil => intro j m; simp
    | cons x r ih =>
      intro j m
      cases m with
      | zero => simp [alE]
      | succ m =>
        rw [List.take_succ_cons, alE, alE, List.length_append, List.length_append]
        have := ih (j + 1) m
        omega
  exact key ds 0 k
theorem pmE_pre (k : Nat) (pre all : List (Nat × Vs)) (x : Nat × Vs) (h : pre ++ [x] <+: all) : (pmE k 0 pre).length + (wordsL x.2.tx).length ≤ (pmE k 0 all).length := by
  obtain ⟨r, rfl⟩ := h
  have key : ∀ (a b : List (Nat × Vs)) (n : Nat), (pmE k n a).length ≤ (pmE k n (a ++ b)).length := by
    intro a b
    induction a with
    | nil => intro n; simp [pmE]
    | cons y t ih => intro n; rw [List.cons_append, pmE, pmE, List.length_append, List.length_append]; have := ih (n + (wordsL y.2.tx).length); omega
  have h1 := key (pre ++ [x]) r 0
  rw [pmE_snoc, List.length_append, wdE_len] at h1
  exact h1
end Go.Proofs.YteodfondjogmoaaGreatDoor
/- What the law of the concordance leans on: how many words poems have, what is known of a word's places. No program in sight. Conditions: those of each theorem. -/
namespace Go.Proofs.YteodfondjogmoaaGreatDoor
open Go Go.RowKit
set_option linter.unusedVariables false
set_option linter.unusedSimpArgs false
theorem pW_len (k : Nat) : ∀ (l : List (Nat × Vs)) (n : Nat), (pW l).length = (pmE k n l).length
  | [], n => rfl
  | x :: r, n => by
    unfold pmE
    rw [List.length_append, wdE_len, ← pW_len k r]
    show ((x :: r).flatMap lnW).length = _
    rw [List.flatMap_cons, List.length_append]
    unfold lnW
    rw [List.length_map]
    rfl
theorem tk_len : ∀ (l : List Tk) (m : Int) (n : Nat), l.Pairwise (fun a b => a.t ≤ b.f) → (∀ x ∈ l, m ≤ x.f ∧ x.f < x.t ∧ x.t ≤ n) → m ≤ n → (l.length : Int) + m ≤ n
  | [], m, n, _, _, h => by simpa using h
  | x :: r, m, n, hp, hx, h => by
    rw [List.pairwise_cons] at hp
    have h1 := hx x (List.mem_cons_self ..)
    have h2 := tk_len r x.t n hp.2 (fun y hy => by have := hx y (List.mem_cons_of_mem _ hy); have := hp.1 y hy; omega) h1.2.2
    rw [List.length_cons]
    omega
theorem wordsL_len (s : ByteArray) (hs : s.size ≤ 100000) : (wordsL s).length ≤ s.size := by
  obtain ⟨h1, h2⟩ := words_fine s (by omega)
  have := tk_len (wordsL s) 0 s.size h1 (fun x hx => by have := h2 x hx; omega) (by omega)
  omega
theorem pW_bd : ∀ (l : List (Nat × Vs)), (∀ x ∈ l, x.2.tx.size ≤ 1024) → (pW l).length ≤ l.length * 1024
  | [], _ => by simp [pW]
  | x :: r, h => by
    have h1 := pW_bd r (fun y hy => h y (List.mem_cons_of_mem _ hy))
    have h2 := h x (List.mem_cons_self ..)
    have h3 := wordsL_len x.2.tx (by omega)
    show ((x :: r).flatMap lnW).length ≤ _
    rw [List.flatMap_cons, List.length_append, List.length_cons]
    have h4 : (lnW x).length = (wordsL x.2.tx).length := by unfold lnW; rw [List.length_map]
    have h5 : (r.flatMap lnW).length ≤ r.length * 1024 := h1
    rw [Nat.add_mul]
    omega
theorem eachL_cnt : ∀ (L : List Vs) (k : Nat), (eachL k L).length = L.length
  | [], k => rfl
  | x :: r, k => by unfold eachL; rw [List.length_cons, List.length_cons, eachL_cnt r]
/-- no word is empty -/
theorem pW_one {L : List Vs} (h : ∀ v ∈ L, v.tx.size ≤ 1024) : ∀ x ∈ pW (eachL 0 L), 1 ≤ x.2.size ∧ x.2.size ≤ 1024 := by
  intro x hx
  obtain ⟨y, hy, hz⟩ := List.mem_flatMap.1 hx
  have hs := h _ (eachL_mem _ _ _ hy)
  obtain ⟨w, hw, rfl⟩ := List.mem_map.1 hz
  have := (words_fine y.2.tx (by omega)).2 w hw
  unfold prW
  dsimp only
  rw [ByteArray.size_extract]
  omega
/-- what a poem that was read comes to -/
theorem pm_of_read {s : ByteArray} (hs : s.size ≤ 65536) {L : List Vs} (hl : L.length ≤ 512) (ht : ∀ v ∈ L, v.tx.size ≤ 1024) {n : Nat} (h : LsOk s n L) : Pd.Ok ⟨s, L⟩ :=
  ⟨hs, hl, ht, fun v hv => (h.all v hv).2.1, h.pw⟩
section
variable {w : World} {c : Cc} {rs : List PmR} {E : List En} {ks : List ByteArray}
/-- a word's places -/
theorem pl_get {κ : ByteArray} {i : Nat} {x : Hw} (hi : (plsL E κ)[i]? = some x) : ∃ j e, (grp E κ)[i]? = some j ∧ E[j]? = some e ∧ e.h = x ∧ e.k = κ := by
  unfold plsL at hi
  rw [List.getElem?_map] at hi
  cases hj : (grp E κ)[i]? with
  | none => rw [hj] at hi; cases hi
  | some j =>
    rw [hj] at hi
    obtain ⟨e, he, hk⟩ := grp_mem (List.mem_of_getElem? hj)
    have hx : hwI E j = x := by simpa using hi
    rw [hwI_get he] at hx
    exact ⟨j, e, rfl, he, hx, hk⟩
theorem pl_len (κ : ByteArray) : (plsL E κ).length = (grp E κ).length := by unfold plsL; rw [List.length_map]
/-- they rise -/
theorem pl_rise (h : CcAt w c rs E ks) {κ : ByteArray} {i j : Nat} {a b : Hw} (hij : i < j) (ha : (plsL E κ)[i]? = some a) (hb : (plsL E κ)[j]? = some b) : a.p < b.p ∨ a.p = b.p ∧ a.n < b.n := by
  obtain ⟨x, e, g1, e1, rfl, _⟩ := pl_get ha
  obtain ⟨y, f, g2, e2, rfl, _⟩ := pl_get hb
  have hxy := pw_lt (grp_pw E κ) hij g1 g2
  rcases pw_lt h.pw hxy e1 e2 with h1 | ⟨h1, h2, _⟩
  · exact .inl h1
  · exact .inr ⟨h1, h2⟩
/-- what comes back of a place is the line -/
theorem line_back {e : En} {r : PmR} {v : Vs} (hK : Known (rs.map (·.d)) e r.d v) : v.tx.extract 0 (e.h.f - v.f).toNat ++ r.d.src.extract e.h.f.toNat e.h.t.toNat ++ v.tx.extract (e.h.t - v.f).toNat v.tx.size = v.tx := by
  have h1 := hK.sp
  obtain ⟨l1, l2, l3, l4⟩ := hK.ln
  rw [hK.tx]
  obtain ⟨a, ha⟩ : ∃ a, (e.h.f - v.f).toNat = a := ⟨_, rfl⟩
  obtain ⟨b, hb⟩ : ∃ b, (e.h.t - v.f).toNat = b := ⟨_, rfl⟩
  rw [ha, hb]
  have hab : a ≤ b := by omega
  have hbs : b ≤ v.tx.size := by omega
  apply ba_ext
  simp only [ByteArray.data_append, ByteArray.data_extract]
  have hz : v.tx.size = v.tx.data.size := rfl
  rw [Array.extract_append_extract, show min 0 a = 0 by omega, show max a b = b by omega, Array.extract_append_extract, show min 0 b = 0 by omega, show max b v.tx.size = v.tx.size by omega]
  show v.tx.data.extract 0 v.tx.data.size = _
  simp
theorem head_size {e : En} {r : PmR} {v : Vs} (hK : Known (rs.map (·.d)) e r.d v) : ((v.tx.extract 0 (e.h.f - v.f).toNat).size : Int) = e.h.f - v.f := by
  have h1 := hK.sp
  obtain ⟨l1, l2, l3, l4⟩ := hK.ln
  rw [ByteArray.size_extract]
  omega
end
end Go.Proofs.YteodfondjogmoaaGreatDoor
/- The keys with how often they stand, one behind the other. No program in sight. Conditions: those of each theorem. -/
namespace Go.Proofs.YteodfondjogmoaaGreatDoor
open Go Go.RowKit
set_option linter.unusedVariables false
section
variable {E : List En} {ks : List ByteArray}
def sm (l : List (ByteArray × Nat)) : Nat := (l.map (·.2)).sum
theorem sm_snoc (l : List (ByteArray × Nat)) (x : ByteArray × Nat) : sm (l ++ [x]) = sm l + x.2 := by unfold sm; rw [List.map_append, List.sum_append]; simp
theorem sm_all (h : KsOk E ks) : sm (wordsK E ks) = E.length := by
  unfold sm wordsK
  rw [List.map_map]
  exact sum_grp ks h.nd E h.all
theorem sm_le {l m : List (ByteArray × Nat)} (h : l <+: m) : sm l ≤ sm m := by
  obtain ⟨r, rfl⟩ := h
  unfold sm
  rw [List.map_append, List.sum_append]
  omega
theorem wk_len : (wordsK E ks).length = ks.length := by unfold wordsK; rw [List.length_map]
theorem pre_get {α : Type} {pre all : List α} {x : α} (h : pre ++ [x] <+: all) : all[pre.length]? = some x := by
  obtain ⟨r, rfl⟩ := h
  rw [List.append_assoc, List.getElem?_append_right (Nat.le_refl _), Nat.sub_self]
  rfl
theorem wk_get {pre : List (ByteArray × Nat)} {x : ByteArray × Nat} (h : pre ++ [x] <+: wordsK E ks) : ks[pre.length]? = some x.1 ∧ x.2 = (grp E x.1).length := by
  have h1 := pre_get h
  unfold wordsK at h1
  rw [List.getElem?_map] at h1
  cases hk : ks[pre.length]? with
  | none => rw [hk] at h1; cases h1
  | some κ =>
    rw [hk] at h1
    have : (κ, (grp E κ).length) = x := by simpa using h1
    subst this
    exact ⟨rfl, rfl⟩
/-- each key stands once at least -/
theorem wk_pos (h : KsOk E ks) {pre : List (ByteArray × Nat)} {x : ByteArray × Nat} (hp : pre ++ [x] <+: wordsK E ks) : 1 ≤ x.2 := by
  obtain ⟨h1, h2⟩ := wk_get hp
  obtain ⟨e, he, hk⟩ := h.one x.1 (List.mem_of_getElem? h1)
  rw [h2, grp_len]
  exact List.countP_pos_iff.2 ⟨e, he, by simp [hk]⟩
/-- the key ahead is the smaller one -/
theorem wk_rise (h : KsOk E ks) {pre : List (ByteArray × Nat)} {y x : ByteArray × Nat} (hp : (pre ++ [y]) ++ [x] <+: wordsK E ks) : y.1.data.toList < x.1.data.toList := by
  have h1 := (wk_get hp).1
  have h0 : ks[pre.length]? = some y.1 := (wk_get ((List.prefix_append _ _).trans hp)).1
  rw [List.length_append, List.length_singleton] at h1
  exact pw_lt h.pw (by omega) h0 h1
/-- the last key told -/
def lastK : List (ByteArray × Nat) → ByteArray
  | [] => ⟨#[]⟩
  | l => (l.getLast?.map (·.1)).getD ⟨#[]⟩
theorem lastK_snoc (l : List (ByteArray × Nat)) (x : ByteArray × Nat) : lastK (l ++ [x]) = x.1 := by
  cases l with
  | nil => rfl
  | cons a r =>
    show (((a :: r) ++ [x]).getLast?.map (·.1)).getD ⟨#[]⟩ = x.1
    rw [List.getLast?_concat]
    rfl
end
end Go.Proofs.YteodfondjogmoaaGreatDoor
