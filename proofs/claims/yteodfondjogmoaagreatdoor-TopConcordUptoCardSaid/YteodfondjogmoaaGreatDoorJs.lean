/- What the law TopConcord keeps while it goes over the texts. Conditions: those of each theorem. -/
import Derived.Test.YteodfondjogmoaaGreatDoorJo
import Derived.Test.YteodfondjogmoaaGreatDoorJr
import Derived.Test.YteodfondjogmoaaGreatDoorTCz
import Derived.Test.YteodfondjogmoaaGreatDoorTCt
import Derived.Test.YteodfondjogmoaaGreatDoorTWr
namespace Go.Proofs.YteodfondjogmoaaGreatDoor
open Go Go.RowKit Go.Lib Go.Shelf Go.Maps
set_option linter.unusedVariables false
set_option linter.unusedSimpArgs false
/-- the texts -/
structure TxIn (w : World) (p : Option Addr) (ws : List ByteArray) : Prop where
  at' : ∀ (k : Nat) x, ws[k]? = some x → ∃ b off spot, p = some ⟨b, off, spot⟩ ∧ w.cell? ((⟨b, off, spot⟩ : Addr).add k) = some (.string x)
  sz : ∀ x ∈ ws, x.size ≤ 1100000
/-- A: the answer's cell; N: the list's, N + 1: the number's -/
structure LwI (w0 W : World) (A N : Nat) (rs : List PmR) (v : Value) (Ds : List Nat) (t : Nat) : Prop where
  b4 : Blk W A 4 #[.bool false]
  b5 : Blk W N 93 #[v]
  b6 : Blk W (N + 1) 3 #[.int .i64 t]
  row : W.ownsRow (N + 2) 94 1 v rs.length (rs.map pmV)
  oks : ∀ r ∈ rs, PmOk W r ∧ N + 2 ≤ r.pb ∧ N + 2 ≤ r.g
  ap : ∀ r ∈ rs, v.ownBlock ≠ some r.pb ∧ v.ownBlock ≠ some r.g
  cnt : rs.length ≤ 20
  low : Below A w0 W
  an : A < N
  nd : Ds.Nodup
  mks : ∀ D ∈ Ds, W.heap[D]? = some (.deferred (some [])) ∧ N + 2 ≤ D
  sz : N + 2 ≤ W.heap.size
section
variable {w0 W W' : World} {A N t t' : Nat} {rs : List PmR} {v : Value} {Ds : List Nat} {T : Nat → Prop}
theorem LwI.keep (h : LwI w0 W A N rs v Ds t) (hK : Kept T W W') (hT : ∀ q, q < W.heap.size → q ≠ N + 1 → T q) (h6 : Blk W' (N + 1) 3 #[.int .i64 t']) : LwI w0 W' A N rs v Ds t' := by
  have ha := h.an
  have hs := h.sz
  refine ⟨h.b4.keep hK (hT _ (by omega) (by omega)), h.b5.keep hK (hT _ (by omega) (by omega)), h6, row_keep h.row hK (fun g hg => hT g (h.row.lt g hg).2 (by have := (h.row.lt g hg).1; omega)), fun r hr => ?_, h.ap, h.cnt, ?_, ha, h.nd, fun D hD => ?_, Nat.le_trans hs hK.size⟩
  · obtain ⟨h1, h2, h3⟩ := h.oks r hr
    exact ⟨h1.keep hK (hT _ h1.lt.1 (by omega)) (hT _ h1.lt.2 (by omega)), h2, h3⟩
  · exact h.low.trans (hK.below (by omega) (fun q hq => hT q (by omega) (by omega)))
  · obtain ⟨h1, h2⟩ := h.mks D hD
    exact ⟨hK.obj h1 (hT D (at_lt h1) (by omega)), h2⟩
theorem LwI.mark (h : LwI w0 W A N rs v Ds t) {D : Nat} (hD : W.heap[D]? = some (.deferred (some []))) (hn : ∀ x ∈ Ds, x < D) (hN : N + 2 ≤ D) : LwI w0 W A N rs v (D :: Ds) t :=
  ⟨h.b4, h.b5, h.b6, h.row, h.oks, h.ap, h.cnt, h.low, h.an, List.nodup_cons.2 ⟨fun e => by have := hn _ e; omega, h.nd⟩, fun x hx => by
    rcases List.mem_cons.1 hx with rfl | hx
    · exact ⟨hD, hN⟩
    · exact h.mks x hx, h.sz⟩
theorem LwI.up (h : LwI w0 W A N rs v Ds t) (hb : Below W.heap.size W W') : LwI w0 W' A N rs v Ds t :=
  h.keep (Kept.of_all hb (fun _ => True)) (fun _ _ _ => trivial) (h.b6.low hb)
/-- one poem more -/
theorem LwI.push (h : LwI w0 W A N rs v Ds t) {r : PmR} {v' : Value} (hK : Kept (fun q => v.ownBlock ≠ some q) W W') (hrow : W'.ownsRow (N + 2) 94 1 v' (rs.length + 1) (rs.map pmV ++ [pmV r])) (hblk : v'.ownBlock = v.ownBlock ∨ ∃ g, v'.ownBlock = some g ∧ W.heap.size ≤ g) (hr : PmOk W r) (hb : N + 2 ≤ r.pb ∧ N + 2 ≤ r.g) (hap : v.ownBlock ≠ some r.pb ∧ v.ownBlock ≠ some r.g) (hc : rs.length < 20) : LwI w0 (W'.setCell ⟨N, 0, none⟩ v') A N (rs ++ [r]) v' Ds t := by
  have ha := h.an
  have hs := h.sz
  have hv : ∀ q, v.ownBlock = some q → N + 2 ≤ q ∧ ∃ c, W.heap[q]? = some (.cells c 94 (0, 0)) := fun q hq => ⟨(h.row.lt q hq).1, P.own_type h.row q hq⟩
  have hn : ∀ q, q < N + 2 → v.ownBlock ≠ some q := fun q hq e => by have := (hv q e).1; omega
  have hS : Kept (fun q => q ≠ N) W' (W'.setCell ⟨N, 0, none⟩ v') := Kept.setCell _ (fun h => h rfl) _
  have hKS : Kept (fun q => v.ownBlock ≠ some q ∧ q ≠ N) W (W'.setCell ⟨N, 0, none⟩ v') := (hK.mono (fun q _ h => h.1)).trans (hS.mono (fun q _ h => h.2))
  have hok : ∀ x ∈ rs ++ [r], PmOk W x ∧ (N + 2 ≤ x.pb ∧ N + 2 ≤ x.g) ∧ v.ownBlock ≠ some x.pb ∧ v.ownBlock ≠ some x.g := fun x hx => by
    rcases List.mem_append.1 hx with hx | hx
    · obtain ⟨a, b, c⟩ := h.oks x hx
      exact ⟨a, ⟨b, c⟩, h.ap x hx⟩
    · rw [List.mem_singleton.1 hx]; exact ⟨hr, hb, hap⟩
  refine ⟨h.b4.keep hKS ⟨hn _ (by omega), by omega⟩, (h.b5.keep hK (hn _ (by omega))).upd 0 v' rfl, h.b6.keep hKS ⟨hn _ (by omega), by omega⟩, ?_, fun x hx => ?_, fun x hx => ?_, by rw [List.length_append, List.length_singleton]; omega, h.low.trans (hKS.below (by omega) (fun q hq => ⟨hn q (by omega), by omega⟩)), ha, h.nd, fun D hD => ?_, Nat.le_trans hs hKS.size⟩
  · rw [List.map_append, List.length_append, List.length_singleton]
    exact row_keep hrow hS (fun g hg => by have := (hrow.lt g hg).1; omega)
  · obtain ⟨a, b, c⟩ := hok x hx
    exact ⟨a.keep hKS ⟨c.1, by omega⟩ ⟨c.2, by omega⟩, b⟩
  · obtain ⟨a, b, c⟩ := hok x hx
    rcases hblk with e | ⟨g, e, hg⟩
    · rw [e]; exact c
    · rw [e]
      have := a.lt
      exact ⟨fun e1 => by have := Option.some.inj e1; omega, fun e1 => by have := Option.some.inj e1; omega⟩
  · obtain ⟨h1, h2⟩ := h.mks D hD
    refine ⟨hKS.obj h1 ⟨fun e => ?_, by omega⟩, h2⟩
    obtain ⟨c, hc'⟩ := (hv D e).2
    rw [h1] at hc'
    simp at hc'
/-- what was read is a poem -/
theorem pm_read {s : ByteArray} {w' : World} {pb g cap : Nat} {a : Option Addr} {L : List Vs} {n : Nat} (hs : s.size ≤ 65536) (h1 : PmAt w' pb g a cap L) (h2 : L.length ≤ 512) (h3 : ∀ v ∈ L, v.tx.size ≤ 1024) (h4 : pb < w'.heap.size ∧ g < w'.heap.size) (h5 : w'.cell? ⟨pb, 3, none⟩ = some (.string s)) (h6 : LsOk s n L) : PmOk w' ⟨pb, g, a, cap, ⟨s, L⟩⟩ :=
  ⟨h1, h5, h4, pm_of_read hs h2 h3 h6⟩
theorem alE_push (rs : List PmR) (r : PmR) : (alE 0 (plD (rs ++ [r]))).length = (alE 0 (plD rs)).length + (pW (eachL 0 r.d.L)).length := by
  have e : plD (rs ++ [r]) = plD rs ++ [r.d] := by show (rs ++ [r]).map _ = _; rw [List.map_append]; rfl
  rw [e, alE_snoc, List.length_append, ← pW_len]
/-- a list of poems as an argument -/
theorem LwI.ps (h : LwI w0 W A N rs v Ds t) : ∃ a g cap, v = .slice a rs.length cap ∧ PsAt W a g rs ∧ ((rs = [] ∧ a = none) ∨ a = some ⟨g, 0, none⟩) := ps_of_own h.row (fun r hr => (h.oks r hr).1)
end
end Go.Proofs.YteodfondjogmoaaGreatDoor
/- Cells that are stored one behind the other, two of which are read ahead of that; the size of a key. Conditions: those of each theorem. -/
namespace Go.Proofs.YteodfondjogmoaaGreatDoor
open Go Go.RowKit Go.Lib Go.Shelf Go.Maps
set_option linter.unusedVariables false
set_option linter.unusedSimpArgs false
structure RdSt (b T : Nat) (o n : Value) (r s : Option (Option Value)) (w : World) : Prop where
  rd : ∀ u, r = some (some u) → u = o
  r0 : r = some none → s = some none
  c0 : s = some none → Blk w b T #[o]
  c1 : ∀ u, s = some (some u) → Blk w b T #[n]
section
variable {b T : Nat} {o n : Value} {r s : Option (Option Value)} {w w' : World}
theorem RdSt.other (h : RdSt b T o n r s w) (hK : Kept (fun q => q = b) w w') : RdSt b T o n r s w' :=
  ⟨h.rd, h.r0, fun e => (h.c0 e).keep hK rfl, fun u e => (h.c1 u e).keep hK rfl⟩
theorem RdSt.read (h : RdSt b T o n r s w) (hr : r = some none) : w.cell? ⟨b, 0, none⟩ = some o ∧ RdSt b T o n (some (some o)) s w :=
  ⟨(h.c0 (h.r0 hr)).cell (k := 0) rfl, fun u e => (Option.some.inj (Option.some.inj e)).symm, fun e => (by simp at e), h.c0, h.c1⟩
theorem RdSt.put (h : RdSt b T o n r s w) (hr : r ≠ some none) (hs : s = some none) : RdSt b T o n r (some (some undef)) (w.setCell ⟨b, 0, none⟩ n) :=
  ⟨h.rd, fun e => (hr e).elim, fun e => (by simp at e), fun u e => (h.c0 hs).upd 0 _ rfl⟩
end
/-- 0, 1 are read; 2, 3 are stored -/
structure H29 (W : World) (b1 b2 : Nat) (o1 n1 o2 n2 : Value) (X : List (Option Value)) (w : World) : Prop where
  kept : Kept (fun q => q ≠ b1 ∧ q ≠ b2) W w
  a : RdSt b1 3 o1 n1 X[0]? X[2]? w
  b : RdSt b2 3 o2 n2 X[1]? X[3]? w
section
variable {W w : World} {b1 b2 : Nat} {o1 n1 o2 n2 : Value} {X : List (Option Value)}
theorem H29.cls (W : World) (b1 b2 : Nat) (o1 n1 o2 n2 : Value) : C.ClsK (fun q => q ≠ b1 ∧ q ≠ b2) W (H29 W b1 b2 o1 n1 o2 n2) := ⟨fun _ _ h => h.kept⟩
theorem rdst0 {b T : Nat} {o n : Value} {r : Option (Option Value)} (h : Blk W b T #[o]) (hr : r = some none ∨ r = some (some o)) : RdSt b T o n r (some none) W.drew :=
  ⟨fun u e => by rcases hr with rfl | rfl <;> simp at e; exact e.symm, fun _ => rfl, fun _ => h.keep (Kept.drew (fun _ => True) W) trivial, fun u e => by simp at e⟩
theorem H29.start (n1 n2 : Value) (h1 : Blk W b1 3 #[o1]) (h2 : Blk W b2 3 #[o2]) : H29 W b1 b2 o1 n1 o2 n2 [none, none, none, none] W.drew :=
  ⟨Kept.drew _ _, rdst0 h1 (.inl rfl), rdst0 h2 (.inl rfl)⟩
theorem H29.start0 (n1 n2 : Value) (h1 : Blk W b1 3 #[o1]) (h2 : Blk W b2 3 #[o2]) : H29 W b1 b2 o1 n1 o2 n2 [some o1, none, none, none] W.drew :=
  ⟨Kept.drew _ _, rdst0 h1 (.inr rfl), rdst0 h2 (.inl rfl)⟩
theorem H29.start1 (n1 n2 : Value) (h1 : Blk W b1 3 #[o1]) (h2 : Blk W b2 3 #[o2]) : H29 W b1 b2 o1 n1 o2 n2 [some o1, some o2, none, none] W.drew :=
  ⟨Kept.drew _ _, rdst0 h1 (.inr rfl), rdst0 h2 (.inr rfl)⟩
theorem H29.read0 (h : H29 W b1 b2 o1 n1 o2 n2 X w) (hl : X.length = 4) (hx : X[0]? = some none) : w.cell? ⟨b1, 0, none⟩ = some o1 ∧ H29 W b1 b2 o1 n1 o2 n2 (X.set 0 (some o1)) w := by
  obtain ⟨e, h1⟩ := h.a.read hx
  refine ⟨e, h.kept, ?_, ?_⟩
  · rw [List.getElem?_set_self (by omega), List.getElem?_set_ne (by omega)]; exact h1
  · rw [List.getElem?_set_ne (by omega), List.getElem?_set_ne (by omega)]; exact h.b
theorem H29.read1 (h : H29 W b1 b2 o1 n1 o2 n2 X w) (hl : X.length = 4) (hx : X[1]? = some none) : w.cell? ⟨b2, 0, none⟩ = some o2 ∧ H29 W b1 b2 o1 n1 o2 n2 (X.set 1 (some o2)) w := by
  obtain ⟨e, h1⟩ := h.b.read hx
  refine ⟨e, h.kept, ?_, ?_⟩
  · rw [List.getElem?_set_ne (by omega), List.getElem?_set_ne (by omega)]; exact h.a
  · rw [List.getElem?_set_self (by omega), List.getElem?_set_ne (by omega)]; exact h1
theorem H29.put2 (h : H29 W b1 b2 o1 n1 o2 n2 X w) (hl : X.length = 4) {y : Value} (h0 : X[0]? = some (some y)) (hx : X[2]? = some none) (hn : b1 ≠ b2) : H29 W b1 b2 o1 n1 o2 n2 (X.set 2 (some undef)) (w.setCell ⟨b1, 0, none⟩ n1) := by
  refine ⟨h.kept.trans (Kept.setCell w (fun h => h.1 rfl) _), ?_, ?_⟩
  · rw [List.getElem?_set_ne (by omega), List.getElem?_set_self (by omega)]; exact h.a.put (by rw [h0]; simp) hx
  · rw [List.getElem?_set_ne (by omega), List.getElem?_set_ne (by omega)]; exact h.b.other (Kept.setCell w (fun e => hn e) _)
theorem H29.put3 (h : H29 W b1 b2 o1 n1 o2 n2 X w) (hl : X.length = 4) {y : Value} (h0 : X[1]? = some (some y)) (hx : X[3]? = some none) (hn : b2 ≠ b1) : H29 W b1 b2 o1 n1 o2 n2 (X.set 3 (some undef)) (w.setCell ⟨b2, 0, none⟩ n2) := by
  refine ⟨h.kept.trans (Kept.setCell w (fun h => h.2 rfl) _), ?_, ?_⟩
  · rw [List.getElem?_set_ne (by omega), List.getElem?_set_ne (by omega)]; exact h.a.other (Kept.setCell w (fun e => hn e) _)
  · rw [List.getElem?_set_ne (by omega), List.getElem?_set_self (by omega)]; exact h.b.put (by rw [h0]; simp) hx
end
/-- the calls only add memory -/
def H30 (W : World) (X : List (Option Value)) (w : World) : Prop := Below W.heap.size W w
theorem H30.cls (W : World) : C.ClsK (fun q => q < W.heap.size) W (H30 W) := ⟨fun _ _ h => Kept.of_below h (fun _ _ h => h)⟩
theorem H30.start (W : World) : H30 W [] W.drew := (Below.refl _ _).drew
theorem lt_no : ∀ x y : List UInt8, x < y → Op.bytesLess y x = false ∧ (y == x) = false
  | [], [], h => by simp at h
  | [], b :: y, h => ⟨rfl, rfl⟩
  | a :: x, [], h => by simp at h
  | a :: x, b :: y, h => by
    rcases List.cons_lt_cons_iff.1 h with h1 | ⟨rfl, h1⟩
    · have h2 : ¬ b < a := by rw [UInt8.lt_iff_toNat_lt] at h1 ⊢; omega
      have h3 : ¬ b = a := fun e => by rw [e, UInt8.lt_iff_toNat_lt] at h1; omega
      simp [Op.bytesLess, h2, h3]
    · obtain ⟨h2, h3⟩ := lt_no x y h1
      have h4 : ¬ a < a := by rw [UInt8.lt_iff_toNat_lt]; omega
      have h5 : ¬ y = x := by simpa using h3
      simp [Op.bytesLess, h2, h4, h5]
/-- a key that comes behind another one is no smaller one, and another one -/
theorem key_next {a b : ByteArray} (h : a.data.toList < b.data.toList) : Op.bytesLess b.toList a.toList = false ∧ (b.toList == a.toList) = false := by
  rw [Lib.toList_data, Lib.toList_data]
  exact lt_no _ _ h
/-- how many words poems have at most -/
theorem alE_bd : ∀ (ds : List Pd) (j : Nat), (∀ d ∈ ds, d.Ok) → (alE j ds).length ≤ ds.length * 524288
  | [], j, _ => by simp [alE]
  | d :: r, j, h => by
    have h0 := h d (List.mem_cons_self ..)
    have h1 := pW_bd (eachL 0 d.L) (fun x hx => h0.tx _ (eachL_mem _ _ _ hx))
    rw [eachL_cnt] at h1
    have h2 := h0.len
    have h3 := alE_bd r (j + 1) (fun e he => h e (List.mem_cons_of_mem _ he))
    rw [alE, List.length_append, List.length_cons, ← pW_len]
    omega
theorem fold_small (s : ByteArray) (hs : s.size ≤ 65536) : (foldB s).size ≤ 1100000 := by
  have h1 := congrArg List.length (fu_fine s)
  have h2 := wrL_len (fuL s (posL s 0))
  have h3 := fuL_len s (posL s 0)
  have h4 := posL_len s _ 0 rfl
  have e : (foldB s).data.toList.length = (foldB s).size := rfl
  omega
section
variable {w0 : World} {c : Cc} {rs : List PmR} {E : List En} {ks : List ByteArray}
/-- what is known of a key -/
theorem CcAt.kle (h : CcAt w0 c rs E ks) {κ : ByteArray} (hκ : κ ∈ ks) : κ.size ≤ 1100000 ∧ foldB κ = κ := by
  refine ⟨?_, (h.ksize hκ).2⟩
  obtain ⟨e, he, rfl⟩ := h.kk.one κ hκ
  obtain ⟨i, hi⟩ := List.getElem?_of_mem he
  obtain ⟨r, v, hK⟩ := h.know hi
  rw [hK.k.ky]
  refine fold_small _ ?_
  have h1 := hK.k.ok.sz
  have h2 : (r.d.src.extract e.h.f.toNat e.h.t.toNat).size ≤ r.d.src.size := by rw [ByteArray.size_extract]; omega
  omega
/-- what the law asks of each key -/
theorem CcAt.wk (h : CcAt w0 c rs E ks) {pre : List (ByteArray × Nat)} {x : ByteArray × Nat} (hp : pre ++ [x] <+: wordsK E ks) : x.1.size ≤ 1100000 ∧ x.2 = (grp E (foldB x.1)).length ∧ 1 ≤ x.2 ∧ sm pre + x.2 ≤ 32768 ∧ pre.length < 32768 := by
  obtain ⟨h1, h2⟩ := wk_get hp
  obtain ⟨h3, h4⟩ := h.kle (List.mem_of_getElem? h1)
  have h5 := sm_le hp
  rw [sm_snoc, sm_all h.kk] at h5
  have h6 := h.lE
  have h7 : ∀ l : List (ByteArray × Nat), (∀ y ∈ l, 1 ≤ y.2) → l.length ≤ sm l := by
    intro l
    induction l with
    | nil => intro _; exact Nat.zero_le _
    | cons a r ih =>
      intro hl
      have h8 := ih (fun y hy => hl y (List.mem_cons_of_mem _ hy))
      have h9 := hl a (List.mem_cons_self ..)
      unfold sm at *
      rw [List.map_cons, List.sum_cons, List.length_cons]
      omega
  have h10 := h7 pre (fun y hy => by
    obtain ⟨p, q, e⟩ := List.append_of_mem hy
    have : p ++ [y] <+: wordsK E ks := by
      refine List.IsPrefix.trans ?_ hp
      rw [e]
      exact ⟨q ++ [x], by simp⟩
    exact wk_pos h.kk this)
  have h11 := wk_pos h.kk hp
  refine ⟨h3, ?_, h11, by omega, by omega⟩
  rw [h4]; exact h2
end
section
variable {w W : World} {A N t : Nat} {rs : List PmR} {v : Value} {Ds : List Nat}
/-- the answer is told -/
theorem LwI.fin (h : LwI w W A N rs v Ds t) (hA : A = w.heap.size) : (∀ D ∈ Ds, (W.setCell ⟨A, 0, none⟩ (.bool true)).heap[D]? = some (.deferred (some []))) ∧ ∀ w', Kept (fun g => g ∉ Ds) (W.setCell ⟨A, 0, none⟩ (.bool true)) w' → w'.cell? ⟨A, 0, none⟩ = some (.bool true) ∧ Below w.heap.size w w' := by
  have hK : Kept (fun q => q ≠ A) W (W.setCell ⟨A, 0, none⟩ (.bool true)) := Kept.setCell _ (fun h => h rfl) _
  have ha := h.an
  have h1 := h.sz
  refine ⟨fun D hD => hK.obj (h.mks D hD).1 (by have := (h.mks D hD).2; omega), fun w' hw' => ?_⟩
  have hn : ∀ q, q ≤ A → q ∉ Ds := fun q hq hD => by have := (h.mks q hD).2; omega
  refine ⟨((h.b4.upd 0 (.bool true) rfl).keep hw' (hn A (Nat.le_refl _))).cell (k := 0) rfl, ?_⟩
  rw [← hA]
  exact (h.low.trans (hK.below (by omega) (fun q hq => by omega))).trans (hw'.below (by have := hK.size; omega) (fun q hq => hn q (by omega)))
end
end Go.Proofs.YteodfondjogmoaaGreatDoor
