/- A class's line. Conditions: those of each theorem. -/
import Derived.Test.YtieifhfgedoiaaaDoorMq
namespace Go.Proofs.YtieifhfgedoiaaaDoor
open Go.RowKit Go.Lib
open Go.ChangeMaps
set_option linter.unusedVariables false
set_option linter.unusedSimpArgs false
attribute [local go_sem] ExtS.cell ExtS.froz upE_value upE_skip upE_enter
/-- bytes that must stand -/
def mustL (s : ByteArray) : List UInt8 → Nat → Res Unit
  | [], p => .ok () p
  | c :: r, p => (mustR s p c.toNat).bind fun _ p => mustL s r p
theorem mustN_L (s t : ByteArray) : ∀ (k j p : Nat), t.size - j = k → j ≤ t.size → j ≤ mustN s p t j ∧ mustN s p t j ≤ t.size ∧ mustL s (t.data.toList.drop j) p = if mustN s p t j = t.size then .ok () (p + (t.size - j)) else .bad 90 (p + (mustN s p t j - j))
  | 0, j, p, hk, hj => by
    have e : j = t.size := by omega
    subst e
    have hm : mustN s p t t.size = t.size := by rw [mustN, dif_neg (by omega)]
    rw [hm]
    refine ⟨Nat.le_refl _, Nat.le_refl _, ?_⟩
    rw [if_pos rfl, List.drop_eq_nil_of_le (by show t.data.toList.length ≤ t.data.size; simp)]
    simp [mustL]
  | k + 1, j, p, hk, hj => by
    have hlt : j < t.size := by omega
    have hd : t.data.toList.drop j = (t[j]'hlt) :: t.data.toList.drop (j + 1) := List.drop_eq_getElem_cons (by simpa using hlt)
    rw [hd, mustL]
    cases hb : isB s p (t[j]'hlt).toNat
    · have hm : mustN s p t j = j := by rw [mustN, dif_pos hlt, if_neg (by rw [hb]; simp)]
      rw [hm, mustR_no hb]
      refine ⟨Nat.le_refl _, hj, ?_⟩
      rw [if_neg (by omega)]
      simp [Res.bind]
    · have hm : mustN s p t j = mustN s (p + 1) t (j + 1) := by rw [mustN, dif_pos hlt, if_pos hb]
      obtain ⟨h1, h2, h3⟩ := mustN_L s t k (j + 1) (p + 1) (by omega) (by omega)
      rw [hm, mustR_yes hb]
      refine ⟨by omega, h2, ?_⟩
      show mustL s _ (p + 1) = _
      rw [h3]
      by_cases he : mustN s (p + 1) t (j + 1) = t.size
      · rw [if_pos he, if_pos he]; congr 1; omega
      · rw [if_neg he, if_neg he]; congr 1; omega
theorem must_ok {w : World} {R : Nat} {s : ByteArray} {p p' : Nat} {q0 : Int} (h : Rd w R s p 0 q0) (t : ByteArray) (ht : t.size ≤ 100) (hp : p ≤ 140737488355328) (hr : mustL s t.data.toList p = .ok () p') :
    Calls Tryd.prog 60 #[.pointer (some ⟨R, 0, none⟩), .string t] w fun x w' => x = .returned (.bool true) ∧ Rd w' R s p' 0 q0 ∧ ButS [R] w w' := by
  refine (must_any h t ht hp).mono ?_
  rintro e w' ⟨n, hn, rfl, hm⟩
  obtain ⟨h1, h2, h3⟩ := mustN_L s t _ 0 p rfl (Nat.zero_le _)
  rw [List.drop_zero, hr, hn] at h3
  by_cases he : n = t.size
  · rw [if_pos he] at h3
    injection h3 with _ h3
    subst h3 he
    exact ⟨by rw [decide_eq_true rfl], hm.ok rfl, hm.but⟩
  · rw [if_neg he] at h3; cases h3
theorem must_bad {w : World} {R : Nat} {s : ByteArray} {p p' : Nat} {e q0 : Int} (h : Rd w R s p 0 q0) (t : ByteArray) (ht : t.size ≤ 100) (hp : p ≤ 140737488355328) (hr : mustL s t.data.toList p = .bad e p') :
    Calls Tryd.prog 60 #[.pointer (some ⟨R, 0, none⟩), .string t] w fun x w' => x = .returned (.bool false) ∧ Rd w' R s p' e p' ∧ ButS [R] w w' := by
  refine (must_any h t ht hp).mono ?_
  rintro x w' ⟨n, hn, rfl, hm⟩
  obtain ⟨h1, h2, h3⟩ := mustN_L s t _ 0 p rfl (Nat.zero_le _)
  rw [List.drop_zero, hr, hn] at h3
  by_cases he : n = t.size
  · rw [if_pos he] at h3; cases h3
  · rw [if_neg he] at h3
    injection h3 with h3 h4
    subst h3 h4
    exact ⟨by rw [decide_eq_false he], hm.no (by omega), hm.but⟩
theorem mustL_le {s : ByteArray} : ∀ {l : List UInt8} {p p' : Nat}, mustL s l p = .ok () p' → p' = p + l.length ∧ (l = [] ∨ p' ≤ s.size)
  | [], p, p', h => by injection h with _ h; exact ⟨by simp [h], .inl rfl⟩
  | c :: r, p, p', h => by
    rw [mustL] at h
    cases hb : isB s p c.toNat
    · rw [mustR_no hb] at h; cases h
    · rw [mustR_yes hb] at h
      have h' : mustL s r (p + 1) = .ok () p' := h
      obtain ⟨h1, h2⟩ := mustL_le h'
      have := (of_decide_eq_true hb).1
      refine ⟨by rw [h1, List.length_cons]; omega, .inr ?_⟩
      rcases h2 with rfl | h2
      · simp at h1; omega
      · exact h2
/-- the map of a class's pieces -/
def ClsMap (w : World) (m : Nat) (l : List One) : Prop :=
  ∃ (n : Nat) (f : Value → Option Value), n ≤ l.length ∧ MapF KU w m n f ∧ ∀ u : One, f u.val = if u ∈ l then some (.int .i64 (l.count u : Nat)) else none
theorem ClsMap.block {w w' : World} {m : Nat} {l : List One} (h : ClsMap w m l) (he : w'.heap[m]? = w.heap[m]?) : ClsMap w' m l := by
  obtain ⟨n, f, h1, h2, h3⟩ := h
  exact ⟨n, f, h1, h2.block he, h3⟩
theorem ClsMap.lt {w : World} {m : Nat} {l : List One} (h : ClsMap w m l) : m < w.heap.size := by
  obtain ⟨n, f, h1, h2, h3⟩ := h
  exact h2.lt
theorem ClsMap.made (w : World) : ClsMap (w.alloc (.map #[] 0)) w.heap.size [] := ⟨0, _, Nat.le_refl _, MapF.made KU w, fun u => by simp⟩
theorem ClsMap.low {w w' : World} {m : Nat} {l : List One} (h : ClsMap w m l) (hb : Below w.heap.size w w') : ClsMap w' m l := h.block (hb.block m h.lt)
theorem ClsMap.but {w w' : World} {m : Nat} {l : List One} {S : List Nat} (h : ClsMap w m l) (hb : ButS S w w') (hm : m ∉ S) : ClsMap w' m l := h.block (hb.block m h.lt hm)
theorem ClsMap.ne {w : World} {A B : Nat} {u : TypeId} {b : Array Value} {l : List One} (h : ClsMap w A l) (k : Blk w B u b) : A ≠ B := by
  obtain ⟨n, f, h1, h2, h3⟩ := h
  exact mapF_ne h2 k
theorem zeroI (w : World) : (zeroValue 3).run Tryd.prog w = .ok (.int .i64 0) w := by kernel_rfl
theorem zeroS (w : World) : (zeroValue 9).run Tryd.prog w = .ok (.string ByteArray.empty) w := by kernel_rfl
theorem setBlk_at {w : World} {m : Nat} (h : m < w.heap.size) (o : Obj) : (setBlock w m o).heap[m]? = some o := by
  show (w.heap.setIfInBounds m o)[m]? = some o
  rw [Array.getElem?_setIfInBounds_self_of_lt h]
theorem setBlk_but (w : World) (m : Nat) (o : Obj) : ButS [m] w (setBlock w m o) :=
  ⟨rfl, rfl, rfl, by show w.heap.size ≤ (w.heap.setIfInBounds m o).size; simp, fun k hk hS => by
    show (w.heap.setIfInBounds m o)[k]? = w.heap[k]?
    rw [Array.getElem?_setIfInBounds_ne (fun e => hS (by rw [e]; simp))]⟩
/-- one piece more -/
theorem ClsMap.more {w : World} {m : Nat} {l : List One} (h : ClsMap w m l) (hl : l.length < 100) (u : One) (h1 : u.r ≤ 1114111) (h2 : u.b ≤ 255) :
    (Instr.lookup 132 (.map (some m)) u.val false).run Tryd.prog w = .ok (.int .i64 (l.count u : Nat)) w ∧
    ∃ (st : Nat) (o1 : Obj), (Instr.mapEntry 132 (.map (some m)) u.val).run Tryd.prog w = .ok (.tuple #[.int .i64 (l.count u : Nat), goInt st]) (setBlock w m o1) ∧
      (∀ w2 : World, w2.heap[m]? = some o1 → (Instr.lookup 132 (.map (some m)) u.val false).run Tryd.prog w2 = .ok (.int .i64 (l.count u : Nat)) w2) ∧
      ∀ (w2 : World), w2.heap[m]? = some o1 → ∃ o2, (Instr.entryStore 132 (.map (some m)) (.int .i64 st) (.int .i64 ((l.count u : Nat) + 1))).run Tryd.prog w2 = .ok () (setBlock w2 m o2) ∧ ∀ w3 : World, w3.heap[m]? = some o2 → ClsMap w3 m (l ++ [u]) := by
  obtain ⟨n, f, g1, g2, g3⟩ := h
  have hz : (f u.val).getD (.int .i64 0) = .int .i64 (l.count u : Nat) := by
    rw [g3 u]
    by_cases hu : u ∈ l
    · rw [if_pos hu]; rfl
    · rw [if_neg hu, List.count_eq_zero_of_not_mem hu]; rfl
  have hk : KU u.val := ⟨u, h1, h2, rfl⟩
  obtain ⟨st, o1, e1, e2, e3⟩ := g2.entry2 keysU Tryd.underlying132 zeroI (by unfold maxLen; omega) hk
  rw [hz] at e1 e2
  refine ⟨?_, st, o1, e1, fun w2 hw2 => ?_, fun w2 hw2 => ?_⟩
  · have := g2.look keysU Tryd.underlying132 (zeroI w) hk false
    rw [hz] at this
    exact this
  · have := (e2 w2 hw2).look keysU Tryd.underlying132 (zeroI w2) hk false
    rw [updF_same] at this
    exact this
  · obtain ⟨o2, e4, e5⟩ := e3 w2 (.int .i64 ((l.count u : Nat) + 1)) hw2
    refine ⟨o2, e4, fun w3 hw3 => ⟨n + 1, _, by simp; omega, e5 w3 hw3, fun u' => ?_⟩⟩
    by_cases hu : u' = u
    · subst hu
      rw [updF_same, if_pos (by simp), List.count_append, List.count_singleton_self]
      rfl
    · rw [updF_ne _ _ (fun e => hu (One.val_inj e)), g3 u', List.count_append]
      by_cases hm : u' ∈ l
      · rw [if_pos hm, if_pos (by simp [hm]), show List.count u' [u] = 0 from List.count_eq_zero_of_not_mem (by simpa using hu), Nat.add_zero]
      · rw [if_neg hm, if_neg (by simp [hm, hu])]
/-- what a map of the classes says of one -/
def ClsV (w : World) (mc ml : Nat) (o : Option (ByteArray × List One)) (v : Option Value) : Prop :=
  (o = none ∧ v = none) ∨ ∃ (y : ByteArray × List One) (m : Nat), o = some y ∧ v = some (.map (some m)) ∧ m ≠ mc ∧ m ≠ ml ∧ ClsMap w m y.2
/-- rules in memory, but for the row of the rules -/
structure RsAt (w : World) (X mc ml : Nat) (v : Value) (x : Rs) (k : Nat) : Prop where
  b : Blk w X 84 #[.map (some mc), .map (some ml), v]
  ne : mc ≠ ml
  c : ∃ (n : Nat) (f : Value → Option Value), n ≤ k ∧ MapF KB w mc n f ∧ ∀ c : Nat, 65 ≤ c → c ≤ 90 → ClsV w mc ml (x.cls (c - 65)) (f (.int .u8 c))
  l : ∃ (n : Nat) (f : Value → Option Value), n ≤ k ∧ MapF KB w ml n f ∧ ∀ c : Nat, 65 ≤ c → c ≤ 90 → f (.int .u8 c) = (x.cls (c - 65)).map (fun y => .string y.1)
section
variable {w w' : World} {X mc ml k : Nat} {v : Value} {x : Rs}
theorem RsAt.low (h : RsAt w X mc ml v x k) (hb : Below w.heap.size w w') : RsAt w' X mc ml v x k := by
  obtain ⟨b, ne, ⟨n, f, c1, c2, c3⟩, ⟨n', f', l1, l2, l3⟩⟩ := h
  refine ⟨b.low hb, ne, ⟨n, f, c1, c2.low hb, fun c h1 h2 => ?_⟩, ⟨n', f', l1, l2.low hb, l3⟩⟩
  rcases c3 c h1 h2 with h | ⟨y, m, e1, e2, e3, e4, e5⟩
  · exact .inl h
  · exact .inr ⟨y, m, e1, e2, e3, e4, e5.low hb⟩
/-- blocks of cells may turn, but that of the rules -/
theorem RsAt.but {S : List Nat} (h : RsAt w X mc ml v x k) (hb : ButS S w w') (hX : X ∉ S) (hS : ∀ B ∈ S, ∃ t a, Blk w B t a) : RsAt w' X mc ml v x k := by
  obtain ⟨b, ne, ⟨n, f, c1, c2, c3⟩, ⟨n', f', l1, l2, l3⟩⟩ := h
  have hm : ∀ {m n : Nat} {KS : Value → Prop} {g : Value → Option Value}, MapF KS w m n g → m ∉ S := fun hm hs => by
    obtain ⟨t, a, hk⟩ := hS _ hs
    exact mapF_ne hm hk rfl
  refine ⟨hb.blk b hX, ne, ⟨n, f, c1, c2.but hb (hm c2), fun c h1 h2 => ?_⟩, ⟨n', f', l1, l2.but hb (hm l2), l3⟩⟩
  rcases c3 c h1 h2 with h | ⟨y, m, e1, e2, e3, e4, e5⟩
  · exact .inl h
  · exact .inr ⟨y, m, e1, e2, e3, e4, e5.but hb (fun hs => by obtain ⟨t, a, hk⟩ := hS _ hs; exact e5.ne hk rfl)⟩
theorem RsAt.cls (h : RsAt w X mc ml v x k) : Cls w X x.said := by
  obtain ⟨b, ne, ⟨n, f, c1, c2, c3⟩, _⟩ := h
  refine ⟨mc, _, v, n, f, b, c2, fun c h1 h2 => ?_⟩
  unfold Rs.said
  rcases c3 c h1 h2 with ⟨e1, e2⟩ | ⟨y, m, e1, e2, _⟩
  · rw [e1, e2]; rfl
  · rw [e1, e2]; rfl
end
/-- a class is said: its two entries -/
theorem RsAt.addC {w : World} {X mc ml k M : Nat} {v : Value} {x : Rs} {s : ByteArray} {l : List One} {c : Nat} (h : RsAt w X mc ml v x k) (hk : k ≤ 1000000) (hc : byteN s 0 = c) (h1 : 65 ≤ c) (h2 : c ≤ 90) (hM : ClsMap w M l) (m1 : M ≠ mc) (m2 : M ≠ ml) :
    ∃ (st : Nat) (o1 : Obj) (v1 : Value), (Instr.mapEntry 80 (.map (some mc)) (.int .u8 c)).run Tryd.prog w = .ok (.tuple #[v1, goInt st]) (setBlock w mc o1) ∧
      ∀ w2 : World, w2.heap[mc]? = some o1 → ∃ o2, (Instr.entryStore 80 (.map (some mc)) (.int .i64 st) (.map (some M))).run Tryd.prog w2 = .ok () (setBlock w2 mc o2) ∧
        ∀ w3 : World, ButS [mc] w w3 → ∃ (st' : Nat) (o3 : Obj) (v3 : Value), (Instr.mapEntry 81 (.map (some ml)) (.int .u8 c)).run Tryd.prog w3 = .ok (.tuple #[v3, goInt st']) (setBlock w3 ml o3) ∧
          ∀ w4 : World, w4.heap[ml]? = some o3 → ∃ o4, (Instr.entryStore 81 (.map (some ml)) (.int .i64 st') (.string s)).run Tryd.prog w4 = .ok () (setBlock w4 ml o4) ∧
            ∀ w5 : World, ButS [mc, ml] w w5 → w5.heap[mc]? = some o2 → w5.heap[ml]? = some o4 → RsAt w5 X mc ml v (x.addC s l) (k + 1) := by
  obtain ⟨b, ne, ⟨n, f, c1, c2, c3⟩, ⟨n', f', l1, l2, l3⟩⟩ := h
  have hkb : KB (.int .u8 c) := ⟨c, by omega, rfl⟩
  obtain ⟨st, o1, e1, _, e3⟩ := c2.entry2 keysB Tryd.underlying80 zero132 (by unfold maxLen; omega) hkb
  refine ⟨st, o1, _, e1, fun w2 hw2 => ?_⟩
  obtain ⟨o2, e4, e5⟩ := e3 w2 (.map (some M)) hw2
  refine ⟨o2, e4, fun w3 hw3 => ?_⟩
  obtain ⟨st', o3, e6, _, e7⟩ := (l2.but hw3 (by simpa using ne.symm)).entry2 keysB Tryd.underlying81 zeroS (by unfold maxLen; omega) hkb
  refine ⟨st', o3, _, e6, fun w4 hw4 => ?_⟩
  obtain ⟨o4, e8, e9⟩ := e7 w4 (.string s) hw4
  refine ⟨o4, e8, fun w5 hw5 hmc hml => ?_⟩
  have hX1 : X ∉ [mc, ml] := by
    simp only [List.mem_cons, List.not_mem_nil, or_false, not_or]
    exact ⟨fun e => mapF_ne c2 b e.symm, fun e => mapF_ne l2 b e.symm⟩
  have hidx : ∀ c' : Nat, 65 ≤ c' → c' ≤ 90 → c' ≠ c → (x.addC s l).cls (c' - 65) = x.cls (c' - 65) := by
    intro c' g1 g2 hne
    show (if c' - 65 = byteN s 0 - 65 then _ else _) = _
    rw [if_neg (by omega)]
  have hsame : (x.addC s l).cls (c - 65) = some (s, l) := by
    show (if c - 65 = byteN s 0 - 65 then _ else _) = _
    rw [if_pos (by omega)]
  have hval : ∀ c' : Nat, c' ≠ c → (Value.int .u8 c' : Value) ≠ .int .u8 c := fun c' hne e => by injection e with _ e; omega
  refine ⟨hw5.blk b hX1, ne, ⟨n + 1, _, by omega, e5 w5 hmc, fun c' g1 g2 => ?_⟩, ⟨n' + 1, _, by omega, e9 w5 hml, fun c' g1 g2 => ?_⟩⟩
  · by_cases hcc : c' = c
    · subst hcc
      rw [hsame, updF_same]
      exact .inr ⟨_, M, rfl, rfl, m1, m2, hM.but hw5 (by simp [m1, m2])⟩
    · rw [hidx c' g1 g2 hcc, updF_ne _ _ (hval c' hcc)]
      rcases c3 c' g1 g2 with h | ⟨y, m, a1, a2, a3, a4, a5⟩
      · exact .inl h
      · exact .inr ⟨y, m, a1, a2, a3, a4, a5.but hw5 (by simp [a3, a4])⟩
  · by_cases hcc : c' = c
    · subst hcc
      rw [hsame, updF_same]
      rfl
    · rw [hidx c' g1 g2 hcc, updF_ne _ _ (hval c' hcc)]
      exact l3 c' g1 g2
end Go.Proofs.YtieifhfgedoiaaaDoor
