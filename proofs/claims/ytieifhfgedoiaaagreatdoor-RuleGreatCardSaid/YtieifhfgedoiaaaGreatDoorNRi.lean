/- A class's line. Conditions: those of each theorem. -/
import Derived.Test.YtieifhfgedoiaaaGreatDoorNMq
namespace Go.Proofs.YtieifhfgedoiaaaGreatDoor
open Go.RowKit Go.Lib
open Go.ChangeMaps
set_option linter.unusedVariables false
set_option linter.unusedSimpArgs false
attribute [local go_sem] ExtS.cell ExtS.froz upE_value upE_skip upE_enter
def mustL (s : ByteArray) : List UInt8 → Nat → Res Unit
 | [], p => .ok () p
 | c :: r, p => (mustR s p c.toNat).bind fun _ p => mustL s r p
theorem mustN_L (s t : ByteArray) : ∀ (k j p : Nat), t.size - j = k → j ≤ t.size → j ≤ mustN s p t j ∧ mustN s p t j ≤ t.size ∧ mustL s (t.data.toList.drop j) p = if mustN s p t j = t.size then .ok () (p + (t.size - j)) else .bad 90 (p + (mustN s p t j - j))
 | 0, j, p, hk, hj => by
  have e : j = t.size := by omega
  subst e
  have hm : mustN s p t t.size = t.size := by rw [mustN, dif_neg (by omega)]
  rw [hm]
  refine ⟨Nat.le_refl _, Nat.le_refl _, ?_⟩
  rw [if_pos rfl, List.drop_eq_nil_of_le (by show t.data.toList.length ≤ t.data.size; simp)]
  simp [mustL]
 | k + 1, j, p, hk, hj => by
  have hlt : j < t.size := by omega
  have hd : t.data.toList.drop j = (t[j]'hlt) :: t.data.toList.drop (j + 1) := List.drop_eq_getElem_cons (by simpa using hlt)
  rw [hd, mustL]
  cases hb : isB s p (t[j]'hlt).toNat
  ·have hm : mustN s p t j = j := by rw [mustN, dif_pos hlt, if_neg (by rw [hb]; simp)]
   rw [hm, mustR_no hb]
   refine ⟨Nat.le_refl _, hj, ?_⟩
   rw [if_neg (by omega)]
   simp [Res.bind]
  ·have hm : mustN s p t j = mustN s (p + 1) t (j + 1) := by rw [mustN, dif_pos hlt, if_pos hb]
   obtain ⟨h1, h2, h3⟩ := mustN_L s t k (j + 1) (p + 1) (by omega) (by omega)
   rw [hm, mustR_yes hb]
   refine ⟨by omega, h2, ?_⟩
   show mustL s _ (p + 1) = _
   rw [h3]
   by_cases he : mustN s (p + 1) t (j + 1) = t.size
   ·rw [if_pos he, if_pos he]; congr 1; omega
   ·rw [if_neg he, if_neg he]; congr 1; omega
theorem must_ok {w : World} {R : Nat} {s : ByteArray} {p p' : Nat} {q0 : Int} (h : Rd w R s p 0 q0) (t : ByteArray) (ht : t.size ≤ 100) (hp : p ≤ 140737488355328) (hr : mustL s t.data.toList p = .ok () p') :
  Calls Tryz.prog 39 #[.pointer (some ⟨R, 0, none⟩), .string t] w fun x w' => x = .returned (.bool true) ∧ Rd w' R s p' 0 q0 ∧ ButS [R] w w' := by
 refine (must_any h t ht hp).mono ?_
 rintro e w' ⟨n, hn, rfl, hm⟩
 obtain ⟨h1, h2, h3⟩ := mustN_L s t _ 0 p rfl (Nat.zero_le _)
 rw [List.drop_zero, hr, hn] at h3
 by_cases he : n = t.size
 ·rw [if_pos he] at h3
  injection h3 with _ h3
  subst h3 he
  exact ⟨by rw [decide_eq_true rfl], hm.ok rfl, hm.but⟩
 ·rw [if_neg he] at h3; cases h3
theorem must_bad {w : World} {R : Nat} {s : ByteArray} {p p' : Nat} {e q0 : Int} (h : Rd w R s p 0 q0) (t : ByteArray) (ht : t.size ≤ 100) (hp : p ≤ 140737488355328) (hr : mustL s t.data.toList p = .bad e p') :
  Calls Tryz.prog 39 #[.pointer (some ⟨R, 0, none⟩), .string t] w fun x w' => x = .returned (.bool false) ∧ Rd w' R s p' e p' ∧ ButS [R] w w' := by
 refine (must_any h t ht hp).mono ?_
 rintro x w' ⟨n, hn, rfl, hm⟩
 obtain ⟨h1, h2, h3⟩ := mustN_L s t _ 0 p rfl (Nat.zero_le _)
 rw [List.drop_zero, hr, hn] at h3
 by_cases he : n = t.size
 ·rw [if_pos he] at h3; cases h3
 ·rw [if_neg he] at h3
  injection h3 with h3 h4
  subst h3 h4
  exact ⟨by rw [decide_eq_false he], hm.no (by omega), hm.but⟩
theorem mustL_le {s : ByteArray} : ∀ {l : List UInt8} {p p' : Nat}, mustL s l p = .ok () p' → p' = p + l.length ∧ (l = [] ∨ p' ≤ s.size)
 | [], p, p', h => by injection h with _ h; exact ⟨by simp [h], .inl rfl⟩
 | c :: r, p, p', h => by
  rw [mustL] at h
  cases hb : isB s p c.toNat
  ·rw [mustR_no hb] at h; cases h
  ·rw [mustR_yes hb] at h
   have h' : mustL s r (p + 1) = .ok () p' := h
   obtain ⟨h1, h2⟩ := mustL_le h'
   have := (of_decide_eq_true hb).1
   refine ⟨by rw [h1, List.length_cons]; omega, .inr ?_⟩
   rcases h2 with rfl | h2
   ·simp at h1; omega
   ·exact h2
def ClsMap (w : World) (m : Nat) (l : List One) : Prop :=
 ∃ (n : Nat) (f : Value → Option Value), n ≤ l.length ∧ MapF KU w m n f ∧ ∀ u : One, f u.val = if u ∈ l then some (.int .i64 (l.count u : Nat)) else none
theorem ClsMap.block {w w' : World} {m : Nat} {l : List One} (h : ClsMap w m l) (he : w'.heap[m]? = w.heap[m]?) : ClsMap w' m l := by
 obtain ⟨n, f, h1, h2, h3⟩ := h
 exact ⟨n, f, h1, h2.block he, h3⟩
theorem ClsMap.lt {w : World} {m : Nat} {l : List One} (h : ClsMap w m l) : m < w.heap.size := by
 obtain ⟨n, f, h1, h2, h3⟩ := h
 exact h2.lt
theorem ClsMap.made (w : World) : ClsMap (w.alloc (.map #[] 0)) w.heap.size [] := ⟨0, _, Nat.le_refl _, MapF.made KU w, fun u => by simp⟩
theorem ClsMap.low {w w' : World} {m : Nat} {l : List One} (h : ClsMap w m l) (hb : Below w.heap.size w w') : ClsMap w' m l := h.block (hb.block m h.lt)
theorem ClsMap.but {w w' : World} {m : Nat} {l : List One} {S : List Nat} (h : ClsMap w m l) (hb : ButS S w w') (hm : m ∉ S) : ClsMap w' m l := h.block (hb.block m h.lt hm)
theorem ClsMap.ne {w : World} {A B : Nat} {u : TypeId} {b : Array Value} {l : List One} (h : ClsMap w A l) (k : Blk w B u b) : A ≠ B := by
 obtain ⟨n, f, h1, h2, h3⟩ := h
 exact mapF_ne h2 k
theorem zeroI (w : World) : (zeroValue 3).run Tryz.prog w = .ok (.int .i64 0) w := by kernel_rfl
theorem zeroS (w : World) : (zeroValue 9).run Tryz.prog w = .ok (.string ByteArray.empty) w := by kernel_rfl
theorem setBlk_at {w : World} {m : Nat} (h : m < w.heap.size) (o : Obj) : (setBlock w m o).heap[m]? = some o := by
 show (w.heap.setIfInBounds m o)[m]? = some o
 rw [Array.getElem?_setIfInBounds_self_of_lt h]
theorem setBlk_but (w : World) (m : Nat) (o : Obj) : ButS [m] w (setBlock w m o) :=
 ⟨rfl, rfl, rfl, by show w.heap.size ≤ (w.heap.setIfInBounds m o).size; simp, fun k hk hS => by
  show (w.heap.setIfInBounds m o)[k]? = w.heap[k]?
  rw [Array.getElem?_setIfInBounds_ne (fun e => hS (by rw [e]; simp))]⟩
theorem ClsMap.more {w : World} {m : Nat} {l : List One} (h : ClsMap w m l) (hl : l.length < 100) (u : One) (h1 : u.r ≤ 1114111) (h2 : u.b ≤ 255) :
  (Instr.lookup 106 (.map (some m)) u.val false).run Tryz.prog w = .ok (.int .i64 (l.count u : Nat)) w ∧
  ∃ (st : Nat) (o1 : Obj), (Instr.mapEntry 106 (.map (some m)) u.val).run Tryz.prog w = .ok (.tuple #[.int .i64 (l.count u : Nat), goInt st]) (setBlock w m o1) ∧
   (∀ w2 : World, w2.heap[m]? = some o1 → (Instr.lookup 106 (.map (some m)) u.val false).run Tryz.prog w2 = .ok (.int .i64 (l.count u : Nat)) w2) ∧
   ∀ (w2 : World), w2.heap[m]? = some o1 → ∃ o2, (Instr.entryStore 106 (.map (some m)) (.int .i64 st) (.int .i64 ((l.count u : Nat) + 1))).run Tryz.prog w2 = .ok () (setBlock w2 m o2) ∧ ∀ w3 : World, w3.heap[m]? = some o2 → ClsMap w3 m (l ++ [u]) := by
 obtain ⟨n, f, g1, g2, g3⟩ := h
 have hz : (f u.val).getD (.int .i64 0) = .int .i64 (l.count u : Nat) := by
  rw [g3 u]
  by_cases hu : u ∈ l
  ·rw [if_pos hu]; rfl
  ·rw [if_neg hu, List.count_eq_zero_of_not_mem hu]; rfl
 have hk : KU u.val := ⟨u, h1, h2, rfl⟩
 obtain ⟨st, o1, e1, e2, e3⟩ := g2.entry2 keysU Tryz.underlying106 zeroI (by unfold maxLen; omega) hk
 rw [hz] at e1 e2
 refine ⟨?_, st, o1, e1, fun w2 hw2 => ?_, fun w2 hw2 => ?_⟩
 ·have := g2.look keysU Tryz.underlying106 (zeroI w) hk false
  rw [hz] at this
  exact this
 ·have := (e2 w2 hw2).look keysU Tryz.underlying106 (zeroI w2) hk false
  rw [updF_same] at this
  exact this
 ·obtain ⟨o2, e4, e5⟩ := e3 w2 (.int .i64 ((l.count u : Nat) + 1)) hw2
  refine ⟨o2, e4, fun w3 hw3 => ⟨n + 1, _, by simp; omega, e5 w3 hw3, fun u' => ?_⟩⟩
  by_cases hu : u' = u
  ·subst hu
   rw [updF_same, if_pos (by simp), List.count_append, List.count_singleton_self]
   rfl
  ·rw [updF_ne _ _ (fun e => hu (One.val_inj e)), g3 u', List.count_append]
   by_cases hm : u' ∈ l
   ·rw [if_pos hm, if_pos (by simp [hm]), show List.count u' [u] = 0 from List.count_eq_zero_of_not_mem (by simpa using hu), Nat.add_zero]
   ·rw [if_neg hm, if_neg (by simp [hm, hu])]
def ClsV (w : World) (mc ml : Nat) (o : Option (ByteArray × List One)) (v : Option Value) : Prop :=
 (o = none ∧ v = none) ∨ ∃ (y : ByteArray × List One) (m : Nat), o = some y ∧ v = some (.map (some m)) ∧ m ≠ mc ∧ m ≠ ml ∧ ClsMap w m y.2
structure RsAt (w : World) (X mc ml : Nat) (v : Value) (x : Rs) (k : Nat) : Prop where
 b : Blk w X 65 #[.map (some mc), .map (some ml), v]
 ne : mc ≠ ml
 c : ∃ (n : Nat) (f : Value → Option Value), n ≤ k ∧ MapF KB w mc n f ∧ ∀ c : Nat, 65 ≤ c → c ≤ 90 → ClsV w mc ml (x.cls (c - 65)) (f (.int .u8 c))
 l : ∃ (n : Nat) (f : Value → Option Value), n ≤ k ∧ MapF KB w ml n f ∧ ∀ c : Nat, 65 ≤ c → c ≤ 90 → f (.int .u8 c) = (x.cls (c - 65)).map (fun y => .string y.1)
section
variable {w w' : World} {X mc ml k : Nat} {v : Value} {x : Rs}
theorem RsAt.low (h : RsAt w X mc ml v x k) (hb : Below w.heap.size w w') : RsAt w' X mc ml v x k := by
 obtain ⟨b, ne, ⟨n, f, c1, c2, c3⟩, ⟨n', f', l1, l2, l3⟩⟩ := h
 refine ⟨b.low hb, ne, ⟨n, f, c1, c2.low hb, fun c h1 h2 => ?_⟩, ⟨n', f', l1, l2.low hb, l3⟩⟩
 rcases c3 c h1 h2 with h | ⟨y, m, e1, e2, e3, e4, e5⟩
 ·exact .inl h
 ·exact .inr ⟨y, m, e1, e2, e3, e4, e5.low hb⟩
theorem RsAt.but {S : List Nat} (h : RsAt w X mc ml v x k) (hb : ButS S w w') (hX : X ∉ S) (hS : ∀ B ∈ S, ∃ t a, Blk w B t a) : RsAt w' X mc ml v x k := by
 obtain ⟨b, ne, ⟨n, f, c1, c2, c3⟩, ⟨n', f', l1, l2, l3⟩⟩ := h
 have hm : ∀ {m n : Nat} {KS : Value → Prop} {g : Value → Option Value}, MapF KS w m n g → m ∉ S := fun hm hs => by
  obtain ⟨t, a, hk⟩ := hS _ hs
  exact mapF_ne hm hk rfl
 refine ⟨hb.blk b hX, ne, ⟨n, f, c1, c2.but hb (hm c2), fun c h1 h2 => ?_⟩, ⟨n', f', l1, l2.but hb (hm l2), l3⟩⟩
 rcases c3 c h1 h2 with h | ⟨y, m, e1, e2, e3, e4, e5⟩
 ·exact .inl h
 ·exact .inr ⟨y, m, e1, e2, e3, e4, e5.but hb (fun hs => by obtain ⟨t, a, hk⟩ := hS _ hs; exact e5.ne hk rfl)⟩
theorem RsAt.cls (h : RsAt w X mc ml v x k) : Cls w X x.said := by
 obtain ⟨b, ne, ⟨n, f, c1, c2, c3⟩, _⟩ := h
 refine ⟨mc, _, v, n, f, b, c2, fun c h1 h2 => ?_⟩
 unfold Rs.said
 rcases c3 c h1 h2 with ⟨e1, e2⟩ | ⟨y, m, e1, e2, _⟩
 ·rw [e1, e2]; rfl
 ·rw [e1, e2]; rfl
end
theorem RsAt.addC {w : World} {X mc ml k M : Nat} {v : Value} {x : Rs} {s : ByteArray} {l : List One} {c : Nat} (h : RsAt w X mc ml v x k) (hk : k ≤ 1000000) (hc : byteN s 0 = c) (h1 : 65 ≤ c) (h2 : c ≤ 90) (hM : ClsMap w M l) (m1 : M ≠ mc) (m2 : M ≠ ml) :
  ∃ (st : Nat) (o1 : Obj) (v1 : Value), (Instr.mapEntry 61 (.map (some mc)) (.int .u8 c)).run Tryz.prog w = .ok (.tuple #[v1, goInt st]) (setBlock w mc o1) ∧
   ∀ w2 : World, w2.heap[mc]? = some o1 → ∃ o2, (Instr.entryStore 61 (.map (some mc)) (.int .i64 st) (.map (some M))).run Tryz.prog w2 = .ok () (setBlock w2 mc o2) ∧
    ∀ w3 : World, ButS [mc] w w3 → ∃ (st' : Nat) (o3 : Obj) (v3 : Value), (Instr.mapEntry 62 (.map (some ml)) (.int .u8 c)).run Tryz.prog w3 = .ok (.tuple #[v3, goInt st']) (setBlock w3 ml o3) ∧
     ∀ w4 : World, w4.heap[ml]? = some o3 → ∃ o4, (Instr.entryStore 62 (.map (some ml)) (.int .i64 st') (.string s)).run Tryz.prog w4 = .ok () (setBlock w4 ml o4) ∧
      ∀ w5 : World, ButS [mc, ml] w w5 → w5.heap[mc]? = some o2 → w5.heap[ml]? = some o4 → RsAt w5 X mc ml v (x.addC s l) (k + 1) := by
 obtain ⟨b, ne, ⟨n, f, c1, c2, c3⟩, ⟨n', f', l1, l2, l3⟩⟩ := h
 have hkb : KB (.int .u8 c) := ⟨c, by omega, rfl⟩
 obtain ⟨st, o1, e1, _, e3⟩ := c2.entry2 keysB Tryz.underlying61 zero132 (by unfold maxLen; omega) hkb
 refine ⟨st, o1, _, e1, fun w2 hw2 => ?_⟩
 obtain ⟨o2, e4, e5⟩ := e3 w2 (.map (some M)) hw2
 refine ⟨o2, e4, fun w3 hw3 => ?_⟩
 obtain ⟨st', o3, e6, _, e7⟩ := (l2.but hw3 (by simpa using ne.symm)).entry2 keysB Tryz.underlying62 zeroS (by unfold maxLen; omega) hkb
 refine ⟨st', o3, _, e6, fun w4 hw4 => ?_⟩
 obtain ⟨o4, e8, e9⟩ := e7 w4 (.string s) hw4
 refine ⟨o4, e8, fun w5 hw5 hmc hml => ?_⟩
 have hX1 : X ∉ [mc, ml] := by
  simp only [List.mem_cons, List.not_mem_nil, or_false, not_or]
  exact ⟨fun e => mapF_ne c2 b e.symm, fun e => mapF_ne l2 b e.symm⟩
 have hidx : ∀ c' : Nat, 65 ≤ c' → c' ≤ 90 → c' ≠ c → (x.addC s l).cls (c' - 65) = x.cls (c' - 65) := by
  intro c' g1 g2 hne
  show (if c' - 65 = byteN s 0 - 65 then _ else _) = _
  rw [if_neg (by omega)]
 have hsame : (x.addC s l).cls (c - 65) = some (s, l) := by
  show (if c - 65 = byteN s 0 - 65 then _ else _) = _
  rw [if_pos (by omega)]
 have hval : ∀ c' : Nat, c' ≠ c → (Value.int .u8 c' : Value) ≠ .int .u8 c := fun c' hne e => by injection e with _ e; omega
 refine ⟨hw5.blk b hX1, ne, ⟨n + 1, _, by omega, e5 w5 hmc, fun c' g1 g2 => ?_⟩, ⟨n' + 1, _, by omega, e9 w5 hml, fun c' g1 g2 => ?_⟩⟩
 ·by_cases hcc : c' = c
  ·subst hcc
   rw [hsame, updF_same]
   exact .inr ⟨_, M, rfl, rfl, m1, m2, hM.but hw5 (by simp [m1, m2])⟩
  ·rw [hidx c' g1 g2 hcc, updF_ne _ _ (hval c' hcc)]
   rcases c3 c' g1 g2 with h | ⟨y, m, a1, a2, a3, a4, a5⟩
   ·exact .inl h
   ·exact .inr ⟨y, m, a1, a2, a3, a4, a5.but hw5 (by simp [a3, a4])⟩
 ·by_cases hcc : c' = c
  ·subst hcc
   rw [hsame, updF_same]
   rfl
  ·rw [hidx c' g1 g2 hcc, updF_ne _ _ (hval c' hcc)]
   exact l3 c' g1 g2
end Go.Proofs.YtieifhfgedoiaaaGreatDoor
/- A class's line, walked. Conditions: those of each theorem. -/
namespace Go.Proofs.YtieifhfgedoiaaaGreatDoor
open Go.RowKit Go.Lib
open Go.ChangeMaps
set_option linter.unusedVariables false
set_option linter.unusedSimpArgs false
attribute [local go_sem] ExtS.cell ExtS.froz upE_value upE_skip upE_enter
theorem classR_eq {x : Rs} {s : ByteArray} (h : x.said (byteN s 0 - 65) = false) : classR x s = (mustL s [32, 61, 32] 1).bind fun _ p => (piecesR s p []).bind fun l p => if p < s.size then .bad 90 p else .ok l p := by
 unfold classR
 rw [if_neg (by rw [h]; simp)]
 simp only [mustL]
 cases h1 : isB s 1 32
 ·have e : isB s 1 (32 : UInt8).toNat = false := h1
  rw [mustR_no h1, mustR_no e]; rfl
 ·have e : isB s 1 (32 : UInt8).toNat = true := h1
  rw [mustR_yes h1, mustR_yes e]
  show (mustR s 2 61).bind _ = ((mustR s 2 (61 : UInt8).toNat).bind _).bind _
  cases h2 : isB s 2 61
  ·have e : isB s 2 (61 : UInt8).toNat = false := h2
   rw [mustR_no h2, mustR_no e]; rfl
  ·have e : isB s 2 (61 : UInt8).toNat = true := h2
   rw [mustR_yes h2, mustR_yes e]
   show (mustR s 3 32).bind _ = ((mustR s 3 (32 : UInt8).toNat).bind _).bind _
   cases h3 : isB s 3 32
   ·have e : isB s 3 (32 : UInt8).toNat = false := h3
    rw [mustR_no h3, mustR_no e]; rfl
   ·have e : isB s 3 (32 : UInt8).toNat = true := h3
    rw [mustR_yes h3, mustR_yes e]; rfl
theorem ButS.later {S T : List Nat} {a b c : World} (h : ButS S a b) (k : ButS T b c) (hT : ∀ x ∈ T, a.heap.size ≤ x ∨ x ∈ S) : ButS S a c :=
 ⟨k.os.trans h.os, k.tape.trans h.tape, k.output.trans h.output, Nat.le_trans h.size k.size, fun i hi hS => (k.block i (Nat.lt_of_lt_of_le hi h.size) (fun hi' => by
  rcases hT i hi' with h1 | h1
  ·omega
  ·exact hS h1)).trans (h.block i hi hS)⟩
theorem one_bd {s : ByteArray} {p : Nat} (h : plB s p = true) : (oneAt s p).r ≤ 1114111 ∧ (oneAt s p).b ≤ 255 := by
 have h1 := rn_bd (plB_lt h)
 have h2 := UInt8.toNat_lt (s.get! p)
 unfold oneAt
 split
 ·exact ⟨by simp, by simp; omega⟩
 ·exact ⟨h1, by simp⟩
theorem at_lt {w : World} {m : Nat} {o : Obj} (h : w.heap[m]? = some o) : m < w.heap.size := (Array.getElem?_eq_some_iff.1 h).1
theorem at_low {w w' : World} {m : Nat} {o : Obj} (h : w.heap[m]? = some o) (hb : Below w.heap.size w w') : w'.heap[m]? = some o := (hb.block m (at_lt h)).trans h
theorem at_but {w w' : World} {m : Nat} {o : Obj} {S : List Nat} (h : w.heap[m]? = some o) (hb : ButS S w w') (hm : m ∉ S) : w'.heap[m]? = some o := (hb.block m (at_lt h) hm).trans h
def LinePost (w w' : World) (X mc ml R : Nat) (v : Value) (s : ByteArray) (k : Nat) (o : Out) (b : Bool) : Prop :=
 match o with
 | .ok y => b = true ∧ RsAt w' X mc ml v y (k + 1) ∧ ButS [R, mc, ml] w w'
 | .bad e q => b = false ∧ (∃ p, Rd w' R s p e q) ∧ ButS [R] w w'
set_option maxRecDepth 100000 in
set_option maxHeartbeats 4000000 in
theorem class_any {w : World} {R X mc ml k : Nat} {v : Value} {s : ByteArray} {x : Rs} (h : Rd w R s 0 0 0) (hx : RsAt w X mc ml v x k) (hk : k ≤ 1000000) (hs : s.size ≤ 140737488355328) (hi : isC s = true) :
  Calls Tryz.prog 25 #[.pointer (some ⟨X, 0, none⟩), .pointer (some ⟨R, 0, none⟩)] w fun e w' => ∃ b, e = .returned (.bool b) ∧ LinePost w w' X mc ml R v s k (clsR x s) b := by
 obtain ⟨hs1, hn1, hn2, _⟩ := of_decide_eq_true hi
 have hH := hid h
 have hX := hid hx
 have hcN := get_eqN s 0 (by omega)
 obtain ⟨c, hc⟩ : ∃ c, (s[0]'(by omega)).toNat = c := ⟨_, rfl⟩
 rw [hc] at hcN
 have hCN := hid hcN
 have hCL : Hid (65 ≤ c) := hid (by omega)
 have hCH : Hid (c ≤ 90) := hid (by omega)
 have nXR : X ≠ R := blk_ne hx.b h.b (by decide)
 have hcls := hx.cls
 obtain ⟨mc', ml', xv, nc, f, xb, xm, xf⟩ := hcls
 have hsd := xf c hCL.out hCH.out
 obtain ⟨sb, hsb⟩ : ∃ sb, x.said (c - 65) = sb := ⟨_, rfl⟩
 obtain ⟨mv, hmv⟩ : ∃ mv, (f (.int .u8 c)).getD (.map none) = mv := ⟨_, rfl⟩
 rw [hsb] at hsd
 have hL : (Instr.lookup 61 (.map (some mc')) (.int .u8 c) true).run Tryz.prog w = .ok (.tuple #[mv, .bool sb]) w := by
  have := xm.look keysB Tryz.underlying61 (zero132 w) (key := .int .u8 c) ⟨c, by have := hCH.out; omega, rfl⟩ true
  rw [hmv, hsd] at this
  exact this
 obtain ⟨x0, _, _, xfr⟩ := xb.c3
 have c0 := h.c0
 have c1 := h.c1
 have fr := h.fr
 have q0 := dT (show 0 < s.size by omega)
 clear hsd hmv xm xf xb hx hi hn1 hn2 hcN
 have hSB : Hid (x.said (byteN s 0 - 65) = sb) := by rw [hCN.out]; exact hsb
 clear hsb
 cases sb
 ·have hE0 : Hid (clsR x s = match ((mustL s [32, 61, 32] 1).bind fun _ p => (piecesR s p []).bind fun l p => if p < s.size then .bad 90 p else .ok l p : Res (List One)) with
   | .ok l _ => .ok (x.addC s l)
   | .bad e p => .bad e p) := by unfold clsR; rw [classR_eq hSB.out]; exact hid rfl
  have hG : Hid (Rd (w.setCell ⟨R, 1, none⟩ (.int .i64 1)) R s 1 0 0) := hid (hH.out.go 1)
  have hGB := hid ((ButS.refl [R] w).set (List.mem_singleton.2 rfl) 1 (.int .i64 1))
  clear h
  cases hm : mustL s [32, 61, 32] 1 with
  | bad e p =>
   have hM := hid (fun w' (h : Rd w' R s 1 0 0) => must_bad h ⟨#[32, 61, 32]⟩ (show 3 ≤ 100 by decide) (by omega) hm)
   rw [hm] at hE0
   clear hm
   go_enter Tryz.func25, Tryz.ntmps25
   go_wp2_with (go_at_call 39; (with_reducible refine Calls.mono (hM.out _ hG.out) ?_); rintro e' w4 ⟨rfl, hR4, hB4⟩; have HR4 := hid hR4; have HB4 := hid hB4; clear hR4 hB4)
   go_ret
   exact ⟨_, rfl, by rw [hE0.out]; exact ⟨rfl, ⟨_, HR4.out⟩, hGB.out.trans HB4.out⟩⟩
  | ok u p1 =>
   have hM := hid (fun w' (h : Rd w' R s 1 0 0) => must_ok h ⟨#[32, 61, 32]⟩ (show 3 ≤ 100 by decide) (by omega) hm)
   rw [hm] at hE0
   have hp1 : p1 ≤ s.size := by
    rcases (mustL_le hm).2 with h | h
    ·cases h
    ·exact h
   clear hm
   have hmm := @run_makeMap Tryz.prog
   go_enter Tryz.func25, Tryz.ntmps25
   go_wp2_with (go_at_call 39; (with_reducible refine Calls.mono (hM.out _ hG.out) ?_); rintro e' w4 ⟨rfl, hR4, hB4⟩; have HR4 := hid hR4; have HB4 := hid (hGB.out.trans hB4); clear hR4 hB4)
   have KM0 := hid (ClsMap.made w4)
   replace HR4 := hid (HR4.out.alloc (.map #[] 0))
   have hMw : Hid (w.heap.size ≤ w4.heap.size) := hid HB4.out.size
   replace HB4 := hid (HB4.out.alloc (.map #[] 0))
   clear x0 xfr c0 c1 fr hL hM hG hGB
   generalize w4.alloc (.map #[] 0) = W0 at *
   generalize w4.heap.size = M at *
   have nRM : R ≠ M := fun e => KM0.out.ne HR4.out.b e.symm
   go_loopw [9] (fun i wr => ∃ (q : Nat) (l : List One), i = .int .i64 l.length ∧ l.length ≤ 64 ∧ Hid (Rd wr R s q 0 0) ∧ Hid (ButS [R] w wr) ∧ Hid (ClsMap wr M l) ∧ q ≤ s.size ∧ Hid (piecesR s p1 [] = piecesR s q l)) (fun i _ => 65 - (intOf i).toNat)
   case atStart => exact ⟨p1, [], rfl, Nat.zero_le _, HR4, HB4, KM0, by omega, rfl⟩
   case round =>
    obtain ⟨q, l, rfl, hl, hR, hB, KM, hq, hS⟩ := hrel
    clear HR4 HB4 KM0
    obtain ⟨n, hn⟩ : ∃ n, l.length = n := ⟨_, rfl⟩
    rw [hn] at hl
    rw [hn]
    replace hn := hid hn
    have c0 := hR.out.c0
    have c1 := hR.out.c1
    have fr := hR.out.fr
    by_cases hgo : n = 0 ∨ q < s.size
    ·have hT : Hid ((((n : Int) == 0) = true) ∨ ((((n : Int) == 0) = false) ∧ decide ((q : Int) < s.size) = true ∧ decide (q < s.size) = true)) := by
      by_cases h0 : n = 0
      ·exact .inl (beq_true_of (by omega))
      ·exact .inr ⟨beq_false_of (by omega), decide_eq_true (by omega), decide_eq_true (by omega)⟩
     have hnl : Hid (plB s q = false → clsR x s = .bad 90 q) := by
      intro hpl
      rw [hE0.out]
      show (match ((piecesR s p1 []).bind fun l p => if p < s.size then .bad 90 p else .ok l p : Res (List One)) with
       | .ok l _ => Out.ok (x.addC s l)
       | .bad e p => Out.bad e p) = _
      rw [hS.out, piecesR_no hpl, hn.out]
      by_cases h0 : n = 0
      ·rw [if_pos h0]; rfl
      ·rw [if_neg h0]
       show (match (if q < s.size then .bad 90 q else .ok l q : Res (List One)) with
       | .ok l _ => Out.ok (x.addC s l)
       | .bad e p => Out.bad e p) = _
       rw [if_pos (by omega)]
     clear hgo
     rcases hT.out with t0 | ⟨t0, t1, t2⟩
     all_goals
      clear hT
      go_wp2_with fail
      refine region_plan [] (.quiet 0 (.quiet 1 (.quiet 2 (.quiet 3 (.quiet 4 (.quiet 5 (.quiet 6 (.quiet 7 (.quiet 8 (.quiet 9 (.quiet 10 (.quiet 11 (.quiet 12 (.quiet 13 .done)))))))))))))) (by kernel_rfl) (by kernel_rfl) ?_
      repeat (apply p_quiet; (case hi => rfl); intro K hK; go_simp; (refine ⟨hK _ ?_⟩; clear hK K))
      apply p_done
      intro W1 hb1
      replace hR := hid (hR.out.low hb1)
      replace hB := hid (hB.out.low hb1)
      replace KM := hid (KM.out.low hb1)
      clear hb1 c0 c1 fr
      have hP := hid (plain_any hR.out hs)
      cases hpl : plB s q
      ·obtain ⟨e1, e2⟩ := plU_no hpl
       simp only [e1, e2] at hP
       have hE := hid (hnl.out hpl)
       simp only [One.val, One.none] at hP
       clear e1 e2 hpl hnl hE0 hS
       go_wp2_with (first | (go_at_call 40; (with_reducible refine Calls.mono hP.out ?_); rintro e' w2 ⟨rfl, hb2⟩; have HR2 := hid (hR.out.low hb2); have HB2 := hid (hB.out.low hb2); have c0 := HR2.out.c0; have c1 := HR2.out.c1; have fr := HR2.out.fr; have hl2 := HR2.out.lt; clear hP hb2; have hF := hid (fun o => fail_new (HR2.out.alloc o) 90 q)) | (go_at_call 38; (with_reducible refine Calls.mono (hF.out _) ?_); rintro e' w3 ⟨rfl, hR3, hB3⟩; have HR3 := hid hR3; have HB3 := hid hB3; clear hR3 hB3))
       go_ret
       exact ⟨_, rfl, by rw [hE.out]; exact ⟨rfl, ⟨_, HR3.out⟩, (HB2.out.alloc _).trans HB3.out⟩⟩
      ·obtain ⟨e1, e2⟩ := plU_yes hpl
       simp only [e1, e2] at hP
       have hu1 := hid (one_bd hpl).1
       have hu2 := hid (one_bd hpl).2
       obtain ⟨ur, ub, uc, hu⟩ : ∃ ur ub uc, oneAt s q = ⟨ur, ub, uc⟩ := ⟨_, _, _, rfl⟩
       have hwd := wdN_pos (plB_lt hpl)
       have hqs := plB_lt hpl
       simp only [hu] at hP hu1 hu2
       simp only [One.val] at hP
       clear e1 e2 hnl
       have tw : ((wdN s q : Int) == 0) = false := beq_false_of (by omega)
       by_cases h64 : n = 64
       ·subst h64
        have hE : Hid (clsR x s = .bad 3 q) := by
         rw [hE0.out]
         show (match ((piecesR s p1 []).bind fun l p => if p < s.size then .bad 90 p else .ok l p : Res (List One)) with
          | .ok l _ => Out.ok (x.addC s l)
          | .bad e p => Out.bad e p) = _
         rw [hS.out, piecesR_long hpl hn.out]; rfl
        clear hpl hu hwd hqs hE0 hS
        go_wp2_with (first | (go_at_call 40; (with_reducible refine Calls.mono hP.out ?_); rintro e' w2 ⟨rfl, hb2⟩; have HR2 := hid (hR.out.low hb2); have HB2 := hid (hB.out.low hb2); have c0 := HR2.out.c0; have c1 := HR2.out.c1; have fr := HR2.out.fr; have hl2 := HR2.out.lt; clear hP hb2; have hF := hid (fun o => fail_new (HR2.out.alloc o) 3 q)) | (go_at_call 38; (with_reducible refine Calls.mono (hF.out _) ?_); rintro e' w3 ⟨rfl, hR3, hB3⟩; have HR3 := hid hR3; have HB3 := hid hB3; clear hR3 hB3))
        go_ret
        exact ⟨_, rfl, by rw [hE.out]; exact ⟨rfl, ⟨_, HR3.out⟩, (HB2.out.alloc _).trans HB3.out⟩⟩
       ·have t64 : ((n : Int) == 64) = false := beq_false_of (by omega)
        have l64 : n < 64 := by omega
        clear h64
        have hE : Hid (piecesR s p1 [] = piecesR s (q + wdN s q) (l ++ [⟨ur, ub, uc⟩])) := by rw [hS.out, piecesR_more hpl (by rw [hn.out]; omega), hu]; exact hid rfl
        have hw1 : IntKind.i64.wrap ((q : Int) + wdN s q) = (q : Int) + wdN s q := Wi64 (by omega)
        have hq2 : q + wdN s q ≤ s.size := hwd.2.2
        obtain ⟨z, hz⟩ : ∃ z, wdN s q = z := ⟨_, rfl⟩
        simp only [hz] at hE tw hw1 hq2 hP
        clear hpl hu hwd hz hqs hS
        go_wp2_with (go_at_call 40; (with_reducible refine Calls.mono hP.out ?_); rintro e' w2 ⟨rfl, hb2⟩; have HR2 := hid (hR.out.low hb2); have HB2 := hid (hB.out.low hb2); have KM2 := hid (KM.out.low hb2); clear hP hb2)
        have hlc : Hid (l.count ⟨ur, ub, uc⟩ ≤ 64) := hid (Nat.le_trans List.count_le_length (by rw [hn.out]; omega))
        have hll : l.length < 100 := by rw [hn.out]; omega
        have K9 := hid (Blk.new w2 110 #[.int .i32 ur, .bool ub, .int .u8 uc])
        replace HR2 := hid (HR2.out.alloc (.cells #[.int .i32 ur, .bool ub, .int .u8 uc] 110))
        replace HB2 := hid (HB2.out.alloc (.cells #[.int .i32 ur, .bool ub, .int .u8 uc] 110))
        replace KM2 := hid (KM2.out.low ((Below.refl _ _).alloc (Nat.le_refl _) (.cells #[.int .i32 ur, .bool ub, .int .u8 uc] 110)))
        clear hR hB KM
        generalize w2.alloc (.cells #[.int .i32 ur, .bool ub, .int .u8 uc] 110) = W3 at *
        generalize w2.heap.size = B9 at *
        obtain ⟨d0, d1, d2, df⟩ := K9.out.c3
        have n9 : B9 ≠ M := fun e => KM2.out.ne K9.out e.symm
        obtain ⟨ct, hct⟩ : ∃ ct, l.count ⟨ur, ub, uc⟩ = ct := ⟨_, rfl⟩
        have hMO := fun (w' : World) (h : ClsMap w' M l) => h.more hll ⟨ur, ub, uc⟩ hu1.out hu2.out
        rw [hct] at hMO hlc
        simp only [One.val] at hMO
        have HMO := hid hMO
        have hcw : IntKind.i64.wrap ((ct : Int) + 1) = (ct : Int) + 1 := IntWalk.i64_in _ (by have := hlc.out; omega)
        clear hMO hct hll K9
        have HB8 := hid (ButS.refl [M] W3)
        refine region_plan [M] (.quiet 0 (.quiet 1 (.two 2 (.quiet 3 (.one 4 (.quiet 5 (.one 6 .done)))) 4 (.quiet 5 (.one 2 (.quiet 3 (.one 6 .done))))))) (by kernel_rfl) (by kernel_rfl) ?_
        repeat (apply p_quiet; (case hi => rfl); intro K hK; go_simp; (refine ⟨hK _ ?_⟩; clear hK K))
        refine p_two ?_ ?_
        ·apply p_one
         case hi => rfl
         intro W1 hb1 K hK
         obtain ⟨hLk, _⟩ := HMO.out W1 (KM2.out.low hb1)
         go_wp2_with fail
         refine hK _ _ (.of hb1) ?_
         clear hK K hLk
         apply p_quiet
         case hi => rfl
         intro K hK
         go_simp
         refine ⟨hK _ ?_⟩
         clear hK K
         apply p_one
         case hi => rfl
         intro W2 hb2 K hK
         replace hb2 := bnext hb1 hb2
         clear hb1
         obtain ⟨_, st, o1, hE1, _, hE2⟩ := HMO.out W2 (KM2.out.low hb2)
         have HE2 := hid hE2
         clear hE2
         go_wp2_with fail
         clear hE1
         refine hK _ _ ((ButS.of hb2).trans (setBlk_but _ _ _)) ?_
         clear hK K
         have HM1 := hid (setBlk_at (KM2.out.low hb2).lt o1)
         replace HB8 := hid ((ButS.of hb2 (S := [M])).trans (setBlk_but W2 M o1))
         clear hb2
         generalize setBlock W2 M o1 = W4 at *
         apply p_quiet
         case hi => rfl
         intro K hK
         go_simp
         refine ⟨hK _ ?_⟩
         clear hK K
         apply p_one
         case hi => rfl
         intro W5 hb5 K hK
         replace HM1 := hid (at_low HM1.out hb5)
         replace HB8 := hid (HB8.out.low hb5)
         obtain ⟨o2, hE3, hE4⟩ := HE2.out W5 HM1.out
         have HE4 := hid hE4
         clear hE4 HE2
         go_wp2_with fail
         clear hE3
         refine hK _ _ (HB8.out.trans (setBlk_but _ _ _)) ?_
         clear hK K
         replace HB8 := hid (HB8.out.trans (setBlk_but W5 M o2))
         have KM5 := hid (HE4.out _ (setBlk_at (at_lt HM1.out) o2))
         clear HE4 HM1 hb5
         generalize setBlock W5 M o2 = W6 at *
         apply p_done
         intro W7 hb7
         replace KM5 := hid (KM5.out.low hb7)
         replace HB8 := hid (HB8.out.low hb7)
         clear hb7 d0 d1 d2 df
         have HR7 := hid (show Rd W7 R s q 0 0 from ⟨HB8.out.blk HR2.out.b (by rw [List.mem_singleton]; exact nRM)⟩)
         have HB7 := hid (HB2.out.later HB8.out (fun y hy => by rw [List.mem_singleton] at hy; subst hy; exact .inl hMw.out))
         have c0 := HR7.out.c0
         have c1 := HR7.out.c1
         have fr := HR7.out.fr
         clear HB8 HR2 HB2 KM2 HMO
         go_wp2_with fail
         go_roundw
         case rel => exact ⟨q + z, l ++ [⟨ur, ub, uc⟩], by rw [List.length_append, hn.out]; go_num, by rw [List.length_append, hn.out]; simp <;> omega, HR7.out.go _, HB7.out.set (List.mem_singleton.2 rfl) 1 _, hid (KM5.out.but ((ButS.refl [R] W7).set (List.mem_singleton.2 rfl) 1 _) (by rw [List.mem_singleton]; exact fun e => nRM e.symm)), by omega, hE⟩
         case measure => simp [intOf] <;> omega
        ·apply p_one
         case hi => rfl
         intro W2 hb2 K hK
         obtain ⟨_, st, o1, hE1, hLk, hE2⟩ := HMO.out W2 (KM2.out.low hb2)
         have HE2 := hid hE2
         have HLK := hid hLk
         clear hE2 hLk
         go_wp2_with fail
         clear hE1
         refine hK _ _ ((ButS.of hb2).trans (setBlk_but _ _ _)) ?_
         clear hK K
         have HM1 := hid (setBlk_at (KM2.out.low hb2).lt o1)
         replace HB8 := hid ((ButS.of hb2 (S := [M])).trans (setBlk_but W2 M o1))
         clear hb2
         generalize setBlock W2 M o1 = W1 at *
         apply p_quiet
         case hi => rfl
         intro K hK
         go_simp
         refine ⟨hK _ ?_⟩
         clear hK K
         apply p_one
         case hi => rfl
         intro W4 hb4 K hK
         replace HM1 := hid (at_low HM1.out hb4)
         replace HB8 := hid (HB8.out.low hb4)
         have hLk := HLK.out W4 HM1.out
         clear HLK
         go_wp2_with fail
         refine hK _ _ HB8.out ?_
         clear hK K hLk hb4
         apply p_quiet
         case hi => rfl
         intro K hK
         go_simp
         refine ⟨hK _ ?_⟩
         clear hK K
         apply p_one
         case hi => rfl
         intro W5 hb5 K hK
         replace HM1 := hid (at_low HM1.out hb5)
         replace HB8 := hid (HB8.out.low hb5)
         obtain ⟨o2, hE3, hE4⟩ := HE2.out W5 HM1.out
         have HE4 := hid hE4
         clear hE4 HE2
         go_wp2_with fail
         clear hE3
         refine hK _ _ (HB8.out.trans (setBlk_but _ _ _)) ?_
         clear hK K
         replace HB8 := hid (HB8.out.trans (setBlk_but W5 M o2))
         have KM5 := hid (HE4.out _ (setBlk_at (at_lt HM1.out) o2))
         clear HE4 HM1 hb5
         generalize setBlock W5 M o2 = W6 at *
         apply p_done
         intro W7 hb7
         replace KM5 := hid (KM5.out.low hb7)
         replace HB8 := hid (HB8.out.low hb7)
         clear hb7 d0 d1 d2 df
         have HR7 := hid (show Rd W7 R s q 0 0 from ⟨HB8.out.blk HR2.out.b (by rw [List.mem_singleton]; exact nRM)⟩)
         have HB7 := hid (HB2.out.later HB8.out (fun y hy => by rw [List.mem_singleton] at hy; subst hy; exact .inl hMw.out))
         have c0 := HR7.out.c0
         have c1 := HR7.out.c1
         have fr := HR7.out.fr
         clear HB8 HR2 HB2 KM2 HMO
         go_wp2_with fail
         go_roundw
         case rel => exact ⟨q + z, l ++ [⟨ur, ub, uc⟩], by rw [List.length_append, hn.out]; go_num, by rw [List.length_append, hn.out]; simp <;> omega, HR7.out.go _, HB7.out.set (List.mem_singleton.2 rfl) 1 _, hid (KM5.out.but ((ButS.refl [R] W7).set (List.mem_singleton.2 rfl) 1 _) (by rw [List.mem_singleton]; exact fun e => nRM e.symm)), by omega, hE⟩
         case measure => simp [intOf] <;> omega
    ·have t0 : ((n : Int) == 0) = false := beq_false_of (by omega)
     have t1 := dF (show ¬ ((q : Int) < s.size) by omega)
     have t2 := dF (show ¬ (q < s.size) by omega)
     have hpl : plB s q = false := decide_eq_false (fun hh => by have := hh.1; omega)
     have hE : Hid (clsR x s = .ok (x.addC s l)) := by
      rw [hE0.out]
      show (match ((piecesR s p1 []).bind fun l p => if p < s.size then .bad 90 p else .ok l p : Res (List One)) with
       | .ok l _ => Out.ok (x.addC s l)
       | .bad e p => Out.bad e p) = _
      rw [hS.out, piecesR_no hpl, if_neg (by rw [hn.out]; omega)]
      show (match (if q < s.size then .bad 90 q else .ok l q : Res (List One)) with
       | .ok l _ => Out.ok (x.addC s l)
       | .bad e p => Out.bad e p) = _
      rw [if_neg (by omega)]
     clear hE0 hS hpl hgo
     go_wp2_with fail
     refine region_plan [] (.quiet 0 (.quiet 1 (.quiet 2 (.quiet 3 (.quiet 4 (.quiet 5 (.quiet 6 (.quiet 7 (.quiet 8 (.quiet 9 (.quiet 10 (.quiet 11 (.quiet 12 (.quiet 13 .done)))))))))))))) (by kernel_rfl) (by kernel_rfl) ?_
     repeat (apply p_quiet; (case hi => rfl); intro K hK; go_simp; (refine ⟨hK _ ?_⟩; clear hK K))
     apply p_done
     intro W1 hb1
     replace hR := hid (hR.out.low hb1)
     replace hB := hid (hB.out.low hb1)
     replace KM := hid (KM.out.low hb1)
     clear hb1 c0 c1 fr
     go_wp2_with fail
     have HX := hid (hX.out.but hB.out (by rw [List.mem_singleton]; exact nXR) (fun B hB => by rw [List.mem_singleton] at hB; subst hB; exact ⟨_, _, hH.out.b⟩))
     have m1 : M ≠ mc := by
      obtain ⟨_, _, _, hm, _⟩ := hX.out.c
      have := hm.lt; have := hMw.out; omega
     have m2 : M ≠ ml := by
      obtain ⟨_, _, _, hm, _⟩ := hX.out.l
      have := hm.lt; have := hMw.out; omega
     have x1 : X ≠ mc := by
      obtain ⟨_, _, _, hm, _⟩ := HX.out.c
      exact fun e => mapF_ne hm HX.out.b e.symm
     have x2 : X ≠ ml := by
      obtain ⟨_, _, _, hm, _⟩ := HX.out.l
      exact fun e => mapF_ne hm HX.out.b e.symm
     have r1 : R ≠ mc := by
      obtain ⟨_, _, _, hm, _⟩ := HX.out.c
      exact fun e => mapF_ne hm hR.out.b e.symm
     have r2 : R ≠ ml := by
      obtain ⟨_, _, _, hm, _⟩ := HX.out.l
      exact fun e => mapF_ne hm hR.out.b e.symm
     have nm : Hid (mc ≠ ml) := hid HX.out.ne
     obtain ⟨x0, x1c, x2c, xfr⟩ := HX.out.b.c3
     have c0 := hR.out.c0
     have fr := hR.out.fr
     refine region_plan [mc, ml] (.quiet 0 (.quiet 1 (.quiet 2 (.quiet 3 (.quiet 4 (.quiet 5 (.quiet 6 (.quiet 7 (.quiet 8 (.quiet 9 (.quiet 10 (.quiet 11 (.quiet 12 (.quiet 13 (.quiet 14 (.one 15 (.quiet 16 (.one 17 (.one 18 (.quiet 19 (.one 20 .done))))))))))))))))))))) (by kernel_rfl) (by kernel_rfl) ?_
     repeat (apply p_quiet; (case hi => rfl); intro K hK; go_simp; (refine ⟨hK _ ?_⟩; clear hK K))
     apply p_one
     case hi => rfl
     intro W2 hb2 K hK
     obtain ⟨st, o1, v1, hE1, hA⟩ := RsAt.addC (HX.out.low hb2) hk (s := s) hCN.out hCL.out hCH.out (KM.out.low hb2) m1 m2
     have HA := hid hA
     clear hA x0 x1c x2c xfr c0 fr
     go_wp2_with fail
     clear hE1
     refine hK _ _ ((ButS.of hb2).trans ((setBlk_but _ _ _).mono (fun k hk _ => by rw [List.mem_singleton] at hk; subst hk; simp))) ?_
     clear hK K
     have hmc := hid (setBlk_at (w := W2) (m := mc) (by obtain ⟨_, _, _, hm, _⟩ := (HX.out.low hb2).c; exact hm.lt) o1)
     have HB3 := hid (setBlk_but W2 mc o1)
     have hb2H := hid hb2
     clear hb2
     generalize setBlock W2 mc o1 = W3 at *
     apply p_quiet
     case hi => rfl
     intro K hK
     go_simp
     refine ⟨hK _ ?_⟩
     clear hK K
     apply p_one
     case hi => rfl
     intro W4 hb4 K hK
     obtain ⟨o2, hE2, hA2⟩ := HA.out W4 (at_low hmc.out hb4)
     have HA2 := hid hA2
     clear hA2 HA
     go_wp2_with fail
     clear hE2
     refine hK _ _ ((((ButS.of hb2H.out).trans (HB3.out.mono (T := [mc, ml]) (fun k hk _ => by rw [List.mem_singleton] at hk; subst hk; simp))).low hb4).trans ((setBlk_but _ _ _).mono (fun k hk _ => by rw [List.mem_singleton] at hk; subst hk; simp))) ?_
     clear hK K
     replace HB3 := hid ((HB3.out.low hb4).trans (setBlk_but W4 mc o2))
     replace hmc := hid (setBlk_at (w := W4) (m := mc) (at_lt (at_low hmc.out hb4)) o2)
     clear hb4
     generalize setBlock W4 mc o2 = W5 at *
     apply p_one
     case hi => rfl
     intro W6 hb6 K hK
     obtain ⟨st', o3, v3, hE3, hA3⟩ := HA2.out W6 (HB3.out.low hb6)
     have HA3 := hid hA3
     clear hA3 HA2
     go_wp2_with fail
     clear hE3
     have hmlt : Hid (ml < W6.heap.size) := by
      obtain ⟨_, _, _, hm, _⟩ := HX.out.l
      have h1 := hm.lt
      have h2 := hb2H.out.size
      have h3 := HB3.out.size
      have h4 := hb6.size
      exact hid (by omega)
     replace HB3 := hid (((HB3.out.low hb6).mono (T := [mc, ml]) (fun k hk _ => by rw [List.mem_singleton] at hk; subst hk; simp)).trans ((setBlk_but W6 ml o3).mono (T := [mc, ml]) (fun k hk _ => by rw [List.mem_singleton] at hk; subst hk; simp)))
     refine hK _ _ ((ButS.of hb2H.out).trans HB3.out) ?_
     clear hK K
     replace hmc := hid (at_but (at_low hmc.out hb6) (setBlk_but W6 ml o3) (by simpa using nm.out))
     have hml := hid (setBlk_at hmlt.out o3)
     clear hb6 hmlt
     generalize setBlock W6 ml o3 = W7 at *
     apply p_quiet
     case hi => rfl
     intro K hK
     go_simp
     refine ⟨hK _ ?_⟩
     clear hK K
     apply p_one
     case hi => rfl
     intro W8 hb8 K hK
     obtain ⟨o4, hE4, hA4⟩ := HA3.out W8 (at_low hml.out hb8)
     have HA4 := hid hA4
     clear hA4 HA3
     go_wp2_with fail
     clear hE4
     have HB3' := HB3
     replace HB3 := hid ((HB3.out.low hb8).trans ((setBlk_but W8 ml o4).mono (T := [mc, ml]) (fun k hk _ => by rw [List.mem_singleton] at hk; subst hk; simp)))
     refine hK _ _ ((ButS.of hb2H.out).trans HB3.out) ?_
     clear hK K
     replace hmc := hid (at_but (at_low hmc.out hb8) (setBlk_but W8 ml o4) (by simpa using nm.out))
     replace hml := hid (setBlk_at (w := W8) (m := ml) (at_lt (at_low hml.out hb8)) o4)
     clear hb8
     generalize setBlock W8 ml o4 = W9 at *
     apply p_done
     intro W10 hb10
     have HF := hid (HA4.out W10 (HB3.out.low hb10) (at_low hmc.out hb10) (at_low hml.out hb10))
     have HZ := hid ((hB.out.mono (T := [R, mc, ml]) (fun k hk _ => by rw [List.mem_singleton] at hk; subst hk; simp)).trans (((ButS.of hb2H.out).trans (HB3.out.low hb10)).mono (T := [R, mc, ml]) (fun k hk _ => List.mem_cons_of_mem _ hk)))
     clear hb10 HB3 hmc hml HA4
     go_wp2_with fail
     go_ret
     exact ⟨_, rfl, by rw [hE.out]; exact ⟨rfl, HF.out, HZ.out⟩⟩
 ·have hE : Hid (clsR x s = .bad 91 0) := by unfold clsR classR; rw [if_pos hSB.out]; exact hid rfl
  have hF := hid (fail_new h 91 0)
  clear h
  go_enter Tryz.func25, Tryz.ntmps25
  go_wp2_with (go_at_call 38; (with_reducible refine Calls.mono hF.out ?_); rintro e w4 ⟨rfl, hR4, hB4⟩; have HR4 := hid hR4; have HB4 := hid hB4; clear hR4 hB4)
  go_ret
  exact ⟨_, rfl, by rw [hE.out]; exact ⟨rfl, ⟨_, HR4.out⟩, HB4.out⟩⟩
end Go.Proofs.YtieifhfgedoiaaaGreatDoor
