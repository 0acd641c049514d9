/- A map in memory as a function from keys to elements: read, written by mapEntry and entryStore. Conditions: those of each theorem. -/
import Derived.Test.YtieifhfgedoiaaaDoorNOw
import Derived.Maps.Own
import Derived.WideKeyEntry
import Derived.DeepKeys4
namespace Go.Proofs.YtieifhfgedoiaaaDoor
open Go.RowKit Go.Lib
open Go.ChangeMaps Go.MapKept
open Go.WideElems (findIdx_born findIdx_arr modify_last set_self)
set_option linter.unusedVariables false
set_option linter.unusedSimpArgs false
structure KeySet (P : Program) (k : TypeId) (KS : Value → Prop) : Prop where
 check : ∀ (w : World) (em : Bool) {v : Value}, KS v → (Instr.checkKey em 10000 k v).run P w = .ok () w
 find : ∀ (w : World) {x : Value}, KS x → ∀ es : List MapEntry, (∀ e ∈ es, KS e.key) →
  ((Instr.findKey k x es).run P w = .ok none w ∧ ∀ e ∈ es, e.key ≠ x) ∨ ∃ j e, (Instr.findKey k x es).run P w = .ok (some (j, e.val)) w ∧ es[j]? = some e ∧ e.key = x
 stays : ∀ (w : World) {v : Value}, KS v → (Instr.keyThatStays v v).run P w = .ok v w
theorem keySet_of {P : Program} {k : TypeId} (K : Maps.Keyed P k) : KeySet P k (fun v => ∃ l, keyOf P k v = some l) :=
 ⟨fun w em _ h => K.check w em h.choose_spec, fun w _ h es hes => K.find w h.choose_spec es hes, fun w _ h => K.stays w h.choose_spec⟩
theorem KeySet.sub {P : Program} {k : TypeId} {A B : Value → Prop} (h : KeySet P k A) (hs : ∀ v, B v → A v) : KeySet P k B :=
 ⟨fun w em _ hv => h.check w em (hs _ hv), fun w _ hv es hes => h.find w (hs _ hv) es fun e he => hs _ (hes e he), fun w _ hv => h.stays w (hs _ hv)⟩
def MapF (KS : Value → Prop) (w : World) (m n : Nat) (f : Value → Option Value) : Prop :=
 ∃ es clock, w.heap[m]? = some (.map es clock) ∧ Stamped es clock ∧ (∀ e ∈ es.toList, KS e.key) ∧ es.size ≤ n ∧ ∀ key v, f key = some v ↔ ∃ e ∈ es.toList, e.key = key ∧ e.val = v
section
variable {P : Program} {k e t : TypeId} {KS : Value → Prop} {w w' : World} {m n : Nat} {f : Value → Option Value}
theorem MapF.lt (h : MapF KS w m n f) : m < w.heap.size := by
 obtain ⟨es, c, hb, _⟩ := h
 exact (Array.getElem?_eq_some_iff.1 hb).1
theorem MapF.block (h : MapF KS w m n f) (he : w'.heap[m]? = w.heap[m]?) : MapF KS w' m n f := by
 obtain ⟨es, c, hb, r⟩ := h
 exact ⟨es, c, he.trans hb, r⟩
theorem MapF.low (h : MapF KS w m n f) (hb : Below w.heap.size w w') : MapF KS w' m n f := h.block (hb.block m h.lt)
theorem MapF.but {S : List Nat} (h : MapF KS w m n f) (hb : ButS S w w') (hm : m ∉ S) : MapF KS w' m n f := h.block (hb.block m h.lt hm)
theorem MapF.mono {n' : Nat} (h : MapF KS w m n f) (hn : n ≤ n') : MapF KS w m n' f := by
 obtain ⟨es, c, hb, h1, h2, h3, h4⟩ := h
 exact ⟨es, c, hb, h1, h2, Nat.le_trans h3 hn, h4⟩
theorem MapF.made (KS : Value → Prop) (w : World) : MapF KS (w.alloc (.map #[] 0)) w.heap.size 0 (fun _ => none) :=
 ⟨#[], 0, heap_alloc_new w _, stamped_empty 0, by simp, Nat.le_refl _, by simp⟩
theorem MapF.congr {g : Value → Option Value} (h : MapF KS w m n f) (e : ∀ key, f key = g key) : MapF KS w m n g := by
 obtain ⟨es, c, hb, h1, h2, h3, h4⟩ := h
 exact ⟨es, c, hb, h1, h2, h3, fun key v => by rw [← e]; exact h4 key v⟩
theorem MapF.look (h : MapF KS w m n f) (K : KeySet P k KS) (ht : P.underlying t = some (.map k e)) {z : Value} (hz : (zeroValue e).run P w = .ok z w) {key : Value} (hk : KS key) (c : Bool) :
  (Instr.lookup t (.map (some m)) key c).run P w = .ok (if c then .tuple #[(f key).getD z, .bool (f key).isSome] else (f key).getD z) w := by
 obtain ⟨es, clock, hb, h1, h2, h3, h4⟩ := h
 rcases K.find w hk es.toList h2 with ⟨g1, g2⟩ | ⟨j, e0, g1, g2, g3⟩
 ·have hf : f key = none := by
   cases hf : f key with
   | none => rfl
   | some v =>
    obtain ⟨e0, he, hk0, _⟩ := (h4 key v).1 hf
    exact absurd hk0 (g2 e0 he)
  rw [hf]
  simp [Instr.lookup, run_underlying ht, MapKept.run_getObj_map hb, K.check w _ hk, g1, hz, Result.andThen]
 ·have hf : f key = some e0.val := (h4 key e0.val).2 ⟨e0, List.mem_of_getElem? g2, g3, rfl⟩
  rw [hf]
  simp [Instr.lookup, run_underlying ht, MapKept.run_getObj_map hb, K.check w _ hk, g1, Result.andThen]
noncomputable def updF (f : Value → Option Value) (key v : Value) : Value → Option Value := fun x => open Classical in if x = key then some v else f x
theorem updF_same (f : Value → Option Value) (key v : Value) : updF f key v key = some v := by unfold updF; rw [if_pos rfl]
theorem updF_ne (f : Value → Option Value) {key x : Value} (v : Value) (h : x ≠ key) : updF f key v x = f x := by unfold updF; rw [if_neg h]
theorem stamped_nodup {es : Array MapEntry} {c : Nat} (h : Stamped es c) : (∀ x ∈ es.toList, x.born < c) ∧ (es.toList.map (·.born)).Nodup ∧ es.toList.Pairwise (fun x y => x.key ≠ y.key) := (stamped_iff es c).1 h
theorem pair_at {l : List MapEntry} (h : l.Pairwise (fun x y => x.key ≠ y.key)) {j : Nat} {e0 : MapEntry} (hj : l[j]? = some e0) {x : MapEntry} (hx : x ∈ l) (hk : x.key = e0.key) : x = e0 := by
 obtain ⟨i, hi, rfl⟩ := List.getElem_of_mem hx
 obtain ⟨hj', rfl⟩ := List.getElem?_eq_some_iff.1 hj
 rcases Nat.lt_trichotomy i j with h1 | h1 | h1
 ·exact absurd hk (List.pairwise_iff_getElem.1 h i j hi hj' h1)
 ·subst h1; rfl
 ·exact absurd hk.symm (List.pairwise_iff_getElem.1 h j i hj' hi h1)
theorem MapF.entry (h : MapF KS w m n f) (K : KeySet P k KS) (ht : P.underlying t = some (.map k e)) {z : Value} (hz : ∀ u : World, (zeroValue e).run P u = .ok z u) (hroom : n < maxLen) {key : Value} (hk : KS key) :
  ∃ (st : Nat) (o1 : Obj), (Instr.mapEntry t (.map (some m)) key).run P w = .ok (.tuple #[(f key).getD z, goInt st]) (setBlock w m o1) ∧
   ∀ (w2 : World) (val : Value), w2.heap[m]? = some o1 → ∃ o2, (Instr.entryStore t (.map (some m)) (goInt st) val).run P w2 = .ok () (setBlock w2 m o2) ∧ ∀ w3 : World, w3.heap[m]? = some o2 → MapF KS w3 m (n + 1) (updF f key val) := by
 obtain ⟨es, clock, hb, h1, h2, h3, h4⟩ := h
 obtain ⟨s1, s2, s3⟩ := stamped_nodup h1
 rcases K.find w hk es.toList h2 with ⟨g1, g2⟩ | ⟨j, e0, g1, g2, g3⟩
 ·have hf : f key = none := by
   cases hf : f key with
   | none => rfl
   | some v =>
    obtain ⟨e0, he, hk0, _⟩ := (h4 key v).1 hf
    exact absurd hk0 (g2 e0 he)
  rw [hf]
  refine ⟨clock, .map (es.push ⟨key, z, clock⟩) (clock + 1), ?_, fun w2 val hw2 => ⟨.map (es.push ⟨key, val, clock⟩) (clock + 1), ?_, fun w3 hw3 => ⟨_, _, hw3, stamped_push h1 g2, ?_, by simp; omega, ?_⟩⟩⟩
  ·simp [Instr.mapEntry, run_underlying ht, MapKept.run_getObj_map hb, K.check w false hk, g1, hz, MapKept.run_setObj_map _ hb, Result.andThen, setBlock]
  ·have hidx : (es.push ⟨key, z, clock⟩).findIdx? (fun e => ((e.born : Nat) : Int) == ((clock : Nat) : Int)) = some es.size := by
    rw [findIdx_arr]
    have := findIdx_born (l := (es.push ⟨key, z, clock⟩).toList) (j := es.size) (e0 := ⟨key, z, clock⟩) (by
     simp only [Array.toList_push, List.map_append, List.map_cons, List.map_nil]
     refine List.nodup_append.2 ⟨s2, by simp, fun a ha c hc e1 => ?_⟩
     simp only [List.mem_singleton] at hc
     obtain ⟨x, hx, rfl⟩ := List.mem_map.1 ha
     have := s1 x hx
     omega) (by simp)
    exact this
   have hmod : (es.push ⟨key, z, clock⟩).modify es.size (fun e => { e with val := val }) = es.push ⟨key, val, clock⟩ := by
    apply Array.ext'
    rw [Array.toList_modify, Array.toList_push, Array.toList_push, ← Array.length_toList, modify_last]
   simp [Instr.entryStore, MapKept.run_getObj_map hw2, asInt, asIntOf, goInt, hidx, hmod, MapKept.run_setObj_map _ hw2, Result.andThen, setBlock]
  ·intro x hx
   rw [Array.toList_push, List.mem_append, List.mem_singleton] at hx
   rcases hx with hx | rfl
   ·exact h2 x hx
   ·exact hk
  ·intro x v
   by_cases hxk : x = key
   ·subst hxk
    rw [updF_same]
    constructor
    ·intro hv; cases hv; exact ⟨⟨x, val, clock⟩, by simp, rfl, rfl⟩
    ·rintro ⟨e1, he1, hk1, hv1⟩
     rw [Array.toList_push, List.mem_append, List.mem_singleton] at he1
     rcases he1 with he1 | rfl
     ·exact absurd hk1 (g2 e1 he1)
     ·rw [← hv1]
   ·rw [updF_ne f val hxk, h4]
    constructor
    ·rintro ⟨e1, he1, hk1, hv1⟩
     exact ⟨e1, by rw [Array.toList_push, List.mem_append]; exact .inl he1, hk1, hv1⟩
    ·rintro ⟨e1, he1, hk1, hv1⟩
     rw [Array.toList_push, List.mem_append, List.mem_singleton] at he1
     rcases he1 with he1 | rfl
     ·exact ⟨e1, he1, hk1, hv1⟩
     ·exact absurd hk1.symm hxk
 ·have hf : f key = some e0.val := (h4 key e0.val).2 ⟨e0, List.mem_of_getElem? g2, g3, rfl⟩
  rw [hf]
  have hj : es[j]? = some e0 := by simpa using g2
  have hsame : es.modify j (fun e => { e with key := key }) = es := by
   apply Array.ext'
   rw [Array.toList_modify, modify_eq_set _ _ _ _ g2]
   have : ({ e0 with key := key } : MapEntry) = e0 := by rw [← g3]
   rw [this]
   exact set_self _ _ _ g2
  have hlist : ∀ val, (es.modify j (fun e => { e with val := val })).toList = es.toList.set j { e0 with val := val } := fun val => by rw [Array.toList_modify, modify_eq_set _ _ _ _ g2]
  refine ⟨e0.born, .map es clock, ?_, fun w2 val hw2 => ⟨.map (es.modify j (fun e => { e with val := val })) clock, ?_, fun w3 hw3 => ⟨_, _, hw3, stamped_modify h1 _ _ (fun _ _ => rfl) (fun _ _ _ => rfl), ?_, by simpa using Nat.le_succ_of_le h3, ?_⟩⟩⟩
  ·simp [Instr.mapEntry, run_underlying ht, MapKept.run_getObj_map hb, K.check w false hk, g1, hj, g3, K.stays w hk, hsame, MapKept.run_setObj_map _ hb, Result.andThen, setBlock]
  ·have hidx : es.findIdx? (fun e => ((e.born : Nat) : Int) == ((e0.born : Nat) : Int)) = some j := by
    rw [findIdx_arr]
    exact findIdx_born s2 g2
   simp [Instr.entryStore, MapKept.run_getObj_map hw2, asInt, asIntOf, goInt, hidx, MapKept.run_setObj_map _ hw2, Result.andThen, setBlock]
  ·intro x hx
   rw [hlist] at hx
   rcases List.mem_or_eq_of_mem_set hx with hx | rfl
   ·exact h2 x hx
   ·exact g3 ▸ hk
  ·have hjl : j < es.toList.length := (List.getElem?_eq_some_iff.1 g2).1
   intro x v
   rw [hlist]
   by_cases hxk : x = key
   ·subst hxk
    rw [updF_same]
    constructor
    ·intro hv; cases hv; exact ⟨{ e0 with val := val }, List.mem_iff_getElem?.2 ⟨j, by rw [List.getElem?_set_self hjl]⟩, g3, rfl⟩
    ·rintro ⟨e1, he1, hk1, hv1⟩
     obtain ⟨i, hi⟩ := List.mem_iff_getElem?.1 he1
     rw [List.getElem?_set] at hi
     by_cases hij : j = i
     ·rw [if_pos hij, if_pos (by omega)] at hi
      cases hi
      rw [← hv1]
     ·rw [if_neg hij] at hi
      have := pair_at s3 g2 (List.mem_of_getElem? hi) (hk1.trans g3.symm)
      subst this
      have hii := (List.getElem?_eq_some_iff.1 hi)
      obtain ⟨hi1, hi2⟩ := hii
      obtain ⟨hj1, hj2⟩ := List.getElem?_eq_some_iff.1 g2
      exfalso
      rcases Nat.lt_or_gt_of_ne hij with h | h
      ·exact List.pairwise_iff_getElem.1 s3 j i hj1 hi1 h (by rw [hi2, hj2])
      ·exact List.pairwise_iff_getElem.1 s3 i j hi1 hj1 h (by rw [hi2, hj2])
   ·rw [updF_ne f val hxk, h4]
    constructor
    ·rintro ⟨e1, he1, hk1, hv1⟩
     obtain ⟨i, hi⟩ := List.mem_iff_getElem?.1 he1
     refine ⟨e1, List.mem_iff_getElem?.2 ⟨i, ?_⟩, hk1, hv1⟩
     rw [List.getElem?_set, if_neg (fun e => hxk ?_)]
     ·exact hi
     ·subst e
      rw [g2] at hi
      cases hi
      rw [← hk1, g3]
    ·rintro ⟨e1, he1, hk1, hv1⟩
     rcases List.mem_or_eq_of_mem_set he1 with he1 | rfl
     ·exact ⟨e1, he1, hk1, hv1⟩
     ·exact absurd (hk1.symm.trans g3) hxk
end
end Go.Proofs.YtieifhfgedoiaaaDoor
/- The keys of the program's maps: bytes, and plain pieces. Conditions: those of each theorem. -/
namespace Go.Proofs.YtieifhfgedoiaaaDoor
open Go.RowKit Go.Lib
set_option linter.unusedVariables false
set_option linter.unusedSimpArgs false
theorem Tryd.laidOut : laidOutB Tryd.prog = true := by kernel_rfl
theorem Tryd.row115 : (115 : TypeId) < Tryd.prog.types.size := of_decide_eq_true (by kernel_rfl)
theorem Tryd.wide115 : (match Tryd.prog.underlying 115 with | some (.array _ _) | some (.struct _) => true | _ => false) = true := by kernel_rfl
theorem Tryd.at115 : Tryd.prog.keyTypeAt 3 115 = true := by kernel_rfl
set_option maxRecDepth 100000 in
theorem Tryd.law115 : WideMaps.KeyLaw Tryd.prog 115 := deep_law_laid Tryd.laidOut (m := 3) (by omega) Tryd.row115 Tryd.at115 Tryd.wide115
theorem Tryd.kt115 : Tryd.prog.keyType 115 = true := by kernel_rfl
theorem Tryd.cells115 : Tryd.prog.cellsOf 115 = 3 := by kernel_rfl
theorem Tryd.cells21 : Tryd.prog.cellsOf 21 = 1 := by kernel_rfl
theorem Tryd.cells4 : Tryd.prog.cellsOf 4 = 1 := by kernel_rfl
theorem Tryd.cells5 : Tryd.prog.cellsOf 5 = 1 := by kernel_rfl
set_option maxRecDepth 100000 in
theorem Tryd.typesPos : ∃ m, Tryd.prog.types.size = m + 1 := ⟨_, (Nat.succ_pred_eq_of_pos (Nat.lt_of_le_of_lt (Nat.zero_le _) Tryd.row115)).symm⟩
theorem keyU (u : One) (h1 : u.r ≤ 1114111) (h2 : u.b ≤ 255) : ∃ l, keyOf Tryd.prog 115 u.val = some l := by
 have hf : (u.val).formed Tryd.prog 115 = true := by simp [One.val, Value.formed, Tryd.underlying115, Tryd.cells115]
 have w1 : (Lit.int .i32 u.r).wf = true := by simp [Lit.wf, IntKind.min, IntKind.max, IntKind.signed, IntKind.bits]; omega
 have w2 : (Lit.int .u8 u.b).wf = true := by simp [Lit.wf, IntKind.min, IntKind.max, IntKind.signed, IntKind.bits]; omega
 obtain ⟨m, hm⟩ := Tryd.typesPos
 unfold keyOf
 rw [Tryd.underlying115]
 dsimp only
 rw [Tryd.kt115, hf, hm]
 simp [Program.keyLits, One.val, Value.cells, Tryd.underlying115, Tryd.underlying21, Tryd.underlying4, Tryd.underlying5, Tryd.cells115, Tryd.cells21, Tryd.cells4, Tryd.cells5, w1, w2]
def KB (v : Value) : Prop := ∃ c : Nat, c ≤ 255 ∧ v = .int .u8 c
theorem keysB : KeySet Tryd.prog 5 KB := (keySet_of (Maps.int_keyed Tryd.underlying5)).sub (by
 rintro v ⟨c, hc, rfl⟩
 have hw : (Lit.int .u8 c).wf = true := by simp [Lit.wf, IntKind.min, IntKind.max, IntKind.signed, IntKind.bits]; omega
 exact ⟨_, Maps.keyOf_int_mk Tryd.underlying5 hw⟩)
def KU (v : Value) : Prop := ∃ u : One, u.r ≤ 1114111 ∧ u.b ≤ 255 ∧ v = u.val
theorem keysU : KeySet Tryd.prog 115 KU := (keySet_of (Maps.Keyed.of_law Tryd.law115)).sub (by
 rintro v ⟨u, h1, h2, rfl⟩
 exact keyU u h1 h2)
theorem One.val_inj {a b : One} (h : a.val = b.val) : a = b := by
 obtain ⟨ar, ab, ac⟩ := a
 obtain ⟨br, bb, bc⟩ := b
 simp [One.val] at h
 obtain ⟨h1, h2, h3⟩ := h
 have e1 : ar = br := by omega
 have e3 : ac = bc := by omega
 rw [e1, h2, e3]
end Go.Proofs.YtieifhfgedoiaaaDoor
