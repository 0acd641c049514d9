/- A map in memory as a function from keys to elements: read, written by mapEntry and entryStore. Conditions: those of each theorem. -/
import Derived.Test.YtieifhfgedoiaaaGreatDoorNOw
import Derived.Maps.Own
import Derived.WideKeyEntry
import Derived.DeepKeys4
namespace Go.Proofs.YtieifhfgedoiaaaGreatDoor
open Go.RowKit Go.Lib
open Go.ChangeMaps Go.MapKept
open Go.WideElems (findIdx_born findIdx_arr modify_last set_self)
set_option linter.unusedVariables false
set_option linter.unusedSimpArgs false
structure KeySet (P : Program) (k : TypeId) (KS : Value → Prop) : Prop where
 check : ∀ (w : World) (em : Bool) {v : Value}, KS v → (Instr.checkKey em 10000 k v).run P w = .ok () w
 find : ∀ (w : World) {x : Value}, KS x → ∀ es : List MapEntry, (∀ e ∈ es, KS e.key) →
  ((Instr.findKey k x es).run P w = .ok none w ∧ ∀ e ∈ es, e.key ≠ x) ∨ ∃ j e, (Instr.findKey k x es).run P w = .ok (some (j, e.val)) w ∧ es[j]? = some e ∧ e.key = x
 stays : ∀ (w : World) {v : Value}, KS v → (Instr.keyThatStays v v).run P w = .ok v w
theorem keySet_of {P : Program} {k : TypeId} (K : Maps.Keyed P k) : KeySet P k (fun v => ∃ l, keyOf P k v = some l) :=
 ⟨fun w em _ h => K.check w em h.choose_spec, fun w _ h es hes => K.find w h.choose_spec es hes, fun w _ h => K.stays w h.choose_spec⟩
theorem KeySet.sub {P : Program} {k : TypeId} {A B : Value → Prop} (h : KeySet P k A) (hs : ∀ v, B v → A v) : KeySet P k B :=
 ⟨fun w em _ hv => h.check w em (hs _ hv), fun w _ hv es hes => h.find w (hs _ hv) es fun e he => hs _ (hes e he), fun w _ hv => h.stays w (hs _ hv)⟩
def MapF (KS : Value → Prop) (w : World) (m n : Nat) (f : Value → Option Value) : Prop :=
 ∃ es clock, w.heap[m]? = some (.map es clock) ∧ Stamped es clock ∧ (∀ e ∈ es.toList, KS e.key) ∧ es.size ≤ n ∧ ∀ key v, f key = some v ↔ ∃ e ∈ es.toList, e.key = key ∧ e.val = v
section
variable {P : Program} {k e t : TypeId} {KS : Value → Prop} {w w' : World} {m n : Nat} {f : Value → Option Value}
theorem MapF.lt (h : MapF KS w m n f) : m < w.heap.size := by
 obtain ⟨es, c, hb, _⟩ := h
 exact (Array.getElem?_eq_some_iff.1 hb).1
theorem MapF.block (h : MapF KS w m n f) (he : w'.heap[m]? = w.heap[m]?) : MapF KS w' m n f := by
 obtain ⟨es, c, hb, r⟩ := h
 exact ⟨es, c, he.trans hb, r⟩
theorem MapF.low (h : MapF KS w m n f) (hb : Below w.heap.size w w') : MapF KS w' m n f := h.block (hb.block m h.lt)
theorem MapF.but {S : List Nat} (h : MapF KS w m n f) (hb : ButS S w w') (hm : m ∉ S) : MapF KS w' m n f := h.block (hb.block m h.lt hm)
theorem MapF.mono {n' : Nat} (h : MapF KS w m n f) (hn : n ≤ n') : MapF KS w m n' f := by
 obtain ⟨es, c, hb, h1, h2, h3, h4⟩ := h
 exact ⟨es, c, hb, h1, h2, Nat.le_trans h3 hn, h4⟩
theorem MapF.made (KS : Value → Prop) (w : World) : MapF KS (w.alloc (.map #[] 0)) w.heap.size 0 (fun _ => none) :=
 ⟨#[], 0, heap_alloc_new w _, stamped_empty 0, by simp, Nat.le_refl _, by simp⟩
theorem MapF.congr {g : Value → Option Value} (h : MapF KS w m n f) (e : ∀ key, f key = g key) : MapF KS w m n g := by
 obtain ⟨es, c, hb, h1, h2, h3, h4⟩ := h
 exact ⟨es, c, hb, h1, h2, h3, fun key v => by rw [← e]; exact h4 key v⟩
theorem MapF.look (h : MapF KS w m n f) (K : KeySet P k KS) (ht : P.underlying t = some (.map k e)) {z : Value} (hz : (zeroValue e).run P w = .ok z w) {key : Value} (hk : KS key) (c : Bool) :
  (Instr.lookup t (.map (some m)) key c).run P w = .ok (if c then .tuple #[(f key).getD z, .bool (f key).isSome] else (f key).getD z) w := by
 obtain ⟨es, clock, hb, h1, h2, h3, h4⟩ := h
 rcases K.find w hk es.toList h2 with ⟨g1, g2⟩ | ⟨j, e0, g1, g2, g3⟩
 ·have hf : f key = none := by
   cases hf : f key with
   | none => rfl
   | some v =>
    obtain ⟨e0, he, hk0, _⟩ := (h4 key v).1 hf
    exact absurd hk0 (g2 e0 he)
  rw [hf]
  simp [Instr.lookup, run_underlying ht, MapKept.run_getObj_map hb, K.check w _ hk, g1, hz, Result.andThen]
 ·have hf : f key = some e0.val := (h4 key e0.val).2 ⟨e0, List.mem_of_getElem? g2, g3, rfl⟩
  rw [hf]
  simp [Instr.lookup, run_underlying ht, MapKept.run_getObj_map hb, K.check w _ hk, g1, Result.andThen]
noncomputable def updF (f : Value → Option Value) (key v : Value) : Value → Option Value := fun x => open Classical in if x = key then some v else f x
theorem updF_same (f : Value → Option Value) (key v : Value) : updF f key v key = some v := by unfold updF; rw [if_pos rfl]
theorem updF_ne (f : Value → Option Value) {key x : Value} (v : Value) (h : x ≠ key) : updF f key v x = f x := by unfold updF; rw [if_neg h]
theorem stamped_nodup {es : Array MapEntry} {c : Nat} (h : Stamped es c) : (∀ x ∈ es.toList, x.born < c) ∧ (es.toList.map (·.born)).Nodup ∧ es.toList.Pairwise (fun x y => x.key ≠ y.key) := (stamped_iff es c).1 h
theorem pair_at {l : List MapEntry} (h : l.Pairwise (fun x y => x.key ≠ y.key)) {j : Nat} {e0 : MapEntry} (hj : l[j]? = some e0) {x : MapEntry} (hx : x ∈ l) (hk : x.key = e0.key) : x = e0 := by
 obtain ⟨i, hi, rfl⟩ := List.getElem_of_mem hx
 obtain ⟨hj', rfl⟩ := List.getElem?_eq_some_iff.1 hj
 rcases Nat.lt_trichotomy i j with h1 | h1 | h1
 ·exact absurd hk (List.pairwise_iff_getElem.1 h i j hi hj' h1)
 ·subst h1; rfl
 ·exact absurd hk.symm (List.pairwise_iff_getElem.1 h j i hj' hi h1)
end
end Go.Proofs.YtieifhfgedoiaaaGreatDoor
/- The keys of the program's maps: bytes, and plain pieces. Conditions: those of each theorem. -/
namespace Go.Proofs.YtieifhfgedoiaaaGreatDoor
open Go.RowKit Go.Lib
set_option linter.unusedVariables false
set_option linter.unusedSimpArgs false
theorem Tryz.laidOut : laidOutB Tryz.prog = true := by kernel_rfl
theorem Tryz.row110 : (110 : TypeId) < Tryz.prog.types.size := of_decide_eq_true (by kernel_rfl)
theorem Tryz.wide110 : (match Tryz.prog.underlying 110 with | some (.array _ _) | some (.struct _) => true | _ => false) = true := by kernel_rfl
theorem Tryz.at110 : Tryz.prog.keyTypeAt 3 110 = true := by kernel_rfl
set_option maxRecDepth 100000 in
theorem Tryz.law110 : WideMaps.KeyLaw Tryz.prog 110 := deep_law_laid Tryz.laidOut (m := 3) (by omega) Tryz.row110 Tryz.at110 Tryz.wide110
theorem Tryz.kt115 : Tryz.prog.keyType 110 = true := by kernel_rfl
theorem Tryz.cells115 : Tryz.prog.cellsOf 110 = 3 := by kernel_rfl
theorem Tryz.cells21 : Tryz.prog.cellsOf 21 = 1 := by kernel_rfl
theorem Tryz.cells4 : Tryz.prog.cellsOf 4 = 1 := by kernel_rfl
theorem Tryz.cells5 : Tryz.prog.cellsOf 5 = 1 := by kernel_rfl
set_option maxRecDepth 100000 in
theorem Tryz.typesPos : ∃ m, Tryz.prog.types.size = m + 1 := ⟨_, (Nat.succ_pred_eq_of_pos (Nat.lt_of_le_of_lt (Nat.zero_le _) Tryz.row110)).symm⟩
theorem keyU (u : One) (h1 : u.r ≤ 1114111) (h2 : u.b ≤ 255) : ∃ l, keyOf Tryz.prog 110 u.val = some l := by
 have hf : (u.val).formed Tryz.prog 110 = true := by simp [One.val, Value.formed, Tryz.underlying110, Tryz.cells115]
 have w1 : (Lit.int .i32 u.r).wf = true := by simp [Lit.wf, IntKind.min, IntKind.max, IntKind.signed, IntKind.bits]; omega
 have w2 : (Lit.int .u8 u.b).wf = true := by simp [Lit.wf, IntKind.min, IntKind.max, IntKind.signed, IntKind.bits]; omega
 obtain ⟨m, hm⟩ := Tryz.typesPos
 unfold keyOf
 rw [Tryz.underlying110]
 dsimp only
 rw [Tryz.kt115, hf, hm]
 simp [Program.keyLits, One.val, Value.cells, Tryz.underlying110, Tryz.underlying21, Tryz.underlying4, Tryz.underlying5, Tryz.cells115, Tryz.cells21, Tryz.cells4, Tryz.cells5, w1, w2]
def KB (v : Value) : Prop := ∃ c : Nat, c ≤ 255 ∧ v = .int .u8 c
theorem keysB : KeySet Tryz.prog 5 KB := (keySet_of (Maps.int_keyed Tryz.underlying5)).sub (by
 rintro v ⟨c, hc, rfl⟩
 have hw : (Lit.int .u8 c).wf = true := by simp [Lit.wf, IntKind.min, IntKind.max, IntKind.signed, IntKind.bits]; omega
 exact ⟨_, Maps.keyOf_int_mk Tryz.underlying5 hw⟩)
def KU (v : Value) : Prop := ∃ u : One, u.r ≤ 1114111 ∧ u.b ≤ 255 ∧ v = u.val
theorem keysU : KeySet Tryz.prog 110 KU := (keySet_of (Maps.Keyed.of_law Tryz.law110)).sub (by
 rintro v ⟨u, h1, h2, rfl⟩
 exact keyU u h1 h2)
theorem One.val_inj {a b : One} (h : a.val = b.val) : a = b := by
 obtain ⟨ar, ab, ac⟩ := a
 obtain ⟨br, bb, bc⟩ := b
 simp [One.val] at h
 obtain ⟨h1, h2, h3⟩ := h
 have e1 : ar = br := by omega
 have e3 : ac = bc := by omega
 rw [e1, h2, e3]
end Go.Proofs.YtieifhfgedoiaaaGreatDoor
