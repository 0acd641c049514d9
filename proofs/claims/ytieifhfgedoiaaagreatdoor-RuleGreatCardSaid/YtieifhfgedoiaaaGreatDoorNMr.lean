/- 'm[k] = v' at a map as a function. Conditions: those of each theorem. -/
import Derived.Test.YtieifhfgedoiaaaGreatDoorNMq
namespace Go.Proofs.YtieifhfgedoiaaaGreatDoor
open Go.RowKit Go.Lib
open Go.ChangeMaps Go.MapKept
open Go.WideElems (findIdx_born findIdx_arr modify_last set_self)
set_option linter.unusedVariables false
set_option linter.unusedSimpArgs false
section
variable {P : Program} {k e t : TypeId} {KS : Value → Prop} {w w' : World} {m n : Nat} {f : Value → Option Value}
theorem MapF.put (h : MapF KS w m n f) (K : KeySet P k KS) (ht : P.underlying t = some (.map k e)) {key : Value} (hk : KS key) (val : Value) :
  ∃ o1 : Obj, (Instr.mapUpdate t (.map (some m)) key val).run P w = .ok () (setBlock w m o1) ∧ ∀ w3 : World, w3.heap[m]? = some o1 → MapF KS w3 m (n + 1) (updF f key val) := by
 obtain ⟨es, clock, hb, h1, h2, h3, h4⟩ := h
 obtain ⟨s1, s2, s3⟩ := stamped_nodup h1
 rcases K.find w hk es.toList h2 with ⟨g1, g2⟩ | ⟨j, e0, g1, g2, g3⟩
 ·have hf : f key = none := by
   cases hf : f key with
   | none => rfl
   | some v =>
    obtain ⟨e0, he, hk0, _⟩ := (h4 key v).1 hf
    exact absurd hk0 (g2 e0 he)
  have main : ∀ (val : Value) (w3 : World), w3.heap[m]? = some (.map (es.push ⟨key, val, clock⟩) (clock + 1)) → MapF KS w3 m (n + 1) (updF f key val) := by
   intro val w3 hw3
   refine ⟨_, _, hw3, stamped_push h1 g2, ?_, by simp; omega, ?_⟩
   ·intro x hx
    rw [Array.toList_push, List.mem_append, List.mem_singleton] at hx
    rcases hx with hx | rfl
    ·exact h2 x hx
    ·exact hk
   ·intro x v
    by_cases hxk : x = key
    ·subst hxk
     rw [updF_same]
     constructor
     ·intro hv; cases hv; exact ⟨⟨x, val, clock⟩, by simp, rfl, rfl⟩
     ·rintro ⟨e1, he1, hk1, hv1⟩
      rw [Array.toList_push, List.mem_append, List.mem_singleton] at he1
      rcases he1 with he1 | rfl
      ·exact absurd hk1 (g2 e1 he1)
      ·rw [← hv1]
    ·rw [updF_ne f val hxk, h4]
     constructor
     ·rintro ⟨e1, he1, hk1, hv1⟩
      exact ⟨e1, by rw [Array.toList_push, List.mem_append]; exact .inl he1, hk1, hv1⟩
     ·rintro ⟨e1, he1, hk1, hv1⟩
      rw [Array.toList_push, List.mem_append, List.mem_singleton] at he1
      rcases he1 with he1 | rfl
      ·exact ⟨e1, he1, hk1, hv1⟩
      ·exact absurd hk1.symm hxk
  refine ⟨.map (es.push ⟨key, val, clock⟩) (clock + 1), ?_, fun w3 hw3 => main val w3 hw3⟩
  simp [Instr.mapUpdate, run_underlying ht, MapKept.run_getObj_map hb, K.check w false hk, g1, MapKept.run_setObj_map _ hb, Result.andThen, setBlock]
 ·have hf : f key = some e0.val := (h4 key e0.val).2 ⟨e0, List.mem_of_getElem? g2, g3, rfl⟩
  have hj : es[j]? = some e0 := by simpa using g2
  have hsame : es.modify j (fun e => { e with key := key }) = es := by
   apply Array.ext'
   rw [Array.toList_modify, modify_eq_set _ _ _ _ g2]
   have : ({ e0 with key := key } : MapEntry) = e0 := by rw [← g3]
   rw [this]
   exact set_self _ _ _ g2
  have hlist : ∀ val, (es.modify j (fun e => { e with val := val })).toList = es.toList.set j { e0 with val := val } := fun val => by rw [Array.toList_modify, modify_eq_set _ _ _ _ g2]
  have hsame2 : es.modify j (fun e => { e with key := key, val := val }) = es.modify j (fun e => { e with val := val }) := by
   apply Array.ext'
   rw [Array.toList_modify, Array.toList_modify, modify_eq_set _ _ _ _ g2, modify_eq_set _ _ _ _ g2, g3]
  refine ⟨.map (es.modify j (fun e => { e with val := val })) clock, ?_, fun w3 hw3 => ⟨_, _, hw3, stamped_modify h1 _ _ (fun _ _ => rfl) (fun _ _ _ => rfl), ?_, by simpa using Nat.le_succ_of_le h3, ?_⟩⟩
  ·simp [Instr.mapUpdate, run_underlying ht, MapKept.run_getObj_map hb, K.check w false hk, g1, hj, g3, K.stays w hk, hsame2, MapKept.run_setObj_map _ hb, Result.andThen, setBlock]
  ·intro x hx
   rw [hlist] at hx
   rcases List.mem_or_eq_of_mem_set hx with hx | rfl
   ·exact h2 x hx
   ·exact g3 ▸ hk
  ·have hjl : j < es.toList.length := (List.getElem?_eq_some_iff.1 g2).1
   intro x v
   rw [hlist]
   by_cases hxk : x = key
   ·subst hxk
    rw [updF_same]
    constructor
    ·intro hv; cases hv; exact ⟨{ e0 with val := val }, List.mem_iff_getElem?.2 ⟨j, by rw [List.getElem?_set_self hjl]⟩, g3, rfl⟩
    ·rintro ⟨e1, he1, hk1, hv1⟩
     obtain ⟨i, hi⟩ := List.mem_iff_getElem?.1 he1
     rw [List.getElem?_set] at hi
     by_cases hij : j = i
     ·rw [if_pos hij, if_pos (by omega)] at hi
      cases hi
      rw [← hv1]
     ·rw [if_neg hij] at hi
      have := pair_at s3 g2 (List.mem_of_getElem? hi) (hk1.trans g3.symm)
      subst this
      have hii := (List.getElem?_eq_some_iff.1 hi)
      obtain ⟨hi1, hi2⟩ := hii
      obtain ⟨hj1, hj2⟩ := List.getElem?_eq_some_iff.1 g2
      exfalso
      rcases Nat.lt_or_gt_of_ne hij with h | h
      ·exact List.pairwise_iff_getElem.1 s3 j i hj1 hi1 h (by rw [hi2, hj2])
      ·exact List.pairwise_iff_getElem.1 s3 i j hi1 hj1 h (by rw [hi2, hj2])
   ·rw [updF_ne f val hxk, h4]
    constructor
    ·rintro ⟨e1, he1, hk1, hv1⟩
     obtain ⟨i, hi⟩ := List.mem_iff_getElem?.1 he1
     refine ⟨e1, List.mem_iff_getElem?.2 ⟨i, ?_⟩, hk1, hv1⟩
     rw [List.getElem?_set, if_neg (fun e => hxk ?_)]
     ·exact hi
     ·subst e
      rw [g2] at hi
      cases hi
      rw [← hk1, g3]
    ·rintro ⟨e1, he1, hk1, hv1⟩
     rcases List.mem_or_eq_of_mem_set he1 with he1 | rfl
     ·exact ⟨e1, he1, hk1, hv1⟩
     ·exact absurd (hk1.symm.trans g3) hxk
end
end Go.Proofs.YtieifhfgedoiaaaGreatDoor
