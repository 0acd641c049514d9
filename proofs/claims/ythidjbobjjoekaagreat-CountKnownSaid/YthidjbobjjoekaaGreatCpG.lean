/- slices.Sorted(maps.Keys(m)) at this program's types: the words of a map, rising. Conditions: those of each theorem. -/
import Derived.Test.YthidjbobjjoekaaGreatCpE
import Derived.Test.YthidjbobjjoekaaGreatSh
namespace Go.Proofs.YthidjbobjjoekaaGreat
open Go.RowKit Go.Lib Go.Sort Go.Shelf Go.Maps
set_option linter.unusedVariables false
set_option linter.unusedSimpArgs false
set_option maxHeartbeats 2000000
theorem Try_sortsA (m : Nat) : AnyZ.SortsIn Tryz.prog Tryz.sortedA_ren Fence.wide m :=
  ⟨fun blk off cap ss W hH hblk hsz => callsIn_wide.2 (AnyM.slices_Sort_string Tryz.sortA blk off cap ss W hH hblk hsz),
   fun p cap W => callsIn_wide.2 (AnyM.slices_Sort_string_none Tryz.sortA p cap W)⟩
def ofB (b : List UInt8) : ByteArray := ⟨b.toArray⟩
theorem ofB_data (b : List UInt8) : (ofB b).data.toList = b := by unfold ofB; simp
theorem ofB_enc (b : List UInt8) : encS (ofB b) = encStr b := rfl
theorem ofB_inj {a b : List UInt8} (h : ofB a = ofB b) : a = b := by rw [← ofB_data a, h, ofB_data]
theorem keys_facts {w : World} {b n : Nat} {D : Dt} (hown : w.ownsMap Tryz.prog 9 (plainElem Tryz.prog 3) b n D) : (strKeys D).Nodup ∧ ∀ x, x ∈ strKeys D ↔ Maps.has D (.string x) = true := by
  obtain ⟨es, hD, hp, _⟩ := hown.entries kS
  obtain ⟨es', hD', hko⟩ := hown.keysOf
  obtain rfl : es = es' := by rw [hD] at hD'; simpa using hD'
  subst hD
  have hk : ∀ p ∈ es, ∃ x, p.1 = .string x := fun p hp => by obtain ⟨v, hv⟩ := hko p hp; obtain ⟨x, _, hx, _⟩ := Maps.keyOf_str Tryz.underlying9 hv; exact ⟨x, hx⟩
  constructor
  · show (es.map fun p => strOf p.1).Nodup
    refine List.pairwise_map.2 (hp.imp_of_mem fun {p q} hp' hq' hne e => hne ?_)
    obtain ⟨a, ha⟩ := hk p hp'
    obtain ⟨b, hb⟩ := hk q hq'
    rw [ha, hb] at e ⊢
    exact congrArg _ e
  · intro x
    rw [has_eq, List.any_eq_true]
    show x ∈ es.map (fun p => strOf p.1) ↔ _
    rw [List.mem_map]
    constructor
    · rintro ⟨p, hp', rfl⟩
      obtain ⟨a, ha⟩ := hk p hp'
      exact ⟨p, hp', by rw [ha]; simp [Lit.sameKey, strOf]⟩
    · rintro ⟨p, hp', hs⟩
      obtain ⟨a, ha⟩ := hk p hp'
      rw [ha] at hs
      exact ⟨p, hp', by rw [ha]; simpa [Lit.sameKey, strOf] using hs⟩
theorem has_merge {w : World} {b n : Nat} {Dd Ds : Dt} (hm : Maps.IsMap Dd) (hs : w.ownsMap Tryz.prog 9 (plainElem Tryz.prog 3) b n Ds) (k : Lit) : Maps.has (Lib.mergeD Dd Ds) k = (Maps.has Dd k || Maps.has Ds k) := by
  obtain ⟨es, rfl, _, hk⟩ := hs.entries kS
  show Maps.has (es.foldl (fun D p => D.put p.1 p.2) Dd) k = _
  rw [has_foldPut k es Dd hm hk, has_eq]
theorem sorted73 {W : World} {cc n : Nat} {D : Dt} (hown : W.ownsMap Tryz.prog 9 (plainElem Tryz.prog 3) cc n D) (hsz : Maps.size D ≤ 9000) :
    Calls Tryz.prog 44 #[.func (.func 67) #[] #[.pointer (some ⟨W.heap.size, 0, none⟩)]] (W.alloc (.cells #[.map (some cc)] 68)) fun e w' => ∃ (v : Value) (zs : List ByteArray), e = .returned v ∧ zs.Pairwise leS ∧ zs.Nodup ∧ (∀ k, k ∈ zs ↔ Maps.has D (keyL k) = true) ∧ OwnS (W.alloc (.cells #[.map (some cc)] 68)) w' v zs := by
  obtain ⟨hnd, hmem⟩ := keys_facts hown
  have hlt := hown.lt
  have hseq : SeqGives Fence.wide 2 Tryz.prog 67 #[.pointer (some ⟨W.heap.size, 0, none⟩)] encStr (fun ss => ss.Perm (strKeys D)) (Maps.size D) (W.alloc (.cells #[.map (some cc)] 68)) :=
    AnyZ.keys_gives (ρ := Tryz.keysA_ren) { Tryz.keysA with } Fence.wide _ trivial rfl (by omega) W.heap.size cc n D _ (by simp) (by simp) (by
      obtain ⟨es, clock, hb, Ft, hs, hD⟩ := hown
      exact ⟨es, clock, (Below.heap_alloc _ _ cc hlt).trans hb, Ft, hs, hD⟩)
  have cS := AnyZ.sorted_in Tryz.sortedA Fence.wide 5 trivial trivial trivial trivial rfl (by omega) (Try_sortsA _) (enters_of Tryz.func66 (by kernel_rfl) rfl) 67 #[.pointer (some ⟨W.heap.size, 0, none⟩)] trivial (enters_of Tryz.func67 (by kernel_rfl) rfl) _ _ (by unfold maxLen; omega) (by omega) _ hseq
  change CallsIn _ _ Tryz.prog 44 _ _ _ at cS
  refine ((callsIn_wide (n := 5)).1 cS).mono ?_
  rintro e w' ⟨v, ss, rfl, hp, hrow, hnil, hb⟩
  refine ⟨v, (ss.mergeSort fun x y => decide (x ≤ y)).map ofB, rfl, ?_, ?_, fun k => ?_, ?_, hb⟩
  · refine List.pairwise_map.2 ?_
    have h := List.pairwise_mergeSort (le := fun a b : List UInt8 => decide (a ≤ b)) (fun a b c h k => by simp only [decide_eq_true_eq] at *; exact List.le_trans h k) (fun a b => by simp only [Bool.or_eq_true, decide_eq_true_eq]; exact List.le_total _ _) ss
    exact h.imp fun {a b} h => by unfold leS; rw [ofB_data, ofB_data]; exact of_decide_eq_true h
  · refine List.pairwise_map.2 ?_
    exact ((List.mergeSort_perm _ _).nodup_iff.2 (hp.nodup_iff.2 hnd)).imp fun {a b} hne e => hne (ofB_inj e)
  · rw [List.mem_map]
    constructor
    · rintro ⟨b, hb, rfl⟩
      rw [(List.mergeSort_perm _ _).mem_iff, hp.mem_iff, hmem] at hb
      unfold keyL
      rw [ofB_data]; exact hb
    · intro h
      refine ⟨k.data.toList, ?_, ba_ext (ofB_data _)⟩
      rw [(List.mergeSort_perm _ _).mem_iff, hp.mem_iff, hmem]
      exact h
  · have e1 : ((ss.mergeSort fun x y => decide (x ≤ y)).map ofB).length = ss.length := by rw [List.length_map, (List.mergeSort_perm _ _).length_eq]
    have e2 : ((ss.mergeSort fun x y => decide (x ≤ y)).map ofB).map encS = (ss.mergeSort fun x y => decide (x ≤ y)).map encStr := by rw [List.map_map]; rfl
    rw [e1, e2]
    exact hrow
theorem keys74 (W : World) (cc : Nat) : Calls Tryz.prog 45 #[.map (some cc)] W fun e w' => e = .returned (.func (.func 67) #[] #[.pointer (some ⟨W.heap.size, 0, none⟩)]) ∧ w' = W.alloc (.cells #[.map (some cc)] 68) :=
  (callsIn_wide (n := 5)).1 (AnyZ.keys_in Tryz.keysA Fence.wide 5 trivial rfl (some cc) W)
end Go.Proofs.YthidjbobjjoekaaGreat
