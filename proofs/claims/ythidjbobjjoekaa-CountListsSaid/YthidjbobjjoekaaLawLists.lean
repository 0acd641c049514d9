/- CountLists: of any lists of floats, what is in the middle, how they spread and rise, as the document answers. Conditions: none: it is said of every input. -/
import Derived.Test.YthidjbobjjoekaaRows
import Derived.Test.YthidjbobjjoekaaWLists
import Derived.Test.YthidjbobjjoekaaOf
import Derived.SizedLaws
import Derived.WalkKit
import Derived.ProofKit
import Derived.OpenShut
import Derived.ShutString
import Derived.ChangeOld
import Derived.Below
import Derived.Carry
import Derived.Laws.Cover2
import Derived.Lib.SmallJoins
namespace Go.Proofs.Ythidjbobjjoekaa.countLists
open Go.ChangeShapes Go.WideShapes Go.ChangeAt Go.RowKit Go.Joins
set_option linter.unusedVariables false
set_option linter.unusedSimpArgs false

theorem own : ownKnob Try.prog.godebug = none := by kernel_rfl
theorem cells22 : Try.prog.cellsOf 22 = 1 := by kernel_rfl
theorem bytes22 : Try.prog.bytesOf 22 = 8 := by kernel_rfl
theorem slice_in {H : Type} {enc : TypeId × Value → H} {W : World} {a0 : Option Addr} {len cap : Nat} {d0 : DataW H} {p0 : List MemPlace} (h0 : DataW.Trod enc Try.prog W 0 (fun _ => true) true 41 (.slice a0 len cap) d0 p0) :
    ∃ fs : List Nat, fs.length = len ∧ FloatsIn W a0 fs ∧ (len = 0 ∨ ∃ el sp, d0 = .slice el sp ∧ el.length = len) := by
  obtain ⟨fuel, hf⟩ := h0
  rcases open_floats Try.underlying41 Try.underlying22 cells22 hf with ⟨hcs, hx⟩ | ⟨a, len', cap', fs, el, sp, ps, hcs, hfl, hel, hx, hcell⟩
  · simp [Value.cells] at hcs
    obtain ⟨rfl, rfl, rfl⟩ := hcs
    exact ⟨[], rfl, ⟨fun k x hx => by simp at hx, fun x hx => by simp at hx⟩, .inl rfl⟩
  · simp [Value.cells] at hcs
    obtain ⟨rfl, rfl, rfl⟩ := hcs
    refine ⟨fs, hfl, ⟨fun k x hx => ?_, fun x hx => ?_⟩, .inr ⟨el, sp, congrArg Prod.fst hx, hel⟩⟩
    · obtain ⟨b, off, spot⟩ := a
      obtain ⟨z, hz⟩ : ∃ z, fs[0]? = some z := ⟨_, List.getElem?_eq_getElem (by have := (List.getElem?_eq_some_iff.1 hx).1; omega)⟩
      have hspot : spot = none := by simpa [Addr.add] using World.cell?_spot (hcell 0 z hz).1
      subst hspot
      have hcl := (hcell k x hx).1
      rw [add_plain] at hcl
      exact ⟨b, off, rfl, World.block_lt_of_cell? W _ hcl, hcl⟩
    · obtain ⟨i, hi⟩ := List.getElem?_of_mem hx
      have := (hcell i x hi).2
      simpa [Lit.wf] using this
set_option maxRecDepth 100000 in
theorem lifted (os : Os) (started : os.Started) (H : Type) (enc : TypeId × Value → H) :
    ReturnsInHanded {} Try.checked os 7 .any (Rows.countListsSpec.pre6 enc Try.prog Try.f7 Rows.countListsRow.domain false) (Rows.countListsSpec.post enc Try.prog Try.f7 false true false false) := by
  refine returnsInHanded_of_change_sized (C := Try.checked) own started (by kernel_rfl) Try.func7
    (ChangeSpec.witness6 (enc := enc) (C := Try.checked) false ⟨#[], #[.slice none 0 0, .slice none 0 0, .float .f64 0], []⟩ 8 (by kernel_rfl) (by kernel_rfl) (by kernel_rfl) (by kernel_rfl)) ?_
  intro W base args ds gs before hval0 hW hcnd hsize _
  have hval : ∀ (j : Nat) t v, Try.f7.params[j]? = some t → args[j]? = some v → Value.okWide Try.prog W .any base t v := hval0
  have hW' := hW
  obtain ⟨p, q, hA0, hV, rfl, hfz, hnd⟩ := hW
  have hA : DataW.TrodAll enc Try.prog W 0 (fun _ => true) true Try.f7.params.toList args.toList ds p := hA0
  have hsz : (DataW.weightsEach Try.prog (Try.f7.params.toList ++ []) (ds ++ gs)).all (· ≤ reachBytes) = true := hsize
  rw [Try.params7] at hA hval hsz
  obtain ⟨v0, vs0, d0, ds0, p0, q0, hargs0, rfl, rfl, h0, r0⟩ := trodAll_cons hA
  obtain ⟨v1, vs1, d1, ds1, p1, q1, hargs1, rfl, rfl, h1, r1⟩ := trodAll_cons r0
  obtain ⟨v2, vs2, d2, ds2, p2, q2, hargs2, rfl, rfl, h2, r2⟩ := trodAll_cons r1
  obtain ⟨rfl, rfl, rfl⟩ := trodAll_nil r2
  subst hargs1
  subst hargs2
  obtain rfl : args = #[v0, v1, v2] := by cases args; simp_all
  obtain ⟨rfl, rfl⟩ := trodVars_none hV
  obtain ⟨a2, rfl, rfl, rfl, w2⟩ := open_float Try.underlying22 (hval 2 22 v2 rfl rfl) h2
  obtain ⟨a0, len, cap, rfl⟩ := okWide_slice Try.underlying41 (hval 0 41 v0 rfl rfl)
  obtain ⟨a1, len1, cap1, rfl⟩ := okWide_slice Try.underlying41 (hval 1 41 v1 rfl rfl)
  clear hA0 hval0 hsize
  simp only [List.append_nil] at hW'
  have hlt0 : ∀ x ∈ p0, x.block < W.heap.size := fun x hx => by have := hW'.lt x (by simp [hx]); simpa using this
  have hlt1 : ∀ x ∈ p1, x.block < W.heap.size := fun x hx => by have := hW'.lt x (by simp [hx]); simpa using this
  have hargs0 : ∀ (W' : World), Below W.heap.size W W' → DataW.Trod enc Try.prog W' 0 (fun b => decide (b < W.heap.size)) true 41 (.slice a0 len cap) d0 p0 :=
    fun W' hn => Below.trod (by kernel_rfl) (by kernel_rfl) (of_decide_eq_true (by kernel_rfl)) h0 hn hlt0
  have hargs1 : ∀ (W' : World), Below W.heap.size W W' → DataW.Trod enc Try.prog W' 0 (fun b => decide (b < W.heap.size)) true 41 (.slice a1 len1 cap1) d1 p1 :=
    fun W' hn => Below.trod (by kernel_rfl) (by kernel_rfl) (of_decide_eq_true (by kernel_rfl)) h1 hn hlt1
  obtain ⟨fs, hfl, F, hd⟩ := slice_in h0
  obtain ⟨gs', hgl, G, hg⟩ := slice_in h1
  have hb0 : fs.length * 8 + 8 ≤ 140737488355328 := by
    rcases hd with hz | ⟨el, sp, rfl, hel⟩
    · omega
    · simp only [List.append_nil, List.cons_append, DataW.weightsEach, DataW.weights, Try.underlying41, bytes22, List.all_cons, List.all_append, Bool.and_eq_true, decide_eq_true_eq] at hsz
      have h2 := hsz.1
      simp only [reachBytes] at h2
      omega
  have hb1 : gs'.length * 8 + 8 ≤ 140737488355328 := by
    rcases hg with hz | ⟨el, sp, rfl, hel⟩
    · omega
    · rcases hd with hz | ⟨el0, sp0, rfl, hel0⟩ <;>
        simp only [List.append_nil, List.cons_append, DataW.weightsEach, DataW.weights, Try.underlying41, bytes22, List.all_cons, List.all_append, Bool.and_eq_true, decide_eq_true_eq] at hsz <;>
        simp only [reachBytes] at hsz <;> omega
  have key := lists_walk W a0 a1 cap cap1 fs gs' a2 F G hb0 hb1
  rw [hfl, hgl] at key
  refine key.mono fun e W' ⟨he, bel⟩ => ?_
  subst he
  exact ⟨_, rfl, _, _, _, [], _, [], hW', trodAll_mk1 (shut_bool Try.underlying4 _), (trodAll_cons_mk (hargs0 W' bel) (trodAll_cons_mk (hargs1 W' bel) (trodAll_cons_mk (shut_float Try.underlying22 w2) trodAll_mk0))), rfl, bel.frame _, fun h => by cases h⟩

/-- THE STATEMENT -/
theorem proved : Rows.CountListsSaid :=
  OpenClaim.holds_of_wide 7 Try.f7 rfl rfl rfl rfl rfl rfl rfl ⟨rfl, rfl, rfl, rfl, rfl⟩ rfl rfl rfl rfl rfl (by kernel_rfl) Try.func7 (by kernel_rfl)
    (of_decide_eq_true (by kernel_rfl)) (by unfold Func.isWrapper; first | (rw [if_pos (by decide +kernel)]; kernel_rfl) | (rw [if_neg (by decide +kernel)]; exact ⟨rfl, rfl⟩))
    (fun os started H enc _ => lifted os started H enc)
#print axioms proved
end Go.Proofs.Ythidjbobjjoekaa.countLists
