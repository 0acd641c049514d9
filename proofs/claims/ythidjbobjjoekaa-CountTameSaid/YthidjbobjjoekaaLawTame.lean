/- CountTame: of numbers that are not too great nothing is NaN, and a quantile lies between the least and the greatest. Conditions: none: it is said of every input. -/
import Derived.Test.YthidjbobjjoekaaRows
import Derived.Test.YthidjbobjjoekaaWTame
import Derived.Test.YthidjbobjjoekaaOf
import Derived.SizedLaws
import Derived.WalkKit
import Derived.ProofKit
import Derived.OpenShut
import Derived.ShutString
import Derived.ChangeOld
import Derived.Below
import Derived.Carry
import Derived.Laws.Cover2
import Derived.Lib.SmallJoins
namespace Go.Proofs.Ythidjbobjjoekaa.countTame
open Go.ChangeShapes Go.WideShapes Go.ChangeAt Go.RowKit Go.Joins
set_option linter.unusedVariables false
set_option linter.unusedSimpArgs false

theorem own : ownKnob Try.prog.godebug = none := by kernel_rfl
theorem cells22 : Try.prog.cellsOf 22 = 1 := by kernel_rfl
theorem bytes22 : Try.prog.bytesOf 22 = 8 := by kernel_rfl
set_option maxRecDepth 100000 in
theorem lifted (os : Os) (started : os.Started) (H : Type) (enc : TypeId × Value → H) :
    ReturnsInHanded {} Try.checked os 6 .any (Rows.countTameSpec.pre6 enc Try.prog Try.f6 Rows.countTameRow.domain false) (Rows.countTameSpec.post enc Try.prog Try.f6 false true false false) := by
  refine returnsInHanded_of_change_sized (C := Try.checked) own started (by kernel_rfl) Try.func6
    (ChangeSpec.witness6 (enc := enc) (C := Try.checked) false ⟨#[], #[.slice none 0 0, .float .f64 0], []⟩ 8 (by kernel_rfl) (by kernel_rfl) (by kernel_rfl) (by kernel_rfl)) ?_
  intro W base args ds gs before hval0 hW hcnd hsize _
  have hval : ∀ (j : Nat) t v, Try.f6.params[j]? = some t → args[j]? = some v → Value.okWide Try.prog W .any base t v := hval0
  have hW' := hW
  obtain ⟨p, q, hA0, hV, rfl, hfz, hnd⟩ := hW
  have hA : DataW.TrodAll enc Try.prog W 0 (fun _ => true) true Try.f6.params.toList args.toList ds p := hA0
  have hsz : (DataW.weightsEach Try.prog (Try.f6.params.toList ++ []) (ds ++ gs)).all (· ≤ reachBytes) = true := hsize
  rw [Try.params6] at hA hval hsz
  obtain ⟨v0, vs0, d0, ds0, p0, q0, hargs0, rfl, rfl, h0, r0⟩ := trodAll_cons hA
  obtain ⟨v1, vs1, d1, ds1, p1, q1, hargs1, rfl, rfl, h1, r1⟩ := trodAll_cons r0
  obtain ⟨rfl, rfl, rfl⟩ := trodAll_nil r1
  subst hargs1
  obtain rfl : args = #[v0, v1] := by cases args; simp_all
  obtain ⟨rfl, rfl⟩ := trodVars_none hV
  obtain ⟨a1, rfl, rfl, rfl, w1⟩ := open_float Try.underlying22 (hval 1 22 v1 rfl rfl) h1
  obtain ⟨a0, len, cap, rfl⟩ := okWide_slice Try.underlying41 (hval 0 41 v0 rfl rfl)
  have h0k := h0
  obtain ⟨fuel, hf⟩ := h0
  clear hA0 hval0 hsize
  simp only [List.append_nil] at hW'
  have hlt : ∀ x ∈ p0, x.block < W.heap.size := fun x hx => by simpa using hW'.lt x hx
  have hargs : ∀ (W' : World), Below W.heap.size W W' → DataW.Trod enc Try.prog W' 0 (fun b => decide (b < W.heap.size)) true 41 (.slice a0 len cap) d0 p0 :=
    fun W' hn => Below.trod (by kernel_rfl) (by kernel_rfl) (of_decide_eq_true (by kernel_rfl)) h0k hn hlt
  have key : Calls Try.prog 6 #[.slice a0 len cap, .float .f64 a1] W fun e w' => e = .returned (.bool true) ∧ Below W.heap.size W w' := by
    rcases open_floats Try.underlying41 Try.underlying22 cells22 hf with ⟨hcs, hx⟩ | ⟨a, len', cap', fs, el, sp, ps, hcs, hfl, hel, hx, hcell⟩
    · simp [Value.cells] at hcs
      obtain ⟨rfl, rfl, rfl⟩ := hcs
      exact tame_walk W none 0 [] a1 ⟨fun k x hx => by simp at hx, fun x hx => by simp at hx⟩ (by simp)
    · simp [Value.cells] at hcs
      obtain ⟨rfl, rfl, rfl⟩ := hcs
      have hd : d0 = .slice el sp := congrArg Prod.fst hx
      have hb : fs.length * 8 ≤ 140737488355328 := by
        rw [hd] at hsz
        simp only [List.append_nil, List.cons_append, DataW.weightsEach, DataW.weights, Try.underlying41, bytes22, List.all_cons, List.all_append, Bool.and_eq_true, decide_eq_true_eq] at hsz
        have h2 := hsz.1
        simp only [reachBytes] at h2
        omega
      have hk := tame_walk W (some a) cap fs a1 ⟨fun k x hx => ?_, fun x hx => ?_⟩ hb
      · rw [hfl] at hk; exact hk
      · obtain ⟨b, off, spot⟩ := a
        obtain ⟨z, hz⟩ : ∃ z, fs[0]? = some z := ⟨_, List.getElem?_eq_getElem (by have := (List.getElem?_eq_some_iff.1 hx).1; omega)⟩
        have hspot : spot = none := by simpa [Addr.add] using World.cell?_spot (hcell 0 z hz).1
        subst hspot
        have hcl := (hcell k x hx).1
        rw [add_plain] at hcl
        exact ⟨b, off, rfl, World.block_lt_of_cell? W _ hcl, hcl⟩
      · obtain ⟨i, hi⟩ := List.getElem?_of_mem hx
        have := (hcell i x hi).2
        simpa [Lit.wf] using this
  refine key.mono fun e W' ⟨he, bel⟩ => ?_
  subst he
  exact ⟨_, rfl, _, _, _, [], _, [], hW', trodAll_mk1 (shut_bool Try.underlying4 _), (trodAll_cons_mk (hargs W' bel) (trodAll_cons_mk (shut_float Try.underlying22 w1) trodAll_mk0)), rfl, bel.frame _, fun h => by cases h⟩

/-- THE STATEMENT -/
theorem proved : Rows.CountTameSaid :=
  OpenClaim.holds_of_wide 6 Try.f6 rfl rfl rfl rfl rfl rfl rfl ⟨rfl, rfl, rfl, rfl, rfl⟩ rfl rfl rfl rfl rfl (by kernel_rfl) Try.func6 (by kernel_rfl)
    (of_decide_eq_true (by kernel_rfl)) (by unfold Func.isWrapper; first | (rw [if_pos (by decide +kernel)]; kernel_rfl) | (rw [if_neg (by decide +kernel)]; exact ⟨rfl, rfl⟩))
    (fun os started H enc _ => lifted os started H enc)
#print axioms proved
end Go.Proofs.Ythidjbobjjoekaa.countTame
