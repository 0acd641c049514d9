/- A slice of floats among the arguments, opened as one list of floats. Conditions: none beyond the theorem's own. -/
import Derived.SliceStrings
namespace Go.ChangeShapes
open Go.WideShapes
set_option linter.unusedVariables false
section
variable {H : Type} {enc : TypeId × Value → H} {P : Program} {w : World} {base : Nat} {spare : Nat → Bool} {held : Bool}
theorem trod_flt {t : TypeId} {fuel : Nat} {cs : List Value} {x : DataW H × List MemPlace} {k : FloatKind} (ht : P.underlying t = some (.float k)) (h : DataW.trod enc P w base spare held fuel t cs = some x) :
    ∃ b, cs = [.float k b] ∧ x = (.lit (.float k b), []) ∧ (Lit.float k b).wf = true := by
  cases fuel with
  | zero => simp [DataW.trod] at h
  | succ n =>
    unfold DataW.trod at h
    rw [ht] at h
    split at h <;> simp_all
/-- the float in a datum that is one -/
def fltOf (y : DataW H × List MemPlace) : Nat := match y.1 with | .lit (.float _ b) => b | _ => 0
theorem open_floats {t e : TypeId} {fuel : Nat} {cs : List Value} {x : DataW H × List MemPlace} (ht : P.underlying t = some (.slice e)) (he : P.underlying e = some (.float .f64)) (hc : P.cellsOf e = 1)
    (h : DataW.trod enc P w base spare held fuel t cs = some x) :
    (cs = [.slice none 0 0] ∧ x = (.nil, [])) ∨
    ∃ (a : Addr) (len cap : Nat) (fs : List Nat) (el sp : List (DataW H)) (ps : List MemPlace), cs = [.slice (some a) len cap] ∧ fs.length = len ∧ el.length = len ∧ x = (.slice el sp, ps) ∧
      ∀ (i f : Nat), fs[i]? = some f → w.cell? (a.add i) = some (.float .f64 f) ∧ (Lit.float .f64 f).wf = true := by
  rcases DataW.trod_slice ht h with h0 | ⟨a, len, cap, elems, rest, n, _, rfl, rfl, hb, hl, hm, hlen, hel, hsp, hns⟩
  · exact Or.inl h0
  right
  refine ⟨a, len, cap, elems.map fltOf, elems.map (·.1), rest.map (·.1), _, rfl, by rw [List.length_map]; exact hlen, by rw [List.length_map]; exact hlen, rfl, fun i f hf => ?_⟩
  rw [List.getElem?_map] at hf
  cases hy : elems[i]? with
  | none => rw [hy] at hf; cases hf
  | some y =>
    rw [hy] at hf
    have hi : i < len := by rw [← hlen]; exact (List.getElem?_eq_some_iff.1 hy).1
    have hb' := hel i hi
    rw [hy, hc, Nat.mul_one, Option.bind_eq_some_iff] at hb'
    obtain ⟨cs', hcs, hy'⟩ := hb'
    obtain ⟨b, rfl, rfl, hw⟩ := trod_flt he hy'
    cases hf
    exact ⟨cell_of_cells?_one hcs, hw⟩
end
end Go.ChangeShapes
