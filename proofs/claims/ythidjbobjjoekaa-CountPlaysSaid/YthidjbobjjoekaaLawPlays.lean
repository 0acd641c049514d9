/- CountPlays: every row of calls on three tallies answers as the document does. Conditions: none: it is said of every input. -/
import Derived.Test.YthidjbobjjoekaaRows
import Derived.Test.YthidjbobjjoekaaWPlays
import Derived.WalkKit
import Derived.ProofKit
import Derived.OpenShut
import Derived.ShutString
import Derived.ChangeOld
import Derived.Below
import Derived.Carry
import Derived.SliceStrings
import Derived.Lib.SmallJoins
namespace Go.Proofs.Ythidjbobjjoekaa.countPlays
open Go.ChangeShapes Go.WideShapes Go.ChangeAt Go.RowKit Go.Joins
set_option linter.unusedVariables false
set_option linter.unusedSimpArgs false

theorem own : ownKnob Try.prog.godebug = none := by kernel_rfl
theorem cells65 : Try.prog.cellsOf 65 = 5 := by kernel_rfl
theorem cells3 : Try.prog.cellsOf 3 = 1 := by kernel_rfl
theorem cells9 : Try.prog.cellsOf 9 = 1 := by kernel_rfl
theorem one65 : ∃ f0 f1 f2 f3 f4 : Field, Try.prog.underlying 65 = some (.struct #[f0, f1, f2, f3, f4]) ∧ (f0.type = 3 ∧ f1.type = 3 ∧ f2.type = 3 ∧ f3.type = 9 ∧ f4.type = 3) ∧ (f0.offset = 0 ∧ f1.offset = 1 ∧ f2.offset = 2 ∧ f3.offset = 3 ∧ f4.offset = 4) :=
  ⟨_, _, _, _, _, Try.underlying65, ⟨rfl, rfl, rfl, rfl, rfl⟩, rfl, rfl, rfl, rfl, rfl⟩
section
variable {H : Type} {enc : TypeId × Value → H} {W : World} {base : Nat} {spare : Nat → Bool} {held : Bool}
set_option maxRecDepth 100000 in
/-- a step, read -/
theorem step65 {fuel : Nat} {cs : List Value} {y : DataW H × List MemPlace} (h : DataW.trod enc Try.prog W base spare held fuel 65 cs = some y) :
    ∃ (k w i : Int) (s : ByteArray) (n : Int), cs = [.int .i64 k, .int .i64 w, .int .i64 i, .string s, .int .i64 n] ∧ s.size ≤ maxLen ∧ y.1 = .agg [.lit (.int .i64 k), .lit (.int .i64 w), .lit (.int .i64 i), .lit (.string s.data.toList), .lit (.int .i64 n)] := by
  obtain ⟨f0, f1, f2, f3, f4, hu, ⟨e0, e1, e2, e3, e4⟩, o0, o1, o2, o3, o4⟩ := one65
  obtain ⟨xs, n, _, hx, hcl, hlen, hg⟩ := DataW.trod_struct hu h
  rw [cells65] at hcl
  obtain ⟨c0, c1, c2, c3, c4, rfl⟩ : ∃ c0 c1 c2 c3 c4, cs = [c0, c1, c2, c3, c4] := by
    match cs, hcl with
    | [c0, c1, c2, c3, c4], _ => exact ⟨_, _, _, _, _, rfl⟩
  obtain ⟨y0, y1, y2, y3, y4, rfl⟩ : ∃ y0 y1 y2 y3 y4, xs = [y0, y1, y2, y3, y4] := by
    match xs, hlen with
    | [y0, y1, y2, y3, y4], _ => exact ⟨_, _, _, _, _, rfl⟩
  have g0 := hg 0 f0 rfl
  have g1 := hg 1 f1 rfl
  have g2 := hg 2 f2 rfl
  have g3 := hg 3 f3 rfl
  have g4 := hg 4 f4 rfl
  simp only [e0, e1, e2, e3, e4, o0, o1, o2, o3, o4, cells3, cells9] at g0 g1 g2 g3 g4
  obtain ⟨x0, q0, r0, w0⟩ := DataW.trod_int Try.underlying3 g0
  obtain ⟨x1, q1, r1, w1⟩ := DataW.trod_int Try.underlying3 g1
  obtain ⟨x2, q2, r2, w2⟩ := DataW.trod_int Try.underlying3 g2
  obtain ⟨x3, q3, r3, w3⟩ := DataW.trod_string Try.underlying9 g3
  obtain ⟨x4, q4, r4, w4⟩ := DataW.trod_int Try.underlying3 g4
  simp at q0 q1 q2 q3 q4
  subst q0 q1 q2 q3 q4 r0 r1 r2 r3 r4
  subst hx
  exact ⟨x0, x1, x2, x3, x4, rfl, w3, rfl⟩
def stOf (y : DataW H × List MemPlace) : St := match y.1 with
  | .agg [.lit (.int _ k), .lit (.int _ w), .lit (.int _ i), .lit (.string s), .lit (.int _ n)] => ⟨k, w, i, ⟨s.toArray⟩, n⟩
  | _ => ⟨0, 0, 0, ByteArray.empty, 0⟩
theorem open_steps {fuel : Nat} {cs : List Value} {x : DataW H × List MemPlace} (h : DataW.trod enc Try.prog W base spare held fuel 60 cs = some x) :
    cs = [.slice none 0 0] ∨ ∃ (a : Addr) (len cap : Nat) (ss : List St), cs = [.slice (some a) len cap] ∧ ss.length = len ∧ len ≤ maxLen ∧
      ∀ i s, ss[i]? = some s → (∀ j, j < 5 → W.cell? ((a.add (i * 5)).add j) = [Value.int .i64 s.kind, .int .i64 s.who, .int .i64 s.is, .string s.word, .int .i64 s.n][j]?) ∧ s.word.size ≤ maxLen := by
  rcases DataW.trod_slice Try.underlying60 h with h0 | ⟨a, len, cap, elems, rest, n, _, rfl, rfl, hb, hl, hm, hlen, hel, hsp, hns⟩
  · exact Or.inl h0.1
  right
  refine ⟨a, len, cap, elems.map stOf, rfl, by rw [List.length_map]; exact hlen, by omega, fun i s hs => ?_⟩
  rw [List.getElem?_map] at hs
  cases hy : elems[i]? with
  | none => rw [hy] at hs; cases hs
  | some y =>
    rw [hy] at hs
    have hi : i < len := by rw [← hlen]; exact (List.getElem?_eq_some_iff.1 hy).1
    have hb' := hel i hi
    rw [hy, cells65, Option.bind_eq_some_iff] at hb'
    obtain ⟨cs', hcs, hy'⟩ := hb'
    obtain ⟨k, w, ii, s', nn, rfl, hw, hyd⟩ := step65 hy'
    have hst : stOf y = ⟨k, w, ii, s', nn⟩ := by unfold stOf; rw [hyd]
    cases hs
    rw [hst]
    exact ⟨fun j hj => (World.cells?_some hcs).2.2 j hj, hw⟩
end
set_option maxRecDepth 100000 in
theorem lifted (os : Os) (started : os.Started) (H : Type) (enc : TypeId × Value → H) :
    ReturnsInHanded {} Try.checked os 8 .any (Rows.countPlaysSpec.pre6 enc Try.prog Try.f8 Rows.countPlaysRow.domain false) (Rows.countPlaysSpec.post enc Try.prog Try.f8 false true false false) := by
  refine returnsInHanded_of_change (C := Try.checked) own started (by kernel_rfl) Try.func8
    (ChangeSpec.witness6 (enc := enc) (C := Try.checked) false ⟨#[], #[.slice none 0 0], []⟩ 8 (by kernel_rfl) (by kernel_rfl) (by kernel_rfl) (by kernel_rfl)) ?_
  intro W base args ds gs before hval0 hW hcnd _
  have hval : ∀ (j : Nat) t v, Try.f8.params[j]? = some t → args[j]? = some v → Value.okWide Try.prog W .any base t v := hval0
  have hW' := hW
  obtain ⟨p, q, hA0, hV, rfl, hfz, hnd⟩ := hW
  have hA : DataW.TrodAll enc Try.prog W 0 (fun _ => true) true Try.f8.params.toList args.toList ds p := hA0
  rw [Try.params8] at hA hval
  obtain ⟨v0, vs0, d0, ds0, p0, q0, hargs0, rfl, rfl, h0, r0⟩ := trodAll_cons hA
  obtain ⟨rfl, rfl, rfl⟩ := trodAll_nil r0
  obtain rfl : args = #[v0] := by cases args; simp_all
  obtain ⟨rfl, rfl⟩ := trodVars_none hV
  obtain ⟨a0, len, cap, rfl⟩ := okWide_slice Try.underlying60 (hval 0 60 v0 rfl rfl)
  have h0k := h0
  obtain ⟨fuel, hf⟩ := h0
  clear hA0 hval0
  simp only [List.append_nil] at hW'
  have hlt : ∀ x ∈ p0, x.block < W.heap.size := fun x hx => by simpa using hW'.lt x hx
  have hargs : ∀ (W' : World), Below W.heap.size W W' → DataW.Trod enc Try.prog W' 0 (fun b => decide (b < W.heap.size)) true 60 (.slice a0 len cap) d0 p0 :=
    fun W' hn => Below.trod (by kernel_rfl) (by kernel_rfl) (of_decide_eq_true (by kernel_rfl)) h0k hn hlt
  have key : Calls Try.prog 8 #[.slice a0 len cap] W fun e w' => e = .returned (.bool true) ∧ Below W.heap.size W w' := by
    rcases open_steps hf with hcs | ⟨a, len', cap', ss, hcs, hl, hm, hcell⟩
    · simp [Value.cells] at hcs
      obtain ⟨rfl, rfl, rfl⟩ := hcs
      exact plays_walk (ss := []) ⟨fun k x hx => by simp at hx, by simp⟩ (by simp)
    · simp [Value.cells] at hcs
      obtain ⟨rfl, rfl, rfl⟩ := hcs
      have hk := plays_walk (w := W) (p := some a) (c := cap) (ss := ss) ⟨fun k x hx => ?_, fun x hx => ?_⟩ (by rw [hl]; exact hm)
      · rw [hl] at hk; exact hk
      · obtain ⟨b, off, spot⟩ := a
        have hc := (hcell k x hx).1
        obtain ⟨z, hz⟩ : ∃ z, ss[0]? = some z := ⟨_, List.getElem?_eq_getElem (by have := (List.getElem?_eq_some_iff.1 hx).1; omega)⟩
        have hspot : spot = none := by simpa [Addr.add] using World.cell?_spot ((hcell 0 z hz).1 0 (by omega))
        subst hspot
        have h0 := hc 0 (by omega)
        have h1 := hc 1 (by omega)
        have h2 := hc 2 (by omega)
        have h3 := hc 3 (by omega)
        have h4 := hc 4 (by omega)
        rw [add_plain, add_plain] at h0 h1 h2 h3 h4
        exact ⟨b, off, rfl, World.block_lt_of_cell? W _ h0, h0, h1, h2, h3, h4⟩
      · obtain ⟨i, hi⟩ := List.getElem?_of_mem hx
        exact (hcell i x hi).2
  refine key.mono fun e W' ⟨he, bel⟩ => ?_
  subst he
  exact ⟨_, rfl, _, _, _, [], _, [], hW', trodAll_mk1 (shut_bool Try.underlying4 _), (trodAll_cons_mk (hargs W' bel) trodAll_mk0), rfl, bel.frame _, fun h => by cases h⟩

/-- THE STATEMENT -/
theorem proved : Rows.CountPlaysSaid :=
  OpenClaim.holds_of_wide 8 Try.f8 rfl rfl rfl rfl rfl rfl rfl ⟨rfl, rfl, rfl, rfl, rfl⟩ rfl rfl rfl rfl rfl (by kernel_rfl) Try.func8 (by kernel_rfl)
    (of_decide_eq_true (by kernel_rfl)) (by unfold Func.isWrapper; first | (rw [if_pos (by decide +kernel)]; kernel_rfl) | (rw [if_neg (by decide +kernel)]; exact ⟨rfl, rfl⟩))
    (fun os started H enc _ => lifted os started H enc)
#print axioms proved
end Go.Proofs.Ythidjbobjjoekaa.countPlays
