/- PlaceTells: at any five numbers a map answers as the document does. Conditions: none: it is said of every input. -/
import Derived.Test.YtkobfjiadfedlaaRows
import Derived.Test.YtkobfjiadfedlaaPlTells
import Derived.WalkKit
import Derived.ProofKit
import Derived.OpenShut
import Derived.ShutString
import Derived.ChangeOld
import Derived.Below
import Derived.Lib.SmallJoins
namespace Go.Proofs.Ytkobfjiadfedlaa.placeTells
open Go.ChangeShapes Go.WideShapes Go.ChangeAt Go.RowKit Go.Joins
open Go.ChangeMaps (open_string shut_string)
set_option linter.unusedVariables false

theorem own : ownKnob Try.prog.godebug = none := by kernel_rfl
theorem cells53 : Try.prog.cellsOf 53 = 5 := by kernel_rfl
theorem one53 : ∃ f0 f1 f2 f3 f4 : Field, Try.prog.underlying 53 = some (.struct #[f0, f1, f2, f3, f4]) ∧ (f0.type = 3 ∧ f1.type = 3 ∧ f2.type = 3 ∧ f3.type = 3 ∧ f4.type = 3) ∧ (f0.offset = 0 ∧ f1.offset = 1 ∧ f2.offset = 2 ∧ f3.offset = 3 ∧ f4.offset = 4) :=
  ⟨_, _, _, _, _, Try.underlying53, ⟨rfl, rfl, rfl, rfl, rfl⟩, rfl, rfl, rfl, rfl, rfl⟩
theorem cells3 : Try.prog.cellsOf 3 = 1 := by kernel_rfl
/-- a struct of five ints, by value: its five numbers; and its datum, in whatever world -/
theorem five {H : Type} {enc : TypeId × Value → H} {W : World} {base b0 : Nat} {spare : Nat → Bool} {held : Bool} {r : Reach} {v : Value} {d : DataW H} {p : List MemPlace}
    (hv : Value.okWide Try.prog W r b0 53 v) (h : DataW.Trod enc Try.prog W base spare held 53 v d p) :
    ∃ x0 x1 x2 x3 x4 : Int, v = agg5 x0 x1 x2 x3 x4 ∧ p = [] ∧ ∀ (W' : World) (spare' : Nat → Bool), DataW.Trod enc Try.prog W' base spare' held 53 v d p := by
  obtain ⟨f0, f1, f2, f3, f4, hu, ⟨e0, e1, e2, e3, e4⟩, o0, o1, o2, o3, o4⟩ := one53
  obtain ⟨cs, rfl, hsz⟩ := okWide_struct hu hv
  rw [cells53] at hsz
  obtain ⟨l⟩ := cs
  obtain ⟨c0, c1, c2, c3, c4, rfl⟩ : ∃ c0 c1 c2 c3 c4, l = [c0, c1, c2, c3, c4] := by
    match l, hsz with
    | [c0, c1, c2, c3, c4], _ => exact ⟨_, _, _, _, _, rfl⟩
  obtain ⟨fuel, hf⟩ := h
  obtain ⟨xs, n, _, hx, _, hlen, hg⟩ := DataW.trod_struct hu hf
  obtain ⟨y0, y1, y2, y3, y4, rfl⟩ : ∃ y0 y1 y2 y3 y4, xs = [y0, y1, y2, y3, y4] := by
    match xs, hlen with
    | [y0, y1, y2, y3, y4], _ => exact ⟨_, _, _, _, _, rfl⟩
  have g0 := hg 0 f0 rfl
  have g1 := hg 1 f1 rfl
  have g2 := hg 2 f2 rfl
  have g3 := hg 3 f3 rfl
  have g4 := hg 4 f4 rfl
  simp only [e0, e1, e2, e3, e4, o0, o1, o2, o3, o4, cells3, Value.cells] at g0 g1 g2 g3 g4
  obtain ⟨x0, q0, r0, w0⟩ := DataW.trod_int Try.underlying3 g0
  obtain ⟨x1, q1, r1, w1⟩ := DataW.trod_int Try.underlying3 g1
  obtain ⟨x2, q2, r2, w2⟩ := DataW.trod_int Try.underlying3 g2
  obtain ⟨x3, q3, r3, w3⟩ := DataW.trod_int Try.underlying3 g3
  obtain ⟨x4, q4, r4, w4⟩ := DataW.trod_int Try.underlying3 g4
  simp at q0 q1 q2 q3 q4
  subst q0 q1 q2 q3 q4 r0 r1 r2 r3 r4
  simp only [Prod.mk.injEq] at hx
  obtain ⟨rfl, rfl⟩ := hx
  refine ⟨x0, x1, x2, x3, x4, rfl, rfl, fun W' spare' => ⟨1 + 1, ?_⟩⟩
  refine trod_struct_mk (enc := enc) (w := W') (base := base) (spare := spare') (held := held) (n := 1) hu ?_ ?_
  · rw [cells53]; rfl
  · simp [e0, e1, e2, e3, e4, o0, o1, o2, o3, o4, cells3, Value.cells, trod_int_mk 0 Try.underlying3 w0, trod_int_mk 0 Try.underlying3 w1, trod_int_mk 0 Try.underlying3 w2, trod_int_mk 0 Try.underlying3 w3, trod_int_mk 0 Try.underlying3 w4]
set_option maxRecDepth 100000 in
theorem lifted (os : Os) (started : os.Started) (H : Type) (enc : TypeId × Value → H) :
    ReturnsInHanded {} Try.checked os 8 .any (Rows.placeTellsSpec.pre6 enc Try.prog Try.f8 Rows.placeTellsRow.domain false) (Rows.placeTellsSpec.post enc Try.prog Try.f8 false true false false) := by
  refine returnsInHanded_of_change (C := Try.checked) own started (by kernel_rfl) Try.func8
    (ChangeSpec.witness6 (enc := enc) (C := Try.checked) false ⟨#[], #[.string ByteArray.empty, .agg #[.int .i64 0, .int .i64 0, .int .i64 0, .int .i64 0, .int .i64 0]], []⟩ 8 (by kernel_rfl) (by kernel_rfl) (by kernel_rfl) (by kernel_rfl)) ?_
  intro W base args ds gs before hval0 hW hcnd _
  have hval : ∀ (j : Nat) t v, Try.f8.params[j]? = some t → args[j]? = some v → Value.okWide Try.prog W .any base t v := hval0
  have hW' := hW
  obtain ⟨p, q, hA0, hV, rfl, hfz, hnd⟩ := hW
  have hA : DataW.TrodAll enc Try.prog W 0 (fun _ => true) true Try.f8.params.toList args.toList ds p := hA0
  rw [Try.params8] at hA hval
  obtain ⟨v0, vs0, d0, ds0, p0, q0, hargs0, rfl, rfl, h0, r0⟩ := trodAll_cons hA
  obtain ⟨v1, vs1, d1, ds1, p1, q1, hargs1, rfl, rfl, h1, r1⟩ := trodAll_cons r0
  obtain ⟨rfl, rfl, rfl⟩ := trodAll_nil r1
  subst hargs1
  obtain rfl : args = #[v0, v1] := by cases args; simp_all
  obtain ⟨rfl, rfl⟩ := trodVars_none hV
  obtain ⟨a0, rfl, rfl, rfl, w0⟩ := open_string Try.underlying9 (hval 0 9 v0 rfl rfl) h0
  obtain ⟨x0, x1, x2, x3, x4, rfl, rfl, hsh⟩ := five (hval 1 53 v1 rfl rfl) h1
  clear hA0 hval0
  simp only [List.append_nil] at hW'
  refine (tells_walk a0 x0 x1 x2 x3 x4 W w0).mono fun e W' ⟨he, bel⟩ => ?_
  subst he
  exact ⟨_, rfl, _, _, _, [], _, [], hW', trodAll_mk1 (shut_bool Try.underlying4 _), (trodAll_cons_mk (shut_string Try.underlying9 w0) (trodAll_cons_mk (hsh W' _) trodAll_mk0)), rfl, bel.frame _, fun h => by cases h⟩

/-- THE STATEMENT -/
theorem proved : Rows.PlaceTellsSaid :=
  OpenClaim.holds_of_wide 8 Try.f8 rfl rfl rfl rfl rfl rfl rfl ⟨rfl, rfl, rfl, rfl, rfl⟩ rfl rfl rfl rfl rfl (by kernel_rfl) Try.func8 (by kernel_rfl)
    (of_decide_eq_true (by kernel_rfl)) (by unfold Func.isWrapper; first | (rw [if_pos (by decide +kernel)]; kernel_rfl) | (rw [if_neg (by decide +kernel)]; exact ⟨rfl, rfl⟩))
    (fun os started H enc _ => lifted os started H enc)
#print axioms proved
end Go.Proofs.Ytkobfjiadfedlaa.placeTells
