/- The keys of the program's maps: bytes, and plain pieces. Conditions: those of each theorem. -/
import Derived.Test.YtieifhfgedoiaaaDoorMp
namespace Go.Proofs.YtieifhfgedoiaaaDoor
open Go.RowKit Go.Lib
set_option linter.unusedVariables false
set_option linter.unusedSimpArgs false
theorem Tryd.laidOut : laidOutB Tryd.prog = true := by kernel_rfl
theorem Tryd.row115 : (115 : TypeId) < Tryd.prog.types.size := of_decide_eq_true (by kernel_rfl)
theorem Tryd.wide115 : (match Tryd.prog.underlying 115 with | some (.array _ _) | some (.struct _) => true | _ => false) = true := by kernel_rfl
theorem Tryd.at115 : Tryd.prog.keyTypeAt 3 115 = true := by kernel_rfl
set_option maxRecDepth 100000 in
theorem Tryd.law115 : WideMaps.KeyLaw Tryd.prog 115 := deep_law_laid Tryd.laidOut (m := 3) (by omega) Tryd.row115 Tryd.at115 Tryd.wide115
theorem Tryd.kt115 : Tryd.prog.keyType 115 = true := by kernel_rfl
theorem Tryd.cells115 : Tryd.prog.cellsOf 115 = 3 := by kernel_rfl
theorem Tryd.cells21 : Tryd.prog.cellsOf 21 = 1 := by kernel_rfl
theorem Tryd.cells4 : Tryd.prog.cellsOf 4 = 1 := by kernel_rfl
theorem Tryd.cells5 : Tryd.prog.cellsOf 5 = 1 := by kernel_rfl
set_option maxRecDepth 100000 in
theorem Tryd.typesPos : ∃ m, Tryd.prog.types.size = m + 1 := ⟨_, (Nat.succ_pred_eq_of_pos (Nat.lt_of_le_of_lt (Nat.zero_le _) Tryd.row115)).symm⟩
theorem keyU (u : One) (h1 : u.r ≤ 1114111) (h2 : u.b ≤ 255) : ∃ l, keyOf Tryd.prog 115 u.val = some l := by
  have hf : (u.val).formed Tryd.prog 115 = true := by simp [One.val, Value.formed, Tryd.underlying115, Tryd.cells115]
  have w1 : (Lit.int .i32 u.r).wf = true := by simp [Lit.wf, IntKind.min, IntKind.max, IntKind.signed, IntKind.bits]; omega
  have w2 : (Lit.int .u8 u.b).wf = true := by simp [Lit.wf, IntKind.min, IntKind.max, IntKind.signed, IntKind.bits]; omega
  obtain ⟨m, hm⟩ := Tryd.typesPos
  unfold keyOf
  rw [Tryd.underlying115]
  dsimp only
  rw [Tryd.kt115, hf, hm]
  simp [Program.keyLits, One.val, Value.cells, Tryd.underlying115, Tryd.underlying21, Tryd.underlying4, Tryd.underlying5, Tryd.cells115, Tryd.cells21, Tryd.cells4, Tryd.cells5, w1, w2]
/-- bytes as keys -/
def KB (v : Value) : Prop := ∃ c : Nat, c ≤ 255 ∧ v = .int .u8 c
theorem keysB : KeySet Tryd.prog 5 KB := (keySet_of (Maps.int_keyed Tryd.underlying5)).sub (by
  rintro v ⟨c, hc, rfl⟩
  have hw : (Lit.int .u8 c).wf = true := by simp [Lit.wf, IntKind.min, IntKind.max, IntKind.signed, IntKind.bits]; omega
  exact ⟨_, Maps.keyOf_int_mk Tryd.underlying5 hw⟩)
/-- plain pieces as keys -/
def KU (v : Value) : Prop := ∃ u : One, u.r ≤ 1114111 ∧ u.b ≤ 255 ∧ v = u.val
theorem keysU : KeySet Tryd.prog 115 KU := (keySet_of (Maps.Keyed.of_law Tryd.law115)).sub (by
  rintro v ⟨u, h1, h2, rfl⟩
  exact keyU u h1 h2)
theorem One.val_inj {a b : One} (h : a.val = b.val) : a = b := by
  obtain ⟨ar, ab, ac⟩ := a
  obtain ⟨br, bb, bc⟩ := b
  simp [One.val] at h
  obtain ⟨h1, h2, h3⟩ := h
  have e1 : ar = br := by omega
  have e3 : ac = bc := by omega
  rw [e1, h2, e3]
end Go.Proofs.YtieifhfgedoiaaaDoor
