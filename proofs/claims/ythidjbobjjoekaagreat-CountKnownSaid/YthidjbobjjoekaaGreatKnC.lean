/- A range over a nil tally: no round. Conditions: none. -/
import Derived.Test.YthidjbobjjoekaaGreatKnB
namespace Go.Proofs.YthidjbobjjoekaaGreat
open Go.RowKit Go.Lib Go.Sort Go.Shelf
set_option linter.unusedVariables false
set_option linter.unusedSimpArgs false
attribute [local go_sem] Oper.semAt_some
theorem nil_each (w : World) :
    Calls Tryz.prog 25 #[.pointer none] w fun e w' => e = .returned (.func (.func 50) #[] #[.pointer (some ⟨w.heap.size, 0, none⟩)]) ∧ w' = w.alloc (.cells #[.pointer none] 44) := by
  go_enter Tryz.func25, Tryz.ntmps25
  go_wp2
  go_ret
  exact ⟨rfl, rfl⟩
set_option maxRecDepth 100000 in
set_option maxHeartbeats 2000000 in
theorem nil_next (n : Nat) (hn : 1 ≤ n) (Bs n₀ : Nat) (w : World) (hBs : Bs < w.heap.size) (hc : w.cell? ⟨Bs, 0, none⟩ = some (.pointer none)) :
    SeqOwn Fence.wide n Tryz.prog 50 #[.pointer (some ⟨Bs, 0, none⟩)] (fun x : Ent => #[.string x.1, .int .i64 x.2]) n₀ [] w := by
  intro l J Jx W hW hJ hY h0
  have hcW : W.cell? ⟨Bs, 0, none⟩ = some (.pointer none) := (hW.cell (p := ⟨Bs, 0, none⟩) hBs).trans hc
  have hE := hid (entries_nil W)
  have h0' := hid h0
  clear hY h0 hc
  refine callsIn_of_wp Tryz.func50 rfl trivial ?_ rfl
  simp only [Tryz.ntmps50, List.size_toArray, List.length_cons, List.length_nil, Nat.reduceAdd, Nat.reduceSub, Array.replicate_succ, Array.replicate_zero, List.push_toArray, List.append_toArray, List.nil_append, List.cons_append]
  gi_wp2_with fail
  refine ⟨trivial, ?_⟩
  with_reducible refine CallsIn.mono (callsIn_wide.2 hE.out) ?_
  rintro e W1 ⟨rfl, rfl⟩
  gi_wp2_with fail
  gi_loopw [8] (fun i wr => i = .int .i64 0 ∧ Hid (J [] wr)) (fun _ _ => 0)
  case atStart => exact ⟨rfl, h0'⟩
  case round =>
    obtain ⟨rfl, hJs⟩ := hrel
    gi_wp2
    go_end0
    exact ⟨⟨_, rfl⟩, .inl hJs.out⟩
end Go.Proofs.YthidjbobjjoekaaGreat
