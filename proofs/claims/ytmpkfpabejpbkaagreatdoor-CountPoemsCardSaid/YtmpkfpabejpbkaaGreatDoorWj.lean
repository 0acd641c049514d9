/- A poem in memory; Poem.Each as an iterator. Conditions: those of each theorem. -/
import Derived.Test.YtmpkfpabejpbkaaGreatDoorWi
namespace Go.Proofs.YtmpkfpabejpbkaaGreatDoor
open Go Go.RowKit Go.Lib Go.Shelf
set_option linter.unusedVariables false
set_option linter.unusedSimpArgs false
attribute [local go_sem] Oper.semAt_some
/-- a line of verse -/
structure Vs where
  tx : ByteArray
  a : Int
  b : Int
  c : Int
  f : Int
  t : Int
abbrev Vs.v (x : Vs) : Value := .agg #[.string x.tx, .int .i64 x.a, .int .i64 x.b, .int .i64 x.c, .int .i64 x.f, .int .i64 x.t]
abbrev Vs.cells (x : Vs) : Array Value := #[.string x.tx, .int .i64 x.a, .int .i64 x.b, .int .i64 x.c, .int .i64 x.f, .int .i64 x.t]
def VsAt (w : World) (g k : Nat) (v : Vs) : Prop := w.cell? ⟨g, k * 6, none⟩ = some (.string v.tx) ∧ w.cell? ⟨g, k * 6 + 1, none⟩ = some (.int .i64 v.a) ∧ w.cell? ⟨g, k * 6 + 2, none⟩ = some (.int .i64 v.b) ∧ w.cell? ⟨g, k * 6 + 3, none⟩ = some (.int .i64 v.c) ∧ w.cell? ⟨g, k * 6 + 4, none⟩ = some (.int .i64 v.f) ∧ w.cell? ⟨g, k * 6 + 5, none⟩ = some (.int .i64 v.t)
/-- a poem's lines in memory -/
structure PmAt (w : World) (pb g : Nat) (a : Option Addr) (cap : Nat) (L : List Vs) : Prop where
  c1 : w.cell? ⟨pb, 1, none⟩ = some (.slice a L.length cap)
  ha : L = [] ∨ a = some ⟨g, 0, none⟩
  row : ∀ k v, L[k]? = some v → VsAt w g k v
theorem PmAt.keep {T : Nat → Prop} {w w' : World} {pb g cap : Nat} {a : Option Addr} {L : List Vs} (h : PmAt w pb g a cap L) (hk : Kept T w w') (h1 : T pb) (h2 : T g) : PmAt w' pb g a cap L :=
  ⟨hk.cell h.c1 h1, h.ha, fun k v hv => by
    obtain ⟨a0, a1, a2, a3, a4, a5⟩ := h.row k v hv
    exact ⟨hk.cell a0 h2, hk.cell a1 h2, hk.cell a2 h2, hk.cell a3 h2, hk.cell a4 h2, hk.cell a5 h2⟩⟩
theorem PmAt.low {w w' : World} {pb g cap : Nat} {a : Option Addr} {L : List Vs} (h : PmAt w pb g a cap L) (hb : Below w.heap.size w w') : PmAt w' pb g a cap L := h.keep (Kept.of_all hb (fun _ => True)) trivial trivial
def eachL : Nat → List Vs → List (Nat × Vs)
  | _, [] => []
  | k, v :: r => (k, v) :: eachL (k + 1) r
theorem each11 (p : Option Addr) (w : World) : Calls Tryz.prog 11 #[.pointer p] w fun e w' => e = .returned (.func (.func 37) #[] #[.pointer (some ⟨w.heap.size, 0, none⟩)]) ∧ w' = w.alloc (.cells #[.pointer p] 23) := by
  go_enter Tryz.func11, Tryz.ntmps11
  go_wp2_with fail
  go_ret
  exact ⟨rfl, rfl⟩
set_option maxHeartbeats 4000000 in
theorem each37 (L : List Vs) (hL : L.length ≤ 70000) (pb g cap : Nat) (a : Option Addr) (l kb : Nat) (RR : Nat → Prop) (hR : RR kb ∧ RR pb ∧ RR g) (J Jx : List (Nat × Vs) → (Nat → Prop) → World → Prop) (W : World) (hJ : Free W.heap.size J) (hX : Free W.heap.size Jx)
    (hY : ∀ pre S x W1, J pre S W1 → W.heap.size ≤ W1.heap.size → (∀ k, S k → W.heap.size ≤ k ∧ k < W1.heap.size) → pre ++ [x] <+: eachL 0 L → YieldAt Fence.wide 8 Tryz.prog l #[.int .i64 x.1, x.2.v] W1 fun e W' =>
      Kept (fun k => RR k ∨ S k) W1 W' ∧ ((e = .returned (.bool true) ∧ J (pre ++ [x]) S W') ∨ (e = .returned (.bool false) ∧ Jx (pre ++ [x]) S W')))
    (hc : W.cell? ⟨kb, 0, none⟩ = some (.pointer (some ⟨pb, 0, none⟩))) (hP : PmAt W pb g a cap L) (h0 : J [] none' W) :
    CallsIn Fence.wide 9 Tryz.prog 37 #[.func (.yield l) #[] #[], .pointer (some ⟨kb, 0, none⟩)] W fun e W' => (∃ v, e = .returned v) ∧ (J (eachL 0 L) none' W' ∨ (∃ pre, pre <+: eachL 0 L ∧ Jx pre none' W')) := by
  have hkb : kb < W.heap.size := World.block_lt_of_cell? W _ hc
  have c1 := hP.c1
  have HR := hid hR
  have HJ := hid hJ
  have HX := hid hX
  have HY := hid hY
  have H0 := hid h0
  have HP := hid hP
  clear hR hJ hX hY h0 hP
  refine callsIn_of_wp Tryz.func37 rfl trivial ?_ rfl
  simp only [Tryz.ntmps37, List.size_toArray, List.length_cons, List.length_nil, Nat.reduceAdd, Nat.reduceSub, Array.replicate_succ, Array.replicate_zero, List.push_toArray, List.append_toArray, List.nil_append, List.cons_append]
  gi_wp2_with fail
  obtain ⟨n, hn⟩ : ∃ n, L.length = n := ⟨_, rfl⟩
  rw [hn] at hL ⊢
  have HN := hid hn
  clear hn c1
  gi_loopw [13] (fun i wr => ∃ (k : Nat) (ps : List (Nat × Vs)), k ≤ n ∧ i = .int .i64 k ∧ Hid (eachL 0 L = ps ++ eachL k (L.drop k)) ∧ Hid (J ps none' wr) ∧ Hid (PmAt wr pb g a cap L) ∧ W.heap.size ≤ wr.heap.size) (fun i wr => n - (intOf i).toNat)
  case atStart => exact ⟨0, [], Nat.zero_le _, rfl, hid rfl, H0, HP, Nat.le_refl _⟩
  case round =>
    obtain ⟨k, ps, hk, rfl, hE, hJs, hPs, hIl⟩ := hrel
    by_cases hp : k < n
    · obtain ⟨v, hv⟩ : ∃ v, L[k]? = some v := ⟨_, List.getElem?_eq_getElem (by rw [HN.out]; exact hp)⟩
      have ha : a = some ⟨g, 0, none⟩ := hPs.out.ha.resolve_left (fun h => by rw [h] at hv; cases hv)
      obtain ⟨q0, q1, q2, q3, q4, q5⟩ := hPs.out.row k v hv
      have hE2 : Hid (eachL 0 L = (ps ++ [(k, v)]) ++ eachL (k + 1) (L.drop (k + 1))) := by
        have hd : L.drop k = v :: L.drop (k + 1) := by
          obtain ⟨h1, h2⟩ := List.getElem?_eq_some_iff.1 hv
          rw [List.drop_eq_getElem_cons h1, h2]
        rw [hE.out, hd, List.append_assoc]
        exact hid rfl
      have hpre : Hid (ps ++ [(k, v)] <+: eachL 0 L) := hid ⟨_, hE2.out.symm⟩
      have hkI : (k : Int) < n := by omega
      have hJ2 : J ps none' (wr.alloc (.cells v.cells 48)) := HJ.out _ _ _ _ _ hJs.out (fun k h => h.elim) (Kept.alloc _ _ _) (fun k h => h.elim)
      obtain ⟨fn, tmps, assign, body, hy, hRd2⟩ := HY.out _ _ (k, v) _ hJ2 (by rw [World.size_alloc]; omega) (fun k h => h.elim) hpre.out
      have hP2 := hid (hPs.out.low ((Below.refl _ wr).alloc (Nat.le_refl _) (.cells v.cells 48)))
      have hs2 : W.heap.size ≤ (wr.alloc (.cells v.cells 48)).heap.size := by rw [World.size_alloc]; omega
      obtain ⟨tx, va, vb, vc, vf, vt⟩ := v
      dsimp only at q0 q1 q2 q3 q4 q5
      change (Instr.yield l #[.int .i64 k, .agg #[.string tx, .int .i64 va, .int .i64 vb, .int .i64 vc, .int .i64 vf, .int .i64 vt]]).run Tryz.prog (wr.alloc (.cells #[.string tx, .int .i64 va, .int .i64 vb, .int .i64 vc, .int .i64 vf, .int .i64 vt] 48)) = _ at hy
      have HRd := hid hRd2
      have hS2 := hid hs2
      subst ha
      clear hJ2 hE hJs hPs hRd2 hs2 hv
      gi_wp2_with fail
      refine (RoundIn.wide HRd.out).mono ?_
      rintro e W3 ⟨hk3, (⟨rfl, hJ3⟩ | ⟨rfl, hJx3⟩)⟩
      · have G2 := hid (hP2.out.keep hk3 (.inl HR.out.2.1) (.inl HR.out.2.2))
        have G3 : W.heap.size ≤ W3.heap.size := Nat.le_trans hS2.out hk3.size
        have GJ := hid hJ3
        clear hk3 hJ3 hy q0 q1 q2 q3 q4 q5
        gi_wp2_with fail
        go_roundw
        case rel => exact ⟨k + 1, _, by omega, by go_num, hE2, GJ, G2, G3⟩
        case measure => simp [intOf]; omega
      · have GX := hid hJx3
        clear hk3 hJx3 hy q0 q1 q2 q3 q4 q5
        gi_wp2_with fail
        refine bodyPost_ret (results_none rfl _ _ _) rfl ?_
        exact ⟨⟨_, rfl⟩, .inr ⟨_, hpre.out, GX.out⟩⟩
    · obtain rfl : k = n := by omega
      have hJ9 : Hid (J (eachL 0 L) none' wr) := by
        rw [hE.out, List.drop_eq_nil_of_le (by rw [HN.out]; exact Nat.le_refl _)]
        show Hid (J (ps ++ []) none' wr)
        rw [List.append_nil]
        exact hJs
      clear hE hJs
      gi_wp2_with fail
      go_end0
      exact ⟨⟨_, rfl⟩, .inl hJ9.out⟩
theorem each_seq (L : List Vs) (hL : L.length ≤ 70000) (pb g cap : Nat) (a : Option Addr) (kb : Nat) (w : World) (hc : w.cell? ⟨kb, 0, none⟩ = some (.pointer (some ⟨pb, 0, none⟩))) (hP : PmAt w pb g a cap L) :
    SeqS Fence.wide 9 Tryz.prog 37 #[.pointer (some ⟨kb, 0, none⟩)] (fun x => #[.int .i64 x.1, x.2.v]) (fun k => k = kb ∨ k = pb ∨ k = g) (eachL 0 L) w := fun l J Jx W hW hJ hX hY h0 =>
  each37 L hL pb g cap a l kb (fun k => k = kb ∨ k = pb ∨ k = g) ⟨.inl rfl, .inr (.inl rfl), .inr (.inr rfl)⟩ J Jx W hJ hX hY ((hW.cell (p := ⟨kb, 0, none⟩) (World.block_lt_of_cell? w _ hc)).trans hc) (hP.low hW) h0
end Go.Proofs.YtmpkfpabejpbkaaGreatDoor
