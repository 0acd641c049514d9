/- What canticletop.wakes leans on: runes.At, cluster.wide, cluster.columns, cluster.joins, at the texts that it names. Conditions: those of each theorem. -/
import Derived.Test.YteodfondjogmoaaGreatDoorTWe
import Derived.Test.YteodfondjogmoaaGreatDoorJe
import Derived.Test.YteodfondjogmoaaGreatDoorJg
import Derived.Test.YteodfondjogmoaaGreatDoorJb
import Derived.Test.YteodfondjogmoaaGreatDoorJp
namespace Go.Proofs.YteodfondjogmoaaGreatDoor
open Go Go.RowKit Go.Lib Go.Shelf
set_option linter.unusedVariables false
set_option linter.unusedSimpArgs false
attribute [local go_sem] Oper.semAt_some C.Ext.cell C.Ext.froz
def widB : ByteArray := ⟨([225, 132, 128, 225, 133, 159, 226, 186, 128, 227, 128, 190, 227, 129, 129, 228, 182, 191, 228, 184, 128, 234, 147, 143, 234, 176, 128, 237, 158, 163, 239, 164, 128, 239, 171, 191, 239, 184, 176].append [239, 185, 175, 239, 188, 128, 239, 189, 160, 239, 191, 160, 239, 191, 166, 240, 159, 140, 128, 240, 159, 153, 143, 240, 159, 164, 128, 240, 159, 167, 191, 240, 160, 128, 128, 240, 191, 191, 189]).toArray⟩
theorem wid_at : 0 < widB.size ∧ rnN widB 0 = 4352 ∧ wdN widB 0 = 3 := by decide +kernel
theorem wide220 (r : Nat) (hr : r < 4352) (w : World) : Calls Tryz.prog 217 #[.int .i32 r] w fun e w' => e = .returned (.bool false) ∧ Below w.heap.size w w' := by
  have hlt : decide ((r : Int) < 4352) = true := decide_eq_true (by omega)
  go_enter Tryz.func217, Tryz.ntmps217
  go_wp2_with fail
  go_loopw [3] (fun b wr => b = .bool false ∧ Hid (wr.heap[w.heap.size]? = some (.stringIter widB 0)) ∧ Hid (Below w.heap.size w wr)) (fun b wr => 0)
  case atStart =>
    exact ⟨rfl, hid (heap_alloc_new w _), hid ((Below.refl _ w).alloc (Nat.le_refl _) _)⟩
  case round =>
    obtain ⟨rfl, hit, hb⟩ := hrel
    obtain ⟨w1, w2, w3⟩ := wid_at
    have hnx : ∀ ty, (Instr.next (.pointer (some ⟨w.heap.size, 0, none⟩)) true ty).run Tryz.prog wr = _ := fun ty => Lib.run_next_any_at wr w.heap.size widB 0 ty hit.out w1
    change ∀ ty, (Instr.next (.pointer (some ⟨w.heap.size, 0, none⟩)) true ty).run Tryz.prog wr = .ok (.tuple #[.bool true, .int .i64 0, .int .i32 (rnN widB 0)]) (wr.iterAt w.heap.size widB (0 + wdN widB 0)) at hnx
    rw [w2, w3] at hnx
    have hb1 := hid (hb.out.trans (⟨rfl, rfl, rfl, by rw [iterAt_size]; exact Nat.le_refl _, fun k hk => iterAt_other wr w.heap.size k widB _ (by omega)⟩ : Below w.heap.size wr (wr.iterAt w.heap.size widB (0 + 3))))
    clear hb w1 w2 w3
    go_wp2_with fail
    go_ret
    exact ⟨rfl, hb1.out⟩
/-- a piece of the text whose clusters are counted -/
def clB : ByteArray := ⟨#[101, 204, 129, 120]⟩
theorem cl_at : clB.size = 4 ∧ posL clB 0 = [0, 1, 3] ∧ (pcV clB 0 = .agg #[.int .i64 0, .int .i64 1, .int .i32 101, .bool false] ∧ pcV clB 1 = .agg #[.int .i64 1, .int .i64 2, .int .i32 769, .bool false] ∧ pcV clB 3 = .agg #[.int .i64 3, .int .i64 1, .int .i32 120, .bool false]) ∧ kP clB 0 = 1 ∧ kP clB 1 = 2 ∧ kP clB 3 = 1 := by
  refine ⟨rfl, ?_, ⟨by kernel_rfl, by kernel_rfl, by kernel_rfl⟩, by kernel_rfl, by kernel_rfl, by kernel_rfl⟩
  rw [posL_more (by decide +kernel), show 0 + wdN clB 0 = 1 by decide +kernel, posL_more (by decide +kernel), show 1 + wdN clB 1 = 3 by decide +kernel, posL_more (by decide +kernel), show 3 + wdN clB 3 = 4 by decide +kernel, posL_end (by decide +kernel)]
section
variable (hOf : OfOk) (w : World)
include hOf
theorem of0 : Calls Tryz.prog 156 #[.agg #[.int .i64 0, .int .i64 1, .int .i32 101, .bool false]] w fun e w' => e = .returned (.int .i64 1) ∧ Below w.heap.size w w' := by
  have h := hOf clB 0 (by decide) w
  rw [cl_at.2.2.1.1, cl_at.2.2.2.1] at h
  exact h
theorem of1 : Calls Tryz.prog 156 #[.agg #[.int .i64 1, .int .i64 2, .int .i32 769, .bool false]] w fun e w' => e = .returned (.int .i64 2) ∧ Below w.heap.size w w' := by
  have h := hOf clB 1 (by decide) w
  rw [cl_at.2.2.1.2.1, cl_at.2.2.2.2.1] at h
  exact h
theorem of3 : Calls Tryz.prog 156 #[.agg #[.int .i64 3, .int .i64 1, .int .i32 120, .bool false]] w fun e w' => e = .returned (.int .i64 1) ∧ Below w.heap.size w w' := by
  have h := hOf clB 3 (by decide) w
  rw [cl_at.2.2.1.2.2, cl_at.2.2.2.2.2] at h
  exact h
omit hOf in
theorem columns_of (p wd : Int) (r : Nat) (hr : r < 4352) (kd : Int) (c : Int) (hk : (kd = 1 ∧ c = 1) ∨ (kd = 2 ∧ c = 0)) (h : ∀ W, Calls Tryz.prog 156 #[.agg #[.int .i64 p, .int .i64 wd, .int .i32 r, .bool false]] W fun e w' => e = .returned (.int .i64 kd) ∧ Below W.heap.size W w') : Calls Tryz.prog 197 #[.agg #[.int .i64 p, .int .i64 wd, .int .i32 r, .bool false]] w fun e w' => e = .returned (.int .i64 c) ∧ Below w.heap.size w w' := by
  have hO := hid h
  have hW := hid (fun W => wide220 r hr W)
  clear h
  go_enter Tryz.func197, Tryz.ntmps197
  go_wp2_with fail
  obtain ⟨w2, hw2⟩ : ∃ w2, w.alloc (.cells #[.int .i64 p, .int .i64 wd, .int .i32 r, .bool false] 149) = w2 := ⟨_, rfl⟩
  have hb2 : Below w.heap.size w w2 := by rw [← hw2]; exact (Below.refl _ w).alloc (Nat.le_refl _) _
  have k2 : Blk w2 w.heap.size 149 #[.int .i64 p, .int .i64 wd, .int .i32 r, .bool false] := by rw [← hw2]; exact Blk.new _ _ _
  rw [hw2]
  clear hw2
  with_reducible refine Calls.mono (hO.out w2) ?_
  rintro e w3 ⟨rfl, hb3⟩
  have k3 := k2.low hb3
  have c2 : w3.cell? ⟨w.heap.size, 2, none⟩ = some (.int .i32 r) := k3.cell (k := 2) rfl
  have HB := hid (hb2.trans (hb3.mono hb2.size))
  clear k2 k3 hb2 hb3
  rcases hk with ⟨rfl, rfl⟩ | ⟨rfl, rfl⟩
  · go_wp2_with fail
    with_reducible refine Calls.mono (hW.out w3) ?_
    rintro e w4 ⟨rfl, hb4⟩
    have HB4 := hid (HB.out.trans (hb4.mono HB.out.size))
    clear hb4
    go_wp2_with fail
    go_ret
    exact ⟨rfl, HB4.out⟩
  · go_wp2_with fail
    go_ret
    exact ⟨rfl, HB.out⟩
theorem columns0 : Calls Tryz.prog 197 #[.agg #[.int .i64 0, .int .i64 1, .int .i32 101, .bool false]] w fun e w' => e = .returned (.int .i64 1) ∧ Below w.heap.size w w' := columns_of w 0 1 101 (by decide) 1 1 (.inl ⟨rfl, rfl⟩) (of0 hOf)
theorem columns1 : Calls Tryz.prog 197 #[.agg #[.int .i64 1, .int .i64 2, .int .i32 769, .bool false]] w fun e w' => e = .returned (.int .i64 0) ∧ Below w.heap.size w w' := columns_of w 1 2 769 (by decide) 2 0 (.inr ⟨rfl, rfl⟩) (of1 hOf)
theorem columns3 : Calls Tryz.prog 197 #[.agg #[.int .i64 3, .int .i64 1, .int .i32 120, .bool false]] w fun e w' => e = .returned (.int .i64 1) ∧ Below w.heap.size w w' := columns_of w 3 1 120 (by decide) 1 1 (.inl ⟨rfl, rfl⟩) (of3 hOf)
omit hOf in
theorem joins_of (b0 b1 : Int) (b2 : Nat) (p wd : Int) (r : Nat) (hr : r ≠ 8205) (kd : Int) (c : Bool) (hk : (kd = 1 ∧ c = false) ∨ (kd = 2 ∧ c = true)) (h : ∀ W, Calls Tryz.prog 156 #[.agg #[.int .i64 p, .int .i64 wd, .int .i32 r, .bool false]] W fun e w' => e = .returned (.int .i64 kd) ∧ Below W.heap.size W w') :
    Calls Tryz.prog 196 #[.int .i64 1, .agg #[.int .i64 b0, .int .i64 b1, .int .i32 b2, .bool false], .agg #[.int .i64 p, .int .i64 wd, .int .i32 r, .bool false]] w fun e w' => e = .returned (.bool c) ∧ Below w.heap.size w w' := by
  have hO := hid h
  have hr2 : ((r : Int) == 8205) = false := beq_f (by omega)
  have hr3 : decide ((r : Int) = 8205) = false := decide_eq_false (by omega)
  clear h
  go_enter Tryz.func196, Tryz.ntmps196
  go_wp2_with fail
  obtain ⟨w2, hw2⟩ : ∃ w2, (w.alloc (.cells #[.int .i64 b0, .int .i64 b1, .int .i32 b2, .bool false] 149)).alloc (.cells #[.int .i64 p, .int .i64 wd, .int .i32 r, .bool false] 149) = w2 := ⟨_, rfl⟩
  have hb2 : Below w.heap.size w w2 := by rw [← hw2]; exact ((Below.refl _ w).alloc (Nat.le_refl _) _).alloc (by simp) _
  have k2 : Blk w2 (w.heap.size + 1) 149 #[.int .i64 p, .int .i64 wd, .int .i32 r, .bool false] := by
    have := Blk.new (w.alloc (.cells #[.int .i64 b0, .int .i64 b1, .int .i32 b2, .bool false] 149)) 149 #[.int .i64 p, .int .i64 wd, .int .i32 r, .bool false]
    rw [hw2, World.size_alloc] at this
    exact this
  rw [hw2]
  clear hw2
  with_reducible refine Calls.mono (hO.out w2) ?_
  rintro e w3 ⟨rfl, hb3⟩
  have k3 := k2.low hb3
  have c2 : w3.cell? ⟨w.heap.size + 1, 2, none⟩ = some (.int .i32 r) := k3.cell (k := 2) rfl
  have HB := hid (hb2.trans (hb3.mono hb2.size))
  clear k2 k3 hb2 hb3
  rcases hk with ⟨rfl, rfl⟩ | ⟨rfl, rfl⟩
  all_goals
    go_wp2_with fail
    go_ret
    exact ⟨rfl, HB.out⟩
end
theorem at84 (s : ByteArray) (p : Nat) (hp : p < s.size) (hs : s.size ≤ 1000) (w : World) : Calls Tryz.prog 81 #[.string s, .int .i64 p] w fun e w' => e = .returned (.tuple #[pcV s p, .int .i64 0]) ∧ Below w.heap.size w w' := by
  have hR := hid (fun W => R.read_any s p hp (by omega) W)
  have h1 : decide ((p : Int) < 0) = false := decide_eq_false (by omega)
  have h2 : decide ((s.size : Int) ≤ p) = false := decide_eq_false (by omega)
  have h3 : decide (s.size ≤ p) = false := decide_eq_false (by omega)
  go_enter Tryz.func81, Tryz.ntmps81
  go_wp2_with fail
  with_reducible refine Calls.mono (hR.out _) ?_
  rintro e w2 ⟨rfl, hb2⟩
  have hd : R.decV s p = .agg #[.int .i64 p, .int .i64 (wdN s p), .int .i32 (rnN s p), .bool (isBr s p)] := rfl
  rw [hd]
  clear hd hR
  have k0 := (Blk.new w 149 #[.int .i64 0, .int .i64 0, .int .i32 0, .bool false]).low hb2
  have c0 := k0.cell (k := 0) rfl
  have c1 := k0.cell (k := 1) rfl
  have c2 := k0.cell (k := 2) rfl
  have c3 := k0.cell (k := 3) rfl
  have z0 := k0.froz 0
  have z1 := k0.froz 1
  have z2 := k0.froz 2
  have z3 := k0.froz 3
  have k4 := (((k0.upd 0 (.int .i64 p) rfl).upd 1 (.int .i64 (wdN s p)) rfl).upd 2 (.int .i32 (rnN s p)) rfl).upd 3 (.bool (isBr s p)) rfl
  have q0 := k4.cell (k := 0) rfl
  have q1 := k4.cell (k := 1) rfl
  have q2 := k4.cell (k := 2) rfl
  have q3 := k4.cell (k := 3) rfl
  have HB := hid hb2
  clear k0 k4 hb2
  go_wp2_with fail
  refine bodyPost_ret_by (v := .tuple #[pcV s p, .int .i64 0]) (by simp [results, Tryz.results81, go_sem, q0, q1, q2, q3, pcV]) rfl ⟨rfl, ?_⟩
  exact (((((Below.refl _ w).alloc (Nat.le_refl _) _).trans (HB.out.mono (by simp))).setCell (p := ⟨w.heap.size, 0, none⟩) (Nat.le_refl _) _).setCell (p := ⟨w.heap.size, 1, none⟩) (Nat.le_refl _) _).setCell (p := ⟨w.heap.size, 2, none⟩) (Nat.le_refl _) _ |>.setCell (p := ⟨w.heap.size, 3, none⟩) (Nat.le_refl _) _
end Go.Proofs.YteodfondjogmoaaGreatDoor
/- cluster.Each at the text that canticletop.wakes names. Conditions: those of each theorem. -/
namespace Go.Proofs.YteodfondjogmoaaGreatDoor
open Go Go.RowKit Go.Lib Go.Shelf
set_option linter.unusedVariables false
set_option linter.unusedSimpArgs false
attribute [local go_sem] Oper.semAt_some C.Ext.cell C.Ext.froz C.ExtK.cell
abbrev Ce3 := Int × Int × Int
def clO (m : Nat) : List Ce3 := if m = 3 then [(0, 3, 1)] else []
def clAll : List Ce3 := [(0, 3, 1), (3, 4, 1)]
def clNow : Nat → Array Value
  | 0 => #[.int .i64 0, .int .i64 0, .int .i64 0]
  | 1 => #[.int .i64 0, .int .i64 1, .int .i64 1]
  | 2 => #[.int .i64 0, .int .i64 3, .int .i64 1]
  | _ => #[.int .i64 3, .int .i64 4, .int .i64 1]
def clHead (m : Nat) : Int := if m = 0 then 0 else 1
def clLast : Nat → Array Value
  | 0 => #[.int .i64 0, .int .i64 0, .int .i32 0, .bool false]
  | 1 => #[.int .i64 0, .int .i64 1, .int .i32 101, .bool false]
  | 2 => #[.int .i64 1, .int .i64 2, .int .i32 769, .bool false]
  | _ => #[.int .i64 3, .int .i64 1, .int .i32 120, .bool false]
def clOpen (m : Nat) : Bool := if m = 0 then false else true
/-- the blocks of its own -/
structure ClI (W : World) (N m l : Nat) : Prop where
  b0 : Blk W N 286 #[.func (.yield l) #[] #[]]
  b1 : Blk W (N + 1) 267 (clNow m)
  b2 : Blk W (N + 2) 201 #[.int .i64 (clHead m)]
  b3 : Blk W (N + 3) 149 (clLast m)
  b4 : Blk W (N + 4) 4 #[.bool (clOpen m)]
  sz : N + 6 ≤ W.heap.size
theorem ClI.keep {W W' : World} {N m l : Nat} {T : Nat → Prop} (h : ClI W N m l) (hK : Kept T W W') (hT : ∀ k, N ≤ k → k < N + 6 → T k) : ClI W' N m l :=
  ⟨h.b0.keep hK (hT _ (by omega) (by omega)), h.b1.keep hK (hT _ (by omega) (by omega)), h.b2.keep hK (hT _ (by omega) (by omega)), h.b3.keep hK (hT _ (by omega) (by omega)), h.b4.keep hK (hT _ (by omega) (by omega)), Nat.le_trans h.sz hK.size⟩
/-- two stores, one behind the other -/
structure H17 (W : World) (b4 b2 : Nat) (o4 n4 o2 n2 : Array Value) (X : List (Option Value)) (w : World) : Prop where
  kept : Kept (fun q => q ≠ b4 ∧ q ≠ b2) W w
  a0 : X[0]? = some none → X[1]? = some none ∧ Blk w b4 4 o4
  a1 : ∀ u, X[0]? = some (some u) → Blk w b4 4 n4
  b0 : X[1]? = some none → Blk w b2 201 o2
  b1 : ∀ u, X[1]? = some (some u) → Blk w b2 201 n2
theorem H17.cls (W : World) (b4 b2 : Nat) (o4 n4 o2 n2 : Array Value) : C.ClsK (fun q => q ≠ b4 ∧ q ≠ b2) W (H17 W b4 b2 o4 n4 o2 n2) := ⟨fun _ _ h => h.kept⟩
theorem H17.start {W : World} {b4 b2 : Nat} {o4 o2 : Array Value} (n4 n2 : Array Value) (h4 : Blk W b4 4 o4) (h2 : Blk W b2 201 o2) : H17 W b4 b2 o4 n4 o2 n2 [none, none] W.drew :=
  ⟨Kept.drew _ _, fun _ => ⟨rfl, h4.keep (Kept.drew (fun _ => True) W) trivial⟩, fun u hu => by simp at hu, fun _ => h2.keep (Kept.drew (fun _ => True) W) trivial, fun u hu => by simp at hu⟩
theorem H17.put0 {W w : World} {b4 b2 : Nat} {o4 n4 o2 n2 : Array Value} {X : List (Option Value)} (h : H17 W b4 b2 o4 n4 o2 n2 X w) (hl : X.length = 2) (hx : X[0]? = some none) (hn : b4 ≠ b2) {u : Value} (hb : Blk (w.setCell ⟨b4, 0, none⟩ u) b4 4 n4) : H17 W b4 b2 o4 n4 o2 n2 (X.set 0 (some undef)) (w.setCell ⟨b4, 0, none⟩ u) := by
  have h1 := (h.a0 hx).1
  have e1 : (X.set 0 (some undef))[1]? = some none := by rw [List.getElem?_set_ne (by omega)]; exact h1
  refine ⟨h.kept.trans (Kept.setCell _ (fun h => h.1 rfl) _), fun hu => by rw [List.getElem?_set_self (by omega)] at hu; simp at hu, fun _ _ => hb, fun _ => (h.b0 h1).keep (Kept.setCell (T := fun q => q = b2) _ (p := ⟨b4, 0, none⟩) (fun e => hn e) _) rfl, fun u hu => by rw [e1] at hu; simp at hu⟩
theorem H17.put1 {W w : World} {b4 b2 : Nat} {o4 n4 o2 n2 : Array Value} {X : List (Option Value)} (h : H17 W b4 b2 o4 n4 o2 n2 X w) (hl : X.length = 2) {y : Value} (hx0 : X[0]? = some (some y)) (hn : b4 ≠ b2) {u : Value} (hb : Blk (w.setCell ⟨b2, 0, none⟩ u) b2 201 n2) : H17 W b4 b2 o4 n4 o2 n2 (X.set 1 (some undef)) (w.setCell ⟨b2, 0, none⟩ u) := by
  have e0 : (X.set 1 (some undef))[0]? = some (some y) := by rw [List.getElem?_set_ne (by omega)]; exact hx0
  refine ⟨h.kept.trans (Kept.setCell _ (fun h => h.2 rfl) _), fun hu => by rw [e0] at hu; simp at hu, fun u hu => (h.a1 _ hx0).keep (Kept.setCell (T := fun q => q = b4) _ (p := ⟨b2, 0, none⟩) (fun e => hn e.symm) _) rfl, fun hu => by rw [List.getElem?_set_self (by omega)] at hu; simp at hu, fun _ _ => hb⟩
theorem each170 (s : ByteArray) (w : World) : Calls Tryz.prog 167 #[.string s] w fun e w' => e = .returned (.func (.func 195) #[] #[.pointer (some ⟨w.heap.size, 0, none⟩)]) ∧ w' = w.alloc (.cells #[.string s] 9) := by
  go_enter Tryz.func167, Tryz.ntmps167
  go_wp2_with fail
  go_ret
  exact ⟨rfl, rfl⟩
theorem three {pre : List Nat} {x : Nat} (h : pre ++ [x] <+: [0, 1, 3]) : (pre = [] ∧ x = 0) ∨ (pre = [0] ∧ x = 1) ∨ (pre = [0, 1] ∧ x = 3) := by
  match pre, h with
  | [], h => simp at h; exact .inl ⟨rfl, h⟩
  | [a], h => simp at h; obtain ⟨rfl, rfl⟩ := h; exact .inr (.inl ⟨rfl, rfl⟩)
  | [a, b], h => simp at h; obtain ⟨rfl, rfl, rfl⟩ := h; exact .inr (.inr ⟨rfl, rfl⟩)
  | a :: b :: c :: r, h => have := h.length_le; simp at this
set_option maxHeartbeats 16000000 in
theorem each198 (hOf : OfOk) (l kb : Nat) (RR : Nat → Prop) (hR : RR kb) (J Jx : List Ce3 → (Nat → Prop) → World → Prop) (W : World) (hJ : Free W.heap.size J) (hX : Free W.heap.size Jx)
    (hY : ∀ pre S x W1, J pre S W1 → W.heap.size ≤ W1.heap.size → (∀ k, S k → W.heap.size ≤ k ∧ k < W1.heap.size) → pre ++ [x] <+: clAll → YieldAt Fence.wide 8 Tryz.prog l #[.agg #[.int .i64 x.1, .int .i64 x.2.1, .int .i64 x.2.2]] W1 fun e W' =>
      Kept (fun k => RR k ∨ S k) W1 W' ∧ ((e = .returned (.bool true) ∧ J (pre ++ [x]) S W') ∨ (e = .returned (.bool false) ∧ Jx (pre ++ [x]) S W')))
    (hc : W.cell? ⟨kb, 0, none⟩ = some (.string clB)) (h0 : J [] none' W) :
    CallsIn Fence.wide 9 Tryz.prog 195 #[.func (.yield l) #[] #[], .pointer (some ⟨kb, 0, none⟩)] W fun e W' => (∃ v, e = .returned v) ∧ (J clAll none' W' ∨ (∃ pre, pre <+: clAll ∧ Jx pre none' W')) := by
  have hkb : kb < W.heap.size := World.block_lt_of_cell? W _ hc
  refine callsIn_of_wp_marks Tryz.func195 rfl trivial ?_ rfl
  simp only [Tryz.ntmps195, List.size_toArray, List.length_cons, List.length_nil, Nat.reduceAdd, Nat.reduceSub, Array.replicate_succ, Array.replicate_zero, List.push_toArray, List.append_toArray, List.nil_append, List.cons_append]
  have HJ := hid hJ
  have HX := hid hX
  have HY := hid hY
  have HR := hid hR
  have H0 := hid h0
  have HOf := hid hOf
  have hP := hid (fun W => pieces53 clB W)
  clear hJ hX hY hR h0 hOf
  gi_wp2_with fail
  refine wpIn_scope_ahead 0 rfl ?_
  have hB3 : Below W.heap.size W (((((W.alloc (.cells #[.func (.yield l) #[] #[]] 286)).alloc (.cells #[.int .i64 0, .int .i64 0, .int .i64 0] 267)).alloc (.cells #[.int .i64 0] 201)).alloc (.cells #[.int .i64 0, .int .i64 0, .int .i32 0, .bool false] 149)).alloc (.cells #[.bool false] 4)) := (((((Below.refl _ W).alloc (Nat.le_refl _) _).alloc (by simp) _).alloc (by simp; omega) _).alloc (by simp; omega) _).alloc (by simp; omega) _
  have hc1 : (((((W.alloc (.cells #[.func (.yield l) #[] #[]] 286)).alloc (.cells #[.int .i64 0, .int .i64 0, .int .i64 0] 267)).alloc (.cells #[.int .i64 0] 201)).alloc (.cells #[.int .i64 0, .int .i64 0, .int .i32 0, .bool false] 149)).alloc (.cells #[.bool false] 4)).cell? ⟨kb, 0, none⟩ = some (.string clB) := (hB3.cell (p := ⟨kb, 0, none⟩) hkb).trans hc
  gi_wp2_with fail
  refine wpIn_label ?_
  gi_wp2_with fail
  refine ⟨trivial, ?_⟩
  with_reducible refine CallsIn.mono (callsIn_wide.2 (hP.out _)) ?_
  rintro e w4 ⟨rfl, hw4⟩
  obtain ⟨N, hNN⟩ : ∃ N, N = W.heap.size := ⟨_, rfl⟩
  have hI4 : ClI w4 N 0 l := by
    have b0 := ((((Blk.new W 286 #[.func (.yield l) #[] #[]]).alloc (.cells #[.int .i64 0, .int .i64 0, .int .i64 0] 267)).alloc (.cells #[.int .i64 0] 201)).alloc (.cells #[.int .i64 0, .int .i64 0, .int .i32 0, .bool false] 149)).alloc (.cells #[.bool false] 4)
    have b1 := (((Blk.new (W.alloc (.cells #[.func (.yield l) #[] #[]] 286)) 267 #[.int .i64 0, .int .i64 0, .int .i64 0]).alloc (.cells #[.int .i64 0] 201)).alloc (.cells #[.int .i64 0, .int .i64 0, .int .i32 0, .bool false] 149)).alloc (.cells #[.bool false] 4)
    have b2 := ((Blk.new ((W.alloc (.cells #[.func (.yield l) #[] #[]] 286)).alloc (.cells #[.int .i64 0, .int .i64 0, .int .i64 0] 267)) 201 #[.int .i64 0]).alloc (.cells #[.int .i64 0, .int .i64 0, .int .i32 0, .bool false] 149)).alloc (.cells #[.bool false] 4)
    have b3 := (Blk.new (((W.alloc (.cells #[.func (.yield l) #[] #[]] 286)).alloc (.cells #[.int .i64 0, .int .i64 0, .int .i64 0] 267)).alloc (.cells #[.int .i64 0] 201)) 149 #[.int .i64 0, .int .i64 0, .int .i32 0, .bool false]).alloc (.cells #[.bool false] 4)
    have b4 := Blk.new ((((W.alloc (.cells #[.func (.yield l) #[] #[]] 286)).alloc (.cells #[.int .i64 0, .int .i64 0, .int .i64 0] 267)).alloc (.cells #[.int .i64 0] 201)).alloc (.cells #[.int .i64 0, .int .i64 0, .int .i32 0, .bool false] 149)) 4 #[.bool false]
    simp only [World.size_alloc, Nat.add_assoc, Nat.reduceAdd, ← hNN] at b0 b1 b2 b3 b4
    refine ⟨?_, ?_, ?_, ?_, ?_, ?_⟩
    · rw [hw4]; exact b0.alloc _
    · rw [hw4]; exact b1.alloc _
    · rw [hw4]; exact b2.alloc _
    · rw [hw4]; exact b3.alloc _
    · rw [hw4]; exact b4.alloc _
    · rw [hw4, hNN]; simp
  have hk5 : w4.cell? ⟨N + 5, 0, none⟩ = some (.string clB) := by
    have b5 := Blk.new (((((W.alloc (.cells #[.func (.yield l) #[] #[]] 286)).alloc (.cells #[.int .i64 0, .int .i64 0, .int .i64 0] 267)).alloc (.cells #[.int .i64 0] 201)).alloc (.cells #[.int .i64 0, .int .i64 0, .int .i32 0, .bool false] 149)).alloc (.cells #[.bool false] 4)) 9 #[.string clB]
    rw [← hw4] at b5
    simp only [World.size_alloc, Nat.add_assoc, Nat.reduceAdd, ← hNN] at b5
    exact b5.cell (k := 0) rfl
  have hN : w4.heap.size = N + 6 := by rw [hw4, hNN]; simp
  have hK4 : Kept (fun k => ¬ none' k) W w4 := by rw [hw4]; exact (Kept.of_all hB3 _).trans (Kept.alloc _ _ _)
  have hB4 : Below W.heap.size W w4 := by rw [hw4]; exact hB3.alloc (by simp; omega) _
  clear hw4 hc1 hP hB3
  simp only [World.size_alloc, Nat.add_assoc, Nat.reduceAdd]
  rw [← hNN] at hB4 HJ HX HY ⊢
  have HI4 := hid hI4
  have HK4 := hid hK4
  clear hI4 hK4
  obtain ⟨U, hU⟩ : ∃ U : (Nat → Prop) → Nat → Prop, U = fun S k => S k ∨ (N ≤ k ∧ k < N + 6) := ⟨_, rfl⟩
  have U1 : Hid (∀ S k, U S k → S k ∨ (N ≤ k ∧ k < N + 6)) := hid (fun S k h => by rw [hU] at h; exact h)
  have U2 : Hid (∀ S k, S k ∨ (N ≤ k ∧ k < N + 6) → U S k) := hid (fun S k h => by rw [hU]; exact h)
  clear hU
  have U4 : Hid (∀ S (X : World), (∀ k, S k → N ≤ k ∧ k < X.heap.size) → N + 6 ≤ X.heap.size → ∀ k, U S k → N ≤ k ∧ k < X.heap.size) := hid (fun S X h1 h2 k h => by
    rcases U1.out _ _ h with h | h
    · exact h1 k h
    all_goals omega)
  have U5 : Hid (∀ (S S' : Nat → Prop) (X Y : World), (∀ k, S' k → S k ∨ (X.heap.size ≤ k ∧ k < Y.heap.size)) → ∀ k, U S' k → U S k ∨ (X.heap.size ≤ k ∧ k < Y.heap.size)) := hid (fun S S' X Y h1 k h => by
    rcases U1.out _ _ h with h | h
    · rcases h1 k h with h | h
      · exact .inl (U2.out _ _ (.inl h))
      · exact .inr h
    · exact .inl (U2.out _ _ (.inr h)))
  have H1 : Hid (J [] (U none') w4) := hid (HJ.out _ none' _ _ _ H0.out (fun k h => h.elim) HK4.out (fun k h => .inr (by
    rcases U1.out _ _ h with h | h
    · exact h.elim
    all_goals omega)))
  clear H0 HK4
  have HNN := hid hNN
  clear hNN
  gi_wp2_with fail
  refine name_actZ ?_
  intro Tm D hTm hD
  have hseq := pieces_seq 8 clB (by decide) (N + 5) w4 hk5
  rw [cl_at.2.1] at hseq
  refine rangeFunc_s (F := Fence.wide) (α := Nat) rfl (by omega) (gf := 150) (lb := #[.pointer (some ⟨N + 5, 0, none⟩)]) (by subst hTm; rfl) trivial (enters_of Tryz.func150 (by kernel_rfl) rfl)
    hseq (fun k hk => by omega) (Below.refl _ _) (fun _ => rfl)
    (fun pre S W => J (clO pre.length) (U S) W ∧ ClI W N pre.length l)
    (fun c _ S W => c = .ret ∧ N + 6 ≤ W.heap.size ∧ ∃ q, q <+: clAll ∧ Jx q (U S) W)
    ?hI ?hIx ⟨H1.out, HI4.out⟩
    (fun pre S x a' W => ∃ Bx, w4.heap.size ≤ Bx ∧ ¬ S Bx ∧ Blk W Bx 149 (pcZ clB x) ∧ J (clO pre.length) (fun k => U S k ∨ k = Bx) W ∧ ClI W N pre.length l ∧ a' = { tmps := (Tm.setIfInBounds 11 (pcV clB x)).setIfInBounds 7 (.pointer (some ⟨Bx, 0, none⟩)), defers := [] })
    ?hAx ?assign ?body ?done ?stop
  case hI =>
    intro pre S S' X Y ⟨h1, h2⟩ hS hK hS'
    exact ⟨HJ.out _ (U S) _ X Y h1 (U4.out _ _ (fun k h => by have := hS k h; omega) h2.sz) (hK.mono (fun k _ h hs => h (U2.out _ _ (.inl hs)))) (U5.out _ _ _ _ hS'), h2.keep hK (fun k _ _ h => by have := (hS _ h).1; omega)⟩
  case hIx =>
    intro c pre S S' X Y ⟨h0, h4, q, hq, h1⟩ hS hK hS'
    exact ⟨h0, by have := hK.size; omega, q, hq, HX.out _ (U S) _ X Y h1 (U4.out _ _ (fun k h => by have := hS k h; omega) h4) (hK.mono (fun k _ h hs => h (U2.out _ _ (.inl hs)))) (U5.out _ _ _ _ hS')⟩
  case hAx =>
    intro pre S x a' W5 lb o ⟨Bx, g1, g2, g3, g4, g5, g7⟩ hSl hS
    have hb := g3.lt
    refine ⟨Bx, g1, g2, g3.put (fun e => g2 (e ▸ hSl)) _, ?_, g5.keep (Kept.putObj (T := fun k => k < N + 6) W5 (fun h => by have := hS _ hSl; omega) _) (fun _ _ h => h), g7⟩
    have u4 := U4.out S W5 (fun k h => by have := hS k h; omega) (by omega)
    exact HJ.out _ _ _ W5 _ g4 (fun k h => h.elim (fun h => u4 k h) (fun h => by omega)) (Kept.putObj W5 (fun h => h (.inl (U2.out _ _ (.inl hSl)))) _) (fun k h => .inl h)
  case assign =>
    rintro l' pre S x W5 K ⟨hJ5, hb5⟩ hW5 hS5 hpre hK
    subst hTm hD
    have kA : ∀ T, Kept T W5 (W5.alloc (.cells (pcZ clB x) 149)) := fun T => Kept.alloc T W5 _
    have hB := Blk.new W5 149 (pcZ clB x)
    have hJ6 := HJ.out _ (U S) (fun k => U S k ∨ k = W5.heap.size) W5 _ hJ5 (U4.out _ _ (fun k h => by have := hS5 k h; omega) hb5.sz) (kA _) (fun k h => by
      rcases h with h | h
      · exact .inl h
      · exact .inr ⟨by omega, by rw [World.size_alloc]; omega⟩)
    have H := hK _ _ (kA _) ⟨W5.heap.size, by omega, (fun h => by have := (hS5 _ h).2; omega), hB, hJ6, hb5.keep (kA (fun _ => True)) (fun _ _ _ => trivial), rfl⟩
    clear hK kA hB hJ6 hJ5 hb5
    dsimp only at H
    simp only [List.setIfInBounds_toArray, List.set_cons_succ, List.set_cons_zero] at H
    unfold pcV pcZ at H
    unfold pcV
    gi_wp2
    exact H
  case body =>
    rintro l' pre S x a' W5 hSl ⟨rec, hrec⟩ hW5 hS5 hpre ⟨Bx, hBx, hSB, kx, hJ5, hI5, rfl⟩
    have hS0 : ∀ k, S k → N + 6 ≤ k ∧ k < W5.heap.size := fun k h => by have := hS5 k h; omega
    have hbx := kx.lt
    have u4 := U4.out S W5 (fun k h => by have := hS0 k h; omega) hI5.sz
    obtain ⟨S2, hS2⟩ : ∃ S2 : Nat → Prop, S2 = fun k => U S k ∨ k = Bx := ⟨_, rfl⟩
    rw [← hS2] at hJ5
    have s2 : Hid (∀ k, S2 k → N ≤ k ∧ k < W5.heap.size) := hid (fun k h => by rw [hS2] at h; exact h.elim (fun h => u4 k h) (fun h => by omega))
    have s2x : Hid (S2 Bx) := hid (by rw [hS2]; exact .inr rfl)
    have s2S : Hid (∀ k, U S k → S2 k) := hid (fun k h => by rw [hS2]; exact .inl h)
    have s2n : Hid (∀ k, N ≤ k → k < N + 6 → S2 k) := hid (fun k h1 h2 => s2S.out _ (U2.out _ _ (.inr ⟨h1, h2⟩)))
    have sS : Hid (∀ k, S k → S2 k) := hid (fun k h => s2S.out _ (U2.out _ _ (.inl h)))
    have HS0 := hid hS0
    have HI5 := hid hI5
    have HJ5 := hid hJ5
    clear hS2 u4 hS5 hrec hSl hseq hS0 hI5 hJ5
    subst hTm hD
    dsimp only
    simp only [List.setIfInBounds_toArray, List.set_cons_succ, List.set_cons_zero]
    rcases three hpre with ⟨rfl, rfl⟩ | ⟨rfl, rfl⟩ | ⟨rfl, rfl⟩
    · rw [show pcZ clB 0 = #[.int .i64 0, .int .i64 1, .int .i32 101, .bool false] from Value.agg.inj cl_at.2.2.1.1] at kx
      rw [cl_at.2.2.1.1]
      have hof := hid (fun w => of0 HOf.out w)
      have hcol := hid (fun w => columns0 HOf.out w)
      have KX := hid kx
      have c0 := kx.cell (k := 0) rfl
      have c1 := kx.cell (k := 1) rfl
      have c2 := kx.cell (k := 2) rfl
      have c3 := kx.cell (k := 3) rfl
      clear kx HOf
      gi_wp2_with fail
      refine ⟨trivial, ?_⟩
      with_reducible refine (CallsIn.inRound l' (callsIn_wide.2 (hof.out _))).mono ?_
      rintro e W6 ⟨rfl, hb6⟩
      have KX6 := hid (KX.out.low hb6)
      have HI6 := hid (HI5.out.keep (Kept.of_all hb6 (fun _ => True)) (fun _ _ _ => trivial))
      have c0 : W6.cell? ⟨Bx, 0, none⟩ = some (.int .i64 0) := KX6.out.cell (k := 0) rfl
      have c1 : W6.cell? ⟨Bx, 1, none⟩ = some (.int .i64 1) := KX6.out.cell (k := 1) rfl
      have c2 : W6.cell? ⟨Bx, 2, none⟩ = some (.int .i32 101) := KX6.out.cell (k := 2) rfl
      have c3 : W6.cell? ⟨Bx, 3, none⟩ = some (.bool false) := KX6.out.cell (k := 3) rfl
      have o4 : W6.cell? ⟨N + 4, 0, none⟩ = some (.bool false) := HI6.out.b4.cell (k := 0) rfl
      have hs6 := hb6.size
      have J6 := hid (HJ.out _ S2 S2 W5 W6 HJ5.out s2.out (Kept.of_all hb6 _) (fun k h => .inl h))
      have s26 : Hid (∀ k, S2 k → N ≤ k ∧ k < W6.heap.size) := hid (fun k h => by have := s2.out k h; omega)
      have HK6 : Hid (Kept (fun k => k = N + 5 ∨ S k) W5 W6) := hid (Kept.of_all hb6 _)
      clear hb6 hof
      gi_wp2_with fail
      clear o4
      have hne : N + 4 ≠ N + 2 := by omega
      have h00 := H17.start #[.bool true] #[.int .i64 1] HI6.out.b4 HI6.out.b2
      have hCl : C.ClsK (fun q => q ≠ N + 4 ∧ q ≠ N + 2) W6 (H17 W6 (N + 4) (N + 2) #[.bool false] #[.bool true] #[.int .i64 0] #[.int .i64 1]) := H17.cls _ _ _ _ _ _ _
      obtain ⟨T0, hT0⟩ : ∃ T0 : Nat → Prop, T0 = fun q => q ≠ N + 4 ∧ q ≠ N + 2 := ⟨_, rfl⟩
      rw [← hT0] at hCl
      have a1 : T0 Bx = True := eq_true (by rw [hT0]; exact ⟨by omega, by omega⟩)
      clear hT0
      have h00 : H17 W6 (N + 4) (N + 2) #[.bool false] #[.bool true] #[.int .i64 0] #[.int .i64 1] [none, none] W6.drew := h00
      have h01 : ∃ w', H17 W6 (N + 4) (N + 2) #[.bool false] #[.bool true] #[.int .i64 0] #[.int .i64 1] [some undef, none] w' := ⟨_, h00.put0 rfl rfl hne (((h00.a0 rfl).2).upd 0 (.bool true) rfl)⟩
      obtain ⟨w01, h01⟩ := h01
      refine C.eff_tailIn 4 [(2, none), (3, none)] (H17 W6 (N + 4) (N + 2) #[.bool false] #[.bool true] #[.int .i64 0] #[.int .i64 1]) (fun _ _ _ => False) (by kernel_rfl) (C.WideF.round _ _ _) (by kernel_rfl) (by kernel_rfl) (by kernel_rfl) rfl h00 ?_
      simp only [List.take_succ_cons, List.take_zero, List.drop_succ_cons, List.drop_zero]
      iterate 2 (refine C.gk_step hCl (by kernel_rfl) (C.wit0 h00 (by kernel_rfl)) (fun K hK => ?_); go_simp; refine ⟨hK _ ?_⟩; clear hK K)
      refine C.ge_eff (m := 0) (by kernel_rfl) rfl (C.wit0 h00 (by kernel_rfl)) (fun u => u = undef) ?_ ?_
      · intro x' w' hf hx0 hx
        have kc := (hx.a0 hx0).2
        have z1 : w'.frozen? ⟨N + 4, 0, none⟩ = false := kc.froz 0
        have y1 : w'.cell? ⟨N + 4, 0, none⟩ = some (.bool false) := kc.cell (k := 0) rfl
        refine ⟨undef, w'.setCell ⟨N + 4, 0, none⟩ (.bool true), .inr ⟨?_, rfl⟩, rfl, hx.put0 hf.1 hx0 hne (kc.upd 0 (.bool true) rfl)⟩
        clear kc hx hf hx0
        go_simp
      rintro u rfl
      refine C.ge_eff (m := 1) (by kernel_rfl) rfl ⟨_, w01, C.fit_at rfl 1 (by kernel_rfl) rfl [0] (by kernel_rfl) (fun m hm p hp => ?_), h01⟩ (fun u => u = undef) ?_ ?_
      · rw [List.mem_singleton] at hm
        subst hm
        obtain rfl : (2, none) = p := by simpa using hp
        rfl
      · intro x' w' hf hx1 hx
        have q0 : x'[0]? = some (some undef) := hf.2.2 0 _ rfl (by kernel_rfl)
        have kc := hx.b0 hx1
        have z1 : w'.frozen? ⟨N + 2, 0, none⟩ = false := kc.froz 0
        have y1 : w'.cell? ⟨N + 2, 0, none⟩ = some (.int .i64 0) := kc.cell (k := 0) rfl
        refine ⟨undef, w'.setCell ⟨N + 2, 0, none⟩ (.int .i64 1), .inr ⟨?_, rfl⟩, rfl, hx.put1 hf.1 q0 hne (kc.upd 0 (.int .i64 1) rfl)⟩
        clear kc hx hf hx1 q0
        go_simp
      rintro u rfl
      refine C.ge_nil ?_
      intro w7 hw7
      have hk7 := hw7.kept
      have k4 := hw7.a1 _ rfl
      have k2 := hw7.b1 _ rfl
      have k3 := HI6.out.b3.keep hk7 ⟨by omega, by omega⟩
      have k1 := HI6.out.b1.keep hk7 ⟨by omega, by omega⟩
      have k0 := HI6.out.b0.keep hk7 ⟨by omega, by omega⟩
      have kb := KX6.out.keep hk7 ⟨by omega, by omega⟩
      have z0 : w7.frozen? ⟨N + 3, 0, none⟩ = false := k3.froz 0
      have z1 : w7.frozen? ⟨N + 3, 1, none⟩ = false := k3.froz 1
      have z2 : w7.frozen? ⟨N + 3, 2, none⟩ = false := k3.froz 2
      have z3 : w7.frozen? ⟨N + 3, 3, none⟩ = false := k3.froz 3
      have y0 : w7.cell? ⟨N + 3, 0, none⟩ = some (.int .i64 0) := k3.cell (k := 0) rfl
      have y1 : w7.cell? ⟨N + 3, 1, none⟩ = some (.int .i64 0) := k3.cell (k := 1) rfl
      have y2 : w7.cell? ⟨N + 3, 2, none⟩ = some (.int .i32 0) := k3.cell (k := 2) rfl
      have y3 : w7.cell? ⟨N + 3, 3, none⟩ = some (.bool false) := k3.cell (k := 3) rfl
      have HK7 := hid hk7
      have K47 := hid k4
      have K27 := hid k2
      have K37 := hid k3
      have K17 := hid k1
      have K07 := hid k0
      have KB7 := hid kb
      clear hw7 hk7 k4 k2 k3 k1 k0 kb h00 h01 hCl a1
      gi_wp2_with fail
      obtain ⟨W8, hW8⟩ : ∃ W8, ((((w7.setCell ⟨N + 3, 0, none⟩ (.int .i64 0)).setCell ⟨N + 3, 1, none⟩ (.int .i64 1)).setCell ⟨N + 3, 2, none⟩ (.int .i32 101)).setCell ⟨N + 3, 3, none⟩ (.bool false)) = W8 := ⟨_, rfl⟩
      have hk8 : Kept (fun q => q ≠ N + 3) w7 W8 := by
        rw [← hW8]; exact (((Kept.setCell _ (fun h => h rfl) _).trans (Kept.setCell _ (fun h => h rfl) _)).trans (Kept.setCell _ (fun h => h rfl) _)).trans (Kept.setCell _ (fun h => h rfl) _)
      have k38 : Blk W8 (N + 3) 149 #[.int .i64 0, .int .i64 1, .int .i32 101, .bool false] := by
        rw [← hW8]; exact (((K37.out.upd 0 _ rfl).upd 1 _ rfl).upd 2 _ rfl).upd 3 _ rfl
      rw [show ((((w7.setCell ⟨N + 3, 0, none⟩ (.int .i64 0)).setCell ⟨N + 3, 1, none⟩ (.int .i64 1)).setCell ⟨N + 3, 2, none⟩ (.int .i32 101)).setCell ⟨N + 3, 3, none⟩ (.bool false)) = W8 from hW8]
      have kb8 := KB7.out.keep hk8 (show Bx ≠ N + 3 by omega)
      have k18 := K17.out.keep hk8 (show N + 1 ≠ N + 3 by omega)
      have c0 : W8.cell? ⟨Bx, 0, none⟩ = some (.int .i64 0) := kb8.cell (k := 0) rfl
      have c1 : W8.cell? ⟨Bx, 1, none⟩ = some (.int .i64 1) := kb8.cell (k := 1) rfl
      have c2 : W8.cell? ⟨Bx, 2, none⟩ = some (.int .i32 101) := kb8.cell (k := 2) rfl
      have c3 : W8.cell? ⟨Bx, 3, none⟩ = some (.bool false) := kb8.cell (k := 3) rfl
      have hw1 : IntKind.i64.wrap 1 = 1 := IntWalk.i64_in _ (by omega)
      have K38 := hid k38
      have K18 := hid k18
      have HK8 := hid hk8
      clear hW8 hk8 k38 kb8 k18
      refine C.ext_tailInB 11 (by kernel_rfl) (C.WideF.round _ _ _) (by kernel_rfl) (by kernel_rfl) ?_
      simp only [List.take_succ_cons, List.take_zero, List.drop_succ_cons, List.drop_zero]
      repeat (refine C.bq_step (fun K hK => ?_); go_simp; first | (refine ⟨hK _ ?_⟩; clear hK K) | (refine ⟨?_⟩; apply Exists.intro; refine ⟨fun x => ?_, hK _ ?_⟩; (with_reducible exact C.Ext.call (hcol.out _)); clear hK K))
      refine C.bq_nil ?_
      rintro _ ⟨z, rfl⟩
      have HZ := hid z.h
      have k19 := K18.out.low z.h
      generalize z.w = W9 at *
      have z0 : W9.frozen? ⟨N + 1, 0, none⟩ = false := k19.froz 0
      have z1 : W9.frozen? ⟨N + 1, 1, none⟩ = false := k19.froz 1
      have z2 : W9.frozen? ⟨N + 1, 2, none⟩ = false := k19.froz 2
      have y0 : W9.cell? ⟨N + 1, 0, none⟩ = some (.int .i64 0) := k19.cell (k := 0) rfl
      have y1 : W9.cell? ⟨N + 1, 1, none⟩ = some (.int .i64 0) := k19.cell (k := 1) rfl
      have y2 : W9.cell? ⟨N + 1, 2, none⟩ = some (.int .i64 0) := k19.cell (k := 2) rfl
      have K19 := hid k19
      clear k19 c0 c1 c2 c3
      gi_wp2_with fail
      have hK9 : Kept (fun q => q < N ∨ N + 5 ≤ q) W6 W9 := (HK7.out.mono (fun q _ h => ⟨by omega, by omega⟩)).trans ((HK8.out.mono (fun q _ h => by omega)).trans (Kept.of_all HZ.out _))
      have hKF : Kept (fun q => q ≠ N + 1) W9 (((W9.setCell ⟨N + 1, 0, none⟩ (.int .i64 0)).setCell ⟨N + 1, 1, none⟩ (.int .i64 1)).setCell ⟨N + 1, 2, none⟩ (.int .i64 1)) := ((Kept.setCell _ (fun h => h rfl) _).trans (Kept.setCell _ (fun h => h rfl) _)).trans (Kept.setCell _ (fun h => h rfl) _)
      have hA : Kept (fun q => q < N ∨ N + 5 ≤ q) W6 (((W9.setCell ⟨N + 1, 0, none⟩ (.int .i64 0)).setCell ⟨N + 1, 1, none⟩ (.int .i64 1)).setCell ⟨N + 1, 2, none⟩ (.int .i64 1)) := hK9.trans (hKF.mono (fun q _ h => by omega))
      have hk78 : Kept (fun q => q ≠ N + 3) w7 W9 := HK8.out.trans (Kept.of_all HZ.out _)
      show Kept _ _ _ ∧ (J (clO 1) (U S) _ ∧ ClI _ N 1 l)
      refine ⟨HK6.out.trans (hA.mono (fun q _ h => h.elim (fun h => by omega) (fun h => by have := HS0.out q h; omega))), ?_, ?_, ?_, ?_, ?_, ?_, Nat.le_trans HI6.out.sz hA.size⟩
      · exact HJ.out _ S2 (U S) W6 _ J6.out s26.out (hA.mono (fun q _ hn => Classical.byContradiction fun h => hn (s2n.out q (by omega) (by omega)))) (fun q h => .inl (s2S.out q h))
      · exact (K07.out.keep hk78 (show N ≠ N + 3 by omega)).keep hKF (show N ≠ N + 1 by omega)
      · exact ((K19.out.upd 0 _ rfl).upd 1 _ rfl).upd 2 _ rfl
      · exact (K27.out.keep hk78 (show N + 2 ≠ N + 3 by omega)).keep hKF (show N + 2 ≠ N + 1 by omega)
      · exact (K38.out.low HZ.out).keep hKF (show N + 3 ≠ N + 1 by omega)
      · exact (K47.out.keep hk78 (show N + 4 ≠ N + 3 by omega)).keep hKF (show N + 4 ≠ N + 1 by omega)
    · rw [show pcZ clB 1 = #[.int .i64 1, .int .i64 2, .int .i32 769, .bool false] from Value.agg.inj cl_at.2.2.1.2.1] at kx
      rw [cl_at.2.2.1.2.1]
      have hof := hid (fun w => of1 HOf.out w)
      have hcol := hid (fun w => columns1 HOf.out w)
      have hjo : Hid (∀ w, Calls Tryz.prog 196 #[.int .i64 1, .agg #[.int .i64 0, .int .i64 1, .int .i32 101, .bool false], .agg #[.int .i64 1, .int .i64 2, .int .i32 769, .bool false]] w fun e w' => e = .returned (.bool true) ∧ Below w.heap.size w w') := hid (fun w => joins_of w 0 1 101 1 2 769 (by decide) 2 true (.inr ⟨rfl, rfl⟩) (of1 HOf.out))
      have KX := hid kx
      have c0 : W5.cell? ⟨Bx, 0, none⟩ = some (.int .i64 1) := kx.cell (k := 0) rfl
      have c1 : W5.cell? ⟨Bx, 1, none⟩ = some (.int .i64 2) := kx.cell (k := 1) rfl
      have c2 : W5.cell? ⟨Bx, 2, none⟩ = some (.int .i32 769) := kx.cell (k := 2) rfl
      have c3 : W5.cell? ⟨Bx, 3, none⟩ = some (.bool false) := kx.cell (k := 3) rfl
      clear kx HOf
      gi_wp2_with fail
      refine ⟨trivial, ?_⟩
      with_reducible refine (CallsIn.inRound l' (callsIn_wide.2 (hof.out _))).mono ?_
      rintro e Wk ⟨rfl, hbk⟩
      have KXk := hid (KX.out.low hbk)
      have HIk := hid (HI5.out.keep (Kept.of_all hbk (fun _ => True)) (fun _ _ _ => trivial))
      have HBk := hid hbk
      clear hof c0 c1 c2 c3 hbk
      have c0 : Wk.cell? ⟨Bx, 0, none⟩ = some (.int .i64 1) := KXk.out.cell (k := 0) rfl
      have c1 : Wk.cell? ⟨Bx, 1, none⟩ = some (.int .i64 2) := KXk.out.cell (k := 1) rfl
      have c2 : Wk.cell? ⟨Bx, 2, none⟩ = some (.int .i32 769) := KXk.out.cell (k := 2) rfl
      have c3 : Wk.cell? ⟨Bx, 3, none⟩ = some (.bool false) := KXk.out.cell (k := 3) rfl
      have l0 : Wk.cell? ⟨N + 3, 0, none⟩ = some (.int .i64 0) := HIk.out.b3.cell (k := 0) rfl
      have l1 : Wk.cell? ⟨N + 3, 1, none⟩ = some (.int .i64 1) := HIk.out.b3.cell (k := 1) rfl
      have l2 : Wk.cell? ⟨N + 3, 2, none⟩ = some (.int .i32 101) := HIk.out.b3.cell (k := 2) rfl
      have l3 : Wk.cell? ⟨N + 3, 3, none⟩ = some (.bool false) := HIk.out.b3.cell (k := 3) rfl
      have n0 : Wk.cell? ⟨N + 1, 0, none⟩ = some (.int .i64 0) := HIk.out.b1.cell (k := 0) rfl
      have n1 : Wk.cell? ⟨N + 1, 1, none⟩ = some (.int .i64 1) := HIk.out.b1.cell (k := 1) rfl
      have n2 : Wk.cell? ⟨N + 1, 2, none⟩ = some (.int .i64 1) := HIk.out.b1.cell (k := 2) rfl
      have h2 : Wk.cell? ⟨N + 2, 0, none⟩ = some (.int .i64 1) := HIk.out.b2.cell (k := 0) rfl
      have o4 : Wk.cell? ⟨N + 4, 0, none⟩ = some (.bool true) := HIk.out.b4.cell (k := 0) rfl
      have y0 : Wk.cell? ⟨N, 0, none⟩ = some (.func (.yield l) #[] #[]) := HIk.out.b0.cell (k := 0) rfl
      gi_wp2_with fail
      refine ⟨trivial, ?_⟩
      with_reducible refine (CallsIn.inRound l' (callsIn_wide.2 (hjo.out _))).mono ?_
      rintro e W6 ⟨rfl, hbj⟩
      have hb6 := HBk.out.trans (hbj.mono HBk.out.size)
      have KX6 := hid (KXk.out.low hbj)
      have HI6 := hid (HIk.out.keep (Kept.of_all hbj (fun _ => True)) (fun _ _ _ => trivial))
      clear hjo hbj
      clear c0 c1 c2 c3 l0 l1 l2 l3 n0 n1 n2 h2 o4 y0
      have hs6 := hb6.size
      have J6 := hid (HJ.out _ S2 S2 W5 W6 HJ5.out s2.out (Kept.of_all hb6 _) (fun k h => .inl h))
      have s26 : Hid (∀ k, S2 k → N ≤ k ∧ k < W6.heap.size) := hid (fun k h => by have := s2.out k h; omega)
      have HK6 : Hid (Kept (fun k => k = N + 5 ∨ S k) W5 W6) := hid (Kept.of_all hb6 _)
      have c0 : W6.cell? ⟨Bx, 0, none⟩ = some (.int .i64 1) := KX6.out.cell (k := 0) rfl
      have c1 : W6.cell? ⟨Bx, 1, none⟩ = some (.int .i64 2) := KX6.out.cell (k := 1) rfl
      have c2 : W6.cell? ⟨Bx, 2, none⟩ = some (.int .i32 769) := KX6.out.cell (k := 2) rfl
      have c3 : W6.cell? ⟨Bx, 3, none⟩ = some (.bool false) := KX6.out.cell (k := 3) rfl
      have l0 : W6.cell? ⟨N + 3, 0, none⟩ = some (.int .i64 0) := HI6.out.b3.cell (k := 0) rfl
      have l1 : W6.cell? ⟨N + 3, 1, none⟩ = some (.int .i64 1) := HI6.out.b3.cell (k := 1) rfl
      have l2 : W6.cell? ⟨N + 3, 2, none⟩ = some (.int .i32 101) := HI6.out.b3.cell (k := 2) rfl
      have l3 : W6.cell? ⟨N + 3, 3, none⟩ = some (.bool false) := HI6.out.b3.cell (k := 3) rfl
      have n0 : W6.cell? ⟨N + 1, 0, none⟩ = some (.int .i64 0) := HI6.out.b1.cell (k := 0) rfl
      have n1 : W6.cell? ⟨N + 1, 1, none⟩ = some (.int .i64 1) := HI6.out.b1.cell (k := 1) rfl
      have n2 : W6.cell? ⟨N + 1, 2, none⟩ = some (.int .i64 1) := HI6.out.b1.cell (k := 2) rfl
      have h2 : W6.cell? ⟨N + 2, 0, none⟩ = some (.int .i64 1) := HI6.out.b2.cell (k := 0) rfl
      have o4 : W6.cell? ⟨N + 4, 0, none⟩ = some (.bool true) := HI6.out.b4.cell (k := 0) rfl
      have y0 : W6.cell? ⟨N, 0, none⟩ = some (.func (.yield l) #[] #[]) := HI6.out.b0.cell (k := 0) rfl
      clear hb6
      have zb : W6.frozen? ⟨N + 1, 1, none⟩ = false := HI6.out.b1.froz 1
      have hw3 : IntKind.i64.wrap 3 = 3 := IntWalk.i64_in _ (by omega)
      gi_wp2_with fail
      obtain ⟨W7, hW7⟩ : ∃ W7, W6.setCell ⟨N + 1, 1, none⟩ (.int .i64 3) = W7 := ⟨_, rfl⟩
      have hk7 : Kept (fun q => q ≠ N + 1) W6 W7 := by rw [← hW7]; exact Kept.setCell _ (fun h => h rfl) _
      have k17 : Blk W7 (N + 1) 267 #[.int .i64 0, .int .i64 3, .int .i64 1] := by rw [← hW7]; exact HI6.out.b1.upd 1 _ rfl
      rw [show W6.setCell ⟨N + 1, 1, none⟩ (.int .i64 3) = W7 from hW7]
      have kb7 := KX6.out.keep hk7 (show Bx ≠ N + 1 by omega)
      clear c0 c1 c2 c3 l0 l1 l2 l3 n0 n1 n2 h2 o4 y0 zb
      have c0 : W7.cell? ⟨Bx, 0, none⟩ = some (.int .i64 1) := kb7.cell (k := 0) rfl
      have c1 : W7.cell? ⟨Bx, 1, none⟩ = some (.int .i64 2) := kb7.cell (k := 1) rfl
      have c2 : W7.cell? ⟨Bx, 2, none⟩ = some (.int .i32 769) := kb7.cell (k := 2) rfl
      have c3 : W7.cell? ⟨Bx, 3, none⟩ = some (.bool false) := kb7.cell (k := 3) rfl
      have n2 : W7.cell? ⟨N + 1, 2, none⟩ = some (.int .i64 1) := k17.cell (k := 2) rfl
      have HK7 := hid hk7
      have K17 := hid k17
      have KB7 := hid kb7
      clear hW7 hk7 k17 kb7
      refine C.ext_tailInB 6 (by kernel_rfl) (C.WideF.round _ _ _) (by kernel_rfl) (by kernel_rfl) ?_
      simp only [List.take_succ_cons, List.take_zero, List.drop_succ_cons, List.drop_zero]
      repeat (refine C.bq_step (fun K hK => ?_); go_simp; first | (refine ⟨hK _ ?_⟩; clear hK K) | (refine ⟨?_⟩; apply Exists.intro; refine ⟨fun x => ?_, hK _ ?_⟩; (with_reducible exact C.Ext.call (hcol.out _)); clear hK K))
      refine C.bq_nil ?_
      rintro _ ⟨z, rfl⟩
      have HZ := hid z.h
      have k19 := K17.out.low z.h
      have kb9 := KB7.out.low z.h
      generalize z.w = W9 at *
      clear c0 c1 c2 c3 n2
      have k39 := (HI6.out.b3.keep HK7.out (show N + 3 ≠ N + 1 by omega)).low HZ.out
      have z2 : W9.frozen? ⟨N + 1, 2, none⟩ = false := k19.froz 2
      have n2 : W9.cell? ⟨N + 1, 2, none⟩ = some (.int .i64 1) := k19.cell (k := 2) rfl
      have f0 : W9.frozen? ⟨N + 3, 0, none⟩ = false := k39.froz 0
      have f1 : W9.frozen? ⟨N + 3, 1, none⟩ = false := k39.froz 1
      have f2 : W9.frozen? ⟨N + 3, 2, none⟩ = false := k39.froz 2
      have f3 : W9.frozen? ⟨N + 3, 3, none⟩ = false := k39.froz 3
      have c0 : W9.cell? ⟨Bx, 0, none⟩ = some (.int .i64 1) := kb9.cell (k := 0) rfl
      have c1 : W9.cell? ⟨Bx, 1, none⟩ = some (.int .i64 2) := kb9.cell (k := 1) rfl
      have c2 : W9.cell? ⟨Bx, 2, none⟩ = some (.int .i32 769) := kb9.cell (k := 2) rfl
      have c3 : W9.cell? ⟨Bx, 3, none⟩ = some (.bool false) := kb9.cell (k := 3) rfl
      have l0 : W9.cell? ⟨N + 3, 0, none⟩ = some (.int .i64 0) := k39.cell (k := 0) rfl
      have l1 : W9.cell? ⟨N + 3, 1, none⟩ = some (.int .i64 1) := k39.cell (k := 1) rfl
      have l2 : W9.cell? ⟨N + 3, 2, none⟩ = some (.int .i32 101) := k39.cell (k := 2) rfl
      have l3 : W9.cell? ⟨N + 3, 3, none⟩ = some (.bool false) := k39.cell (k := 3) rfl
      have K19 := hid k19
      have K39 := hid k39
      clear k19 kb9 k39
      gi_wp2_with fail
      have hK9 : Kept (fun q => q < N ∨ N + 5 ≤ q) W6 W9 := (HK7.out.mono (fun q _ h => by omega)).trans (Kept.of_all HZ.out _)
      have hK1 : Kept (fun q => q ≠ N + 1) W9 (W9.setCell ⟨N + 1, 2, none⟩ (.int .i64 1)) := Kept.setCell _ (fun h => h rfl) _
      have hK3 : Kept (fun q => q ≠ N + 3) (W9.setCell ⟨N + 1, 2, none⟩ (.int .i64 1)) (((((W9.setCell ⟨N + 1, 2, none⟩ (.int .i64 1)).setCell ⟨N + 3, 0, none⟩ (.int .i64 1)).setCell ⟨N + 3, 1, none⟩ (.int .i64 2)).setCell ⟨N + 3, 2, none⟩ (.int .i32 769)).setCell ⟨N + 3, 3, none⟩ (.bool false)) := (((Kept.setCell _ (fun h => h rfl) _).trans (Kept.setCell _ (fun h => h rfl) _)).trans (Kept.setCell _ (fun h => h rfl) _)).trans (Kept.setCell _ (fun h => h rfl) _)
      have hA : Kept (fun q => q < N ∨ N + 5 ≤ q) W6 (((((W9.setCell ⟨N + 1, 2, none⟩ (.int .i64 1)).setCell ⟨N + 3, 0, none⟩ (.int .i64 1)).setCell ⟨N + 3, 1, none⟩ (.int .i64 2)).setCell ⟨N + 3, 2, none⟩ (.int .i32 769)).setCell ⟨N + 3, 3, none⟩ (.bool false)) := hK9.trans ((hK1.mono (fun q _ h => by omega)).trans (hK3.mono (fun q _ h => by omega)))
      have hB : Kept (fun q => q ≠ N + 1 ∧ q ≠ N + 3) W6 (((((W9.setCell ⟨N + 1, 2, none⟩ (.int .i64 1)).setCell ⟨N + 3, 0, none⟩ (.int .i64 1)).setCell ⟨N + 3, 1, none⟩ (.int .i64 2)).setCell ⟨N + 3, 2, none⟩ (.int .i32 769)).setCell ⟨N + 3, 3, none⟩ (.bool false)) := ((HK7.out.mono (fun q _ h => h.1)).trans (Kept.of_all HZ.out _)).trans ((hK1.mono (fun q _ h => h.1)).trans (hK3.mono (fun q _ h => h.2)))
      show Kept _ _ _ ∧ (J (clO 2) (U S) _ ∧ ClI _ N 2 l)
      refine ⟨HK6.out.trans (hA.mono (fun q _ h => h.elim (fun h => by omega) (fun h => by have := HS0.out q h; omega))), ?_, ?_, ?_, ?_, ?_, ?_, Nat.le_trans HI6.out.sz hA.size⟩
      · exact HJ.out _ S2 (U S) W6 _ J6.out s26.out (hA.mono (fun q _ hn => Classical.byContradiction fun h => hn (s2n.out q (by omega) (by omega)))) (fun q h => .inl (s2S.out q h))
      · exact HI6.out.b0.keep hB ⟨by omega, by omega⟩
      · exact (K19.out.upd 2 _ rfl).keep hK3 (show N + 1 ≠ N + 3 by omega)
      · exact HI6.out.b2.keep hB ⟨by omega, by omega⟩
      · exact ((((K39.out.keep hK1 (show N + 3 ≠ N + 1 by omega)).upd 0 _ rfl).upd 1 _ rfl).upd 2 _ rfl).upd 3 _ rfl
      · exact HI6.out.b4.keep hB ⟨by omega, by omega⟩
    · rw [show pcZ clB 3 = #[.int .i64 3, .int .i64 1, .int .i32 120, .bool false] from Value.agg.inj cl_at.2.2.1.2.2] at kx
      rw [cl_at.2.2.1.2.2]
      have hof := hid (fun w => of3 HOf.out w)
      have hcol := hid (fun w => columns3 HOf.out w)
      have hjo : Hid (∀ w, Calls Tryz.prog 196 #[.int .i64 1, .agg #[.int .i64 1, .int .i64 2, .int .i32 769, .bool false], .agg #[.int .i64 3, .int .i64 1, .int .i32 120, .bool false]] w fun e w' => e = .returned (.bool false) ∧ Below w.heap.size w w') := hid (fun w => joins_of w 1 2 769 3 1 120 (by decide) 1 false (.inl ⟨rfl, rfl⟩) (of3 HOf.out))
      have KX := hid kx
      have c0 : W5.cell? ⟨Bx, 0, none⟩ = some (.int .i64 3) := kx.cell (k := 0) rfl
      have c1 : W5.cell? ⟨Bx, 1, none⟩ = some (.int .i64 1) := kx.cell (k := 1) rfl
      have c2 : W5.cell? ⟨Bx, 2, none⟩ = some (.int .i32 120) := kx.cell (k := 2) rfl
      have c3 : W5.cell? ⟨Bx, 3, none⟩ = some (.bool false) := kx.cell (k := 3) rfl
      clear kx HOf
      gi_wp2_with fail
      refine ⟨trivial, ?_⟩
      with_reducible refine (CallsIn.inRound l' (callsIn_wide.2 (hof.out _))).mono ?_
      rintro e Wk ⟨rfl, hbk⟩
      have KXk := hid (KX.out.low hbk)
      have HIk := hid (HI5.out.keep (Kept.of_all hbk (fun _ => True)) (fun _ _ _ => trivial))
      have HBk := hid hbk
      clear hof c0 c1 c2 c3 hbk
      have c0 : Wk.cell? ⟨Bx, 0, none⟩ = some (.int .i64 3) := KXk.out.cell (k := 0) rfl
      have c1 : Wk.cell? ⟨Bx, 1, none⟩ = some (.int .i64 1) := KXk.out.cell (k := 1) rfl
      have c2 : Wk.cell? ⟨Bx, 2, none⟩ = some (.int .i32 120) := KXk.out.cell (k := 2) rfl
      have c3 : Wk.cell? ⟨Bx, 3, none⟩ = some (.bool false) := KXk.out.cell (k := 3) rfl
      have l0 : Wk.cell? ⟨N + 3, 0, none⟩ = some (.int .i64 1) := HIk.out.b3.cell (k := 0) rfl
      have l1 : Wk.cell? ⟨N + 3, 1, none⟩ = some (.int .i64 2) := HIk.out.b3.cell (k := 1) rfl
      have l2 : Wk.cell? ⟨N + 3, 2, none⟩ = some (.int .i32 769) := HIk.out.b3.cell (k := 2) rfl
      have l3 : Wk.cell? ⟨N + 3, 3, none⟩ = some (.bool false) := HIk.out.b3.cell (k := 3) rfl
      have n0 : Wk.cell? ⟨N + 1, 0, none⟩ = some (.int .i64 0) := HIk.out.b1.cell (k := 0) rfl
      have n1 : Wk.cell? ⟨N + 1, 1, none⟩ = some (.int .i64 3) := HIk.out.b1.cell (k := 1) rfl
      have n2 : Wk.cell? ⟨N + 1, 2, none⟩ = some (.int .i64 1) := HIk.out.b1.cell (k := 2) rfl
      have h2 : Wk.cell? ⟨N + 2, 0, none⟩ = some (.int .i64 1) := HIk.out.b2.cell (k := 0) rfl
      have o4 : Wk.cell? ⟨N + 4, 0, none⟩ = some (.bool true) := HIk.out.b4.cell (k := 0) rfl
      have y0 : Wk.cell? ⟨N, 0, none⟩ = some (.func (.yield l) #[] #[]) := HIk.out.b0.cell (k := 0) rfl
      gi_wp2_with fail
      refine ⟨trivial, ?_⟩
      with_reducible refine (CallsIn.inRound l' (callsIn_wide.2 (hjo.out _))).mono ?_
      rintro e W6 ⟨rfl, hbj⟩
      have hb6 := HBk.out.trans (hbj.mono HBk.out.size)
      have KX6 := hid (KXk.out.low hbj)
      have HI6 := hid (HIk.out.keep (Kept.of_all hbj (fun _ => True)) (fun _ _ _ => trivial))
      clear hjo hbj
      clear c0 c1 c2 c3 l0 l1 l2 l3 n0 n1 n2 h2 o4 y0
      have hs6 := hb6.size
      have J6 := hid (HJ.out _ S2 S2 W5 W6 HJ5.out s2.out (Kept.of_all hb6 _) (fun k h => .inl h))
      have s26 : Hid (∀ k, S2 k → N ≤ k ∧ k < W6.heap.size) := hid (fun k h => by have := s2.out k h; omega)
      have HK6 : Hid (Kept (fun k => k = N + 5 ∨ S k) W5 W6) := hid (Kept.of_all hb6 _)
      have c0 : W6.cell? ⟨Bx, 0, none⟩ = some (.int .i64 3) := KX6.out.cell (k := 0) rfl
      have c1 : W6.cell? ⟨Bx, 1, none⟩ = some (.int .i64 1) := KX6.out.cell (k := 1) rfl
      have c2 : W6.cell? ⟨Bx, 2, none⟩ = some (.int .i32 120) := KX6.out.cell (k := 2) rfl
      have c3 : W6.cell? ⟨Bx, 3, none⟩ = some (.bool false) := KX6.out.cell (k := 3) rfl
      have l0 : W6.cell? ⟨N + 3, 0, none⟩ = some (.int .i64 1) := HI6.out.b3.cell (k := 0) rfl
      have l1 : W6.cell? ⟨N + 3, 1, none⟩ = some (.int .i64 2) := HI6.out.b3.cell (k := 1) rfl
      have l2 : W6.cell? ⟨N + 3, 2, none⟩ = some (.int .i32 769) := HI6.out.b3.cell (k := 2) rfl
      have l3 : W6.cell? ⟨N + 3, 3, none⟩ = some (.bool false) := HI6.out.b3.cell (k := 3) rfl
      have n0 : W6.cell? ⟨N + 1, 0, none⟩ = some (.int .i64 0) := HI6.out.b1.cell (k := 0) rfl
      have n1 : W6.cell? ⟨N + 1, 1, none⟩ = some (.int .i64 3) := HI6.out.b1.cell (k := 1) rfl
      have n2 : W6.cell? ⟨N + 1, 2, none⟩ = some (.int .i64 1) := HI6.out.b1.cell (k := 2) rfl
      have h2 : W6.cell? ⟨N + 2, 0, none⟩ = some (.int .i64 1) := HI6.out.b2.cell (k := 0) rfl
      have o4 : W6.cell? ⟨N + 4, 0, none⟩ = some (.bool true) := HI6.out.b4.cell (k := 0) rfl
      have y0 : W6.cell? ⟨N, 0, none⟩ = some (.func (.yield l) #[] #[]) := HI6.out.b0.cell (k := 0) rfl
      clear hb6
      obtain ⟨fn, tmps, assign, body, hy, hR⟩ := HY.out [] S2 (0, 3, 1) W6 J6.out (by have := HI6.out.sz; omega) s26.out ⟨[(3, 4, 1)], rfl⟩
      change (Instr.yield l #[.agg #[.int .i64 0, .int .i64 3, .int .i64 1]]).run Tryz.prog W6 = _ at hy
      have HRr := hid hR
      clear hR
      gi_wp2_with fail
      refine (RoundIn.inRound l' (RoundIn.wide HRr.out)).mono ?_
      have HI6y := HI6
      have KX6y := KX6
      have HK6y := HK6
      have s26y := s26
      clear HI6 KX6 HK6 s26 J6 HBk HIk KXk
      clear c0 c1 c2 c3 l0 l1 l2 l3 n0 n1 n2 h2 o4 y0
      rintro e W6' ⟨hk6, (⟨rfl, hJ6⟩ | ⟨rfl, hJx⟩)⟩
      rotate_left
      · have hs7 := hk6.size
        have hK : Hid (Kept (fun k => k = N + 5 ∨ S k) W5 W6') := hid (HK6y.out.trans (hk6.mono (fun k _ h => .inr (h.elim (fun h => s2n.out k (by omega) (by omega)) (fun h => sS.out k h)))))
        have X7 := hid (HX.out _ S2 (U S) W6' W6' hJx (fun k h => by have := s26y.out k h; omega) (Kept.refl _ _) (fun k h => .inl (s2S.out k h)))
        have hz := HI6y.out.sz
        clear hk6 hJx hy
        gi_wp2_with fail
        exact ⟨hK.out, rfl, by omega, [(0, 3, 1)], ⟨[(3, 4, 1)], rfl⟩, X7.out⟩
      have hs6 := hk6.size
      have J6 : Hid (J [(0, 3, 1)] S2 W6') := hid hJ6
      have s26 : Hid (∀ k, S2 k → N ≤ k ∧ k < W6'.heap.size) := hid (fun k h => by have := s26y.out k h; omega)
      have HK6 : Hid (Kept (fun k => k = N + 5 ∨ S k) W5 W6') := hid (HK6y.out.trans (hk6.mono (fun k _ h => .inr (h.elim (fun h => s2n.out k (by omega) (by omega)) (fun h => sS.out k h)))))
      have HI6 := hid (HI6y.out.keep hk6 (fun k h1 h2 => .inr (s2n.out k h1 h2)))
      have KX6 := hid (KX6y.out.keep hk6 (.inr s2x.out))
      clear hk6 hJ6 hy
      have c0 : W6'.cell? ⟨Bx, 0, none⟩ = some (.int .i64 3) := KX6.out.cell (k := 0) rfl
      have c1 : W6'.cell? ⟨Bx, 1, none⟩ = some (.int .i64 1) := KX6.out.cell (k := 1) rfl
      have c2 : W6'.cell? ⟨Bx, 2, none⟩ = some (.int .i32 120) := KX6.out.cell (k := 2) rfl
      have c3 : W6'.cell? ⟨Bx, 3, none⟩ = some (.bool false) := KX6.out.cell (k := 3) rfl
      have l0 : W6'.cell? ⟨N + 3, 0, none⟩ = some (.int .i64 1) := HI6.out.b3.cell (k := 0) rfl
      have l1 : W6'.cell? ⟨N + 3, 1, none⟩ = some (.int .i64 2) := HI6.out.b3.cell (k := 1) rfl
      have l2 : W6'.cell? ⟨N + 3, 2, none⟩ = some (.int .i32 769) := HI6.out.b3.cell (k := 2) rfl
      have l3 : W6'.cell? ⟨N + 3, 3, none⟩ = some (.bool false) := HI6.out.b3.cell (k := 3) rfl
      have n0 : W6'.cell? ⟨N + 1, 0, none⟩ = some (.int .i64 0) := HI6.out.b1.cell (k := 0) rfl
      have n1 : W6'.cell? ⟨N + 1, 1, none⟩ = some (.int .i64 3) := HI6.out.b1.cell (k := 1) rfl
      have n2 : W6'.cell? ⟨N + 1, 2, none⟩ = some (.int .i64 1) := HI6.out.b1.cell (k := 2) rfl
      have h2 : W6'.cell? ⟨N + 2, 0, none⟩ = some (.int .i64 1) := HI6.out.b2.cell (k := 0) rfl
      have o4 : W6'.cell? ⟨N + 4, 0, none⟩ = some (.bool true) := HI6.out.b4.cell (k := 0) rfl
      have y0 : W6'.cell? ⟨N, 0, none⟩ = some (.func (.yield l) #[] #[]) := HI6.out.b0.cell (k := 0) rfl
      gi_wp2_with fail
      have hne : N + 4 ≠ N + 2 := by omega
      have h00 := H17.start #[.bool true] #[.int .i64 1] HI6.out.b4 HI6.out.b2
      have hCl : C.ClsK (fun q => q ≠ N + 4 ∧ q ≠ N + 2) W6' (H17 W6' (N + 4) (N + 2) #[.bool true] #[.bool true] #[.int .i64 1] #[.int .i64 1]) := H17.cls _ _ _ _ _ _ _
      obtain ⟨T0, hT0⟩ : ∃ T0 : Nat → Prop, T0 = fun q => q ≠ N + 4 ∧ q ≠ N + 2 := ⟨_, rfl⟩
      rw [← hT0] at hCl
      have a1 : T0 Bx = True := eq_true (by rw [hT0]; exact ⟨by omega, by omega⟩)
      clear hT0
      have h00 : H17 W6' (N + 4) (N + 2) #[.bool true] #[.bool true] #[.int .i64 1] #[.int .i64 1] [none, none] W6'.drew := h00
      have h01 : ∃ w', H17 W6' (N + 4) (N + 2) #[.bool true] #[.bool true] #[.int .i64 1] #[.int .i64 1] [some undef, none] w' := ⟨_, h00.put0 rfl rfl hne (((h00.a0 rfl).2).upd 0 (.bool true) rfl)⟩
      obtain ⟨w01, h01⟩ := h01
      refine C.eff_tailIn 4 [(2, none), (3, none)] (H17 W6' (N + 4) (N + 2) #[.bool true] #[.bool true] #[.int .i64 1] #[.int .i64 1]) (fun _ _ _ => False) (by kernel_rfl) (C.WideF.round _ _ _) (by kernel_rfl) (by kernel_rfl) (by kernel_rfl) rfl h00 ?_
      simp only [List.take_succ_cons, List.take_zero, List.drop_succ_cons, List.drop_zero]
      iterate 2 (refine C.gk_step hCl (by kernel_rfl) (C.wit0 h00 (by kernel_rfl)) (fun K hK => ?_); go_simp; refine ⟨hK _ ?_⟩; clear hK K)
      refine C.ge_eff (m := 0) (by kernel_rfl) rfl (C.wit0 h00 (by kernel_rfl)) (fun u => u = undef) ?_ ?_
      · intro x' w' hf hx0 hx
        have kc := (hx.a0 hx0).2
        have z1 : w'.frozen? ⟨N + 4, 0, none⟩ = false := kc.froz 0
        have y1 : w'.cell? ⟨N + 4, 0, none⟩ = some (.bool true) := kc.cell (k := 0) rfl
        refine ⟨undef, w'.setCell ⟨N + 4, 0, none⟩ (.bool true), .inr ⟨?_, rfl⟩, rfl, hx.put0 hf.1 hx0 hne (kc.upd 0 (.bool true) rfl)⟩
        clear kc hx hf hx0
        go_simp
      rintro u rfl
      refine C.ge_eff (m := 1) (by kernel_rfl) rfl ⟨_, w01, C.fit_at rfl 1 (by kernel_rfl) rfl [0] (by kernel_rfl) (fun m hm p hp => ?_), h01⟩ (fun u => u = undef) ?_ ?_
      · rw [List.mem_singleton] at hm
        subst hm
        obtain rfl : (2, none) = p := by simpa using hp
        rfl
      · intro x' w' hf hx1 hx
        have q0 : x'[0]? = some (some undef) := hf.2.2 0 _ rfl (by kernel_rfl)
        have kc := hx.b0 hx1
        have z1 : w'.frozen? ⟨N + 2, 0, none⟩ = false := kc.froz 0
        have y1 : w'.cell? ⟨N + 2, 0, none⟩ = some (.int .i64 1) := kc.cell (k := 0) rfl
        refine ⟨undef, w'.setCell ⟨N + 2, 0, none⟩ (.int .i64 1), .inr ⟨?_, rfl⟩, rfl, hx.put1 hf.1 q0 hne (kc.upd 0 (.int .i64 1) rfl)⟩
        clear kc hx hf hx1 q0
        go_simp
      rintro u rfl
      refine C.ge_nil ?_
      intro w7 hw7
      have hk7 := hw7.kept
      have k4 := hw7.a1 _ rfl
      have k2 := hw7.b1 _ rfl
      have k3 := HI6.out.b3.keep hk7 ⟨by omega, by omega⟩
      have k1 := HI6.out.b1.keep hk7 ⟨by omega, by omega⟩
      have k0 := HI6.out.b0.keep hk7 ⟨by omega, by omega⟩
      have kb := KX6.out.keep hk7 ⟨by omega, by omega⟩
      have z0 : w7.frozen? ⟨N + 3, 0, none⟩ = false := k3.froz 0
      have z1 : w7.frozen? ⟨N + 3, 1, none⟩ = false := k3.froz 1
      have z2 : w7.frozen? ⟨N + 3, 2, none⟩ = false := k3.froz 2
      have z3 : w7.frozen? ⟨N + 3, 3, none⟩ = false := k3.froz 3
      have y0 : w7.cell? ⟨N + 3, 0, none⟩ = some (.int .i64 1) := k3.cell (k := 0) rfl
      have y1 : w7.cell? ⟨N + 3, 1, none⟩ = some (.int .i64 2) := k3.cell (k := 1) rfl
      have y2 : w7.cell? ⟨N + 3, 2, none⟩ = some (.int .i32 769) := k3.cell (k := 2) rfl
      have y3 : w7.cell? ⟨N + 3, 3, none⟩ = some (.bool false) := k3.cell (k := 3) rfl
      have HK7 := hid hk7
      have K47 := hid k4
      have K27 := hid k2
      have K37 := hid k3
      have K17 := hid k1
      have K07 := hid k0
      have KB7 := hid kb
      clear hw7 hk7 k4 k2 k3 k1 k0 kb h00 h01 hCl a1
      gi_wp2_with fail
      obtain ⟨W8, hW8⟩ : ∃ W8, ((((w7.setCell ⟨N + 3, 0, none⟩ (.int .i64 3)).setCell ⟨N + 3, 1, none⟩ (.int .i64 1)).setCell ⟨N + 3, 2, none⟩ (.int .i32 120)).setCell ⟨N + 3, 3, none⟩ (.bool false)) = W8 := ⟨_, rfl⟩
      have hk8 : Kept (fun q => q ≠ N + 3) w7 W8 := by
        rw [← hW8]; exact (((Kept.setCell _ (fun h => h rfl) _).trans (Kept.setCell _ (fun h => h rfl) _)).trans (Kept.setCell _ (fun h => h rfl) _)).trans (Kept.setCell _ (fun h => h rfl) _)
      have k38 : Blk W8 (N + 3) 149 #[.int .i64 3, .int .i64 1, .int .i32 120, .bool false] := by
        rw [← hW8]; exact (((K37.out.upd 0 _ rfl).upd 1 _ rfl).upd 2 _ rfl).upd 3 _ rfl
      rw [show ((((w7.setCell ⟨N + 3, 0, none⟩ (.int .i64 3)).setCell ⟨N + 3, 1, none⟩ (.int .i64 1)).setCell ⟨N + 3, 2, none⟩ (.int .i32 120)).setCell ⟨N + 3, 3, none⟩ (.bool false)) = W8 from hW8]
      have kb8 := KB7.out.keep hk8 (show Bx ≠ N + 3 by omega)
      have k18 := K17.out.keep hk8 (show N + 1 ≠ N + 3 by omega)
      have c0 : W8.cell? ⟨Bx, 0, none⟩ = some (.int .i64 3) := kb8.cell (k := 0) rfl
      have c1 : W8.cell? ⟨Bx, 1, none⟩ = some (.int .i64 1) := kb8.cell (k := 1) rfl
      have c2 : W8.cell? ⟨Bx, 2, none⟩ = some (.int .i32 120) := kb8.cell (k := 2) rfl
      have c3 : W8.cell? ⟨Bx, 3, none⟩ = some (.bool false) := kb8.cell (k := 3) rfl
      have hw1 : IntKind.i64.wrap 4 = 4 := IntWalk.i64_in _ (by omega)
      have K38 := hid k38
      have K18 := hid k18
      have HK8 := hid hk8
      clear hW8 hk8 k38 kb8 k18
      refine C.ext_tailInB 11 (by kernel_rfl) (C.WideF.round _ _ _) (by kernel_rfl) (by kernel_rfl) ?_
      simp only [List.take_succ_cons, List.take_zero, List.drop_succ_cons, List.drop_zero]
      repeat (refine C.bq_step (fun K hK => ?_); go_simp; first | (refine ⟨hK _ ?_⟩; clear hK K) | (refine ⟨?_⟩; apply Exists.intro; refine ⟨fun x => ?_, hK _ ?_⟩; (with_reducible exact C.Ext.call (hcol.out _)); clear hK K))
      refine C.bq_nil ?_
      rintro _ ⟨z, rfl⟩
      have HZ := hid z.h
      have k19 := K18.out.low z.h
      generalize z.w = W9 at *
      have z0 : W9.frozen? ⟨N + 1, 0, none⟩ = false := k19.froz 0
      have z1 : W9.frozen? ⟨N + 1, 1, none⟩ = false := k19.froz 1
      have z2 : W9.frozen? ⟨N + 1, 2, none⟩ = false := k19.froz 2
      have y0 : W9.cell? ⟨N + 1, 0, none⟩ = some (.int .i64 0) := k19.cell (k := 0) rfl
      have y1 : W9.cell? ⟨N + 1, 1, none⟩ = some (.int .i64 3) := k19.cell (k := 1) rfl
      have y2 : W9.cell? ⟨N + 1, 2, none⟩ = some (.int .i64 1) := k19.cell (k := 2) rfl
      have K19 := hid k19
      clear k19 c0 c1 c2 c3
      gi_wp2_with fail
      have hK9 : Kept (fun q => q < N ∨ N + 5 ≤ q) W6' W9 := (HK7.out.mono (fun q _ h => ⟨by omega, by omega⟩)).trans ((HK8.out.mono (fun q _ h => by omega)).trans (Kept.of_all HZ.out _))
      have hKF : Kept (fun q => q ≠ N + 1) W9 (((W9.setCell ⟨N + 1, 0, none⟩ (.int .i64 3)).setCell ⟨N + 1, 1, none⟩ (.int .i64 4)).setCell ⟨N + 1, 2, none⟩ (.int .i64 1)) := ((Kept.setCell _ (fun h => h rfl) _).trans (Kept.setCell _ (fun h => h rfl) _)).trans (Kept.setCell _ (fun h => h rfl) _)
      have hA : Kept (fun q => q < N ∨ N + 5 ≤ q) W6' (((W9.setCell ⟨N + 1, 0, none⟩ (.int .i64 3)).setCell ⟨N + 1, 1, none⟩ (.int .i64 4)).setCell ⟨N + 1, 2, none⟩ (.int .i64 1)) := hK9.trans (hKF.mono (fun q _ h => by omega))
      have hk78 : Kept (fun q => q ≠ N + 3) w7 W9 := HK8.out.trans (Kept.of_all HZ.out _)
      show Kept _ _ _ ∧ (J (clO 3) (U S) _ ∧ ClI _ N 3 l)
      refine ⟨HK6.out.trans (hA.mono (fun q _ h => h.elim (fun h => by omega) (fun h => by have := HS0.out q h; omega))), ?_, ?_, ?_, ?_, ?_, ?_, Nat.le_trans HI6.out.sz hA.size⟩
      · exact HJ.out _ S2 (U S) W6' _ J6.out s26.out (hA.mono (fun q _ hn => Classical.byContradiction fun h => hn (s2n.out q (by omega) (by omega)))) (fun q h => .inl (s2S.out q h))
      · exact (K07.out.keep hk78 (show N ≠ N + 3 by omega)).keep hKF (show N ≠ N + 1 by omega)
      · exact ((K19.out.upd 0 _ rfl).upd 1 _ rfl).upd 2 _ rfl
      · exact (K27.out.keep hk78 (show N + 2 ≠ N + 3 by omega)).keep hKF (show N + 2 ≠ N + 1 by omega)
      · exact (K38.out.low HZ.out).keep hKF (show N + 3 ≠ N + 1 by omega)
      · exact (K47.out.keep hk78 (show N + 4 ≠ N + 3 by omega)).keep hKF (show N + 4 ≠ N + 1 by omega)
  case done =>
    rintro Dk W9 hDk ⟨hJ9, hI9⟩ hK
    have hDl := at_lt hK
    have s9 := U4.out (fun k => k = Dk) W9 (fun k h => by omega) hI9.sz
    have SD : Hid (U (fun k => k = Dk) Dk) := hid (U2.out _ _ (.inl rfl))
    have hJ9 : J [(0, 3, 1)] (U (fun k => k = Dk)) W9 := hJ9
    obtain ⟨fn, tmps, assign, body, hy, hR⟩ := HY.out [(0, 3, 1)] _ (3, 4, 1) W9 hJ9 (by have := hI9.sz; omega) s9 ⟨[], rfl⟩
    change (Instr.yield l #[.agg #[.int .i64 3, .int .i64 4, .int .i64 1]]).run Tryz.prog W9 = _ at hy
    have HRr := hid hR
    have S9 := hid s9
    have hK0 := hid hK
    have o4 : W9.cell? ⟨N + 4, 0, none⟩ = some (.bool true) := hI9.b4.cell (k := 0) rfl
    have y0 : W9.cell? ⟨N, 0, none⟩ = some (.func (.yield l) #[] #[]) := hI9.b0.cell (k := 0) rfl
    have n0 : W9.cell? ⟨N + 1, 0, none⟩ = some (.int .i64 3) := hI9.b1.cell (k := 0) rfl
    have n1 : W9.cell? ⟨N + 1, 1, none⟩ = some (.int .i64 4) := hI9.b1.cell (k := 1) rfl
    have n2 : W9.cell? ⟨N + 1, 2, none⟩ = some (.int .i64 1) := hI9.b1.cell (k := 2) rfl
    clear hJ9 hI9 hK hR s9 hseq HOf
    subst hTm hD
    gi_wp2_with fail
    refine (RoundIn.wide HRr.out).mono ?_
    rintro e W8 ⟨hk8, (⟨rfl, hJ8⟩ | ⟨rfl, hJx⟩)⟩
    · have hK8 : W8.heap[Dk]? = some (.deferred (some [])) := hk8.obj hK0.out (.inr SD.out)
      have S8 : ∀ k, U (fun k => k = Dk) k → N ≤ k ∧ k < W8.heap.size := fun k h => by have := S9.out k h; have := hk8.size; omega
      have J8 := hid hJ8
      have HS8 := hid S8
      have HK8 := hid hK8
      clear hk8 hJ8 hy S8 hK8 o4 y0 n0 n1 n2
      gi_wp2_with fail
      refine ⟨by simp, .inl ⟨_, _, rfl, run_takeDeferred HK8.out, ?_⟩⟩
      exact ⟨_, results_none rfl _ _ _, ⟨_, rfl⟩, .inl (HJ.out _ _ none' W8 _ J8.out HS8.out (Kept.putObj W8 (fun h => h SD.out) _) (fun k h => h.elim))⟩
    · have hK8 : W8.heap[Dk]? = some (.deferred (some [])) := hk8.obj hK0.out (.inr SD.out)
      have S8 : ∀ k, U (fun k => k = Dk) k → N ≤ k ∧ k < W8.heap.size := fun k h => by have := S9.out k h; have := hk8.size; omega
      have J8 := hid hJx
      have HS8 := hid S8
      have HK8 := hid hK8
      clear hk8 hJx hy S8 hK8 o4 y0 n0 n1 n2
      gi_wp2_with fail
      refine ⟨by simp, .inl ⟨_, _, rfl, run_takeDeferred HK8.out, ?_⟩⟩
      exact ⟨_, results_none rfl _ _ _, ⟨_, rfl⟩, .inr ⟨_, List.prefix_rfl, HX.out _ _ none' W8 _ J8.out HS8.out (Kept.putObj W8 (fun h => h SD.out) _) (fun k h => h.elim)⟩⟩
  case stop =>
    rintro Dk c pre W9 hDk hpre ⟨rfl, h49, q, hq, hXq⟩ hK
    have hDl := at_lt hK
    have s9 := U4.out (fun k => k = Dk) W9 (fun k h => by omega) h49
    have SD : Hid (U (fun k => k = Dk) Dk) := hid (U2.out _ _ (.inl rfl))
    have hK0 := hid hK
    have HXq := hid hXq
    have S9 := hid s9
    clear hK hXq s9 hseq HOf
    subst hTm hD
    gi_wp2_with fail
    refine ⟨by simp, .inl ⟨_, _, rfl, run_takeDeferred hK0.out, ?_⟩⟩
    exact ⟨_, results_none rfl _ _ _, ⟨_, rfl⟩, .inr ⟨q, hq, HX.out _ _ none' W9 _ HXq.out S9.out (Kept.putObj W9 (fun h => h SD.out) _) (fun k h => h.elim)⟩⟩
end Go.Proofs.YteodfondjogmoaaGreatDoor
