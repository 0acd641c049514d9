/- The calls of CountKnown on constants: what each answers. Conditions: none. -/
import Derived.Test.YthidjbobjjoekaaGreatKnC
import Derived.Test.YthidjbobjjoekaaGreatCoM
import Derived.Test.YthidjbobjjoekaaGreatTaP
namespace Go.Proofs.YthidjbobjjoekaaGreat
open Go.RowKit Go.Lib Go.Sort Go.Shelf
set_option linter.unusedVariables false
set_option linter.unusedSimpArgs false
theorem draw_below {w w' : World} {q : Nat} (h : w' = w.drewN q) : Below w.heap.size w w' := by rw [h]; exact ⟨rfl, rfl, rfl, Nat.le_refl _, fun _ _ => rfl⟩
theorem up1 {W W' : World} {o : Obj} (hb : Below (W.alloc o).heap.size (W.alloc o) W') : Below W.heap.size W W' := ((Below.refl _ _).alloc (Nat.le_refl _) o).trans (hb.mono (by simp))
theorem up2 {W W' : World} {o o' : Obj} (hb : Below ((W.alloc o).alloc o').heap.size ((W.alloc o).alloc o') W') : Below W.heap.size W W' := up1 (up1 hb)
theorem mean_nil (W : World) : Calls Tryz.prog 12 #[.slice none 0 0] W fun e w' => ∃ r, e = .returned (.float .f64 r) ∧ cl r = cl nanV ∧ Below W.heap.size W w' :=
  (mean24 W none 0 [] (floats_none W) (by decide)).mono fun e w' ⟨m, q, h1, h2, h3⟩ => ⟨m, h1, by rw [h2, cl_nanV]; rfl, draw_below h3⟩
theorem spr_nil (W : World) : Calls Tryz.prog 13 #[.slice none 0 0] W fun e w' => ∃ r, e = .returned (.float .f64 r) ∧ cl r = cl nanV ∧ Below W.heap.size W w' :=
  (spread25 W none 0 [] (floats_none W) (by decide)).mono fun e w' ⟨m, q, h1, h2, h3⟩ => ⟨m, h1, by rw [h2, cl_nanV]; rfl, draw_below h3⟩
theorem mean_neg (W : World) : Calls Tryz.prog 12 #[.slice (some ⟨W.heap.size, 0, none⟩) 1 1] (W.alloc (.cells #[.float .f64 9223372036854775808] 23)) fun e w' => ∃ r, e = .returned (.float .f64 r) ∧ cl r = cl 0 ∧ Below W.heap.size W w' :=
  (mean24 _ _ 1 [9223372036854775808] (floats_new W [9223372036854775808] (by decide)) (by decide)).mono fun e w' ⟨m, q, h1, h2, h3⟩ => ⟨m, h1, by rw [h2, v_mean], up1 (draw_below h3)⟩
theorem spr_two (W : World) : Calls Tryz.prog 13 #[.slice (some ⟨W.heap.size, 0, none⟩) 2 2] (W.alloc (.cells #[.float .f64 4607182418800017408, .float .f64 4613937818241073152] 23)) fun e w' => ∃ r, e = .returned (.float .f64 r) ∧ cl r = cl 4607182418800017408 ∧ Below W.heap.size W w' :=
  (spread25 _ _ 2 [4607182418800017408, 4613937818241073152] (floats_new W [4607182418800017408, 4613937818241073152] (by decide)) (by decide)).mono fun e w' ⟨m, q, h1, h2, h3⟩ => ⟨m, h1, by rw [h2, v_spr2], up1 (draw_below h3)⟩
theorem spr_one (W : World) : Calls Tryz.prog 13 #[.slice (some ⟨W.heap.size, 0, none⟩) 1 1] (W.alloc (.cells #[.float .f64 4617315517961601024] 23)) fun e w' => ∃ r, e = .returned (.float .f64 r) ∧ cl r = cl 0 ∧ Below W.heap.size W w' :=
  (spread25 _ _ 1 [4617315517961601024] (floats_new W [4617315517961601024] (by decide)) (by decide)).mono fun e w' ⟨m, q, h1, h2, h3⟩ => ⟨m, h1, by rw [h2, v_spr1], up1 (draw_below h3)⟩
/-- the first of two new slices -/
theorem floats_old {w : World} {p : Option Addr} {xs : List Nat} (h : FloatsIn w p xs) (o : Obj) : FloatsIn (w.alloc o) p xs := h.low (Nat.le_refl _) ((Below.refl _ _).alloc (Nat.le_refl _) o)
theorem slope_two {n : Nat} {xs ys : List Nat} (hx : ∀ x ∈ xs, x < 18446744073709551616) (hy : ∀ x ∈ ys, x < 18446744073709551616) (h1 : xs.length < 9007199254740992) (h2 : ys.length < 9007199254740992) {c : Option Nat} {k : Int} (hv : slV xs ys = (c, k)) (W : World) :
    Calls Tryz.prog 16 #[.slice (some ⟨W.heap.size, 0, none⟩) xs.length xs.length, .slice (some ⟨W.heap.size + 1, 0, none⟩) ys.length ys.length] ((W.alloc (.cells (xs.map encF).toArray 23)).alloc (.cells (ys.map encF).toArray 23)) fun e w' => ∃ m, e = .returned (.tuple #[.float .f64 m, .int .i64 k]) ∧ cl m = c ∧ Below W.heap.size W w' := by
  have hB := floats_new (W.alloc (.cells (xs.map encF).toArray 23)) ys hy
  rw [World.size_alloc] at hB
  refine (slope31 _ _ _ xs.length ys.length xs ys (floats_old (floats_new W xs hx) _) hB h1 h2).mono ?_
  rintro e w' ⟨m, q, h1, h2, h3⟩
  rw [hv] at h1 h2
  exact ⟨m, h1, h2, up2 (draw_below h3)⟩
theorem slope_1 (W : World) : Calls Tryz.prog 16 #[.slice (some ⟨W.heap.size, 0, none⟩) 3 3, .slice (some ⟨W.heap.size + 1, 0, none⟩) 3 3] ((W.alloc (.cells #[.float .f64 0, .float .f64 4607182418800017408, .float .f64 4611686018427387904] 23)).alloc (.cells #[.float .f64 4607182418800017408, .float .f64 4613937818241073152, .float .f64 4617315517961601024] 23)) fun e w' => ∃ m, e = .returned (.tuple #[.float .f64 m, .int .i64 0]) ∧ cl m = cl 4611686018427387904 ∧ Below W.heap.size W w' :=
  slope_two (n := 0) (xs := [0, 4607182418800017408, 4611686018427387904]) (ys := [4607182418800017408, 4613937818241073152, 4617315517961601024]) (by decide) (by decide) (by decide) (by decide) v_sl1 W
theorem slope_2 (W : World) : Calls Tryz.prog 16 #[.slice (some ⟨W.heap.size, 0, none⟩) 2 2, .slice (some ⟨W.heap.size + 1, 0, none⟩) 2 2] ((W.alloc (.cells #[.float .f64 4607182418800017408, .float .f64 4607182418800017408] 23)).alloc (.cells #[.float .f64 0, .float .f64 4607182418800017408] 23)) fun e w' => ∃ m, e = .returned (.tuple #[.float .f64 m, .int .i64 0]) ∧ cl m = none ∧ Below W.heap.size W w' :=
  slope_two (n := 0) (xs := [4607182418800017408, 4607182418800017408]) (ys := [0, 4607182418800017408]) (by decide) (by decide) (by decide) (by decide) v_sl2 W
theorem slope_3 (W : World) : Calls Tryz.prog 16 #[.slice (some ⟨W.heap.size, 0, none⟩) 1 1, .slice (some ⟨W.heap.size + 1, 0, none⟩) 1 1] ((W.alloc (.cells #[.float .f64 4607182418800017408] 23)).alloc (.cells #[.float .f64 4607182418800017408] 23)) fun e w' => ∃ m, e = .returned (.tuple #[.float .f64 m, .int .i64 4]) ∧ cl m = some 0 ∧ Below W.heap.size W w' :=
  slope_two (n := 0) (xs := [4607182418800017408]) (ys := [4607182418800017408]) (by decide) (by decide) (by decide) (by decide) v_sl3 W
theorem slope_4 (W : World) : Calls Tryz.prog 16 #[.slice (some ⟨W.heap.size, 0, none⟩) 1 1, .slice none 0 0] (W.alloc (.cells #[.float .f64 4607182418800017408] 23)) fun e w' => ∃ m, e = .returned (.tuple #[.float .f64 m, .int .i64 2]) ∧ cl m = some 0 ∧ Below W.heap.size W w' := by
  refine (slope31 _ _ _ 1 0 [4607182418800017408] [] (floats_new W [4607182418800017408] (by decide)) (floats_none _) (by decide) (by decide)).mono ?_
  rintro e w' ⟨m, q, h1, h2, h3⟩
  rw [v_sl4] at h1 h2
  exact ⟨m, h1, h2, up1 (draw_below h3)⟩
/-- whole numbers in a block of memory -/
structure IntsAt (w : World) (g : Nat) (ns : List Int) : Prop where
  lt : g < w.heap.size
  at_ : ∀ k x, ns[k]? = some x → w.cell? ⟨g, k, none⟩ = some (.int .i64 x)
theorem IntsAt.low {w w' : World} {g : Nat} {ns : List Int} (h : IntsAt w g ns) (hb : Below w.heap.size w w') : IntsAt w' g ns :=
  ⟨Nat.lt_of_lt_of_le h.lt hb.size, fun k x hx => (World.cell?_of_block (a := ⟨g, k, none⟩) (hb.block g h.lt)).trans (h.at_ k x hx)⟩
theorem IntsAt.ints {w : World} {g : Nat} {ns : List Int} (h : IntsAt w g ns) : IntsIn w (some ⟨g, 0, none⟩) ns := fun k x hx => ⟨g, 0, rfl, by rw [Nat.zero_add]; exact h.at_ k x hx⟩
theorem ints_new (w : World) (ns : List Int) : IntsIn (w.alloc (.cells (ns.map (Value.int .i64)).toArray 3)) (some ⟨w.heap.size, 0, none⟩) ns := fun k x hk => by
  refine ⟨w.heap.size, 0, rfl, ?_⟩
  have := (Blk.new w 3 (ns.map (Value.int .i64)).toArray).cell (k := k) (v := .int .i64 x) (by simp [hk])
  rw [Nat.zero_add]; exact this
theorem eq_new {W : World} {g : Nat} {ns : List Int} (h : IntsAt W g ns) (hl : ns.length < 9007199254740992) : Calls Tryz.prog 17 #[.slice (some ⟨g, 0, none⟩) ns.length ns.length, .slice (some ⟨W.heap.size, 0, none⟩) ns.length ns.length] (W.alloc (.cells (ns.map (Value.int .i64)).toArray 3)) fun e w' => e = .returned (.bool true) ∧ Below W.heap.size W w' := by
  refine (equal_ints _ _ _ ns.length ns.length ns (h.low ((Below.refl _ _).alloc (Nat.le_refl _) _)).ints (ints_new W ns) hl).mono ?_
  rintro e w' ⟨he, q, hq⟩
  exact ⟨he, up1 (draw_below hq)⟩
set_option maxRecDepth 100000 in
theorem eq_4 {W : World} {g : Nat} (h : IntsAt W g [1, 2, 1, 1]) : Calls Tryz.prog 17 #[.slice (some ⟨g, 0, none⟩) 4 4, .slice (some ⟨W.heap.size, 0, none⟩) 4 4] (W.alloc (.cells #[.int .i64 1, .int .i64 2, .int .i64 1, .int .i64 1] 3)) fun e w' => e = .returned (.bool true) ∧ Below W.heap.size W w' := eq_new (ns := [1, 2, 1, 1]) h (by decide)
set_option maxRecDepth 100000 in
theorem eq_2 {W : World} {g : Nat} (h : IntsAt W g [4, 1]) : Calls Tryz.prog 17 #[.slice (some ⟨g, 0, none⟩) 2 2, .slice (some ⟨W.heap.size, 0, none⟩) 2 2] (W.alloc (.cells #[.int .i64 4, .int .i64 1] 3)) fun e w' => e = .returned (.bool true) ∧ Below W.heap.size W w' := eq_new (ns := [4, 1]) h (by decide)
theorem own_ints {w : World} {b g n : Nat} {ns : List Int} (h : w.ownsRow b 3 1 (.slice (some ⟨g, 0, none⟩) n n) n (ns.map (Value.int .i64))) : IntsAt w g ns := by
  refine ⟨(h.lt g rfl).2, fun k x hx => ?_⟩
  have := h.cells (g := g) rfl k (.int .i64 x) (by rw [List.getElem?_map, hx]; rfl)
  have e : (⟨g, 0, none⟩ : Addr).add k = ⟨g, k, none⟩ := by unfold Addr.add; split <;> simp_all
  rw [← e]; exact this
theorem ok_two : okE [4611686018427387904, 4616189618054758400] := fun j x hx => by
  match j, hx with
  | 0, hx => cases hx; exact ⟨by decide +kernel, fun i y h => by cases h⟩
  | 1, hx => cases hx; exact ⟨by decide +kernel, fun i y h hy => by cases h; cases hy; decide +kernel⟩
theorem ok_none : okE [] := fun j x hx => by simp at hx
theorem not_ok : ¬ okE [4611686018427387904, 4611686018427387904] := fun h => by
  have := (h 1 4611686018427387904 rfl).2 0 4611686018427387904 rfl rfl
  exact absurd this (by decide +kernel)
abbrev five : List Nat := [4607182418800017408, 4611686018427387904, 4611686018427387904, nanV, 4617315517961601024]
theorem five_lt : ∀ x ∈ five, x < 18446744073709551616 := by unfold five nanV; decide
theorem bins_1 (W : World) : Calls Tryz.prog 15 #[.slice (some ⟨W.heap.size, 0, none⟩) 5 5, .slice (some ⟨W.heap.size + 1, 0, none⟩) 2 2] ((W.alloc (.cells #[.float .f64 4607182418800017408, .float .f64 4611686018427387904, .float .f64 4611686018427387904, .float .f64 nanV, .float .f64 4617315517961601024] 23)).alloc (.cells #[.float .f64 4611686018427387904, .float .f64 4616189618054758400] 23)) fun e w' => ∃ g, e = .returned (.tuple #[.slice (some ⟨g, 0, none⟩) 4 4, .int .i64 0]) ∧ IntsAt w' g [1, 2, 1, 1] ∧ Below W.heap.size W w' := by
  have hB := floats_new (W.alloc (.cells (five.map encF).toArray 23)) [4611686018427387904, 4616189618054758400] (by decide)
  rw [World.size_alloc] at hB
  refine (bins29 _ _ _ 5 2 five [4611686018427387904, 4616189618054758400] (floats_old (floats_new W five five_lt) _) hB (by decide) (by decide)).mono ?_
  rintro e w' ⟨hb, ⟨h, _⟩ | ⟨_, g, he, ho⟩⟩
  · exact absurd ok_two h
  · rw [v_bins1] at ho
    exact ⟨g, he, own_ints ho, up2 hb⟩
theorem bins_2 (W : World) : Calls Tryz.prog 15 #[.slice (some ⟨W.heap.size, 0, none⟩) 5 5, .slice none 0 0] (W.alloc (.cells #[.float .f64 4607182418800017408, .float .f64 4611686018427387904, .float .f64 4611686018427387904, .float .f64 nanV, .float .f64 4617315517961601024] 23)) fun e w' => ∃ g, e = .returned (.tuple #[.slice (some ⟨g, 0, none⟩) 2 2, .int .i64 0]) ∧ IntsAt w' g [4, 1] ∧ Below W.heap.size W w' := by
  refine (bins29 _ _ _ 5 0 five [] (floats_new W five five_lt) (floats_none _) (by decide) (by decide)).mono ?_
  rintro e w' ⟨hb, ⟨h, _⟩ | ⟨_, g, he, ho⟩⟩
  · exact absurd ok_none h
  · rw [v_bins2] at ho
    exact ⟨g, he, own_ints ho, up1 hb⟩
theorem bins_3 (W : World) : Calls Tryz.prog 15 #[.slice none 0 0, .slice (some ⟨W.heap.size, 0, none⟩) 2 2] (W.alloc (.cells #[.float .f64 4611686018427387904, .float .f64 4611686018427387904] 23)) fun e w' => e = .returned (.tuple #[.slice none 0 0, .int .i64 2]) ∧ Below W.heap.size W w' := by
  refine (bins29 _ _ _ 0 2 [] [4611686018427387904, 4611686018427387904] (floats_none _) (floats_new W [4611686018427387904, 4611686018427387904] (by decide)) (by decide) (by decide)).mono ?_
  rintro e w' ⟨hb, ⟨_, he⟩ | ⟨h, _⟩⟩
  · exact ⟨he, up1 hb⟩
  · exact absurd h not_ok
theorem q_0 (W : World) : Calls Tryz.prog 14 #[.slice (some ⟨W.heap.size, 0, none⟩) 3 3, .float .f64 0] (W.alloc (.cells #[.float .f64 4616189618054758400, .float .f64 4607182418800017408, .float .f64 4613937818241073152] 23)) fun e w' => Below W.heap.size W w' ∧ ∃ v, e = .returned (.tuple #[.float .f64 v, .int .i64 0]) ∧ cl v = cl 4607182418800017408 := quant_at 0 0 0 4607182418800017408 (by unfold InQ ford; decide +kernel) (by decide +kernel) (by decide +kernel) (by decide +kernel) (by decide +kernel) (by decide +kernel) (by decide +kernel) (by decide +kernel) (by decide +kernel) (by decide +kernel) (by decide +kernel) (by decide +kernel) (by decide +kernel) W
theorem q_1 (W : World) : Calls Tryz.prog 14 #[.slice (some ⟨W.heap.size, 0, none⟩) 3 3, .float .f64 4598175219545276416] (W.alloc (.cells #[.float .f64 4616189618054758400, .float .f64 4607182418800017408, .float .f64 4613937818241073152] 23)) fun e w' => Below W.heap.size W w' ∧ ∃ v, e = .returned (.tuple #[.float .f64 v, .int .i64 0]) ∧ cl v = cl 4611686018427387904 := quant_at 4598175219545276416 4602678819172646912 4602678819172646912 4611686018427387904 (by unfold InQ ford; decide +kernel) (by decide +kernel) (by decide +kernel) (by decide +kernel) (by decide +kernel) (by decide +kernel) (by decide +kernel) (by decide +kernel) (by decide +kernel) (by decide +kernel) (by decide +kernel) (by decide +kernel) (by decide +kernel) W
theorem q_2 (W : World) : Calls Tryz.prog 14 #[.slice (some ⟨W.heap.size, 0, none⟩) 3 3, .float .f64 4602678819172646912] (W.alloc (.cells #[.float .f64 4616189618054758400, .float .f64 4607182418800017408, .float .f64 4613937818241073152] 23)) fun e w' => Below W.heap.size W w' ∧ ∃ v, e = .returned (.tuple #[.float .f64 v, .int .i64 0]) ∧ cl v = cl 4613937818241073152 := quant_at 4602678819172646912 4607182418800017408 0 4613937818241073152 (by unfold InQ ford; decide +kernel) (by decide +kernel) (by decide +kernel) (by decide +kernel) (by decide +kernel) (by decide +kernel) (by decide +kernel) (by decide +kernel) (by decide +kernel) (by decide +kernel) (by decide +kernel) (by decide +kernel) (by decide +kernel) W
theorem q_3 (W : World) : Calls Tryz.prog 14 #[.slice (some ⟨W.heap.size, 0, none⟩) 3 3, .float .f64 4607182418800017408] (W.alloc (.cells #[.float .f64 4616189618054758400, .float .f64 4607182418800017408, .float .f64 4613937818241073152] 23)) fun e w' => Below W.heap.size W w' ∧ ∃ v, e = .returned (.tuple #[.float .f64 v, .int .i64 0]) ∧ cl v = cl 4616189618054758400 := quant_at 4607182418800017408 4611686018427387904 0 4616189618054758400 (by unfold InQ ford; decide +kernel) (by decide +kernel) (by decide +kernel) (by decide +kernel) (by decide +kernel) (by decide +kernel) (by decide +kernel) (by decide +kernel) (by decide +kernel) (by decide +kernel) (by decide +kernel) (by decide +kernel) (by decide +kernel) W
theorem q_out (W : World) (s : Value) : Calls Tryz.prog 14 #[s, .float .f64 4609434218613702656] W fun e w' => e = .returned (.tuple #[.float .f64 0, .int .i64 2]) ∧ W = w' := quant_out W s _ (by unfold InQ ford; decide +kernel)
theorem q_nan (W : World) (s : Value) : Calls Tryz.prog 14 #[s, .float .f64 nanV] W fun e w' => e = .returned (.tuple #[.float .f64 0, .int .i64 2]) ∧ W = w' := quant_out W s _ (by unfold InQ ford; decide +kernel)
theorem q_none (W : World) : Calls Tryz.prog 14 #[.slice none 0 0, .float .f64 0] W fun e w' => e = .returned (.tuple #[.float .f64 0, .int .i64 4]) ∧ W = w' := quant_none W none 0 0 (by unfold InQ ford; decide +kernel)
/-- the eleven numbers, and their logarithms -/
def P11 : List (Nat × Nat) := [(4620693217682128896, 4613937818241073152), (4607182418800017408, 0), (4593671619917905920, 13837309855095848960), (0, 18442240474082181120), (9223372036854775808, 18442240474082181120), (13830554455654793216, nanV), (9218868437227405312, 9218868437227405312), (1, 13875810354254053376), (4613937818241073152, 4609816855700290920), (nanV, nanV), (18442240474082181120, nanV)]
def A11 : Array Value := #[.float .f64 4620693217682128896, .float .f64 4613937818241073152, .float .f64 4607182418800017408, .float .f64 0, .float .f64 4593671619917905920, .float .f64 13837309855095848960, .float .f64 0, .float .f64 18442240474082181120, .float .f64 9223372036854775808, .float .f64 18442240474082181120, .float .f64 13830554455654793216, .float .f64 nanV, .float .f64 9218868437227405312, .float .f64 9218868437227405312, .float .f64 1, .float .f64 13875810354254053376, .float .f64 4613937818241073152, .float .f64 4609816855700290920, .float .f64 nanV, .float .f64 nanV, .float .f64 18442240474082181120, .float .f64 nanV]
theorem pair11 {k : Nat} (hk : k < 11) : ∃ x, P11[k]? = some x ∧ A11[k * 2]? = some (.float .f64 x.1) ∧ A11[k * 2 + 1]? = some (.float .f64 x.2) := by
  match k, hk with
  | 0, _ => exact ⟨_, rfl, rfl, rfl⟩
  | 1, _ => exact ⟨_, rfl, rfl, rfl⟩
  | 2, _ => exact ⟨_, rfl, rfl, rfl⟩
  | 3, _ => exact ⟨_, rfl, rfl, rfl⟩
  | 4, _ => exact ⟨_, rfl, rfl, rfl⟩
  | 5, _ => exact ⟨_, rfl, rfl, rfl⟩
  | 6, _ => exact ⟨_, rfl, rfl, rfl⟩
  | 7, _ => exact ⟨_, rfl, rfl, rfl⟩
  | 8, _ => exact ⟨_, rfl, rfl, rfl⟩
  | 9, _ => exact ⟨_, rfl, rfl, rfl⟩
  | 10, _ => exact ⟨_, rfl, rfl, rfl⟩
theorem logs11 : ∀ x ∈ P11, x.1 < 18446744073709551616 ∧ cl (log2V x.1) = cl x.2 := by decide +kernel
theorem order_at {a b : Nat} {r : Int} (h : ordV a b = r) (W : World) : Calls Tryz.prog 11 #[.float .f64 a, .float .f64 b] W fun e w' => e = .returned (.int .i64 r) ∧ W = w' := h ▸ order_any a b W
theorem o_1 : ordV nanV 4607182418800017408 = -1 := by decide +kernel
theorem o_2 : ordV 0 9223372036854775808 = 0 := by decide +kernel
theorem o_3 : ordV nanV nanV = 0 := by decide +kernel
theorem o_4 : ordV 4611686018427387904 18442240474082181120 = 1 := by decide +kernel
theorem o_5 : ordV 4607182418800017408 nanV = 1 := by decide +kernel
theorem Tal.other {w w' : World} {b m b' m' : Nat} {L : List Ent} (h : Tal w b m L) (k : But2 b' m' w w') (h1 : b ≠ b') (h2 : b ≠ m') (h3 : m ≠ b') (h4 : m ≠ m') : Tal w' b m L :=
  h.keep (k.block b h.blt h1 h2) (k.block m h.mlt h3 h4)
theorem w_13 : Words one three [kA, kB, kC] := ⟨by unfold ltS; decide, fun k => by simp [keysL, one, three]; exact ⟨fun h => by rcases h with h | h | h <;> simp [h], fun h => by rcases h with (h | h) | h <;> simp [h]⟩⟩
theorem w_33 : Words three three [kC] := ⟨by unfold ltS; decide, fun k => by simp [keysL, three]⟩
theorem w_10 : Words one [] [kA, kB] := ⟨by unfold ltS; decide, fun k => by simp [keysL, one]⟩
theorem v_cos3 : cosV one [] [kA, kB] = none := by unfold cosV; simp
end Go.Proofs.YthidjbobjjoekaaGreat
