/- word's scanner: fits where a joint or a dot waits; fits at any state. Conditions: those of the theorems. -/
import Derived.Test.YteodfondjogmoaaGreatDoorJa
namespace Go.Proofs.YteodfondjogmoaaGreatDoor
open Go Go.RowKit Go.Lib
set_option linter.unusedVariables false
set_option linter.unusedSimpArgs false
theorem fits_1j (sc : Sc) (u : Un) (hs : sc.st = 1) (hk1 : ¬ u.k = 1) (hj : jointU u = true) : Fits sc u := by
  intro w b hB
  have hb := hB.lt
  obtain ⟨st, kd, f, t, h⟩ := sc
  obtain ⟨hk, hr, hf, ht, hal⟩ := h
  obtain ⟨k, r, uf, ut, al⟩ := u
  dsimp only at hs
  subst hs
  dsimp only at hk1
  have e1 := beq_f hk1
  have hC := hid (fun w => joint82 ⟨k, r, uf, ut, al⟩ w)
  rw [hj] at hC
  have hv : Hid (fitsU ⟨1, kd, f, t, ⟨hk, hr, hf, ht, hal⟩⟩ ⟨k, r, uf, ut, al⟩ = (⟨2, kd, f, t, ⟨k, r, uf, ut, al⟩⟩, 2)) := hid (by
    unfold fitsU; simp [*])
  rw [hv.out]
  clear hv
  have c0 := hB.cell (k := 0) rfl
  have c1 := hB.cell (k := 1) rfl
  have c2 := hB.cell (k := 2) rfl
  have c3 := hB.cell (k := 3) rfl
  have c4 := hB.cell (k := 4) rfl
  have c5 := hB.cell (k := 5) rfl
  have c6 := hB.cell (k := 6) rfl
  have c7 := hB.cell (k := 7) rfl
  have c8 := hB.cell (k := 8) rfl
  have z0 := hB.froz 0
  have z1 := hB.froz 1
  have z2 := hB.froz 2
  have z3 := hB.froz 3
  have z4 := hB.froz 4
  have z5 := hB.froz 5
  have z6 := hB.froz 6
  have z7 := hB.froz 7
  have z8 := hB.froz 8
  try dsimp only at c0 c1 c2 c3 c4 c5 c6 c7 c8
  have HB := hid hB
  clear hB
  go_enter Tryz.func164, Tryz.ntmps164
  go_wp2_with fail
  go_at_call 193
  with_reducible refine Calls.mono (hC.out _) ?_
  rintro e W9 ⟨rfl, hb9⟩
  have K9 := hid ((HB.out.alloc (.cells #[.int .i64 k, .int .i32 r, .int .i64 uf, .int .i64 ut, .bool al] 254)).low hb9)
  have X9 := hid ((Blk.new w 254 #[.int .i64 k, .int .i32 r, .int .i64 uf, .int .i64 ut, .bool al]).low hb9)
  have T9 := hid ((Kept.alloc (fun k => k ≠ b) w (.cells #[.int .i64 k, .int .i32 r, .int .i64 uf, .int .i64 ut, .bool al] 254)).trans (Kept.of_all hb9 _))
  have hne : b < w.heap.size := hb
  clear c0 c1 c2 c3 c4 c5 c6 c7 c8 z0 z1 z2 z3 z4 z5 z6 z7 z8 hb9
  have x0 := X9.out.cell (k := 0) rfl
  have x1 := X9.out.cell (k := 1) rfl
  have x2 := X9.out.cell (k := 2) rfl
  have x3 := X9.out.cell (k := 3) rfl
  have x4 := X9.out.cell (k := 4) rfl
  have c0 := K9.out.cell (k := 0) rfl
  have c4 := K9.out.cell (k := 4) rfl
  have c5 := K9.out.cell (k := 5) rfl
  have c6 := K9.out.cell (k := 6) rfl
  have c7 := K9.out.cell (k := 7) rfl
  have c8 := K9.out.cell (k := 8) rfl
  have z0 := K9.out.froz 0
  have z4 := K9.out.froz 4
  have z5 := K9.out.froz 5
  have z6 := K9.out.froz 6
  have z7 := K9.out.froz 7
  have z8 := K9.out.froz 8
  go_wp2_with fail
  go_region
  all_goals
    go_wp2_with fail
    go_ret
    exact ⟨rfl, ((((((K9.out.upd _ _ rfl).upd _ _ rfl).upd _ _ rfl).upd _ _ rfl).upd _ _ rfl).upd _ _ rfl).drew, ((((((T9.out.trans (Kept.setCell _ (fun h => h rfl) _)).trans (Kept.setCell _ (fun h => h rfl) _)).trans (Kept.setCell _ (fun h => h rfl) _)).trans (Kept.setCell _ (fun h => h rfl) _)).trans (Kept.setCell _ (fun h => h rfl) _)).trans (Kept.setCell _ (fun h => h rfl) _)).trans (Kept.drew _ _)⟩
theorem fits_3j (sc : Sc) (u : Un) (hs : sc.st = 3) (hk1 : ¬ u.k = 3) (hj : dotU u = true) : Fits sc u := by
  intro w b hB
  have hb := hB.lt
  obtain ⟨st, kd, f, t, h⟩ := sc
  obtain ⟨hk, hr, hf, ht, hal⟩ := h
  obtain ⟨k, r, uf, ut, al⟩ := u
  dsimp only at hs
  subst hs
  dsimp only at hk1
  have e1 := beq_f hk1
  have hC := hid (fun w => dot83 ⟨k, r, uf, ut, al⟩ w)
  rw [hj] at hC
  have hv : Hid (fitsU ⟨3, kd, f, t, ⟨hk, hr, hf, ht, hal⟩⟩ ⟨k, r, uf, ut, al⟩ = (⟨4, kd, f, t, ⟨k, r, uf, ut, al⟩⟩, 2)) := hid (by
    unfold fitsU; simp [*])
  rw [hv.out]
  clear hv
  have c0 := hB.cell (k := 0) rfl
  have c1 := hB.cell (k := 1) rfl
  have c2 := hB.cell (k := 2) rfl
  have c3 := hB.cell (k := 3) rfl
  have c4 := hB.cell (k := 4) rfl
  have c5 := hB.cell (k := 5) rfl
  have c6 := hB.cell (k := 6) rfl
  have c7 := hB.cell (k := 7) rfl
  have c8 := hB.cell (k := 8) rfl
  have z0 := hB.froz 0
  have z1 := hB.froz 1
  have z2 := hB.froz 2
  have z3 := hB.froz 3
  have z4 := hB.froz 4
  have z5 := hB.froz 5
  have z6 := hB.froz 6
  have z7 := hB.froz 7
  have z8 := hB.froz 8
  try dsimp only at c0 c1 c2 c3 c4 c5 c6 c7 c8
  have HB := hid hB
  clear hB
  go_enter Tryz.func164, Tryz.ntmps164
  go_wp2_with fail
  go_at_call 194
  with_reducible refine Calls.mono (hC.out _) ?_
  rintro e W9 ⟨rfl, hb9⟩
  have K9 := hid ((HB.out.alloc (.cells #[.int .i64 k, .int .i32 r, .int .i64 uf, .int .i64 ut, .bool al] 254)).low hb9)
  have X9 := hid ((Blk.new w 254 #[.int .i64 k, .int .i32 r, .int .i64 uf, .int .i64 ut, .bool al]).low hb9)
  have T9 := hid ((Kept.alloc (fun k => k ≠ b) w (.cells #[.int .i64 k, .int .i32 r, .int .i64 uf, .int .i64 ut, .bool al] 254)).trans (Kept.of_all hb9 _))
  have hne : b < w.heap.size := hb
  clear c0 c1 c2 c3 c4 c5 c6 c7 c8 z0 z1 z2 z3 z4 z5 z6 z7 z8 hb9
  have x0 := X9.out.cell (k := 0) rfl
  have x1 := X9.out.cell (k := 1) rfl
  have x2 := X9.out.cell (k := 2) rfl
  have x3 := X9.out.cell (k := 3) rfl
  have x4 := X9.out.cell (k := 4) rfl
  have c0 := K9.out.cell (k := 0) rfl
  have c4 := K9.out.cell (k := 4) rfl
  have c5 := K9.out.cell (k := 5) rfl
  have c6 := K9.out.cell (k := 6) rfl
  have c7 := K9.out.cell (k := 7) rfl
  have c8 := K9.out.cell (k := 8) rfl
  have z0 := K9.out.froz 0
  have z4 := K9.out.froz 4
  have z5 := K9.out.froz 5
  have z6 := K9.out.froz 6
  have z7 := K9.out.froz 7
  have z8 := K9.out.froz 8
  go_wp2_with fail
  go_region
  all_goals
    go_wp2_with fail
    go_ret
    exact ⟨rfl, ((((((K9.out.upd _ _ rfl).upd _ _ rfl).upd _ _ rfl).upd _ _ rfl).upd _ _ rfl).upd _ _ rfl).drew, ((((((T9.out.trans (Kept.setCell _ (fun h => h rfl) _)).trans (Kept.setCell _ (fun h => h rfl) _)).trans (Kept.setCell _ (fun h => h rfl) _)).trans (Kept.setCell _ (fun h => h rfl) _)).trans (Kept.setCell _ (fun h => h rfl) _)).trans (Kept.setCell _ (fun h => h rfl) _)).trans (Kept.drew _ _)⟩
theorem fits65 (sc : Sc) (u : Un) : Fits sc u := by
  by_cases h1 : sc.st = 1
  · by_cases hk : u.k = 1
    · exact fits_1k sc u h1 hk
    · cases hj : jointU u with
      | true => exact fits_1j sc u h1 hk hj
      | false => exact fits_1n sc u h1 hk hj
  by_cases h2 : sc.st = 2
  · by_cases hk : u.k = 1
    · exact fits_2k sc u h2 hk
    · exact fits_2n sc u h2 hk
  by_cases h3 : sc.st = 3
  · by_cases hk : u.k = 3
    · exact fits_3k sc u h3 hk
    · cases hj : dotU u with
      | true => exact fits_3j sc u h3 hk hj
      | false => exact fits_3n sc u h3 hk hj
  by_cases h4 : sc.st = 4
  · by_cases hk : u.k = 3
    · exact fits_4k sc u h4 hk
    · exact fits_4n sc u h4 hk
  by_cases h5 : sc.st = 5
  · by_cases hk : u.k = 5
    · exact fits_5k sc u h5 hk
    · exact fits_5n sc u h5 hk
  by_cases h6 : sc.st = 6
  · by_cases hk : u.k = 11
    · exact fits_6k sc u h6 hk
    · exact fits_6n sc u h6 hk
  by_cases h8 : sc.st = 8
  · by_cases hk : u.k = 4
    · by_cases hr : u.r = 10
      · exact fits_8k sc u h8 hk hr
      · exact fits_8r sc u h8 hk hr
    · exact fits_8n sc u h8 hk
  exact fits_no sc u h1 h2 h3 h4 h5 h6 h8
end Go.Proofs.YteodfondjogmoaaGreatDoor
