/- word's scanner: begin. Conditions: those of the theorems. -/
import Derived.Test.YteodfondjogmoaaGreatDoorJa
import Derived.Deep.DeepCutAuto
namespace Go.Proofs.YteodfondjogmoaaGreatDoor
open Go Go.RowKit Go.Lib
set_option linter.unusedVariables false
set_option linter.unusedSimpArgs false
set_option maxHeartbeats 1000000 in
theorem beg_1 (sc : Sc) (u : Un) (h1 : u.k = 1) : Beg sc u := by
  intro w b hB
  have hb := hB.lt
  obtain ⟨st, kd, f, t, h⟩ := sc
  obtain ⟨hk, hr, hf, ht, hal⟩ := h
  obtain ⟨k, r, uf, ut, al⟩ := u
  dsimp only at h1
  have hv : Hid (beginU ⟨k, r, uf, ut, al⟩ ⟨hk, hr, hf, ht, hal⟩ = ⟨1, 1, uf, ut, ⟨hk, hr, hf, ht, hal⟩⟩) := hid (by
    subst h1; rfl)
  dsimp only
  rw [hv.out]
  clear hv
  have e0 := beq_t h1
  subst h1
  clear e0
  have c0 := hB.cell (k := 0) rfl
  have c1 := hB.cell (k := 1) rfl
  have c2 := hB.cell (k := 2) rfl
  have c3 := hB.cell (k := 3) rfl
  have c4 := hB.cell (k := 4) rfl
  have c5 := hB.cell (k := 5) rfl
  have c6 := hB.cell (k := 6) rfl
  have c7 := hB.cell (k := 7) rfl
  have c8 := hB.cell (k := 8) rfl
  have z0 := hB.froz 0
  have z1 := hB.froz 1
  have z2 := hB.froz 2
  have z3 := hB.froz 3
  have z4 := hB.froz 4
  have z5 := hB.froz 5
  have z6 := hB.froz 6
  have z7 := hB.froz 7
  have z8 := hB.froz 8
  try dsimp only at c0 c1 c2 c3 c4 c5 c6 c7 c8
  have HB := hid hB
  clear hB
  go_enter Tryz.func166, Tryz.ntmps166
  go_wp2_with fail
  go_end0
  refine ⟨⟨_, rfl⟩, ?_, ?_⟩
  · exact ((((((HB.out.upd _ _ rfl).upd _ _ rfl).upd _ _ rfl).upd _ _ rfl).upd _ _ rfl).upd _ _ rfl).alloc _
  · exact (((((((Kept.refl _ _).trans (Kept.setCell _ (fun h => h rfl) _)).trans (Kept.setCell _ (fun h => h rfl) _)).trans (Kept.setCell _ (fun h => h rfl) _)).trans (Kept.setCell _ (fun h => h rfl) _)).trans (Kept.setCell _ (fun h => h rfl) _)).trans (Kept.setCell _ (fun h => h rfl) _)).trans (Kept.alloc _ _ _)
set_option maxHeartbeats 1000000 in
theorem beg_3 (sc : Sc) (u : Un) (h1 : u.k = 3) : Beg sc u := by
  intro w b hB
  have hb := hB.lt
  obtain ⟨st, kd, f, t, h⟩ := sc
  obtain ⟨hk, hr, hf, ht, hal⟩ := h
  obtain ⟨k, r, uf, ut, al⟩ := u
  dsimp only at h1
  have hv : Hid (beginU ⟨k, r, uf, ut, al⟩ ⟨hk, hr, hf, ht, hal⟩ = ⟨3, 2, uf, ut, ⟨hk, hr, hf, ht, hal⟩⟩) := hid (by
    subst h1; rfl)
  dsimp only
  rw [hv.out]
  clear hv
  have e0 := beq_t h1
  subst h1
  clear e0
  have c0 := hB.cell (k := 0) rfl
  have c1 := hB.cell (k := 1) rfl
  have c2 := hB.cell (k := 2) rfl
  have c3 := hB.cell (k := 3) rfl
  have c4 := hB.cell (k := 4) rfl
  have c5 := hB.cell (k := 5) rfl
  have c6 := hB.cell (k := 6) rfl
  have c7 := hB.cell (k := 7) rfl
  have c8 := hB.cell (k := 8) rfl
  have z0 := hB.froz 0
  have z1 := hB.froz 1
  have z2 := hB.froz 2
  have z3 := hB.froz 3
  have z4 := hB.froz 4
  have z5 := hB.froz 5
  have z6 := hB.froz 6
  have z7 := hB.froz 7
  have z8 := hB.froz 8
  try dsimp only at c0 c1 c2 c3 c4 c5 c6 c7 c8
  have HB := hid hB
  clear hB
  go_enter Tryz.func166, Tryz.ntmps166
  go_wp2_with fail
  go_end0
  refine ⟨⟨_, rfl⟩, ?_, ?_⟩
  · exact ((((((HB.out.upd _ _ rfl).upd _ _ rfl).upd _ _ rfl).upd _ _ rfl).upd _ _ rfl).upd _ _ rfl).alloc _
  · exact (((((((Kept.refl _ _).trans (Kept.setCell _ (fun h => h rfl) _)).trans (Kept.setCell _ (fun h => h rfl) _)).trans (Kept.setCell _ (fun h => h rfl) _)).trans (Kept.setCell _ (fun h => h rfl) _)).trans (Kept.setCell _ (fun h => h rfl) _)).trans (Kept.setCell _ (fun h => h rfl) _)).trans (Kept.alloc _ _ _)
set_option maxHeartbeats 1000000 in
theorem beg_5 (sc : Sc) (u : Un) (h1 : u.k = 5) : Beg sc u := by
  intro w b hB
  have hb := hB.lt
  obtain ⟨st, kd, f, t, h⟩ := sc
  obtain ⟨hk, hr, hf, ht, hal⟩ := h
  obtain ⟨k, r, uf, ut, al⟩ := u
  dsimp only at h1
  have hv : Hid (beginU ⟨k, r, uf, ut, al⟩ ⟨hk, hr, hf, ht, hal⟩ = ⟨5, 3, uf, ut, ⟨hk, hr, hf, ht, hal⟩⟩) := hid (by
    subst h1; rfl)
  dsimp only
  rw [hv.out]
  clear hv
  have e0 := beq_t h1
  subst h1
  clear e0
  have c0 := hB.cell (k := 0) rfl
  have c1 := hB.cell (k := 1) rfl
  have c2 := hB.cell (k := 2) rfl
  have c3 := hB.cell (k := 3) rfl
  have c4 := hB.cell (k := 4) rfl
  have c5 := hB.cell (k := 5) rfl
  have c6 := hB.cell (k := 6) rfl
  have c7 := hB.cell (k := 7) rfl
  have c8 := hB.cell (k := 8) rfl
  have z0 := hB.froz 0
  have z1 := hB.froz 1
  have z2 := hB.froz 2
  have z3 := hB.froz 3
  have z4 := hB.froz 4
  have z5 := hB.froz 5
  have z6 := hB.froz 6
  have z7 := hB.froz 7
  have z8 := hB.froz 8
  try dsimp only at c0 c1 c2 c3 c4 c5 c6 c7 c8
  have HB := hid hB
  clear hB
  go_enter Tryz.func166, Tryz.ntmps166
  go_wp2_with fail
  go_end0
  refine ⟨⟨_, rfl⟩, ?_, ?_⟩
  · exact ((((((HB.out.upd _ _ rfl).upd _ _ rfl).upd _ _ rfl).upd _ _ rfl).upd _ _ rfl).upd _ _ rfl).alloc _
  · exact (((((((Kept.refl _ _).trans (Kept.setCell _ (fun h => h rfl) _)).trans (Kept.setCell _ (fun h => h rfl) _)).trans (Kept.setCell _ (fun h => h rfl) _)).trans (Kept.setCell _ (fun h => h rfl) _)).trans (Kept.setCell _ (fun h => h rfl) _)).trans (Kept.setCell _ (fun h => h rfl) _)).trans (Kept.alloc _ _ _)
set_option maxHeartbeats 1000000 in
theorem beg_11 (sc : Sc) (u : Un) (h1 : u.k = 11) : Beg sc u := by
  intro w b hB
  have hb := hB.lt
  obtain ⟨st, kd, f, t, h⟩ := sc
  obtain ⟨hk, hr, hf, ht, hal⟩ := h
  obtain ⟨k, r, uf, ut, al⟩ := u
  dsimp only at h1
  have hv : Hid (beginU ⟨k, r, uf, ut, al⟩ ⟨hk, hr, hf, ht, hal⟩ = ⟨6, 7, uf, ut, ⟨hk, hr, hf, ht, hal⟩⟩) := hid (by
    subst h1; rfl)
  dsimp only
  rw [hv.out]
  clear hv
  have e0 := beq_t h1
  subst h1
  clear e0
  have c0 := hB.cell (k := 0) rfl
  have c1 := hB.cell (k := 1) rfl
  have c2 := hB.cell (k := 2) rfl
  have c3 := hB.cell (k := 3) rfl
  have c4 := hB.cell (k := 4) rfl
  have c5 := hB.cell (k := 5) rfl
  have c6 := hB.cell (k := 6) rfl
  have c7 := hB.cell (k := 7) rfl
  have c8 := hB.cell (k := 8) rfl
  have z0 := hB.froz 0
  have z1 := hB.froz 1
  have z2 := hB.froz 2
  have z3 := hB.froz 3
  have z4 := hB.froz 4
  have z5 := hB.froz 5
  have z6 := hB.froz 6
  have z7 := hB.froz 7
  have z8 := hB.froz 8
  try dsimp only at c0 c1 c2 c3 c4 c5 c6 c7 c8
  have HB := hid hB
  clear hB
  go_enter Tryz.func166, Tryz.ntmps166
  go_wp2_with fail
  go_end0
  refine ⟨⟨_, rfl⟩, ?_, ?_⟩
  · exact ((((((HB.out.upd _ _ rfl).upd _ _ rfl).upd _ _ rfl).upd _ _ rfl).upd _ _ rfl).upd _ _ rfl).alloc _
  · exact (((((((Kept.refl _ _).trans (Kept.setCell _ (fun h => h rfl) _)).trans (Kept.setCell _ (fun h => h rfl) _)).trans (Kept.setCell _ (fun h => h rfl) _)).trans (Kept.setCell _ (fun h => h rfl) _)).trans (Kept.setCell _ (fun h => h rfl) _)).trans (Kept.setCell _ (fun h => h rfl) _)).trans (Kept.alloc _ _ _)
set_option maxHeartbeats 1000000 in
theorem beg_4n (sc : Sc) (u : Un) (h1 : u.k = 4) (h2 : ¬ u.r = 13) : Beg sc u := by
  intro w b hB
  have hb := hB.lt
  obtain ⟨st, kd, f, t, h⟩ := sc
  obtain ⟨hk, hr, hf, ht, hal⟩ := h
  obtain ⟨k, r, uf, ut, al⟩ := u
  dsimp only at h1
  dsimp only at h2
  have hv : Hid (beginU ⟨k, r, uf, ut, al⟩ ⟨hk, hr, hf, ht, hal⟩ = ⟨7, 4, uf, ut, ⟨hk, hr, hf, ht, hal⟩⟩) := hid (by
    unfold beginU; simp [*])
  dsimp only
  rw [hv.out]
  clear hv
  have e0 := beq_t h1
  have e1 := beq_f h2
  subst h1
  clear e0
  have c0 := hB.cell (k := 0) rfl
  have c1 := hB.cell (k := 1) rfl
  have c2 := hB.cell (k := 2) rfl
  have c3 := hB.cell (k := 3) rfl
  have c4 := hB.cell (k := 4) rfl
  have c5 := hB.cell (k := 5) rfl
  have c6 := hB.cell (k := 6) rfl
  have c7 := hB.cell (k := 7) rfl
  have c8 := hB.cell (k := 8) rfl
  have z0 := hB.froz 0
  have z1 := hB.froz 1
  have z2 := hB.froz 2
  have z3 := hB.froz 3
  have z4 := hB.froz 4
  have z5 := hB.froz 5
  have z6 := hB.froz 6
  have z7 := hB.froz 7
  have z8 := hB.froz 8
  try dsimp only at c0 c1 c2 c3 c4 c5 c6 c7 c8
  have HB := hid hB
  clear hB
  go_enter Tryz.func166, Tryz.ntmps166
  go_wp2_with fail
  go_end0
  refine ⟨⟨_, rfl⟩, ?_, ?_⟩
  · exact ((((((HB.out.upd _ _ rfl).upd _ _ rfl).upd _ _ rfl).upd _ _ rfl).upd _ _ rfl).upd _ _ rfl).alloc _
  · exact (((((((Kept.refl _ _).trans (Kept.setCell _ (fun h => h rfl) _)).trans (Kept.setCell _ (fun h => h rfl) _)).trans (Kept.setCell _ (fun h => h rfl) _)).trans (Kept.setCell _ (fun h => h rfl) _)).trans (Kept.setCell _ (fun h => h rfl) _)).trans (Kept.setCell _ (fun h => h rfl) _)).trans (Kept.alloc _ _ _)
set_option maxHeartbeats 1000000 in
theorem beg_4r (sc : Sc) (u : Un) (h1 : u.k = 4) (h2 : u.r = 13) : Beg sc u := by
  intro w b hB
  have hb := hB.lt
  obtain ⟨st, kd, f, t, h⟩ := sc
  obtain ⟨hk, hr, hf, ht, hal⟩ := h
  obtain ⟨k, r, uf, ut, al⟩ := u
  dsimp only at h1
  dsimp only at h2
  have hv : Hid (beginU ⟨k, r, uf, ut, al⟩ ⟨hk, hr, hf, ht, hal⟩ = ⟨8, 4, uf, ut, ⟨hk, hr, hf, ht, hal⟩⟩) := hid (by
    subst h1; subst h2; rfl)
  dsimp only
  rw [hv.out]
  clear hv
  have e0 := beq_t h1
  have e1 := beq_t h2
  subst h1
  clear e0
  clear h2
  have c0 := hB.cell (k := 0) rfl
  have c1 := hB.cell (k := 1) rfl
  have c2 := hB.cell (k := 2) rfl
  have c3 := hB.cell (k := 3) rfl
  have c4 := hB.cell (k := 4) rfl
  have c5 := hB.cell (k := 5) rfl
  have c6 := hB.cell (k := 6) rfl
  have c7 := hB.cell (k := 7) rfl
  have c8 := hB.cell (k := 8) rfl
  have z0 := hB.froz 0
  have z1 := hB.froz 1
  have z2 := hB.froz 2
  have z3 := hB.froz 3
  have z4 := hB.froz 4
  have z5 := hB.froz 5
  have z6 := hB.froz 6
  have z7 := hB.froz 7
  have z8 := hB.froz 8
  try dsimp only at c0 c1 c2 c3 c4 c5 c6 c7 c8
  have HB := hid hB
  clear hB
  go_enter Tryz.func166, Tryz.ntmps166
  have D1 : Blk (((((((w.setCell ⟨b, 1, none⟩ (.int .i64 6)).setCell ⟨b, 2, none⟩ (.int .i64 uf)).setCell ⟨b, 3, none⟩ (.int .i64 ut)).setCell ⟨b, 0, none⟩ (.int .i64 9)).setCell ⟨b, 1, none⟩ (.int .i64 4)).setCell ⟨b, 0, none⟩ (.int .i64 7)).alloc (.cells #[.int .i64 4, .int .i32 r, .int .i64 uf, .int .i64 ut, .bool al] 254)) b 256 #[.int .i64 7, .int .i64 4, .int .i64 uf, .int .i64 ut, .int .i64 hk, .int .i32 hr, .int .i64 hf, .int .i64 ht, .bool hal] :=
    ((((((HB.out.upd _ _ rfl).upd _ _ rfl).upd _ _ rfl).upd _ _ rfl).upd _ _ rfl).upd _ _ rfl).alloc _
  have D2 : Kept (fun k => k ≠ b) w (((((((w.setCell ⟨b, 1, none⟩ (.int .i64 6)).setCell ⟨b, 2, none⟩ (.int .i64 uf)).setCell ⟨b, 3, none⟩ (.int .i64 ut)).setCell ⟨b, 0, none⟩ (.int .i64 9)).setCell ⟨b, 1, none⟩ (.int .i64 4)).setCell ⟨b, 0, none⟩ (.int .i64 7)).alloc (.cells #[.int .i64 4, .int .i32 r, .int .i64 uf, .int .i64 ut, .bool al] 254)) :=
    (((((((Kept.refl _ _).trans (Kept.setCell _ (fun h => h rfl) _)).trans (Kept.setCell _ (fun h => h rfl) _)).trans (Kept.setCell _ (fun h => h rfl) _)).trans (Kept.setCell _ (fun h => h rfl) _)).trans (Kept.setCell _ (fun h => h rfl) _)).trans (Kept.setCell _ (fun h => h rfl) _)).trans (Kept.alloc _ _ _)
  have D1 := hid D1
  have D2 := hid D2
  go_upto_region 15 with fail
  clear c0 c1 c2 c3 c4 c5 c6 c7 c8 z0 z1 z2 z3 z4 z5 z6 z7 z8
  generalize (((((((w.setCell ⟨b, 1, none⟩ (.int .i64 6)).setCell ⟨b, 2, none⟩ (.int .i64 uf)).setCell ⟨b, 3, none⟩ (.int .i64 ut)).setCell ⟨b, 0, none⟩ (.int .i64 9)).setCell ⟨b, 1, none⟩ (.int .i64 4)).setCell ⟨b, 0, none⟩ (.int .i64 7)).alloc (.cells #[.int .i64 4, .int .i32 r, .int .i64 uf, .int .i64 ut, .bool al] 254)) = W2 at D1 D2 ⊢
  have c0 := D1.out.cell (k := 0) rfl
  have z0 := D1.out.froz 0
  go_wp2_with fail
  go_end0
  exact ⟨⟨_, rfl⟩, D1.out.upd _ _ rfl, D2.out.trans (Kept.setCell _ (fun h => h rfl) _)⟩
set_option maxHeartbeats 1000000 in
theorem beg_6 (sc : Sc) (u : Un) (h1 : u.k = 6) : Beg sc u := by
  intro w b hB
  have hb := hB.lt
  obtain ⟨st, kd, f, t, h⟩ := sc
  obtain ⟨hk, hr, hf, ht, hal⟩ := h
  obtain ⟨k, r, uf, ut, al⟩ := u
  dsimp only at h1
  have hv : Hid (beginU ⟨k, r, uf, ut, al⟩ ⟨hk, hr, hf, ht, hal⟩ = ⟨9, 5, uf, ut, ⟨hk, hr, hf, ht, hal⟩⟩) := hid (by
    subst h1; rfl)
  dsimp only
  rw [hv.out]
  clear hv
  have e0 := beq_t h1
  subst h1
  clear e0
  have c0 := hB.cell (k := 0) rfl
  have c1 := hB.cell (k := 1) rfl
  have c2 := hB.cell (k := 2) rfl
  have c3 := hB.cell (k := 3) rfl
  have c4 := hB.cell (k := 4) rfl
  have c5 := hB.cell (k := 5) rfl
  have c6 := hB.cell (k := 6) rfl
  have c7 := hB.cell (k := 7) rfl
  have c8 := hB.cell (k := 8) rfl
  have z0 := hB.froz 0
  have z1 := hB.froz 1
  have z2 := hB.froz 2
  have z3 := hB.froz 3
  have z4 := hB.froz 4
  have z5 := hB.froz 5
  have z6 := hB.froz 6
  have z7 := hB.froz 7
  have z8 := hB.froz 8
  try dsimp only at c0 c1 c2 c3 c4 c5 c6 c7 c8
  have HB := hid hB
  clear hB
  go_enter Tryz.func166, Tryz.ntmps166
  go_wp2_with fail
  go_end0
  refine ⟨⟨_, rfl⟩, ?_, ?_⟩
  · exact (((((HB.out.upd _ _ rfl).upd _ _ rfl).upd _ _ rfl).upd _ _ rfl).upd _ _ rfl).alloc _
  · exact ((((((Kept.refl _ _).trans (Kept.setCell _ (fun h => h rfl) _)).trans (Kept.setCell _ (fun h => h rfl) _)).trans (Kept.setCell _ (fun h => h rfl) _)).trans (Kept.setCell _ (fun h => h rfl) _)).trans (Kept.setCell _ (fun h => h rfl) _)).trans (Kept.alloc _ _ _)
set_option maxHeartbeats 1000000 in
theorem beg_7 (sc : Sc) (u : Un) (h1 : u.k = 7) : Beg sc u := by
  intro w b hB
  have hb := hB.lt
  obtain ⟨st, kd, f, t, h⟩ := sc
  obtain ⟨hk, hr, hf, ht, hal⟩ := h
  obtain ⟨k, r, uf, ut, al⟩ := u
  dsimp only at h1
  have hv : Hid (beginU ⟨k, r, uf, ut, al⟩ ⟨hk, hr, hf, ht, hal⟩ = ⟨9, 5, uf, ut, ⟨hk, hr, hf, ht, hal⟩⟩) := hid (by
    subst h1; rfl)
  dsimp only
  rw [hv.out]
  clear hv
  have e0 := beq_t h1
  subst h1
  clear e0
  have c0 := hB.cell (k := 0) rfl
  have c1 := hB.cell (k := 1) rfl
  have c2 := hB.cell (k := 2) rfl
  have c3 := hB.cell (k := 3) rfl
  have c4 := hB.cell (k := 4) rfl
  have c5 := hB.cell (k := 5) rfl
  have c6 := hB.cell (k := 6) rfl
  have c7 := hB.cell (k := 7) rfl
  have c8 := hB.cell (k := 8) rfl
  have z0 := hB.froz 0
  have z1 := hB.froz 1
  have z2 := hB.froz 2
  have z3 := hB.froz 3
  have z4 := hB.froz 4
  have z5 := hB.froz 5
  have z6 := hB.froz 6
  have z7 := hB.froz 7
  have z8 := hB.froz 8
  try dsimp only at c0 c1 c2 c3 c4 c5 c6 c7 c8
  have HB := hid hB
  clear hB
  go_enter Tryz.func166, Tryz.ntmps166
  go_wp2_with fail
  go_end0
  refine ⟨⟨_, rfl⟩, ?_, ?_⟩
  · exact (((((HB.out.upd _ _ rfl).upd _ _ rfl).upd _ _ rfl).upd _ _ rfl).upd _ _ rfl).alloc _
  · exact ((((((Kept.refl _ _).trans (Kept.setCell _ (fun h => h rfl) _)).trans (Kept.setCell _ (fun h => h rfl) _)).trans (Kept.setCell _ (fun h => h rfl) _)).trans (Kept.setCell _ (fun h => h rfl) _)).trans (Kept.setCell _ (fun h => h rfl) _)).trans (Kept.alloc _ _ _)
set_option maxHeartbeats 1000000 in
theorem beg_8 (sc : Sc) (u : Un) (h1 : u.k = 8) : Beg sc u := by
  intro w b hB
  have hb := hB.lt
  obtain ⟨st, kd, f, t, h⟩ := sc
  obtain ⟨hk, hr, hf, ht, hal⟩ := h
  obtain ⟨k, r, uf, ut, al⟩ := u
  dsimp only at h1
  have hv : Hid (beginU ⟨k, r, uf, ut, al⟩ ⟨hk, hr, hf, ht, hal⟩ = ⟨9, 5, uf, ut, ⟨hk, hr, hf, ht, hal⟩⟩) := hid (by
    subst h1; rfl)
  dsimp only
  rw [hv.out]
  clear hv
  have e0 := beq_t h1
  subst h1
  clear e0
  have c0 := hB.cell (k := 0) rfl
  have c1 := hB.cell (k := 1) rfl
  have c2 := hB.cell (k := 2) rfl
  have c3 := hB.cell (k := 3) rfl
  have c4 := hB.cell (k := 4) rfl
  have c5 := hB.cell (k := 5) rfl
  have c6 := hB.cell (k := 6) rfl
  have c7 := hB.cell (k := 7) rfl
  have c8 := hB.cell (k := 8) rfl
  have z0 := hB.froz 0
  have z1 := hB.froz 1
  have z2 := hB.froz 2
  have z3 := hB.froz 3
  have z4 := hB.froz 4
  have z5 := hB.froz 5
  have z6 := hB.froz 6
  have z7 := hB.froz 7
  have z8 := hB.froz 8
  try dsimp only at c0 c1 c2 c3 c4 c5 c6 c7 c8
  have HB := hid hB
  clear hB
  go_enter Tryz.func166, Tryz.ntmps166
  go_wp2_with fail
  go_end0
  refine ⟨⟨_, rfl⟩, ?_, ?_⟩
  · exact (((((HB.out.upd _ _ rfl).upd _ _ rfl).upd _ _ rfl).upd _ _ rfl).upd _ _ rfl).alloc _
  · exact ((((((Kept.refl _ _).trans (Kept.setCell _ (fun h => h rfl) _)).trans (Kept.setCell _ (fun h => h rfl) _)).trans (Kept.setCell _ (fun h => h rfl) _)).trans (Kept.setCell _ (fun h => h rfl) _)).trans (Kept.setCell _ (fun h => h rfl) _)).trans (Kept.alloc _ _ _)
set_option maxHeartbeats 1000000 in
theorem beg_n (sc : Sc) (u : Un) (h1 : ¬ u.k = 1) (h3 : ¬ u.k = 3) (h5 : ¬ u.k = 5) (h11 : ¬ u.k = 11) (h4 : ¬ u.k = 4) (h6 : ¬ u.k = 6) (h7 : ¬ u.k = 7) (h8 : ¬ u.k = 8) : Beg sc u := by
  intro w b hB
  have hb := hB.lt
  obtain ⟨st, kd, f, t, h⟩ := sc
  obtain ⟨hk, hr, hf, ht, hal⟩ := h
  obtain ⟨k, r, uf, ut, al⟩ := u
  dsimp only at h1
  dsimp only at h3
  dsimp only at h5
  dsimp only at h11
  dsimp only at h4
  dsimp only at h6
  dsimp only at h7
  dsimp only at h8
  have hv : Hid (beginU ⟨k, r, uf, ut, al⟩ ⟨hk, hr, hf, ht, hal⟩ = ⟨9, 6, uf, ut, ⟨hk, hr, hf, ht, hal⟩⟩) := hid (by
    unfold beginU; simp [*])
  dsimp only
  rw [hv.out]
  clear hv
  have e0 := beq_f h1
  have e1 := beq_f h3
  have e2 := beq_f h5
  have e3 := beq_f h11
  have e4 := beq_f h4
  have e5 := beq_f h6
  have e6 := beq_f h7
  have e7 := beq_f h8
  have c0 := hB.cell (k := 0) rfl
  have c1 := hB.cell (k := 1) rfl
  have c2 := hB.cell (k := 2) rfl
  have c3 := hB.cell (k := 3) rfl
  have c4 := hB.cell (k := 4) rfl
  have c5 := hB.cell (k := 5) rfl
  have c6 := hB.cell (k := 6) rfl
  have c7 := hB.cell (k := 7) rfl
  have c8 := hB.cell (k := 8) rfl
  have z0 := hB.froz 0
  have z1 := hB.froz 1
  have z2 := hB.froz 2
  have z3 := hB.froz 3
  have z4 := hB.froz 4
  have z5 := hB.froz 5
  have z6 := hB.froz 6
  have z7 := hB.froz 7
  have z8 := hB.froz 8
  try dsimp only at c0 c1 c2 c3 c4 c5 c6 c7 c8
  have HB := hid hB
  clear hB
  go_enter Tryz.func166, Tryz.ntmps166
  go_wp2_with fail
  go_end0
  refine ⟨⟨_, rfl⟩, ?_, ?_⟩
  · exact ((((HB.out.upd _ _ rfl).upd _ _ rfl).upd _ _ rfl).upd _ _ rfl).alloc _
  · exact (((((Kept.refl _ _).trans (Kept.setCell _ (fun h => h rfl) _)).trans (Kept.setCell _ (fun h => h rfl) _)).trans (Kept.setCell _ (fun h => h rfl) _)).trans (Kept.setCell _ (fun h => h rfl) _)).trans (Kept.alloc _ _ _)
theorem begin67 (sc : Sc) (u : Un) : Beg sc u := by
  by_cases h1 : u.k = 1
  · exact beg_1 sc u h1
  by_cases h3 : u.k = 3
  · exact beg_3 sc u h3
  by_cases h5 : u.k = 5
  · exact beg_5 sc u h5
  by_cases h11 : u.k = 11
  · exact beg_11 sc u h11
  by_cases h4 : u.k = 4
  · by_cases h2 : u.r = 13
    · exact beg_4r sc u h4 h2
    · exact beg_4n sc u h4 h2
  by_cases h6 : u.k = 6
  · exact beg_6 sc u h6
  by_cases h7 : u.k = 7
  · exact beg_7 sc u h7
  by_cases h8 : u.k = 8
  · exact beg_8 sc u h8
  exact beg_n sc u h1 h3 h5 h11 h4 h6 h7 h8
end Go.Proofs.YteodfondjogmoaaGreatDoor
