/- word's scanner: fits and begin. Conditions: those of the theorems. -/
import Derived.Test.YtmpkfpabejpbkaaGreatDoorWa
import Derived.Test.YtmpkfpabejpbkaaGreatDoorKs
namespace Go.Proofs.YtmpkfpabejpbkaaGreatDoor
open Go Go.RowKit Go.Lib
set_option linter.unusedVariables false
set_option linter.unusedSimpArgs false
/-- a block of cells, as it lies -/
def Blk (W : World) (B : Nat) (t : TypeId) (c : Array Value) : Prop := W.heap[B]? = some (.cells c t (0, 0))
section
variable {W W' : World} {B : Nat} {t : TypeId} {c : Array Value}
theorem Blk.lt (h : Blk W B t c) : B < W.heap.size := (Array.getElem?_eq_some_iff.1 h).1
theorem Blk.cell (h : Blk W B t c) {k : Nat} {v : Value} (hk : c[k]? = some v) : W.cell? ⟨B, k, none⟩ = some v := by
  unfold Blk at h; simp [World.cell?, h, hk]
theorem Blk.froz (h : Blk W B t c) (k : Nat) : W.frozen? ⟨B, k, none⟩ = false := by
  unfold Blk at h; simp [World.frozen?, h]
theorem Blk.low (h : Blk W B t c) (hb : Below W.heap.size W W') : Blk W' B t c := (hb.block B h.lt).trans h
theorem Blk.keep {T : Nat → Prop} (h : Blk W B t c) (hb : Kept T W W') (hT : T B) : Blk W' B t c := (hb.block B h.lt hT).trans h
theorem Blk.new (W : World) (t : TypeId) (c : Array Value) : Blk (W.alloc (.cells c t)) W.heap.size t c := heap_alloc_new W _
theorem Blk.alloc (h : Blk W B t c) (o : Obj) : Blk (W.alloc o) B t c := h.low ((Below.refl _ _).alloc (Nat.le_refl _) _)
theorem Blk.drew (h : Blk W B t c) : Blk W.drew B t c := h
theorem Blk.other (h : Blk W B t c) {B' k : Nat} (hne : B ≠ B') (u : Value) : Blk (W.setCell ⟨B', k, none⟩ u) B t c :=
  (Below.heap_setCell W ⟨B', k, none⟩ u B hne).trans h
theorem Blk.set (h : Blk W B t c) (k : Nat) (u : Value) : Blk (W.setCell ⟨B, k, none⟩ u) B t (c.setIfInBounds k u) := by
  obtain ⟨hlt, hk⟩ := Array.getElem?_eq_some_iff.1 h
  show (W.heap.modify B _)[B]? = _
  rw [Array.getElem?_eq_getElem (by rw [Array.size_modify]; exact hlt), Array.getElem_modify_self, hk]
  rfl
end
theorem Blk.upd {W : World} {B : Nat} {t : TypeId} {c c' : Array Value} (h : Blk W B t c) (k : Nat) (u : Value) (hc : c.setIfInBounds k u = c') : Blk (W.setCell ⟨B, k, none⟩ u) B t c' := hc ▸ h.set k u
/-- what stands behind the text so far -/
structure Sc where
  st : Int
  kd : Int
  f : Int
  t : Int
  h : Un
abbrev Un.cells (u : Un) : Array Value := #[.int .i64 u.k, .int .i32 u.r, .int .i64 u.f, .int .i64 u.t, .bool u.al]
abbrev Sc.cells (s : Sc) : Array Value := #[.int .i64 s.st, .int .i64 s.kd, .int .i64 s.f, .int .i64 s.t, .int .i64 s.h.k, .int .i32 s.h.r, .int .i64 s.h.f, .int .i64 s.h.t, .bool s.h.al]
def fitsU (s : Sc) (u : Un) : Sc × Int :=
  if s.st = 1 ∨ s.st = 2 then
    if u.k = 1 then ({ s with st := 1 }, 1)
    else if s.st = 1 ∧ jointU u = true then ({ s with st := 2, h := u }, 2) else (s, 0)
  else if s.st = 3 ∨ s.st = 4 then
    if u.k = 3 then ({ s with st := 3 }, 1)
    else if s.st = 3 ∧ dotU u = true then ({ s with st := 4, h := u }, 2) else (s, 0)
  else if s.st = 5 then (s, if u.k = 5 then 1 else 0)
  else if s.st = 6 then (s, if u.k = 11 then 1 else 0)
  else if s.st = 8 then if u.k = 4 ∧ u.r = 10 then ({ s with st := 7 }, 1) else (s, 0)
  else (s, 0)
def beginU (u : Un) (h : Un) : Sc :=
  if u.k = 1 then ⟨1, 1, u.f, u.t, h⟩ else if u.k = 3 then ⟨3, 2, u.f, u.t, h⟩ else if u.k = 5 then ⟨5, 3, u.f, u.t, h⟩
  else if u.k = 11 then ⟨6, 7, u.f, u.t, h⟩ else if u.k = 4 then ⟨if u.r = 13 then 8 else 7, 4, u.f, u.t, h⟩
  else if u.k = 6 ∨ u.k = 7 ∨ u.k = 8 then ⟨9, 5, u.f, u.t, h⟩ else ⟨9, 6, u.f, u.t, h⟩
theorem beq_t {a b : Int} (h : a = b) : (a == b) = true := by subst h; exact beq_self_eq_true _
theorem beq_f {a b : Int} (h : ¬ a = b) : (a == b) = false := by simpa using h
theorem rki {a b : Int} (h : a = b) : Ending.returned (.int .i64 a) = Ending.returned (.int .i64 b) := by rw [h]
def Fits (sc : Sc) (u : Un) : Prop := ∀ (w : World) (b : Nat), Blk w b 137 sc.cells →
  Calls Tryz.prog 65 #[.pointer (some ⟨b, 0, none⟩), u.v] w fun e w' => e = .returned (.int .i64 (fitsU sc u).2) ∧ Blk w' b 137 (fitsU sc u).1.cells ∧ Kept (fun k => k ≠ b) w w'
def Beg (sc : Sc) (u : Un) : Prop := ∀ (w : World) (b : Nat), Blk w b 137 sc.cells →
  Calls Tryz.prog 67 #[.pointer (some ⟨b, 0, none⟩), u.v] w fun e w' => (∃ v, e = .returned v) ∧ Blk w' b 137 (beginU u sc.h).cells ∧ Kept (fun k => k ≠ b) w w'
section
variable {w : World} {b : Nat} {T : Nat → Prop}
end
/-- nothing fits: no store -/
theorem fits_no (sc : Sc) (u : Un) (h1 : ¬ sc.st = 1) (h2 : ¬ sc.st = 2) (h3 : ¬ sc.st = 3) (h4 : ¬ sc.st = 4) (h5 : ¬ sc.st = 5) (h6 : ¬ sc.st = 6) (h8 : ¬ sc.st = 8) : Fits sc u := by
  intro w b hB
  have hb := hB.lt
  obtain ⟨st, kd, f, t, h⟩ := sc
  obtain ⟨hk, hr, hf, ht, hal⟩ := h
  obtain ⟨k, r, uf, ut, al⟩ := u
  dsimp only at h1 h2 h3 h4 h5 h6 h8
  have e1 := beq_f h1
  have e2 := beq_f h2
  have e3 := beq_f h3
  have e4 := beq_f h4
  have e5 := beq_f h5
  have e6 := beq_f h6
  have e8 := beq_f h8
  have hv : Hid (fitsU ⟨st, kd, f, t, ⟨hk, hr, hf, ht, hal⟩⟩ ⟨k, r, uf, ut, al⟩ = (⟨st, kd, f, t, ⟨hk, hr, hf, ht, hal⟩⟩, 0)) := hid (by
    unfold fitsU; dsimp only; rw [if_neg (by omega), if_neg (by omega), if_neg h5, if_neg h6, if_neg h8])
  rw [hv.out]
  clear hv
  have c0 := hB.cell (k := 0) rfl
  have c1 := hB.cell (k := 1) rfl
  have c2 := hB.cell (k := 2) rfl
  have c3 := hB.cell (k := 3) rfl
  have c4 := hB.cell (k := 4) rfl
  have c5 := hB.cell (k := 5) rfl
  have c6 := hB.cell (k := 6) rfl
  have c7 := hB.cell (k := 7) rfl
  have c8 := hB.cell (k := 8) rfl
  have z0 := hB.froz 0
  have z1 := hB.froz 1
  have z2 := hB.froz 2
  have z3 := hB.froz 3
  have z4 := hB.froz 4
  have z5 := hB.froz 5
  have z6 := hB.froz 6
  have z7 := hB.froz 7
  have z8 := hB.froz 8
  try dsimp only at c0 c1 c2 c3 c4 c5 c6 c7 c8
  have HB := hid hB
  clear hB
  go_enter Tryz.func65, Tryz.ntmps65
  go_wp2_with fail
  go_ret
  exact ⟨rfl, HB.out.alloc _, Kept.alloc _ _ _⟩
theorem fits_1k (sc : Sc) (u : Un) (hs : sc.st = 1) (hk1 : u.k = 1) : Fits sc u := by
  intro w b hB
  have hb := hB.lt
  obtain ⟨st, kd, f, t, h⟩ := sc
  obtain ⟨hk, hr, hf, ht, hal⟩ := h
  obtain ⟨k, r, uf, ut, al⟩ := u
  dsimp only at hs
  subst hs
  dsimp only at hk1
  have e1 := beq_t hk1
  have hv : Hid (fitsU ⟨1, kd, f, t, ⟨hk, hr, hf, ht, hal⟩⟩ ⟨k, r, uf, ut, al⟩ = (⟨1, kd, f, t, ⟨hk, hr, hf, ht, hal⟩⟩, 1)) := hid (by
    unfold fitsU; simp [*])
  rw [hv.out]
  clear hv
  have c0 := hB.cell (k := 0) rfl
  have c1 := hB.cell (k := 1) rfl
  have c2 := hB.cell (k := 2) rfl
  have c3 := hB.cell (k := 3) rfl
  have c4 := hB.cell (k := 4) rfl
  have c5 := hB.cell (k := 5) rfl
  have c6 := hB.cell (k := 6) rfl
  have c7 := hB.cell (k := 7) rfl
  have c8 := hB.cell (k := 8) rfl
  have z0 := hB.froz 0
  have z1 := hB.froz 1
  have z2 := hB.froz 2
  have z3 := hB.froz 3
  have z4 := hB.froz 4
  have z5 := hB.froz 5
  have z6 := hB.froz 6
  have z7 := hB.froz 7
  have z8 := hB.froz 8
  try dsimp only at c0 c1 c2 c3 c4 c5 c6 c7 c8
  have HB := hid hB
  clear hB
  go_enter Tryz.func65, Tryz.ntmps65
  go_wp2_with fail
  go_ret
  exact ⟨rfl, (HB.out.upd 0 _ rfl).alloc _, (Kept.setCell w (p := ⟨b, 0, none⟩) (T := fun k => k ≠ b) (fun h => h rfl) _).trans (Kept.alloc _ _ _)⟩
theorem fits_2k (sc : Sc) (u : Un) (hs : sc.st = 2) (hk1 : u.k = 1) : Fits sc u := by
  intro w b hB
  have hb := hB.lt
  obtain ⟨st, kd, f, t, h⟩ := sc
  obtain ⟨hk, hr, hf, ht, hal⟩ := h
  obtain ⟨k, r, uf, ut, al⟩ := u
  dsimp only at hs
  subst hs
  dsimp only at hk1
  have e1 := beq_t hk1
  have hv : Hid (fitsU ⟨2, kd, f, t, ⟨hk, hr, hf, ht, hal⟩⟩ ⟨k, r, uf, ut, al⟩ = (⟨1, kd, f, t, ⟨hk, hr, hf, ht, hal⟩⟩, 1)) := hid (by
    unfold fitsU; simp [*])
  rw [hv.out]
  clear hv
  have c0 := hB.cell (k := 0) rfl
  have c1 := hB.cell (k := 1) rfl
  have c2 := hB.cell (k := 2) rfl
  have c3 := hB.cell (k := 3) rfl
  have c4 := hB.cell (k := 4) rfl
  have c5 := hB.cell (k := 5) rfl
  have c6 := hB.cell (k := 6) rfl
  have c7 := hB.cell (k := 7) rfl
  have c8 := hB.cell (k := 8) rfl
  have z0 := hB.froz 0
  have z1 := hB.froz 1
  have z2 := hB.froz 2
  have z3 := hB.froz 3
  have z4 := hB.froz 4
  have z5 := hB.froz 5
  have z6 := hB.froz 6
  have z7 := hB.froz 7
  have z8 := hB.froz 8
  try dsimp only at c0 c1 c2 c3 c4 c5 c6 c7 c8
  have HB := hid hB
  clear hB
  go_enter Tryz.func65, Tryz.ntmps65
  go_wp2_with fail
  go_ret
  exact ⟨rfl, (HB.out.upd 0 _ rfl).alloc _, (Kept.setCell w (p := ⟨b, 0, none⟩) (T := fun k => k ≠ b) (fun h => h rfl) _).trans (Kept.alloc _ _ _)⟩
theorem fits_2n (sc : Sc) (u : Un) (hs : sc.st = 2) (hk1 : ¬ u.k = 1) : Fits sc u := by
  intro w b hB
  have hb := hB.lt
  obtain ⟨st, kd, f, t, h⟩ := sc
  obtain ⟨hk, hr, hf, ht, hal⟩ := h
  obtain ⟨k, r, uf, ut, al⟩ := u
  dsimp only at hs
  subst hs
  dsimp only at hk1
  have e1 := beq_f hk1
  have hv : Hid (fitsU ⟨2, kd, f, t, ⟨hk, hr, hf, ht, hal⟩⟩ ⟨k, r, uf, ut, al⟩ = (⟨2, kd, f, t, ⟨hk, hr, hf, ht, hal⟩⟩, 0)) := hid (by
    unfold fitsU; simp [*])
  rw [hv.out]
  clear hv
  have c0 := hB.cell (k := 0) rfl
  have c1 := hB.cell (k := 1) rfl
  have c2 := hB.cell (k := 2) rfl
  have c3 := hB.cell (k := 3) rfl
  have c4 := hB.cell (k := 4) rfl
  have c5 := hB.cell (k := 5) rfl
  have c6 := hB.cell (k := 6) rfl
  have c7 := hB.cell (k := 7) rfl
  have c8 := hB.cell (k := 8) rfl
  have z0 := hB.froz 0
  have z1 := hB.froz 1
  have z2 := hB.froz 2
  have z3 := hB.froz 3
  have z4 := hB.froz 4
  have z5 := hB.froz 5
  have z6 := hB.froz 6
  have z7 := hB.froz 7
  have z8 := hB.froz 8
  try dsimp only at c0 c1 c2 c3 c4 c5 c6 c7 c8
  have HB := hid hB
  clear hB
  go_enter Tryz.func65, Tryz.ntmps65
  go_wp2_with fail
  go_ret
  exact ⟨rfl, HB.out.alloc _, Kept.alloc _ _ _⟩
theorem fits_1n (sc : Sc) (u : Un) (hs : sc.st = 1) (hk1 : ¬ u.k = 1) (hj : jointU u = false) : Fits sc u := by
  intro w b hB
  have hb := hB.lt
  obtain ⟨st, kd, f, t, h⟩ := sc
  obtain ⟨hk, hr, hf, ht, hal⟩ := h
  obtain ⟨k, r, uf, ut, al⟩ := u
  dsimp only at hs
  subst hs
  dsimp only at hk1
  have e1 := beq_f hk1
  have hC := hid (fun w => joint82 ⟨k, r, uf, ut, al⟩ w)
  rw [hj] at hC
  have hv : Hid (fitsU ⟨1, kd, f, t, ⟨hk, hr, hf, ht, hal⟩⟩ ⟨k, r, uf, ut, al⟩ = (⟨1, kd, f, t, ⟨hk, hr, hf, ht, hal⟩⟩, 0)) := hid (by
    unfold fitsU; simp [*])
  rw [hv.out]
  clear hv
  have c0 := hB.cell (k := 0) rfl
  have c1 := hB.cell (k := 1) rfl
  have c2 := hB.cell (k := 2) rfl
  have c3 := hB.cell (k := 3) rfl
  have c4 := hB.cell (k := 4) rfl
  have c5 := hB.cell (k := 5) rfl
  have c6 := hB.cell (k := 6) rfl
  have c7 := hB.cell (k := 7) rfl
  have c8 := hB.cell (k := 8) rfl
  have z0 := hB.froz 0
  have z1 := hB.froz 1
  have z2 := hB.froz 2
  have z3 := hB.froz 3
  have z4 := hB.froz 4
  have z5 := hB.froz 5
  have z6 := hB.froz 6
  have z7 := hB.froz 7
  have z8 := hB.froz 8
  try dsimp only at c0 c1 c2 c3 c4 c5 c6 c7 c8
  have HB := hid hB
  clear hB
  go_enter Tryz.func65, Tryz.ntmps65
  go_wp2_with (go_at_call 82; (with_reducible refine Calls.mono (hC.out _) ?_); rintro e w9 ⟨rfl, hb9⟩; have hb9 := hid hb9)
  go_ret
  exact ⟨rfl, (HB.out.alloc _).low hb9.out, (Kept.alloc _ _ _).trans (Kept.of_all hb9.out _)⟩
theorem fits_3k (sc : Sc) (u : Un) (hs : sc.st = 3) (hk1 : u.k = 3) : Fits sc u := by
  intro w b hB
  have hb := hB.lt
  obtain ⟨st, kd, f, t, h⟩ := sc
  obtain ⟨hk, hr, hf, ht, hal⟩ := h
  obtain ⟨k, r, uf, ut, al⟩ := u
  dsimp only at hs
  subst hs
  dsimp only at hk1
  have e1 := beq_t hk1
  have hv : Hid (fitsU ⟨3, kd, f, t, ⟨hk, hr, hf, ht, hal⟩⟩ ⟨k, r, uf, ut, al⟩ = (⟨3, kd, f, t, ⟨hk, hr, hf, ht, hal⟩⟩, 1)) := hid (by
    unfold fitsU; simp [*])
  rw [hv.out]
  clear hv
  have c0 := hB.cell (k := 0) rfl
  have c1 := hB.cell (k := 1) rfl
  have c2 := hB.cell (k := 2) rfl
  have c3 := hB.cell (k := 3) rfl
  have c4 := hB.cell (k := 4) rfl
  have c5 := hB.cell (k := 5) rfl
  have c6 := hB.cell (k := 6) rfl
  have c7 := hB.cell (k := 7) rfl
  have c8 := hB.cell (k := 8) rfl
  have z0 := hB.froz 0
  have z1 := hB.froz 1
  have z2 := hB.froz 2
  have z3 := hB.froz 3
  have z4 := hB.froz 4
  have z5 := hB.froz 5
  have z6 := hB.froz 6
  have z7 := hB.froz 7
  have z8 := hB.froz 8
  try dsimp only at c0 c1 c2 c3 c4 c5 c6 c7 c8
  have HB := hid hB
  clear hB
  go_enter Tryz.func65, Tryz.ntmps65
  go_wp2_with fail
  go_ret
  exact ⟨rfl, (HB.out.upd 0 _ rfl).alloc _, (Kept.setCell w (p := ⟨b, 0, none⟩) (T := fun k => k ≠ b) (fun h => h rfl) _).trans (Kept.alloc _ _ _)⟩
theorem fits_4k (sc : Sc) (u : Un) (hs : sc.st = 4) (hk1 : u.k = 3) : Fits sc u := by
  intro w b hB
  have hb := hB.lt
  obtain ⟨st, kd, f, t, h⟩ := sc
  obtain ⟨hk, hr, hf, ht, hal⟩ := h
  obtain ⟨k, r, uf, ut, al⟩ := u
  dsimp only at hs
  subst hs
  dsimp only at hk1
  have e1 := beq_t hk1
  have hv : Hid (fitsU ⟨4, kd, f, t, ⟨hk, hr, hf, ht, hal⟩⟩ ⟨k, r, uf, ut, al⟩ = (⟨3, kd, f, t, ⟨hk, hr, hf, ht, hal⟩⟩, 1)) := hid (by
    unfold fitsU; simp [*])
  rw [hv.out]
  clear hv
  have c0 := hB.cell (k := 0) rfl
  have c1 := hB.cell (k := 1) rfl
  have c2 := hB.cell (k := 2) rfl
  have c3 := hB.cell (k := 3) rfl
  have c4 := hB.cell (k := 4) rfl
  have c5 := hB.cell (k := 5) rfl
  have c6 := hB.cell (k := 6) rfl
  have c7 := hB.cell (k := 7) rfl
  have c8 := hB.cell (k := 8) rfl
  have z0 := hB.froz 0
  have z1 := hB.froz 1
  have z2 := hB.froz 2
  have z3 := hB.froz 3
  have z4 := hB.froz 4
  have z5 := hB.froz 5
  have z6 := hB.froz 6
  have z7 := hB.froz 7
  have z8 := hB.froz 8
  try dsimp only at c0 c1 c2 c3 c4 c5 c6 c7 c8
  have HB := hid hB
  clear hB
  go_enter Tryz.func65, Tryz.ntmps65
  go_wp2_with fail
  go_ret
  exact ⟨rfl, (HB.out.upd 0 _ rfl).alloc _, (Kept.setCell w (p := ⟨b, 0, none⟩) (T := fun k => k ≠ b) (fun h => h rfl) _).trans (Kept.alloc _ _ _)⟩
theorem fits_4n (sc : Sc) (u : Un) (hs : sc.st = 4) (hk1 : ¬ u.k = 3) : Fits sc u := by
  intro w b hB
  have hb := hB.lt
  obtain ⟨st, kd, f, t, h⟩ := sc
  obtain ⟨hk, hr, hf, ht, hal⟩ := h
  obtain ⟨k, r, uf, ut, al⟩ := u
  dsimp only at hs
  subst hs
  dsimp only at hk1
  have e1 := beq_f hk1
  have hv : Hid (fitsU ⟨4, kd, f, t, ⟨hk, hr, hf, ht, hal⟩⟩ ⟨k, r, uf, ut, al⟩ = (⟨4, kd, f, t, ⟨hk, hr, hf, ht, hal⟩⟩, 0)) := hid (by
    unfold fitsU; simp [*])
  rw [hv.out]
  clear hv
  have c0 := hB.cell (k := 0) rfl
  have c1 := hB.cell (k := 1) rfl
  have c2 := hB.cell (k := 2) rfl
  have c3 := hB.cell (k := 3) rfl
  have c4 := hB.cell (k := 4) rfl
  have c5 := hB.cell (k := 5) rfl
  have c6 := hB.cell (k := 6) rfl
  have c7 := hB.cell (k := 7) rfl
  have c8 := hB.cell (k := 8) rfl
  have z0 := hB.froz 0
  have z1 := hB.froz 1
  have z2 := hB.froz 2
  have z3 := hB.froz 3
  have z4 := hB.froz 4
  have z5 := hB.froz 5
  have z6 := hB.froz 6
  have z7 := hB.froz 7
  have z8 := hB.froz 8
  try dsimp only at c0 c1 c2 c3 c4 c5 c6 c7 c8
  have HB := hid hB
  clear hB
  go_enter Tryz.func65, Tryz.ntmps65
  go_wp2_with fail
  go_ret
  exact ⟨rfl, HB.out.alloc _, Kept.alloc _ _ _⟩
theorem fits_3n (sc : Sc) (u : Un) (hs : sc.st = 3) (hk1 : ¬ u.k = 3) (hj : dotU u = false) : Fits sc u := by
  intro w b hB
  have hb := hB.lt
  obtain ⟨st, kd, f, t, h⟩ := sc
  obtain ⟨hk, hr, hf, ht, hal⟩ := h
  obtain ⟨k, r, uf, ut, al⟩ := u
  dsimp only at hs
  subst hs
  dsimp only at hk1
  have e1 := beq_f hk1
  have hC := hid (fun w => dot83 ⟨k, r, uf, ut, al⟩ w)
  rw [hj] at hC
  have hv : Hid (fitsU ⟨3, kd, f, t, ⟨hk, hr, hf, ht, hal⟩⟩ ⟨k, r, uf, ut, al⟩ = (⟨3, kd, f, t, ⟨hk, hr, hf, ht, hal⟩⟩, 0)) := hid (by
    unfold fitsU; simp [*])
  rw [hv.out]
  clear hv
  have c0 := hB.cell (k := 0) rfl
  have c1 := hB.cell (k := 1) rfl
  have c2 := hB.cell (k := 2) rfl
  have c3 := hB.cell (k := 3) rfl
  have c4 := hB.cell (k := 4) rfl
  have c5 := hB.cell (k := 5) rfl
  have c6 := hB.cell (k := 6) rfl
  have c7 := hB.cell (k := 7) rfl
  have c8 := hB.cell (k := 8) rfl
  have z0 := hB.froz 0
  have z1 := hB.froz 1
  have z2 := hB.froz 2
  have z3 := hB.froz 3
  have z4 := hB.froz 4
  have z5 := hB.froz 5
  have z6 := hB.froz 6
  have z7 := hB.froz 7
  have z8 := hB.froz 8
  try dsimp only at c0 c1 c2 c3 c4 c5 c6 c7 c8
  have HB := hid hB
  clear hB
  go_enter Tryz.func65, Tryz.ntmps65
  go_wp2_with (go_at_call 83; (with_reducible refine Calls.mono (hC.out _) ?_); rintro e w9 ⟨rfl, hb9⟩; have hb9 := hid hb9)
  go_ret
  exact ⟨rfl, (HB.out.alloc _).low hb9.out, (Kept.alloc _ _ _).trans (Kept.of_all hb9.out _)⟩
theorem fits_5k (sc : Sc) (u : Un) (hs : sc.st = 5) (hk1 : u.k = 5) : Fits sc u := by
  intro w b hB
  have hb := hB.lt
  obtain ⟨st, kd, f, t, h⟩ := sc
  obtain ⟨hk, hr, hf, ht, hal⟩ := h
  obtain ⟨k, r, uf, ut, al⟩ := u
  dsimp only at hs
  subst hs
  dsimp only at hk1
  have e1 := beq_t hk1
  have hv : Hid (fitsU ⟨5, kd, f, t, ⟨hk, hr, hf, ht, hal⟩⟩ ⟨k, r, uf, ut, al⟩ = (⟨5, kd, f, t, ⟨hk, hr, hf, ht, hal⟩⟩, 1)) := hid (by
    unfold fitsU; simp [*])
  rw [hv.out]
  clear hv
  have c0 := hB.cell (k := 0) rfl
  have c1 := hB.cell (k := 1) rfl
  have c2 := hB.cell (k := 2) rfl
  have c3 := hB.cell (k := 3) rfl
  have c4 := hB.cell (k := 4) rfl
  have c5 := hB.cell (k := 5) rfl
  have c6 := hB.cell (k := 6) rfl
  have c7 := hB.cell (k := 7) rfl
  have c8 := hB.cell (k := 8) rfl
  have z0 := hB.froz 0
  have z1 := hB.froz 1
  have z2 := hB.froz 2
  have z3 := hB.froz 3
  have z4 := hB.froz 4
  have z5 := hB.froz 5
  have z6 := hB.froz 6
  have z7 := hB.froz 7
  have z8 := hB.froz 8
  try dsimp only at c0 c1 c2 c3 c4 c5 c6 c7 c8
  have HB := hid hB
  clear hB
  go_enter Tryz.func65, Tryz.ntmps65
  go_wp2_with fail
  go_ret
  exact ⟨rfl, HB.out.alloc _, Kept.alloc _ _ _⟩
theorem fits_5n (sc : Sc) (u : Un) (hs : sc.st = 5) (hk1 : ¬ u.k = 5) : Fits sc u := by
  intro w b hB
  have hb := hB.lt
  obtain ⟨st, kd, f, t, h⟩ := sc
  obtain ⟨hk, hr, hf, ht, hal⟩ := h
  obtain ⟨k, r, uf, ut, al⟩ := u
  dsimp only at hs
  subst hs
  dsimp only at hk1
  have e1 := beq_f hk1
  have hv : Hid (fitsU ⟨5, kd, f, t, ⟨hk, hr, hf, ht, hal⟩⟩ ⟨k, r, uf, ut, al⟩ = (⟨5, kd, f, t, ⟨hk, hr, hf, ht, hal⟩⟩, 0)) := hid (by
    unfold fitsU; simp [*])
  rw [hv.out]
  clear hv
  have c0 := hB.cell (k := 0) rfl
  have c1 := hB.cell (k := 1) rfl
  have c2 := hB.cell (k := 2) rfl
  have c3 := hB.cell (k := 3) rfl
  have c4 := hB.cell (k := 4) rfl
  have c5 := hB.cell (k := 5) rfl
  have c6 := hB.cell (k := 6) rfl
  have c7 := hB.cell (k := 7) rfl
  have c8 := hB.cell (k := 8) rfl
  have z0 := hB.froz 0
  have z1 := hB.froz 1
  have z2 := hB.froz 2
  have z3 := hB.froz 3
  have z4 := hB.froz 4
  have z5 := hB.froz 5
  have z6 := hB.froz 6
  have z7 := hB.froz 7
  have z8 := hB.froz 8
  try dsimp only at c0 c1 c2 c3 c4 c5 c6 c7 c8
  have HB := hid hB
  clear hB
  go_enter Tryz.func65, Tryz.ntmps65
  go_wp2_with fail
  go_ret
  exact ⟨rfl, HB.out.alloc _, Kept.alloc _ _ _⟩
theorem fits_6k (sc : Sc) (u : Un) (hs : sc.st = 6) (hk1 : u.k = 11) : Fits sc u := by
  intro w b hB
  have hb := hB.lt
  obtain ⟨st, kd, f, t, h⟩ := sc
  obtain ⟨hk, hr, hf, ht, hal⟩ := h
  obtain ⟨k, r, uf, ut, al⟩ := u
  dsimp only at hs
  subst hs
  dsimp only at hk1
  have e1 := beq_t hk1
  have hv : Hid (fitsU ⟨6, kd, f, t, ⟨hk, hr, hf, ht, hal⟩⟩ ⟨k, r, uf, ut, al⟩ = (⟨6, kd, f, t, ⟨hk, hr, hf, ht, hal⟩⟩, 1)) := hid (by
    unfold fitsU; simp [*])
  rw [hv.out]
  clear hv
  have c0 := hB.cell (k := 0) rfl
  have c1 := hB.cell (k := 1) rfl
  have c2 := hB.cell (k := 2) rfl
  have c3 := hB.cell (k := 3) rfl
  have c4 := hB.cell (k := 4) rfl
  have c5 := hB.cell (k := 5) rfl
  have c6 := hB.cell (k := 6) rfl
  have c7 := hB.cell (k := 7) rfl
  have c8 := hB.cell (k := 8) rfl
  have z0 := hB.froz 0
  have z1 := hB.froz 1
  have z2 := hB.froz 2
  have z3 := hB.froz 3
  have z4 := hB.froz 4
  have z5 := hB.froz 5
  have z6 := hB.froz 6
  have z7 := hB.froz 7
  have z8 := hB.froz 8
  try dsimp only at c0 c1 c2 c3 c4 c5 c6 c7 c8
  have HB := hid hB
  clear hB
  go_enter Tryz.func65, Tryz.ntmps65
  go_wp2_with fail
  go_ret
  exact ⟨rfl, HB.out.alloc _, Kept.alloc _ _ _⟩
theorem fits_6n (sc : Sc) (u : Un) (hs : sc.st = 6) (hk1 : ¬ u.k = 11) : Fits sc u := by
  intro w b hB
  have hb := hB.lt
  obtain ⟨st, kd, f, t, h⟩ := sc
  obtain ⟨hk, hr, hf, ht, hal⟩ := h
  obtain ⟨k, r, uf, ut, al⟩ := u
  dsimp only at hs
  subst hs
  dsimp only at hk1
  have e1 := beq_f hk1
  have hv : Hid (fitsU ⟨6, kd, f, t, ⟨hk, hr, hf, ht, hal⟩⟩ ⟨k, r, uf, ut, al⟩ = (⟨6, kd, f, t, ⟨hk, hr, hf, ht, hal⟩⟩, 0)) := hid (by
    unfold fitsU; simp [*])
  rw [hv.out]
  clear hv
  have c0 := hB.cell (k := 0) rfl
  have c1 := hB.cell (k := 1) rfl
  have c2 := hB.cell (k := 2) rfl
  have c3 := hB.cell (k := 3) rfl
  have c4 := hB.cell (k := 4) rfl
  have c5 := hB.cell (k := 5) rfl
  have c6 := hB.cell (k := 6) rfl
  have c7 := hB.cell (k := 7) rfl
  have c8 := hB.cell (k := 8) rfl
  have z0 := hB.froz 0
  have z1 := hB.froz 1
  have z2 := hB.froz 2
  have z3 := hB.froz 3
  have z4 := hB.froz 4
  have z5 := hB.froz 5
  have z6 := hB.froz 6
  have z7 := hB.froz 7
  have z8 := hB.froz 8
  try dsimp only at c0 c1 c2 c3 c4 c5 c6 c7 c8
  have HB := hid hB
  clear hB
  go_enter Tryz.func65, Tryz.ntmps65
  go_wp2_with fail
  go_ret
  exact ⟨rfl, HB.out.alloc _, Kept.alloc _ _ _⟩
theorem fits_8k (sc : Sc) (u : Un) (hs : sc.st = 8) (hk1 : u.k = 4) (hr1 : u.r = 10) : Fits sc u := by
  intro w b hB
  have hb := hB.lt
  obtain ⟨st, kd, f, t, h⟩ := sc
  obtain ⟨hk, hr, hf, ht, hal⟩ := h
  obtain ⟨k, r, uf, ut, al⟩ := u
  dsimp only at hs
  subst hs
  dsimp only at hk1
  have e1 := beq_t hk1
  dsimp only at hr1
  have e2 := beq_t hr1
  have hv : Hid (fitsU ⟨8, kd, f, t, ⟨hk, hr, hf, ht, hal⟩⟩ ⟨k, r, uf, ut, al⟩ = (⟨7, kd, f, t, ⟨hk, hr, hf, ht, hal⟩⟩, 1)) := hid (by
    unfold fitsU; simp [*])
  rw [hv.out]
  clear hv
  have c0 := hB.cell (k := 0) rfl
  have c1 := hB.cell (k := 1) rfl
  have c2 := hB.cell (k := 2) rfl
  have c3 := hB.cell (k := 3) rfl
  have c4 := hB.cell (k := 4) rfl
  have c5 := hB.cell (k := 5) rfl
  have c6 := hB.cell (k := 6) rfl
  have c7 := hB.cell (k := 7) rfl
  have c8 := hB.cell (k := 8) rfl
  have z0 := hB.froz 0
  have z1 := hB.froz 1
  have z2 := hB.froz 2
  have z3 := hB.froz 3
  have z4 := hB.froz 4
  have z5 := hB.froz 5
  have z6 := hB.froz 6
  have z7 := hB.froz 7
  have z8 := hB.froz 8
  try dsimp only at c0 c1 c2 c3 c4 c5 c6 c7 c8
  have HB := hid hB
  clear hB
  go_enter Tryz.func65, Tryz.ntmps65
  go_wp2_with fail
  go_ret
  exact ⟨rfl, (HB.out.upd 0 _ rfl).alloc _, (Kept.setCell w (p := ⟨b, 0, none⟩) (T := fun k => k ≠ b) (fun h => h rfl) _).trans (Kept.alloc _ _ _)⟩
theorem fits_8r (sc : Sc) (u : Un) (hs : sc.st = 8) (hk1 : u.k = 4) (hr1 : ¬ u.r = 10) : Fits sc u := by
  intro w b hB
  have hb := hB.lt
  obtain ⟨st, kd, f, t, h⟩ := sc
  obtain ⟨hk, hr, hf, ht, hal⟩ := h
  obtain ⟨k, r, uf, ut, al⟩ := u
  dsimp only at hs
  subst hs
  dsimp only at hk1
  have e1 := beq_t hk1
  dsimp only at hr1
  have e2 := beq_f hr1
  have hv : Hid (fitsU ⟨8, kd, f, t, ⟨hk, hr, hf, ht, hal⟩⟩ ⟨k, r, uf, ut, al⟩ = (⟨8, kd, f, t, ⟨hk, hr, hf, ht, hal⟩⟩, 0)) := hid (by
    unfold fitsU; simp [*])
  rw [hv.out]
  clear hv
  have c0 := hB.cell (k := 0) rfl
  have c1 := hB.cell (k := 1) rfl
  have c2 := hB.cell (k := 2) rfl
  have c3 := hB.cell (k := 3) rfl
  have c4 := hB.cell (k := 4) rfl
  have c5 := hB.cell (k := 5) rfl
  have c6 := hB.cell (k := 6) rfl
  have c7 := hB.cell (k := 7) rfl
  have c8 := hB.cell (k := 8) rfl
  have z0 := hB.froz 0
  have z1 := hB.froz 1
  have z2 := hB.froz 2
  have z3 := hB.froz 3
  have z4 := hB.froz 4
  have z5 := hB.froz 5
  have z6 := hB.froz 6
  have z7 := hB.froz 7
  have z8 := hB.froz 8
  try dsimp only at c0 c1 c2 c3 c4 c5 c6 c7 c8
  have HB := hid hB
  clear hB
  go_enter Tryz.func65, Tryz.ntmps65
  go_wp2_with fail
  go_ret
  exact ⟨rfl, HB.out.alloc _, Kept.alloc _ _ _⟩
theorem fits_8n (sc : Sc) (u : Un) (hs : sc.st = 8) (hk1 : ¬ u.k = 4) : Fits sc u := by
  intro w b hB
  have hb := hB.lt
  obtain ⟨st, kd, f, t, h⟩ := sc
  obtain ⟨hk, hr, hf, ht, hal⟩ := h
  obtain ⟨k, r, uf, ut, al⟩ := u
  dsimp only at hs
  subst hs
  dsimp only at hk1
  have e1 := beq_f hk1
  have hv : Hid (fitsU ⟨8, kd, f, t, ⟨hk, hr, hf, ht, hal⟩⟩ ⟨k, r, uf, ut, al⟩ = (⟨8, kd, f, t, ⟨hk, hr, hf, ht, hal⟩⟩, 0)) := hid (by
    unfold fitsU; simp [*])
  rw [hv.out]
  clear hv
  have c0 := hB.cell (k := 0) rfl
  have c1 := hB.cell (k := 1) rfl
  have c2 := hB.cell (k := 2) rfl
  have c3 := hB.cell (k := 3) rfl
  have c4 := hB.cell (k := 4) rfl
  have c5 := hB.cell (k := 5) rfl
  have c6 := hB.cell (k := 6) rfl
  have c7 := hB.cell (k := 7) rfl
  have c8 := hB.cell (k := 8) rfl
  have z0 := hB.froz 0
  have z1 := hB.froz 1
  have z2 := hB.froz 2
  have z3 := hB.froz 3
  have z4 := hB.froz 4
  have z5 := hB.froz 5
  have z6 := hB.froz 6
  have z7 := hB.froz 7
  have z8 := hB.froz 8
  try dsimp only at c0 c1 c2 c3 c4 c5 c6 c7 c8
  have HB := hid hB
  clear hB
  go_enter Tryz.func65, Tryz.ntmps65
  go_wp2_with fail
  go_ret
  exact ⟨rfl, HB.out.alloc _, Kept.alloc _ _ _⟩
end Go.Proofs.YtmpkfpabejpbkaaGreatDoor
