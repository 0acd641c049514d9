/- fold.tables: what each joined letter is made of, as a map. Conditions: those of each theorem. -/
import Derived.Test.YteodfondjogmoaaGreatDoorJi
import Derived.Test.YteodfondjogmoaaGreatDoorJh
import Derived.Test.YteodfondjogmoaaGreatDoorJf
import Derived.WideKeyPair
import Derived.Test.YteodfondjogmoaaGreatDoorRNLfA
namespace Go.Proofs.YteodfondjogmoaaGreatDoor
open Go Go.RowKit Go.Lib Go.Shelf Go.Maps
set_option linter.unusedVariables false
set_option linter.unusedSimpArgs false
attribute [local go_sem] Oper.semAt_some
def pairD (b m : Int) : DataW Unit := .agg [.lit (.int .i32 b), .lit (.int .i32 m)]
def intL : Value → Option Int
  | .int .i32 a => some a
  | _ => none
def two : List (Option Int) → Option (DataW Unit × List MemPlace)
  | [some a, some b] => some (pairD a b, [])
  | _ => none
/-- how an element of the table reads -/
def rel2 : Value → Option (DataW Unit × List MemPlace)
  | .agg cs => two (cs.toList.map intL)
  | _ => none
def rel1 (v : Value) : Option (DataW Unit × List MemPlace) := match v with
  | .int .i32 a => some (.lit (.int .i32 a), [])
  | _ => none
theorem intL_inv {v : Value} {a : Int} (h : intL v = some a) : v = .int .i32 a := by
  unfold intL at h
  split at h
  · rw [Option.some.inj h]
  · cases h
theorem rel2_inv {v : Value} {b m : Int} {ps : List MemPlace} (h : rel2 v = some (pairD b m, ps)) : v = .agg #[.int .i32 b, .int .i32 m] := by
  cases v <;> try (cases h)
  next cs =>
    obtain ⟨l⟩ := cs
    have h : two (l.map intL) = some (pairD b m, ps) := h
    match l, h with
    | [], h => cases h
    | [x], h => cases hx : intL x <;> simp [two, hx] at h
    | [x, y], h =>
      cases hx : intL x with
      | none => simp [two, hx] at h
      | some a =>
        cases hy : intL y with
        | none => simp [two, hx, hy] at h
        | some c =>
          simp [two, hx, hy, pairD] at h
          rw [intL_inv hx, intL_inv hy, h.1.1, h.1.2]
    | x :: y :: z :: t, h => cases hx : intL x <;> cases hy : intL y <;> simp [two, hx, hy] at h
theorem arr239 : WideMaps.ArrKey Tryz.prog 239 21 2 := ⟨Tryz.underlying239, by kernel_rfl, by kernel_rfl, by kernel_rfl⟩
theorem keyed239 : Keyed Tryz.prog 239 := Keyed.of_law arr239.law
theorem keyed21 : Keyed Tryz.prog 21 := int_keyed Tryz.underlying21
theorem wf32 {r : Nat} (h : r ≤ 1114111) : (Lit.int .i32 (r : Int)).wf = true := by
  have h1 : IntKind.i32.min = -2147483648 := rfl
  have h2 : IntKind.i32.max = 2147483647 := rfl
  simp [Lit.wf, h1, h2]
  omega
theorem key21 {r : Nat} (h : r ≤ 1114111) : keyOf Tryz.prog 21 (.int .i32 r) = some (.int .i32 r) := by
  have := wf32 h
  simp [keyOf, Tryz.underlying21, mapKey, this]
theorem key239 {a b : Nat} (ha : a ≤ 1114111) (hb : b ≤ 1114111) : keyOf Tryz.prog 239 (.agg #[.int .i32 a, .int .i32 b]) = some (.string (keyBytes [.int .i32 a, .int .i32 b])) :=
  WideMaps.keyOf_pair arr239 Tryz.underlying21 ⟨Tryz.prog.types.size - 1, by kernel_rfl⟩ (wf32 ha) (wf32 hb)
def lastP (l : List (Nat × Nat × Nat)) (r : Nat) : Option (Nat × Nat × Nat) := l.reverse.find? fun x => x.2.2 == r
/-- the table of the pairs so far -/
structure SD (l : List (Nat × Nat × Nat)) (D : DataW Unit) : Prop where
  map : Maps.IsMap D
  at' : ∀ (r : Nat) z, D.atKey (.int .i32 r) z = match lastP l r with
    | some x => pairD x.1 x.2.1
    | none => z
  has : ∀ r : Nat, Maps.has D (.int .i32 r) = (lastP l r).isSome
theorem SD.nil : SD [] (.map []) := ⟨⟨_, rfl⟩, fun r z => rfl, fun r => rfl⟩
theorem lastP_snoc (l : List (Nat × Nat × Nat)) (x : Nat × Nat × Nat) (r : Nat) : lastP (l ++ [x]) r = if x.2.2 = r then some x else lastP l r := by
  unfold lastP
  rw [List.reverse_append, List.reverse_singleton, List.singleton_append, List.find?_cons]
  by_cases h : x.2.2 = r
  · have : (x.2.2 == r) = true := by simp [h]
    rw [this, if_pos h]
  · have : (x.2.2 == r) = false := by simp [h]
    rw [this, if_neg h]
theorem SD.push {l : List (Nat × Nat × Nat)} {D : DataW Unit} (h : SD l D) (x : Nat × Nat × Nat) : SD (l ++ [x]) (D.put (.int .i32 x.2.2) (pairD x.1 x.2.1)) := by
  refine ⟨h.map.put _ _, fun r z => ?_, fun r => ?_⟩
  · rw [lastP_snoc]
    by_cases hr : x.2.2 = r
    · subst hr
      rw [if_pos rfl, atKey_put_same (k := .int .i32 x.2.2) h.map trivial]
    · rw [if_neg hr, atKey_put_other (fun e => hr (by have := (Lit.int.inj e).2; omega))]
      exact h.at' r z
  · rw [lastP_snoc]
    by_cases hr : x.2.2 = r
    · subst hr
      rw [if_pos rfl, has_put_same (k := .int .i32 x.2.2) h.map trivial]
      rfl
    · rw [if_neg hr, has_put_other (fun e => hr (by have := (Lit.int.inj e).2; omega))]
      exact h.has r
set_option maxRecDepth 100000 in
theorem pairs_fine : (pairsL.all fun x => decide (x.1 ≤ 1114111 ∧ x.2.1 ≤ 1114111 ∧ x.2.2 ≤ 1114111)) = true := by decide +kernel
set_option maxRecDepth 100000 in
theorem pairs_nodup : decide ((pairsL.map (·.2.2)).Nodup) = true := by decide +kernel
set_option maxRecDepth 100000 in
theorem pairs_len : pairsL.length = 197 := by decide +kernel
theorem find_unique {l l' : List (Nat × Nat × Nat)} (hp : ∀ x, x ∈ l ↔ x ∈ l') (hn : (l.map (·.2.2)).Nodup) (r : Nat) : l.find? (fun x => x.2.2 == r) = l'.find? (fun x => x.2.2 == r) := by
  have uq : ∀ x ∈ l, ∀ y ∈ l, x.2.2 = y.2.2 → x = y := by
    intro x hx y hy e
    obtain ⟨i, hi, rfl⟩ := List.getElem_of_mem hx
    obtain ⟨j, hj, rfl⟩ := List.getElem_of_mem hy
    have e2 : (l.map (·.2.2))[i]'(by simpa using hi) = (l.map (·.2.2))[j]'(by simpa using hj) := by simpa using e
    have hpw := List.pairwise_iff_getElem.1 hn
    rcases Nat.lt_trichotomy i j with h | h | h
    · exact absurd e2 (hpw i j _ _ h)
    · subst h; rfl
    · exact absurd e2.symm (hpw j i _ _ h)
  cases h : l.find? (fun x => x.2.2 == r) with
  | none =>
    rw [List.find?_eq_none] at h
    symm
    rw [List.find?_eq_none]
    exact fun x hx => h x ((hp x).2 hx)
  | some x =>
    have h1 := List.find?_some h
    have h2 := List.mem_of_find?_eq_some h
    cases h' : l'.find? (fun x => x.2.2 == r) with
    | none => rw [List.find?_eq_none] at h'; exact absurd h1 (h' x ((hp x).1 h2))
    | some y =>
      have g1 := List.find?_some h'
      have g2 := List.mem_of_find?_eq_some h'
      rw [beq_iff_eq] at h1 g1
      rw [uq x h2 y ((hp y).2 g2) (by rw [h1, g1])]
/-- the table tells of each rune what the plain law's table tells -/
theorem last_split (r : Nat) : (lastP pairsL r).map (fun x => (x.1, x.2.1)) = splitN r := by
  unfold splitN lastP
  rw [← pairs_split, List.find?_map, Option.map_map]
  rw [← find_unique (l := pairsL) (l' := pairsL.reverse) (fun x => by simp) (of_decide_eq_true pairs_nodup) r]
  rfl
/-- the table in memory -/
def TbAt (w : World) (m : Nat) : Prop := ∃ n D, w.ownsMap Tryz.prog 21 rel2 m n D ∧ SD pairsL D
theorem map_keep {H : Type} {P : Program} {k : TypeId} {R : Value → Option (DataW H × List MemPlace)} {w w' : World} {b n : Nat} {D : DataW H} {T : Nat → Prop} (h : w.ownsMap P k R b n D) (hK : Kept T w w') (hT : T b) : w'.ownsMap P k R b n D := by
  obtain ⟨es, clock, hb, F, hs, hD⟩ := h
  exact ⟨es, clock, hK.obj hb hT, F, hs, hD⟩
theorem TbAt.low {w w' : World} {m : Nat} (h : TbAt w m) (hb : Below w.heap.size w w') : TbAt w' m := by
  obtain ⟨n, D, h1, h2⟩ := h
  exact ⟨n, D, map_keep h1 (Kept.of_all hb (fun _ => True)) trivial, h2⟩
theorem TbAt.keep {w w' : World} {m : Nat} {T : Nat → Prop} (h : TbAt w m) (hK : Kept T w w') (hT : T m) : TbAt w' m := by
  obtain ⟨n, D, h1, h2⟩ := h
  exact ⟨n, D, map_keep h1 hK hT, h2⟩
theorem TbAt.look {w : World} {m : Nat} (h : TbAt w m) {r : Nat} (hr : r ≤ 1114111) : ∃ b k : Nat, (Instr.lookup 195 (.map (some m)) (.int .i32 r) true).run Tryz.prog w = .ok (.tuple #[.agg #[.int .i32 b, .int .i32 k], .bool (splitN r).isSome]) w ∧ (∀ q, splitN r = some q → q = (b, k)) := by
  obtain ⟨n, D, h1, h2⟩ := h
  obtain ⟨v, ps, hrun, hv⟩ := h1.look_ok keyed21 Tryz.underlying195 (z := .agg #[.int .i32 0, .int .i32 0]) (by kernel_rfl) (zd := pairD 0 0) (zp := []) rfl (key21 hr)
  rw [h2.at' r] at hv
  rw [h2.has r] at hrun
  have hs := last_split r
  cases hl : lastP pairsL r with
  | none =>
    rw [hl] at hv hrun hs
    rw [← hs]
    have := rel2_inv hv
    rw [this] at hrun
    exact ⟨0, 0, hrun, fun q e => by cases e⟩
  | some x =>
    rw [hl] at hv hrun hs
    rw [← hs]
    have := rel2_inv hv
    rw [this] at hrun
    exact ⟨x.1, x.2.1, hrun, fun q e => (Option.some.inj e).symm⟩
end Go.Proofs.YteodfondjogmoaaGreatDoor
/- fold.tables, walked. Conditions: those of each theorem. -/
namespace Go.Proofs.YteodfondjogmoaaGreatDoor
open Go Go.RowKit Go.Lib Go.Shelf Go.Maps
set_option linter.unusedVariables false
set_option linter.unusedSimpArgs false
attribute [local go_sem] Oper.semAt_some
/-- what the loop keeps -/
structure TbI (w W : World) (l : List (Nat × Nat × Nat)) : Prop where
  k2 : Blk W (w.heap.size + 2) 194 #[.map (some w.heap.size)]
  k3 : Blk W (w.heap.size + 3) 195 #[.map (some (w.heap.size + 1))]
  j : ∃ D1 : DataW Unit, W.ownsMap Tryz.prog 239 rel1 w.heap.size l.length D1
  s : ∃ D2, W.ownsMap Tryz.prog 21 rel2 (w.heap.size + 1) l.length D2 ∧ SD l D2
  sz : w.heap.size + 4 ≤ W.heap.size
  low : Below w.heap.size w W
theorem TbI.keep {w W W' : World} {l : List (Nat × Nat × Nat)} {T : Nat → Prop} (h : TbI w W l) (hK : Kept T W W') (hT : ∀ k, k < w.heap.size + 4 → T k) : TbI w W' l := by
  obtain ⟨h1, h2, ⟨D1, h3⟩, ⟨D2, h4, h5⟩, h6, h7⟩ := h
  exact ⟨h1.keep hK (hT _ (by omega)), h2.keep hK (hT _ (by omega)), ⟨D1, map_keep h3 hK (hT _ (by omega))⟩, ⟨D2, map_keep h4 hK (hT _ (by omega)), h5⟩, by have := hK.size; omega, h7.trans (hK.below (by omega) (fun k hk => hT k (by omega)))⟩
theorem turned_kept {w w' : World} {b : Nat} (h : w.mapTurned w' b) : Kept (fun k => k ≠ b) w w' := Kept.grown h.grown (fun r hr h => h (Option.some.inj hr).symm)
/-- the worlds of a round, the first table's store done or not -/
def TbH (w W5 : World) (n : Nat) (x : List (Option Value)) (w' : World) : Prop := Kept (fun k => k ≠ w.heap.size) W5 w' ∧ match x with
  | [none] => ∃ D1 : DataW Unit, w'.ownsMap Tryz.prog 239 rel1 w.heap.size n D1
  | _ => ∃ D1 : DataW Unit, w'.ownsMap Tryz.prog 239 rel1 w.heap.size (n + 1) D1
theorem TbH.first {w W5 w' : World} {n : Nat} {x : List (Option Value)} (h : TbH w W5 n x w') (hl : x.length = 1) (h0 : x[0]? = some none) : ∃ D1 : DataW Unit, w'.ownsMap Tryz.prog 239 rel1 w.heap.size n D1 := by
  match x, hl, h0, h with
  | [a], _, h0, h =>
    obtain rfl : a = none := by simpa using h0
    exact h.2
theorem TbH.next {w W5 w' w'' : World} {n : Nat} {x : List (Option Value)} {u : Value} {D1 : DataW Unit} (h : TbH w W5 n x w') (hK : Kept (fun k => k ≠ w.heap.size) w' w'') (hD : w''.ownsMap Tryz.prog 239 rel1 w.heap.size (n + 1) D1) : TbH w W5 n (x.set 0 (some u)) w'' := by
  refine ⟨h.1.trans hK, ?_⟩
  match x with
  | [] => exact ⟨D1, hD⟩
  | [a] => exact ⟨D1, hD⟩
  | a :: b :: c => exact ⟨D1, hD⟩
set_option maxHeartbeats 8000000 in
theorem tables118 (w : World) : Calls Tryz.prog 115 #[] w fun e w' => (∃ m1 m2, e = .returned (.tuple #[.map (some m1), .map (some m2)]) ∧ w.heap.size ≤ m2 ∧ m2 < w'.heap.size ∧ TbAt w' m2) ∧ Below w.heap.size w w' := by
  refine (callsIn_wide (n := 9)).1 ?_
  refine callsIn_of_wp_marks Tryz.func115 rfl trivial ?_ rfl
  simp only [Tryz.ntmps115, List.size_toArray, List.length_cons, List.length_nil, Nat.reduceAdd, Nat.reduceSub, Array.replicate_succ, Array.replicate_zero, List.push_toArray, List.append_toArray, List.nil_append, List.cons_append]
  have hmm := @run_makeMap Tryz.prog
  gi_wp2_with fail
  obtain ⟨w4, hw4⟩ : ∃ w4, (((w.alloc (.map #[] 0)).alloc (.map #[] 0)).alloc (.cells #[.map (some w.heap.size)] 194)).alloc (.cells #[.map (some (w.heap.size + 1))] 195) = w4 := ⟨_, rfl⟩
  have hI0 : TbI w w4 [] := by
    rw [← hw4]
    have s1 : (w.alloc (.map #[] 0)).heap.size = w.heap.size + 1 := World.size_alloc _ _
    have s2 : ((w.alloc (.map #[] 0)).alloc (.map #[] 0)).heap.size = w.heap.size + 2 := by rw [World.size_alloc, s1]
    have s3 : (((w.alloc (.map #[] 0)).alloc (.map #[] 0)).alloc (.cells #[.map (some w.heap.size)] 194)).heap.size = w.heap.size + 3 := by rw [World.size_alloc, s2]
    refine ⟨?_, ?_, ⟨_, (((World.ownsMap_made w Tryz.prog 239 rel1).alloc _).alloc _).alloc _⟩, ⟨_, ?_, SD.nil⟩, by rw [World.size_alloc, s3]; omega, ?_⟩
    · have := (Blk.new ((w.alloc (.map #[] 0)).alloc (.map #[] 0)) 194 #[.map (some w.heap.size)]).alloc (.cells #[.map (some (w.heap.size + 1))] 195)
      rw [s2] at this; exact this
    · have := Blk.new (((w.alloc (.map #[] 0)).alloc (.map #[] 0)).alloc (.cells #[.map (some w.heap.size)] 194)) 195 #[.map (some (w.heap.size + 1))]
      rw [s3] at this; exact this
    · have := ((World.ownsMap_made (w.alloc (.map #[] 0)) Tryz.prog 21 rel2).alloc (.cells #[.map (some w.heap.size)] 194)).alloc (.cells #[.map (some (w.heap.size + 1))] 195)
      rw [s1] at this; exact this
    · exact ((((Below.refl _ w).alloc (Nat.le_refl _) _).alloc (by rw [s1]; omega) _).alloc (by rw [s2]; omega) _).alloc (by rw [s3]; omega) _
  try rw [show (((w.alloc (.map #[] 0)).alloc (.map #[] 0)).alloc (.cells #[.map (some w.heap.size)] 194)).alloc (.cells #[.map (some (w.heap.size + 1))] 195) = w4 from hw4]
  clear hw4 hmm
  have HI0 := hid hI0
  have hsz := hI0.sz
  clear hI0
  refine name_actZ ?_
  intro Tm D hTm hD
  have hseq := (pairs_seq 8 w4)
  refine rangeFunc_s (F := Fence.wide) (α := Nat × Nat × Nat) rfl (by omega) (gf := 149) (lb := #[]) (by subst hTm; rfl) trivial (enters_of Tryz.func149 (by kernel_rfl) rfl)
    hseq (fun k hk => hk.elim) (Below.refl _ _) (fun _ => rfl)
    (fun pre S W => TbI w W pre)
    (fun _ _ _ _ => False)
    ?hI (fun c _ _ _ _ _ h _ _ _ => h) HI0.out
    (fun pre S x a' W => ∃ Bx, w4.heap.size ≤ Bx ∧ ¬ S Bx ∧ Blk W Bx 239 #[.int .i32 x.1, .int .i32 x.2.1] ∧ TbI w W pre ∧ a' = { tmps := (((Tm.setIfInBounds 8 (.agg #[.int .i32 x.1, .int .i32 x.2.1])).setIfInBounds 9 (.int .i32 x.2.2)).setIfInBounds 4 (.pointer (some ⟨Bx, 0, none⟩))).setIfInBounds 5 (.int .i32 x.2.2), defers := [] })
    ?hAx ?assign ?body ?done ?stop
  case hI =>
    intro pre S S' X Y h1 hS hK hS'
    exact h1.keep hK (fun k hk hs => by have := (hS k hs).1; omega)
  case hAx =>
    intro pre S x a' X lb o ⟨Bx, g1, g2, g3, g4, g5⟩ hSl hS
    have hlb := (hS _ hSl).1
    exact ⟨Bx, g1, g2, g3.put (fun e => g2 (e ▸ hSl)) _, g4.keep (Kept.putObj (T := fun k => k ≠ lb) X (fun h => h rfl) o) (fun k hk => by show k ≠ lb; omega), g5⟩
  case assign =>
    rintro l' pre S x W5 K h0 hW5 hS5 hpre hK
    subst hTm hD
    have hB := Blk.new W5 239 #[.int .i32 x.1, .int .i32 x.2.1]
    have H := hK _ _ (Kept.alloc _ _ _) ⟨W5.heap.size, by omega, (fun h => by have := (hS5 _ h).2; omega), hB, h0.keep (Kept.alloc (fun _ => True) _ _) (fun _ _ => trivial), rfl⟩
    clear hK hB h0
    unfold pairV
    dsimp only at H
    simp only [List.setIfInBounds_toArray, List.set_cons_succ, List.set_cons_zero] at H
    gi_wp2
    exact H
  case body =>
    rintro l' pre S x a' W5 hSl ⟨rec, hrec⟩ hW5 hS5 hpre ⟨Bx, hBx, hSB, kx, hI5, rfl⟩
    have hlen : pre.length < 1000 := by
      have h := hpre.length_le
      rw [List.length_append, List.length_singleton, pairs_len] at h
      omega
    have hfx := List.all_eq_true.1 pairs_fine x (hpre.subset (by simp))
    have hfx := of_decide_eq_true hfx
    have hS0 : ∀ k, k < w.heap.size + 4 → ¬ S k := fun k hk hs => by have := (hS5 k hs).1; omega
    subst hTm hD
    dsimp only
    simp only [List.setIfInBounds_toArray, List.set_cons_succ, List.set_cons_zero]
    obtain ⟨x0, x1, x2⟩ := x
    dsimp only at kx hfx ⊢
    have c0 : ∀ x w', TbH w W5 pre.length x w' → w'.cell? ⟨w.heap.size + 2, 0, none⟩ = some (.map (some w.heap.size)) := fun x w' h => h.1.cell (hI5.k2.cell (k := 0) rfl) (by show w.heap.size + 2 ≠ w.heap.size; omega)
    have c1 : ∀ x w', TbH w W5 pre.length x w' → w'.cell? ⟨w.heap.size + 3, 0, none⟩ = some (.map (some (w.heap.size + 1))) := fun x w' h => h.1.cell (hI5.k3.cell (k := 0) rfl) (by show w.heap.size + 3 ≠ w.heap.size; omega)
    have c2 : ∀ x w', TbH w W5 pre.length x w' → w'.cell? ⟨Bx, 0, none⟩ = some (.int .i32 x0) ∧ w'.cell? ⟨Bx, 1, none⟩ = some (.int .i32 x1) := fun x w' h => ⟨h.1.cell (kx.cell (k := 0) rfl) (by show Bx ≠ w.heap.size; omega), h.1.cell (kx.cell (k := 1) rfl) (by show Bx ≠ w.heap.size; omega)⟩
    have h00 : TbH w W5 pre.length [none] W5.drew := by
      obtain ⟨D1, h⟩ := hI5.j
      exact ⟨Kept.drew _ _, D1, h.drew⟩
    have hS0' := hid hS0
    have HI5 := hid hI5
    clear hI5 hS0 hseq kx
    gi_wp2_with fail
    simp only [Nat.add_assoc, Nat.reduceAdd]
    refine C.eff_tailIn 7 [(6, none)] (TbH w W5 pre.length) (fun _ _ _ => False) (by kernel_rfl) (C.WideF.round _ _ _) (by kernel_rfl) (by kernel_rfl) (by kernel_rfl) rfl h00 ?_
    simp only [List.take_succ_cons, List.take_zero, List.drop_succ_cons, List.drop_zero]
    refine C.ge_val (by kernel_rfl) (C.wit0 h00 (by kernel_rfl)) rfl (.map (some w.heap.size)) (fun x w' _ hx => by have := c0 x w' hx; go_simp) ?_
    refine C.ge_val (by kernel_rfl) (C.wit0 h00 (by kernel_rfl)) rfl (.agg #[.int .i32 x0, .int .i32 x1]) (fun x w' _ hx => by obtain ⟨a1, a2⟩ := c2 x w' hx; go_simp) ?_
    refine C.ge_val (by kernel_rfl) (C.wit0 h00 (by kernel_rfl)) rfl (.map (some (w.heap.size + 1))) (fun x w' _ hx => by have := c1 x w' hx; go_simp) ?_
    refine C.ge_val (by kernel_rfl) (C.wit0 h00 (by kernel_rfl)) rfl (.int .i32 x2) (fun x w' _ hx => by go_simp) ?_
    refine C.ge_val (by kernel_rfl) (C.wit0 h00 (by kernel_rfl)) rfl (.int .i32 x2) (fun x w' _ hx => by go_simp) ?_
    refine C.ge_val (by kernel_rfl) (C.wit0 h00 (by kernel_rfl)) rfl (.agg #[.int .i32 x0, .int .i32 x1]) (fun x w' _ hx => by obtain ⟨a1, a2⟩ := c2 x w' hx; go_simp) ?_
    refine C.ge_eff (m := 0) (by kernel_rfl) rfl (C.wit0 h00 (by kernel_rfl)) (fun u => u = undef) ?_ ?_
    · intro x w' hf hx0 hx
      obtain ⟨D1, hD1⟩ := hx.first hf.1 hx0
      obtain ⟨w'', hrun, hown, ht⟩ := hD1.store keyed239 Tryz.underlying194 (by unfold maxLen; omega) (key239 hfx.1 hfx.2.1) (val := .int .i32 x2) (d := .lit (.int .i32 x2)) (ps := []) rfl
      refine ⟨undef, w'', .inr ⟨?_, rfl⟩, rfl, ?_⟩
      · go_simp
      · exact hx.next (turned_kept ht) hown
    rintro u rfl
    refine C.ge_nil ?_
    intro w' hw'
    obtain ⟨hK1, D1, hD1⟩ := hw'
    have hD1 : w'.ownsMap Tryz.prog 239 rel1 w.heap.size (pre.length + 1) D1 := hD1
    obtain ⟨D2, hD2, hSD⟩ := HI5.out.s
    have hD2' : w'.ownsMap Tryz.prog 21 rel2 (w.heap.size + 1) pre.length D2 := map_keep hD2 hK1 (by show w.heap.size + 1 ≠ w.heap.size; omega)
    obtain ⟨w'', hrun, hown, ht⟩ := hD2'.store keyed21 Tryz.underlying195 (by unfold maxLen; omega) (key21 hfx.2.2) (val := .agg #[.int .i32 x0, .int .i32 x1]) (d := pairD x0 x1) (ps := []) rfl
    refine update_runIn rfl _ _ _ 195 rfl rfl rfl rfl hrun ?_
    have hK2 := turned_kept ht
    have hsz' := HI5.out.sz
    have hKa : Kept (fun k => k ≠ w.heap.size ∧ k ≠ w.heap.size + 1) W5 w'' := (hK1.mono (fun k _ h => h.1)).trans (hK2.mono (fun k _ h => h.2))
    have hfin : Kept (fun k => False ∨ S k) W5 w'' ∧ TbI w w'' (pre ++ [(x0, x1, x2)]) := by
      refine ⟨hKa.mono (fun k _ h => h.elim (fun h => h.elim) (fun h => ⟨fun e => hS0'.out k (by omega) h, fun e => hS0'.out k (by omega) h⟩)), ?_, ?_, ⟨D1, ?_⟩, ⟨_, ?_, hSD.push (x0, x1, x2)⟩, by have := hKa.size; omega, ?_⟩
      · exact HI5.out.k2.keep hKa ⟨by omega, by omega⟩
      · exact HI5.out.k3.keep hKa ⟨by omega, by omega⟩
      · rw [List.length_append, List.length_singleton]; exact map_keep hD1 hK2 (by show w.heap.size ≠ w.heap.size + 1; omega)
      · rw [List.length_append, List.length_singleton]; exact hown
      · exact HI5.out.low.trans (hKa.below (by omega) (fun k hk => ⟨by omega, by omega⟩))
    gi_wp2_with fail
    exact hfin
  case done =>
    rintro Dk W9 hDk h0 hK
    have hK0 := hid hK
    have hDl := at_lt hK
    have d0 := h0.k2.cell (k := 0) rfl
    have d1 := h0.k3.cell (k := 0) rfl
    have HI := hid h0
    subst hTm hD
    clear h0 hK hseq
    gi_wp2_with fail
    refine C.draw_allInB (by kernel_rfl) (C.WideF.wide _ _) (by kernel_rfl) (by kernel_rfl) ?_
    repeat (refine C.bq_step (fun K hK => ?_); go_simp; refine ⟨hK _ ?_⟩; clear hK K)
    refine C.bq_nil ?_
    rintro _ ⟨dn, rfl⟩
    gi_wp2_with fail
    refine ⟨by simp, .inl ⟨_, _, rfl, run_takeDeferred (w := W9.drewN dn) hK0.out, ?_⟩⟩
    refine ⟨.tuple #[.map (some w.heap.size), .map (some (w.heap.size + 1))], (by simp [results, Tryz.results115, go_sem]), ?_⟩
    have hI1 : TbI w (W9.drewN dn) pairsL := HI.out.keep (Kept.of_all (⟨rfl, rfl, rfl, Nat.le_refl _, fun _ _ => rfl⟩ : Below W9.heap.size W9 (W9.drewN dn)) (fun _ => True)) (fun _ _ => trivial)
    have hI2 := hI1.keep (Kept.putObj (T := fun k => k ≠ Dk) (W9.drewN dn) (fun h => h rfl) (.deferred none)) (fun k hk => by show k ≠ Dk; omega)
    obtain ⟨D2, h4, h5⟩ := hI2.s
    exact ⟨⟨_, _, rfl, by omega, by have := hI2.sz; omega, _, D2, h4, h5⟩, hI2.low⟩
  case stop =>
    rintro Dk c pre W9 hDk hpre h hK
    exact h.elim
end Go.Proofs.YteodfondjogmoaaGreatDoor
/- fold.Low. Conditions: those of each theorem. -/
namespace Go.Proofs.YteodfondjogmoaaGreatDoor.R
open Go.RowKit Go.Lib
set_option linter.unusedVariables false
set_option linter.unusedSimpArgs false
def CxLow (r : Int) (w : World) : Prop := Calls Tryz.prog 153 #[.int .i32 r] w fun e w' => (∃ b, e = .returned (.bool b)) ∧ w = w'
set_option maxHeartbeats 8000000 in
theorem low156 (r : Int) (w : World) : CxLow r w := by
 unfold CxLow
 refine sp r 790 (fun _ => ?_) fun _ => sp r 794 (fun _ => ?_) fun _ => sp r 796 (fun _ => ?_) fun _ => sp r 801 (fun _ => ?_) fun _ => sp r 803 (fun _ => ?_) fun _ => sp r 820 (fun _ => ?_) fun _ => sp r 825 (fun _ => ?_) fun _ => sp r 829 (fun _ => ?_) fun _ => sp r 837 (fun _ => ?_) fun _ => sp r 842 (fun _ => ?_) fun _ => sp r 845 (fun _ => ?_) fun _ => sp r 847 (fun _ => ?_) fun _ => sp r 851 (fun _ => ?_) fun _ => sp r 855 (fun _ => ?_) fun _ => sp r 857 (fun _ => ?_) fun _ => sp r 859 (fun _ => ?_) fun _ => ?_
 all_goals
  first | have := dgt r 790 (by omega) | have := dgf r 790 (by omega)
  first | have := dgt r 796 (by omega) | have := dgf r 796 (by omega)
  first | have := dgt r 803 (by omega) | have := dgf r 803 (by omega)
  first | have := dgt r 825 (by omega) | have := dgf r 825 (by omega)
  first | have := dgt r 837 (by omega) | have := dgf r 837 (by omega)
  first | have := dgt r 845 (by omega) | have := dgf r 845 (by omega)
  first | have := dgt r 851 (by omega) | have := dgf r 851 (by omega)
  first | have := dgt r 857 (by omega) | have := dgf r 857 (by omega)
  first | have := dlt r 793 (by omega) | have := dlf r 793 (by omega)
  first | have := dlt r 800 (by omega) | have := dlf r 800 (by omega)
  first | have := dlt r 819 (by omega) | have := dlf r 819 (by omega)
  first | have := dlt r 828 (by omega) | have := dlf r 828 (by omega)
  first | have := dlt r 841 (by omega) | have := dlf r 841 (by omega)
  first | have := dlt r 846 (by omega) | have := dlf r 846 (by omega)
  first | have := dlt r 854 (by omega) | have := dlf r 854 (by omega)
  first | have := dlt r 858 (by omega) | have := dlf r 858 (by omega)
  go_enter Tryz.func153, Tryz.ntmps153
  go_wp2_with fail
  go_ret
  exact ⟨⟨_, rfl⟩, rfl⟩
end Go.Proofs.YteodfondjogmoaaGreatDoor.R
/- fold.unit's letter and mark; parted. Conditions: those of each theorem. -/
namespace Go.Proofs.YteodfondjogmoaaGreatDoor
open Go Go.RowKit Go.Lib Go.Shelf Go.Maps
set_option linter.unusedVariables false
set_option linter.unusedSimpArgs false
attribute [local go_sem] Oper.semAt_some C.Ext.cell C.Ext.froz
theorem kind_is1 (r : Nat) (h : r ≤ 1114111) : (R.kindI r == 1) = letN r := by
  rw [Bool.eq_iff_iff, beq_iff_eq]
  exact kind_let r h
/-- a unit's base: a broken byte's -1, or a rune -/
def BaseOk (b : Int) : Prop := b = -1 ∨ ∃ r : Nat, b = r ∧ r ≤ 1114111
def letB (b : Int) : Bool := decide (0 ≤ b) && letN b.toNat
theorem letter120 (p br b : Int) (lo hi : Value) (h1 : lo.oneCell' = true) (h2 : hi.oneCell' = true) (hb : BaseOk b) (w : World) : Calls Tryz.prog 117 #[.agg #[.int .i64 p, .int .u8 br, .int .i32 b, lo, hi]] w fun e w' => e = .returned (.bool (letB b)) ∧ Below w.heap.size w w' := by
  rcases hb with rfl | ⟨r, rfl, hr⟩
  · have hv : letB (-1) = false := by unfold letB; rfl
    rw [hv]
    go_enter Tryz.func117, Tryz.ntmps117
    go_wp2_with fail
    go_ret
    exact ⟨rfl, (Below.refl _ w).alloc (Nat.le_refl _) _⟩
  · have hv : letB (r : Int) = letN r := by unfold letB; rw [decide_eq_true (by omega), Bool.true_and, Int.toNat_natCast]
    have hK := hid (fun w => R.kind81 (r : Int) (by omega) (by omega) w)
    have h1' := kind_is1 r hr
    have hr0 : (0 : Int) ≤ r := by omega
    have hr0' : decide ((0 : Int) ≤ (r : Int)) = true := decide_eq_true hr0
    rw [hv]
    generalize letN r = lr at *
    go_enter Tryz.func117, Tryz.ntmps117
    go_wp2_with fail
    with_reducible refine Calls.mono (hK.out _) ?_
    rintro e w' ⟨rfl, rfl⟩
    go_wp2_with fail
    go_ret
    exact ⟨rfl, (Below.refl _ w).alloc (Nat.le_refl _) _⟩
end Go.Proofs.YteodfondjogmoaaGreatDoor
