/- Sorted copies of any numbers, and what a quantile of them is. Conditions: none beyond each theorem's own. -/
import Derived.Test.YthidjbobjjoekaaGreatCoO
import Derived.Test.YthidjbobjjoekaaGreatCoP
namespace Go.Proofs.YthidjbobjjoekaaGreat
open Go.RowKit Go.Lib Go.Sort Go.Shelf
set_option linter.unusedVariables false
set_option linter.unusedSimpArgs false
set_option maxHeartbeats 1000000
open Ieee (infR)
structure SrtP (xs ys : List Nat) : Prop where
  perm : ys.Perm xs
  up : ys.Pairwise fun a b => rank a ≤ rank b
theorem SrtP.same {xs ys zs : List Nat} (h : SrtP xs ys) (h' : SrtP xs zs) : ys.map rank = zs.map rank := by
  refine List.Perm.eq_of_pairwise (le := fun (a b : Int) => a ≤ b) (fun a b _ _ h1 h2 => Int.le_antisymm h1 h2) ?_ ?_ ((h.perm.trans h'.perm.symm).map rank)
  · exact List.pairwise_map.2 h.up
  · exact List.pairwise_map.2 h'.up
theorem SrtP.at_ {xs ys zs : List Nat} (h : SrtP xs ys) (h' : SrtP xs zs) (i : Nat) : (ys[i]?).map rank = (zs[i]?).map rank := by
  have := congrArg (fun l : List Int => l[i]?) (h.same h')
  simpa using this
theorem rank_KE {x y : Nat} (hx : x < 18446744073709551616) (hy : y < 18446744073709551616) (h : rank x = rank y) (rx : Ieee.Real x) : KE x y ∧ Ieee.Real y := by
  have bx := Ieee.key_bd x rx
  have hi : infR = 2047 * 2 ^ 52 := rfl
  have ry : Ieee.Real y := by
    refine Decidable.byContradiction (p := Ieee.rung y ≤ infR) fun hn => ?_
    unfold rank at h
    rw [if_pos (show Ieee.rung x ≤ infR from rx), if_neg hn] at h
    omega
  unfold rank at h
  rw [if_pos (show Ieee.rung x ≤ infR from rx), if_pos (show Ieee.rung y ≤ infR from ry)] at h
  exact ⟨key_KE hx hy h, ry⟩
theorem sort_floatsP (w : World) (g cap : Nat) (xs : List Nat) (h : ∀ k x, xs[k]? = some x → w.cell? ⟨g, k, none⟩ = some (.float .f64 x)) (hf : ∀ k, w.frozen? ⟨g, k, none⟩ = false) (hg : g < w.heap.size) (hl : xs.length < 4611686018427387904) :
    Calls Tryz.prog 39 #[.slice (some ⟨g, 0, none⟩) xs.length cap, .func (.func 11) #[] #[]] w fun e w' => e = .returned (.tuple #[]) ∧ (∀ n, n ≤ g → Below n w w') ∧ g < w'.heap.size ∧
      ∃ ys, SrtP xs ys ∧ ∀ k x, ys[k]? = some x → w'.cell? ⟨g, k, none⟩ = some (.float .f64 x) := by
  have eg : ∀ args w, (callFunc 11 args).run Tryz.prog w = .ok (.enter 11 args) w := enters_of Tryz.func11 (by kernel_rfl) rfl
  have one : OneCell encF := fun x => rfl
  have hcmp : CmpLays1 Tryz.prog 11 #[] encF ordV g 0 xs.toArray.size w := CmpReads.lays fun m os dk hs x y => (order_any x y _).mono fun e w' ⟨he, hw⟩ => ⟨he, 0, hw.symm⟩
  have hH : Holds encF w g 0 xs.toArray := fun j hj => by
    have hj' : j < xs.length := by simpa using hj
    rw [Nat.zero_add, getElem!_pos xs.toArray j hj]
    exact ⟨h j _ (by rw [List.getElem?_eq_getElem hj']; simp), hf j⟩
  have hcon := Any.slices_SortFunc Tryz.sortF encF one ordV swoF 11 #[] g 0 cap xs.toArray w eg hcmp hH hg (by simpa using hl)
  have hsz : xs.toArray.size = xs.length := by simp
  rw [hsz] at hcon
  change Calls Tryz.prog 39 _ _ _ at hcon
  refine hcon.mono fun e w' ⟨he, d, n, os, hp, hs, hw⟩ => ?_
  have hds : d.size = xs.length := by rw [hp.1]; simp
  have hH2 : Holds encF w' g 0 d := by rw [hw]; exact holds_sortWorld encF w g 0 n xs.toArray d os hg hH (by rw [hds]; simp)
  have hperm : d.toList.Perm xs := by
    have := hp.2.2
    have e1 : d.extract 0 xs.length = d := by rw [← hds]; simp
    have e2 : xs.toArray.extract 0 xs.length = xs.toArray := by simp
    rw [e1, e2] at this
    simpa using this
  refine ⟨he, fun N hN => ?_, ?_, d.toList, ⟨hperm, ?_⟩, fun k x hx => ?_⟩
  · rw [hw]
    exact Below.grown (Below.refl N w) (grownBy_sorted d) (by omega) (fun k e => by cases e; exact hN)
  · have := (grownBy_sorted (w := w) (g := g) (n := n) (os := os) d).size
    rw [← hw] at this
    omega
  · rw [List.pairwise_iff_getElem]
    intro i j hi hj hij
    have hi' : i < d.size := by simpa using hi
    have hj' : j < d.size := by simpa using hj
    have := hs i j (Nat.zero_le _) hij (by omega)
    rw [getElem!_pos d j hj', getElem!_pos d i hi', ord_rank] at this
    have := of_decide_eq_false this
    simp only [Array.getElem_toList]
    omega
  · rw [Array.getElem?_toList] at hx
    obtain ⟨h1, e1⟩ := Array.getElem?_eq_some_iff.1 hx
    have := (hH2 k h1).1
    rw [Nat.zero_add, getElem!_pos d k h1, e1] at this
    exact this
/-- the class of a quantile of sorted numbers, at place i, part f -/
def quV (ys : List Nat) (i f : Nat) : Option Nat :=
  match ys[0]? with
  | none => none
  | some a0 => if ford a0 a0 = none then none else
    match ys[i]?, ys[i + 1]? with
    | some a, some b => if ford f 0 = some .eq ∨ ford b a = some .eq then (cl a).map zeroV else midC b (opF .add (cl a) (opF .mul (cl f) (opF .sub (cl b) (cl a))))
    | some a, none => (cl a).map zeroV
    | none, _ => none
theorem up_get {ys : List Nat} (h : ys.Pairwise fun a b => rank a ≤ rank b) {i j x y : Nat} (hij : i < j) (hx : ys[i]? = some x) (hy : ys[j]? = some y) : rank x ≤ rank y := by
  obtain ⟨h1, e1⟩ := List.getElem?_eq_some_iff.1 hx
  obtain ⟨h2, e2⟩ := List.getElem?_eq_some_iff.1 hy
  have := List.pairwise_iff_getElem.1 h i j h1 h2 hij
  rw [e1, e2] at this
  exact this
theorem rank_real {x y : Nat} (hx : Ieee.Real x) (h : rank x ≤ rank y) : Ieee.Real y ∧ Ieee.key x ≤ Ieee.key y := by
  have bx := Ieee.key_bd x hx
  have hi : infR = 2047 * 2 ^ 52 := rfl
  unfold rank at h
  rw [if_pos (show Ieee.rung x ≤ infR from hx)] at h
  by_cases hy : Ieee.rung y ≤ infR
  · rw [if_pos hy] at h; exact ⟨hy, h⟩
  · rw [if_neg hy] at h; omega
/-- the reckoning between two numbers that differ -/
theorem mid_val {a b f : Nat} (ra : Ieee.Real a) (rb : Ieee.Real b) (h : Ieee.key a < Ieee.key b) (hf : Ieee.rung f < infR) (hk : 0 < Ieee.key f) :
    ∃ d p, Ieee.double.sub b a = some d ∧ Ieee.double.mul f d = some p ∧ Ieee.Real p ∧ opF .add (cl a) (opF .mul (cl f) (opF .sub (cl b) (cl a))) = Ieee.double.add a p := by
  obtain ⟨d, d1, d2, _⟩ := sub_some a b ra rb h
  obtain ⟨p, p1, p2, _⟩ := mul_some f d hf hk d2
  refine ⟨d, p, d1, p1, p2, ?_⟩
  rw [cl_real ra, cl_real rb, cl_real (Nat.le_of_lt hf), show opF .sub (some b) (some a) = some d from d1, show opF .mul (some f) (some d) = some p from p1]
  rfl
theorem ord_eq_key {x y : Nat} (hx : Ieee.Real x) (hy : Ieee.Real y) : ford x y = some .eq ↔ Ieee.key x = Ieee.key y := by
  rw [show ford x y = some (compare (Ieee.key x) (Ieee.key y)) from Ieee.order_key x y hx hy]
  rcases Int.lt_trichotomy (Ieee.key x) (Ieee.key y) with h | h | h
  · rw [Ieee.cmp_lt h]; exact ⟨fun h => absurd h (by simp), fun h' => by omega⟩
  · rw [Ieee.cmp_eq h]; exact ⟨fun _ => h, fun _ => rfl⟩
  · rw [Ieee.cmp_gt h]; exact ⟨fun h => absurd h (by simp), fun h' => by omega⟩
theorem quV_same {xs ys zs : List Nat} (h : SrtP xs ys) (h' : SrtP xs zs) (hb : ∀ x ∈ xs, x < 18446744073709551616) (i f : Nat) (hf : Ieee.Pos f) (hff : Ieee.rung f < infR) : quV ys i f = quV zs i f := by
  have by' : ∀ (j y : Nat), ys[j]? = some y → y < 18446744073709551616 := fun j y hy => hb y (h.perm.mem_iff.1 (List.mem_of_getElem? hy))
  have bz : ∀ (j y : Nat), zs[j]? = some y → y < 18446744073709551616 := fun j y hy => hb y (h'.perm.mem_iff.1 (List.mem_of_getElem? hy))
  have pair : ∀ (j : Nat), (ys[j]? = none ∧ zs[j]? = none) ∨ ∃ y z, ys[j]? = some y ∧ zs[j]? = some z ∧ rank y = rank z := fun j => by
    have := h.at_ h' j
    cases hy : ys[j]? with
    | none => rw [hy] at this; cases hz : zs[j]? with
      | none => exact .inl ⟨rfl, rfl⟩
      | some z => rw [hz] at this; cases this
    | some y => rw [hy] at this; cases hz : zs[j]? with
      | none => rw [hz] at this; cases this
      | some z => rw [hz] at this; exact .inr ⟨y, z, rfl, rfl, by simpa using this⟩
  unfold quV
  rcases pair 0 with ⟨e, e'⟩ | ⟨a0, b0, e, e', hr⟩
  · rw [e, e']
  · rw [e, e']
    dsimp only
    by_cases r0 : Ieee.Real a0
    · obtain ⟨_, rb0⟩ := rank_KE (by' 0 a0 e) (bz 0 b0 e') hr r0
      rw [show ford a0 a0 = some .eq from Ieee.order_self a0 r0, show ford b0 b0 = some .eq from Ieee.order_self b0 rb0, if_neg (by simp), if_neg (by simp)]
      have rl : ∀ (j y : Nat), ys[j]? = some y → Ieee.Real y := fun j y hy => by
        rcases Nat.eq_zero_or_pos j with h0 | h0
        · subst h0; rw [e] at hy; cases hy; exact r0
        · exact (rank_real r0 (up_get h.up h0 e hy)).1
      rcases pair i with ⟨g, g'⟩ | ⟨a, a', g, g', hra⟩
      · rw [g, g']
      · obtain ⟨ka, ra'⟩ := rank_KE (by' i a g) (bz i a' g') hra (rl i a g)
        have ra := rl i a g
        rcases pair (i + 1) with ⟨k, k'⟩ | ⟨b, b', k, k', hrb⟩
        · rw [g, g', k, k']
          exact ka.cl
        · obtain ⟨kb, rb'⟩ := rank_KE (by' _ b k) (bz _ b' k') hrb (rl _ b k)
          have rb := rl _ b k
          rw [g, g', k, k']
          dsimp only
          have c : (ford f 0 = some .eq ∨ ford b a = some .eq) ↔ (ford f 0 = some .eq ∨ ford b' a' = some .eq) := by
            rw [ord_eq_key rb ra, ord_eq_key rb' ra', ka.key.1, kb.key.1]
          by_cases hc : ford f 0 = some .eq ∨ ford b a = some .eq
          · rw [if_pos hc, if_pos (c.1 hc)]
            exact ka.cl
          · rw [if_neg hc, if_neg (fun h => hc (c.2 h))]
            have hlt : Ieee.key a < Ieee.key b := by
              have h1 := (rank_real ra (up_get h.up (Nat.lt_succ_self i) g k)).2
              have h2 : Ieee.key b ≠ Ieee.key a := fun h => hc (.inr ((ord_eq_key rb ra).2 h))
              omega
            have hfk : 0 < Ieee.key f := by
              have h2 : Ieee.key f ≠ Ieee.key 0 := fun h => hc (.inl ((ord_eq_key hf.1 (Ieee.real_pos 0 (Nat.zero_le _)).1).2 h))
              have h3 : Ieee.key 0 = 0 := (Ieee.real_pos 0 (Nat.zero_le _)).2.2.2
              have := hf.2
              omega
            obtain ⟨d, p, d1, p1, rp, e1⟩ := mid_val ra rb hlt hff hfk
            obtain ⟨d', p', d1', p1', rp', e1'⟩ := mid_val ra' rb' (by rw [← ka.key.1, ← kb.key.1]; exact hlt) hff hfk
            rw [e1, e1']
            exact mid_same ka kb ra rb ra' rb' hff d1 d1' p1 p1' rp
    · have nb : ¬ Ieee.Real b0 := fun rb => r0 (rank_KE (bz 0 b0 e') (by' 0 a0 e) hr.symm rb).2
      rw [show ford a0 a0 = none from Ieee.order_nan_left a0 a0 r0, show ford b0 b0 = none from Ieee.order_nan_left b0 b0 nb, if_pos rfl, if_pos rfl]
end Go.Proofs.YthidjbobjjoekaaGreat
