/- The last place of a map whose number is not above a given one. Conditions: none beyond each theorem's own. -/
import Derived.Test.YtkobfjiadfedlaaPlB
import Derived.Test.YtkobfjiadfedlaaQt
import Derived.WalkKit
import Derived.WalkSpells
import Derived.WalkLawsBesides
import Derived.Deep.QuietTactic
import Derived.BigQuiet
import Derived.Deep.RegionHeld3
import Derived.Deep.RegionLawGrows
import Derived.StillTailTactics
namespace Go.Proofs.Ytkobfjiadfedlaa
open Go.RowKit
set_option linter.unusedVariables false
set_option linter.unusedSimpArgs false
attribute [local go_sem] Ext.cell Ext.froz
theorem IsMap.below {w w' : World} {b : Nat} {s : ByteArray} {P : List Pl} {L : List Ln} {pb pc lb lc : Nat} (h : IsMap w b s P L pb pc lb lc) (hb : Below w.heap.size w w') : IsMap w' b s P L pb pc lb lc := by
  refine ⟨(hb.block b h.bl).trans h.hm, fun k p hk => ?_, fun k p hk => ?_⟩
  · obtain ⟨h0, h1, h2, h3, h4⟩ := h.hp k p hk
    exact ⟨keeps hb h0, keeps hb h1, keeps hb h2, keeps hb h3, keeps hb h4⟩
  · obtain ⟨h0, h1, h2, h3⟩ := h.hl k p hk
    exact ⟨keeps hb h0, keeps hb h1, keeps hb h2, keeps hb h3⟩
/-- the number of the first index at which the predicate holds, where it never falls back -/
theorem search_mono (B0 : Nat) (w0 : World) (n : Nat) (hn : n ≤ 70000) (g : Nat → Bool) (c1 c2 c3 : Value)
    (hf : ∀ i w', i < n → Below B0 w0 w' → Calls Try.prog 43 #[.int .i64 i, c1, c2, c3] w' fun e w'' => e = .returned (.bool (g i)) ∧ Below w'.heap.size w' w'')
    (k0 : Nat) (hk0 : k0 ≤ n) (hlo : ∀ i, i < k0 → g i = false) (hhi : ∀ i, k0 ≤ i → i < n → g i = true)
    (w : World) (hw : Below B0 w0 w) (hB0 : B0 ≤ w.heap.size) :
    Calls Try.prog 42 #[.int .i64 n, .func (.func 43) #[] #[c1, c2, c3]] w fun e w' => e = .returned (.int .i64 k0) ∧ Below w.heap.size w w' := by
  refine (search_any B0 w0 n hn g c1 c2 c3 hf w hw hB0).mono ?_
  rintro e w' ⟨k, hk, h1, h2, rfl, hb⟩
  have : k = k0 := by
    rcases Nat.lt_trichotomy k k0 with h | h | h
    · have a := h2 (by omega); rw [hlo k h] at a; cases a
    · exact h
    · have a := h1 (by omega); rw [hhi (k - 1) (by omega) (by omega)] at a; cases a
  subst this
  exact ⟨rfl, hb⟩
def gAt (num : Pl → Nat) (P : List Pl) (n : Int) (i : Nat) : Bool := match P[i]? with
  | some p => decide (n < (num p : Int))
  | none => true
theorem gAt_some {num : Pl → Nat} {P : List Pl} {n : Int} {i : Nat} {p : Pl} (h : P[i]? = some p) : gAt num P n i = decide (n < (num p : Int)) := by simp [gAt, h]
set_option maxRecDepth 100000 in
theorem last_any {w : World} {b : Nat} {s : ByteArray} {P : List Pl} {L : List Ln} {pb pc lb lc : Nat} (h : IsMap w b s P L pb pc lb lc) (nf : Nat) (num : Pl → Nat)
    (hnf : nf = 35 ∧ num = Pl.b ∨ nf = 37 ∧ num = Pl.u) (hP2 : P.length ≤ 70000) (n : Int) (j : Nat) (p : Pl) (hp : P[j]? = some p)
    (hlo : ∀ i q, P[i]? = some q → i ≤ j → (num q : Int) ≤ n) (hhi : ∀ i q, P[i]? = some q → j < i → n < (num q : Int)) :
    Calls Try.prog 34 #[.pointer (some ⟨b, 0, none⟩), .int .i64 n, .func (.func nf) #[] #[]] w fun e w' => e = .returned (.agg #[.int .i64 p.b, .int .i64 p.r, .int .i64 p.u, .int .i64 p.l, .int .i64 p.c]) ∧ Below w.heap.size w w' := by
  have h0 := h.c1
  have H := hid h
  have hj : j < P.length := (List.getElem?_eq_some_iff.1 hp).1
  have HF := hid hnf
  have HL := hid hlo
  have HH := hid hhi
  have HP := hid hp
  clear h hnf hlo hhi hp
  go_enter Try.func34, Try.ntmps34
  go_wp2_with fail
  generalize hW : (((w.alloc (.cells #[.pointer (some ⟨b, 0, none⟩)] 23)).alloc (.cells #[.int .i64 n] 3)).alloc (.cells #[.func (.func nf) #[] #[]] 78)).alloc (.cells #[.int .i64 0, .int .i64 0, .int .i64 0, .int .i64 0, .int .i64 0] 33) = W
  have hsz : Hid (W.heap.size = w.heap.size + 1 + 1 + 1 + 1) := by subst hW; simp [Hid]
  have hBW : Below w.heap.size w W := by
    subst hW
    exact ((((Below.refl _ _).alloc (Nat.le_refl _) _).alloc (by simp) _).alloc (by simp; omega) _).alloc (by simp; omega) _
  have e3 : W.cell? ⟨w.heap.size, 0, none⟩ = some (.pointer (some ⟨b, 0, none⟩)) := by subst hW; simp [go_sem, World.cell?_alloc_past]
  have e4 : W.cell? ⟨w.heap.size + 1, 0, none⟩ = some (.int .i64 n) := by subst hW; simp [go_sem, World.cell?_alloc_past]
  have e5 : W.cell? ⟨w.heap.size + 1 + 1, 0, none⟩ = some (.func (.func nf) #[] #[]) := by subst hW; simp [go_sem, World.cell?_alloc_past]
  have e6 : W.cell? ⟨w.heap.size + 1 + 1 + 1, 0, none⟩ = some (.int .i64 0) ∧ W.cell? ⟨w.heap.size + 1 + 1 + 1, 1, none⟩ = some (.int .i64 0) ∧ W.cell? ⟨w.heap.size + 1 + 1 + 1, 2, none⟩ = some (.int .i64 0) ∧ W.cell? ⟨w.heap.size + 1 + 1 + 1, 3, none⟩ = some (.int .i64 0) ∧ W.cell? ⟨w.heap.size + 1 + 1 + 1, 4, none⟩ = some (.int .i64 0) := by subst hW; simp [go_sem, World.cell?_alloc_past]
  have f6 : ∀ k, W.frozen? ⟨w.heap.size + 1 + 1 + 1, k, none⟩ = false := by intro k; subst hW; simp [go_sem]
  clear hW
  have HM : Hid (IsMap W b s P L pb pc lb lc) := H.out.below hBW
  have k1 : W.cell? ⟨b, 1, none⟩ = some (.slice (some ⟨pb, 0, none⟩) P.length pc) := HM.out.c1
  have HC : Hid (∀ i w', i < P.length → Below W.heap.size W w' → Calls Try.prog 43 #[.int .i64 i, .pointer (some ⟨w.heap.size + 1 + 1, 0, none⟩), .pointer (some ⟨w.heap.size, 0, none⟩), .pointer (some ⟨w.heap.size + 1, 0, none⟩)] w' fun e w'' => e = .returned (.bool (gAt num P n i)) ∧ Below w'.heap.size w' w'') := by
    intro i w' hi hb
    obtain ⟨p, hp⟩ : ∃ p, P[i]? = some p := ⟨_, List.getElem?_eq_getElem hi⟩
    rw [gAt_some hp]
    exact last1_any (HM.out.below hb) nf num HF.out i p hp hP2 n _ _ _ (keeps hb e5) (keeps hb e3) (keeps hb e4)
  have HX : Hid (∀ x : Ext W, Calls Try.prog 42 #[.int .i64 P.length, .func (.func 43) #[] #[.pointer (some ⟨w.heap.size + 1 + 1, 0, none⟩), .pointer (some ⟨w.heap.size, 0, none⟩), .pointer (some ⟨w.heap.size + 1, 0, none⟩)]] x.w fun e w' => e = .returned (.int .i64 ((j : Int) + 1)) ∧ Below x.w.heap.size x.w w') := by
    intro x
    refine search_mono W.heap.size W P.length hP2 (gAt num P n) _ _ _ HC.out (j + 1) (by omega) (fun i hi => ?_) (fun i hi hi2 => ?_) x.w x.h x.h.size
    · obtain ⟨q, hq⟩ : ∃ q, P[i]? = some q := ⟨_, List.getElem?_eq_getElem (by omega)⟩
      rw [gAt_some hq]
      have := HL.out i q hq (by omega)
      simpa using this
    · obtain ⟨q, hq⟩ : ∃ q, P[i]? = some q := ⟨_, List.getElem?_eq_getElem (by omega)⟩
      rw [gAt_some hq]
      have := HH.out i q hq (by omega)
      simpa using this
  obtain ⟨g0, g1, g2, g3, g4⟩ := e6
  obtain ⟨q0, q1, q2, q3, q4⟩ := HM.out.hp j p HP.out
  have t1 : IntKind.i64.wrap (j : Int) = j := IntWalk.i64_in _ (by omega)
  have t2 : (0 : Int) ≤ j := by omega
  have t3 : (j : Int) < P.length := by omega
  clear h0 e4 e5 HC
  refine ext_tail 14 (by kernel_rfl) (by kernel_rfl) ?_
  simp only [List.take_succ_cons, List.take_zero, List.drop_succ_cons, List.drop_zero]
  repeat (quiet_step (with_reducible exact Ext.call (HX.out _)))
  refine wpQuiet_nil ?_
  rintro _ ⟨x, rfl⟩
  go_wp2
  have hb2 : Below w.heap.size w x.w := hBW.trans (x.h.mono hBW.size)
  exact bodyPost_ret (v := .agg #[.int .i64 p.b, .int .i64 p.r, .int .i64 p.u, .int .i64 p.l, .int .i64 p.c]) (by simp [results, Try.results34, go_sem, *]) rfl ⟨rfl, ((((hb2.setCell (by simp; omega) _).setCell (by simp; omega) _).setCell (by simp; omega) _).setCell (by simp; omega) _).setCell (by simp; omega) _⟩

theorem new_block {w w' : World} {c : Array Value} {T : TypeId} (hb : Below (w.alloc (.cells c T)).heap.size (w.alloc (.cells c T)) w') : w'.heap[w.heap.size]? = some (.cells c T (0, 0)) := by
  rw [hb.block w.heap.size (by simp)]
  exact heap_alloc_new w _
theorem blk_cell {w : World} {b k : Nat} {c : Array Value} {T : TypeId} {v : Value} (h : w.heap[b]? = some (.cells c T (0, 0))) (hk : c[k]? = some v) : w.cell? ⟨b, k, none⟩ = some v := by
  simp [World.cell?, h, hk]
theorem blk_froz {w : World} {b : Nat} {c : Array Value} {T : TypeId} (h : w.heap[b]? = some (.cells c T (0, 0))) : ∀ k, w.frozen? ⟨b, k, none⟩ = false := by
  intro k; simp [World.frozen?, h]
end Go.Proofs.Ytkobfjiadfedlaa
