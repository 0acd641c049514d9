/- The closure that orders a tally's entries. Conditions: none. -/
import Derived.Test.YthidjbobjjoekaaGreatTaA
import Derived.Test.YthidjbobjjoekaaGreatQx
import Derived.Deep.QuietTactic
import Derived.BigQuiet
namespace Go.Proofs.YthidjbobjjoekaaGreat
open Go.RowKit Go.Lib Go.Sort Go.Shelf
set_option linter.unusedVariables false
set_option linter.unusedSimpArgs false
theorem draw_tailB {P : Program} {id : Nat} {Q : Exit → Act → World → Prop} {a : Act} {w : World} {l : List Oper} (n : Nat) (hm : P.follows .mixedOrders = true) (hB : Region.lexTailB .any l.toArray n = true)
    (h : Box (wpQuiet P l.toArray (fun w' => ∃ n, w' = w.drewN n) (fun a' => ∀ w', (∃ n, w' = w.drewN n) → wpList P l.toArray Q (l.drop n) a' w') (l.take n) a)) : (Code.region id l.toArray true).wp P Q a w := quiet_tail n hm hB ⟨1, rfl⟩ h.out
/-- an entry: a word and its count -/
abbrev Ent := ByteArray × Int
def encE (x : Ent) : List Value := [.string x.1, .int .i64 x.2]
def cfE (x y : Ent) : Int := orI (cmpI y.2 x.2) (cmpS x.1 y.1)
theorem quiet_flip {P : Program} {f : FuncId} {args : Array Value} {w : World} {n : Nat} {v : Value}
    (h : Calls P f args (w.drewN n) fun e w' => e = .returned v ∧ w.drewN n = w') : Calls P f args (w.drewN n) fun e w'' => e = .returned v ∧ ∃ m, w'' = w.drewN m :=
  h.mono fun _ _ ⟨he, hm⟩ => ⟨he, n, hm.symm⟩
theorem new_block {w w' : World} {c : Array Value} {T : TypeId} (hb : Below (w.alloc (.cells c T)).heap.size (w.alloc (.cells c T)) w') : w'.heap[w.heap.size]? = some (.cells c T (0, 0)) := by
  rw [hb.block w.heap.size (by simp)]
  exact heap_alloc_new w _
theorem blk_cell {w : World} {b k : Nat} {c : Array Value} {T : TypeId} {v : Value} (h : w.heap[b]? = some (.cells c T (0, 0))) (hk : c[k]? = some v) : w.cell? ⟨b, k, none⟩ = some v := by
  simp [World.cell?, h, hk]
theorem blk_froz {w : World} {b : Nat} {c : Array Value} {T : TypeId} (h : w.heap[b]? = some (.cells c T (0, 0))) : ∀ k, w.frozen? ⟨b, k, none⟩ = false := by
  intro k; simp [World.frozen?, h]
theorem cell_new (X : World) (c : Array Value) (T : TypeId) (B k : Nat) (h : B = X.heap.size) (v : Value) (hk : c[k]? = some v) : (X.alloc (.cells c T)).cell? ⟨B, k, none⟩ = some v := by
  subst h; exact blk_cell (heap_alloc_new X _) hk
theorem stop_here {p : Prop} (h : Hid p) : p := h.out
set_option maxHeartbeats 1000000 in
theorem closure78 (x y : Ent) (W : World) : Calls Tryz.prog 60 #[.agg #[.string x.1, .int .i64 x.2], .agg #[.string y.1, .int .i64 y.2]] W fun e w' => e = .returned (.int .i64 (cfE x y)) ∧ ∃ q os', w' = grow (W.drewN q) os' := by
  obtain ⟨x1, x2⟩ := x
  obtain ⟨y1, y2⟩ := y
  unfold cfE
  dsimp only
  have hI := hid (cmpi_any y2 x2)
  have hS := hid (cmps_any x1 y1)
  generalize cmpI y2 x2 = a at hI ⊢
  generalize cmpS x1 y1 = b at hS ⊢
  go_enter Tryz.func60, Tryz.ntmps60
  go_wp2_with fail
  refine draw_tailB 10 (by kernel_rfl) (by kernel_rfl) ?_
  simp only [List.take_succ_cons, List.take_zero, List.drop_succ_cons, List.drop_zero]
  refine bq_step (fun K hK => ?_); go_simp; refine ⟨hK _ ?_⟩; clear hK K
  refine bq_step (fun K hK => ?_); go_simp; refine ⟨hK _ ?_⟩; clear hK K
  refine bq_step (fun K hK => ?_); go_simp; refine ⟨hK _ ?_⟩; clear hK K
  refine bq_step (fun K hK => ?_); go_simp; refine ⟨hK _ ?_⟩; clear hK K
  refine bq_step (fun K hK => ?_); go_simp; refine ⟨?_⟩; apply Exists.intro; refine ⟨fun x => ?_, hK _ ?_⟩
  · with_reducible exact quiet_flip (hI.out _)
  clear hK K
  refine bq_step (fun K hK => ?_); go_simp; refine ⟨hK _ ?_⟩; clear hK K
  refine bq_step (fun K hK => ?_); go_simp; refine ⟨hK _ ?_⟩; clear hK K
  refine bq_step (fun K hK => ?_); go_simp; refine ⟨hK _ ?_⟩; clear hK K
  refine bq_step (fun K hK => ?_); go_simp; refine ⟨hK _ ?_⟩; clear hK K
  refine bq_step (fun K hK => ?_); go_simp; refine ⟨?_⟩; apply Exists.intro; refine ⟨fun x => ?_, hK _ ?_⟩
  · with_reducible exact quiet_flip (hS.out _)
  clear hK K
  refine bq_nil ?_
  rintro _ ⟨q, rfl⟩
  go_wp2_with fail
  with_reducible refine Calls.mono (or_any _ (W.heap.size + 1 + 1) a b ?_ ?_) ?_
  · exact cell_new _ _ _ _ _ (by show _ = ((W.alloc _).alloc _).heap.size; simp) _ rfl
  · exact cell_new _ _ _ _ _ (by show _ = ((W.alloc _).alloc _).heap.size; simp) _ rfl
  rintro e w' ⟨rfl, rfl⟩
  go_wp2_with fail
  go_ret
  exact ⟨rfl, q, _, by rw [alloc_eq_grow, alloc_eq_grow, alloc_eq_grow, grow_grow]; exact (show grow (grow (W.drewN q) _) _ = grow (W.drewN q) _ from grow_grow _ _ _)⟩
theorem cmpS_lt (x y : ByteArray) : cmpS x y < 0 ↔ x.data.toList < y.data.toList := by
  unfold cmpS
  rw [Proofs.bytesLess_eq, Lib.toList_data, Lib.toList_data]
  by_cases h : x.data.toList < y.data.toList
  · simp [h]
  · simp [h]
    split <;> simp
theorem ba_ext {x y : ByteArray} (h : x.data.toList = y.data.toList) : x = y := by
  cases x; cases y; simp at h; rw [h]
theorem cmpI_spec (a b : Int) : (cmpI a b < 0 ↔ a < b) ∧ (cmpI a b = 0 ↔ a = b) := by
  unfold cmpI
  split
  · constructor <;> constructor <;> intro h <;> omega
  · split
    · constructor <;> constructor <;> intro h <;> omega
    · constructor <;> constructor <;> intro h <;> omega
theorem lst_tri (a b : List UInt8) : a < b ∨ a = b ∨ b < a := by
  rcases Std.lt_trichotomy a b with h | h | h
  · exact .inl h
  · exact .inr (.inl h)
  · exact .inr (.inr h)
/-- the order of entries: the greater count first, then the lesser word -/
def ltE (x y : Ent) : Prop := y.2 < x.2 ∨ y.2 = x.2 ∧ x.1.data.toList < y.1.data.toList
theorem cfE_lt (x y : Ent) : cfE x y < 0 ↔ ltE x y := by
  unfold cfE orI ltE
  obtain ⟨h1, h2⟩ := cmpI_spec y.2 x.2
  split
  · rename_i h
    rw [cmpS_lt]
    have := h2.1 h
    constructor
    · exact fun h => .inr ⟨this, h⟩
    · rintro (h | ⟨_, h⟩)
      · omega
      · exact h
  · rename_i h
    rw [h1]
    constructor
    · exact fun h => .inl h
    · rintro (h3 | ⟨h3, _⟩)
      · exact h3
      · exact absurd (h2.2 h3) h
theorem ltOf_iff (x y : Ent) : ltOf cfE x y = true ↔ ltE x y := by unfold ltOf; rw [decide_eq_true_iff]; exact cfE_lt x y
theorem ltOf_not (x y : Ent) : ltOf cfE x y = false ↔ ¬ ltE x y := by
  rw [← ltOf_iff]; cases ltOf cfE x y <;> simp
theorem ltE_irrefl (x : Ent) : ¬ ltE x x := by
  rintro (h | ⟨_, h⟩)
  · omega
  · exact List.lt_irrefl _ h
theorem ltE_trans {x y z : Ent} (h : ltE x y) (k : ltE y z) : ltE x z := by
  rcases h with h | ⟨h1, h2⟩ <;> rcases k with k | ⟨k1, k2⟩
  · exact .inl (by omega)
  · exact .inl (by omega)
  · exact .inl (by omega)
  · exact .inr ⟨by omega, List.lt_trans h2 k2⟩
theorem ltE_total (x y : Ent) : ltE x y ∨ x = y ∨ ltE y x := by
  rcases Int.lt_trichotomy x.2 y.2 with h | h | h
  · exact .inr (.inr (.inl h))
  · rcases lst_tri x.1.data.toList y.1.data.toList with k | k | k
    · exact .inl (.inr ⟨h.symm, k⟩)
    · exact .inr (.inl (Prod.ext (ba_ext k) h))
    · exact .inr (.inr (.inr ⟨h, k⟩))
  · exact .inl (.inl h)
theorem swoE : SWO (ltOf cfE) where
  irrefl x := by rw [ltOf_not]; exact ltE_irrefl x
  trans x y z h k := by rw [ltOf_iff] at *; exact ltE_trans h k
  ntrans x y z h k := by
    rw [ltOf_not] at *
    intro hxz
    rcases ltE_total x y with h1 | h1 | h1
    · exact h h1
    · subst h1; exact k hxz
    · exact k (ltE_trans h1 hxz)
theorem totE (x y : Ent) (h : ltOf cfE x y = false) (k : ltOf cfE y x = false) : x = y := by
  rw [ltOf_not] at *
  rcases ltE_total x y with h1 | h1 | h1
  · exact absurd h1 h
  · exact h1
  · exact absurd h1 k
end Go.Proofs.YthidjbobjjoekaaGreat
