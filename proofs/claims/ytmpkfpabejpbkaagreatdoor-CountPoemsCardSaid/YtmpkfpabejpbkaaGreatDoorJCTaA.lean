/- The order of a tally's entries: cmp.Compare, cmp.Or, the closure handed to slices.SortFunc. Conditions: those of each theorem. -/
import Derived.Test.YtmpkfpabejpbkaaGreatDoorProg
import Derived.Shelf.SlSortCmp.WholeK
import Derived.StillTail
import Derived.StillTailTactics
import Derived.WalkKit
import Derived.WalkSpells
import Derived.WalkLawsBesides
import Derived.Outline
import Derived.Lib.Hide
import Derived.Test.YtmpkfpabejpbkaaGreatDoorCQx
import Derived.Deep.QuietTactic
import Derived.BigQuiet
import Derived.Maps.RangeWalk
import Derived.Maps.StringElems
import Derived.StringKeys
namespace Go.Proofs.YtmpkfpabejpbkaaGreatDoor.C
open Go.RowKit Go.Lib Go.Sort Go.Shelf
set_option linter.unusedVariables false
set_option linter.unusedSimpArgs false
theorem isnans_any (x : ByteArray) (w : World) : Calls Tryz.prog 87 #[.string x] w fun e w' => e = .returned (.bool false) ∧ w = w' := by
  go_enter Tryz.func87, Tryz.ntmps87
  go_wp2
  go_ret
  exact ⟨rfl, rfl⟩
theorem isnani_any (x : Int) (w : World) : Calls Tryz.prog 86 #[.int .i64 x] w fun e w' => e = .returned (.bool false) ∧ w = w' := by
  go_enter Tryz.func86, Tryz.ntmps86
  go_wp2
  go_ret
  exact ⟨rfl, rfl⟩
def cmpS (x y : ByteArray) : Int := if Op.bytesLess x.toList y.toList = true then -1 else if (x.toList == y.toList) = true then 0 else 1
def cmpI (x y : Int) : Int := if x < y then -1 else if y < x then 1 else 0
theorem cmps_any (x y : ByteArray) (w : World) : Calls Tryz.prog 72 #[.string x, .string y] w fun e w' => e = .returned (.int .i64 (cmpS x y)) ∧ w = w' := by
  have hX := hid isnans_any
  unfold cmpS
  cases h1 : Op.bytesLess x.toList y.toList
  · cases h2 : (x.toList == y.toList)
    all_goals
      have h3 : (!x.toList == y.toList) = !(x.toList == y.toList) := rfl
      rw [h2] at h3
      go_enter Tryz.func72, Tryz.ntmps72
      go_wp2_with (go_at_call 87; (with_reducible refine Calls.mono (hX.out _ _) ?_); rintro e w' ⟨rfl, rfl⟩)
      go_ret
      exact ⟨rfl, rfl⟩
  · go_enter Tryz.func72, Tryz.ntmps72
    go_wp2_with (go_at_call 87; (with_reducible refine Calls.mono (hX.out _ _) ?_); rintro e w' ⟨rfl, rfl⟩)
    go_ret
    exact ⟨rfl, rfl⟩
theorem cmpi_any (x y : Int) (w : World) : Calls Tryz.prog 71 #[.int .i64 x, .int .i64 y] w fun e w' => e = .returned (.int .i64 (cmpI x y)) ∧ w = w' := by
  have hX := hid isnani_any
  unfold cmpI
  by_cases h1 : x < y
  · rw [if_pos h1]
    go_enter Tryz.func71, Tryz.ntmps71
    go_wp2_with (go_at_call 86; (with_reducible refine Calls.mono (hX.out _ _) ?_); rintro e w' ⟨rfl, rfl⟩)
    go_ret
    exact ⟨rfl, rfl⟩
  · rw [if_neg h1]
    by_cases h2 : y < x
    · rw [if_pos h2]
      go_enter Tryz.func71, Tryz.ntmps71
      go_wp2_with (go_at_call 86; (with_reducible refine Calls.mono (hX.out _ _) ?_); rintro e w' ⟨rfl, rfl⟩)
      go_ret
      exact ⟨rfl, rfl⟩
    · rw [if_neg h2]
      go_enter Tryz.func71, Tryz.ntmps71
      go_wp2_with (go_at_call 86; (with_reducible refine Calls.mono (hX.out _ _) ?_); rintro e w' ⟨rfl, rfl⟩)
      go_ret
      exact ⟨rfl, rfl⟩
/-- cmp.Or of two numbers -/
def orI (a b : Int) : Int := if a = 0 then b else a
theorem or_any (W : World) (g : Nat) (a b : Int) (h0 : W.cell? ⟨g, 0, none⟩ = some (.int .i64 a)) (h1 : W.cell? ⟨g, 1, none⟩ = some (.int .i64 b)) :
    Calls Tryz.prog 70 #[.slice (some ⟨g, 0, none⟩) 2 2] W fun e w' => e = .returned (.int .i64 (orI a b)) ∧ W = w' := by
  unfold orI
  by_cases ha : a = 0
  · subst ha
    rw [if_pos rfl]
    by_cases hb : b = 0
    · subst hb
      go_enter Tryz.func70, Tryz.ntmps70
      go_wp2_with fail
      refine wp_loop_rounds 3 ?_
      rw [rounds_succ]
      go_wp2_with fail
      rw [rounds_succ]
      go_wp2_with fail
      rw [rounds_succ]
      go_wp2_with fail
      go_ret
      exact ⟨rfl, rfl⟩
    · have hb' : (b == 0) = false := by simpa using hb
      have hb'' : (b != 0) = true := by simpa using hb
      go_enter Tryz.func70, Tryz.ntmps70
      go_wp2_with fail
      refine wp_loop_rounds 2 ?_
      rw [rounds_succ]
      go_wp2_with fail
      rw [rounds_succ]
      go_wp2_with fail
      go_ret
      exact ⟨rfl, rfl⟩
  · rw [if_neg ha]
    have hb' : (a == 0) = false := by simpa using ha
    have hb'' : (a != 0) = true := by simpa using ha
    go_enter Tryz.func70, Tryz.ntmps70
    go_wp2_with fail
    refine wp_loop_rounds 1 ?_
    rw [rounds_succ]
    go_wp2_with fail
    go_ret
    exact ⟨rfl, rfl⟩
end Go.Proofs.YtmpkfpabejpbkaaGreatDoor.C
/- The closure that orders a tally's entries. Conditions: none. -/
namespace Go.Proofs.YtmpkfpabejpbkaaGreatDoor.C
open Go.RowKit Go.Lib Go.Sort Go.Shelf
set_option linter.unusedVariables false
set_option linter.unusedSimpArgs false
theorem draw_tailB {P : Program} {id : Nat} {Q : Exit → Act → World → Prop} {a : Act} {w : World} {l : List Oper} (n : Nat) (hm : P.follows .mixedOrders = true) (hB : Region.lexTailB .any l.toArray n = true)
    (h : Box (wpQuiet P l.toArray (fun w' => ∃ n, w' = w.drewN n) (fun a' => ∀ w', (∃ n, w' = w.drewN n) → wpList P l.toArray Q (l.drop n) a' w') (l.take n) a)) : (Code.region id l.toArray true).wp P Q a w := quiet_tail n hm hB ⟨1, rfl⟩ h.out
/-- an entry: a word and its count -/
abbrev Ent := ByteArray × Int
def encE (x : Ent) : List Value := [.string x.1, .int .i64 x.2]
def cfE (x y : Ent) : Int := orI (cmpI y.2 x.2) (cmpS x.1 y.1)
theorem quiet_flip {P : Program} {f : FuncId} {args : Array Value} {w : World} {n : Nat} {v : Value}
    (h : Calls P f args (w.drewN n) fun e w' => e = .returned v ∧ w.drewN n = w') : Calls P f args (w.drewN n) fun e w'' => e = .returned v ∧ ∃ m, w'' = w.drewN m :=
  h.mono fun _ _ ⟨he, hm⟩ => ⟨he, n, hm.symm⟩
theorem new_block {w w' : World} {c : Array Value} {T : TypeId} (hb : Below (w.alloc (.cells c T)).heap.size (w.alloc (.cells c T)) w') : w'.heap[w.heap.size]? = some (.cells c T (0, 0)) := by
  rw [hb.block w.heap.size (by simp)]
  exact heap_alloc_new w _
theorem blk_cell {w : World} {b k : Nat} {c : Array Value} {T : TypeId} {v : Value} (h : w.heap[b]? = some (.cells c T (0, 0))) (hk : c[k]? = some v) : w.cell? ⟨b, k, none⟩ = some v := by
  simp [World.cell?, h, hk]
theorem blk_froz {w : World} {b : Nat} {c : Array Value} {T : TypeId} (h : w.heap[b]? = some (.cells c T (0, 0))) : ∀ k, w.frozen? ⟨b, k, none⟩ = false := by
  intro k; simp [World.frozen?, h]
theorem cell_new (X : World) (c : Array Value) (T : TypeId) (B k : Nat) (h : B = X.heap.size) (v : Value) (hk : c[k]? = some v) : (X.alloc (.cells c T)).cell? ⟨B, k, none⟩ = some v := by
  subst h; exact blk_cell (heap_alloc_new X _) hk
theorem stop_here {p : Prop} (h : Hid p) : p := h.out
set_option maxHeartbeats 1000000 in
theorem closure78 (x y : Ent) (W : World) : Calls Tryz.prog 69 #[.agg #[.string x.1, .int .i64 x.2], .agg #[.string y.1, .int .i64 y.2]] W fun e w' => e = .returned (.int .i64 (cfE x y)) ∧ ∃ q os', w' = grow (W.drewN q) os' := by
  obtain ⟨x1, x2⟩ := x
  obtain ⟨y1, y2⟩ := y
  unfold cfE
  dsimp only
  have hI := hid (cmpi_any y2 x2)
  have hS := hid (cmps_any x1 y1)
  generalize cmpI y2 x2 = a at hI ⊢
  generalize cmpS x1 y1 = b at hS ⊢
  go_enter Tryz.func69, Tryz.ntmps69
  go_wp2_with fail
  refine draw_tailB 10 (by kernel_rfl) (by kernel_rfl) ?_
  simp only [List.take_succ_cons, List.take_zero, List.drop_succ_cons, List.drop_zero]
  refine bq_step (fun K hK => ?_); go_simp; refine ⟨hK _ ?_⟩; clear hK K
  refine bq_step (fun K hK => ?_); go_simp; refine ⟨hK _ ?_⟩; clear hK K
  refine bq_step (fun K hK => ?_); go_simp; refine ⟨hK _ ?_⟩; clear hK K
  refine bq_step (fun K hK => ?_); go_simp; refine ⟨hK _ ?_⟩; clear hK K
  refine bq_step (fun K hK => ?_); go_simp; refine ⟨?_⟩; apply Exists.intro; refine ⟨fun x => ?_, hK _ ?_⟩
  · with_reducible exact quiet_flip (hI.out _)
  clear hK K
  refine bq_step (fun K hK => ?_); go_simp; refine ⟨hK _ ?_⟩; clear hK K
  refine bq_step (fun K hK => ?_); go_simp; refine ⟨hK _ ?_⟩; clear hK K
  refine bq_step (fun K hK => ?_); go_simp; refine ⟨hK _ ?_⟩; clear hK K
  refine bq_step (fun K hK => ?_); go_simp; refine ⟨hK _ ?_⟩; clear hK K
  refine bq_step (fun K hK => ?_); go_simp; refine ⟨?_⟩; apply Exists.intro; refine ⟨fun x => ?_, hK _ ?_⟩
  · with_reducible exact quiet_flip (hS.out _)
  clear hK K
  refine bq_nil ?_
  rintro _ ⟨q, rfl⟩
  go_wp2_with fail
  with_reducible refine Calls.mono (or_any _ (W.heap.size + 1 + 1) a b ?_ ?_) ?_
  · exact cell_new _ _ _ _ _ (by show _ = ((W.alloc _).alloc _).heap.size; simp) _ rfl
  · exact cell_new _ _ _ _ _ (by show _ = ((W.alloc _).alloc _).heap.size; simp) _ rfl
  rintro e w' ⟨rfl, rfl⟩
  go_wp2_with fail
  go_ret
  exact ⟨rfl, q, _, by rw [alloc_eq_grow, alloc_eq_grow, alloc_eq_grow, grow_grow]; exact (show grow (grow (W.drewN q) _) _ = grow (W.drewN q) _ from grow_grow _ _ _)⟩
theorem cmpS_lt (x y : ByteArray) : cmpS x y < 0 ↔ x.data.toList < y.data.toList := by
  unfold cmpS
  rw [Proofs.bytesLess_eq, Lib.toList_data, Lib.toList_data]
  by_cases h : x.data.toList < y.data.toList
  · simp [h]
  · simp [h]
    split <;> simp
theorem ba_ext {x y : ByteArray} (h : x.data.toList = y.data.toList) : x = y := by
  cases x; cases y; simp at h; rw [h]
theorem cmpI_spec (a b : Int) : (cmpI a b < 0 ↔ a < b) ∧ (cmpI a b = 0 ↔ a = b) := by
  unfold cmpI
  split
  · constructor <;> constructor <;> intro h <;> omega
  · split
    · constructor <;> constructor <;> intro h <;> omega
    · constructor <;> constructor <;> intro h <;> omega
theorem lst_tri (a b : List UInt8) : a < b ∨ a = b ∨ b < a := by
  rcases Std.lt_trichotomy a b with h | h | h
  · exact .inl h
  · exact .inr (.inl h)
  · exact .inr (.inr h)
/-- the order of entries: the greater count first, then the lesser word -/
def ltE (x y : Ent) : Prop := y.2 < x.2 ∨ y.2 = x.2 ∧ x.1.data.toList < y.1.data.toList
theorem cfE_lt (x y : Ent) : cfE x y < 0 ↔ ltE x y := by
  unfold cfE orI ltE
  obtain ⟨h1, h2⟩ := cmpI_spec y.2 x.2
  split
  · rename_i h
    rw [cmpS_lt]
    have := h2.1 h
    constructor
    · exact fun h => .inr ⟨this, h⟩
    · rintro (h | ⟨_, h⟩)
      · omega
      · exact h
  · rename_i h
    rw [h1]
    constructor
    · exact fun h => .inl h
    · rintro (h3 | ⟨h3, _⟩)
      · exact h3
      · exact absurd (h2.2 h3) h
theorem ltOf_iff (x y : Ent) : ltOf cfE x y = true ↔ ltE x y := by unfold ltOf; rw [decide_eq_true_iff]; exact cfE_lt x y
theorem ltOf_not (x y : Ent) : ltOf cfE x y = false ↔ ¬ ltE x y := by
  rw [← ltOf_iff]; cases ltOf cfE x y <;> simp
theorem ltE_irrefl (x : Ent) : ¬ ltE x x := by
  rintro (h | ⟨_, h⟩)
  · omega
  · exact List.lt_irrefl _ h
theorem ltE_trans {x y z : Ent} (h : ltE x y) (k : ltE y z) : ltE x z := by
  rcases h with h | ⟨h1, h2⟩ <;> rcases k with k | ⟨k1, k2⟩
  · exact .inl (by omega)
  · exact .inl (by omega)
  · exact .inl (by omega)
  · exact .inr ⟨by omega, List.lt_trans h2 k2⟩
theorem ltE_total (x y : Ent) : ltE x y ∨ x = y ∨ ltE y x := by
  rcases Int.lt_trichotomy x.2 y.2 with h | h | h
  · exact .inr (.inr (.inl h))
  · rcases lst_tri x.1.data.toList y.1.data.toList with k | k | k
    · exact .inl (.inr ⟨h.symm, k⟩)
    · exact .inr (.inl (Prod.ext (ba_ext k) h))
    · exact .inr (.inr (.inr ⟨h, k⟩))
  · exact .inl (.inl h)
theorem swoE : SWO (ltOf cfE) where
  irrefl x := by rw [ltOf_not]; exact ltE_irrefl x
  trans x y z h k := by rw [ltOf_iff] at *; exact ltE_trans h k
  ntrans x y z h k := by
    rw [ltOf_not] at *
    intro hxz
    rcases ltE_total x y with h1 | h1 | h1
    · exact h h1
    · subst h1; exact k hxz
    · exact k (ltE_trans h1 hxz)
theorem totE (x y : Ent) (h : ltOf cfE x y = false) (k : ltOf cfE y x = false) : x = y := by
  rw [ltOf_not] at *
  rcases ltE_total x y with h1 | h1 | h1
  · exact absurd h1 h
  · exact h1
  · exact absurd h1 k
end Go.Proofs.YtmpkfpabejpbkaaGreatDoor.C
/- A tally's entries as a list, and what a map says of them: the plain laws. No program walked. Conditions: those of each theorem. -/
namespace Go.Proofs.YtmpkfpabejpbkaaGreatDoor.C
open Go.RowKit Go.Lib Go.Sort Go.Shelf
set_option linter.unusedVariables false
set_option linter.unusedSimpArgs false
abbrev Dt := DataW Unit
def keyL (k : ByteArray) : Lit := .string k.data.toList
def numD (n : Int) : Dt := .lit (.int .i64 n)
theorem keyL_inj {a b : ByteArray} (h : keyL a = keyL b) : a = b := by
  unfold keyL at h
  exact ba_ext (Lit.string.inj h)
theorem keyL_is (k : ByteArray) : WideAt.IsKeyLit (keyL k) := trivial
def countL : List Ent → ByteArray → Int
  | [], _ => 0
  | x :: r, k => if x.1 = k then x.2 else countL r k
def keysL (L : List Ent) : List ByteArray := L.map (·.1)
instance memDec (k : ByteArray) (l : List ByteArray) : Decidable (k ∈ l) := @List.instDecidableMemOfLawfulBEq ByteArray instBEqOfDecidableEq inferInstance k l
def sumL : List Ent → Int
  | [] => 0
  | x :: r => x.2 + sumL r
instance (x y : Ent) : Decidable (ltE x y) := by unfold ltE; infer_instance
def insE (x : Ent) : List Ent → List Ent
  | [] => [x]
  | y :: r => if ltE x y then x :: y :: r else y :: insE x r
def dropL (L : List Ent) (k : ByteArray) : List Ent := L.filter (fun x => decide (x.1 ≠ k))
/-- a word's count, so many more: in order -/
def putL (L : List Ent) (k : ByteArray) (n : Int) : List Ent := insE (k, countL L k + n) (dropL L k)
theorem insE_perm (x : Ent) : ∀ l, (insE x l).Perm (x :: l)
  | [] => List.Perm.refl _
  | y :: r => by
    unfold insE
    split
    · exact List.Perm.refl _
    · exact (List.Perm.cons y (insE_perm x r)).trans (List.Perm.swap x y r)
theorem insE_mem {x z : Ent} {l : List Ent} : z ∈ insE x l ↔ z = x ∨ z ∈ l := by
  rw [(insE_perm x l).mem_iff]; simp
theorem insE_sorted (x : Ent) : ∀ l : List Ent, l.Pairwise ltE → (∀ y ∈ l, y ≠ x) → (insE x l).Pairwise ltE
  | [], _, _ => by simp [insE]
  | y :: r, h, hx => by
    obtain ⟨h1, h2⟩ := List.pairwise_cons.1 h
    unfold insE
    split
    · rename_i hlt
      refine List.pairwise_cons.2 ⟨fun z hz => ?_, h⟩
      rcases List.mem_cons.1 hz with rfl | hz
      · exact hlt
      · exact ltE_trans hlt (h1 z hz)
    · rename_i hlt
      have hyx : ltE y x := by
        rcases ltE_total x y with h3 | h3 | h3
        · exact absurd h3 hlt
        · exact absurd h3.symm (hx y (List.mem_cons_self ..))
        · exact h3
      refine List.pairwise_cons.2 ⟨fun z hz => ?_, insE_sorted x r h2 (fun z hz => hx z (List.mem_cons_of_mem _ hz))⟩
      rcases insE_mem.1 hz with rfl | hz
      · exact hyx
      · exact h1 z hz
theorem dropL_mem {L : List Ent} {k : ByteArray} {x : Ent} : x ∈ dropL L k ↔ x ∈ L ∧ x.1 ≠ k := by unfold dropL; simp
theorem putL_sorted {L : List Ent} (h : L.Pairwise ltE) (k : ByteArray) (n : Int) : (putL L k n).Pairwise ltE := by
  refine insE_sorted _ _ (h.filter _) fun y hy e => ?_
  exact (dropL_mem.1 hy).2 (by rw [e])
theorem sorted_eq {l l' : List Ent} (h : l.Pairwise ltE) (h' : l'.Pairwise ltE) (hp : l.Perm l') : l = l' :=
  List.Perm.eq_of_pairwise (le := ltE) (fun a b _ _ h1 h2 => absurd (ltE_trans h1 h2) (ltE_irrefl a)) h h' hp
theorem countL_mem : ∀ {L : List Ent}, (keysL L).Nodup → ∀ {x}, x ∈ L → countL L x.1 = x.2
  | y :: r, h, x, hx => by
    unfold keysL at h
    rw [List.map_cons, List.nodup_cons] at h
    unfold countL
    rcases List.mem_cons.1 hx with rfl | hx
    · rw [if_pos rfl]
    · rw [if_neg, countL_mem h.2 hx]
      intro e
      exact h.1 (by rw [e]; exact List.mem_map_of_mem hx)
theorem countL_no : ∀ {L : List Ent} {k : ByteArray}, k ∉ keysL L → countL L k = 0
  | [], _, _ => rfl
  | y :: r, k, h => by
    unfold keysL at h
    rw [List.map_cons, List.mem_cons, not_or] at h
    unfold countL
    rw [if_neg (fun e => h.1 e.symm)]
    exact countL_no h.2
/-- the list tells what the map holds -/
structure Tly (D : Dt) (L : List Ent) : Prop where
  nd : (keysL L).Nodup
  at_ : ∀ x ∈ L, ∀ z, D.atKey (keyL x.1) z = numD x.2
  no : ∀ k, k ∉ keysL L → Maps.has D (keyL k) = false
  size : Maps.size D = L.length
theorem Tly.has {D : Dt} {L : List Ent} (h : Tly D L) (k : ByteArray) : Maps.has D (keyL k) = decide (k ∈ keysL L) := by
  by_cases hk : k ∈ keysL L
  · rw [decide_eq_true hk]
    obtain ⟨x, hx, rfl⟩ := List.mem_map.1 hk
    exact Maps.has_true_of_atKey (h.at_ x hx)
  · rw [decide_eq_false hk]; exact h.no k hk
theorem Tly.count {D : Dt} {L : List Ent} (h : Tly D L) (k : ByteArray) : D.atKey (keyL k) (numD 0) = numD (countL L k) := by
  by_cases hk : k ∈ keysL L
  · obtain ⟨x, hx, rfl⟩ := List.mem_map.1 hk
    rw [h.at_ x hx, countL_mem h.nd hx]
  · rw [countL_no hk, Maps.atKey_of_not_has (h.no k hk)]
theorem Tly.empty : Tly (.map []) [] := ⟨List.nodup_nil, fun x hx => by simp at hx, fun k _ => rfl, rfl⟩
theorem keys_put (L : List Ent) (k : ByteArray) (n : Int) (k' : ByteArray) : k' ∈ keysL (putL L k n) ↔ k' = k ∨ k' ∈ keysL L := by
  unfold keysL putL
  rw [List.mem_map]
  constructor
  · rintro ⟨x, hx, rfl⟩
    rcases insE_mem.1 hx with rfl | hx
    · exact .inl rfl
    · exact .inr (List.mem_map_of_mem (dropL_mem.1 hx).1)
  · rintro (rfl | h)
    · exact ⟨_, insE_mem.2 (.inl rfl), rfl⟩
    · obtain ⟨x, hx, rfl⟩ := List.mem_map.1 h
      by_cases e : x.1 = k
      · exact ⟨_, insE_mem.2 (.inl rfl), e.symm⟩
      · exact ⟨x, insE_mem.2 (.inr (dropL_mem.2 ⟨hx, e⟩)), rfl⟩
theorem drop_len {k : ByteArray} : ∀ {L : List Ent}, (keysL L).Nodup → (dropL L k).length + (if k ∈ keysL L then 1 else 0) = L.length
  | [], _ => rfl
  | y :: r, h => by
    unfold keysL at h
    rw [List.map_cons, List.nodup_cons] at h
    have ih := drop_len (k := k) (L := r) h.2
    unfold dropL keysL at *
    by_cases e : y.1 = k
    · have hk : k ∉ List.map (fun x : Ent => x.1) r := by rw [← e]; exact h.1
      rw [if_neg hk] at ih
      have : List.filter (fun x : Ent => decide (x.1 ≠ k)) (y :: r) = List.filter (fun x : Ent => decide (x.1 ≠ k)) r := by simp [List.filter_cons, e]
      rw [this, if_pos (by simp [e])]
      simp only [List.length_cons]
      omega
    · have h2 : List.filter (fun x : Ent => decide (x.1 ≠ k)) (y :: r) = y :: List.filter (fun x : Ent => decide (x.1 ≠ k)) r := by simp [List.filter_cons, e]
      have h3 : (k ∈ List.map (fun x : Ent => x.1) (y :: r)) ↔ k ∈ List.map (fun x : Ent => x.1) r := by
        rw [List.map_cons, List.mem_cons]; exact ⟨fun h => h.resolve_left (fun h => e h.symm), .inr⟩
      rw [h2]
      simp only [List.length_cons, h3]
      omega
theorem Tly.put {D : Dt} {L : List Ent} (h : Tly D L) (hD : Maps.Tidy D) (k : ByteArray) (n : Int) : Tly (D.put (keyL k) (numD (countL L k + n))) (putL L k n) where
  nd := by
    have hp : (keysL (putL L k n)).Perm (k :: keysL (dropL L k)) := (insE_perm _ _).map _
    rw [hp.nodup_iff, List.nodup_cons]
    refine ⟨fun hk => ?_, (h.nd.sublist ((List.filter_sublist).map _))⟩
    obtain ⟨x, hx, e⟩ := List.mem_map.1 hk
    exact (dropL_mem.1 hx).2 e
  at_ x hx z := by
    rcases insE_mem.1 hx with rfl | hx
    · exact Maps.atKey_put_same hD.isMap (keyL_is k) _ _
    · obtain ⟨h1, h2⟩ := dropL_mem.1 hx
      rw [Maps.atKey_put_other (fun e => h2 (keyL_inj e)), h.at_ x h1]
  no k' hk' := by
    rw [keys_put, not_or] at hk'
    rw [Maps.has_put_other (fun e => hk'.1 (keyL_inj e))]
    exact h.no k' hk'.2
  size := by
    rw [Maps.size_put hD, h.has k, h.size]
    have h1 : (putL L k n).length = (dropL L k).length + 1 := (insE_perm _ _).length_eq
    have h2 := drop_len (k := k) h.nd
    rw [h1]
    by_cases hk : k ∈ keysL L
    · rw [if_pos hk] at h2
      simp only [hk, decide_true, if_true]
      omega
    · rw [if_neg hk] at h2
      simp only [hk, decide_false, Bool.false_eq_true, if_false]
      omega
/-- what has been collected of a map, what is left being `left` -/
structure Got (D : Dt) (left : Lit → Bool) (out : List Ent) : Prop where
  nd : (keysL out).Nodup
  at_ : ∀ x ∈ out, ∀ z, D.atKey (keyL x.1) z = numD x.2
  le : ∀ k, left (keyL k) = (Maps.has D (keyL k) && decide (k ∉ keysL out))
theorem Got.start (D : Dt) : Got D (Maps.has D) [] := ⟨List.nodup_nil, fun x hx => by simp at hx, fun k => by simp [keysL]⟩
theorem Got.step {D : Dt} {left : Lit → Bool} {out : List Ent} (h : Got D left out) (k : ByteArray) (n : Int) (hk : left (keyL k) = true) (ha : ∀ z, D.atKey (keyL k) z = numD n) :
    Got D (fun z => left z && !z.sameKey (keyL k)) (out ++ [(k, n)]) where
  nd := by
    have h1 := h.le k
    rw [hk] at h1
    have h2 : k ∉ keysL out := by
      have := h1.symm
      simp only [Bool.and_eq_true, decide_eq_true_eq] at this
      exact this.2
    unfold keysL at *
    rw [List.map_append, List.nodup_append]
    refine ⟨h.nd, by simp, fun a hm b hb e => ?_⟩
    simp at hb
    subst e
    subst hb
    exact h2 hm
  at_ x hx z := by
    rcases List.mem_append.1 hx with hx | hx
    · exact h.at_ x hx z
    · simp at hx; subst hx; exact ha z
  le k' := by
    show (left (keyL k') && !(keyL k').sameKey (keyL k)) = _
    rw [h.le k']
    have h3 : keysL (out ++ [(k, n)]) = keysL out ++ [k] := by unfold keysL; simp
    rw [h3]
    by_cases e : k' = k
    · subst e
      rw [WideAt.sameKey_self (keyL_is k')]
      simp
    · rw [Maps.sameKey_ne (fun h => e (keyL_inj h))]
      simp [e]
theorem Got.done {D : Dt} {left : Lit → Bool} {out : List Ent} (h : Got D left out) (h0 : ∀ k, left k = false) {L : List Ent} (hL : Tly D L) : out.Perm L := by
  have hnd : ∀ {l : List Ent}, (keysL l).Nodup → l.Nodup := fun {l} h => by
    unfold keysL at h
    exact (List.Pairwise.of_map (S := (· ≠ ·)) (fun x : Ent => x.1) (fun a b hab e => hab (by rw [e])) h)
  refine (List.perm_ext_iff_of_nodup (hnd h.nd) (hnd hL.nd)).2 fun x => ?_
  have key : ∀ {l m : List Ent}, (keysL l).Nodup → (keysL m).Nodup → (∀ x ∈ l, ∀ z, D.atKey (keyL x.1) z = numD x.2) → (∀ x ∈ m, ∀ z, D.atKey (keyL x.1) z = numD x.2) → x ∈ l → x.1 ∈ keysL m → x ∈ m := by
    intro l m _ _ hl hm hx hk
    obtain ⟨y, hy, e⟩ := List.mem_map.1 hk
    have h1 := hl x hx (numD 0)
    have h2 := hm y hy (numD 0)
    rw [e, h1] at h2
    have h3 : x.2 = y.2 := by unfold numD at h2; exact (Lit.int.inj (DataW.lit.inj h2)).2
    have : x = y := Prod.ext e.symm h3
    rw [this]; exact hy
  constructor
  · intro hx
    have hh : Maps.has D (keyL x.1) = true := Maps.has_true_of_atKey (h.at_ x hx)
    rw [hL.has, decide_eq_true_eq] at hh
    exact key h.nd hL.nd h.at_ hL.at_ hx hh
  · intro hx
    have h1 := h.le x.1
    have hm : x.1 ∈ keysL L := List.mem_map_of_mem hx
    rw [h0, hL.has, decide_eq_true hm] at h1
    have h2 : x.1 ∈ keysL out := by
      by_cases h3 : x.1 ∈ keysL out
      · exact h3
      · rw [decide_eq_true (show ¬ x.1 ∈ keysL out from h3)] at h1; cases h1
    exact key hL.nd h.nd hL.at_ h.at_ hx h2
/-- sorted by the closure: the one sorted list -/
theorem merge_eq {out L : List Ent} (hp : out.Perm L) (hs : L.Pairwise ltE) : (out.mergeSort fun x y => !ltOf cfE y x) = L := by
  have h1 := List.pairwise_mergeSort (le := fun x y : Ent => !ltOf cfE y x) (fun a b c h k => by
    simp only [Bool.not_eq_true'] at *
    exact swoE.ntrans c b a k h) (fun a b => by
    cases h : ltOf cfE b a
    · simp
    · have : ltOf cfE a b = false := by
        rw [ltOf_not]; rw [ltOf_iff] at h; exact fun h2 => ltE_irrefl _ (ltE_trans h h2)
      simp [this]) out
  refine List.Perm.eq_of_pairwise (le := fun a b => (!ltOf cfE b a) = true) (fun a b _ _ h k => totE a b (by simpa using k) (by simpa using h)) h1 (hs.imp fun {a b} h => ?_) ((List.mergeSort_perm _ _).trans hp)
  have : ltOf cfE b a = false := by rw [ltOf_not]; exact fun h2 => ltE_irrefl _ (ltE_trans h h2)
  simp [this]
end Go.Proofs.YtmpkfpabejpbkaaGreatDoor.C
