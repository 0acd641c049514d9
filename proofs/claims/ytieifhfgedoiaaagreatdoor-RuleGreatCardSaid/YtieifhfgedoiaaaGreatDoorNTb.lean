/- Rows of pieces held against each other; a number's place in a row. Conditions: those of each theorem. -/
import Derived.Test.YtieifhfgedoiaaaGreatDoorNOw
import Derived.Test.YtieifhfgedoiaaaGreatDoorNPhB
import Derived.Test.YtieifhfgedoiaaaGreatDoorNQr
import Derived.Deep.DeepCutAuto
import Derived.Deep.QuietTactic
import Derived.BigQuiet
import Derived.Test.YtieifhfgedoiaaaGreatDoorNSc
import Derived.Test.YtieifhfgedoiaaaGreatDoorNRi
import Derived.Maps.OwnSet
import Derived.Test.YtieifhfgedoiaaaGreatDoorNSa
namespace Go.Proofs.YtieifhfgedoiaaaGreatDoor
open Go.RowKit Go.Lib
set_option linter.unusedVariables false
set_option linter.unusedSimpArgs false
attribute [local go_sem] ExtS.cell ExtS.froz upE_value upE_skip upE_enter Ext.cell Ext.froz
def OneR (w : World) (p : Option Addr) (L : List One) : Prop :=
 L ≠ [] → ∃ g o, p = some ⟨g, o, none⟩ ∧ ∀ i u, L[i]? = some u → w.cell? ⟨g, o + i * 3, none⟩ = some (.int .i32 u.r) ∧ w.cell? ⟨g, o + i * 3 + 1, none⟩ = some (.bool u.br) ∧ w.cell? ⟨g, o + i * 3 + 2, none⟩ = some (.int .u8 u.b)
theorem OneR.at {w : World} {p : Option Addr} {L : List One} (h : OneR w p L) {i : Nat} {u : One} (hi : L[i]? = some u) :
  ∃ g o, p = some ⟨g, o, none⟩ ∧ w.cell? ⟨g, o + i * 3, none⟩ = some (.int .i32 u.r) ∧ w.cell? ⟨g, o + i * 3 + 1, none⟩ = some (.bool u.br) ∧ w.cell? ⟨g, o + i * 3 + 2, none⟩ = some (.int .u8 u.b) := by
 obtain ⟨g, o, h1, h2⟩ := h (fun e => by rw [e] at hi; cases hi)
 exact ⟨g, o, h1, h2 i u hi⟩
theorem OneR.low {w w' : World} {p : Option Addr} {L : List One} (h : OneR w p L) (hb : Below w.heap.size w w') : OneR w' p L := by
 intro hL
 obtain ⟨g, o, h1, h2⟩ := h hL
 have hc : ∀ k v, w.cell? ⟨g, k, none⟩ = some v → w'.cell? ⟨g, k, none⟩ = some v := fun k v hv => by rw [hb.cell (p := ⟨g, k, none⟩) (World.block_lt_of_cell? w _ hv)]; exact hv
 exact ⟨g, o, h1, fun i u hu => ⟨hc _ _ (h2 i u hu).1, hc _ _ (h2 i u hu).2.1, hc _ _ (h2 i u hu).2.2⟩⟩
theorem own_oneR {w : World} {base n cap : Nat} {e : TypeId} {p : Option Addr} {L : List One} (h : w.ownsRow base e 3 (.slice p n cap) L.length (flatE One.cells L)) : OneR w p L := by
 intro hL
 obtain ⟨m, hm⟩ : ∃ m, L.length = m + 1 := ⟨L.length - 1, by have := List.length_pos_iff.2 hL; omega⟩
 rw [hm] at h
 obtain ⟨g, cap', hg⟩ := own_block h
 injection hg with hp hn hc
 subst hp hn hc
 refine ⟨g, 0, rfl, fun i u hu => ?_⟩
 have := fun j v hv => own_cell (j := i * 3 + j) h (flatE_get One.cells 3 (fun _ => rfl) L i u hu j v hv)
 rw [Nat.zero_add]
 exact ⟨this 0 _ rfl, this 1 _ rfl, this 2 _ rfl⟩
theorem OneR.sub {w : World} {g o : Nat} {L : List One} (h : OneR w (some ⟨g, o, none⟩) L) (k m : Nat) : OneR w (some ⟨g, o + k * 3, none⟩) ((L.drop k).take m) := by
 intro hL
 have hne : L ≠ [] := fun e => hL (by rw [e]; simp)
 obtain ⟨g', o', h1, h2⟩ := h hne
 injection h1 with h1
 injection h1 with h1 h3
 subst h1 h3
 refine ⟨g, o + k * 3, rfl, fun i u hu => ?_⟩
 have hu' : L[k + i]? = some u := by
  rw [List.getElem?_take] at hu
  split at hu
  ·rw [List.getElem?_drop] at hu; exact hu
  ·cases hu
 have := h2 (k + i) u hu'
 rw [Nat.add_mul, ← Nat.add_assoc] at this
 exact this
theorem OneR.nil (w : World) (p : Option Addr) : OneR w p [] := fun h => absurd rfl h
theorem eq_take {L1 L2 : List One} (hl : L1.length = L2.length) {i : Nat} {a b : One} (h1 : L1[i]? = some a) (h2 : L2[i]? = some b) (hne : a ≠ b) : (L1 == L2) = false := by
 rw [beq_eq_false_iff_ne]
 intro e
 rw [e, h2] at h1
 exact hne (Option.some.inj h1).symm
theorem eq_all {L1 L2 : List One} (hl : L1.length = L2.length) (h : L1.take L1.length = L2.take L1.length) : (L1 == L2) = true := by
 rw [List.take_length, hl, List.take_length] at h
 rw [h]; simp
theorem take_snoc {L1 L2 : List One} {i : Nat} {a : One} (h : L1.take i = L2.take i) (h1 : L1[i]? = some a) (h2 : L2[i]? = some a) : L1.take (i + 1) = L2.take (i + 1) := by
 rw [List.take_add_one, List.take_add_one, h, h1, h2]
theorem one_neq {α : Type} (a b : One) (x y : α) : (if (a.r : Int) = b.r then if a.br = b.br then if (a.b : Int) = b.b then x else y else y else y) = if decide (a = b) = true then x else y := by
 obtain ⟨r, br, bb⟩ := a
 obtain ⟨r', br', bb'⟩ := b
 simp only [One.mk.injEq, decide_eq_true_eq, Int.ofNat_inj]
 by_cases h1 : r = r' <;> by_cases h2 : br = br' <;> by_cases h3 : bb = bb' <;> simp [h1, h2, h3]
attribute [local go_sem] one_neq
set_option maxRecDepth 100000 in
set_option maxHeartbeats 2000000 in
theorem equal45q {w : World} {p1 p2 : Option Addr} {c1 c2 : Nat} (L1 L2 : List One) (h1 : OneR w p1 L1) (h2 : OneR w p2 L2) (hn : L1.length ≤ 100000000) (hm : L2.length ≤ 100000000) :
  Calls Tryz.prog 66 #[.slice p1 L1.length c1, .slice p2 L2.length c2] w fun e w' => e = .returned (.bool (L1 == L2)) ∧ ∃ m, w' = w.drewN m := by
 obtain ⟨n, hn1⟩ : ∃ n, L1.length = n := ⟨_, rfl⟩
 obtain ⟨m, hm1⟩ : ∃ m, L2.length = m := ⟨_, rfl⟩
 rw [hn1, hm1]
 rw [hn1] at hn
 rw [hm1] at hm
 have HN := hid hn1
 have HM := hid hm1
 have H1 := hid h1
 have H2 := hid h2
 clear hn1 hm1 h1 h2
 by_cases hnm : n = m
 ·subst hnm
  have q0 : ((n : Int) != n) = false := by simp
  go_enter Tryz.func66, Tryz.ntmps66
  go_wp2_with fail
  go_loopw [13] (fun v wr => ∃ i : Nat, i ≤ n ∧ v = .int .i64 i ∧ Hid (L1.take i = L2.take i) ∧ ∃ d, wr = w.drewN d) (fun v _ => n - (RowKit.intOf v).toNat)
  case atStart => exact ⟨0, Nat.zero_le _, rfl, hid rfl, 0, rfl⟩
  case round =>
   obtain ⟨i, hi, rfl, hT, d, rfl⟩ := hrel
   have hw1 : IntKind.i64.wrap ((i : Int) + 1) = (i : Int) + 1 := Wi64 (by omega)
   by_cases hlt : i < n
   ·have q1 := dT (show (i : Int) < n by omega)
    have q2 : (i : Int) < n := by omega
    obtain ⟨a, ha⟩ : ∃ a, L1[i]? = some a := ⟨_, List.getElem?_eq_getElem (by rw [HN.out]; exact hlt)⟩
    obtain ⟨b, hb⟩ : ∃ b, L2[i]? = some b := ⟨_, List.getElem?_eq_getElem (by rw [HM.out]; exact hlt)⟩
    obtain ⟨g1, o1, rfl, a0, a1, a2⟩ := H1.out.at ha
    obtain ⟨g2, o2, rfl, b0, b1, b2⟩ := H2.out.at hb
    have HA := hid ha
    have HBb := hid hb
    clear ha hb
    by_cases hab : a = b
    ·subst hab
     go_wp2_with fail
     go_quiet (fail)
     have hT5 := hid (take_snoc hT.out HA.out HBb.out)
     clear hT
     go_wp2_with fail
     go_roundw
     case rel => exact ⟨i + 1, by omega, by go_num, hT5, _, rfl⟩
     case measure => simp [RowKit.intOf] <;> omega
    ·have q3 : decide (a = b) = false := decide_eq_false hab
     clear hab
     go_wp2_with fail
     go_quiet (fail)
     go_wp2_with fail
     go_ret
     exact ⟨by rw [eq_take (HN.out.trans HM.out.symm) HA.out HBb.out (of_decide_eq_false q3)]; rfl, _, World.drewN_drewN _ _ _⟩
   ·obtain rfl : i = n := by omega
    have q1 : decide ((i : Int) < i) = false := by simp
    go_wp2_with fail
    go_ret
    exact ⟨by rw [eq_all (HN.out.trans HM.out.symm) (by rw [HN.out]; exact hT.out)]; rfl, _, rfl⟩
 ·have q0 : ((n : Int) != m) = true := bne_true_of (by omega)
  have hE : (L1 == L2) = false := by rw [beq_eq_false_iff_ne]; intro e; exact hnm (by rw [← HN.out, e, HM.out])
  rw [hE]
  go_enter Tryz.func66, Tryz.ntmps66
  go_wp2_with fail
  go_ret
  exact ⟨rfl, 0, rfl⟩
def idxF : List Nat → Int → Nat → Int
 | [], _, _ => -1
 | p :: r, z, n => if (p : Int) = z then n else idxF r z (n + 1)
def NumR (w : World) (p : Option Addr) (L : List Nat) : Prop :=
 L ≠ [] → ∃ g, p = some ⟨g, 0, none⟩ ∧ ∀ (i u : Nat), L[i]? = some u → w.cell? ⟨g, i, none⟩ = some (.int .i64 (u : Int))
theorem own_numR {w : World} {base n cap : Nat} {p : Option Addr} {L : List Nat} (h : w.ownsRow base 3 1 (.slice p n cap) L.length (L.map fun (q : Nat) => Value.int .i64 (q : Int))) : NumR w p L := by
 intro hL
 obtain ⟨m, hm⟩ : ∃ m, L.length = m + 1 := ⟨L.length - 1, by have := List.length_pos_iff.2 hL; omega⟩
 rw [hm] at h
 obtain ⟨g, cap', hg⟩ := own_block h
 injection hg with hp hn hc
 subst hp hn hc
 exact ⟨g, rfl, fun i u hu => own_cell (j := i) h (by rw [List.getElem?_map, hu]; rfl)⟩
end Go.Proofs.YtieifhfgedoiaaaGreatDoor
/- Whether a piece is what an item says: the program's hand. Conditions: those of each theorem. -/
namespace Go.Proofs.YtieifhfgedoiaaaGreatDoor
open Go.RowKit Go.Lib
open Go.ChangeMaps
set_option linter.unusedVariables false
set_option linter.unusedSimpArgs false
attribute [local go_sem] ExtS.cell ExtS.froz upE_value upE_skip upE_enter Ext.cell Ext.froz one_neq
theorem hasB_none {x : Rs} {i : Item} {u : One} (h0 : i.name ≠ 0) (h : x.cls (i.name - 65) = none) : hasB x i u = false := by unfold hasB; rw [if_neg h0, h]
theorem hasB_some {x : Rs} {i : Item} {u : One} {y : ByteArray × List One} (h0 : i.name ≠ 0) (h : x.cls (i.name - 65) = some y) : hasB x i u = y.2.contains u := by unfold hasB; rw [if_neg h0, h]
set_option maxRecDepth 100000 in
set_option maxHeartbeats 2000000 in
theorem is62 {w : World} {X mc ml k : Nat} {v : Value} {x : Rs} (h : RsAt w X mc ml v x k) (i : Item) (u : One) (hi : ItemG x.said i) (hu : OneB u) :
  Calls Tryz.prog 67 #[.pointer (some ⟨X, 0, none⟩), i.val, u.val] w fun e w' => e = .returned (.bool (hasB x i u)) ∧ Below w.heap.size w w' := by
 have hb1 : Below w.heap.size w (w.alloc (.cells i.cells.toArray 146)) := (Below.refl _ _).alloc (Nat.le_refl _) _
 have hb2 := hid (hb1.trans (((Below.refl _ _).alloc (Nat.le_refl _) (.cells u.cells.toArray 110)).mono hb1.size))
 have H := hid (h.low hb2.out)
 clear h hb1
 rcases hi.2 with h0 | ⟨h1, h2, h3⟩
 ·have hE : hasB x i u = decide (i.u = u) := by unfold hasB; rw [if_pos h0]; rfl
  rw [hE]
  obtain ⟨nm, o⟩ := i
  dsimp only at h0
  subst h0
  unfold Item.val One.val Item.cells One.cells at *
  cases hd : decide (o = u)
  all_goals
   dsimp only at *
   go_enter Tryz.func67, Tryz.ntmps67
   go_wp2_with fail
   go_ret
   exact ⟨rfl, hb2.out⟩
 ·have hn0 : i.name ≠ 0 := by omega
  obtain ⟨nm, o⟩ := i
  dsimp only at h1 h2 h3 hn0
  have qn : ((nm : Int) != 0) = true := bne_true_of (by omega)
  unfold Item.val One.val Item.cells One.cells at *
  dsimp only at *
  obtain ⟨b, ne, ⟨n, f, c1, c2, c3⟩, _⟩ := H.out
  have b0 := b.cell (k := 0) rfl
  have bf := b.froz
  have hk : KB (.int .u8 nm) := ⟨nm, by omega, rfl⟩
  have hku : KU u.val := ⟨u, hu.1, hu.2, rfl⟩
  have l1 := fun x : ExtS [] ((w.alloc (.cells #[.int .u8 nm, .int .i32 o.r, .bool o.br, .int .u8 o.b] 146)).alloc (.cells #[.int .i32 u.r, .bool u.br, .int .u8 u.b] 110)) => (c2.but x.h (by simp)).look keysB Tryz.underlying61 (zero132 _) hk false
  rcases c3 nm h1 h2 with ⟨e1, e2⟩ | ⟨y, m, e1, e2, e3, e4, e5⟩
  ·rw [hasB_none (i := ⟨nm, o⟩) hn0 e1]
   simp only [e2] at l1
   try simp only [Option.getD] at l1
   obtain ⟨kl, hkl⟩ := keyU u hu.1 hu.2
   have l2 := fun W : World => Maps.look_nil false (Maps.Keyed.of_law Tryz.law110) Tryz.underlying106 (zeroI W) hkl
   unfold One.val at l2
   simp only [Bool.false_eq_true, if_false] at l2
   clear H c1 c2 c3 b e1 e2 hk hkl hku
   go_enter Tryz.func67, Tryz.ntmps67
   go_wp2_with fail
   refine region_plan [] (.quiet 0 (.quiet 1 (.quiet 2 (.quiet 3 (.quiet 4 (.quiet 5 (.quiet 6 (.quiet 7 (.quiet 8 (.quiet 9 (.quiet 10 .done))))))))))) (by kernel_rfl) (by kernel_rfl) ?_
   repeat (apply p_quiet; (case hi => rfl); intro K hK; go_simp; (refine ⟨hK _ ?_⟩; clear hK K))
   apply p_done
   intro W hW
   go_wp2_with fail
   go_ret
   exact ⟨rfl, bnext hb2.out hW⟩
  ·rw [hasB_some (i := ⟨nm, o⟩) hn0 e1]
   simp only [e2] at l1
   obtain ⟨n2, f2, d1, d2, d3⟩ := e5
   have l2 := fun x : ExtS [] ((w.alloc (.cells #[.int .u8 nm, .int .i32 o.r, .bool o.br, .int .u8 o.b] 146)).alloc (.cells #[.int .i32 u.r, .bool u.br, .int .u8 u.b] 110)) => (d2.but x.h (by simp)).look keysU Tryz.underlying106 (zeroI _) hku false
   simp only [d3 u] at l2
   try simp only [Option.getD] at l1
   unfold One.val at l2
   cases hm : y.2.contains u
   ·have hm' : ¬ u ∈ y.2 := by simpa using hm
    simp only [if_neg hm'] at l2
    try simp only [Option.getD] at l2
    clear H c1 c2 c3 b e1 e2 hk hku d1 d2 d3 hm
    go_enter Tryz.func67, Tryz.ntmps67
    go_wp2_with fail
    refine region_plan [] (.quiet 0 (.quiet 1 (.quiet 2 (.quiet 3 (.quiet 4 (.quiet 5 (.quiet 6 (.quiet 7 (.quiet 8 (.quiet 9 (.quiet 10 .done))))))))))) (by kernel_rfl) (by kernel_rfl) ?_
    repeat (apply p_quiet; (case hi => rfl); intro K hK; go_simp; (refine ⟨hK _ ?_⟩; clear hK K))
    apply p_done
    intro W hW
    go_wp2_with fail
    go_ret
    exact ⟨rfl, bnext hb2.out hW⟩
   ·have hm' : u ∈ y.2 := by simpa using hm
    simp only [if_pos hm'] at l2
    try simp only [Option.getD] at l2
    have q0 : 0 < y.2.count u := List.count_pos_iff.2 hm'
    obtain ⟨cn, hcn⟩ : ∃ cn, y.2.count u = cn := ⟨_, rfl⟩
    simp only [hcn] at l2 q0
    have q1 := dT (show (0 : Int) < cn by omega)
    have q2 : decide (0 < cn) = true := decide_eq_true q0
    clear H c1 c2 c3 b e1 e2 hk hku d1 d2 d3 hm hm' hcn
    go_enter Tryz.func67, Tryz.ntmps67
    go_wp2_with fail
    refine region_plan [] (.quiet 0 (.quiet 1 (.quiet 2 (.quiet 3 (.quiet 4 (.quiet 5 (.quiet 6 (.quiet 7 (.quiet 8 (.quiet 9 (.quiet 10 .done))))))))))) (by kernel_rfl) (by kernel_rfl) ?_
    repeat (apply p_quiet; (case hi => rfl); intro K hK; go_simp; (refine ⟨hK _ ?_⟩; clear hK K))
    apply p_done
    intro W hW
    go_wp2_with fail
    go_ret
    exact ⟨rfl, bnext hb2.out hW⟩
end Go.Proofs.YtieifhfgedoiaaaGreatDoor
/- Whether a rule fits at a piece: the program's hand. Conditions: those of each theorem. -/
namespace Go.Proofs.YtieifhfgedoiaaaGreatDoor
open Go.RowKit Go.Lib
open Go.ChangeMaps
set_option linter.unusedVariables false
set_option linter.unusedSimpArgs false
attribute [local go_sem] ExtS.cell ExtS.froz upE_value upE_skip upE_enter Ext.cell Ext.froz one_neq
theorem bel_dr {B : Nat} {a w : World} (h : Below B a w) (n : Nat) : Below B a (w.drewN n) := h.trans ⟨rfl, rfl, rfl, Nat.le_refl _, fun _ _ => rfl⟩
def ItemR (w : World) (p : Option Addr) (L : List Item) : Prop :=
 L ≠ [] → ∃ g, p = some ⟨g, 0, none⟩ ∧ ∀ (i : Nat) u, L[i]? = some u → w.cell? ⟨g, i * 4, none⟩ = some (.int .u8 u.name) ∧ w.cell? ⟨g, i * 4 + 1, none⟩ = some (.int .i32 u.u.r) ∧ w.cell? ⟨g, i * 4 + 2, none⟩ = some (.bool u.u.br) ∧ w.cell? ⟨g, i * 4 + 3, none⟩ = some (.int .u8 u.u.b)
theorem cell_low {w w' : World} (hb : Below w.heap.size w w') {g k : Nat} {v : Value} (hv : w.cell? ⟨g, k, none⟩ = some v) : w'.cell? ⟨g, k, none⟩ = some v := by
 rw [hb.cell (p := ⟨g, k, none⟩) (World.block_lt_of_cell? w _ hv)]; exact hv
theorem ItemR.low {w w' : World} {p : Option Addr} {L : List Item} (h : ItemR w p L) (hb : Below w.heap.size w w') : ItemR w' p L := by
 intro hL
 obtain ⟨g, h1, h2⟩ := h hL
 exact ⟨g, h1, fun i u hu => ⟨cell_low hb (h2 i u hu).1, cell_low hb (h2 i u hu).2.1, cell_low hb (h2 i u hu).2.2.1, cell_low hb (h2 i u hu).2.2.2⟩⟩
theorem own_itemR {w : World} {base n cap : Nat} {e : TypeId} {p : Option Addr} {L : List Item} (h : w.ownsRow base e 4 (.slice p n cap) L.length (flatE Item.cells L)) : ItemR w p L := by
 intro hL
 obtain ⟨m, hm⟩ : ∃ m, L.length = m + 1 := ⟨L.length - 1, by have := List.length_pos_iff.2 hL; omega⟩
 rw [hm] at h
 obtain ⟨g, cap', hg⟩ := own_block h
 injection hg with hp hn hc
 subst hp hn hc
 refine ⟨g, rfl, fun i u hu => ?_⟩
 have := fun j v hv => own_cell (j := i * 4 + j) h (flatE_get Item.cells 4 (fun _ => rfl) L i u hu j v hv)
 exact ⟨this 0 _ rfl, this 1 _ rfl, this 2 _ rfl, this 3 _ rfl⟩
def PhR (w : World) (p : Option Addr) (L : List Ph) : Prop :=
 L ≠ [] → ∃ g, p = some ⟨g, 0, none⟩ ∧ ∀ (i : Nat) u, L[i]? = some u → w.cell? ⟨g, i * 3, none⟩ = some (.int .i32 u.r) ∧ w.cell? ⟨g, i * 3 + 1, none⟩ = some (.bool u.long) ∧ w.cell? ⟨g, i * 3 + 2, none⟩ = some (.int .i32 u.glide)
theorem PhR.low {w w' : World} {p : Option Addr} {L : List Ph} (h : PhR w p L) (hb : Below w.heap.size w w') : PhR w' p L := by
 intro hL
 obtain ⟨g, h1, h2⟩ := h hL
 exact ⟨g, h1, fun i u hu => ⟨cell_low hb (h2 i u hu).1, cell_low hb (h2 i u hu).2.1, cell_low hb (h2 i u hu).2.2⟩⟩
theorem own_phR {w : World} {base n cap : Nat} {e : TypeId} {p : Option Addr} {L : List Ph} (h : w.ownsRow base e 3 (.slice p n cap) L.length (flatE Ph.cells L)) : PhR w p L := by
 intro hL
 obtain ⟨m, hm⟩ : ∃ m, L.length = m + 1 := ⟨L.length - 1, by have := List.length_pos_iff.2 hL; omega⟩
 rw [hm] at h
 obtain ⟨g, cap', hg⟩ := own_block h
 injection hg with hp hn hc
 subst hp hn hc
 refine ⟨g, rfl, fun i u hu => ?_⟩
 have := fun j v hv => own_cell (j := i * 3 + j) h (flatE_get Ph.cells 3 (fun _ => rfl) L i u hu j v hv)
 exact ⟨this 0 _ rfl, this 1 _ rfl, this 2 _ rfl⟩
structure RuM (w : World) (G q : Nat) (u : Rl) (p1 p2 p3 p4 : Option Addr) (c1 c2 c3 c4 : Nat) : Prop where
 y0 : w.cell? ⟨G, q, none⟩ = some (.string u.line)
 y1 : w.cell? ⟨G, q + 1, none⟩ = some (.slice p1 u.left.length c1)
 y2 : w.cell? ⟨G, q + 2, none⟩ = some (.slice p2 u.right.length c2)
 y3 : w.cell? ⟨G, q + 3, none⟩ = some (.slice p3 u.body.length c3)
 y4 : w.cell? ⟨G, q + 4, none⟩ = some (.bool u.begins)
 y5 : w.cell? ⟨G, q + 5, none⟩ = some (.bool u.ends)
 y6 : w.cell? ⟨G, q + 6, none⟩ = some (.slice p4 u.phones.length c4)
 l : ItemR w p1 u.left
 r : ItemR w p2 u.right
 b : OneR w p3 u.body
 p : PhR w p4 u.phones
theorem RuM.low {w w' : World} {G q : Nat} {u : Rl} {p1 p2 p3 p4 : Option Addr} {c1 c2 c3 c4 : Nat} (h : RuM w G q u p1 p2 p3 p4 c1 c2 c3 c4) (hb : Below w.heap.size w w') : RuM w' G q u p1 p2 p3 p4 c1 c2 c3 c4 :=
 ⟨cell_low hb h.y0, cell_low hb h.y1, cell_low hb h.y2, cell_low hb h.y3, cell_low hb h.y4, cell_low hb h.y5, cell_low hb h.y6, h.l.low hb, h.r.low hb, h.b.low hb, h.p.low hb⟩
theorem rows_ruM {w : World} {base n cv : Nat} {pv : Option Addr} {L : List Rl} (h : RowsAt w base (.slice pv n cv) L) {j : Nat} {u : Rl} (hj : L[j]? = some u) :
  ∃ G p1 p2 p3 p4 c1 c2 c3 c4, pv = some ⟨G, 0, none⟩ ∧ RuM w G (j * 7) u p1 p2 p3 p4 c1 c2 c3 c4 := by
 obtain ⟨Vs, g1, g2, g3⟩ := h
 have hl : L.length ≠ 0 := by have := (List.getElem?_eq_some_iff.1 hj).1; omega
 obtain ⟨m, hm⟩ : ∃ m, L.length = m + 1 := ⟨L.length - 1, by omega⟩
 rw [hm] at g2
 obtain ⟨g, cap, hg⟩ := own_block g2
 cases hg
 have hV : ∃ y, Vs[j]? = some y ∧ y.1 = u := by
  rw [← g1, List.getElem?_map] at hj
  cases hv : Vs[j]? with
  | none => rw [hv] at hj; cases hj
  | some y => rw [hv] at hj; exact ⟨y, rfl, by simpa using hj⟩
 obtain ⟨⟨u', V⟩, hy, rfl⟩ := hV
 have hok := g3 _ (List.mem_of_getElem? hy)
 obtain ⟨p1, c1, e1⟩ := own_shape hok.l
 obtain ⟨p2, c2, e2⟩ := own_shape hok.r
 obtain ⟨p3, c3, e3⟩ := own_shape hok.b
 obtain ⟨p4, c4, e4⟩ := own_shape hok.p
 have hc := fun i v hv => own_cell (j := j * 7 + i) g2 (flatE_get (fun y : Rl × RlV => Rl.cells y.1 y.2) 7 (fun _ => rfl) Vs j _ hy i v hv)
 have k1 := hok.l
 have k2 := hok.r
 have k3 := hok.b
 have k4 := hok.p
 rw [e1] at k1
 rw [e2] at k2
 rw [e3] at k3
 rw [e4] at k4
 refine ⟨g, p1, p2, p3, p4, c1, c2, c3, c4, rfl, hc 0 _ rfl, ?_, ?_, ?_, hc 4 _ rfl, hc 5 _ rfl, ?_, own_itemR k1, own_itemR k2, own_oneR k3, own_phR k4⟩
 ·rw [← e1]; exact hc 1 _ rfl
 ·rw [← e2]; exact hc 2 _ rfl
 ·rw [← e3]; exact hc 3 _ rfl
 ·rw [← e4]; exact hc 6 _ rfl
def preB (u : Rl) (W : List One) (k : Nat) : Bool :=
 decide (u.left.length ≤ k) && decide (k + u.body.length + u.right.length ≤ W.length) && (!u.begins || decide (k = u.left.length)) && (!u.ends || decide (k + u.body.length + u.right.length = W.length))
  && ((W.drop k).take u.body.length == u.body)
theorem fitB_pre (x : Rs) (u : Rl) (W : List One) (k : Nat) : fitB x u W k = (preB u W k && leftB x u.left W (k - u.left.length) u.left.length && leftB x u.right W (k + u.body.length) u.right.length) := rfl
theorem leftB_down {x : Rs} {L : List Item} {W : List One} {k : Nat} : ∀ (d n : Nat), leftB x L W k n = false → leftB x L W k (n + d) = false
 | 0, n, h => h
 | d + 1, n, h => by
  show (leftB x L W k (n + d) && _) = false
  rw [leftB_down d n h]; rfl
theorem leftB_step {x : Rs} {L : List Item} {W : List One} {k n : Nat} {i : Item} {u : One} (hi : L[n]? = some i) (hu : W[k + n]? = some u) : leftB x L W k (n + 1) = (leftB x L W k n && hasB x i u) := by
 show (leftB x L W k n && _) = _
 rw [hi, hu]
set_option maxRecDepth 100000 in
set_option maxHeartbeats 8000000 in
theorem fits56 {w : World} {X mc ml kk : Nat} {v : Value} {x : Rs} (hX : RsAt w X mc ml v x kk) {G q : Nat} {u : Rl} {p1 p2 p3 p4 : Option Addr} {c1 c2 c3 c4 : Nat} (hu : RuM w G q u p1 p2 p3 p4 c1 c2 c3 c4) (g : RlG x.said u)
  (W : List One) {pu pa : Option Addr} {cu na ca : Nat} (hW : OneR w pu W) (hWb : ∀ o ∈ W, OneB o) (hc : W.length ≤ cu) (hn : W.length ≤ 100000000) (k : Nat) (hk : k ≤ W.length) :
  Calls Tryz.prog 49 #[.pointer (some ⟨X, 0, none⟩), .pointer (some ⟨G, q, none⟩), .agg #[.slice pu W.length cu, .slice pa na ca], .int .i64 k] w fun e w' => e = .returned (.bool (fitB x u W k)) ∧ Below w.heap.size w w' := by
 obtain ⟨n, hnn⟩ : ∃ n, W.length = n := ⟨_, rfl⟩
 rw [hnn] at hc hn hk ⊢
 have hb1 := hid ((Below.refl w.heap.size w).alloc (Nat.le_refl _) (.cells #[.slice pu n cu, .slice pa na ca] 80))
 have KB := hid (Blk.new w 80 #[.slice pu n cu, .slice pa na ca])
 have HX := hid (hX.low hb1.out)
 have HU := hid (hu.low hb1.out)
 have HW := hid (hW.low hb1.out)
 have HG := hid g
 have HWb := hid hWb
 rw [fitB_pre]
 obtain ⟨pre, hpre⟩ : ∃ pre, preB u W k = pre := ⟨_, rfl⟩
 rw [hpre]
 obtain ⟨ll, hll⟩ : ∃ ll, u.left.length = ll := ⟨_, rfl⟩
 obtain ⟨rl, hrl⟩ : ∃ rl, u.right.length = rl := ⟨_, rfl⟩
 obtain ⟨bl, hbl⟩ : ∃ bl, u.body.length = bl := ⟨_, rfl⟩
 have y1 := HU.out.y1
 have y2 := HU.out.y2
 have y3 := HU.out.y3
 have y4 := HU.out.y4
 have y5 := HU.out.y5
 have g1 := g.ln
 have g2 := g.rn
 have g3 := g.b1
 have g4 := g.bn
 unfold preB at hpre
 rw [hnn, hll, hrl, hbl] at hpre
 rw [hll] at y1 g1
 rw [hrl] at y2 g2
 rw [hbl] at y3 g3 g4
 have z0 := KB.out.cell (k := 0) rfl
 have zf := KB.out.froz
 obtain ⟨F, hF⟩ : ∃ F : Int, IntKind.i64.wrap ((k : Int) - (ll : Int)) = F := ⟨_, rfl⟩
 have hF2 : F = (k : Int) - ll := by rw [← hF]; exact IntWalk.i64_in _ (by omega)
 have hw2 : IntKind.i64.wrap ((k : Int) + (bl : Int)) = (k : Int) + bl := Wi64 (by omega)
 have hw3 : IntKind.i64.wrap ((k : Int) + (bl : Int) + (rl : Int)) = (k : Int) + bl + rl := Wi64 (by omega)
 have HNN := hid hnn
 have HLL := hid hll
 have HRL := hid hrl
 have HBL := hid hbl
 clear hX hu hW hWb g hnn hll hrl hbl
 go_enter Tryz.func49, Tryz.ntmps49
 go_wp2_with fail
 obtain ⟨B, hBn⟩ : ∃ B, w.heap.size = B := ⟨_, rfl⟩
 have hbB := hid (Nat.le_of_eq hBn)
 rw [hBn] at KB z0
 simp only [hBn] at zf ⊢
 clear hBn
 generalize w.alloc (.cells #[.slice pu n cu, .slice pa na ca] 80) = W0 at *
 go_quiet (fail)
 go_wp2_with fail
 go_cut [81] (fun v wd => v = .bool (!pre) ∧ ∃ d, wd = W0.drewN d)
 case first =>
  by_cases ha : k < ll
  ·have qa := dT (show (k : Int) - ll < 0 by omega)
   obtain rfl : pre = false := by rw [← hpre, decide_eq_false (show ¬ ll ≤ k by omega)]; rfl
   go_quiet (fail)
   go_wp2_with fail
   go_meet
   first | exact ⟨rfl, _, World.drewN_drewN _ _ _⟩ | exact ⟨rfl, _, rfl⟩
  have qa := dF (show ¬ ((k : Int) - ll < 0) by omega)
  have pa := dT (show ll ≤ k by omega)
  by_cases hb : n < k + bl + rl
  ·have qb := dT (show (n : Int) < (k : Int) + bl + rl by omega)
   obtain rfl : pre = false := by rw [← hpre, decide_eq_false (show ¬ k + bl + rl ≤ n by omega), pa]; rfl
   go_quiet (fail)
   go_wp2_with fail
   go_meet
   first | exact ⟨rfl, _, World.drewN_drewN _ _ _⟩ | exact ⟨rfl, _, rfl⟩
  have qb := dF (show ¬ ((n : Int) < (k : Int) + bl + rl) by omega)
  have pb := dT (show k + bl + rl ≤ n by omega)
  rw [pa, pb] at hpre
  obtain ⟨o, ho⟩ : ∃ o, W[0]? = some o := ⟨_, List.getElem?_eq_getElem (by rw [HNN.out]; omega)⟩
  obtain ⟨g0, o0, rfl, _⟩ := HW.out.at ho
  clear ho
  obtain ⟨f, hf⟩ : ∃ f, ((k : Int) - ll != 0) = f := ⟨_, rfl⟩
  obtain ⟨e, he⟩ : ∃ e, ((k : Int) + bl + rl != n) = e := ⟨_, rfl⟩
  have hf2 : decide (k = ll) = !f := by
   rw [← hf]
   by_cases h : k = ll
   ·have hx : ((k : Int) - ll != 0) = false := bne_false_of (by omega)
    rw [decide_eq_true h, hx]; rfl
   ·have hx : ((k : Int) - ll != 0) = true := bne_true_of (by omega)
    rw [decide_eq_false h, hx]; rfl
  have he2 : decide (k + bl + rl = n) = !e := by
   rw [← he]
   by_cases h : k + bl + rl = n
   ·have hx : ((k : Int) + bl + rl != n) = false := bne_false_of (by omega)
    rw [decide_eq_true h, hx]; rfl
   ·have hx : ((k : Int) + bl + rl != n) = true := bne_true_of (by omega)
    rw [decide_eq_false h, hx]; rfl
  obtain ⟨bb, hbb⟩ : ∃ bb, u.begins = bb := ⟨_, rfl⟩
  obtain ⟨en, hen⟩ : ∃ en, u.ends = en := ⟨_, rfl⟩
  obtain ⟨eq, heq⟩ : ∃ eq, ((W.drop k).take bl == u.body) = eq := ⟨_, rfl⟩
  rw [hbb, hen, hf2, he2, heq] at hpre
  rw [hbb] at y4
  rw [hen] at y5
  have k1 : (0 : Int) ≤ k := by omega
  have k2 : (k : Int) ≤ (k : Int) + bl := by omega
  have k3 : (k : Int) + bl ≤ cu := by omega
  have hE : Hid (∀ a, Calls Tryz.prog 66 #[.slice (some ⟨g0, o0 + k * 3, none⟩) bl (cu - k), .slice p3 bl c3] (W0.drewN (nq + a)) fun e w' => e = .returned (.bool eq) ∧ ∃ m, w' = W0.drewN (nq + m)) := by
   refine hid (fun a => ?_)
   have l1 : ((W.drop k).take bl).length = bl := by rw [List.length_take, List.length_drop, HNN.out]; omega
   have h1 := equal45q (w := W0.drewN (nq + a)) (p1 := some ⟨g0, o0 + k * 3, none⟩) (c1 := cu - k) (p2 := p3) (c2 := c3) ((W.drop k).take bl) u.body (HW.out.sub k bl) HU.out.b (by rw [l1]; omega) (by rw [HBL.out]; omega)
   rw [l1, HBL.out, heq] at h1
   exact h1.mono fun _ _ ⟨h, m, hm⟩ => ⟨h, a + m, by rw [hm, World.drewN_drewN, Nat.add_assoc]⟩
  have HEQ := hid heq
  clear heq
  by_cases hq : bb = true ∧ f = true
  ·obtain ⟨rfl, rfl⟩ := hq
   obtain rfl : pre = false := by rw [← hpre]; rfl
   go_quiet (fail)
   go_wp2_with fail
   go_meet
   first | exact ⟨rfl, _, World.drewN_drewN _ _ _⟩ | exact ⟨rfl, _, rfl⟩
  have hbf : bb = false ∨ (bb = true ∧ f = false) := by cases bb <;> cases f <;> simp at hq ⊢
  have hbf2 : (!bb || !f) = true := by rcases hbf with rfl | ⟨rfl, rfl⟩ <;> rfl
  by_cases hr : en = true ∧ e = true
  ·obtain ⟨rfl, rfl⟩ := hr
   obtain rfl : pre = false := by rw [← hpre]; simp
   rcases hbf with rfl | ⟨rfl, rfl⟩
   all_goals
    go_quiet (fail)
    go_wp2_with fail
    go_meet
    first | exact ⟨rfl, _, World.drewN_drewN _ _ _⟩ | exact ⟨rfl, _, rfl⟩
  have hre : en = false ∨ (en = true ∧ e = false) := by cases en <;> cases e <;> simp at hr ⊢
  have hre2 : (!en || !e) = true := by rcases hre with rfl | ⟨rfl, rfl⟩ <;> rfl
  obtain rfl : pre = eq := by rw [← hpre, hbf2, hre2]; simp
  rcases hbf with rfl | ⟨rfl, rfl⟩
  all_goals rcases hre with rfl | ⟨rfl, rfl⟩
  all_goals
   go_quiet (exact hE.out _)
   go_wp2_with fail
   go_meet
   first | exact ⟨rfl, _, World.drewN_drewN _ _ _⟩ | exact ⟨rfl, _, rfl⟩
 case rest =>
  obtain ⟨rfl, d, rfl⟩ := hcut
  cases pre with
  | false =>
   go_wp2_with fail
   go_ret
   exact ⟨rfl, bel_dr hb1.out _⟩
  | true =>
   simp only [Bool.and_eq_true, decide_eq_true_eq] at hpre
   obtain ⟨⟨⟨⟨m1, m2⟩, _⟩, _⟩, _⟩ := hpre
   obtain ⟨f0, hf0⟩ : ∃ f0 : Nat, k = f0 + ll := ⟨k - ll, by omega⟩
   have hFk : (k : Int) - ll = f0 := by omega
   have hW1 : Below W0.heap.size W0 (W0.drewN d) := bel_dr (Below.refl _ _) d
   have HX1 := hid (HX.out.low hW1)
   have HU1 := hid (HU.out.low hW1)
   have HW1 := hid (HW.out.low hW1)
   have hb2 := hid (bel_dr hb1.out d)
   have KB1 := hid (KB.out.low hW1)
   have hE1 : Hid (k - u.left.length = f0) := hid (by rw [HLL.out]; omega)
   clear hW1 HX HU HW hb1 KB y1 y2 y3 y4 y5 z0 zf hF hF2 hw2 hw3
   generalize W0.drewN d = W1 at *
   have y1 := HU1.out.y1
   have z0 := KB1.out.cell (k := 0) rfl
   have zf := KB1.out.froz
   rw [HLL.out] at y1
   go_wp2_with fail
   go_loopw [87] (fun v wr => ∃ i : Nat, i ≤ ll ∧ v = .int .i64 i ∧ Hid (leftB x u.left W f0 i = true) ∧ Hid (Below W1.heap.size W1 wr)) (fun v _ => ll - (RowKit.intOf v).toNat)
   case atStart => exact ⟨0, Nat.zero_le _, rfl, hid rfl, hid (Below.refl _ _)⟩
   case round =>
    clear y1 z0 zf
    obtain ⟨i, hi, rfl, hT, hB⟩ := hrel
    have hw1 : IntKind.i64.wrap ((i : Int) + 1) = (i : Int) + 1 := Wi64 (by omega)
    have hbr := hid (hb2.out.trans (hB.out.mono hb2.out.size))
    by_cases hlt : i < ll
    ·have q1 := dT (show (i : Int) < ll by omega)
     have q2 : (i : Int) < ll := by omega
     have q3 : IntKind.i64.wrap ((f0 : Int) + i) = (f0 : Int) + i := Wi64 (by omega)
     have q4 : (0 : Int) ≤ (f0 : Int) + i := by omega
     have q5 : (f0 : Int) + i < n := by omega
     have q6 : ((f0 : Int) + i).toNat = f0 + i := by omega
     obtain ⟨it, hit⟩ : ∃ it, u.left[i]? = some it := ⟨_, List.getElem?_eq_getElem (by rw [HLL.out]; exact hlt)⟩
     obtain ⟨o, ho⟩ : ∃ o, W[f0 + i]? = some o := ⟨_, List.getElem?_eq_getElem (by rw [HNN.out]; omega)⟩
     obtain ⟨g1, rfl, hcell⟩ := (HU1.out.l.low hB.out) (fun e => by rw [e] at hit; cases hit)
     obtain ⟨a0, a1, a2, a3⟩ := hcell i it hit
     have HX2 := hid (HX1.out.low hB.out)
     have HW2 := hid (HW1.out.low hB.out)
     have KB2 := hid (KB1.out.low hB.out)
     have hIt : Hid (ItemG x.said it) := hid (HG.out.l it (List.mem_of_getElem? hit))
     have hO : Hid (OneB o) := hid (HWb.out o (List.mem_of_getElem? ho))
     have hbA : Below wr.heap.size wr (wr.alloc (.cells it.cells.toArray 146)) := (Below.refl _ _).alloc (Nat.le_refl _) _
     have hC := hid (fun xx : Ext (wr.alloc (.cells it.cells.toArray 146)) => is62 ((HX2.out.low hbA).low xx.h) it o hIt.out hO.out)
     have HW3 := hid (HW2.out.low hbA)
     have KB3 := hid (KB2.out.low hbA)
     have hbr3 := hid (bnext hbr.out hbA)
     have hB3 := hid (bnext hB.out hbA)
     have hst := hid (leftB_step (x := x) (k := f0) hit ho)
     rw [hT.out, Bool.true_and] at hst
     obtain ⟨hs, hhs⟩ : ∃ hs, hasB x it o = hs := ⟨_, rfl⟩
     rw [hhs] at hC hst
     obtain ⟨g2, o2, rfl, b0, b1, b2⟩ := HW3.out.at ho
     have z0 := KB3.out.cell (k := 0) rfl
     have zf := KB3.out.froz
     unfold Item.cells Item.val One.val at *
     clear HX2 HW2 KB2 HW3 KB3 hit hcell hhs hbA hIt hO ho hbr
     go_wp2_with fail
     refine ext_all (by kernel_rfl) (by kernel_rfl) ?_
     repeat (go_big_quiet_step (first | with_reducible exact Ext.call (hC.out _)))
     refine wpQuiet_nil ?_
     rintro _ ⟨xx, rfl⟩
     have hB5 := hid (bnext hB3.out xx.h)
     have hb5 := hid (bnext hbr3.out xx.h)
     generalize xx.w = W5 at *
     clear hC hB3 hbr3 a0 a1 a2 a3 b0 b1 b2 z0 zf
     cases hs with
     | false =>
      have hF := hid (leftB_down (ll - (i + 1)) _ hst)
      rw [show i + 1 + (ll - (i + 1)) = ll by omega] at hF
      go_wp2_with fail
      go_ret
      exact ⟨by rw [hE1.out, HLL.out, hF.out]; rfl, hb5.out⟩
     | true =>
      go_wp2_with fail
      go_roundw
      case rel => exact ⟨i + 1, by omega, by go_num, hid hst, hB5⟩
      case measure => simp [RowKit.intOf] <;> omega
    ·obtain rfl : i = ll := by omega
     have q1 : decide ((i : Int) < i) = false := by simp
     have HU2 := hid (HU1.out.low hB.out)
     have HX2 := hid (HX1.out.low hB.out)
     have HW2 := hid (HW1.out.low hB.out)
     have KB2 := hid (KB1.out.low hB.out)
     have y2 := HU2.out.y2
     rw [HRL.out] at y2
     have hw2 : IntKind.i64.wrap ((k : Int) + (bl : Int)) = (k : Int) + bl := Wi64 (by omega)
     clear HX1 HU1 HW1 KB1 hb2 hf0 hFk
     go_wp2_with fail
     go_loopw [109] (fun v wz => ∃ j : Nat, j ≤ rl ∧ v = .int .i64 j ∧ Hid (leftB x u.right W (k + bl) j = true) ∧ Hid (Below wr.heap.size wr wz)) (fun v _ => rl - (RowKit.intOf v).toNat)
     case atStart => exact ⟨0, Nat.zero_le _, rfl, hid rfl, hid (Below.refl _ _)⟩
     case round =>
      clear y2 hB
      obtain ⟨j, hj, rfl, hS, hB⟩ := hrel
      have hw1 : IntKind.i64.wrap ((j : Int) + 1) = (j : Int) + 1 := Wi64 (by omega)
      by_cases hlt : j < rl
      ·have q1 := dT (show (j : Int) < rl by omega)
       have q2 : (j : Int) < rl := by omega
       have q3 : IntKind.i64.wrap ((k : Int) + bl + j) = (k : Int) + bl + j := Wi64 (by omega)
       have q4 : (0 : Int) ≤ (k : Int) + bl + j := by omega
       have q5 : (k : Int) + bl + j < n := by omega
       have q6 : ((k : Int) + bl + j).toNat = k + bl + j := by omega
       obtain ⟨it, hit⟩ : ∃ it, u.right[j]? = some it := ⟨_, List.getElem?_eq_getElem (by rw [HRL.out]; exact hlt)⟩
       obtain ⟨o, ho⟩ : ∃ o, W[k + bl + j]? = some o := ⟨_, List.getElem?_eq_getElem (by rw [HNN.out]; omega)⟩
       obtain ⟨g1, rfl, hcell⟩ := (HU2.out.r.low hB.out) (fun e => by rw [e] at hit; cases hit)
       obtain ⟨a0, a1, a2, a3⟩ := hcell j it hit
       have HX3 := hid (HX2.out.low hB.out)
       have HW3 := hid (HW2.out.low hB.out)
       have KB3 := hid (KB2.out.low hB.out)
       have hbr4 := hid (bnext hbr.out hB.out)
       have hIt : Hid (ItemG x.said it) := hid (HG.out.r it (List.mem_of_getElem? hit))
       have hO : Hid (OneB o) := hid (HWb.out o (List.mem_of_getElem? ho))
       have hbA : Below wr.heap.size wr (wr.alloc (.cells it.cells.toArray 146)) := (Below.refl _ _).alloc (Nat.le_refl _) _
       have hC := hid (fun xx : Ext (wr.alloc (.cells it.cells.toArray 146)) => is62 ((HX3.out.low hbA).low xx.h) it o hIt.out hO.out)
       have HW4 := hid (HW3.out.low hbA)
       have KB4 := hid (KB3.out.low hbA)
       have hbr5 := hid (bnext hbr4.out hbA)
       have hB5 := hid (bnext hB.out hbA)
       have hst := hid (leftB_step (x := x) (k := k + bl) hit ho)
       rw [hS.out, Bool.true_and] at hst
       obtain ⟨hs, hhs⟩ : ∃ hs, hasB x it o = hs := ⟨_, rfl⟩
       rw [hhs] at hC hst
       obtain ⟨g2, o2, rfl, b0, b1, b2⟩ := HW4.out.at ho
       have z0 := KB4.out.cell (k := 0) rfl
       have zf := KB4.out.froz
       unfold Item.cells Item.val One.val at *
       clear HX3 HW3 KB3 HW4 KB4 hit hcell hhs hbA hIt hO ho hbr4
       go_wp2_with fail
       refine ext_all (by kernel_rfl) (by kernel_rfl) ?_
       repeat (go_big_quiet_step (first | with_reducible exact Ext.call (hC.out _)))
       refine wpQuiet_nil ?_
       rintro _ ⟨xx, rfl⟩
       have hB6 := hid (bnext hB5.out xx.h)
       have hb6 := hid (bnext hbr5.out xx.h)
       generalize xx.w = W5 at *
       clear hC hB5 hbr5 a0 a1 a2 a3 b0 b1 b2 z0 zf
       cases hs with
       | false =>
        have hF := hid (leftB_down (rl - (j + 1)) _ hst)
        rw [show j + 1 + (rl - (j + 1)) = rl by omega] at hF
        go_wp2_with fail
        go_ret
        exact ⟨by rw [HRL.out, HBL.out, hF.out, Bool.and_false]; rfl, hb6.out⟩
       | true =>
        go_wp2_with fail
        go_roundw
        case rel => exact ⟨j + 1, by omega, by go_num, hid hst, hB6⟩
        case measure => simp [RowKit.intOf] <;> omega
      ·obtain rfl : j = rl := by omega
       have q1 : decide ((j : Int) < j) = false := by simp
       go_wp2_with fail
       go_ret
       exact ⟨by rw [hE1.out, HLL.out, hT.out, HRL.out, HBL.out, hS.out]; rfl, bnext hbr.out hB.out⟩
end Go.Proofs.YtieifhfgedoiaaaGreatDoor
