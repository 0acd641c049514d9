/- Zipf in both hands. Conditions: those of each theorem. -/
import Derived.Test.YthidjbobjjoekaaGreatCpC
import Derived.Maps.AppendAt
namespace Go.Proofs.YthidjbobjjoekaaGreat
open Go.RowKit Go.Lib Go.Sort Go.Shelf
set_option linter.unusedVariables false
set_option linter.unusedSimpArgs false
open Ieee (infR)
def Sep (a b : Option Nat) : Prop := ∀ k, a = some k → b = some k → False
theorem Sep.kept {a b : Option Nat} (h : Sep a b) : b = none ∨ b ≠ a := by
  cases b with
  | none => exact .inl rfl
  | some k => exact .inr fun e => h k e.symm rfl
theorem Sep.symm {a b : Option Nat} (h : Sep a b) : Sep b a := fun k e f => h k f e
theorem Sep.next {a a' b : Option Nat} {n : Nat} (h : Sep a b) (hn : a' = a ∨ a' = some n) (hb : ∀ k, b = some k → k < n) : Sep a' b := fun k e f => by
  rcases hn with rfl | rfl
  · exact h k e f
  · cases e; exact Nat.lt_irrefl _ (hb _ f)
/-- two rows of floats that grow beside each other -/
structure Two (w0 wr : World) (xv yv : Value) (xs ys : List Nat) : Prop where
  ox : wr.ownsRow w0.heap.size 23 1 xv xs.length (xs.map encF)
  oy : wr.ownsRow w0.heap.size 23 1 yv ys.length (ys.map encF)
  sep : Sep xv.ownBlock yv.ownBlock
  low : Below w0.heap.size w0 wr
theorem Two.start (w : World) : Two w w (.slice none 0 0) (.slice none 0 0) [] [] :=
  ⟨World.ownsRow_nil _ _ _ _, World.ownsRow_nil _ _ _ _, fun k e _ => by simp [Value.ownBlock] at e, Below.refl _ _⟩
theorem Two.flip {w0 wr : World} {xv yv : Value} {xs ys : List Nat} (h : Two w0 wr xv yv xs ys) : Two w0 wr yv xv ys xs := ⟨h.oy, h.ox, h.sep.symm, h.low⟩
theorem Two.up {w0 wr wz : World} {xv yv : Value} {xs ys : List Nat} (h : Two w0 wr xv yv xs ys) (hb : Below wr.heap.size wr wz) : Two w0 wz xv yv xs ys :=
  ⟨h.ox.kept (grownNone hb) (Classical.em _), h.oy.kept (grownNone hb) (Classical.em _), h.sep, h.low.trans (hb.mono h.low.size)⟩
theorem Two.push {w0 wr w5 : World} {xv yv v' : Value} {xs ys : List Nat} (h : Two w0 wr xv yv xs ys) (o : Obj) (x : Nat) (hg : (wr.alloc o).grownBy w5 xv.ownBlock)
    (ho : w5.ownsRow w0.heap.size 23 1 v' (xs.length + 1) (xs.map encF ++ [.float .f64 x])) (hl : v'.ownBlock = xv.ownBlock ∨ v'.ownBlock = some (wr.heap.size + 1)) : Two w0 w5 v' yv (xs ++ [x]) ys where
  ox := by rw [List.length_append, List.map_append]; exact ho
  oy := (h.oy.alloc o).kept hg h.sep.kept
  sep := h.sep.next hl fun k e => by have := (h.oy.lt k e).2; omega
  low := (h.low.alloc h.low.size o).grown hg (by have := h.low.size; simp; omega) (fun k hk => (h.ox.lt k hk).1)
theorem row_floats {w : World} {b : Nat} {v : Value} {xs : List Nat} (h : w.ownsRow b 23 1 v xs.length (xs.map encF)) (hx : ∀ x ∈ xs, x < 18446744073709551616) : ∃ p cap, v = .slice p xs.length cap ∧ FloatsIn w p xs := by
  rcases h.2 with ⟨hv, hz⟩ | ⟨g, cap, cur, hv, hbase, hb, k1, k2, k3, k4⟩
  · refine ⟨none, 0, by rw [hv, hz], ⟨fun k x hk => ?_, hx⟩⟩
    have : xs = [] := List.eq_nil_of_length_eq_zero hz
    subst this; simp at hk
  · refine ⟨some ⟨g, 0, none⟩, cap, hv, ⟨fun k x hk => ⟨g, 0, rfl, (Array.getElem?_eq_some_iff.1 hb).1, ?_⟩, hx⟩⟩
    have := h.cells (g := g) (by rw [hv]; rfl) k (encF x) (by rw [List.getElem?_map, hk]; rfl)
    have e : (⟨g, 0, none⟩ : Addr).add k = ⟨g, 0 + k, none⟩ := by unfold Addr.add; split <;> simp_all
    rw [← e]; exact this
def zx (n : Nat) : List Nat := (List.range n).map fun (i : Nat) => log2V (floatOfInt .f64 ((i : Int) + 1))
def zy (L : List Ent) : List Nat := L.map fun x => log2V (floatOfInt .f64 x.2)
theorem zx_succ (n : Nat) : zx (n + 1) = zx n ++ [log2V (floatOfInt .f64 ((n : Int) + 1))] := by unfold zx; rw [List.range_succ, List.map_append]; rfl
theorem zx_len (n : Nat) : (zx n).length = n := by unfold zx; simp
theorem zy_len (L : List Ent) : (zy L).length = L.length := by unfold zy; simp
theorem zy_snoc (L : List Ent) (j : Nat) (x : Ent) (h : L[j]? = some x) : zy (L.take (j + 1)) = zy (L.take j) ++ [log2V (floatOfInt .f64 x.2)] := by unfold zy; rw [take_snoc L j x h, List.map_append]; rfl
theorem zx_lt (n : Nat) : ∀ x ∈ zx n, x < 18446744073709551616 := fun x hx => by
  unfold zx at hx
  obtain ⟨i, _, rfl⟩ := List.mem_map.1 hx
  exact log2V_lt _ (int_lt _)
theorem zy_lt (L : List Ent) : ∀ x ∈ zy L, x < 18446744073709551616 := fun x hx => by
  unfold zy at hx
  obtain ⟨i, _, rfl⟩ := List.mem_map.1 hx
  exact log2V_lt _ (int_lt _)
def zipV (L : List Ent) : Option Nat × Int := if L.length < 2 then (some 0, 4) else slV (zx L.length) (zy L)
theorem EntsBack.ents {w w' : World} {L : List Ent} {v : Value} (h : EntsBack w L v w') : EntsIn w' v L := by
  rcases h.2 with h | ⟨g, cap, h1, _, h2, h3⟩
  · exact .inl h
  · exact .inr ⟨g, cap, h1, h2, h3⟩
set_option maxRecDepth 100000 in
set_option maxHeartbeats 4000000 in
theorem zipf39 {w : World} {b m : Nat} {L : List Ent} (h : Tal w b m L) :
    Calls Tryz.prog 20 #[.pointer (some ⟨b, 0, none⟩)] w fun e w' => ∃ m, e = .returned (.tuple #[.float .f64 m, .int .i64 (zipV L).2]) ∧ cl m = (zipV L).1 ∧ Below w.heap.size w w' := by
  obtain ⟨i0, hi, hz0, hz1, hz2⟩ := info_parts infoF
  have hEn := hid (entries_any h)
  have hlen := h.he.len
  have c0 := h.hb.cell (k := 0) (v := .map (some m)) rfl
  have hl : ∀ ty, _ := fun ty => (h.hm.elim fun D hD => by have := hD.1.len (e := 3) Tryz.underlying68 ty; rw [hD.2.size] at this; exact this)
  clear h
  unfold zipV
  by_cases h2 : L.length < 2
  · rw [if_pos h2]
    have h2' : (L.length : Int) < 2 := by omega
    generalize L.length = n at *
    go_enter Tryz.func20, Tryz.ntmps20
    go_wp2_with fail
    go_ret2
    exact ⟨0, rfl, cl_zero, Below.refl _ _⟩
  rw [if_neg h2]
  have hTk : Hid (L.take L.length = L) := by rw [List.take_length]; exact hid rfl
  have hZx := hid zx_len
  have hZy := hid (fun j => zy_len (L.take j))
  generalize hS : slV (zx L.length) (zy L) = S at *
  have hSS := hid hS
  clear hS
  have h2' : (2 : Int) ≤ (L.length : Int) := by omega
  go_enter Tryz.func20, Tryz.ntmps20
  go_wp2_with fail
  with_reducible refine Calls.mono hEn.out ?_
  rintro e w1 ⟨v, rfl, hbk⟩
  have hB1 := hid hbk.1
  obtain ⟨p, cap, rfl, hat⟩ := hbk.ents.opened
  have HA := hid hat
  clear hbk hat hEn c0 hl
  go_wp2_with fail
  go_loopw [4, 5, 19] (fun a b i wr => ∃ j : Nat, j ≤ L.length ∧ i = .int .i64 j ∧ Hid (Two w1 wr a b (zx j) (zy (L.take j)))) (fun _ _ i _ => L.length - (intOf i).toNat)
  case atStart => exact ⟨0, Nat.zero_le _, rfl, hid (Two.start w1)⟩
  case round =>
    obtain ⟨j, hj, rfl, hT⟩ := hrel
    by_cases hlt : j < L.length
    · obtain ⟨x, hx⟩ : ∃ x, L[j]? = some x := ⟨_, List.getElem?_eq_getElem hlt⟩
      obtain ⟨g, rfl, hg, q0, q1⟩ := HA.out j x hx
      have hki : (j : Int) < L.length := by omega
      have hzs := hid (zy_snoc L j x hx)
      have hzx := hid (zx_succ j)
      have hl1 := hid (fun W => log2_any (floatOfInt .f64 ((j : Int) + 1)) (int_lt _) W)
      have hl2 := hid (fun W => log2_any (floatOfInt .f64 x.2) (int_lt _) W)
      have e := hT.out.low.block g hg
      replace q0 := (World.cell?_of_block (a := ⟨g, j * 2, none⟩) e).trans q0
      replace q1 := (World.cell?_of_block (a := ⟨g, j * 2 + 1, none⟩) e).trans q1
      have sw := hT.out.low.size
      have hTa := hid (hT.out.up ((Below.refl _ _).alloc (Nat.le_refl _) (.cells #[.string x.1, .int .i64 x.2] 75)))
      have hox := hid hTa.out.ox
      rw [hZx.out] at hox
      have hX := hid (Blk.new wr 75 #[.string x.1, .int .i64 x.2])
      have hxl := hid (fun k e => (hT.out.ox.lt k e).2)
      clear hx e hT
      go_wp2_with fail
      with_reducible refine Calls.mono (hl1.out _) ?_
      rintro e w' ⟨rfl, rfl⟩
      obtain ⟨N, hN⟩ : ∃ N, wr.heap.size = N := ⟨_, rfl⟩
      rw [hN] at hX sw hxl
      generalize hwa : wr.alloc (.cells #[.string x.1, .int .i64 x.2] 75) = wa at *
      have hNa : N < wa.heap.size := hX.out.lt
      clear hwa q0 q1
      rw [hN]
      clear hN
      go_wp2_with (first | (at_builtin; refine wpList_append_own_at _ rfl (.tmp 24) (.tmp 29) 35 rfl w1.heap.size 23 i0 _ 1 8 Tryz.underlying35 hi hz0 hz1 hz2 rfl (by decide) _ j _ rfl (hox.out.alloc _) ⟨wa.heap.size, 0, none⟩ 1 1 [.float .f64 (log2V (floatOfInt .f64 ((j : Int) + 1)))] rfl rfl (cells_new1 _ _ _) (by intro u hu; simp at hu; subst hu; rfl) (by unfold maxLen; omega) (by omega) (by simp; omega) ?_; refine stop_here ?_) | fail)
      refine hid ?_
      intro xv w5 hown' hgrow hnil hloc
      have hX5 := hid ((hX.out.alloc _).kept hgrow (fun e => Nat.lt_irrefl _ (hxl.out _ e.symm)))
      have hT1 := hid (hTa.out.push _ (log2V (floatOfInt .f64 ((j : Int) + 1))) hgrow (by rw [hZx.out]; exact hown') hloc)
      rw [← hzx.out] at hT1
      have hoy := hid hT1.out.oy
      rw [hZy.out, List.length_take, Nat.min_eq_left hj] at hoy
      have sw5 := hT1.out.low.size
      have q1 := hX5.out.cell (k := 1) (v := .int .i64 x.2) rfl
      clear hown' hgrow hnil hloc hTa hox
      go_wp2_with fail
      with_reducible refine Calls.mono (hl2.out _) ?_
      rintro e w' ⟨rfl, rfl⟩
      clear q1
      go_wp2_with (first | (at_builtin; refine wpList_append_own_at _ rfl (.tmp 31) (.tmp 36) 35 rfl w1.heap.size 23 i0 _ 1 8 Tryz.underlying35 hi hz0 hz1 hz2 rfl (by decide) _ j _ rfl (hoy.out.alloc _) ⟨w5.heap.size, 0, none⟩ 1 1 [.float .f64 (log2V (floatOfInt .f64 x.2))] rfl rfl (cells_new1 _ _ _) (by intro u hu; simp at hu; subst hu; rfl) (by unfold maxLen; omega) (by omega) (by simp; omega) ?_; refine stop_here ?_) | fail)
      refine hid ?_
      intro yv w6 hown' hgrow hnil hloc
      have hT2 := hid (hT1.out.flip.push _ (log2V (floatOfInt .f64 x.2)) hgrow (by rw [hZy.out, List.length_take, Nat.min_eq_left hj]; exact hown') hloc).flip
      rw [← hzs.out] at hT2
      clear hown' hgrow hnil hloc hT1 hoy
      go_wp2_with fail
      go_roundw
      case rel => exact ⟨j + 1, by omega, by go_num, hT2⟩
      case measure => simp [intOf]; omega
    · obtain rfl : j = L.length := by omega
      rw [hTk.out] at hT
      obtain ⟨p1, c1, rfl, hf1⟩ := row_floats hT.out.ox (zx_lt _)
      obtain ⟨p2, c2, rfl, hf2⟩ := row_floats hT.out.oy (zy_lt _)
      have hSl := hid (slope31 wr p1 p2 c1 c2 _ _ hf1 hf2 (by rw [zx_len]; omega) (by rw [zy_len]; omega))
      rw [hSS.out] at hSl
      have hlow := hid (hB1.out.trans (hT.out.low.mono hB1.out.size))
      clear hf1 hf2 hT
      go_wp2_with fail
      with_reducible refine Calls.mono hSl.out ?_
      rintro e w' ⟨m, q, rfl, hm, rfl⟩
      have HM := hid hm
      clear hm
      go_wp2_with fail
      go_ret2
      exact ⟨_, rfl, HM.out, hlow.out.trans ⟨rfl, rfl, rfl, Nat.le_refl _, fun _ _ => rfl⟩⟩
end Go.Proofs.YthidjbobjjoekaaGreat
