/- phone.Read. Conditions: those of each theorem. -/
import Derived.Test.YtieifhfgedoiaaaGreatDoorNPe
namespace Go.Proofs.YtieifhfgedoiaaaGreatDoor
open Go.RowKit Go.Lib
open Go.ChangeMaps
set_option linter.unusedVariables false
set_option linter.unusedSimpArgs false
theorem dec_ext (s : ByteArray) (a p : Nat) : Utf8.decode (s.extract a s.size) p = Utf8.decode s (a + p) := tail_decode s a p
theorem phAt_ext (s : ByteArray) (a p : Nat) (ha : a ≤ s.size) : phAt (s.extract a s.size) p = phAt s (a + p) := by
 have e1 : rnN (s.extract a s.size) p = rnN s (a + p) := by unfold rnN; rw [dec_ext]
 have e2 : wdN (s.extract a s.size) p = wdN s (a + p) := by unfold wdN; rw [dec_ext]
 unfold phAt
 rw [e1, e2]
 simp only [stB_ext s a _ ha, Nat.add_assoc]
theorem phAt_pos {s : ByteArray} {p : Nat} (hp : p < s.size) {x : Ph} {n : Nat} (h : phAt s p = some (x, n)) : 1 ≤ n ∧ p + n ≤ s.size := by
 have hw := wdN_pos hp
 have key : ∀ q t, q + (List.length t) ≤ s.size ∨ stB s q t = false := fun q t => by
  cases hb : stB s q t
  ·exact .inr rfl
  ·exact .inl (stB_le hb)
 unfold phAt at h
 cases htr : trOf (rnN s p) with
 | none => rw [htr] at h; cases h
 | some t =>
  rw [htr] at h
  dsimp only at h
  have h0 : p + (if stB s (p + wdN s p) [203, 144] = true then wdN s p + 2 else wdN s p) ≤ s.size := by
   split
   ·rename_i hl; have := stB_le hl; simp at this; omega
   ·omega
  have h1 : 1 ≤ (if stB s (p + wdN s p) [203, 144] = true then wdN s p + 2 else wdN s p) := by split <;> omega
  generalize (if stB s (p + wdN s p) [203, 144] = true then wdN s p + 2 else wdN s p) = q at h h0 h1
  split at h
  ·injection h with h; injection h with _ h; subst h; exact ⟨h1, h0⟩
  ·split at h
   ·rename_i hi; have := stB_le hi; simp at this
    injection h with h; injection h with _ h; subst h; exact ⟨by omega, by omega⟩
   ·split at h
    ·rename_i hi; have := stB_le hi; simp at this
     injection h with h; injection h with _ h; subst h; exact ⟨by omega, by omega⟩
    ·injection h with h; injection h with _ h; subst h; exact ⟨h1, h0⟩
theorem phsR_end {s : ByteArray} {p : Nat} {acc : List (Ph × Nat)} (h : ¬ p < s.size) : phsR s p acc = (acc, p) := by rw [phsR, dif_neg h]
theorem phsR_no {s : ByteArray} {p : Nat} {acc : List (Ph × Nat)} (hp : p < s.size) (h : phAt s p = none) : phsR s p acc = (acc, p) := by
 rw [phsR, dif_pos hp]
 split
 ·rfl
 ·rename_i he; rw [h] at he; cases he
theorem phsR_more {s : ByteArray} {p : Nat} {acc : List (Ph × Nat)} (hp : p < s.size) {x : Ph} {n : Nat} (h : phAt s p = some (x, n)) : phsR s p acc = phsR s (p + n) (acc ++ [(x, p)]) := by
 have hn := (phAt_pos hp h).1
 rw [phsR, dif_pos hp]
 split
 ·rename_i he; rw [h] at he; cases he
 ·rename_i y k he
  rw [h] at he
  injection he with he; injection he with h1 h2
  subst h1 h2
  rw [if_pos (by omega)]
def manyI (acc : List (Ph × Nat)) : Int := match acc[128]? with
 | some x => x.2
 | none => -1
theorem manyI_lt {acc : List (Ph × Nat)} (h : acc.length ≤ 128) : manyI acc = -1 := by
 unfold manyI
 rw [List.getElem?_eq_none h]
theorem manyI_ge {acc : List (Ph × Nat)} (h : 128 < acc.length) (y : Ph × Nat) : 0 ≤ manyI acc ∧ manyI (acc ++ [y]) = manyI acc := by
 unfold manyI
 rw [List.getElem?_append_left h]
 refine ⟨?_, rfl⟩
 rw [List.getElem?_eq_getElem h]
 exact Int.natCast_nonneg _
theorem manyI_at {acc : List (Ph × Nat)} (h : acc.length = 128) (y : Ph × Nat) : manyI (acc ++ [y]) = y.2 := by
 unfold manyI
 rw [List.getElem?_append_right (by omega), h]
 rfl
theorem info66 : (Tryz.prog.info? 60).map (fun i => (i.zero, i.size, i.bytes)) = some (some (.agg #[.int .i32 0, .bool false, .int .i32 0]), 3, 12) := by kernel_rfl
theorem bnext' {n : Nat} {a b c : World} (h : Below n a b) (k : Below b.heap.size b c) (hn : n < b.heap.size) : Below n a c := h.trans (k.mono (Nat.le_of_lt hn))
theorem Tab.kept {w w' : World} {m b n sz : Nat} {e : TypeId} {v : Value} {xs : List Value} {l : List Row} (h : Tab w m l) (ho : w.ownsRow b e sz v n xs) (hg : w.grownBy w' v.ownBlock) : Tab w' m l := by
 obtain ⟨f, h1, h2⟩ := h.e
 refine ⟨f, h1.block (hg.block m h1.lt (fun he => ?_)), h2⟩
 rcases ho.2 with ⟨hv, _⟩ | ⟨g, cap, cur, hv, _, hc, _⟩
 ·rw [hv] at he; cases he
 ·rw [hv] at he
  injection he with he
  subst he
  obtain ⟨es, c, hb, _⟩ := h1
  rw [hb] at hc; cases hc
def ReadPost (w w' : World) (r : Res (List Ph)) (e : Ending) : Prop :=
 match r with
 | .ok l _ => ∃ v, e = .returned (.tuple #[v, .agg #[.int .i64 0, .int .i64 0]]) ∧ w'.ownsRow w.heap.size 60 3 v l.length (flatE Ph.cells l)
 | .bad er q => e = .returned (.tuple #[.slice none 0 0, .agg #[.int .i64 er, .int .i64 q]])
set_option maxRecDepth 100000 in
set_option maxHeartbeats 4000000 in
theorem phread_any (s : ByteArray) (w : World) (hs : s.size ≤ 100000000) : Calls Tryz.prog 75 #[.string s] w fun e w' => ReadPost w w' (phR s 0) e ∧ Below w.heap.size w w' := by
 obtain ⟨i0, hi, hz0, hz1, hz2⟩ := info_parts info66
 have hTb := hid table_any
 go_enter Tryz.func75, Tryz.ntmps75
 go_wp2_with (go_at_call 85; (with_reducible refine Calls.mono (hTb.out _) ?_); rintro e w1 ⟨m, rfl, hT1, hm1, hB1⟩; have K3 := hid ((Blk.new w 44 #[.int .i64 0, .int .i64 0]).low hB1); have HT := hid hT1; have HB := hid (((Below.refl w.heap.size w).alloc (Nat.le_refl _) (.cells #[.int .i64 0, .int .i64 0] 44)).trans (hB1.mono (by simp))); clear hT1 hm1 hB1 hTb)
 obtain ⟨N, hN⟩ : ∃ N, w.heap.size = N := ⟨_, rfl⟩
 rw [hN] at K3 HB
 simp only [hN]
 have HN := hid hN
 clear hN
 go_loopw [5, 6, 7] (fun v k a wr => ∃ (pos : Nat) (acc : List (Ph × Nat)), a = .int .i64 pos ∧ k = .int .i64 (manyI acc) ∧ Hid (wr.ownsRow (N + 1) 60 3 v (min acc.length 128) (flatE Ph.cells ((acc.take 128).map (·.1)))) ∧ Hid (Blk wr N 44 #[.int .i64 0, .int .i64 0]) ∧ Hid (Tab wr m rowsS) ∧ Hid (Below N w wr) ∧ pos ≤ s.size ∧ manyI acc ≤ pos ∧ Hid (phsR s 0 [] = phsR s pos acc)) (fun _ _ a _ => s.size - (intOf a).toNat)
 case atStart => exact ⟨0, [], rfl, rfl, World.ownsRow_nil _ _ _ _, K3, HT, HB, Nat.zero_le _, by decide, rfl⟩
 case round =>
  obtain ⟨pos, acc, rfl, rfl, hO, hK, hT, hB, hp, hmp, hS⟩ := hrel
  clear K3 HT HB
  have hNw : Hid (N < wr.heap.size) := hid hK.out.lt
  by_cases hlt : pos < s.size
  ·have q1 := dT (show (pos : Int) < s.size by omega)
   have q2 : decide (pos < s.size) = true := decide_eq_true hlt
   have hle : pos ≤ s.size := hp
   cases hph : phAt s pos with
   | none =>
    have hN := hid (fun w' (h : Tab w' m rowsS) => next_no h (s.extract pos s.size) (by rw [ext_size]; omega) (by rw [ext_size]; omega) (by rw [phAt_ext s pos 0 (by omega)]; exact hph))
    have hE : Hid (phsR s 0 [] = (acc, pos)) := by rw [hS.out, phsR_no hlt hph]; exact hid rfl
    by_cases hal : acc.length ≤ 128
    ·have hR : Hid (phR s 0 = .bad 80 pos) := by
      unfold phR
      rw [hE.out]
      dsimp only
      rw [List.getElem?_eq_none hal, if_pos hlt]; exact hid rfl
     rw [manyI_lt hal]
     obtain ⟨q, hq⟩ : ∃ q, min acc.length 128 = q := ⟨_, rfl⟩
     rw [hq] at hO
     obtain ⟨pp, cap, rfl⟩ := own_shape hO.out
     clear hph hS hE hal hq hmp
     go_wp2_with (go_at_call 86; (with_reducible refine Calls.mono (hN.out _ hT.out) ?_); rintro e w2 ⟨rfl, hb2⟩; have HO2 := hid (own_low hO.out hb2); have HK2 := hid (hK.out.low hb2); have HT2 := hid (hT.out.low hb2); have HB2 := hid (bnext' hB.out hb2 hNw.out); clear hb2 hN; have hlN := HK2.out.lt; obtain ⟨k0, k1, kf⟩ := HK2.out.c2)
     refine bodyPost_ret (v := .tuple #[.slice none 0 0, .agg #[.int .i64 80, .int .i64 pos]]) (by simp [results, Tryz.results75, go_sem, k0, k1, kf, hlN]) rfl ⟨by rw [hR.out]; rfl, ?_⟩
     rw [HN.out]
     have hB := HB2.out
     repeat' (first | exact hB | refine below_set ?_ ?_ _ _ | refine Below.alloc ?_ ?_ _ | (simp only [size_set]; omega) | omega)
    ·obtain ⟨y, hy⟩ : ∃ y, acc[128]? = some y := ⟨_, List.getElem?_eq_getElem (by omega)⟩
     have hR : Hid (phR s 0 = .bad 3 y.2) := by
      unfold phR
      rw [hE.out]
      dsimp only
      rw [hy]; exact hid rfl
     obtain ⟨mi, hmi⟩ : ∃ mi, manyI acc = mi := ⟨_, rfl⟩
     have hmiq : Hid (mi = (y.2 : Int)) := by rw [← hmi]; unfold manyI; rw [hy]; exact hid rfl
     rw [hmi]
     have t1 : decide (0 ≤ mi) = true := decide_eq_true (by have := hmiq.out; omega)
     obtain ⟨q, hq⟩ : ∃ q, min acc.length 128 = q := ⟨_, rfl⟩
     rw [hq] at hO
     obtain ⟨pp, cap, rfl⟩ := own_shape hO.out
     clear hph hS hE hal hq hmp hmi hy
     go_wp2_with (go_at_call 86; (with_reducible refine Calls.mono (hN.out _ hT.out) ?_); rintro e w2 ⟨rfl, hb2⟩; have HO2 := hid (own_low hO.out hb2); have HK2 := hid (hK.out.low hb2); have HT2 := hid (hT.out.low hb2); have HB2 := hid (bnext' hB.out hb2 hNw.out); clear hb2 hN; have hlN := HK2.out.lt; obtain ⟨k0, k1, kf⟩ := HK2.out.c2)
     refine bodyPost_ret (v := .tuple #[.slice none 0 0, .agg #[.int .i64 3, .int .i64 mi]]) (by simp [results, Tryz.results75, go_sem, k0, k1, kf, hlN]) rfl ⟨by rw [hR.out]; exact (show Ending.returned _ = Ending.returned _ by rw [hmiq.out]), ?_⟩
     rw [HN.out]
     have hB := HB2.out
     repeat' (first | exact hB | refine below_set ?_ ?_ _ _ | refine Below.alloc ?_ ?_ _ | (simp only [size_set]; omega) | omega)
   | some z =>
    obtain ⟨x, n⟩ := z
    obtain ⟨hn1, hn2⟩ := phAt_pos hlt hph
    have hN := hid (fun w' (h : Tab w' m rowsS) => next_some h (s.extract pos s.size) (by rw [ext_size]; omega) (by rw [ext_size]; omega) (show phAt (s.extract pos s.size) 0 = some (x, n) by rw [phAt_ext s pos 0 (by omega)]; exact hph))
    have hE : Hid (phsR s 0 [] = phsR s (pos + n) (acc ++ [(x, pos)])) := by rw [hS.out, phsR_more hlt hph]; exact hid rfl
    obtain ⟨xr, xl, xg⟩ := x
    simp only [Ph.val] at hN
    have tn : ((n : Int) == 0) = false := beq_false_of (by omega)
    have hw1 : IntKind.i64.wrap ((pos : Int) + n) = (pos : Int) + n := Wi64 (by omega)
    rcases Nat.lt_trichotomy acc.length 128 with hal | hal | hal
    ·-- room
     have hml : manyI acc = -1 := manyI_lt (by omega)
     have hml2 : Hid (manyI (acc ++ [((⟨xr, xl, xg⟩ : Ph), pos)]) = -1) := hid (manyI_lt (by rw [List.length_append]; simp; omega))
     have htk : Hid (((acc ++ [((⟨xr, xl, xg⟩ : Ph), pos)]).take 128).map (·.1) = (acc.take 128).map (·.1) ++ [⟨xr, xl, xg⟩]) := by
      rw [List.take_of_length_le (by rw [List.length_append]; simp; omega), List.take_of_length_le (by omega), List.map_append]; exact hid rfl
     obtain ⟨q, hq⟩ : ∃ q, acc.length = q := ⟨_, rfl⟩
     rw [hml]
     rw [show min acc.length 128 = q by omega] at hO
     have t128 : ((q : Int) == 128) = false := beq_false_of (by omega)
     have hQ := hid hq
     have hq128 : q < 128 := by omega
     obtain ⟨pp, cap, rfl⟩ := own_shape hO.out
     clear hph hS hal hq hmp hml
     go_wp2_with (first | (go_at_call 86; (with_reducible refine Calls.mono (hN.out _ hT.out) ?_); rintro e w2 ⟨rfl, hb2⟩; have HO2 := hid (own_low hO.out hb2); have HK2 := hid (hK.out.low hb2); have HT2 := hid (hT.out.low hb2); have HB2 := hid (bnext' hB.out hb2 hNw.out); clear hb2 hN) | (at_builtin; refine wpList_append_own _ rfl (.tmp 35) (.tmp 37) 36 rfl (N + 1) 60 i0 _ 3 12 Tryz.underlying36 hi hz0 hz1 hz2 rfl (by decide) _ _ _ rfl ((HO2.out.alloc _).alloc _) ⟨w2.heap.size + 1, 0, none⟩ 1 1 [.int .i32 xr, .bool xl, .int .i32 xg] rfl rfl (cells_next3 _ _ _ _ _ _) (by simp [Value.oneCell']) (by unfold maxLen; omega) (by omega) (by have := HK2.out.lt; simp <;> omega) ?_; refine stop_here ?_))
     refine hid ?_
     intro v' w5 hown' hgrow hnil
     have hO5 : Hid (w5.ownsRow (N + 1) 60 3 v' (q + 1) (flatE Ph.cells (((acc ++ [((⟨xr, xl, xg⟩ : Ph), pos)]).take 128).map (·.1)))) := by rw [htk.out, flatE_snoc, List.map_take]; exact hid hown'
     have hge : ∀ k, (Value.slice pp q cap).ownBlock = some k → N + 1 ≤ k := fun k hk => (own_ge HO2.out hk).1
     have HK5 := hid (((HK2.out.alloc _).alloc _).kept hgrow (fun e => by have := hge _ e.symm; omega))
     have HB5 : Hid (Below N w w5) := hid ((((HB2.out.alloc (by have := HK2.out.lt; omega) _).alloc (by have := HK2.out.lt; simp; omega) _)).grown hgrow (by have := HK2.out.lt; simp; omega) (fun k hk => by have := hge k hk; omega))
     have HT5 := hid (Tab.kept ((HT2.out.low ((Below.refl _ _).alloc (Nat.le_refl _) _)).low ((Below.refl _ _).alloc (Nat.le_refl _) _)) ((HO2.out.alloc _).alloc _) hgrow)
     clear hown' hgrow hnil hge
     obtain ⟨pp5, cap5, rfl⟩ := own_shape hO5.out
     go_wp2_with fail
     go_roundw
     case rel => exact ⟨pos + n, acc ++ [(⟨xr, xl, xg⟩, pos)], by go_num, by rw [hml2.out], by rw [List.length_append, hQ.out, show min (q + [((⟨xr, xl, xg⟩ : Ph), pos)].length) 128 = q + 1 by simp; omega]; exact hO5, HK5, HT5, HB5, by omega, by rw [hml2.out]; omega, hE⟩
     case measure => simp [intOf]; omega
    ·-- one too many
     have hml : manyI acc = -1 := manyI_lt (by omega)
     have hml2 : Hid (manyI (acc ++ [((⟨xr, xl, xg⟩ : Ph), pos)]) = pos) := hid (manyI_at hal _)
     have htk : Hid ((acc ++ [((⟨xr, xl, xg⟩ : Ph), pos)]).take 128 = acc.take 128) := hid (List.take_append_of_le_length (by omega))
     rw [hml]
     rw [show min acc.length 128 = 128 by omega] at hO
     have hQ := hid hal
     have t0 := dF (show ¬ ((pos : Int) < 0) by omega)
     obtain ⟨pp, cap, rfl⟩ := own_shape hO.out
     clear hph hS hal hmp hml
     go_wp2_with (go_at_call 86; (with_reducible refine Calls.mono (hN.out _ hT.out) ?_); rintro e w2 ⟨rfl, hb2⟩; have HO2 := hid (own_low hO.out hb2); have HK2 := hid (hK.out.low hb2); have HT2 := hid (hT.out.low hb2); have HB2 := hid (bnext' hB.out hb2 hNw.out); clear hb2 hN)
     go_roundw
     case rel => exact ⟨pos + n, acc ++ [(⟨xr, xl, xg⟩, pos)], by go_num, by rw [hml2.out], by rw [List.length_append, hQ.out, htk.out, show min (128 + [((⟨xr, xl, xg⟩ : Ph), pos)].length) 128 = 128 by simp]; exact own_low HO2.out ((Below.refl _ _).alloc (Nat.le_refl _) _), HK2.out.alloc _, HT2.out.low ((Below.refl _ _).alloc (Nat.le_refl _) _), HB2.out.alloc (by have := HK2.out.lt; omega) _, by omega, by rw [hml2.out]; omega, hE⟩
     case measure => simp [intOf]; omega
    ·-- more than that
     obtain ⟨mi, hmi⟩ : ∃ mi, manyI acc = mi := ⟨_, rfl⟩
     have hg2 := manyI_ge hal ((⟨xr, xl, xg⟩ : Ph), pos)
     rw [hmi] at hg2 hmp
     have hml2 := hid hg2.2
     rw [hmi]
     have t0 : decide (mi < 0) = false := decide_eq_false (by have := hg2.1; omega)
     have htk : Hid ((acc ++ [((⟨xr, xl, xg⟩ : Ph), pos)]).take 128 = acc.take 128) := hid (List.take_append_of_le_length (by omega))
     have hQ := hid hal
     rw [show min acc.length 128 = 128 by omega] at hO
     have hmpH := hid hmp
     obtain ⟨pp, cap, rfl⟩ := own_shape hO.out
     clear hph hS hal hmp hmi hg2
     go_wp2_with (go_at_call 86; (with_reducible refine Calls.mono (hN.out _ hT.out) ?_); rintro e w2 ⟨rfl, hb2⟩; have HO2 := hid (own_low hO.out hb2); have HK2 := hid (hK.out.low hb2); have HT2 := hid (hT.out.low hb2); have HB2 := hid (bnext' hB.out hb2 hNw.out); clear hb2 hN)
     go_roundw
     case rel => exact ⟨pos + n, acc ++ [(⟨xr, xl, xg⟩, pos)], by go_num, by rw [hml2.out], by rw [List.length_append, htk.out, show min (acc.length + [((⟨xr, xl, xg⟩ : Ph), pos)].length) 128 = 128 by have := hQ.out; simp; omega]; exact own_low HO2.out ((Below.refl _ _).alloc (Nat.le_refl _) _), HK2.out.alloc _, HT2.out.low ((Below.refl _ _).alloc (Nat.le_refl _) _), HB2.out.alloc (by have := HK2.out.lt; omega) _, by omega, by rw [hml2.out]; have := hmpH.out; omega, hE⟩
     case measure => simp [intOf]; omega
  ·have q1 := dF (show ¬ ((pos : Int) < s.size) by omega)
   have q2 : decide (pos < s.size) = false := decide_eq_false hlt
   have hE : Hid (phsR s 0 [] = (acc, pos)) := by rw [hS.out, phsR_end hlt]; exact hid rfl
   by_cases hal : acc.length ≤ 128
   ·have hR : Hid (phR s 0 = .ok (acc.map (·.1)) pos) := by
     unfold phR
     rw [hE.out]
     dsimp only
     rw [List.getElem?_eq_none hal, if_neg hlt]; exact hid rfl
    rw [manyI_lt hal]
    obtain ⟨q, hq⟩ : ∃ q, min acc.length 128 = q := ⟨_, rfl⟩
    rw [hq] at hO
    obtain ⟨pp, cap, rfl⟩ := own_shape hO.out
    have hOK : Hid (wr.ownsRow (N + 1) 60 3 (.slice pp q cap) (acc.map (·.1)).length (flatE Ph.cells (acc.map (·.1)))) := by
     have := hO.out
     rw [List.take_of_length_le hal] at this
     rw [List.length_map, show acc.length = q by omega]
     exact hid this
    clear hS hE hal hq hmp
    have hlN := hK.out.lt
    obtain ⟨k0, k1, kf⟩ := hK.out.c2
    go_wp2_with fail
    skip
    refine bodyPost_ret (v := .tuple #[.slice pp q cap, .agg #[.int .i64 0, .int .i64 0]]) (by simp [results, Tryz.results75, go_sem, k0, k1, kf, hlN]) rfl ⟨by rw [hR.out]; exact ⟨_, rfl, own_mono (own_set (own_set hOK.out (B := N) (by omega) 0 (.int .i64 0)) (B := N) (by omega) 1 (.int .i64 0)) (by rw [HN.out]; omega)⟩, ?_⟩
    rw [HN.out]
    have hB := hB.out
    repeat' (first | exact hB | refine below_set ?_ ?_ _ _ | refine Below.alloc ?_ ?_ _ | (simp only [size_set]; omega) | omega)
   ·obtain ⟨y, hy⟩ : ∃ y, acc[128]? = some y := ⟨_, List.getElem?_eq_getElem (by omega)⟩
    have hR : Hid (phR s 0 = .bad 3 y.2) := by
     unfold phR
     rw [hE.out]
     dsimp only
     rw [hy]; exact hid rfl
    obtain ⟨mi, hmi⟩ : ∃ mi, manyI acc = mi := ⟨_, rfl⟩
    have hmiq : Hid (mi = (y.2 : Int)) := by rw [← hmi]; unfold manyI; rw [hy]; exact hid rfl
    rw [hmi]
    have t1 : decide (0 ≤ mi) = true := decide_eq_true (by have := hmiq.out; omega)
    obtain ⟨q, hq⟩ : ∃ q, min acc.length 128 = q := ⟨_, rfl⟩
    rw [hq] at hO
    obtain ⟨pp, cap, rfl⟩ := own_shape hO.out
    clear hS hE hal hq hmp hmi hy
    have hlN := hK.out.lt
    obtain ⟨k0, k1, kf⟩ := hK.out.c2
    go_wp2_with fail
    refine bodyPost_ret (v := .tuple #[.slice none 0 0, .agg #[.int .i64 3, .int .i64 mi]]) (by simp [results, Tryz.results75, go_sem, k0, k1, kf, hlN]) rfl ⟨by rw [hR.out]; exact (show Ending.returned _ = Ending.returned _ by rw [hmiq.out]), ?_⟩
    rw [HN.out]
    have hB := hB.out
    repeat' (first | exact hB | refine below_set ?_ ?_ _ _ | refine Below.alloc ?_ ?_ _ | (simp only [size_set]; omega) | omega)
end Go.Proofs.YtieifhfgedoiaaaGreatDoor
