/- fold.plain, walked. Conditions: those of each theorem. -/
import Derived.Test.YteodfondjogmoaaGreatDoorJi
import Derived.Test.YteodfondjogmoaaGreatDoorJj
import Derived.Test.YteodfondjogmoaaGreatDoorJd
import Derived.Test.YteodfondjogmoaaGreatDoorRNLfD
import Derived.Test.YteodfondjogmoaaGreatDoorTFj
import Derived.Lib.AppendStr
import Derived.Lib.BufferRead
namespace Go.Proofs.YteodfondjogmoaaGreatDoor
open Go Go.RowKit Go.Lib Go.Shelf
set_option linter.unusedVariables false
set_option linter.unusedSimpArgs false
attribute [local go_sem] Oper.semAt_some C.Ext.cell C.Ext.froz
/-- the row of what stands for what -/
def othR : List Nat := [223, 115, 115, 32, 230, 97, 101, 32, 248, 111, 32, 240, 100, 32, 254, 116, 104, 32, 273, 100, 32, 295, 104, 32, 305, 105, 32, 307, 105, 106, 32, 312, 113, 32, 320, 108, 32, 322, 108, 32, 329, 110, 32, 331, 110, 103, 32, 339, 111, 101, 32, 359, 116, 32, 383, 115, 32, 962, 963, 32]
def othB : ByteArray := ⟨(othR.flatMap encN).toArray⟩
/-- the program's search in it -/
def othQ (s : ByteArray) (sm : Nat) : List Nat → Option Nat → Bool → Option (Nat × Nat)
  | [], _, _ => none
  | p :: t, fr, h =>
    if rnN s p = 32 then (match fr with | some f => some (f, p) | none => othQ s sm t none true)
    else othQ s sm t (if h && rnN s p == sm then some (p + wdN s p) else fr) false
abbrev othP := othQ othB
def headsP : List Nat → Bool → List Nat
  | [], _ => []
  | p :: t, h => if rnN othB p = 32 then headsP t true else (if h then [rnN othB p] else []) ++ headsP t false
theorem ba_eta (e : ByteArray) (l : List UInt8) (h : e.data.toList = l) : (⟨l.toArray⟩ : ByteArray) = e := by subst h; rfl
theorem enc_ba (r : Nat) (hr : RuneOk r) : (⟨(encN r).toArray⟩ : ByteArray) = Utf8.encode (r : Int) := ba_eta (Utf8.encode (r : Int)) (encN r) (encN_eq r hr)
theorem oth_sp (s : ByteArray) (sm p f : Nat) (t : List Nat) (h : Bool) (h1 : rnN s p = 32) : othQ s sm (p :: t) (some f) h = some (f, p) := by simp only [othQ, if_pos h1]
theorem oth_sp0 (s : ByteArray) (sm p : Nat) (t : List Nat) (h : Bool) (h1 : rnN s p = 32) : othQ s sm (p :: t) none h = othQ s sm t none true := by simp only [othQ, if_pos h1]
theorem oth_ru (s : ByteArray) (sm p : Nat) (t : List Nat) (f : Option Nat) (h : Bool) (h1 : ¬ rnN s p = 32) : othQ s sm (p :: t) f h = othQ s sm t (if h && rnN s p == sm then some (p + wdN s p) else f) false := by
  conv => lhs; unfold othQ
  rw [if_neg h1]
theorem oth_none (sm : Nat) : ∀ (l : List Nat) (h : Bool), sm ∉ headsP l h → othP sm l none h = none
  | [], _, _ => rfl
  | p :: t, h, hn => by
    unfold headsP at hn
    by_cases h1 : rnN othB p = 32
    · rw [if_pos h1] at hn
      exact (oth_sp0 othB sm p t h h1).trans (oth_none sm t true hn)
    · rw [if_neg h1] at hn
      refine (oth_ru othB sm p t none h h1).trans ?_
      rw [List.mem_append, not_or] at hn
      have e : (h && rnN othB p == sm) = false := by
        cases h with
        | false => rfl
        | true =>
          have h2 := hn.1
          rw [if_pos rfl, List.mem_singleton] at h2
          rw [Bool.true_and]
          exact beq_eq_false_iff_ne.2 (fun e => h2 e.symm)
      rw [e]
      exact oth_none sm t false hn.2
set_option maxRecDepth 100000 in
theorem oth_size : othB.size = 79 := by decide +kernel
theorem oth_pos : posL othB 0 = posF othB 79 0 := posL_posF othB 79 0 (by rw [oth_size]; omega)
set_option maxRecDepth 100000 in
theorem oth_wd : (posF othB 79 0).all (fun p => (Utf8.encode (rnN othB p : Int)).size == wdN othB p) = true := by decide +kernel
set_option maxRecDepth 100000 in
theorem oth_heads : headsP (posF othB 79 0) true = othersT.map (fun x => x.1) := by decide +kernel
set_option maxRecDepth 100000 in
theorem oth_keys : othersT.all (fun x => (othP x.1 (posF othB 79 0) none true).map (fun q => (othB.extract q.1 q.2).data.toList) == some (x.2.flatMap encN)) = true := by decide +kernel
theorem oth_fine (sm : Nat) : (othP sm (posL othB 0) none true).map (fun q => (othB.extract q.1 q.2).data.toList) = (othersT.find? fun x => x.1 == sm).map (fun x => x.2.flatMap encN) := by
  rw [oth_pos]
  cases hf : othersT.find? (fun x => x.1 == sm) with
  | none =>
    rw [oth_none sm _ true ?_]
    · rfl
    · rw [oth_heads]
      intro hm
      obtain ⟨x, hx, e⟩ := List.mem_map.1 hm
      have := List.find?_eq_none.1 hf x hx
      simp [e] at this
  | some x =>
    have h1 := List.find?_some hf
    have h2 := List.all_eq_true.1 oth_keys x (List.mem_of_find?_eq_some hf)
    have e : x.1 = sm := by simpa using h1
    rw [e] at h2
    rw [eq_of_beq h2]
    rfl
theorem oth_some {sm : Nat} {pl : List Nat} {x p : Nat} (h1 : (othP sm (posL othB 0) none true).map (fun q => (othB.extract q.1 q.2).data.toList) = (othersT.find? fun x => x.1 == sm).map (fun x => x.2.flatMap encN)) (h2 : pl = ((othersT.find? fun x => x.1 == sm).map fun x => x.2).getD [sm]) (h3 : othP sm (posL othB 0) none true = some (x, p)) : othB.extract x p = ⟨(pl.flatMap encN).toArray⟩ := by
  rw [h3] at h1
  cases hf : othersT.find? (fun x => x.1 == sm) with
  | none => rw [hf] at h1; cases h1
  | some y =>
    rw [hf] at h1 h2
    have h1 : (othB.extract x p).data.toList = y.2.flatMap encN := Option.some.inj h1
    have h2 : pl = y.2 := h2
    rw [h2, ← h1, Array.toArray_toList]
theorem oth_no {sm : Nat} {pl : List Nat} (h1 : (othP sm (posL othB 0) none true).map (fun q => (othB.extract q.1 q.2).data.toList) = (othersT.find? fun x => x.1 == sm).map (fun x => x.2.flatMap encN)) (h2 : pl = ((othersT.find? fun x => x.1 == sm).map fun x => x.2).getD [sm]) (h3 : othP sm (posL othB 0) none true = none) : pl = [sm] := by
  rw [h3] at h1
  cases hf : othersT.find? (fun x => x.1 == sm) with
  | none => rw [hf] at h2; exact h2
  | some y => rw [hf] at h1; cases h1
theorem ret_oth {S0 T : ByteArray} (h : S0 = othB) (x p : Nat) (hT : othB.extract x p = T) : Ending.returned (.string (S0.extract x p)) = Ending.returned (.string T) := by
  subst h; rw [hT]
def frI : Option Nat → Int
  | some f => f
  | none => -1
theorem low_nonneg (r : Nat) : 0 ≤ R.lowI (r : Int) := by
  unfold R.lowI
  repeat' split
  all_goals (try unfold R.GreatP at *)
  all_goals omega
theorem low_bd (r : Nat) (h : letN r = true) : lowN r ≤ 1300 := by
  unfold letN R.greatB R.smallB at h
  rw [Bool.or_eq_true_iff, decide_eq_true_iff, decide_eq_true_iff] at h
  unfold lowN R.lowI
  unfold R.GreatP R.SmallP at *
  repeat' split
  all_goals omega
set_option maxRecDepth 100000 in
set_option maxHeartbeats 4000000 in
theorem plain78 (p br r : Nat) (lo hi : Value) (h1 : lo.oneCell' = true) (h2 : hi.oneCell' = true) (hr : RuneOk r) (w : World) : Calls Tryz.prog 75 #[.agg #[.int .i64 p, .int .u8 br, .int .i32 r, lo, hi]] w fun e w' => e = .returned (.string ⟨((plainN r).flatMap encN).toArray⟩) ∧ Below w.heap.size w w' := by
  have hr9 : r ≤ 1114111 := by unfold RuneOk at hr; omega
  have hLt := hid (fun W => letter120 p br r lo hi h1 h2 (.inr ⟨r, rfl, hr9⟩) W)
  have hLw := hid (fun W => R.lower54 (r : Int) (by omega) (by omega) W)
  have hlb : letB (r : Int) = letN r := by unfold letB; rw [decide_eq_true (by omega), Bool.true_and, Int.toNat_natCast]
  rw [hlb] at hLt
  clear hlb
  have k1 := Blk.new w 193 #[.int .i64 p, .int .u8 br, .int .i32 r, lo, hi]
  obtain ⟨w1, hw1⟩ : ∃ w1, w.alloc (.cells #[.int .i64 p, .int .u8 br, .int .i32 r, lo, hi] 193) = w1 := ⟨_, rfl⟩
  rw [hw1] at k1
  have HB1 := hid (show Below w.heap.size w w1 by rw [← hw1]; exact (Below.refl _ _).alloc (Nat.le_refl _) _)
  have HS1 := hid (show w1.heap.size = w.heap.size + 1 by rw [← hw1, World.size_alloc])
  have c0 := k1.cell (k := 0) rfl
  have c1 := k1.cell (k := 1) rfl
  have c2 := k1.cell (k := 2) rfl
  have c3 := k1.cell (k := 3) rfl
  have c4 := k1.cell (k := 4) rfl
  go_enter Tryz.func75, Tryz.ntmps75
  go_wp2_with fail
  with_reducible refine Calls.mono (hLt.out _) ?_
  rintro e w2 ⟨rfl, hb2⟩
  have HB2 := hid hb2
  have C2 := hid c2
  clear c0 c1 c2 c3 c4 hw1 hb2
  have c2 : w2.cell? ⟨w.heap.size, 2, none⟩ = some (.int .i32 r) := (k1.low HB2.out).cell (k := 2) rfl
  cases hl : letN r with
  | false =>
    go_wp2_with fail
    go_ret
    refine ⟨?_, HB1.out.trans (HB2.out.mono (by have := HS1.out; omega))⟩
    have e : plainN r = [r] := by unfold plainN; rw [hl]; rfl
    rw [e, List.flatMap_cons, List.flatMap_nil, List.append_nil, enc_ba r hr]
    rfl
  | true =>
    go_wp2_with fail
    with_reducible refine Calls.mono (hLw.out _) ?_
    rintro e w3 ⟨rfl, rfl⟩
    have hsm : R.lowI (r : Int) = (lowN r : Nat) := by unfold lowN; rw [Int.toNat_of_nonneg (low_nonneg r)]
    have hpl : plainN r = ((othersT.find? fun x => x.1 == lowN r).map fun x => x.2).getD [lowN r] := by unfold plainN; rw [hl]; rfl
    have hlok : RuneOk (lowN r) := by
      have := low_bd r hl
      exact .inl (by omega)
    rw [hsm]
    have hfin := hid (oth_fine (lowN r))
    have HPL := hid hpl
    have HLOK := hid hlok
    clear hsm hpl hlok hl
    generalize lowN r = sm at *
    obtain ⟨N, hNN⟩ : ∃ N, N = w2.heap.size := ⟨_, rfl⟩
    have hB2 : Hid (Below w.heap.size w w2) := hid (HB1.out.trans (HB2.out.mono (by have := HS1.out; omega)))
    have HNN := hid hNN
    have hN2 : w.heap.size ≤ N := by have := hB2.out.size; omega
    clear hNN k1 hLt hLw HB1 HB2 HS1 C2 c2
    go_wp2_with fail
    rw [← HNN.out]
    go_loopw [4, 5] (fun fr hd wr => ∃ (pos : Nat) (f : Option Nat) (hb : Bool), fr = .int .i64 (frI f) ∧ hd = .bool hb ∧ pos ≤ 79 ∧ Hid (∃ ps, posL othB 0 = ps ++ posL othB pos) ∧ Hid (othP sm (posL othB 0) none true = othP sm (posL othB pos) f hb) ∧ Hid (∀ x, f = some x → x ≤ pos) ∧ Hid (wr.heap[N]? = some (.stringIter othB pos)) ∧ Hid (Below w.heap.size w wr)) (fun fr hd wr => 79 - wr.iterPos N)
    case atStart =>
      have e : ∀ S0 : ByteArray, S0 = othB → (w2.iter S0 0).heap[N]? = some (.stringIter othB 0) := fun S0 h => by
        have := iter_new w2 S0
        rw [← HNN.out, h] at this
        rw [h]
        exact this
      refine ⟨0, none, true, rfl, rfl, Nat.zero_le _, hid ⟨[], rfl⟩, hid rfl, hid (fun x h => by cases h), hid (e _ (by kernel_rfl)), hid ?_⟩
      exact hB2.out.trans (((iter_kept (fun _ => True) _ _ _).below (Nat.le_refl _) (fun _ _ => trivial)).mono hB2.out.size)
    case round =>
      obtain ⟨pos, f, hb, rfl, rfl, hps, hpp, hP, hf, hit, hBw⟩ := hrel
      have hpos0 := hid (iterPos_of hit.out)
      have hos := hid oth_size
      by_cases hp : pos < 79
      · have hpB : pos < othB.size := by rw [hos.out]; exact hp
        have hnx : ∀ ty, (Instr.next (.pointer (some ⟨N, 0, none⟩)) true ty).run Tryz.prog wr = _ := fun ty => Lib.run_next_any_at wr N othB pos ty hit.out hpB
        change ∀ ty, (Instr.next (.pointer (some ⟨N, 0, none⟩)) true ty).run Tryz.prog wr = .ok (.tuple #[.bool true, .int .i64 pos, .int .i32 (rnN othB pos)]) (wr.iterAt N othB (pos + wdN othB pos)) at hnx
        have hwd := wdN_pos hpB
        have hit1 := hid (iterAt_heap wr N othB pos (pos + wdN othB pos) hit.out)
        have hB1 : Hid (Below w.heap.size w (wr.iterAt N othB (pos + wdN othB pos))) := hid (hBw.out.trans ((show Kept (fun k => k ≠ N) wr (wr.iterAt N othB (pos + wdN othB pos)) from ⟨rfl, rfl, rfl, by rw [iterAt_size]; exact Nat.le_refl _, fun k _ hk => iterAt_other wr N k othB _ hk⟩).below hBw.out.size (fun k hk => by omega)))
        have hP2 := hP.out
        rw [posL_more hpB] at hP2
        have hpp2 : Hid (∃ ps, posL othB 0 = ps ++ posL othB (pos + wdN othB pos)) := hid (by
          obtain ⟨ps, h⟩ := hpp.out
          rw [posL_more hpB] at h
          exact ⟨ps ++ [pos], by rw [h, List.append_assoc]; rfl⟩)
        have hwe : Hid ((Utf8.encode (rnN othB pos : Int)).size = wdN othB pos) := hid (by
          obtain ⟨ps, h⟩ := hpp.out
          rw [posL_more hpB] at h
          have h2 := List.all_eq_true.1 oth_wd pos (by rw [← oth_pos, h]; simp)
          exact eq_of_beq h2)
        have hmeas : Hid (1 ≤ wdN othB pos ∧ pos + wdN othB pos ≤ 79 ∧ pos < 79) := hid ⟨hwd.1, by rw [← hos.out]; exact hwd.2.2, hp⟩
        have hrn := rn_bd hpB
        have HP2 := hid hP2
        have hpI : (pos : Int) < 79 := by omega
        clear hP hpp hit hBw hP2
        generalize hq : rnN othB pos = q at *
        have HQ := hid hq
        clear hq
        generalize hqw : wdN othB pos = wd at *
        have HQW := hid hqw
        clear hqw
        generalize wr.iterAt N othB (pos + wd) = W1 at *
        by_cases h32 : q = 32
        · subst h32
          cases f with
          | some x =>
            have hO := hid (HP2.out.trans (oth_sp othB sm pos x _ hb HQ.out))
            clear HP2
            have hx : x ≤ pos := hf.out x rfl
            have hxI : (x : Int) ≤ pos := by omega
            have hx0 : (0 : Int) ≤ x := by omega
            have hxd : decide ((0 : Int) ≤ (x : Int)) = true := decide_eq_true hx0
            unfold frI
            dsimp only
            clear hpos0
            go_wp2_with fail
            go_ret
            exact ⟨ret_oth (by kernel_rfl) x pos (oth_some hfin.out HPL.out hO.out), hB1.out⟩
          | none =>
            have hO := hid (HP2.out.trans (oth_sp0 othB sm pos _ hb HQ.out))
            clear HP2
            have hfd : decide ((0 : Int) ≤ -1) = false := rfl
            unfold frI
            dsimp only
            go_wp2_with fail
            go_roundw
            case rel => exact ⟨_, none, true, rfl, rfl, hmeas.out.2.1, hpp2, hO, hid (fun x h => by cases h), hit1, hB1⟩
            case measure =>
              have h1 := iterPos_of hit1.out
              have h2 := hpos0.out
              have h3 := hmeas.out
              omega
        · have hO := hid (HP2.out.trans (oth_ru othB sm pos _ f hb (by rw [HQ.out]; exact h32)))
          rw [HQW.out, HQ.out] at hO
          clear HP2
          have q32 : ((q : Int) == 32) = false := beq_eq_false_iff_ne.2 (by omega)
          have q32d : decide ((q : Int) = 32) = false := decide_eq_false (by omega)
          cases hb with
          | false =>
            have hO2 : Hid (othP sm (posL othB 0) none true = othP sm (posL othB (pos + wd)) f false) := hO
            clear hO
            go_wp2_with fail
            go_roundw
            case rel => exact ⟨_, f, false, rfl, by rfl, hmeas.out.2.1, hpp2, hO2, hid (fun x h => by have := hf.out x h; omega), hit1, hB1⟩
            case measure =>
              have h1 := iterPos_of hit1.out
              have h2 := hpos0.out
              have h3 := hmeas.out
              omega
          | true =>
            by_cases hqs : q = sm
            · have hO2 : Hid (othP sm (posL othB 0) none true = othP sm (posL othB (pos + wd)) (some (pos + wd)) false) := hid (by
                have := hO.out
                rw [hqs, beq_self_eq_true, Bool.true_and, if_pos rfl] at this
                exact this)
              clear hO
              have qs : ((q : Int) == (sm : Int)) = true := by rw [hqs]; exact beq_self_eq_true _
              have qsd : decide ((q : Int) = (sm : Int)) = true := decide_eq_true (by rw [hqs])
              have hwe2 := hwe.out
              have hwl : wd ≤ 79 := by have := hmeas.out; omega
              clear hqs
              go_wp2_with fail
              go_roundw
              case rel => exact ⟨_, some (pos + wd), false, by go_num, by rfl, hmeas.out.2.1, hpp2, hO2, hid (fun x h => by have := Option.some.inj h; omega), hit1, hB1⟩
              case measure =>
                have h1 := iterPos_of hit1.out
                have h2 := hpos0.out
                have h3 := hmeas.out
                omega
            · have hO2 : Hid (othP sm (posL othB 0) none true = othP sm (posL othB (pos + wd)) f false) := hid (by
                have := hO.out
                rw [beq_eq_false_iff_ne.2 hqs, Bool.and_false, if_neg (by decide)] at this
                exact this)
              clear hO
              have qs : ((q : Int) == (sm : Int)) = false := beq_eq_false_iff_ne.2 (by omega)
              have qsd : decide ((q : Int) = (sm : Int)) = false := decide_eq_false (by omega)
              go_wp2_with fail
              go_roundw
              case rel => exact ⟨_, f, false, rfl, by rfl, hmeas.out.2.1, hpp2, hO2, hid (fun x h => by have := hf.out x h; omega), hit1, hB1⟩
              case measure =>
                have h1 := iterPos_of hit1.out
                have h2 := hpos0.out
                have h3 := hmeas.out
                omega
      · obtain rfl : pos = 79 := by omega
        have hpB : ¬ 79 < othB.size := by rw [hos.out]; omega
        have hnx : ∀ ty, (Instr.next (.pointer (some ⟨N, 0, none⟩)) true ty).run Tryz.prog wr = _ := fun ty => Lib.run_next_end_at wr N othB 79 ty hit.out hpB
        have hO := hid (show othP sm (posL othB 0) none true = none from hP.out.trans (by rw [posL_end hpB]; rfl))
        have hpl := hid (oth_no hfin.out HPL.out hO.out)
        clear hP hpp hit
        go_wp2_with fail
        go_ret
        refine ⟨?_, hBw.out⟩
        rw [hpl.out, List.flatMap_cons, List.flatMap_nil, List.append_nil, enc_ba _ HLOK.out]
        rfl
end Go.Proofs.YteodfondjogmoaaGreatDoor
/- fold.written and fold.Fold, walked. Conditions: those of each theorem. -/
namespace Go.Proofs.YteodfondjogmoaaGreatDoor
open Go Go.RowKit Go.Lib Go.Shelf
set_option linter.unusedVariables false
set_option linter.unusedSimpArgs false
attribute [local go_sem] Oper.semAt_some C.Ext.cell C.Ext.froz
def UOk (u : FU) : Prop := (u.base = -1 ∧ u.br < 256) ∨ ∃ r : Nat, u.base = r ∧ RuneOk r
theorem let_bd {r : Nat} (h : letN r = true) : r < 1120 := by
  unfold letN R.greatB R.smallB at h
  rw [Bool.or_eq_true_iff, decide_eq_true_iff, decide_eq_true_iff] at h
  unfold R.GreatP R.SmallP at h
  omega
theorem base_ok {r : Nat} (h : RuneOk r) : RuneOk (baseN r) := by
  unfold baseN
  cases hl : letN r with
  | false => rw [if_neg (by decide)]; exact h
  | true =>
    rw [if_pos rfl]
    have h1 := List.all_eq_true.1 fold_fine_all r (List.mem_range.2 (let_bd hl))
    rw [hl] at h1
    simp only [Bool.not_true, Bool.false_or, Bool.and_eq_true] at h1
    exact .inl (by have := let_bd h1.1.2; omega)
theorem fu_ok (s : ByteArray) : ∀ (ps : List Nat) (l : List FU), (∀ u ∈ l, UOk u) → (∀ p ∈ ps, p < s.size) → ∀ u ∈ ps.foldl (fuStep s) l, UOk u
  | [], l, h, _ => h
  | p :: t, l, h, hp => by
    rw [List.foldl_cons]
    have hps := hp p (by simp)
    refine fu_ok s t _ ?_ (fun q hq => hp q (by simp [hq]))
    intro u hu
    unfold fuStep at hu
    split at hu
    · rcases List.mem_append.1 hu with hu | hu
      · exact h u hu
      · rw [List.mem_singleton] at hu
        subst hu
        exact .inl ⟨rfl, by have := (s.get! p).toNat_lt; exact this⟩
    · next hb =>
      split at hu
      · exact h u hu
      · rcases List.mem_append.1 hu with hu | hu
        · exact h u hu
        · rw [List.mem_singleton] at hu
          subst hu
          exact .inr ⟨_, rfl, base_ok (rune_ok hps (by simpa using hb))⟩
set_option maxRecDepth 100000 in
theorem oth_len : (othersT.all fun x => decide (x.2.length ≤ 3)) = true := by decide +kernel
theorem enc_le (r : Nat) : (encN r).length ≤ 4 := by
  rw [encN_len]; repeat' split
  all_goals omega
theorem plain_len (r : Nat) : ((plainN r).flatMap encN).length ≤ 12 := by
  have h1 : (plainN r).length ≤ 3 := by
    unfold plainN
    split
    · cases hf : othersT.find? (fun x => x.1 == lowN r) with
      | none => simp
      | some y => exact of_decide_eq_true (List.all_eq_true.1 oth_len y (List.mem_of_find?_eq_some hf))
    · simp
  have h2 : ∀ l : List Nat, (l.flatMap encN).length ≤ 4 * l.length := by
    intro l
    induction l with
    | nil => simp
    | cons a t ih => rw [List.flatMap_cons, List.length_append, List.length_cons]; have := enc_le a; omega
  have := h2 (plainN r)
  omega
theorem bytesP_map (l : List Nat) : bytesP (l.map .ru) = l.flatMap encN := by
  unfold bytesP
  rw [List.flatMap_map]
  rfl
theorem wrU_len (u : FU) : (wrU u).length ≤ 12 := by
  unfold wrU
  split
  · simp
  · rw [bytesP_map]; exact plain_len _
theorem wrL_len (l : List FU) : (l.flatMap wrU).length ≤ 12 * l.length := by
  induction l with
  | nil => simp
  | cons a t ih => rw [List.flatMap_cons, List.length_append, List.length_cons]; have := wrU_len a; omega
theorem byteCells_app (a b : List UInt8) : byteCells (a ++ b) = byteCells a ++ byteCells b := by unfold byteCells; rw [List.map_append]
theorem info5 : (Tryz.prog.info? 5).map (fun i => (i.zero, i.size, i.bytes)) = some (some (.int .u8 0), 1, 1) := by kernel_rfl
/-- bytes of one's own, as a string -/
theorem own_convert {w : World} {base n : Nat} {v : Value} {l : List UInt8} (h : w.ownsRow base 5 1 v n (byteCells l)) (hn : n = l.length) : (convert 190 9 v).run Tryz.prog w = .ok (.string ⟨l.toArray⟩) w := by
  have hu : Tryz.prog.underlying 5 = some (.int .u8) := Tryz.underlying5
  rcases h.2 with ⟨rfl, hx⟩ | ⟨g, cap, cur, rfl, h2, h3, h4, h5, h6, h7⟩
  · have hl : l = [] := List.length_eq_zero_iff.1 (by omega)
    subst hl
    exact run_convert_nil_bytes w 190 9 5 0 Tryz.underlying190 hu Tryz.underlying9
  · subst hn
    exact run_convert_bytes_back w 190 9 5 ⟨g, 0, none⟩ cap l Tryz.underlying190 hu Tryz.underlying9 (bytes_of_row h3 (by rw [Nat.mul_one] at h7; exact h7))
end Go.Proofs.YteodfondjogmoaaGreatDoor
/- fold.written and fold.Fold, walked. Conditions: those of each theorem. -/
namespace Go.Proofs.YteodfondjogmoaaGreatDoor
open Go Go.RowKit Go.Lib Go.Shelf
set_option linter.unusedVariables false
set_option linter.unusedSimpArgs false
attribute [local go_sem] Oper.semAt_some C.Ext.cell C.Ext.froz
theorem ba_list (l : List UInt8) : strCells ⟨l.toArray⟩ = byteCells l := by rw [strCells_eq]
theorem ba_size (l : List UInt8) : (⟨l.toArray⟩ : ByteArray).size = l.length := by simp [ByteArray.size]
set_option maxRecDepth 100000 in
set_option maxHeartbeats 8000000 in
theorem written76 (s : ByteArray) (hs : s.size ≤ 1100000) (w : World) (base : Nat) (v : Value) (hU : UnR w base s v) : Calls Tryz.prog 73 #[v, .func (.func 75) #[] #[]] w fun e w' => e = .returned (.string (foldB s)) ∧ Below w.heap.size w w' := by
  obtain ⟨xs, hown, hrel, hbs⟩ := hU
  obtain ⟨i5, hi5, hz5, hs5, hb5⟩ := info_parts info5
  have hP := hid (fun p br r lo hi h1 h2 hr W => plain78 p br r lo hi h1 h2 hr W)
  have hok := fu_ok s (posL s 0) [] (fun u h => by simp at h) (fun p hp => posL_lt s _ 0 rfl p hp)
  have hll : (fuL s (posL s 0)).length ≤ 1100000 := by
    have h1 := fuL_len s (posL s 0)
    have h2 := posL_len s _ 0 rfl
    omega
  have hfin := hid (fu_fine s)
  change ∀ u ∈ fuL s (posL s 0), UOk u at hok
  generalize fuL s (posL s 0) = L at *
  have hLen := hid (fun k => wrL_len (L.take k))
  obtain ⟨a, c, rfl, hcell⟩ : ∃ a c, v = .slice a L.length c ∧ ∀ i u, L[i]? = some u → ∃ g x y, a = some ⟨g, 0, none⟩ ∧ g < w.heap.size ∧ w.cell? ⟨g, i * 5, none⟩ = some (.int .i64 u.p) ∧ w.cell? ⟨g, i * 5 + 1, none⟩ = some (.int .u8 u.br) ∧ w.cell? ⟨g, i * 5 + 2, none⟩ = some (.int .i32 u.base) ∧ w.cell? ⟨g, i * 5 + 3, none⟩ = some x ∧ w.cell? ⟨g, i * 5 + 4, none⟩ = some y ∧ x.oneCell' = true ∧ y.oneCell' = true := by
    rcases own_at hown with ⟨h1, h2⟩ | ⟨g, cap, h1, _, hg, h2⟩
    · exact ⟨none, 0, by rw [h2, h1], fun i u hu => by have := (List.getElem?_eq_some_iff.1 hu).1; omega⟩
    · refine ⟨_, cap, h1, fun i u hu => ?_⟩
      obtain ⟨y0, y1, y2, x, y, y3, y4, o3, o4⟩ := hrel i u hu
      exact ⟨g, x, y, rfl, hg, h2 _ _ y0, h2 _ _ y1, h2 _ _ y2, h2 _ _ y3, h2 _ _ y4, o3, o4⟩
  have HC := hid hcell
  have HOk := hid hok
  clear hcell hok hown hrel hbs
  obtain ⟨n, hn⟩ : ∃ n, L.length = n := ⟨_, rfl⟩
  rw [hn]
  have HN := hid hn
  have hn9 : n ≤ 1100000 := by omega
  clear hn hll
  go_enter Tryz.func73, Tryz.ntmps73
  go_wp2_with fail
  obtain ⟨N, hNN⟩ : ∃ N, N = w.heap.size := ⟨_, rfl⟩
  have HNN := hid hNN
  clear hNN
  go_loopw [5, 10] (fun bv i wr => ∃ k : Nat, k ≤ n ∧ i = .int .i64 k ∧ Hid (wr.ownsRow N 5 1 bv ((L.take k).flatMap wrU).length (byteCells ((L.take k).flatMap wrU))) ∧ Hid (Below N w wr) ∧ N ≤ wr.heap.size) (fun bv i wr => n - (RowKit.intOf i).toNat)
  case atStart => exact ⟨0, Nat.zero_le _, rfl, hid (World.ownsRow_nil _ _ _ _), hid (Below.refl _ _), by rw [HNN.out]; exact Nat.le_refl _⟩
  case round =>
    obtain ⟨k, hk, rfl, hO, hB, hsz⟩ := hrel
    by_cases hp : k < n
    · obtain ⟨u, hu⟩ : ∃ u, L[k]? = some u := ⟨_, List.getElem?_eq_getElem (by rw [HN.out]; exact hp)⟩
      obtain ⟨g, x, y, rfl, hg, q0, q1, q2, q3, q4, o3, o4⟩ := HC.out k u hu
      have low : ∀ {j : Nat} {v : Value}, w.cell? ⟨g, j, none⟩ = some v → wr.cell? ⟨g, j, none⟩ = some v := fun h => lowc h (by rw [← HNN.out]; exact hB.out)
      have q0 := low q0
      have q1 := low q1
      have q2 := low q2
      have q3 := low q3
      have q4 := low q4
      have hT : Hid ((L.take (k + 1)).flatMap wrU = (L.take k).flatMap wrU ++ wrU u) := hid (by
        rw [List.take_add_one, hu, Option.toList_some, List.flatMap_append, List.flatMap_cons, List.flatMap_nil, List.append_nil])
      have hkI : (k : Int) < n := by omega
      have hL1 := hLen.out k
      have hL2 : (L.take k).length ≤ 1100000 := by rw [List.length_take]; omega
      have hUk := HOk.out u (List.mem_of_getElem? hu)
      obtain ⟨up, ub, ubase⟩ := u
      dsimp only at q0 q1 q2
      clear low hu
      have hs3 : ∀ a m W, (store a x m).run Tryz.prog W = stored Tryz.prog W a x m := fun a m W => run_store _ W a x m o3
      have hs4 : ∀ a m W, (store a y m).run Tryz.prog W = stored Tryz.prog W a y m := fun a m W => run_store _ W a y m o4
      rcases hUk with ⟨hb1, hb2⟩ | ⟨r, hr, hr2⟩
      · dsimp only at hb1 hb2
        subst hb1
        have hWr : Hid (wrU ⟨up, ub, -1⟩ = [UInt8.ofNat ub]) := hid rfl
        go_wp2_with (at_builtin; refine stop_appW rfl ?_)
        obtain ⟨W3, hW3⟩ : ∃ W3, wr.alloc (.cells #[.int .i64 up, .int .u8 ub, .int .i32 (-1), x, y] 193) = W3 := ⟨_, rfl⟩
        have hS3 : W3.heap.size = wr.heap.size + 1 := by rw [← hW3, World.size_alloc]
        try rw [show wr.alloc (.cells #[.int .i64 up, .int .u8 ub, .int .i32 (-1), x, y] 193) = W3 from hW3]
        have hB3 : Below N w W3 := by rw [← hW3]; exact hB.out.alloc hsz _
        have hO3 : W3.ownsRow N 5 1 u5 ((L.take k).flatMap wrU).length (byteCells ((L.take k).flatMap wrU)) := by rw [← hW3]; exact hO.out.alloc _
        refine hid ?_
        refine wpList_append_own_at _ rfl _ _ 190 rfl N 5 i5 _ 1 1 Tryz.underlying190 hi5 hz5 hs5 hb5 rfl (by decide) u5 _ _ rfl (hO3.alloc _) ⟨W3.heap.size, 0, none⟩ 1 1 [.int .u8 ub] (by rw [hS3]; rfl) rfl (cells_new1 _ _ _) (by simp [Value.oneCell']) (by unfold maxLen; omega) (by omega) (by rw [World.size_alloc]; omega) ?_
        intro v' w6 hown hgrow _ _
        have hO6 : Hid (w6.ownsRow N 5 1 v' ((L.take (k + 1)).flatMap wrU).length (byteCells ((L.take (k + 1)).flatMap wrU))) := hid (by
          rw [hT.out, hWr.out, byteCells_app, List.length_append]
          have e : byteCells [UInt8.ofNat ub] = [.int .u8 (ub : Int)] := by
            show [Value.int .u8 ((UInt8.ofNat ub).toNat : Int)] = _
            rw [u8n' ub hb2]
          rw [e]
          exact hown)
        have hB6 := hid ((hB3.alloc (by omega) (.cells #[.int .u8 ub] 5)).grown hgrow (by rw [World.size_alloc]; omega) (fun q hq => (hO3.lt q hq).1))
        have hs6 : N ≤ w6.heap.size := by have := hgrow.size; rw [World.size_alloc] at this; omega
        clear hown hgrow hO hB hB3 hO3 hW3 hS3 hs3 hs4 q0 q1 q2 q3 q4
        go_wp2_with fail
        go_roundw
        case rel => exact ⟨k + 1, by omega, by go_num, hO6, hB6, hs6⟩
        case measure => simp [RowKit.intOf]; omega
      · dsimp only at hr
        subst hr
        have hWr : Hid (wrU ⟨up, ub, (r : Nat)⟩ = (plainN r).flatMap encN) := hid (by
          unfold wrU
          rw [if_neg (by show ¬ ((r : Int) < 0); omega), bytesP_map]
          rfl)
        have hrd : decide ((r : Int) < 0) = false := decide_eq_false (by omega)
        go_wp2_with fail
        obtain ⟨W3, hW3⟩ : ∃ W3, wr.alloc (.cells #[.int .i64 up, .int .u8 ub, .int .i32 (r : Int), x, y] 193) = W3 := ⟨_, rfl⟩
        have hS3 : W3.heap.size = wr.heap.size + 1 := by rw [← hW3, World.size_alloc]
        rw [show wr.alloc (.cells #[.int .i64 up, .int .u8 ub, .int .i32 (r : Int), x, y] 193) = W3 from hW3]
        have hB3 : Below N w W3 := by rw [← hW3]; exact hB.out.alloc hsz _
        have hO3 : W3.ownsRow N 5 1 u5 ((L.take k).flatMap wrU).length (byteCells ((L.take k).flatMap wrU)) := by rw [← hW3]; exact hO.out.alloc _
        with_reducible refine Calls.mono (hP.out up ub r x y o3 o4 hr2 W3) ?_
        rintro e W4 ⟨rfl, hb4⟩
        have hB4 := hid (hB3.trans (hb4.mono (by omega)))
        have hO4 := hid (row_keep hO3 (Kept.of_all hb4 (fun _ => True)) (fun _ _ => trivial))
        have hS4 : N ≤ W4.heap.size := by have := hb4.size; omega
        have hpl := hid (plain_len r)
        clear hB3 hO3 hb4 hW3 hS3 hs3 hs4 q0 q1 q2 q3 q4 hO hB
        go_wp2_with (at_builtin; refine R.stop_here ?_)
        refine hid ?_
        refine wpList_append_own_string _ rfl _ _ 190 9 rfl N 5 i5 Tryz.underlying190 Tryz.underlying9 hi5 hz5 hs5 hb5 _ ((L.take k).flatMap wrU).length _ rfl hO4.out ⟨((plainN r).flatMap encN).toArray⟩ rfl (by rw [ba_size]; unfold maxLen; have := hpl.out; omega) (by rw [ba_size]; have := hpl.out; omega) hS4 ?_
        intro v' w6 hown hgrow hnil
        have hO6 : Hid (w6.ownsRow N 5 1 v' ((L.take (k + 1)).flatMap wrU).length (byteCells ((L.take (k + 1)).flatMap wrU))) := hid (by
          rw [ba_list, ba_size] at hown
          rw [hT.out, hWr.out, byteCells_app, List.length_append]
          exact hown)
        have hB6 := hid (hB4.out.grown hgrow hS4 (fun q hq => (hO4.out.lt q hq).1))
        have hs6 : N ≤ w6.heap.size := by have := hgrow.size; omega
        clear hown hgrow hnil hO4 hB4
        go_wp2_with fail
        go_roundw
        case rel => exact ⟨k + 1, by omega, by go_num, hO6, hB6, hs6⟩
        case measure => simp [RowKit.intOf]; omega
    · obtain rfl : k = n := by omega
      have hconv := own_convert hO.out rfl
      rw [List.take_of_length_le (by rw [HN.out]; exact Nat.le_refl _), hfin.out] at hconv
      go_wp2_with fail
      go_ret
      exact ⟨rfl, by rw [← HNN.out]; exact hB.out⟩
/-- fold.Fold, walked -/
def FoldOk : Prop := ∀ (s : ByteArray), s.size ≤ 1100000 → ∀ w : World, Calls Tryz.prog 39 #[.string s] w fun e w' => e = .returned (.string (foldB s)) ∧ Below w.heap.size w w'
theorem fold40 : FoldOk := by
  intro s hs w
  have hU := hid (fun W => units77 s hs W)
  have hW := hid (fun W b v h => written76 s hs W b v h)
  go_enter Tryz.func39, Tryz.ntmps39
  go_wp2_with fail
  with_reducible refine Calls.mono (hU.out _) ?_
  rintro e w2 ⟨⟨v, rfl, hv⟩, hb2⟩
  go_wp2_with fail
  with_reducible refine Calls.mono (hW.out _ _ _ hv) ?_
  rintro e w3 ⟨rfl, hb3⟩
  go_wp2_with fail
  go_ret
  exact ⟨rfl, hb2.trans (hb3.mono hb2.size)⟩
end Go.Proofs.YteodfondjogmoaaGreatDoor
