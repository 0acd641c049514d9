/- slices.BinarySearchFunc of places, for a number and for a place. Conditions: those of each theorem. -/
import Derived.Test.YteodfondjogmoaaGreatDoorJf
import Derived.BigQuiet
import Derived.Test.YteodfondjogmoaaGreatDoorJe
namespace Go.Proofs.YteodfondjogmoaaGreatDoor
open Go Go.RowKit Go.Lib Go.Shelf
set_option linter.unusedVariables false
set_option linter.unusedSimpArgs false
attribute [local go_sem] Oper.semAt_some C.Ext.cell C.Ext.froz
/-- what a search says -/
def SrP (hs : List Hw) (cv : Hw → Int) (m : Nat) (e : Ending) : Prop := ∃ b : Bool, e = .returned (.tuple #[.int .i64 m, .bool b]) ∧ (b = true ↔ ∃ h, hs[m]? = some h ∧ cv h = 0)
set_option maxHeartbeats 4000000 in
theorem search73 {w0 : World} {a : Option Addr} {g : Nat} {hs : List Hw} (hH : HsAt w0 a g hs) (cap : Nat) (at' : Int) (lb : Array Value) (m : Nat) (hm : m ≤ hs.length) (hn : hs.length ≤ 32768) (cv : Hw → Int)
    (hcmp : ∀ (W : World), Below w0.heap.size w0 W → ∀ h ∈ hs, Calls Tryz.prog 71 (#[h.v, .int .i64 at'] ++ lb) W fun e w' => e = .returned (.int .i64 (cv h)) ∧ Below W.heap.size W w')
    (hlo : ∀ i h, hs[i]? = some h → (cv h < 0 ↔ i < m)) :
    Calls Tryz.prog 70 #[.slice a hs.length cap, .int .i64 at', .func (.func 71) #[] lb] w0 fun e w' => SrP hs cv m e ∧ Below w0.heap.size w0 w' := by
  obtain ⟨n, hnn⟩ : ∃ n, hs.length = n := ⟨_, rfl⟩
  rw [hnn] at hm hn ⊢
  have HN := hid hnn
  have HC := hid hcmp
  have HL := hid hlo
  have HH := hid hH
  clear hnn hcmp hlo hH
  go_enter Tryz.func70, Tryz.ntmps70
  go_wp2_with fail
  go_loopw [9, 10] (fun s9 s10 wr => ∃ lo hi : Nat, s9 = .int .i64 lo ∧ s10 = .int .i64 hi ∧ lo ≤ m ∧ m ≤ hi ∧ hi ≤ n ∧ Hid (Below w0.heap.size w0 wr)) (fun s9 s10 wr => (intOf s10).toNat - (intOf s9).toNat)
  case atStart => exact ⟨0, n, rfl, rfl, Nat.zero_le _, hm, Nat.le_refl _, hid (Below.refl _ _)⟩
  case round =>
    obtain ⟨lo, hi, rfl, rfl, hl, hh, hin, hb⟩ := hrel
    by_cases hlt : lo < hi
    · obtain ⟨h, hmid⟩ : ∃ h, hs[(lo + hi) / 2]? = some h := ⟨_, List.getElem?_eq_getElem (by rw [HN.out]; omega)⟩
      have ha : a = some ⟨g, 0, none⟩ := HH.out.ha.resolve_left (fun e => by rw [e] at hmid; cases hmid)
      obtain ⟨q0, q1, q2, q3, q4, q5⟩ := (HH.out.row _ h hmid).low hb.out
      have hc := hid (HC.out _ hb.out h (List.mem_of_getElem? hmid))
      have hlm := hid (HL.out _ h hmid)
      obtain ⟨hp, hl', hw, hnu, hf, ht⟩ := h
      dsimp only at q0 q1 q2 q3 q4 q5
      subst ha
      obtain ⟨mid, hmi⟩ : ∃ mid, (lo + hi) / 2 = mid := ⟨_, rfl⟩
      have hmi2 : ((lo : Int) + (hi : Int)) / 2 = (mid : Int) := by omega
      have hmlt : lo ≤ mid ∧ mid < hi := by omega
      have hmn : (mid : Int) < n := by omega
      rw [hmi] at q0 q1 q2 q3 q4 q5 hlm
      generalize hcv : cv ⟨hp, hl', hw, hnu, hf, ht⟩ = x at *
      clear hcv hmid
      by_cases hx : x < 0
      · have hxm : mid < m := hlm.out.1 hx
        clear hmi
        go_wp2_with fail
        with_reducible refine Calls.mono hc.out ?_
        rintro e w' ⟨rfl, hb2⟩
        go_wp2_with fail
        go_roundw
        case rel => exact ⟨mid + 1, hi, by go_num, rfl, by omega, hh, hin, hid (hb.out.trans (hb2.mono hb.out.size))⟩
        case measure => simp [intOf]; omega
      · have hxm : ¬ mid < m := fun e => hx (hlm.out.2 e)
        clear hmi
        go_wp2_with fail
        with_reducible refine Calls.mono hc.out ?_
        rintro e w' ⟨rfl, hb2⟩
        go_wp2_with fail
        go_roundw
        case rel => exact ⟨lo, mid, rfl, rfl, hl, by omega, by omega, hid (hb.out.trans (hb2.mono hb.out.size))⟩
        case measure => simp [intOf]; omega
    · obtain rfl : lo = m := by omega
      obtain rfl : hi = lo := by omega
      by_cases hend : hi < n
      · obtain ⟨h, hmid⟩ : ∃ h, hs[hi]? = some h := ⟨_, List.getElem?_eq_getElem (by rw [HN.out]; omega)⟩
        have ha : a = some ⟨g, 0, none⟩ := HH.out.ha.resolve_left (fun e => by rw [e] at hmid; cases hmid)
        obtain ⟨q0, q1, q2, q3, q4, q5⟩ := (HH.out.row _ h hmid).low hb.out
        have hc := hid (HC.out _ hb.out h (List.mem_of_getElem? hmid))
        have hM := hid hmid
        have hI : (hi : Int) < n := by omega
        have hI2 : decide ((hi : Int) < (n : Int)) = true := decide_eq_true hI
        obtain ⟨hp, hl', hw, hnu, hf, ht⟩ := h
        dsimp only at q0 q1 q2 q3 q4 q5
        subst ha
        generalize hcv : cv ⟨hp, hl', hw, hnu, hf, ht⟩ = x at *
        have HV := hid hcv
        clear hmid hcv
        go_wp2_with fail
        with_reducible refine Calls.mono hc.out ?_
        rintro e w' ⟨rfl, hb2⟩
        go_wp2_with fail
        go_ret2
        refine ⟨⟨_, rfl, ?_⟩, hb.out.trans (hb2.mono hb.out.size)⟩
        constructor
        · intro e; exact ⟨_, hM.out, by rw [HV.out]; simpa using e⟩
        · rintro ⟨h', e1, e2⟩
          rw [hM.out] at e1
          obtain rfl := Option.some.inj e1
          rw [HV.out] at e2
          simpa using e2
      · have hI : ¬ (hi : Int) < n := by omega
        have hI2 : decide ((hi : Int) < (n : Int)) = false := decide_eq_false hI
        go_wp2_with fail
        go_ret2
        refine ⟨⟨false, rfl, ?_⟩, hb.out⟩
        constructor
        · intro e; cases e
        · rintro ⟨h', e1, _⟩
          have := (List.getElem?_eq_some_iff.1 e1).1
          rw [HN.out] at this
          omega
set_option maxHeartbeats 4000000 in
theorem search116 {w0 : World} {a : Option Addr} {g : Nat} {hs : List Hw} (hH : HsAt w0 a g hs) (cap : Nat) (tg : Hw) (lb : Array Value) (m : Nat) (hm : m ≤ hs.length) (hn : hs.length ≤ 32768) (cv : Hw → Int)
    (hcmp : ∀ (W : World), Below w0.heap.size w0 W → ∀ h ∈ hs, Calls Tryz.prog 114 (#[h.v, tg.v] ++ lb) W fun e w' => e = .returned (.int .i64 (cv h)) ∧ Below W.heap.size W w')
    (hlo : ∀ i h, hs[i]? = some h → (cv h < 0 ↔ i < m)) :
    Calls Tryz.prog 113 #[.slice a hs.length cap, tg.v, .func (.func 114) #[] lb] w0 fun e w' => SrP hs cv m e ∧ Below w0.heap.size w0 w' := by
  obtain ⟨n, hnn⟩ : ∃ n, hs.length = n := ⟨_, rfl⟩
  rw [hnn] at hm hn ⊢
  have HN := hid hnn
  have HC := hid hcmp
  have HL := hid hlo
  have HH := hid hH
  clear hnn hcmp hlo hH
  obtain ⟨tp, tl, tw, tn, tf, tt⟩ := tg
  have kt := hid (Blk.new w0 39 (Hw.cells ⟨tp, tl, tw, tn, tf, tt⟩))
  have hbs := hid ((Below.refl _ w0).alloc (Nat.le_refl _) (.cells (Hw.cells ⟨tp, tl, tw, tn, tf, tt⟩) 39))
  go_enter Tryz.func113, Tryz.ntmps113
  go_wp2_with fail
  go_loopw [9, 10] (fun s9 s10 wr => ∃ lo hi : Nat, s9 = .int .i64 lo ∧ s10 = .int .i64 hi ∧ lo ≤ m ∧ m ≤ hi ∧ hi ≤ n ∧ Hid (Below w0.heap.size w0 wr) ∧ Hid (Blk wr w0.heap.size 39 (Hw.cells ⟨tp, tl, tw, tn, tf, tt⟩))) (fun s9 s10 wr => (intOf s10).toNat - (intOf s9).toNat)
  case atStart => exact ⟨0, n, rfl, rfl, Nat.zero_le _, hm, Nat.le_refl _, hbs, kt⟩
  case round =>
    obtain ⟨lo, hi, rfl, rfl, hl, hh, hin, hb, hk⟩ := hrel
    have t0 := hk.out.cell (k := 0) rfl
    have t1 := hk.out.cell (k := 1) rfl
    have t2 := hk.out.cell (k := 2) rfl
    have t3 := hk.out.cell (k := 3) rfl
    have t4 := hk.out.cell (k := 4) rfl
    have t5 := hk.out.cell (k := 5) rfl
    try dsimp only [Hw.cells] at t0 t1 t2 t3 t4 t5
    by_cases hlt : lo < hi
    · obtain ⟨h, hmid⟩ : ∃ h, hs[(lo + hi) / 2]? = some h := ⟨_, List.getElem?_eq_getElem (by rw [HN.out]; omega)⟩
      have ha : a = some ⟨g, 0, none⟩ := HH.out.ha.resolve_left (fun e => by rw [e] at hmid; cases hmid)
      obtain ⟨q0, q1, q2, q3, q4, q5⟩ := (HH.out.row _ h hmid).low hb.out
      have hc := hid (fun x : C.Ext wr => HC.out x.w (hb.out.trans (x.h.mono hb.out.size)) h (List.mem_of_getElem? hmid))
      have hlm := hid (HL.out _ h hmid)
      obtain ⟨hp, hl', hw, hnu, hf, ht⟩ := h
      dsimp only at q0 q1 q2 q3 q4 q5
      subst ha
      obtain ⟨mid, hmi⟩ : ∃ mid, (lo + hi) / 2 = mid := ⟨_, rfl⟩
      have hmi2 : ((lo : Int) + (hi : Int)) / 2 = (mid : Int) := by omega
      have hmlt : lo ≤ mid ∧ mid < hi := by omega
      have hmn : (mid : Int) < n := by omega
      rw [hmi] at q0 q1 q2 q3 q4 q5 hlm
      generalize hcv : cv ⟨hp, hl', hw, hnu, hf, ht⟩ = x at *
      clear hcv hmid
      by_cases hx : x < 0
      · have hxm : mid < m := hlm.out.1 hx
        clear hmi
        go_wp2_with fail
        refine C.ext_allB (by kernel_rfl) (by kernel_rfl) ?_
        repeat (refine C.bq_step (fun K hK => ?_); go_simp; first | (refine ⟨hK _ ?_⟩; clear hK K) | (refine ⟨?_⟩; apply Exists.intro; refine ⟨fun x => ?_, hK _ ?_⟩; (with_reducible exact C.Ext.call (hc.out _)); clear hK K))
        refine C.bq_nil ?_
        rintro _ ⟨z, rfl⟩
        have hb2 := z.h
        go_wp2_with fail
        go_roundw
        case rel => exact ⟨mid + 1, hi, by go_num, rfl, by omega, hh, hin, hid (hb.out.trans (hb2.mono hb.out.size)), hid (hk.out.low hb2)⟩
        case measure => simp [intOf]; omega
      · have hxm : ¬ mid < m := fun e => hx (hlm.out.2 e)
        clear hmi
        go_wp2_with fail
        refine C.ext_allB (by kernel_rfl) (by kernel_rfl) ?_
        repeat (refine C.bq_step (fun K hK => ?_); go_simp; first | (refine ⟨hK _ ?_⟩; clear hK K) | (refine ⟨?_⟩; apply Exists.intro; refine ⟨fun x => ?_, hK _ ?_⟩; (with_reducible exact C.Ext.call (hc.out _)); clear hK K))
        refine C.bq_nil ?_
        rintro _ ⟨z, rfl⟩
        have hb2 := z.h
        go_wp2_with fail
        go_roundw
        case rel => exact ⟨lo, mid, rfl, rfl, hl, by omega, by omega, hid (hb.out.trans (hb2.mono hb.out.size)), hid (hk.out.low hb2)⟩
        case measure => simp [intOf]; omega
    · obtain rfl : lo = m := by omega
      obtain rfl : hi = lo := by omega
      by_cases hend : hi < n
      · obtain ⟨h, hmid⟩ : ∃ h, hs[hi]? = some h := ⟨_, List.getElem?_eq_getElem (by rw [HN.out]; omega)⟩
        have ha : a = some ⟨g, 0, none⟩ := HH.out.ha.resolve_left (fun e => by rw [e] at hmid; cases hmid)
        obtain ⟨q0, q1, q2, q3, q4, q5⟩ := (HH.out.row _ h hmid).low hb.out
        have hc := hid (fun x : C.Ext wr => HC.out x.w (hb.out.trans (x.h.mono hb.out.size)) h (List.mem_of_getElem? hmid))
        have hM := hid hmid
        have hI : (hi : Int) < n := by omega
        have hI2 : decide ((hi : Int) < (n : Int)) = true := decide_eq_true hI
        obtain ⟨hp, hl', hw, hnu, hf, ht⟩ := h
        dsimp only at q0 q1 q2 q3 q4 q5
        subst ha
        generalize hcv : cv ⟨hp, hl', hw, hnu, hf, ht⟩ = x at *
        have HV := hid hcv
        clear hmid hcv
        go_wp2_with fail
        refine C.ext_allB (by kernel_rfl) (by kernel_rfl) ?_
        repeat (refine C.bq_step (fun K hK => ?_); go_simp; first | (refine ⟨hK _ ?_⟩; clear hK K) | (refine ⟨?_⟩; apply Exists.intro; refine ⟨fun x => ?_, hK _ ?_⟩; (with_reducible exact C.Ext.call (hc.out _)); clear hK K))
        refine C.bq_nil ?_
        rintro _ ⟨z, rfl⟩
        have hb2 := z.h
        go_wp2_with fail
        go_ret2
        refine ⟨⟨_, rfl, ?_⟩, hb.out.trans (hb2.mono hb.out.size)⟩
        constructor
        · intro e; exact ⟨_, hM.out, by rw [HV.out]; simpa using e⟩
        · rintro ⟨h', e1, e2⟩
          rw [hM.out] at e1
          obtain rfl := Option.some.inj e1
          rw [HV.out] at e2
          simpa using e2
      · have hI : ¬ (hi : Int) < n := by omega
        have hI2 : decide ((hi : Int) < (n : Int)) = false := decide_eq_false hI
        go_wp2_with fail
        refine C.draw_allB (by kernel_rfl) (by kernel_rfl) ?_
        repeat (refine C.bq_step (fun K hK => ?_); go_simp; refine ⟨hK _ ?_⟩; clear hK K)
        refine C.bq_nil ?_
        rintro _ ⟨dn, rfl⟩
        go_wp2_with fail
        go_ret2
        refine ⟨⟨false, rfl, ?_⟩, hb.out.trans ⟨rfl, rfl, rfl, Nat.le_refl _, fun _ _ => rfl⟩⟩
        constructor
        · intro e; cases e
        · rintro ⟨h', e1, _⟩
          have := (List.getElem?_eq_some_iff.1 e1).1
          rw [HN.out] at this
          omega
end Go.Proofs.YteodfondjogmoaaGreatDoor
