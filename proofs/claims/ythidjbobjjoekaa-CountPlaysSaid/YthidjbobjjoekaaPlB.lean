/- Rate of a tally in both hands; the class of a logarithm; floats below 2^64. Conditions: those of each theorem. -/
import Derived.Test.YthidjbobjjoekaaPlA
import Derived.Test.YthidjbobjjoekaaCoP
import Derived.Test.YthidjbobjjoekaaCoL
import Derived.Test.YthidjbobjjoekaaTaI
import Derived.Test.YthidjbobjjoekaaCoS
import Derived.Stop.RegionWithIn
import Derived.Maps.AppendAt
namespace Go.Proofs.Ythidjbobjjoekaa
open Go.RowKit Go.Lib Go.Sort Go.Shelf
set_option linter.unusedVariables false
set_option linter.unusedSimpArgs false
open Ieee (infR)
theorem ar_lt {o : BinOp} (ho : Ar o) {x y r : Nat} (h : floatBits o .f64 x y = some r) : r < 18446744073709551616 := by
  have key : ∀ (d : Option Ieee.Datum), (∀ e, d = some e → e.isNaN = false) → d.map Ieee.double.write = some r → r < 18446744073709551616 := fun d hd hr => by
    cases d with
    | none => cases hr
    | some e => cases hr; exact write_lt e (hd e rfl)
  cases ho
  · refine key _ (fun e he => ?_) h
    revert he
    cases FloatKind.f64.format.read x <;> cases FloatKind.f64.format.read y <;> simp only [Ieee.Datum.sum] <;> intro he <;> first | (cases he; rfl) | (cases he; done) | (split at he <;> first | (cases he; rfl) | (cases he; done))
  · refine key _ (fun e he => ?_) h
    revert he
    cases FloatKind.f64.format.read x <;> cases FloatKind.f64.format.read y <;> simp only [Ieee.Datum.opposite, Ieee.Datum.sum] <;> intro he <;> first | (cases he; rfl) | (cases he; done) | (split at he <;> first | (cases he; rfl) | (cases he; done))
  · refine key _ (fun e he => ?_) h
    revert he
    cases FloatKind.f64.format.read x <;> cases FloatKind.f64.format.read y <;> simp only [Ieee.Datum.product] <;> intro he <;> first | (cases he; rfl) | (cases he; done) | (split at he <;> first | (cases he; rfl) | (cases he; done))
  · refine key _ (fun e he => ?_) h
    revert he
    cases FloatKind.f64.format.read x <;> cases FloatKind.f64.format.read y <;> simp only [Ieee.Datum.quotient] <;> intro he <;> first | (cases he; rfl) | (cases he; done) | (split at he <;> first | (cases he; rfl) | (cases he; done) | (split at he <;> first | (cases he; rfl) | (cases he; done)))
theorem fr_lt {o : BinOp} (ho : Ar o) (x y : Nat) (w : World) : fr o x y w < 18446744073709551616 := by
  unfold fr
  cases h : floatBits o .f64 x y with
  | none => exact (nanD_ok w x y).1
  | some r => exact ar_lt ho h
theorem int_lt (n : Int) : floatOfInt .f64 n < 18446744073709551616 := by
  have h : floatOfInt .f64 n = Ieee.double.write (.number (decide (n < 0)) n.natAbs 0) := rfl
  rw [h]
  exact write_lt _ rfl
theorem add_lt {x y r : Nat} (h : Ieee.double.add x y = some r) : r < 18446744073709551616 := ar_lt Ar.add (x := x) (y := y) h
theorem lsN_lt (t : Nat × Nat × Nat) (h : t.2.1 < 18446744073709551616) : ∀ k, (Ieee.lsN k t).2.1 < 18446744073709551616
  | 0 => h
  | k + 1 => by
    have ih := lsN_lt t h k
    show (Ieee.ls (Ieee.lsN k t)).2.1 < _
    generalize Ieee.lsN k t = u at *
    unfold Ieee.ls
    split
    · show (Option.getD _ 0) < _
      cases hh : Ieee.double.add u.2.1 ((Ieee.double.div u.2.2 Ieee.TWO).getD 0) with
      | none => show (0 : Nat) < _; omega
      | some r => exact add_lt hh
    · exact ih
theorem zeroV_lt {x : Nat} (h : x < 18446744073709551616) : zeroV x < 18446744073709551616 := by
  unfold zeroV
  split
  · omega
  · exact h
theorem log2V_lt (x : Nat) (hx : x < 18446744073709551616) : log2V x < 18446744073709551616 := by
  unfold log2V
  split
  · unfold nanV; omega
  split
  · unfold nanV; omega
  split
  · unfold minfV; omega
  split
  · exact hx
  · exact zeroV_lt (lsN_lt _ (int_lt _) _)
/-- the class of a logarithm -/
def lgC : Option Nat → Option Nat
  | some r => cl (log2V r)
  | none => none
theorem lg_cl (x : Nat) : cl (log2V x) = lgC (cl x) := by
  rcases cl_cases x with ⟨a, b⟩ | ⟨a, b⟩
  · rw [b]; rfl
  · rw [b]
    have h1 : ford x x = none := Ieee.order_nan_left x x a
    unfold log2V
    rw [if_pos h1]
    exact cl_nanV
def rateV (L : List Ent) : Option Nat := if L.length = 0 then none else opF .quo (some (floatOfInt .f64 (L.length : Int))) (some (floatOfInt .f64 (sumL L)))
theorem len_tests {n : Nat} : (n = 0 ∧ ((n : Int) == 0) = true ∧ (n == 0) = true) ∨ (n ≠ 0 ∧ ((n : Int) == 0) = false ∧ (n == 0) = false) := by
  rcases Nat.eq_zero_or_pos n with h | h
  · exact .inl ⟨h, by rw [beq_iff_eq]; omega, by rw [beq_iff_eq]; exact h⟩
  · exact .inr ⟨by omega, by rw [beq_eq_false_iff_ne]; omega, by rw [beq_eq_false_iff_ne]; omega⟩
theorem rate41 {w : World} {b m : Nat} {L : List Ent} (h : Tal w b m L) :
    Calls Try.prog 41 #[.pointer (some ⟨b, 0, none⟩)] w fun e w' => ∃ r q, e = .returned (.float .f64 r) ∧ cl r = rateV L ∧ w' = w.drewN q := by
  have hL := hid (len_any h)
  have hS := hid (total_any h)
  have hquo := hid (fun t w => run_fr Ar.quo (floatOfInt .f64 (L.length : Int)) (floatOfInt .f64 (sumL L)) t w)
  have hc := hid (fun w => fr_cl Ar.quo (floatOfInt .f64 (L.length : Int)) (floatOfInt .f64 (sumL L)) w)
  rw [cl_num, cl_num] at hc
  unfold rateV
  clear h
  generalize sumL L = S at *
  generalize L.length = n at *
  rcases len_tests (n := n) with ⟨h1, h2, h3⟩ | ⟨h1, h2, h3⟩
  · rw [if_pos h1]
    clear h1
    go_enter Try.func41, Try.ntmps41
    go_wp2_with fail
    with_reducible refine Calls.mono hL.out ?_
    rintro e w' ⟨rfl, rfl⟩
    go_wp2_with fail
    with_reducible refine Calls.mono (nan_any _) ?_
    rintro e w' ⟨rfl, rfl⟩
    go_wp2_with fail
    go_ret
    exact ⟨_, 0, rfl, cl_nanV, rfl⟩
  · rw [if_neg h1]
    clear h1
    have hq := hquo.out
    go_enter Try.func41, Try.ntmps41
    go_wp2_with fail
    with_reducible refine Calls.mono hL.out ?_
    rintro e w' ⟨rfl, rfl⟩
    go_wp2_with fail
    with_reducible refine Calls.mono hL.out ?_
    rintro e w' ⟨rfl, rfl⟩
    go_wp2_with fail
    with_reducible refine Calls.mono hS.out ?_
    rintro e w' ⟨rfl, rfl⟩
    go_wp2_with fail
    go_ret
    exact ⟨_, _, rfl, hc.out _, rfl⟩
theorem rate42 {w : World} {v : Value} {L : List Ent} (h : EntsIn w v L) (hE : Ents L) :
    Calls Try.prog 42 #[v] w fun e w' => ∃ r q, e = .returned (.float .f64 r) ∧ cl r = rateV L ∧ w' = w.drewN q := by
  have hS := hid (rtotal_any h hE)
  obtain ⟨p, cap, rfl, -⟩ := h.opened
  have hquo := hid (fun t w => run_fr Ar.quo (floatOfInt .f64 (L.length : Int)) (floatOfInt .f64 (sumL L)) t w)
  have hc := hid (fun w => fr_cl Ar.quo (floatOfInt .f64 (L.length : Int)) (floatOfInt .f64 (sumL L)) w)
  rw [cl_num, cl_num] at hc
  unfold rateV
  clear h hE
  generalize sumL L = S at *
  generalize L.length = n at *
  rcases len_tests (n := n) with ⟨h1, h2, h3⟩ | ⟨h1, h2, h3⟩
  · rw [if_pos h1]
    clear h1
    go_enter Try.func42, Try.ntmps42
    go_wp2_with fail
    with_reducible refine Calls.mono (rnan_any _) ?_
    rintro e w' ⟨rfl, rfl⟩
    go_wp2_with fail
    go_ret
    exact ⟨_, 0, rfl, cl_nanV, rfl⟩
  · rw [if_neg h1]
    clear h1
    have hq := hquo.out
    go_enter Try.func42, Try.ntmps42
    go_wp2_with fail
    with_reducible refine Calls.mono hS.out ?_
    rintro e w' ⟨rfl, rfl⟩
    go_wp2_with fail
    go_ret
    exact ⟨_, _, rfl, hc.out _, rfl⟩
end Go.Proofs.Ythidjbobjjoekaa
/- Entropy, the document's. Conditions: those of each theorem. -/
namespace Go.Proofs.Ythidjbobjjoekaa
open Go.RowKit Go.Lib Go.Sort Go.Shelf
set_option linter.unusedVariables false
set_option linter.unusedSimpArgs false
open Ieee (infR)
/-- a part of a whole number that is above nought is no NaN -/
theorem quo_whole (n T : Int) (h1 : 1 ≤ T) (h2 : T < 9007199254740992) : ∃ r, floatBits .quo .f64 (floatOfInt .f64 n) (floatOfInt .f64 T) = some r ∧ r < 18446744073709551616 := by
  have hn := Ieee.num_pos T.toNat (by omega) (by omega)
  have e : ((T.toNat : Nat) : Int) = T := by omega
  rw [e] at hn
  obtain ⟨r, hr, hR, _⟩ := Ieee.div_num (Ieee.intF n) (Ieee.intF T) (Ieee.intF_real n) hn.1 hn.2
  have h : floatBits .quo .f64 (floatOfInt .f64 n) (floatOfInt .f64 T) = some r := hr
  exact ⟨r, h, ar_lt Ar.quo h⟩
def quoF (T n : Int) : Option Nat := opF .quo (some (floatOfInt .f64 n)) (some (floatOfInt .f64 T))
def entT (q : Option Nat) : Option Nat := opF .mul q (opF .sub (some 0) (lgC q))
def entS (T : Int) (l : List Ent) : Option Nat := l.foldl (fun s x => opF .add s (entT (quoF T x.2))) (some 0)
theorem entS_snoc (T : Int) (l : List Ent) (x : Ent) : entS T (l ++ [x]) = opF .add (entS T l) (entT (quoF T x.2)) := by unfold entS; rw [List.foldl_append]; rfl
def entV (L : List Ent) : Option Nat := if L.length = 0 then none else (entS (sumL L) L).map zeroV
theorem quo_real {n T : Int} {r : Nat} (h : floatBits .quo .f64 (floatOfInt .f64 n) (floatOfInt .f64 T) = some r) : quoF T n = cl r := by
  rw [cl_real (ar_some Ar.quo h)]
  exact h
set_option maxRecDepth 100000 in
set_option maxHeartbeats 2000000 in
theorem ent44 {w : World} {v : Value} {L : List Ent} (h : EntsIn w v L) (hE : Ents L) :
    Calls Try.prog 44 #[v] w fun e w' => ∃ r q, e = .returned (.float .f64 r) ∧ cl r = entV L ∧ w' = w.drewN q := by
  have hRt := hid (fun (W : World) (hb : Below w.heap.size w W) => rtotal_any (h.low hb) hE)
  have hLen := hE.len
  have hTot := hE.tot
  have hpos := hid hE.pos
  have hS1 : L ≠ [] → 1 ≤ sumL L := fun hne => by
    cases L with
    | nil => exact absurd rfl hne
    | cons x r =>
      have h1 := hE.pos x (List.mem_cons_self ..)
      have h2 := sumL_pos (L := r) fun y hy => hE.pos y (List.mem_cons_of_mem _ hy)
      simp only [sumL]; omega
  obtain ⟨p, cap, rfl, hat⟩ := h.opened
  have HA := hid hat
  clear h hE hat
  unfold entV
  rcases len_tests (n := L.length) with ⟨h1, h2, h3⟩ | ⟨h1, h2, h3⟩
  · rw [if_pos h1]
    clear h1 hS1
    generalize L.length = n at *
    go_enter Try.func44, Try.ntmps44
    go_wp2_with fail
    with_reducible refine Calls.mono (rnan_any _) ?_
    rintro e w' ⟨rfl, rfl⟩
    go_wp2_with fail
    go_ret
    exact ⟨_, 0, rfl, cl_nanV, rfl⟩
  rw [if_neg h1]
  have hS0 := hS1 (fun e => h1 (by rw [e]; rfl))
  clear h1 hS1
  have hTak : Hid (L.take L.length = L) := by rw [List.take_length]; exact hid rfl
  generalize hT : sumL L = T at *
  generalize hn : L.length = n at *
  have hN := hid hn
  clear hn hT
  have hadd := hid (fun x y t w => run_fr Ar.add x y t w)
  have hsub := hid (fun x y t w => run_fr Ar.sub x y t w)
  have hmul := hid (fun x y t w => run_fr Ar.mul x y t w)
  go_enter Try.func44, Try.ntmps44
  go_wp2_with fail
  go_loopw [3, 4] (fun s i wr => ∃ (j s' q : Nat), j ≤ n ∧ i = .int .i64 j ∧ s = .float .f64 s' ∧ Hid (cl s' = entS T (L.take j)) ∧ wr = w.drewN q) (fun _ i _ => n - (intOf i).toNat)
  case atStart => exact ⟨0, 0, 0, Nat.zero_le _, rfl, rfl, hid cl_zero, rfl⟩
  case round =>
    obtain ⟨j, s, q, hj, rfl, rfl, hs, rfl⟩ := hrel
    by_cases hlt : j < n
    · obtain ⟨x, hx⟩ : ∃ x, L[j]? = some x := ⟨_, List.getElem?_eq_getElem (by rw [hN.out]; exact hlt)⟩
      obtain ⟨g, rfl, hg, q0, q1⟩ := HA.out j x hx
      obtain ⟨r, hr, hr2⟩ := quo_whole x.2 T hS0 (by omega)
      have hq : ∀ t w, (binOp .quo t (.float .f64 (floatOfInt .f64 x.2)) (.float .f64 (floatOfInt .f64 T))).run Try.prog w = .ok (.float .f64 r) w := fun t w => run_float_arith w .quo t .f64 _ _ r hr
      have hcr := hid (quo_real hr)
      have hfs := hid (show entS T (L.take (j + 1)) = opF .add (entS T (L.take j)) (entT (quoF T x.2)) by rw [take_snoc L j x hx, entS_snoc])
      have hki : (j : Int) < n := by omega
      have hlg := hid (log2V_lt r hr2)
      have hL2 := hid (fun w => rlog2_any r hr2 w)
      have hlc := hid (lg_cl r)
      have hQ : Hid (∀ m : Nat, Calls Try.prog 70 #[.slice (some ⟨g, 0, none⟩) n cap] (w.drewN (q + m)) fun e w'' => e = .returned (.int .i64 T) ∧ ∃ k, w'' = w.drewN (q + k)) := fun m => (hRt.out (w.drewN (q + m)) ⟨rfl, rfl, rfl, Nat.le_refl _, fun _ _ => rfl⟩).mono fun e w' h => ⟨h.1, m, h.2.symm⟩
      clear hx hr
      go_wp2_with fail
      refine draw_allB (by kernel_rfl) (by kernel_rfl) ?_
      repeat (refine bq_step (fun K hK => ?_); go_simp; first | (refine ⟨hK _ ?_⟩; clear hK K) | (refine ⟨?_⟩; apply Exists.intro; refine ⟨fun x => ?_, hK _ ?_⟩; (with_reducible exact hQ.out _); clear hK K))
      refine bq_nil ?_
      rintro _ ⟨q2, rfl⟩
      have f1 := fun w1 => hsub.out 0 (log2V r) w1
      have f2 := fun w1 w2 => hmul.out r (fr .sub 0 (log2V r) w1) w2
      have f3 := fun w1 w2 w3 => hadd.out s (fr .mul r (fr .sub 0 (log2V r) w1) w2) w3
      go_wp2_with fail
      with_reducible refine Calls.mono (hL2.out _) ?_
      rintro e w' ⟨rfl, rfl⟩
      go_wp2_with fail
      go_roundw
      case rel => exact ⟨j + 1, _, _, by omega, by go_num, rfl, hid (by rw [fr_cl .add, fr_cl .mul, fr_cl .sub, hs.out, hfs.out, cl_zero, hlc.out, hcr.out]; rfl), rfl⟩
      case measure => simp [intOf]; omega
    · obtain rfl : j = n := by omega
      rw [hTak.out] at hs
      go_wp2_with fail
      with_reducible refine Calls.mono (zero_any _ _) ?_
      rintro e w' ⟨rfl, rfl⟩
      go_wp2_with fail
      go_ret
      exact ⟨_, _, rfl, by rw [cl_zeroV, hs.out], rfl⟩
end Go.Proofs.Ythidjbobjjoekaa
/- Entropy, the program's. Conditions: the tally's own. -/
namespace Go.Proofs.Ythidjbobjjoekaa
open Go.RowKit Go.Lib Go.Sort Go.Shelf
set_option linter.unusedVariables false
set_option linter.unusedSimpArgs false
open Ieee (infR)
attribute [local go_sem] Oper.semAt_some Ext.cell Ext.froz run_store_flt
theorem ownFrom_ex {α β : Type} {B : Nat} {I : α → β → World → Prop} (h : ∀ x, OwnFrom B (I x)) : OwnFrom B (fun s W => ∃ x, I x s W) :=
  fun s W W' row ⟨x, hx⟩ hg hr => ⟨x, h x s W W' row hx hg hr⟩
theorem body_end {W X : World} {Nn B : Nat} (hx : Below W.heap.size W X) (hN : Nn < B) (hW : B ≤ W.heap.size) (v : Value) :
    KeepsFrom B W (X.setCell ⟨Nn, 0, none⟩ v) ∧ KB Nn (B + 2) W (X.setCell ⟨Nn, 0, none⟩ v) := by
  refine ⟨(kf_of hx).trans ((KeepsOthers.setCell _ _ _).from _), ⟨(show Below Nn W X from hx.mono (by omega)).setCell (p := ⟨Nn, 0, none⟩) (Nat.le_refl _) _, fun k hk hk2 => ?_⟩⟩
  exact (Below.heap_setCell X ⟨Nn, 0, none⟩ _ k (by show k ≠ Nn; omega)).trans (hx.block k hk2)
theorem ent43_none {w : World} {b m : Nat} {L : List Ent} (h : Tal w b m L) (h0 : L.length = 0) :
    Calls Try.prog 43 #[.pointer (some ⟨b, 0, none⟩)] w fun e w' => ∃ r, e = .returned (.float .f64 r) ∧ cl r = entV L ∧ Below w.heap.size w w' := by
  have hb : Below w.heap.size w (w.alloc (.cells #[.pointer (some ⟨b, 0, none⟩)] 28)) := (Below.refl _ _).alloc (Nat.le_refl _) _
  have hLen := hid (len_any (h.low hb))
  unfold entV
  rw [if_pos h0]
  rw [h0] at hLen
  have c1 := (Blk.new w 28 #[.pointer (some ⟨b, 0, none⟩)]).cell (k := 0) (v := .pointer (some ⟨b, 0, none⟩)) rfl
  have HB := hid hb
  clear h hb h0
  go_enter Try.func43, Try.ntmps43
  go_wp2_with fail
  with_reducible refine Calls.mono hLen.out ?_
  rintro e w1 ⟨rfl, rfl⟩
  go_wp2_with fail
  with_reducible refine Calls.mono (nan_any _) ?_
  rintro e w1 ⟨rfl, rfl⟩
  go_wp2_with fail
  go_ret
  exact ⟨_, rfl, cl_nanV, HB.out⟩
set_option maxRecDepth 100000 in
set_option maxHeartbeats 4000000 in
theorem ent43_some {w : World} {b m : Nat} {L : List Ent} (h : Tal w b m L) (h0 : L.length ≠ 0) :
    Calls Try.prog 43 #[.pointer (some ⟨b, 0, none⟩)] w fun e w' => ∃ r, e = .returned (.float .f64 r) ∧ cl r = entV L ∧ Below w.heap.size w w' := by
  have hT := hid h
  have hE := hid h.he
  have hbl := h.blt
  have hml := h.mlt
  have hS1 : L ≠ [] → 1 ≤ sumL L := fun hne => by
    cases L with
    | nil => exact absurd rfl hne
    | cons x r =>
      have h1 := h.he.pos x (List.mem_cons_self ..)
      have h2 := sumL_pos (L := r) fun y hy => h.he.pos y (List.mem_cons_of_mem _ hy)
      simp only [sumL]; omega
  have hTot := h.he.tot
  clear h
  refine (callsIn_wide (n := 9)).1 ?_
  refine callsIn_of_wp_marks Try.func43 rfl trivial ?_ rfl
  simp only [Try.ntmps43, List.size_toArray, List.length_cons, List.length_nil, Nat.reduceAdd, Nat.reduceSub, Array.replicate_succ, Array.replicate_zero, List.push_toArray, List.append_toArray, List.nil_append, List.cons_append]
  refine wpIn_wide.2 ?_
  unfold entV
  have hLen := hid (fun W (hb : Below w.heap.size w W) => len_any (hT.out.low hb))
  rcases len_tests (n := L.length) with ⟨h1, h2, h3⟩ | ⟨h1, h2, h3⟩
  · exact absurd h1 h0
  rw [if_neg h1]
  have hS0 := hS1 (fun e => h1 (by rw [e]; rfl))
  clear h1 hS1
  generalize hTt : sumL L = T at *
  have hTT := hid hTt
  clear hTt
  have hadd := hid (fun x y t w => run_fr Ar.add x y t w)
  have hsub := hid (fun x y t w => run_fr Ar.sub x y t w)
  have hmul := hid (fun x y t w => run_fr Ar.mul x y t w)
  go_wp2_with fail
  obtain ⟨wa, hA⟩ : ∃ wa, w.alloc (.cells #[.pointer (some ⟨b, 0, none⟩)] 28) = wa := ⟨_, rfl⟩
  have k1 : Blk wa w.heap.size 28 #[.pointer (some ⟨b, 0, none⟩)] := hA ▸ Blk.new w _ _
  have ba : Below w.heap.size w wa := hA ▸ (Below.refl _ _).alloc (Nat.le_refl _) _
  have sa : wa.heap.size = w.heap.size + 1 := by rw [← hA]; simp
  rw [hA]
  clear hA
  with_reducible refine Calls.mono (hLen.out _ ba) ?_
  rintro e w1 ⟨rfl, rfl⟩
  have K1 := hid k1
  have BA := hid ba
  have SA := hid sa
  clear hLen k1 ba sa
  have n1 := K1.out.lt
  have c1 := K1.out.cell (k := 0) (v := .pointer (some ⟨b, 0, none⟩)) rfl
  go_wp2_with fail
  have hEa := hid ((callsIn_wide (n := 8)).1 (tal_each_in Fence.wide 8 trivial rfl b (wa.alloc (.cells #[.float .f64 0] 22))))
  with_reducible refine Calls.mono hEa.out ?_
  rintro e w4 ⟨rfl, hw4⟩
  clear hEa
  obtain ⟨Nn, hNn⟩ : ∃ Nn, wa.heap.size = Nn := ⟨_, rfl⟩
  have kn : Blk w4 Nn 22 #[.float .f64 0] := by rw [hw4, ← hNn]; exact (Blk.new wa _ _).alloc _
  have k7 : Blk w4 (Nn + 1) 28 #[.pointer (some ⟨b, 0, none⟩)] := by
    rw [hw4]; have := Blk.new (wa.alloc (.cells #[.float .f64 0] 22)) 28 #[.pointer (some ⟨b, 0, none⟩)]
    rw [World.size_alloc, hNn] at this
    exact this
  have hr4 : Below Nn wa w4 := by
    rw [hw4, ← hNn]; exact ((Below.refl _ _).alloc (Nat.le_refl _) _).alloc (by simp) _
  have hsz4 : Nn + 1 < w4.heap.size ∧ w4.heap.size ≤ Nn + 2 := by rw [hw4, ← hNn]; simp
  have hN3 : w.heap.size + 1 ≤ Nn := by rw [← hNn, SA.out]; exact Nat.le_refl _
  have hb4 : Below w.heap.size w w4 := BA.out.trans (hr4.mono (by omega))
  have k1w : Blk w4 w.heap.size 28 #[.pointer (some ⟨b, 0, none⟩)] := K1.out.lowN hr4 (by omega)
  have HT4 := hid (hT.out.low hb4)
  simp only [World.size_alloc, hNn]
  clear hw4 c1 K1 BA hr4 n1
  go_wp2_with fail
  refine (wpIn_wide (n := 9)).1 ?_
  refine name_act ?_
  intro Tm D hTm hD
  refine rangeFunc_own (F := Fence.wide) (α := Ent) rfl (by omega) (gf := 59) (lb := #[.pointer (some ⟨Nn + 1, 0, none⟩)]) (by subst hTm; rfl) trivial (enters_of Try.func59 (by kernel_rfl) rfl)
    (tal_next 8 (by omega) (Nn + 1) b m Nn L w4 (by omega) (by omega) (k7.cell rfl) HT4.out) (by omega) (Below.refl _ _) (fun _ => rfl)
    (fun pre W => (∃ s : Nat, Blk W Nn 22 #[.float .f64 s] ∧ cl s = entS T pre) ∧ Below Nn w4 W)
    (fun _ _ _ => False)
    (OwnFrom.and (ownFrom_ex fun s => OwnFrom.and (Own.from (blk_own _ _ (fun _ : List Ent => #[.float .f64 s])) _) (ownFrom_pure _ (fun pre => cl s = entS T pre))) (ownFrom_below (by omega) (by omega)))
    (fun _ => ownFrom_pure _ _)
    ⟨⟨0, kn, cl_zero⟩, Below.refl _ _⟩
    (fun x a' W => a' = { tmps := ((Tm.setIfInBounds 13 (.string x.1)).setIfInBounds 14 (.int .i64 x.2)).setIfInBounds 5 (.int .i64 x.2), defers := [] })
    (fun x a' _ X Y row hs hg hr => hs)
    ?assign ?body ?done ?stop
  case assign =>
    rintro l pre x W K ⟨kn, hB⟩ hpre hK
    subst hTm hD
    gi_wp2
    exact hK _ _ (KeepsFrom.refl _ _) (KB.refl _ _ _) ⟨kn, hB⟩ rfl
  case body =>
    rintro l pre x a' W hl hr hnext ⟨⟨s, kn, hs⟩, hB⟩ rfl
    have hsW := hB.size
    have e1 := prefix_get hnext
    have k1b := k1w.lowN hB (by omega)
    have hTW := HT4.out.lowN hB (by omega) (by omega)
    have t1c := hTW.hb.cell (k := 1) (v := .int .i64 T) (by rw [← hTT.out]; rfl)
    obtain ⟨r, hrr, hr2⟩ := quo_whole x.2 T hS0 (by omega)
    have hq : ∀ t w, (binOp .quo t (.float .f64 (floatOfInt .f64 x.2)) (.float .f64 (floatOfInt .f64 T))).run Try.prog w = .ok (.float .f64 r) w := fun t w => run_float_arith w .quo t .f64 _ _ r hrr
    have hcr := hid (quo_real hrr)
    have hlc := hid (lg_cl r)
    have hLg : Hid (∀ x : Ext W, Calls Try.prog 11 #[.float .f64 r] x.w fun e w' => e = .returned (.float .f64 (log2V r)) ∧ Below x.w.heap.size x.w w') := fun x => (log2_any r hr2 x.w).mono fun _ _ h => ⟨h.1, h.2 ▸ Below.refl _ _⟩
    have hfs := hid (entS_snoc T pre x)
    have hS := hid hs
    have f1 := fun w1 => hsub.out 0 (log2V r) w1
    have f2 := fun w1 w2 => hmul.out r (fr .sub 0 (log2V r) w1) w2
    have f3 := fun w1 w2 w3 => hadd.out s (fr .mul r (fr .sub 0 (log2V r) w1) w2) w3
    have c1 := k1b.cell (k := 0) (v := .pointer (some ⟨b, 0, none⟩)) rfl
    have cn := kn.cell (k := 0) (v := .float .f64 s) rfl
    have fn0 := kn.froz 0
    have nn := kn.lt
    have KN := hid kn
    have HB := hid hB
    have hend : Hid (∀ (k v : Nat), cl v = entS T (pre ++ [x]) → KeepsFrom w4.heap.size W ((W.drewN k).setCell ⟨Nn, 0, none⟩ (.float .f64 v)) ∧ KB Nn (w4.heap.size + 2) W ((W.drewN k).setCell ⟨Nn, 0, none⟩ (.float .f64 v)) ∧
        ((∃ s : Nat, Blk ((W.drewN k).setCell ⟨Nn, 0, none⟩ (.float .f64 v)) Nn 22 #[.float .f64 s] ∧ cl s = entS T (pre ++ [x])) ∧ Below Nn w4 ((W.drewN k).setCell ⟨Nn, 0, none⟩ (.float .f64 v)))) := fun k v hv => by
      have hx : Below W.heap.size W (W.drewN k) := ⟨rfl, rfl, rfl, Nat.le_refl _, fun _ _ => rfl⟩
      obtain ⟨e1, e2⟩ := body_end (Nn := Nn) (B := w4.heap.size) hx (by omega) (by omega) (.float .f64 v)
      exact ⟨e1, e2, ⟨v, (show Blk (W.drewN k) Nn 22 #[.float .f64 s] from KN.out).set 0 _, hv⟩, hB.trans e2.low⟩
    obtain ⟨x1, x2⟩ := x
    dsimp only at hq hcr hfs hend
    clear hnext e1 hTW k1b kn hB hr hl hs hrr
    subst hTm hD
    dsimp only
    simp only [List.setIfInBounds_toArray, List.set_cons_succ, List.set_cons_zero]
    gi_wp2_with fail
    have hL3 := hid (fun W => log2_any r hr2 W)
    gi_region_with (refine ⟨trivial, ?_⟩; with_reducible refine (CallsIn.inRound l (callsIn_wide.2 (hL3.out _))).mono ?_; rintro e w' ⟨rfl, rfl⟩)
    all_goals
      gi_wp2_with fail
      exact hend.out _ _ (by rw [fr_cl .add, fr_cl .mul, fr_cl .sub, hS.out, hfs.out, cl_zero, hlc.out, hcr.out]; rfl)
  case done =>
    rintro Dk W hDk ⟨⟨s, kn, hs⟩, hB⟩ hK
    have hsW := hB.size
    have cn := kn.cell (k := 0) (v := .float .f64 s) rfl
    have hS := hid hs
    subst hTm hD
    have hK0 := hid hK
    have HB := hid hB
    clear kn hB hK hs
    go_wp2_with fail
    with_reducible refine Calls.mono (told_any _ _) ?_
    rintro e w1 ⟨rfl, rfl⟩
    go_wp2_with fail
    refine ⟨by simp, .inl ⟨_, _, rfl, run_takeDeferred hK0.out, ?_⟩⟩
    have q0 : Below w.heap.size w W := hb4.trans (HB.out.mono (by omega))
    have hFin : Below w.heap.size w (W.putObj Dk (.deferred none)) := q0.trans (belowK_b (w := w4) (by omega) _ _ _ _ hDk hK0.out rfl rfl)
    exact ⟨.float .f64 (zeroV s), by simp [results, Try.results43, go_sem], ⟨zeroV s, rfl, by rw [cl_zeroV, hS.out], hFin⟩⟩
  case stop =>
    rintro Dk c pre W hDk hpre h _
    exact h.elim
theorem ent43 {w : World} {b m : Nat} {L : List Ent} (h : Tal w b m L) :
    Calls Try.prog 43 #[.pointer (some ⟨b, 0, none⟩)] w fun e w' => ∃ r, e = .returned (.float .f64 r) ∧ cl r = entV L ∧ Below w.heap.size w w' := by
  by_cases h0 : L.length = 0
  · exact ent43_none h h0
  · exact ent43_some h h0
end Go.Proofs.Ythidjbobjjoekaa
/- Zipf in both hands. Conditions: those of each theorem. -/
namespace Go.Proofs.Ythidjbobjjoekaa
open Go.RowKit Go.Lib Go.Sort Go.Shelf
set_option linter.unusedVariables false
set_option linter.unusedSimpArgs false
open Ieee (infR)
def Sep (a b : Option Nat) : Prop := ∀ k, a = some k → b = some k → False
theorem Sep.kept {a b : Option Nat} (h : Sep a b) : b = none ∨ b ≠ a := by
  cases b with
  | none => exact .inl rfl
  | some k => exact .inr fun e => h k e.symm rfl
theorem Sep.symm {a b : Option Nat} (h : Sep a b) : Sep b a := fun k e f => h k f e
theorem Sep.next {a a' b : Option Nat} {n : Nat} (h : Sep a b) (hn : a' = a ∨ a' = some n) (hb : ∀ k, b = some k → k < n) : Sep a' b := fun k e f => by
  rcases hn with rfl | rfl
  · exact h k e f
  · cases e; exact Nat.lt_irrefl _ (hb _ f)
/-- two rows of floats that grow beside each other -/
structure Two (w0 wr : World) (xv yv : Value) (xs ys : List Nat) : Prop where
  ox : wr.ownsRow w0.heap.size 22 1 xv xs.length (xs.map encF)
  oy : wr.ownsRow w0.heap.size 22 1 yv ys.length (ys.map encF)
  sep : Sep xv.ownBlock yv.ownBlock
  low : Below w0.heap.size w0 wr
theorem Two.start (w : World) : Two w w (.slice none 0 0) (.slice none 0 0) [] [] :=
  ⟨World.ownsRow_nil _ _ _ _, World.ownsRow_nil _ _ _ _, fun k e _ => by simp [Value.ownBlock] at e, Below.refl _ _⟩
theorem Two.flip {w0 wr : World} {xv yv : Value} {xs ys : List Nat} (h : Two w0 wr xv yv xs ys) : Two w0 wr yv xv ys xs := ⟨h.oy, h.ox, h.sep.symm, h.low⟩
theorem Two.up {w0 wr wz : World} {xv yv : Value} {xs ys : List Nat} (h : Two w0 wr xv yv xs ys) (hb : Below wr.heap.size wr wz) : Two w0 wz xv yv xs ys :=
  ⟨h.ox.kept (grownNone hb) (Classical.em _), h.oy.kept (grownNone hb) (Classical.em _), h.sep, h.low.trans (hb.mono h.low.size)⟩
theorem Two.push {w0 wr w5 : World} {xv yv v' : Value} {xs ys : List Nat} (h : Two w0 wr xv yv xs ys) (o : Obj) (x : Nat) (hg : (wr.alloc o).grownBy w5 xv.ownBlock)
    (ho : w5.ownsRow w0.heap.size 22 1 v' (xs.length + 1) (xs.map encF ++ [.float .f64 x])) (hl : v'.ownBlock = xv.ownBlock ∨ v'.ownBlock = some (wr.heap.size + 1)) : Two w0 w5 v' yv (xs ++ [x]) ys where
  ox := by rw [List.length_append, List.map_append]; exact ho
  oy := (h.oy.alloc o).kept hg h.sep.kept
  sep := h.sep.next hl fun k e => by have := (h.oy.lt k e).2; omega
  low := (h.low.alloc h.low.size o).grown hg (by have := h.low.size; simp; omega) (fun k hk => (h.ox.lt k hk).1)
theorem row_floats {w : World} {b : Nat} {v : Value} {xs : List Nat} (h : w.ownsRow b 22 1 v xs.length (xs.map encF)) (hx : ∀ x ∈ xs, x < 18446744073709551616) : ∃ p cap, v = .slice p xs.length cap ∧ FloatsIn w p xs := by
  rcases h.2 with ⟨hv, hz⟩ | ⟨g, cap, cur, hv, hbase, hb, k1, k2, k3, k4⟩
  · refine ⟨none, 0, by rw [hv, hz], ⟨fun k x hk => ?_, hx⟩⟩
    have : xs = [] := List.eq_nil_of_length_eq_zero hz
    subst this; simp at hk
  · refine ⟨some ⟨g, 0, none⟩, cap, hv, ⟨fun k x hk => ⟨g, 0, rfl, (Array.getElem?_eq_some_iff.1 hb).1, ?_⟩, hx⟩⟩
    have := h.cells (g := g) (by rw [hv]; rfl) k (encF x) (by rw [List.getElem?_map, hk]; rfl)
    have e : (⟨g, 0, none⟩ : Addr).add k = ⟨g, 0 + k, none⟩ := by unfold Addr.add; split <;> simp_all
    rw [← e]; exact this
def zx (n : Nat) : List Nat := (List.range n).map fun (i : Nat) => log2V (floatOfInt .f64 ((i : Int) + 1))
def zy (L : List Ent) : List Nat := L.map fun x => log2V (floatOfInt .f64 x.2)
theorem zx_succ (n : Nat) : zx (n + 1) = zx n ++ [log2V (floatOfInt .f64 ((n : Int) + 1))] := by unfold zx; rw [List.range_succ, List.map_append]; rfl
theorem zx_len (n : Nat) : (zx n).length = n := by unfold zx; simp
theorem zy_len (L : List Ent) : (zy L).length = L.length := by unfold zy; simp
theorem zy_snoc (L : List Ent) (j : Nat) (x : Ent) (h : L[j]? = some x) : zy (L.take (j + 1)) = zy (L.take j) ++ [log2V (floatOfInt .f64 x.2)] := by unfold zy; rw [take_snoc L j x h, List.map_append]; rfl
theorem zx_lt (n : Nat) : ∀ x ∈ zx n, x < 18446744073709551616 := fun x hx => by
  unfold zx at hx
  obtain ⟨i, _, rfl⟩ := List.mem_map.1 hx
  exact log2V_lt _ (int_lt _)
theorem zy_lt (L : List Ent) : ∀ x ∈ zy L, x < 18446744073709551616 := fun x hx => by
  unfold zy at hx
  obtain ⟨i, _, rfl⟩ := List.mem_map.1 hx
  exact log2V_lt _ (int_lt _)
def zipV (L : List Ent) : Option Nat × Int := if L.length < 2 then (some 0, 4) else slV (zx L.length) (zy L)
set_option maxRecDepth 100000 in
set_option maxHeartbeats 4000000 in
theorem zipf40 {w : World} {v : Value} {L : List Ent} (h : EntsIn w v L) (hlen : L.length ≤ 4096) :
    Calls Try.prog 40 #[v] w fun e w' => ∃ m, e = .returned (.tuple #[.float .f64 m, .int .i64 (zipV L).2]) ∧ cl m = (zipV L).1 ∧ Below w.heap.size w w' := by
  obtain ⟨i0, hi, hz0, hz1, hz2⟩ := info_parts infoF
  obtain ⟨p, cap, rfl, hat⟩ := h.opened
  have HA := hid hat
  clear h hat
  unfold zipV
  by_cases h2 : L.length < 2
  · rw [if_pos h2]
    have h2' : (L.length : Int) < 2 := by omega
    go_enter Try.func40, Try.ntmps40
    go_wp2_with fail
    go_ret2
    exact ⟨0, rfl, cl_zero, Below.refl _ _⟩
  rw [if_neg h2]
  have hTk : Hid (L.take L.length = L) := by rw [List.take_length]; exact hid rfl
  have hZx := hid zx_len
  have hZy := hid (fun j => zy_len (L.take j))
  generalize hS : slV (zx L.length) (zy L) = S at *
  have hSS := hid hS
  clear hS
  have h2' : (2 : Int) ≤ (L.length : Int) := by omega
  go_enter Try.func40, Try.ntmps40
  go_wp2_with fail
  go_loopw [4, 5, 6] (fun a b i wr => ∃ j : Nat, j ≤ L.length ∧ i = .int .i64 j ∧ Hid (Two w wr a b (zx j) (zy (L.take j)))) (fun _ _ i _ => L.length - (intOf i).toNat)
  case atStart => exact ⟨0, Nat.zero_le _, rfl, hid (Two.start w)⟩
  case round =>
    obtain ⟨j, hj, rfl, hT⟩ := hrel
    by_cases hlt : j < L.length
    · obtain ⟨x, hx⟩ : ∃ x, L[j]? = some x := ⟨_, List.getElem?_eq_getElem hlt⟩
      obtain ⟨g, rfl, hg, q0, q1⟩ := HA.out j x hx
      have W1 := hid q1
      have hki : (j : Int) < L.length := by omega
      have hzs := hid (zy_snoc L j x hx)
      have hzx := hid (zx_succ j)
      have hl1 := hid (fun W => rlog2_any (floatOfInt .f64 ((j : Int) + 1)) (int_lt _) W)
      have hl2 := hid (fun W => rlog2_any (floatOfInt .f64 x.2) (int_lt _) W)
      have hox := hid hT.out.ox
      rw [hZx.out] at hox
      have sw := hT.out.low.size
      clear hx q0 q1
      go_wp2_with fail
      with_reducible refine Calls.mono (hl1.out _) ?_
      rintro e w' ⟨rfl, rfl⟩
      go_wp2_with (first | (at_builtin; refine wpList_append_own_at _ rfl (.tmp 16) (.tmp 21) 41 rfl w.heap.size 22 i0 _ 1 8 Try.underlying41 hi hz0 hz1 hz2 rfl (by decide) _ j _ rfl (hox.out.alloc _) ⟨wr.heap.size, 0, none⟩ 1 1 [.float .f64 (log2V (floatOfInt .f64 ((j : Int) + 1)))] rfl rfl (cells_new1 _ _ _) (by intro u hu; simp at hu; subst hu; rfl) (by unfold maxLen; omega) (by omega) (by simp; omega) ?_; refine stop_here ?_) | fail)
      refine hid ?_
      intro xv w5 hown' hgrow hnil hloc
      have hT1 := hid (hT.out.push _ (log2V (floatOfInt .f64 ((j : Int) + 1))) hgrow (by rw [hZx.out]; exact hown') hloc)
      rw [← hzx.out] at hT1
      have hoy := hid hT1.out.oy
      rw [hZy.out, List.length_take, Nat.min_eq_left hj] at hoy
      have sw5 := hT1.out.low.size
      clear hown' hgrow hnil hloc hT hox
      have q1 := (World.cell?_of_block (a := ⟨g, j * 2 + 1, none⟩) (hT1.out.low.block g hg)).trans W1.out
      go_wp2_with fail
      with_reducible refine Calls.mono (hl2.out _) ?_
      rintro e w' ⟨rfl, rfl⟩
      clear q1
      go_wp2_with (first | (at_builtin; refine wpList_append_own_at _ rfl (.tmp 23) (.tmp 31) 41 rfl w.heap.size 22 i0 _ 1 8 Try.underlying41 hi hz0 hz1 hz2 rfl (by decide) _ j _ rfl (hoy.out.alloc _) ⟨w5.heap.size, 0, none⟩ 1 1 [.float .f64 (log2V (floatOfInt .f64 x.2))] rfl rfl (cells_new1 _ _ _) (by intro u hu; simp at hu; subst hu; rfl) (by unfold maxLen; omega) (by omega) (by simp; omega) ?_; refine stop_here ?_) | fail)
      refine hid ?_
      intro yv w6 hown' hgrow hnil hloc
      have hT2 := hid (hT1.out.flip.push _ (log2V (floatOfInt .f64 x.2)) hgrow (by rw [hZy.out, List.length_take, Nat.min_eq_left hj]; exact hown') hloc).flip
      rw [← hzs.out] at hT2
      clear hown' hgrow hnil hloc hT1 hoy
      go_wp2_with fail
      go_roundw
      case rel => exact ⟨j + 1, by omega, by go_num, hT2⟩
      case measure => simp [intOf]; omega
    · obtain rfl : j = L.length := by omega
      rw [hTk.out] at hT
      obtain ⟨p1, c1, rfl, hf1⟩ := row_floats hT.out.ox (zx_lt _)
      obtain ⟨p2, c2, rfl, hf2⟩ := row_floats hT.out.oy (zy_lt _)
      have hSl := hid (slope32 wr p1 p2 c1 c2 _ _ hf1 hf2 (by rw [zx_len]; omega) (by rw [zy_len]; omega))
      rw [hSS.out] at hSl
      have hlow := hid hT.out.low
      clear hf1 hf2 hT
      go_wp2_with fail
      with_reducible refine Calls.mono hSl.out ?_
      rintro e w' ⟨m, q, rfl, hm, rfl⟩
      have HM := hid hm
      clear hm
      go_wp2_with fail
      go_ret2
      exact ⟨_, rfl, HM.out, hlow.out.trans ⟨rfl, rfl, rfl, Nat.le_refl _, fun _ _ => rfl⟩⟩
theorem EntsBack.ents {w w' : World} {L : List Ent} {v : Value} (h : EntsBack w L v w') : EntsIn w' v L := by
  rcases h.2 with h | ⟨g, cap, h1, _, h2, h3⟩
  · exact .inl h
  · exact .inr ⟨g, cap, h1, h2, h3⟩
set_option maxRecDepth 100000 in
set_option maxHeartbeats 4000000 in
theorem zipf39 {w : World} {b m : Nat} {L : List Ent} (h : Tal w b m L) :
    Calls Try.prog 39 #[.pointer (some ⟨b, 0, none⟩)] w fun e w' => ∃ m, e = .returned (.tuple #[.float .f64 m, .int .i64 (zipV L).2]) ∧ cl m = (zipV L).1 ∧ Below w.heap.size w w' := by
  obtain ⟨i0, hi, hz0, hz1, hz2⟩ := info_parts infoF
  have hEn := hid (entries_any h)
  have hlen := h.he.len
  have c0 := h.hb.cell (k := 0) (v := .map (some m)) rfl
  have hl : ∀ ty, _ := fun ty => (h.hm.elim fun D hD => by have := hD.1.len (e := 3) Try.underlying85 ty; rw [hD.2.size] at this; exact this)
  clear h
  unfold zipV
  by_cases h2 : L.length < 2
  · rw [if_pos h2]
    have h2' : (L.length : Int) < 2 := by omega
    generalize L.length = n at *
    go_enter Try.func39, Try.ntmps39
    go_wp2_with fail
    go_ret2
    exact ⟨0, rfl, cl_zero, Below.refl _ _⟩
  rw [if_neg h2]
  have hTk : Hid (L.take L.length = L) := by rw [List.take_length]; exact hid rfl
  have hZx := hid zx_len
  have hZy := hid (fun j => zy_len (L.take j))
  generalize hS : slV (zx L.length) (zy L) = S at *
  have hSS := hid hS
  clear hS
  have h2' : (2 : Int) ≤ (L.length : Int) := by omega
  go_enter Try.func39, Try.ntmps39
  go_wp2_with fail
  with_reducible refine Calls.mono hEn.out ?_
  rintro e w1 ⟨v, rfl, hbk⟩
  have hB1 := hid hbk.1
  obtain ⟨p, cap, rfl, hat⟩ := hbk.ents.opened
  have HA := hid hat
  clear hbk hat hEn c0 hl
  go_wp2_with fail
  go_loopw [4, 5, 19] (fun a b i wr => ∃ j : Nat, j ≤ L.length ∧ i = .int .i64 j ∧ Hid (Two w1 wr a b (zx j) (zy (L.take j)))) (fun _ _ i _ => L.length - (intOf i).toNat)
  case atStart => exact ⟨0, Nat.zero_le _, rfl, hid (Two.start w1)⟩
  case round =>
    obtain ⟨j, hj, rfl, hT⟩ := hrel
    by_cases hlt : j < L.length
    · obtain ⟨x, hx⟩ : ∃ x, L[j]? = some x := ⟨_, List.getElem?_eq_getElem hlt⟩
      obtain ⟨g, rfl, hg, q0, q1⟩ := HA.out j x hx
      have hki : (j : Int) < L.length := by omega
      have hzs := hid (zy_snoc L j x hx)
      have hzx := hid (zx_succ j)
      have hl1 := hid (fun W => log2_any (floatOfInt .f64 ((j : Int) + 1)) (int_lt _) W)
      have hl2 := hid (fun W => log2_any (floatOfInt .f64 x.2) (int_lt _) W)
      have e := hT.out.low.block g hg
      replace q0 := (World.cell?_of_block (a := ⟨g, j * 2, none⟩) e).trans q0
      replace q1 := (World.cell?_of_block (a := ⟨g, j * 2 + 1, none⟩) e).trans q1
      have sw := hT.out.low.size
      have hTa := hid (hT.out.up ((Below.refl _ _).alloc (Nat.le_refl _) (.cells #[.string x.1, .int .i64 x.2] 94)))
      have hox := hid hTa.out.ox
      rw [hZx.out] at hox
      have hX := hid (Blk.new wr 94 #[.string x.1, .int .i64 x.2])
      have hxl := hid (fun k e => (hT.out.ox.lt k e).2)
      clear hx e hT
      go_wp2_with fail
      with_reducible refine Calls.mono (hl1.out _) ?_
      rintro e w' ⟨rfl, rfl⟩
      obtain ⟨N, hN⟩ : ∃ N, wr.heap.size = N := ⟨_, rfl⟩
      rw [hN] at hX sw hxl
      generalize hwa : wr.alloc (.cells #[.string x.1, .int .i64 x.2] 94) = wa at *
      have hNa : N < wa.heap.size := hX.out.lt
      clear hwa q0 q1
      rw [hN]
      clear hN
      go_wp2_with (first | (at_builtin; refine wpList_append_own_at _ rfl (.tmp 24) (.tmp 29) 41 rfl w1.heap.size 22 i0 _ 1 8 Try.underlying41 hi hz0 hz1 hz2 rfl (by decide) _ j _ rfl (hox.out.alloc _) ⟨wa.heap.size, 0, none⟩ 1 1 [.float .f64 (log2V (floatOfInt .f64 ((j : Int) + 1)))] rfl rfl (cells_new1 _ _ _) (by intro u hu; simp at hu; subst hu; rfl) (by unfold maxLen; omega) (by omega) (by simp; omega) ?_; refine stop_here ?_) | fail)
      refine hid ?_
      intro xv w5 hown' hgrow hnil hloc
      have hX5 := hid ((hX.out.alloc _).kept hgrow (fun e => Nat.lt_irrefl _ (hxl.out _ e.symm)))
      have hT1 := hid (hTa.out.push _ (log2V (floatOfInt .f64 ((j : Int) + 1))) hgrow (by rw [hZx.out]; exact hown') hloc)
      rw [← hzx.out] at hT1
      have hoy := hid hT1.out.oy
      rw [hZy.out, List.length_take, Nat.min_eq_left hj] at hoy
      have sw5 := hT1.out.low.size
      have q1 := hX5.out.cell (k := 1) (v := .int .i64 x.2) rfl
      clear hown' hgrow hnil hloc hTa hox
      go_wp2_with fail
      with_reducible refine Calls.mono (hl2.out _) ?_
      rintro e w' ⟨rfl, rfl⟩
      clear q1
      go_wp2_with (first | (at_builtin; refine wpList_append_own_at _ rfl (.tmp 31) (.tmp 36) 41 rfl w1.heap.size 22 i0 _ 1 8 Try.underlying41 hi hz0 hz1 hz2 rfl (by decide) _ j _ rfl (hoy.out.alloc _) ⟨w5.heap.size, 0, none⟩ 1 1 [.float .f64 (log2V (floatOfInt .f64 x.2))] rfl rfl (cells_new1 _ _ _) (by intro u hu; simp at hu; subst hu; rfl) (by unfold maxLen; omega) (by omega) (by simp; omega) ?_; refine stop_here ?_) | fail)
      refine hid ?_
      intro yv w6 hown' hgrow hnil hloc
      have hT2 := hid (hT1.out.flip.push _ (log2V (floatOfInt .f64 x.2)) hgrow (by rw [hZy.out, List.length_take, Nat.min_eq_left hj]; exact hown') hloc).flip
      rw [← hzs.out] at hT2
      clear hown' hgrow hnil hloc hT1 hoy
      go_wp2_with fail
      go_roundw
      case rel => exact ⟨j + 1, by omega, by go_num, hT2⟩
      case measure => simp [intOf]; omega
    · obtain rfl : j = L.length := by omega
      rw [hTk.out] at hT
      obtain ⟨p1, c1, rfl, hf1⟩ := row_floats hT.out.ox (zx_lt _)
      obtain ⟨p2, c2, rfl, hf2⟩ := row_floats hT.out.oy (zy_lt _)
      have hSl := hid (slope31 wr p1 p2 c1 c2 _ _ hf1 hf2 (by rw [zx_len]; omega) (by rw [zy_len]; omega))
      rw [hSS.out] at hSl
      have hlow := hid (hB1.out.trans (hT.out.low.mono hB1.out.size))
      clear hf1 hf2 hT
      go_wp2_with fail
      with_reducible refine Calls.mono hSl.out ?_
      rintro e w' ⟨m, q, rfl, hm, rfl⟩
      have HM := hid hm
      clear hm
      go_wp2_with fail
      go_ret2
      exact ⟨_, rfl, HM.out, hlow.out.trans ⟨rfl, rfl, rfl, Nat.le_refl _, fun _ _ => rfl⟩⟩
end Go.Proofs.Ythidjbobjjoekaa
