/- canticletop.stands, walked: of a word of the concordance it answers true. Conditions: those of each theorem. -/
import Derived.Test.YteodfondjogmoaaGreatDoorJo
import Derived.Test.YteodfondjogmoaaGreatDoorTCj
import Derived.Test.YteodfondjogmoaaGreatDoorJn
namespace Go.Proofs.YteodfondjogmoaaGreatDoor
open Go Go.RowKit Go.Lib Go.Shelf Go.Maps
set_option linter.unusedVariables false
set_option linter.unusedSimpArgs false
attribute [local go_sem] Oper.semAt_some C.Ext.cell C.Ext.froz
section
variable {w : World} {c : Cc} {rs : List PmR} {E : List En} {ks : List ByteArray}
/-- what the calls on a place answer -/
structure StF (w : World) (c : Cc) (r : PmR) (κ : ByteArray) (p l ww n fn tn : Nat) (HD TL src tx : ByteArray) (va vb vc vf vt : Int) : Prop where
  cat : HD ++ src.extract fn tn ++ TL = tx
  hdz : vf + (HD.size : Int) = fn
  sz : HD.size ≤ 1024 ∧ TL.size ≤ 1024
  le : fn ≤ tn ∧ tn ≤ src.size ∧ src.size ≤ 65536 ∧ 1 ≤ tn
  c72 : ∀ W, Below w.heap.size w W → Calls Tryz.prog 69 #[.pointer (some ⟨r.pb, 0, none⟩)] W fun x w' => x = .returned (.string src) ∧ Below W.heap.size W w'
  c79 : ∀ W, Below w.heap.size w W → Calls Tryz.prog 76 #[.pointer (some ⟨r.pb, 0, none⟩), .int .i64 l] W fun x w' => x = .returned (.tuple #[.agg #[.string tx, .int .i64 va, .int .i64 vb, .int .i64 vc, .int .i64 vf, .int .i64 vt], .int .i64 0]) ∧ Below W.heap.size W w'
  c39 : ∀ W, Below w.heap.size w W → Calls Tryz.prog 38 #[.pointer (some ⟨c.cb, 0, none⟩), .agg #[.int .i64 p, .int .i64 l, .int .i64 ww, .int .i64 n, .int .i64 fn, .int .i64 tn]] W fun x w' => x = .returned (.tuple #[.string (src.extract fn tn), .int .i64 0]) ∧ Below W.heap.size W w'
  c41 : ∀ W, Below w.heap.size w W → Calls Tryz.prog 40 #[.pointer (some ⟨c.cb, 0, none⟩), .agg #[.int .i64 p, .int .i64 l, .int .i64 ww, .int .i64 n, .int .i64 fn, .int .i64 tn], .int .i64 65536] W fun x w' => x = .returned (.tuple #[.string HD, .string TL, .int .i64 0]) ∧ Below W.heap.size W w'
  c38 : ∀ W, Below w.heap.size w W → Calls Tryz.prog 37 #[.pointer (some ⟨c.cb, 0, none⟩), .int .i64 p, .int .i64 ((tn : Int) - 1)] W fun x w' => x = .returned (.tuple #[.agg #[.int .i64 p, .int .i64 l, .int .i64 ww, .int .i64 n, .int .i64 fn, .int .i64 tn], .int .i64 0]) ∧ Below W.heap.size W w'
  c40 : ∀ W, Calls Tryz.prog 39 #[.string (src.extract fn tn)] W fun x w' => x = .returned (.string κ) ∧ Below W.heap.size W w'
theorem st_facts (h : CcAt w c rs E ks) {j : Nat} {e : En} (he : E[j]? = some e) {r : PmR} {v : Vs} (hK : KnowR w rs e r v) {p l ww n fn tn : Nat} (hx : e.h = ⟨p, l, ww, n, (fn : Int), (tn : Int)⟩) :
    ∃ HD TL src tx va vb vc vf vt, StF w c r e.k p l ww n fn tn HD TL src tx va vb vc vf vt := by
  obtain ⟨⟨p', l', ww', n', f', t'⟩, κ⟩ := e
  dsimp only at hx
  obtain ⟨rfl, rfl, rfl, rfl, rfl, rfl⟩ : p' = p ∧ l' = l ∧ ww' = ww ∧ n' = n ∧ f' = fn ∧ t' = tn := by simpa using hx
  have hln := hK.k.ln
  have hsp := hK.k.sp
  have hky := hK.k.ky
  have hsz := hK.k.ok.sz
  have hl2 := hln.2.2.1
  dsimp only at hsp hky
  have hKn : ∀ W, Below w.heap.size w W → KnowR W rs ⟨⟨p', l', ww', n', (fn : Int), (tn : Int)⟩, κ⟩ r v := fun W hW => ⟨hK.hr, hK.ok.low hW, hK.k, hK.pp, hK.nn⟩
  refine ⟨v.tx.extract 0 ((fn : Int) - v.f).toNat, v.tx.extract ((tn : Int) - v.f).toNat v.tx.size, r.d.src, v.tx, v.a, v.b, v.c, v.f, v.t, ?_, ?_, ?_, ?_, ?_, ?_, ?_, ?_, ?_, ?_⟩
  · have h1 := line_back hK.k
    dsimp only at h1
    rw [Int.toNat_natCast, Int.toNat_natCast] at h1
    exact h1
  · have := head_size hK.k
    dsimp only at this
    omega
  · have := hK.k.vs
    rw [ByteArray.size_extract, ByteArray.size_extract]
    exact ⟨by omega, by omega⟩
  · have := hln.1; exact ⟨by omega, by omega, hsz, by omega⟩
  · intro W hW
    refine (source72 (hKn W hW).ok).mono ?_
    rintro x w' ⟨rfl, rfl⟩
    exact ⟨rfl, Below.refl _ _⟩
  · intro W hW; exact line79 (hKn W hW).ok hK.k.hv
  · intro W hW
    have h1 := text39 (h.low hW) he (hKn W hW)
    dsimp only at h1
    rw [Int.toNat_natCast, Int.toNat_natCast] at h1
    exact h1
  · intro W hW; exact around41 (h.low hW) he (hKn W hW)
  · intro W hW; exact at38 (h.low hW) he (hKn W hW)
  · intro W
    have h1 := fold40 (r.d.src.extract fn tn) (by rw [ByteArray.size_extract]; omega) W
    rw [Int.toNat_natCast, Int.toNat_natCast] at hky
    rw [← hky] at h1
    exact h1
set_option maxRecDepth 100000 in
set_option maxHeartbeats 16000000 in
theorem stands51 (h : CcAt w c rs E ks) {la : Option Addr} {lg lc : Nat} (hps : PsAt w la lg rs) (hr9 : rs.length ≤ 200) (s : ByteArray) (hs : s.size ≤ 1100000) (kk : Nat) (hkk : kk = (grp E (foldB s)).length) :
    Calls Tryz.prog 48 #[.pointer (some ⟨c.cb, 0, none⟩), .slice la rs.length lc, .string s, .int .i64 kk] w fun x w' => x = .returned (.bool true) ∧ Below w.heap.size w w' := by
  have hP := hid (places26 h s hs)
  have hFs := hid (fun W => fold40 s hs W)
  obtain ⟨κ, hκ⟩ : ∃ κ, κ = foldB s := ⟨_, rfl⟩
  rw [← hκ] at hkk hP hFs
  rw [← pl_len] at hkk
  have H := hid h
  have HP := hid hps
  obtain ⟨rl, hrl⟩ : ∃ rl, rs.length = rl := ⟨_, rfl⟩
  rw [hrl] at hr9 ⊢
  have HRL := hid hrl
  obtain ⟨PL, hPL⟩ : ∃ PL, PL = plsL E κ := ⟨_, rfl⟩
  rw [← hPL] at hkk hP
  have HPL := hid hPL
  have hEl := h.lE
  have hPE : Hid (PL.length ≤ 32768) := hid (by
    rw [hPL, pl_len, grp_len]
    exact Nat.le_trans List.countP_le_length hEl)
  clear h hps hrl hPL hκ hEl
  go_enter Tryz.func48, Tryz.ntmps48
  go_wp2_with fail
  with_reducible refine Calls.mono hP.out ?_
  rintro e w2 ⟨⟨v, rfl, hv⟩, hb2⟩
  obtain ⟨pa, pg, pcap, rfl, hHs⟩ := hs_of_own hv
  have HHS := hid hHs
  have HB2 := hid hb2
  obtain ⟨m, hm⟩ : ∃ m, PL.length = m := ⟨_, rfl⟩
  have hm9 := hPE.out
  rw [hm] at hkk hm9 ⊢
  have HM := hid hm
  subst hkk
  clear hv hHs hb2 hm hP
  go_wp2_with fail
  go_loopw [26] (fun i wr => ∃ k : Nat, k ≤ kk ∧ i = .int .i64 k ∧ Hid (Below w2.heap.size w2 wr)) (fun i wr => kk - (RowKit.intOf i).toNat)
  case atStart => exact ⟨0, Nat.zero_le _, rfl, hid (Below.refl _ _)⟩
  case round =>
    obtain ⟨k, hk, rfl, hBr⟩ := hrel
    by_cases hp : k < kk
    · obtain ⟨x, hx⟩ : ∃ x, PL[k]? = some x := ⟨_, List.getElem?_eq_getElem (by rw [HM.out]; exact hp)⟩
      have hxk := hx
      rw [HPL.out] at hxk
      obtain ⟨j, e, _, he, hex, hek⟩ := pl_get hxk
      have hB2r := HB2.out.trans (hBr.out.mono HB2.out.size)
      have hCw := H.out.low hB2r
      obtain ⟨r, v, hK⟩ := hCw.know he
      have hRow := (HHS.out.low hBr.out).row k x hx
      have hpa : pa = some ⟨pg, 0, none⟩ := HHS.out.ha.resolve_left (fun e0 => by rw [e0] at hx; cases hx)
      subst hpa
      have hla : la = some ⟨lg, 0, none⟩ := HP.out.ha.resolve_left (fun e0 => by have := hK.hr; rw [e0] at this; cases this)
      subst hla
      have hlr := ((HP.out.low hB2r).row _ _ hK.hr).1
      have hprl : e.h.p < rl := by rw [← HRL.out]; exact (List.getElem?_eq_some_iff.1 hK.hr).1
      have hpp := hK.pp
      have hnn := hK.nn
      have hKs := hK.k.sp
      rw [hex] at hlr hprl hpp hnn hKs
      have hprev : Hid (∀ k' y, k = k' + 1 → PL[k']? = some y → Hid (HwAt wr pg k' y ∧ y.p < 2000 ∧ y.n ≤ 32768 ∧ (y.p < x.p ∨ y.p = x.p ∧ y.n < x.n))) := hid (fun k' y hk' hy => by
        have hy2 := hy
        rw [HPL.out] at hy2
        obtain ⟨j', e', _, he', hex', _⟩ := pl_get hy2
        obtain ⟨r', v', hK'⟩ := hCw.know he'
        have h1 := hK'.pp
        have h2 := hK'.nn
        rw [hex'] at h1 h2
        exact hid ⟨(HHS.out.low hBr.out).row k' y hy, by omega, by omega, pl_rise H.out (by omega) hy2 hxk⟩)
      have HCW := hid hCw
      have HE := hid he
      have HEX := hid hex
      have HEK := hid hek
      have HK := hid hK
      have HX := hid hx
      have HB2r := hid hB2r
      clear hCw he hex hek hK hxk hx hB2r
      have hvf0 := HK.out.k.ln.1
      obtain ⟨p, l, ww, n, f, t⟩ := x
      dsimp only at hKs
      obtain ⟨fn, rfl⟩ := Int.eq_ofNat_of_zero_le (show 0 ≤ f by omega)
      obtain ⟨tn, rfl⟩ := Int.eq_ofNat_of_zero_le (show 0 ≤ t by omega)
      obtain ⟨q0, q1, q2, q3, q4, q5⟩ := hRow
      dsimp only at q0 q1 q2 q3 q4 q5 hlr hprl hpp hnn
      obtain ⟨HD, TL, src, tx, va, vb, vc, vf, vt, hF⟩ := st_facts HCW.out HE.out HK.out HEX.out
      rw [HEK.out] at hF
      have HF := hid hF
      clear hF
      have hkI : (k : Int) < kk := by omega
      go_wp2_with fail
      obtain ⟨W1, hW1⟩ : ∃ W1, wr.alloc (.cells #[.int .i64 p, .int .i64 l, .int .i64 ww, .int .i64 n, .int .i64 fn, .int .i64 tn] 39) = W1 := ⟨_, rfl⟩
      obtain ⟨b, hb⟩ : ∃ b, b = wr.heap.size := ⟨_, rfl⟩
      have k1 : Blk W1 b 39 #[.int .i64 p, .int .i64 l, .int .i64 ww, .int .i64 n, .int .i64 fn, .int .i64 tn] := by rw [← hW1, hb]; exact Blk.new _ _ _
      have hB1 : Below wr.heap.size wr W1 := by rw [← hW1]; exact (Below.refl _ _).alloc (Nat.le_refl _) _
      rw [show wr.alloc (.cells #[.int .i64 p, .int .i64 l, .int .i64 ww, .int .i64 n, .int .i64 fn, .int .i64 tn] 39) = W1 from hW1, ← hb]
      have HBb := hid hb
      clear hW1 hb
      have u0 : W1.cell? ⟨b, 0, none⟩ = some (.int .i64 p) := k1.cell (k := 0) rfl
      have u1 : W1.cell? ⟨b, 1, none⟩ = some (.int .i64 l) := k1.cell (k := 1) rfl
      have u2 : W1.cell? ⟨b, 2, none⟩ = some (.int .i64 ww) := k1.cell (k := 2) rfl
      have u3 : W1.cell? ⟨b, 3, none⟩ = some (.int .i64 n) := k1.cell (k := 3) rfl
      have u4 : W1.cell? ⟨b, 4, none⟩ = some (.int .i64 fn) := k1.cell (k := 4) rfl
      have u5 : W1.cell? ⟨b, 5, none⟩ = some (.int .i64 tn) := k1.cell (k := 5) rfl
      have HU := hid k1
      have HB1 := hid hB1
      have HLR := hid (lowc hlr hB1)
      have g1 : decide ((p : Int) < 0) = false := decide_eq_false (by omega)
      have g2 : decide ((rl : Int) ≤ p) = false := decide_eq_false (by omega)
      have g3 : decide (rl ≤ p) = false := decide_eq_false (by omega)
      clear k1 hB1 hlr q0 q1 q2 q3 q4 q5
      rcases Nat.eq_zero_or_pos k with hk0 | hk0
      case' inl =>
        have gk : decide ((0 : Int) < (k : Int)) = false := decide_eq_false (by omega)
        have gk2 : decide (0 < k) = false := decide_eq_false (by omega)
        have HK0 := hid hk0
        clear hprev hk0
        refine C.ext_allB (by kernel_rfl) (by kernel_rfl) ?_
        repeat (refine C.bq_step (fun K hK => ?_); go_simp; refine ⟨hK _ ?_⟩; clear hK K)
        refine C.bq_nil ?_
        rintro _ ⟨z, rfl⟩
        have HZ := hid z.h
        clear u0 u1 u2 u3 u4 u5 gk gk2
        generalize z.w = W2 at *
      case' inr =>
        obtain ⟨k', rfl⟩ : ∃ k', k = k' + 1 := ⟨k - 1, by omega⟩
        obtain ⟨y, hy⟩ : ∃ y, PL[k']? = some y := ⟨_, List.getElem?_eq_getElem (by rw [HM.out]; omega)⟩
        obtain ⟨hrow, hy1, hy2, hy3⟩ := (hprev.out k' y rfl hy).out
        have hEa := hid (fun W => earlier100 y ⟨p, l, ww, n, fn, tn⟩ W ⟨hy1, hy2⟩ ⟨by show p < 2000; omega, by show n ≤ 32768; omega⟩ hy3)
        obtain ⟨yp, yl, yw, yn, yf, yt⟩ := y
        obtain ⟨r0, r1, r2, r3, r4, r5⟩ := hrow
        dsimp only at r0 r1 r2 r3 r4 r5
        have r0 := lowc r0 HB1.out
        have r1 := lowc r1 HB1.out
        have r2 := lowc r2 HB1.out
        have r3 := lowc r3 HB1.out
        have r4 := lowc r4 HB1.out
        have r5 := lowc r5 HB1.out
        have gk : decide ((0 : Int) < (k' : Int) + 1) = true := decide_eq_true (by omega)
        have gk2 : decide (0 < k' + 1) = true := decide_eq_true (by omega)
        have hw1 : IntKind.i64.wrap (k' : Int) = k' := IntWalk.i64_in _ (by omega)
        have hw2 : IntKind.i64.wrap ((k' : Int) + 1 - 1) = k' := by rw [show (k' : Int) + 1 - 1 = k' by omega]; exact hw1
        have hkI2 : (k' : Int) < kk := by omega
        clear hprev hk0 hy hy1 hy2 hy3
        refine C.ext_allB (by kernel_rfl) (by kernel_rfl) ?_
        repeat (refine C.bq_step (fun K hK => ?_); go_simp; first | (refine ⟨hK _ ?_⟩; clear hK K) | (refine ⟨?_⟩; apply Exists.intro; refine ⟨fun x => ?_, hK _ ?_⟩; (with_reducible exact C.Ext.call (hEa.out _)); clear hK K))
        refine C.bq_nil ?_
        rintro _ ⟨z, rfl⟩
        have HZ := hid z.h
        clear u0 u1 u2 u3 u4 u5 gk gk2
        generalize z.w = W2 at *
      all_goals
        have hBa := HB1.out.trans (HZ.out.mono HB1.out.size)
        have hl2 := lowc HLR.out HZ.out
        have k2 := HU.out.low HZ.out
        have u0 : W2.cell? ⟨b, 0, none⟩ = some (.int .i64 p) := k2.cell (k := 0) rfl
        have u1 : W2.cell? ⟨b, 1, none⟩ = some (.int .i64 l) := k2.cell (k := 1) rfl
        have HK2 := hid k2
        have HBA := hid hBa
        have hSr := hid (HF.out.c72 W2 hBa)
        have hpI : (p : Int) < rl := by omega
        clear k2 hBa
        go_wp2_with fail
        with_reducible refine Calls.mono hSr.out ?_
        rintro e' w3 ⟨rfl, hb3⟩
        have HB3 := hid (HBA.out.trans (hb3.mono HBA.out.size))
        have k3 := HK2.out.low hb3
        have hl3 := lowc hl2 hb3
        have u0 : w3.cell? ⟨b, 0, none⟩ = some (.int .i64 p) := k3.cell (k := 0) rfl
        have u1 : w3.cell? ⟨b, 1, none⟩ = some (.int .i64 l) := k3.cell (k := 1) rfl
        have HK3 := hid k3
        have hLn := hid (fun (z : C.Ext w3) => HF.out.c79 z.w (HB3.out.trans (z.h.mono HB3.out.size)))
        have h00 := AlS.start w3 136 #[.string ⟨#[]⟩, .int .i64 0, .int .i64 0, .int .i64 0, .int .i64 0, .int .i64 0] #[.string tx, .int .i64 va, .int .i64 vb, .int .i64 vc, .int .i64 vf, .int .i64 vt]
        have hCl := AlS.cls w3 136 #[.string ⟨#[]⟩, .int .i64 0, .int .i64 0, .int .i64 0, .int .i64 0, .int .i64 0] #[.string tx, .int .i64 va, .int .i64 vb, .int .i64 vc, .int .i64 vf, .int .i64 vt]
        clear hSr hb3 k3 hl2
        go_wp2_with fail
        refine C.eff_tail 13 [(11, some 13), (12, none)] (AlS w3 136 #[.string ⟨#[]⟩, .int .i64 0, .int .i64 0, .int .i64 0, .int .i64 0, .int .i64 0] #[.string tx, .int .i64 va, .int .i64 vb, .int .i64 vc, .int .i64 vf, .int .i64 vt]) (fun f args u => u = .tuple #[.agg #[.string tx, .int .i64 va, .int .i64 vb, .int .i64 vc, .int .i64 vf, .int .i64 vt], .int .i64 0]) (by kernel_rfl) (by kernel_rfl) (by kernel_rfl) rfl h00 ?_
        simp only [List.take_succ_cons, List.take_zero, List.drop_succ_cons, List.drop_zero]
        iterate 7 (refine C.ge_step hCl (by kernel_rfl) (C.wit0 h00 (by kernel_rfl)) (fun K hK => ?_); go_simp; refine ⟨hK _ ?_⟩; clear hK K)
        refine C.ge_call (f := 76) (args := #[.pointer (some ⟨r.pb, 0, none⟩), .int .i64 l]) (C.wit0 h00 (by kernel_rfl)) rfl (fun x w' _ _ => by go_simp) ⟨_, rfl⟩ (fun x w' _ hx => ?_) (.inl (by kernel_rfl)) ?_
        · refine (hLn.out ⟨w', hx.1⟩).mono ?_
          rintro e w'' ⟨rfl, hb⟩
          exact ⟨_, rfl, rfl, hCl.up _ _ _ hx hb⟩
        rintro u rfl
        iterate 3 (refine C.ge_step hCl (by kernel_rfl) (C.wit0 h00 (by kernel_rfl)) (fun K hK => ?_); go_simp; refine ⟨hK _ ?_⟩; clear hK K)
        refine C.ge_eff (m := 0) (by kernel_rfl) rfl (C.wit0 h00 (by kernel_rfl)) (AlV w3 136 #[.string ⟨#[]⟩, .int .i64 0, .int .i64 0, .int .i64 0, .int .i64 0, .int .i64 0] #[.string tx, .int .i64 va, .int .i64 vb, .int .i64 vc, .int .i64 vf, .int .i64 vt]) ?_ ?_
        · intro x w' hf hx0 hx
          obtain ⟨e1, e2⟩ := AlS.made hf.1 hx0 hx
          refine ⟨_, _, .inl ?_, e1, e2⟩
          go_simp
        rintro u ⟨pv, rfl, hpv, w', hw'⟩
        refine C.ge_eff (m := 1) (by kernel_rfl) rfl ⟨_, w', fit2 (by kernel_rfl) (by kernel_rfl) rfl, hw'⟩ (fun u => u = undef) ?_ ?_
        · intro x w' hf hx0 hx
          obtain ⟨q, hq, hqs, kz, hfin⟩ := AlS.store hf.1 (hf.2.2 0 _ rfl (by kernel_rfl)) hx0 hx
          obtain rfl : pv = q := by
            have e : (Value.pointer (some ⟨pv, 0, none⟩)) = .pointer (some ⟨q, 0, none⟩) := hq
            simpa using e
          clear hq hf hx hx0 hw'
          have n0 := kz.cell (k := 0) rfl
          have n1 := kz.cell (k := 1) rfl
          have n2 := kz.cell (k := 2) rfl
          have n3 := kz.cell (k := 3) rfl
          have n4 := kz.cell (k := 4) rfl
          have n5 := kz.cell (k := 5) rfl
          have z0 := kz.froz 0
          have z1 := kz.froz 1
          have z2 := kz.froz 2
          have z3 := kz.froz 3
          have z4 := kz.froz 4
          have z5 := kz.froz 5
          refine ⟨undef, (((((w'.setCell ⟨pv, 0, none⟩ (.string tx)).setCell ⟨pv, 1, none⟩ (.int .i64 va)).setCell ⟨pv, 2, none⟩ (.int .i64 vb)).setCell ⟨pv, 3, none⟩ (.int .i64 vc)).setCell ⟨pv, 4, none⟩ (.int .i64 vf)).setCell ⟨pv, 5, none⟩ (.int .i64 vt), ?hrun, rfl, hfin _ ?blk ?bel⟩
          case hrun =>
            go_simp
          case blk => exact (((((kz.upd 0 _ rfl).upd 1 _ rfl).upd 2 _ rfl).upd 3 _ rfl).upd 4 _ rfl).upd 5 _ rfl
          case bel => exact ((((((Below.refl _ w').setCell (p := ⟨pv, 0, none⟩) hpv _).setCell (p := ⟨pv, 1, none⟩) hpv _).setCell (p := ⟨pv, 2, none⟩) hpv _).setCell (p := ⟨pv, 3, none⟩) hpv _).setCell (p := ⟨pv, 4, none⟩) hpv _).setCell (p := ⟨pv, 5, none⟩) hpv _
        rintro u rfl
        refine C.ge_nil ?_
        intro w4 hw4
        obtain ⟨hb4, q, hq, hqs, kq⟩ := hw4
        obtain rfl : pv = q := by
          have e : (Value.pointer (some ⟨pv, 0, none⟩)) = .pointer (some ⟨q, 0, none⟩) := hq
          simpa using e
        have k4 := HK3.out.low hb4
        have HB4 := hid (HB3.out.trans (hb4.mono HB3.out.size))
        have HQ := hid kq
        have HK4 := hid k4
        have hT := hid (HF.out.c39 w4 HB4.out)
        have u0 : w4.cell? ⟨b, 0, none⟩ = some (.int .i64 p) := k4.cell (k := 0) rfl
        have u1 : w4.cell? ⟨b, 1, none⟩ = some (.int .i64 l) := k4.cell (k := 1) rfl
        have u2 : w4.cell? ⟨b, 2, none⟩ = some (.int .i64 ww) := k4.cell (k := 2) rfl
        have u3 : w4.cell? ⟨b, 3, none⟩ = some (.int .i64 n) := k4.cell (k := 3) rfl
        have u4 : w4.cell? ⟨b, 4, none⟩ = some (.int .i64 fn) := k4.cell (k := 4) rfl
        have u5 : w4.cell? ⟨b, 5, none⟩ = some (.int .i64 tn) := k4.cell (k := 5) rfl
        clear hq hw' hCl h00 hLn hl3 kq k4 hb4
        go_wp2_with fail
        with_reducible refine Calls.mono hT.out ?_
        rintro e' w5 ⟨rfl, hb5⟩
        have HB5 := hid (HB4.out.trans (hb5.mono HB4.out.size))
        have k5 := HK4.out.low hb5
        have HQ5 := hid (HQ.out.low hb5)
        have HK5 := hid k5
        have hT2 := hid (HF.out.c41 w5 HB5.out)
        have u0 : w5.cell? ⟨b, 0, none⟩ = some (.int .i64 p) := k5.cell (k := 0) rfl
        have u1 : w5.cell? ⟨b, 1, none⟩ = some (.int .i64 l) := k5.cell (k := 1) rfl
        have u2 : w5.cell? ⟨b, 2, none⟩ = some (.int .i64 ww) := k5.cell (k := 2) rfl
        have u3 : w5.cell? ⟨b, 3, none⟩ = some (.int .i64 n) := k5.cell (k := 3) rfl
        have u4 : w5.cell? ⟨b, 4, none⟩ = some (.int .i64 fn) := k5.cell (k := 4) rfl
        have u5 : w5.cell? ⟨b, 5, none⟩ = some (.int .i64 tn) := k5.cell (k := 5) rfl
        clear hT k5 hb5
        go_wp2_with fail
        with_reducible refine Calls.mono hT2.out ?_
        rintro e' w6 ⟨rfl, hb6⟩
        have HB6 := hid (HB5.out.trans (hb6.mono HB5.out.size))
        have k6 := HK5.out.low hb6
        have q6 := HQ5.out.low hb6
        have HK6 := hid k6
        have HQ6 := hid q6
        have u0 : w6.cell? ⟨b, 0, none⟩ = some (.int .i64 p) := k6.cell (k := 0) rfl
        have u1 : w6.cell? ⟨b, 1, none⟩ = some (.int .i64 l) := k6.cell (k := 1) rfl
        have u2 : w6.cell? ⟨b, 2, none⟩ = some (.int .i64 ww) := k6.cell (k := 2) rfl
        have u3 : w6.cell? ⟨b, 3, none⟩ = some (.int .i64 n) := k6.cell (k := 3) rfl
        have u4 : w6.cell? ⟨b, 4, none⟩ = some (.int .i64 fn) := k6.cell (k := 4) rfl
        have u5 : w6.cell? ⟨b, 5, none⟩ = some (.int .i64 tn) := k6.cell (k := 5) rfl
        have v0 : w6.cell? ⟨pv, 0, none⟩ = some (.string tx) := q6.cell (k := 0) rfl
        have v4 : w6.cell? ⟨pv, 4, none⟩ = some (.int .i64 vf) := q6.cell (k := 4) rfl
        have hFt := hid HF.out.c40
        obtain ⟨hle1, hle2, hle3, hle4⟩ := HF.out.le
        have s1 : (fn : Int) ≤ tn := by omega
        have s2 : decide (fn ≤ tn) = true := decide_eq_true (by omega)
        have s3 : (tn : Int) ≤ src.size := by omega
        have s4 : (fn : Int) ≤ src.size := by omega
        clear hT2 k6 q6 hb6
        go_wp2_with fail
        with_reducible refine Calls.mono (hFt.out w6) ?_
        rintro e' w7 ⟨rfl, hb7⟩
        have HB7 := hid (HB6.out.trans (hb7.mono HB6.out.size))
        have HK7 := hid (HK6.out.low hb7)
        have HQ7 := hid (HQ6.out.low hb7)
        clear hFt hb7 u0 u1 u2 u3 u4 u5 v0 v4 s1 s2 s3 s4
        go_wp2_with fail
        with_reducible refine Calls.mono (hFs.out w7) ?_
        rintro e' w8 ⟨rfl, hb8⟩
        have HB8 := hid (HB7.out.trans (hb8.mono HB7.out.size))
        have k8 := HK7.out.low hb8
        have q8 := HQ7.out.low hb8
        have HK8 := hid k8
        have u0 : w8.cell? ⟨b, 0, none⟩ = some (.int .i64 p) := k8.cell (k := 0) rfl
        have u1 : w8.cell? ⟨b, 1, none⟩ = some (.int .i64 l) := k8.cell (k := 1) rfl
        have u2 : w8.cell? ⟨b, 2, none⟩ = some (.int .i64 ww) := k8.cell (k := 2) rfl
        have u3 : w8.cell? ⟨b, 3, none⟩ = some (.int .i64 n) := k8.cell (k := 3) rfl
        have u4 : w8.cell? ⟨b, 4, none⟩ = some (.int .i64 fn) := k8.cell (k := 4) rfl
        have u5 : w8.cell? ⟨b, 5, none⟩ = some (.int .i64 tn) := k8.cell (k := 5) rfl
        have v0 : w8.cell? ⟨pv, 0, none⟩ = some (.string tx) := q8.cell (k := 0) rfl
        have v4 : w8.cell? ⟨pv, 4, none⟩ = some (.int .i64 vf) := q8.cell (k := 4) rfl
        have hcat := HF.out.cat
        obtain ⟨hz1, hz2⟩ := HF.out.sz
        have r1 : (9223372036854775807 < HD.size + (min tn src.size - fn)) = False := eq_false (by omega)
        have r2 : (9223372036854775807 < HD.size + (min tn src.size - fn) + TL.size) = False := eq_false (by omega)
        have hwb : IntKind.i64.wrap (vf + (HD.size : Int)) = fn := by rw [HF.out.hdz]; exact IntWalk.i64_in _ (by omega)
        have hwt : IntKind.i64.wrap ((tn : Int) - 1) = (tn : Int) - 1 := IntWalk.i64_in _ (by omega)
        have hA := hid (HF.out.c38 w8 HB8.out)
        have HN4 := hid hle4
        clear k8 q8 hb8 hle1 hle2 hle3 hle4 hz1 hz2
        go_wp2_with fail
        with_reducible refine Calls.mono hA.out ?_
        rintro e' w9 ⟨rfl, hb9⟩
        have HB9 := hid (HB8.out.trans (hb9.mono HB8.out.size))
        have k9 := (HK8.out.low hb9).alloc (.cells #[.int .i64 p, .int .i64 l, .int .i64 ww, .int .i64 n, .int .i64 fn, .int .i64 tn] 39)
        have u0 : (w9.alloc (.cells #[.int .i64 p, .int .i64 l, .int .i64 ww, .int .i64 n, .int .i64 fn, .int .i64 tn] 39)).cell? ⟨b, 0, none⟩ = some (.int .i64 p) := k9.cell (k := 0) rfl
        have u1 : (w9.alloc (.cells #[.int .i64 p, .int .i64 l, .int .i64 ww, .int .i64 n, .int .i64 fn, .int .i64 tn] 39)).cell? ⟨b, 1, none⟩ = some (.int .i64 l) := k9.cell (k := 1) rfl
        have u2 : (w9.alloc (.cells #[.int .i64 p, .int .i64 l, .int .i64 ww, .int .i64 n, .int .i64 fn, .int .i64 tn] 39)).cell? ⟨b, 2, none⟩ = some (.int .i64 ww) := k9.cell (k := 2) rfl
        have u3 : (w9.alloc (.cells #[.int .i64 p, .int .i64 l, .int .i64 ww, .int .i64 n, .int .i64 fn, .int .i64 tn] 39)).cell? ⟨b, 3, none⟩ = some (.int .i64 n) := k9.cell (k := 3) rfl
        have u4 : (w9.alloc (.cells #[.int .i64 p, .int .i64 l, .int .i64 ww, .int .i64 n, .int .i64 fn, .int .i64 tn] 39)).cell? ⟨b, 4, none⟩ = some (.int .i64 fn) := k9.cell (k := 4) rfl
        have u5 : (w9.alloc (.cells #[.int .i64 p, .int .i64 l, .int .i64 ww, .int .i64 n, .int .i64 fn, .int .i64 tn] 39)).cell? ⟨b, 5, none⟩ = some (.int .i64 tn) := k9.cell (k := 5) rfl
        clear hA v0 v4 hb9 k9 hwb hwt hcat r1 r2
        go_wp2_with fail
        go_roundw
        case rel => first | exact ⟨k' + 1 + 1, by omega, by go_num, hid ((hBr.out.trans ((HB9.out.mono hBr.out.size).alloc (by have := HB9.out.size; have := hBr.out.size; omega) _)))⟩ | exact ⟨k + 1, by omega, by go_num, hid ((hBr.out.trans ((HB9.out.mono hBr.out.size).alloc (by have := HB9.out.size; have := hBr.out.size; omega) _)))⟩
        case measure => simp [RowKit.intOf]; omega
    · obtain rfl : k = kk := by omega
      go_wp2_with fail
      go_ret
      exact ⟨rfl, HB2.out.trans (hBr.out.mono HB2.out.size)⟩
end
end Go.Proofs.YteodfondjogmoaaGreatDoor
