/- poem.Read. Conditions: those of each theorem. -/
import Derived.Test.YteodfondjogmoaaGreatDoorJk
import Derived.Test.YteodfondjogmoaaGreatDoorJPPlN
import Derived.Test.YteodfondjogmoaaGreatDoorJf
import Derived.Test.YteodfondjogmoaaGreatDoorJe
namespace Go.Proofs.YteodfondjogmoaaGreatDoor
open Go Go.RowKit Go.Lib Go.Shelf
set_option linter.unusedVariables false
set_option linter.unusedSimpArgs false
attribute [local go_sem] C.Ext.cell C.Ext.froz P.GivesG P.Gives
def ReadPost (s : ByteArray) (w : World) (e : Ending) (w' : World) : Prop :=
  Below w.heap.size w w' ∧ ((∃ q : Int, e = .returned (.tuple #[.pointer none, .agg #[.int .i64 3, .int .i64 q]])) ∨
    (∃ pb g a cap L, e = .returned (.tuple #[.pointer (some ⟨pb, 0, none⟩), .agg #[.int .i64 0, .int .i64 0]]) ∧ PmAt w' pb g a cap L ∧ L.length ≤ 512 ∧ (∀ v ∈ L, v.tx.size ≤ 1024) ∧ w.heap.size ≤ pb ∧ w.heap.size ≤ g ∧ pb < w'.heap.size ∧ g < w'.heap.size ∧ w'.cell? ⟨pb, 3, none⟩ = some (.string s) ∧ ∃ n, LsOk s n L))
theorem stop_appW {P : Program} {w : World} {ops : Array Oper} {rest : List Oper} {o : Oper} {a : Act} {Q : Exit → Act → World → Prop} {s x : Operand} {t : TypeId} (hop : o.op = Op.call { callee := Callee.builtin Builtin.append, args := #[s, x], argTypes := #[t, t] })
    (h : Hid (wpList P ops Q (o :: rest) a w)) : wpList P ops Q (o :: rest) a w := h.out
theorem cells_new2' (w : World) (a0 a1 : Value) (T : TypeId) : ∀ j u, [a0, a1][j]? = some u → (w.alloc (.cells #[a0, a1] T)).cell? ((⟨w.heap.size, 0, none⟩ : Addr).add j) = some u := by
  intro j u hj
  match j, hj with
  | 0, hj => simp at hj; subst hj; simp [Addr.add]
  | 1, hj => simp at hj; subst hj; simp [Addr.add]
theorem cells_new6 (w : World) (a0 a1 a2 a3 a4 a5 : Value) (T : TypeId) : ∀ j u, [a0, a1, a2, a3, a4, a5][j]? = some u → (w.alloc (.cells #[a0, a1, a2, a3, a4, a5] T)).drew.cell? ((⟨w.heap.size, 0, none⟩ : Addr).add j) = some u := by
  intro j u hj
  match j, hj with
  | 0, hj => simp at hj; subst hj; simp [Addr.add]
  | 1, hj => simp at hj; subst hj; simp [Addr.add]
  | 2, hj => simp at hj; subst hj; simp [Addr.add]
  | 3, hj => simp at hj; subst hj; simp [Addr.add]
  | 4, hj => simp at hj; subst hj; simp [Addr.add]
  | 5, hj => simp at hj; subst hj; simp [Addr.add]
  | j + 6, hj => simp at hj
theorem cells_err {W : World} {N : Nat} (h : Blk W N 96 #[.int .i64 0, .int .i64 0]) (q : Int) : ((W.setCell ⟨N, 0, none⟩ (.int .i64 3)).setCell ⟨N, 1, none⟩ (.int .i64 q)).drew.cell? ⟨N, 0, none⟩ = some (.int .i64 3) ∧ ((W.setCell ⟨N, 0, none⟩ (.int .i64 3)).setCell ⟨N, 1, none⟩ (.int .i64 q)).drew.cell? ⟨N, 1, none⟩ = some (.int .i64 q) := by
  have k : Blk ((W.setCell ⟨N, 0, none⟩ (.int .i64 3)).setCell ⟨N, 1, none⟩ (.int .i64 q)).drew N 96 #[.int .i64 3, .int .i64 q] := ((h.upd 0 (.int .i64 3) rfl).upd 1 (.int .i64 q) rfl).drew
  exact ⟨k.cell rfl, k.cell rfl⟩
set_option maxRecDepth 100000 in
set_option maxHeartbeats 1000000 in
theorem read5_long (s : ByteArray) (w : World) (hs : 65536 < s.size) (hm : s.size ≤ maxLen) : Calls Tryz.prog 45 #[.string s] w (ReadPost s w) := by
  have hN := hid (fun w => P.new_long s w hs hm)
  go_enter Tryz.func45, Tryz.ntmps45
  go_wp2_with fail
  go_step3
  go_wp2_with (go_at_call 84; (with_reducible refine Calls.mono (hN.out _) ?_); rintro e w1 ⟨rfl, hb1⟩; have k0 := (Blk.new w 96 #[.int .i64 0, .int .i64 0]).low hb1; have c0 := k0.cell (k := 0) rfl; have c1 := k0.cell (k := 1) rfl; have z0 := k0.froz 0; have z1 := k0.froz 1; have K0 := hid k0; have HB := hid hb1; clear k0 hb1)
  have q0 := ((K0.out.upd 0 (.int .i64 3) rfl).upd 1 (.int .i64 65536) rfl).cell (k := 0) rfl
  have q1 := ((K0.out.upd 0 (.int .i64 3) rfl).upd 1 (.int .i64 65536) rfl).cell (k := 1) rfl
  try rw [Exit.noGoto_ret]
  refine bodyPost_ret (v := .tuple #[.pointer none, .agg #[.int .i64 3, .int .i64 65536]]) (by simp [results, Tryz.results45, go_sem, q0, q1]) rfl ⟨?_, .inl ⟨_, rfl⟩⟩
  exact ((((Below.refl _ w).alloc (Nat.le_refl _) _).trans (HB.out.mono (by simp))).setCell (p := ⟨w.heap.size, 0, none⟩) (Nat.le_refl _) _).setCell (p := ⟨w.heap.size, 1, none⟩) (Nat.le_refl _) _
theorem len_both (s : ByteArray) (hs : s.size ≤ 65536) : (P.fin s).ps.length ≤ s.size ∧ (P.fin s).ls.length ≤ s.size := by
  have h := P.run_ind (s := s) (I := P.Ok s) (fun pos t hp h => h.step hp) s.size 0 P.St.start (by omega) (by omega) (P.Ok.start s)
  exact ⟨h.len, h.ll⟩
theorem len_pl (s : ByteArray) (hs : s.size ≤ 65536) : (P.plOf s).length ≤ 70000 := by
  have h := len_both s hs
  unfold P.plOf; rw [List.length_append, List.length_singleton]; omega
theorem len_ln (s : ByteArray) (hs : s.size ≤ 65536) : (P.lnOf s).length ≤ 70000 := by
  have h := len_both s hs
  unfold P.lnOf; rw [List.length_append, List.length_singleton]; omega
set_option maxRecDepth 100000 in
set_option maxHeartbeats 16000000 in
theorem read5 (s : ByteArray) (w : World) (hs : s.size ≤ 65536) : Calls Tryz.prog 45 #[.string s] w (ReadPost s w) := by
  obtain ⟨i0, hi, hz0, hz1, hz2⟩ := info_parts infoS
  obtain ⟨j0, hj, gz0, gz1, gz2⟩ := info_parts infoV
  have hN := hid (fun w => P.new_any s w hs)
  obtain ⟨N, hNN⟩ : ∃ N, N = w.heap.size := ⟨_, rfl⟩
  go_enter Tryz.func45, Tryz.ntmps45
  go_wp2_with fail
  go_step3
  go_wp2_with fail
  with_reducible refine Calls.mono (hN.out _) ?_
  rintro e wB ⟨mb, mp, mpc, ml, mlc, hmb, hM, rfl, hb1⟩
  have k0 := (Blk.new w 96 #[.int .i64 0, .int .i64 0]).low hb1
  have hbB : Below N w wB := by rw [hNN]; exact ((Below.refl _ w).alloc (Nat.le_refl _) _).trans (hb1.mono (by simp))
  rw [← hNN] at k0 ⊢
  have hszB : N + 1 ≤ wB.heap.size := by have := k0.lt; omega
  have K0 := hid k0
  have HBB := hid hbB
  have HM := hid hM
  have HNN := hid hNN
  clear k0 hbB hM hb1 hN hNN hmb
  have hR0 : RdS wB (wB.alloc (.cells #[.string ⟨#[]⟩, .slice none 0 0, .slice none 0 0, .string s] 161)) s [] 0 [] ⟨#[]⟩ (.slice none 0 0) (.slice none 0 0) :=
    ⟨Blk.new wB 161 _, World.ownsRow_nil _ _ _ _, World.ownsRow_nil _ _ _ _, (fun j u h => by simp at h), (fun g h => by cases h), (Below.refl _ _).alloc (Nat.le_refl _) _⟩
  have HR0 := hid hR0
  have HLn := hid (P.lines_any (HM.out.below hR0.low))
  clear hR0
  go_wp2_with fail
  go_step3
  go_wp2_with fail
  with_reducible refine Calls.mono HLn.out ?_
  rintro e w' ⟨rfl, rfl⟩
  clear HLn
  have hnl : Hid ((P.lnOf s).length = (P.lnOf s).length ∧ (P.lnOf s).length ≤ 70000 ∧ (P.plOf s).length ≤ 70000) := hid ⟨rfl, len_ln s hs, len_pl s hs⟩
  generalize hnn : (P.lnOf s).length = nl at *
  have HNL := hid hnn
  clear hnn
  go_wp2_with fail
  go_loopw [7, 8, 31] (fun f r k wr => ∃ (first row : Bool) (kk : Nat) (L : List Vs) (m : Nat) (xs : List Value) (tv : ByteArray) (lv sv : Value), f = .bool first ∧ r = .bool row ∧ k = .int .i64 kk ∧ kk ≤ nl ∧ Hid (RdS wB wr s L m xs tv lv sv) ∧ L.length ≤ 512 ∧ Hid (LsOk s (P.endOf (P.lnOf s) kk) L) ∧ m ≤ kk ∧ (row = true → 1 ≤ m)) (fun f r k wr => nl - (RowKit.intOf k).toNat)
  case atStart => exact ⟨true, false, 0, [], 0, [], _, _, _, rfl, rfl, rfl, Nat.zero_le _, HR0, by simp, hid (LsOk.nil _ _), Nat.le_refl _, by intro h; cases h⟩
  case round =>
    obtain ⟨first, row, kk, L, m, xs, tv, lv, sv, rfl, rfl, rfl, hkk, hR, hL, hLs, hm, hrow⟩ := hrel
    by_cases hp : kk < nl
    · obtain ⟨p, hpk⟩ : ∃ p, (P.lnOf s)[kk]? = some p := ⟨_, List.getElem?_eq_getElem (by rw [HNL.out]; exact hp)⟩
      have hok := P.ln_ok s hpk
      have hft := hok.ft
      have hsz := hok.sz
      have hSp := hid (P.span_ok (HM.out.below hR.out.low) hnl.out.2.2 (by rw [HNL.out]; exact hnl.out.2.1) kk (by omega) p (by simpa using hpk))
      have hof := hok.f
      have hon := hok.next
      obtain ⟨pf, pt, pe, pi⟩ := p
      dsimp only at hft hsz hSp hof hon
      have hLs := hid (hof ▸ hLs.out : LsOk s pf L)
      have hNx := hid (show pf ≤ P.endOf (P.lnOf s) (kk + 1) ∧ pt ≤ P.endOf (P.lnOf s) (kk + 1) by omega)
      clear hof hon
      clear hok hpk HR0
      have hkI : (kk : Int) < nl := by omega
      have hnl2 : nl ≤ 70000 := hnl.out.2.1
      go_wp2_with fail
      with_reducible refine Calls.mono hSp.out ?_
      rintro e W1 ⟨rfl, hb1⟩
      have R1 := hR.out.below hb1
      obtain ⟨S1, hS1⟩ : ∃ S1, S1 = W1.heap.size := ⟨_, rfl⟩
      have R2 := hid (R1.below ((Below.refl _ W1).alloc (Nat.le_refl _) (.cells #[.int .i64 pf, .int .i64 pt] 37)))
      have k2 := Blk.new W1 37 #[.int .i64 pf, .int .i64 pt]
      rw [← hS1] at k2
      have hxt : (pf : Int) ≤ pt := by omega
      have hxt2 : decide (pf ≤ pt) = true := decide_eq_true (by omega)
      have hts : (pt : Int) ≤ s.size := by omega
      have hxs : (pf : Int) ≤ s.size := by omega
      have hlz : (s.extract pf pt).size = pt - pf := by rw [ByteArray.size_extract]; omega
      have hEm := hid (fun W => empty22 (s.extract pf pt) (by omega) W)
      have hTi := hid (fun W => titled23 (s.extract pf pt) W)
      have hIn := hid (fun W => indent25 (s.extract pf pt) (by omega) W)
      have hTp := hid (fun (h : titB (s.extract pf pt) = true) => titB_pos h)
      have hw1 : wB.heap.size < S1 := by rw [hS1]; exact R1.lt
      have K2 := hid k2
      have HS1 := hid hS1
      have hrs : wr.heap.size ≤ S1 := by rw [hS1]; exact hb1.size
      have hsvS : Hid (∀ g, sv.ownBlock = some g → g < S1) := hid (fun g hg => Nat.lt_of_lt_of_le (row_lt hR.out.so g hg).2 hrs)
      have hlvS : Hid (∀ g, lv.ownBlock = some g → g < S1) := hid (fun g hg => Nat.lt_of_lt_of_le (row_lt hR.out.lo g hg).2 hrs)
      clear hSp hb1 R1 k2 hR
      go_wp2_with fail
      clear hS1
      rw [← HS1.out]
      have hlz2 : (s.extract pf pt).size ≤ 65536 := by omega
      generalize hline : s.extract pf pt = line at *
      have HLine := hid hline
      clear hline hlz
      with_reducible refine Calls.mono (hEm.out _) ?_
      rintro e W3 ⟨rfl, hb3⟩
      obtain ⟨eb, heb⟩ : ∃ eb, (trimB line).toList.isEmpty = eb := ⟨_, rfl⟩
      rw [heb]
      clear heb
      have R3 := hid (R2.out.below hb3)
      have K3 := hid (K2.out.low hb3)
      clear hEm hb3 R2 K2
      cases eb with
      | true =>
        go_wp2_with fail
        go_roundw
        case rel => exact ⟨first, false, kk + 1, L, m, xs, tv, lv, sv, rfl, rfl, by go_num, by omega, R3, hL, hid (hLs.out.skip hNx.out.1), by omega, (by intro h; cases h)⟩
        case measure => simp [RowKit.intOf]; omega
      | false =>
        by_cases hlong : 1024 < line.size
        · have hl1 : (1024 : Int) < line.size := by omega
          have hl2 : decide ((1024 : Int) < (line.size : Int)) = true := decide_eq_true hl1
          have kN : Blk W3 N 96 #[.int .i64 0, .int .i64 0] := (R3.out.low.block N (by omega)).trans K0.out
          have n0 := kN.cell (k := 0) rfl
          have n1 := kN.cell (k := 1) rfl
          have zn0 := kN.froz 0
          have zn1 := kN.froz 1
          have s0 := K3.out.cell (k := 0) rfl
          have s1 := K3.out.cell (k := 1) rfl
          have KN := hid kN
          clear kN
          go_wp2_with fail
          go_region
          all_goals
            go_wp2_with fail
            try rw [Exit.noGoto_ret]
            obtain ⟨y0, y1⟩ := cells_err KN.out (pf + 1024 : Int)
            refine bodyPost_ret (v := .tuple #[.pointer none, .agg #[.int .i64 3, .int .i64 (pf + 1024)]]) (by simp [results, Tryz.results45, go_sem, y0, y1]) rfl ⟨?_, .inl ⟨_, rfl⟩⟩
            rw [← HNN.out]
            exact (((HBB.out.trans (R3.out.low.mono (by omega))).setCell (p := ⟨N, 0, none⟩) (Nat.le_refl _) _).setCell (p := ⟨N, 1, none⟩) (Nat.le_refl _) _).drew
        have hl1 : ¬ (1024 : Int) < line.size := by omega
        have hl2 : decide ((1024 : Int) < (line.size : Int)) = false := decide_eq_false hl1
        cases hft1 : (first && titB line) with
        | true =>
          obtain ⟨rfl, htb⟩ : first = true ∧ titB line = true := by simpa using hft1
          have hpos := hTp.out htb
          rw [htb] at hTi
          have ht1 : (1 : Int) ≤ line.size := by omega
          go_wp2_with fail
          with_reducible refine Calls.mono (hTi.out _) ?_
          rintro e w' ⟨rfl, rfl⟩
          have b3 := R3.out.bp
          have p0 := b3.cell (k := 0) rfl
          have z0 := b3.froz 0
          clear hft1 b3
          go_wp2_with fail
          with_reducible refine Calls.mono (trimp24 _ _) ?_
          rintro e w' ⟨⟨t', rfl⟩, rfl⟩
          go_wp2_with fail
          go_roundw
          case rel => exact ⟨false, row, kk + 1, L, m, xs, t', lv, sv, rfl, rfl, by go_num, by omega, hid (R3.out.tit t'), hL, hid (hLs.out.skip hNx.out.1), by omega, hrow⟩
          case measure => simp [RowKit.intOf]; omega
        | false =>
          have b3 := R3.out.bp
          have p1 := b3.cell (k := 1) rfl
          have p2 := b3.cell (k := 2) rfl
          obtain ⟨lp, lc, rfl⟩ : ∃ p c, lv = .slice p L.length c := by
            rcases R3.out.lo.2 with ⟨h1, h2⟩ | ⟨g', cap', cur, h1, _⟩
            · exact ⟨none, 0, by rw [h1, h2]⟩
            · exact ⟨_, _, h1⟩
          have hgo : Hid (first = true → titB line = false) := hid (fun h => by subst h; simpa using hft1)
          clear hft1 b3
          by_cases h512 : L.length = 512
          · have e512 : ((L.length : Int) == 512) = true := by rw [h512]; rfl
            have kN : Blk W3 N 96 #[.int .i64 0, .int .i64 0] := (R3.out.low.block N (by omega)).trans K0.out
            have n0 := kN.cell (k := 0) rfl
            have n1 := kN.cell (k := 1) rfl
            have zn0 := kN.froz 0
            have zn1 := kN.froz 1
            have s0 := K3.out.cell (k := 0) rfl
            have s1 := K3.out.cell (k := 1) rfl
            have KN := hid kN
            clear kN
            cases first with
            | true =>
              rw [hgo.out rfl] at hTi
              go_wp2_with fail
              with_reducible refine Calls.mono (hTi.out _) ?_
              rintro e w' ⟨rfl, rfl⟩
              go_wp2_with fail
              go_region
              all_goals
                go_wp2_with fail
                try rw [Exit.noGoto_ret]
                obtain ⟨y0, y1⟩ := cells_err KN.out (pf : Int)
                refine bodyPost_ret (v := .tuple #[.pointer none, .agg #[.int .i64 3, .int .i64 (pf)]]) (by simp [results, Tryz.results45, go_sem, y0, y1]) rfl ⟨?_, .inl ⟨_, rfl⟩⟩
                rw [← HNN.out]
                exact (((HBB.out.trans (R3.out.low.mono (by omega))).setCell (p := ⟨N, 0, none⟩) (Nat.le_refl _) _).setCell (p := ⟨N, 1, none⟩) (Nat.le_refl _) _).drew
            | false =>
              go_wp2_with fail
              go_region
              all_goals
                go_wp2_with fail
                try rw [Exit.noGoto_ret]
                obtain ⟨y0, y1⟩ := cells_err KN.out (pf : Int)
                refine bodyPost_ret (v := .tuple #[.pointer none, .agg #[.int .i64 3, .int .i64 (pf)]]) (by simp [results, Tryz.results45, go_sem, y0, y1]) rfl ⟨?_, .inl ⟨_, rfl⟩⟩
                rw [← HNN.out]
                exact (((HBB.out.trans (R3.out.low.mono (by omega))).setCell (p := ⟨N, 0, none⟩) (Nat.le_refl _) _).setCell (p := ⟨N, 1, none⟩) (Nat.le_refl _) _).drew
          · have e512 : ((L.length : Int) == 512) = false := by simpa using (fun h => h512 (by omega) : ¬ (L.length : Int) = 512)
            have hL5 : L.length < 512 := by omega
            cases first with
            | true =>
              rw [hgo.out rfl] at hTi
              go_wp2_with fail
              with_reducible refine Calls.mono (hTi.out _) ?_
              rintro e w' ⟨rfl, rfl⟩
              clear hTi
              cases row with
              | false =>
                obtain ⟨sp, sc, rfl⟩ : ∃ p c, sv = .slice p m c := by
                  rcases R3.out.so.2 with ⟨h1, h2⟩ | ⟨g', cap', cur, h1, _⟩
                  · exact ⟨none, 0, by rw [h1, h2]⟩
                  · exact ⟨_, _, h1⟩
                go_wp2_with (at_builtin; refine stop_appW rfl ?_)
                refine hid ?_
                refine wpList_append_own_at _ rfl _ _ 133 rfl (wB.heap.size + 1) 37 i0 _ 2 16 Tryz.underlying133 hi hz0 hz1 hz2 rfl (by decide) _ _ _ rfl (R3.out.so.alloc _) ⟨W3.heap.size, 0, none⟩ 1 1 [.int .i64 L.length, .int .i64 L.length] rfl rfl (cells_new2' _ _ _ _) (by simp [Value.oneCell']) (by unfold maxLen; omega) (by omega) (by have := R3.out.lt; rw [World.size_alloc]; omega) ?_
                intro v' W7 hown' hgrow _ hblk
                obtain ⟨k7, R7⟩ := R3.out.pushs ((Below.refl _ W3).alloc (Nat.le_refl _) _) hown' hgrow hblk
                have K7 : Blk W7 S1 37 #[.int .i64 pf, .int .i64 pt] := (K3.out.alloc _).keep (Kept.grown (T := fun k => k = S1) hgrow (fun r hr e => by have := hsvS.out r hr; omega)) rfl
                obtain ⟨g7, c7, rfl⟩ := ownsRow_succ hown'
                have c72 := k7.cell (k := 2) rfl
                have z72 := k7.froz 2
                have hsv7 : Hid (∀ g, Value.ownBlock (.slice (some ⟨g7, 0, none⟩) (m + 1) c7) = some g → g ≠ S1) := hid (fun g hg e => by
                  rcases hblk with h | h
                  · rw [h] at hg; have := hsvS.out g hg; omega
                  · rw [h] at hg
                    have e2 := Option.some.inj hg
                    rw [World.size_alloc] at e2
                    have := K3.out.lt
                    omega)
                have HR7 := hid R7
                have HK7 := hid (K7.other (B' := wB.heap.size) (k := 2) (by omega) (.slice (some ⟨g7, 0, none⟩) (m + 1) c7))
                clear R7 K7 k7 hown' hgrow hblk p1 p2
                go_wp2_with fail
                generalize W7.setCell ⟨wB.heap.size, 2, none⟩ (.slice (some ⟨g7, 0, none⟩) (m + 1) c7) = W5 at *
                obtain ⟨g5, c5, q0, q1, hsv1, hg5, hg5l, x0, x1, zf, hset⟩ := HR7.out.last
                cases hsv1
                have b5 := HR7.out.bp
                have p1 := b5.cell (k := 1) rfl
                have p2 := b5.cell (k := 2) rfl
                have hmI : (m : Int) ≤ 70000 := by omega
                have hix : ((m : Int) + 1 - 1) = m := by omega
                have hix2 : (m : Int) < (m : Int) + 1 := by omega
                have hix3 : ¬ (m : Int) < 0 := by omega
                have hwm : IntKind.i64.wrap (m : Int) = m := IntWalk.i64_in _ (by omega)
                clear b5 hset
                refine C.draw_allB (by kernel_rfl) (by kernel_rfl) ?_
                repeat (refine C.bq_step (fun K hK => ?_); go_simp; refine ⟨hK _ ?_⟩; clear hK K)
                refine C.bq_nil ?_
                rintro _ ⟨dn, rfl⟩
                have R6 := hid (HR7.out.drew dn)
                have K6 : Hid (Blk (W5.drewN dn) S1 37 #[.int .i64 pf, .int .i64 pt]) := hid HK7.out
                clear p1 p2 x0 x1 zf
                generalize W5.drewN dn = W6 at *
                go_wp2_with fail
                with_reducible refine Calls.mono (hIn.out _) ?_
                rintro e W8 ⟨ni, hni, rfl, hb8⟩
                have R8 := hid (R6.out.below hb8)
                have K8 := hid (K6.out.low hb8)
                clear hb8 R6 K6 hIn
                obtain ⟨g6, c6, q2, q3, hsv2, hg6, hg6l, x0, x1, zf, hset⟩ := R8.out.last
                cases hsv2
                have b5 := R8.out.bp
                have p1 := b5.cell (k := 1) rfl
                have p2 := b5.cell (k := 2) rfl
                have s0 := K8.out.cell (k := 0) rfl
                have s1 := K8.out.cell (k := 1) rfl
                have hnI : (ni : Int) ≤ line.size := by omega
                clear b5 hset
                go_wp2_with fail
                have hxl2 : decide (ni ≤ line.size) = true := decide_eq_true hni
                have hpfI : (pf : Int) + ni ≤ 140000 := by omega
                have hbA : Below W8.heap.size W8 ((W8.alloc (.cells #[.string (line.extract ni line.size), .int .i64 ni, .int .i64 m, .int .i64 (IntKind.i64.wrap ((L.length : Int) - q2)), .int .i64 (IntKind.i64.wrap ((pf : Int) + ni)), .int .i64 pt] 136)).drew) := ((Below.refl _ W8).alloc (Nat.le_refl _) _).drew
                obtain ⟨v', W4, hrun, hown', hgrow, hnil, hblk⟩ := run_append_own_at (P := Tryz.prog) (w := (W8.alloc (.cells #[.string (line.extract ni line.size), .int .i64 ni, .int .i64 m, .int .i64 (IntKind.i64.wrap ((L.length : Int) - q2)), .int .i64 (IntKind.i64.wrap ((pf : Int) + ni)), .int .i64 pt] 136)).drew) (wB.heap.size + 1) 130 130 136 j0 _ 6 56 Tryz.underlying130 hj gz0 gz1 gz2 rfl (by decide) (.slice lp L.length lc) L.length (flatV L) ((R8.out.lo.alloc _).drew) ⟨W8.heap.size, 0, none⟩ 1 1 [.string (line.extract ni line.size), .int .i64 ni, .int .i64 m, .int .i64 (IntKind.i64.wrap ((L.length : Int) - q2)), .int .i64 (IntKind.i64.wrap ((pf : Int) + ni)), .int .i64 pt] rfl (cells_new6 _ _ _ _ _ _ _ _) (by simp [Value.oneCell']) (by unfold maxLen; omega) (by omega) (by have := R8.out.lt; have := hbA.size; omega)
                clear hnil
                obtain ⟨k7, R9⟩ := R8.out.pushl (x := ⟨line.extract ni line.size, ni, m, IntKind.i64.wrap ((L.length : Int) - q2), IntKind.i64.wrap ((pf : Int) + ni), pt⟩) hbA hown' hgrow hblk
                obtain ⟨g7', c7', rfl⟩ := P.own_shape hown'
                have hKW : Kept (fun k => k < W8.heap.size ∧ Value.ownBlock (.slice lp L.length lc) ≠ some k) W8 W4 := (Kept.of_all hbA _).trans (Kept.grown hgrow (fun r hr h => h.2 hr))
                have x0' := hKW.cell x0 ⟨hg6l, fun e => R8.out.ne _ e rfl⟩
                have K9 : Blk W4 S1 37 #[.int .i64 pf, .int .i64 pt] := K8.out.keep hKW ⟨K8.out.lt, fun e => by have := hlvS.out _ e; omega⟩
                have n1 := k7.cell (k := 1) rfl
                have n2 := k7.cell (k := 2) rfl
                have zn1 := k7.froz 1
                have s0' := K9.cell (k := 0) rfl
                have s1' := K9.cell (k := 1) rfl
                have HRun := hid hrun
                have hBl : wB.heap.size < W8.heap.size := R8.out.lt
                have hSl : S1 < W8.heap.size := K8.out.lt
                have HR9 := hid R9
                clear hrun hown' hgrow hblk k7 R9 hKW K9 hbA
                refine P.two_tail (W1 := (W8.alloc (.cells #[.string (line.extract ni line.size), .int .i64 ni, .int .i64 m, .int .i64 (IntKind.i64.wrap ((L.length : Int) - q2)), .int .i64 (IntKind.i64.wrap ((pf : Int) + ni)), .int .i64 pt] 136)).drew) (W2 := W4) 33 31 32 (by kernel_rfl) (by kernel_rfl) ?_
                simp only [List.take_succ_cons, List.take_zero, List.drop_succ_cons, List.drop_zero]
                refine P.wpE_step (fun K hK => ?_); go_simp; refine hK _ ?_; clear hK K
                refine P.wpE_step (fun K hK => ?_); go_simp; refine hK _ ?_; clear hK K
                refine P.wpE_step (fun K hK => ?_); go_simp; refine hK _ ?_; clear hK K
                refine P.wpE_step (fun K hK => ?_); go_simp; refine hK _ ?_; clear hK K
                refine P.wpE_step (fun K hK => ?_); go_simp; refine hK _ ?_; clear hK K
                refine P.wpE_step (fun K hK => ?_); go_simp; refine hK _ ?_; clear hK K
                refine P.wpE_step (fun K hK => ?_); go_simp; refine hK _ ?_; clear hK K
                refine P.wpE_step (fun K hK => ?_); go_simp; refine hK _ ?_; clear hK K
                refine P.wpE_step (fun K hK => ?_); go_simp; refine hK _ ?_; clear hK K
                refine P.wpE_step (fun K hK => ?_); go_simp; refine hK _ ?_; clear hK K
                refine P.wpE_step (fun K hK => ?_); go_simp; refine hK _ ?_; clear hK K
                refine P.wpE_step (fun K hK => ?_); go_simp; refine hK _ ?_; clear hK K
                refine P.wpE_step (fun K hK => ?_); go_simp; refine hK _ ?_; clear hK K
                refine P.wpE_step (fun K hK => ?_); go_simp; refine hK _ ?_; clear hK K
                refine P.wpE_step (fun K hK => ?_); go_simp; refine hK _ ?_; clear hK K
                refine P.wpE_step (fun K hK => ?_); go_simp; refine hK _ ?_; clear hK K
                refine P.wpE_step (fun K hK => ?_); go_simp; refine hK _ ?_; clear hK K
                refine P.wpE_step (fun K hK => ?_); go_simp; refine hK _ ?_; clear hK K
                refine P.wpE_step (fun K hK => ?_); go_simp; refine hK _ ?_; clear hK K
                refine P.wpE_step (fun K hK => ?_); go_simp; refine hK _ ?_; clear hK K
                refine P.wpE_step (fun K hK => ?_); go_simp; refine hK _ ?_; clear hK K
                refine P.wpE_step (fun K hK => ?_); go_simp; refine hK _ ?_; clear hK K
                refine P.wpE_step (fun K hK => ?_); go_simp; refine hK _ ?_; clear hK K
                refine P.wpE_step (fun K hK => ?_); go_simp; refine hK _ ?_; clear hK K
                refine P.wpE_step (fun K hK => ?_); go_simp; refine hK _ ?_; clear hK K
                refine P.wpE_step (fun K hK => ?_); go_simp; refine hK _ ?_; clear hK K
                refine P.wpE_step (fun K hK => ?_); go_simp; refine hK _ ?_; clear hK K
                refine P.wpE_step (fun K hK => ?_); go_simp; refine hK _ ?_; clear hK K
                refine P.wpE_step (fun K hK => ?_); go_simp; refine hK _ ?_; clear hK K
                refine P.wpE_step (fun K hK => ?_); go_simp; refine hK _ ?_; clear hK K
                refine P.wpE_step (fun K hK => ?_); go_simp; refine hK _ ?_; clear hK K
                refine P.wpE_step (fun K hK => ?_); go_simp; refine hK _ ?_; clear hK K
                refine P.wpE_step (fun K hK => ?_)
                refine ⟨_, .inl ⟨rfl, fun h => absurd h (by decide), fun _ => P.append_run (s := .tmp 124) (x := .tmp 150) rfl rfl rfl HRun.out, fun _ h => absurd rfl h⟩, hK _ ?_⟩
                clear hK K
                refine P.wpE_nil ?_
                clear HRun
                rename_i hKK
                have HCont := hid hKK
                clear hKK
                go_wp2_with fail
                generalize W4.setCell ⟨wB.heap.size, 1, none⟩ (.slice (some ⟨g7', 0, none⟩) (L.length + 1) c7') = W9 at *
                refine HCont.out _ _ ?_
                clear HCont n1 n2 zn1 s0' s1' x0' p1 p2 s0 s1 x0 x1 zf
                obtain ⟨g8, c8, q4, q5, hsv3, hg8, hg8l, y0, y1, yz, hset9⟩ := HR9.out.last
                cases hsv3
                have HSET := hid hset9
                clear hset9
                go_wp2_with fail
                go_roundw
                case rel => exact ⟨false, true, kk + 1, L ++ [⟨line.extract ni line.size, ni, m, IntKind.i64.wrap ((L.length : Int) - q2), IntKind.i64.wrap ((pf : Int) + ni), pt⟩], m + 1, _, tv, _, _, rfl, rfl, by go_num, by omega, hid (HSET.out _), by rw [List.length_append, List.length_singleton]; omega, hid (hLs.out.push HLine.out (by omega) hNx.out.2 (by omega) hni (by omega) hs _ _ _), by omega, fun _ => by omega⟩
                case measure => simp [RowKit.intOf]; omega
              | true =>
                obtain ⟨mm, rfl⟩ : ∃ mm, m = mm + 1 := ⟨m - 1, by have := hrow rfl; omega⟩
                obtain ⟨g5, c5, q0, q1, hsv1, hg5, hg5l, x0, x1, zf, hset⟩ := R3.out.last
                cases hsv1
                have b5 := R3.out.bp
                have p1 := b5.cell (k := 1) rfl
                have p2 := b5.cell (k := 2) rfl
                have hmI : (mm : Int) ≤ 70000 := by omega
                have hix : ((mm : Int) + 1 - 1) = mm := by omega
                have hix2 : (mm : Int) < (mm : Int) + 1 := by omega
                have hix3 : ¬ (mm : Int) < 0 := by omega
                have hwm : IntKind.i64.wrap (mm : Int) = mm := IntWalk.i64_in _ (by omega)
                clear b5 hset
                go_wp2_with fail
                refine C.draw_allB (by kernel_rfl) (by kernel_rfl) ?_
                repeat (refine C.bq_step (fun K hK => ?_); go_simp; refine ⟨hK _ ?_⟩; clear hK K)
                refine C.bq_nil ?_
                rintro _ ⟨dn, rfl⟩
                have R6 := hid (R3.out.drew dn)
                have K6 : Hid (Blk (W3.drewN dn) S1 37 #[.int .i64 pf, .int .i64 pt]) := hid K3.out
                clear p1 p2 x0 x1 zf
                generalize W3.drewN dn = W6 at *
                go_wp2_with fail
                with_reducible refine Calls.mono (hIn.out _) ?_
                rintro e W8 ⟨ni, hni, rfl, hb8⟩
                have R8 := hid (R6.out.below hb8)
                have K8 := hid (K6.out.low hb8)
                clear hb8 R6 K6 hIn
                obtain ⟨g6, c6, q2, q3, hsv2, hg6, hg6l, x0, x1, zf, hset⟩ := R8.out.last
                cases hsv2
                have b5 := R8.out.bp
                have p1 := b5.cell (k := 1) rfl
                have p2 := b5.cell (k := 2) rfl
                have s0 := K8.out.cell (k := 0) rfl
                have s1 := K8.out.cell (k := 1) rfl
                have hnI : (ni : Int) ≤ line.size := by omega
                clear b5 hset
                go_wp2_with fail
                have hxl2 : decide (ni ≤ line.size) = true := decide_eq_true hni
                have hpfI : (pf : Int) + ni ≤ 140000 := by omega
                have hbA : Below W8.heap.size W8 ((W8.alloc (.cells #[.string (line.extract ni line.size), .int .i64 ni, .int .i64 mm, .int .i64 (IntKind.i64.wrap ((L.length : Int) - q2)), .int .i64 (IntKind.i64.wrap ((pf : Int) + ni)), .int .i64 pt] 136)).drew) := ((Below.refl _ W8).alloc (Nat.le_refl _) _).drew
                obtain ⟨v', W4, hrun, hown', hgrow, hnil, hblk⟩ := run_append_own_at (P := Tryz.prog) (w := (W8.alloc (.cells #[.string (line.extract ni line.size), .int .i64 ni, .int .i64 mm, .int .i64 (IntKind.i64.wrap ((L.length : Int) - q2)), .int .i64 (IntKind.i64.wrap ((pf : Int) + ni)), .int .i64 pt] 136)).drew) (wB.heap.size + 1) 130 130 136 j0 _ 6 56 Tryz.underlying130 hj gz0 gz1 gz2 rfl (by decide) (.slice lp L.length lc) L.length (flatV L) ((R8.out.lo.alloc _).drew) ⟨W8.heap.size, 0, none⟩ 1 1 [.string (line.extract ni line.size), .int .i64 ni, .int .i64 mm, .int .i64 (IntKind.i64.wrap ((L.length : Int) - q2)), .int .i64 (IntKind.i64.wrap ((pf : Int) + ni)), .int .i64 pt] rfl (cells_new6 _ _ _ _ _ _ _ _) (by simp [Value.oneCell']) (by unfold maxLen; omega) (by omega) (by have := R8.out.lt; have := hbA.size; omega)
                clear hnil
                obtain ⟨k7, R9⟩ := R8.out.pushl (x := ⟨line.extract ni line.size, ni, mm, IntKind.i64.wrap ((L.length : Int) - q2), IntKind.i64.wrap ((pf : Int) + ni), pt⟩) hbA hown' hgrow hblk
                obtain ⟨g7', c7', rfl⟩ := P.own_shape hown'
                have hKW : Kept (fun k => k < W8.heap.size ∧ Value.ownBlock (.slice lp L.length lc) ≠ some k) W8 W4 := (Kept.of_all hbA _).trans (Kept.grown hgrow (fun r hr h => h.2 hr))
                have x0' := hKW.cell x0 ⟨hg6l, fun e => R8.out.ne _ e rfl⟩
                have K9 : Blk W4 S1 37 #[.int .i64 pf, .int .i64 pt] := K8.out.keep hKW ⟨K8.out.lt, fun e => by have := hlvS.out _ e; omega⟩
                have n1 := k7.cell (k := 1) rfl
                have n2 := k7.cell (k := 2) rfl
                have zn1 := k7.froz 1
                have s0' := K9.cell (k := 0) rfl
                have s1' := K9.cell (k := 1) rfl
                have HRun := hid hrun
                have hBl : wB.heap.size < W8.heap.size := R8.out.lt
                have hSl : S1 < W8.heap.size := K8.out.lt
                have HR9 := hid R9
                clear hrun hown' hgrow hblk k7 R9 hKW K9 hbA
                refine P.two_tail (W1 := (W8.alloc (.cells #[.string (line.extract ni line.size), .int .i64 ni, .int .i64 mm, .int .i64 (IntKind.i64.wrap ((L.length : Int) - q2)), .int .i64 (IntKind.i64.wrap ((pf : Int) + ni)), .int .i64 pt] 136)).drew) (W2 := W4) 33 31 32 (by kernel_rfl) (by kernel_rfl) ?_
                simp only [List.take_succ_cons, List.take_zero, List.drop_succ_cons, List.drop_zero]
                refine P.wpE_step (fun K hK => ?_); go_simp; refine hK _ ?_; clear hK K
                refine P.wpE_step (fun K hK => ?_); go_simp; refine hK _ ?_; clear hK K
                refine P.wpE_step (fun K hK => ?_); go_simp; refine hK _ ?_; clear hK K
                refine P.wpE_step (fun K hK => ?_); go_simp; refine hK _ ?_; clear hK K
                refine P.wpE_step (fun K hK => ?_); go_simp; refine hK _ ?_; clear hK K
                refine P.wpE_step (fun K hK => ?_); go_simp; refine hK _ ?_; clear hK K
                refine P.wpE_step (fun K hK => ?_); go_simp; refine hK _ ?_; clear hK K
                refine P.wpE_step (fun K hK => ?_); go_simp; refine hK _ ?_; clear hK K
                refine P.wpE_step (fun K hK => ?_); go_simp; refine hK _ ?_; clear hK K
                refine P.wpE_step (fun K hK => ?_); go_simp; refine hK _ ?_; clear hK K
                refine P.wpE_step (fun K hK => ?_); go_simp; refine hK _ ?_; clear hK K
                refine P.wpE_step (fun K hK => ?_); go_simp; refine hK _ ?_; clear hK K
                refine P.wpE_step (fun K hK => ?_); go_simp; refine hK _ ?_; clear hK K
                refine P.wpE_step (fun K hK => ?_); go_simp; refine hK _ ?_; clear hK K
                refine P.wpE_step (fun K hK => ?_); go_simp; refine hK _ ?_; clear hK K
                refine P.wpE_step (fun K hK => ?_); go_simp; refine hK _ ?_; clear hK K
                refine P.wpE_step (fun K hK => ?_); go_simp; refine hK _ ?_; clear hK K
                refine P.wpE_step (fun K hK => ?_); go_simp; refine hK _ ?_; clear hK K
                refine P.wpE_step (fun K hK => ?_); go_simp; refine hK _ ?_; clear hK K
                refine P.wpE_step (fun K hK => ?_); go_simp; refine hK _ ?_; clear hK K
                refine P.wpE_step (fun K hK => ?_); go_simp; refine hK _ ?_; clear hK K
                refine P.wpE_step (fun K hK => ?_); go_simp; refine hK _ ?_; clear hK K
                refine P.wpE_step (fun K hK => ?_); go_simp; refine hK _ ?_; clear hK K
                refine P.wpE_step (fun K hK => ?_); go_simp; refine hK _ ?_; clear hK K
                refine P.wpE_step (fun K hK => ?_); go_simp; refine hK _ ?_; clear hK K
                refine P.wpE_step (fun K hK => ?_); go_simp; refine hK _ ?_; clear hK K
                refine P.wpE_step (fun K hK => ?_); go_simp; refine hK _ ?_; clear hK K
                refine P.wpE_step (fun K hK => ?_); go_simp; refine hK _ ?_; clear hK K
                refine P.wpE_step (fun K hK => ?_); go_simp; refine hK _ ?_; clear hK K
                refine P.wpE_step (fun K hK => ?_); go_simp; refine hK _ ?_; clear hK K
                refine P.wpE_step (fun K hK => ?_); go_simp; refine hK _ ?_; clear hK K
                refine P.wpE_step (fun K hK => ?_); go_simp; refine hK _ ?_; clear hK K
                refine P.wpE_step (fun K hK => ?_)
                refine ⟨_, .inl ⟨rfl, fun h => absurd h (by decide), fun _ => P.append_run (s := .tmp 124) (x := .tmp 150) rfl rfl rfl HRun.out, fun _ h => absurd rfl h⟩, hK _ ?_⟩
                clear hK K
                refine P.wpE_nil ?_
                clear HRun
                rename_i hKK
                have HCont := hid hKK
                clear hKK
                go_wp2_with fail
                generalize W4.setCell ⟨wB.heap.size, 1, none⟩ (.slice (some ⟨g7', 0, none⟩) (L.length + 1) c7') = W9 at *
                refine HCont.out _ _ ?_
                clear HCont n1 n2 zn1 s0' s1' x0' p1 p2 s0 s1 x0 x1 zf
                obtain ⟨g8, c8, q4, q5, hsv3, hg8, hg8l, y0, y1, yz, hset9⟩ := HR9.out.last
                cases hsv3
                have HSET := hid hset9
                clear hset9
                go_wp2_with fail
                go_roundw
                case rel => exact ⟨false, true, kk + 1, L ++ [⟨line.extract ni line.size, ni, mm, IntKind.i64.wrap ((L.length : Int) - q2), IntKind.i64.wrap ((pf : Int) + ni), pt⟩], mm + 1, _, tv, _, _, rfl, rfl, by go_num, by omega, hid (HSET.out _), by rw [List.length_append, List.length_singleton]; omega, hid (hLs.out.push HLine.out (by omega) hNx.out.2 (by omega) hni (by omega) hs _ _ _), by omega, fun _ => by omega⟩
                case measure => simp [RowKit.intOf]; omega
            | false =>
              clear hTi
              cases row with
              | false =>
                obtain ⟨sp, sc, rfl⟩ : ∃ p c, sv = .slice p m c := by
                  rcases R3.out.so.2 with ⟨h1, h2⟩ | ⟨g', cap', cur, h1, _⟩
                  · exact ⟨none, 0, by rw [h1, h2]⟩
                  · exact ⟨_, _, h1⟩
                go_wp2_with (at_builtin; refine stop_appW rfl ?_)
                refine hid ?_
                refine wpList_append_own_at _ rfl _ _ 133 rfl (wB.heap.size + 1) 37 i0 _ 2 16 Tryz.underlying133 hi hz0 hz1 hz2 rfl (by decide) _ _ _ rfl (R3.out.so.alloc _) ⟨W3.heap.size, 0, none⟩ 1 1 [.int .i64 L.length, .int .i64 L.length] rfl rfl (cells_new2' _ _ _ _) (by simp [Value.oneCell']) (by unfold maxLen; omega) (by omega) (by have := R3.out.lt; rw [World.size_alloc]; omega) ?_
                intro v' W7 hown' hgrow _ hblk
                obtain ⟨k7, R7⟩ := R3.out.pushs ((Below.refl _ W3).alloc (Nat.le_refl _) _) hown' hgrow hblk
                have K7 : Blk W7 S1 37 #[.int .i64 pf, .int .i64 pt] := (K3.out.alloc _).keep (Kept.grown (T := fun k => k = S1) hgrow (fun r hr e => by have := hsvS.out r hr; omega)) rfl
                obtain ⟨g7, c7, rfl⟩ := ownsRow_succ hown'
                have c72 := k7.cell (k := 2) rfl
                have z72 := k7.froz 2
                have hsv7 : Hid (∀ g, Value.ownBlock (.slice (some ⟨g7, 0, none⟩) (m + 1) c7) = some g → g ≠ S1) := hid (fun g hg e => by
                  rcases hblk with h | h
                  · rw [h] at hg; have := hsvS.out g hg; omega
                  · rw [h] at hg
                    have e2 := Option.some.inj hg
                    rw [World.size_alloc] at e2
                    have := K3.out.lt
                    omega)
                have HR7 := hid R7
                have HK7 := hid (K7.other (B' := wB.heap.size) (k := 2) (by omega) (.slice (some ⟨g7, 0, none⟩) (m + 1) c7))
                clear R7 K7 k7 hown' hgrow hblk p1 p2
                go_wp2_with fail
                generalize W7.setCell ⟨wB.heap.size, 2, none⟩ (.slice (some ⟨g7, 0, none⟩) (m + 1) c7) = W5 at *
                obtain ⟨g5, c5, q0, q1, hsv1, hg5, hg5l, x0, x1, zf, hset⟩ := HR7.out.last
                cases hsv1
                have b5 := HR7.out.bp
                have p1 := b5.cell (k := 1) rfl
                have p2 := b5.cell (k := 2) rfl
                have hmI : (m : Int) ≤ 70000 := by omega
                have hix : ((m : Int) + 1 - 1) = m := by omega
                have hix2 : (m : Int) < (m : Int) + 1 := by omega
                have hix3 : ¬ (m : Int) < 0 := by omega
                have hwm : IntKind.i64.wrap (m : Int) = m := IntWalk.i64_in _ (by omega)
                clear b5 hset
                refine C.draw_allB (by kernel_rfl) (by kernel_rfl) ?_
                repeat (refine C.bq_step (fun K hK => ?_); go_simp; refine ⟨hK _ ?_⟩; clear hK K)
                refine C.bq_nil ?_
                rintro _ ⟨dn, rfl⟩
                have R6 := hid (HR7.out.drew dn)
                have K6 : Hid (Blk (W5.drewN dn) S1 37 #[.int .i64 pf, .int .i64 pt]) := hid HK7.out
                clear p1 p2 x0 x1 zf
                generalize W5.drewN dn = W6 at *
                go_wp2_with fail
                with_reducible refine Calls.mono (hIn.out _) ?_
                rintro e W8 ⟨ni, hni, rfl, hb8⟩
                have R8 := hid (R6.out.below hb8)
                have K8 := hid (K6.out.low hb8)
                clear hb8 R6 K6 hIn
                obtain ⟨g6, c6, q2, q3, hsv2, hg6, hg6l, x0, x1, zf, hset⟩ := R8.out.last
                cases hsv2
                have b5 := R8.out.bp
                have p1 := b5.cell (k := 1) rfl
                have p2 := b5.cell (k := 2) rfl
                have s0 := K8.out.cell (k := 0) rfl
                have s1 := K8.out.cell (k := 1) rfl
                have hnI : (ni : Int) ≤ line.size := by omega
                clear b5 hset
                go_wp2_with fail
                have hxl2 : decide (ni ≤ line.size) = true := decide_eq_true hni
                have hpfI : (pf : Int) + ni ≤ 140000 := by omega
                have hbA : Below W8.heap.size W8 ((W8.alloc (.cells #[.string (line.extract ni line.size), .int .i64 ni, .int .i64 m, .int .i64 (IntKind.i64.wrap ((L.length : Int) - q2)), .int .i64 (IntKind.i64.wrap ((pf : Int) + ni)), .int .i64 pt] 136)).drew) := ((Below.refl _ W8).alloc (Nat.le_refl _) _).drew
                obtain ⟨v', W4, hrun, hown', hgrow, hnil, hblk⟩ := run_append_own_at (P := Tryz.prog) (w := (W8.alloc (.cells #[.string (line.extract ni line.size), .int .i64 ni, .int .i64 m, .int .i64 (IntKind.i64.wrap ((L.length : Int) - q2)), .int .i64 (IntKind.i64.wrap ((pf : Int) + ni)), .int .i64 pt] 136)).drew) (wB.heap.size + 1) 130 130 136 j0 _ 6 56 Tryz.underlying130 hj gz0 gz1 gz2 rfl (by decide) (.slice lp L.length lc) L.length (flatV L) ((R8.out.lo.alloc _).drew) ⟨W8.heap.size, 0, none⟩ 1 1 [.string (line.extract ni line.size), .int .i64 ni, .int .i64 m, .int .i64 (IntKind.i64.wrap ((L.length : Int) - q2)), .int .i64 (IntKind.i64.wrap ((pf : Int) + ni)), .int .i64 pt] rfl (cells_new6 _ _ _ _ _ _ _ _) (by simp [Value.oneCell']) (by unfold maxLen; omega) (by omega) (by have := R8.out.lt; have := hbA.size; omega)
                clear hnil
                obtain ⟨k7, R9⟩ := R8.out.pushl (x := ⟨line.extract ni line.size, ni, m, IntKind.i64.wrap ((L.length : Int) - q2), IntKind.i64.wrap ((pf : Int) + ni), pt⟩) hbA hown' hgrow hblk
                obtain ⟨g7', c7', rfl⟩ := P.own_shape hown'
                have hKW : Kept (fun k => k < W8.heap.size ∧ Value.ownBlock (.slice lp L.length lc) ≠ some k) W8 W4 := (Kept.of_all hbA _).trans (Kept.grown hgrow (fun r hr h => h.2 hr))
                have x0' := hKW.cell x0 ⟨hg6l, fun e => R8.out.ne _ e rfl⟩
                have K9 : Blk W4 S1 37 #[.int .i64 pf, .int .i64 pt] := K8.out.keep hKW ⟨K8.out.lt, fun e => by have := hlvS.out _ e; omega⟩
                have n1 := k7.cell (k := 1) rfl
                have n2 := k7.cell (k := 2) rfl
                have zn1 := k7.froz 1
                have s0' := K9.cell (k := 0) rfl
                have s1' := K9.cell (k := 1) rfl
                have HRun := hid hrun
                have hBl : wB.heap.size < W8.heap.size := R8.out.lt
                have hSl : S1 < W8.heap.size := K8.out.lt
                have HR9 := hid R9
                clear hrun hown' hgrow hblk k7 R9 hKW K9 hbA
                refine P.two_tail (W1 := (W8.alloc (.cells #[.string (line.extract ni line.size), .int .i64 ni, .int .i64 m, .int .i64 (IntKind.i64.wrap ((L.length : Int) - q2)), .int .i64 (IntKind.i64.wrap ((pf : Int) + ni)), .int .i64 pt] 136)).drew) (W2 := W4) 33 31 32 (by kernel_rfl) (by kernel_rfl) ?_
                simp only [List.take_succ_cons, List.take_zero, List.drop_succ_cons, List.drop_zero]
                refine P.wpE_step (fun K hK => ?_); go_simp; refine hK _ ?_; clear hK K
                refine P.wpE_step (fun K hK => ?_); go_simp; refine hK _ ?_; clear hK K
                refine P.wpE_step (fun K hK => ?_); go_simp; refine hK _ ?_; clear hK K
                refine P.wpE_step (fun K hK => ?_); go_simp; refine hK _ ?_; clear hK K
                refine P.wpE_step (fun K hK => ?_); go_simp; refine hK _ ?_; clear hK K
                refine P.wpE_step (fun K hK => ?_); go_simp; refine hK _ ?_; clear hK K
                refine P.wpE_step (fun K hK => ?_); go_simp; refine hK _ ?_; clear hK K
                refine P.wpE_step (fun K hK => ?_); go_simp; refine hK _ ?_; clear hK K
                refine P.wpE_step (fun K hK => ?_); go_simp; refine hK _ ?_; clear hK K
                refine P.wpE_step (fun K hK => ?_); go_simp; refine hK _ ?_; clear hK K
                refine P.wpE_step (fun K hK => ?_); go_simp; refine hK _ ?_; clear hK K
                refine P.wpE_step (fun K hK => ?_); go_simp; refine hK _ ?_; clear hK K
                refine P.wpE_step (fun K hK => ?_); go_simp; refine hK _ ?_; clear hK K
                refine P.wpE_step (fun K hK => ?_); go_simp; refine hK _ ?_; clear hK K
                refine P.wpE_step (fun K hK => ?_); go_simp; refine hK _ ?_; clear hK K
                refine P.wpE_step (fun K hK => ?_); go_simp; refine hK _ ?_; clear hK K
                refine P.wpE_step (fun K hK => ?_); go_simp; refine hK _ ?_; clear hK K
                refine P.wpE_step (fun K hK => ?_); go_simp; refine hK _ ?_; clear hK K
                refine P.wpE_step (fun K hK => ?_); go_simp; refine hK _ ?_; clear hK K
                refine P.wpE_step (fun K hK => ?_); go_simp; refine hK _ ?_; clear hK K
                refine P.wpE_step (fun K hK => ?_); go_simp; refine hK _ ?_; clear hK K
                refine P.wpE_step (fun K hK => ?_); go_simp; refine hK _ ?_; clear hK K
                refine P.wpE_step (fun K hK => ?_); go_simp; refine hK _ ?_; clear hK K
                refine P.wpE_step (fun K hK => ?_); go_simp; refine hK _ ?_; clear hK K
                refine P.wpE_step (fun K hK => ?_); go_simp; refine hK _ ?_; clear hK K
                refine P.wpE_step (fun K hK => ?_); go_simp; refine hK _ ?_; clear hK K
                refine P.wpE_step (fun K hK => ?_); go_simp; refine hK _ ?_; clear hK K
                refine P.wpE_step (fun K hK => ?_); go_simp; refine hK _ ?_; clear hK K
                refine P.wpE_step (fun K hK => ?_); go_simp; refine hK _ ?_; clear hK K
                refine P.wpE_step (fun K hK => ?_); go_simp; refine hK _ ?_; clear hK K
                refine P.wpE_step (fun K hK => ?_); go_simp; refine hK _ ?_; clear hK K
                refine P.wpE_step (fun K hK => ?_); go_simp; refine hK _ ?_; clear hK K
                refine P.wpE_step (fun K hK => ?_)
                refine ⟨_, .inl ⟨rfl, fun h => absurd h (by decide), fun _ => P.append_run (s := .tmp 124) (x := .tmp 150) rfl rfl rfl HRun.out, fun _ h => absurd rfl h⟩, hK _ ?_⟩
                clear hK K
                refine P.wpE_nil ?_
                clear HRun
                rename_i hKK
                have HCont := hid hKK
                clear hKK
                go_wp2_with fail
                generalize W4.setCell ⟨wB.heap.size, 1, none⟩ (.slice (some ⟨g7', 0, none⟩) (L.length + 1) c7') = W9 at *
                refine HCont.out _ _ ?_
                clear HCont n1 n2 zn1 s0' s1' x0' p1 p2 s0 s1 x0 x1 zf
                obtain ⟨g8, c8, q4, q5, hsv3, hg8, hg8l, y0, y1, yz, hset9⟩ := HR9.out.last
                cases hsv3
                have HSET := hid hset9
                clear hset9
                go_wp2_with fail
                go_roundw
                case rel => exact ⟨false, true, kk + 1, L ++ [⟨line.extract ni line.size, ni, m, IntKind.i64.wrap ((L.length : Int) - q2), IntKind.i64.wrap ((pf : Int) + ni), pt⟩], m + 1, _, tv, _, _, rfl, rfl, by go_num, by omega, hid (HSET.out _), by rw [List.length_append, List.length_singleton]; omega, hid (hLs.out.push HLine.out (by omega) hNx.out.2 (by omega) hni (by omega) hs _ _ _), by omega, fun _ => by omega⟩
                case measure => simp [RowKit.intOf]; omega
              | true =>
                obtain ⟨mm, rfl⟩ : ∃ mm, m = mm + 1 := ⟨m - 1, by have := hrow rfl; omega⟩
                obtain ⟨g5, c5, q0, q1, hsv1, hg5, hg5l, x0, x1, zf, hset⟩ := R3.out.last
                cases hsv1
                have b5 := R3.out.bp
                have p1 := b5.cell (k := 1) rfl
                have p2 := b5.cell (k := 2) rfl
                have hmI : (mm : Int) ≤ 70000 := by omega
                have hix : ((mm : Int) + 1 - 1) = mm := by omega
                have hix2 : (mm : Int) < (mm : Int) + 1 := by omega
                have hix3 : ¬ (mm : Int) < 0 := by omega
                have hwm : IntKind.i64.wrap (mm : Int) = mm := IntWalk.i64_in _ (by omega)
                clear b5 hset
                go_wp2_with fail
                refine C.draw_allB (by kernel_rfl) (by kernel_rfl) ?_
                repeat (refine C.bq_step (fun K hK => ?_); go_simp; refine ⟨hK _ ?_⟩; clear hK K)
                refine C.bq_nil ?_
                rintro _ ⟨dn, rfl⟩
                have R6 := hid (R3.out.drew dn)
                have K6 : Hid (Blk (W3.drewN dn) S1 37 #[.int .i64 pf, .int .i64 pt]) := hid K3.out
                clear p1 p2 x0 x1 zf
                generalize W3.drewN dn = W6 at *
                go_wp2_with fail
                with_reducible refine Calls.mono (hIn.out _) ?_
                rintro e W8 ⟨ni, hni, rfl, hb8⟩
                have R8 := hid (R6.out.below hb8)
                have K8 := hid (K6.out.low hb8)
                clear hb8 R6 K6 hIn
                obtain ⟨g6, c6, q2, q3, hsv2, hg6, hg6l, x0, x1, zf, hset⟩ := R8.out.last
                cases hsv2
                have b5 := R8.out.bp
                have p1 := b5.cell (k := 1) rfl
                have p2 := b5.cell (k := 2) rfl
                have s0 := K8.out.cell (k := 0) rfl
                have s1 := K8.out.cell (k := 1) rfl
                have hnI : (ni : Int) ≤ line.size := by omega
                clear b5 hset
                go_wp2_with fail
                have hxl2 : decide (ni ≤ line.size) = true := decide_eq_true hni
                have hpfI : (pf : Int) + ni ≤ 140000 := by omega
                have hbA : Below W8.heap.size W8 ((W8.alloc (.cells #[.string (line.extract ni line.size), .int .i64 ni, .int .i64 mm, .int .i64 (IntKind.i64.wrap ((L.length : Int) - q2)), .int .i64 (IntKind.i64.wrap ((pf : Int) + ni)), .int .i64 pt] 136)).drew) := ((Below.refl _ W8).alloc (Nat.le_refl _) _).drew
                obtain ⟨v', W4, hrun, hown', hgrow, hnil, hblk⟩ := run_append_own_at (P := Tryz.prog) (w := (W8.alloc (.cells #[.string (line.extract ni line.size), .int .i64 ni, .int .i64 mm, .int .i64 (IntKind.i64.wrap ((L.length : Int) - q2)), .int .i64 (IntKind.i64.wrap ((pf : Int) + ni)), .int .i64 pt] 136)).drew) (wB.heap.size + 1) 130 130 136 j0 _ 6 56 Tryz.underlying130 hj gz0 gz1 gz2 rfl (by decide) (.slice lp L.length lc) L.length (flatV L) ((R8.out.lo.alloc _).drew) ⟨W8.heap.size, 0, none⟩ 1 1 [.string (line.extract ni line.size), .int .i64 ni, .int .i64 mm, .int .i64 (IntKind.i64.wrap ((L.length : Int) - q2)), .int .i64 (IntKind.i64.wrap ((pf : Int) + ni)), .int .i64 pt] rfl (cells_new6 _ _ _ _ _ _ _ _) (by simp [Value.oneCell']) (by unfold maxLen; omega) (by omega) (by have := R8.out.lt; have := hbA.size; omega)
                clear hnil
                obtain ⟨k7, R9⟩ := R8.out.pushl (x := ⟨line.extract ni line.size, ni, mm, IntKind.i64.wrap ((L.length : Int) - q2), IntKind.i64.wrap ((pf : Int) + ni), pt⟩) hbA hown' hgrow hblk
                obtain ⟨g7', c7', rfl⟩ := P.own_shape hown'
                have hKW : Kept (fun k => k < W8.heap.size ∧ Value.ownBlock (.slice lp L.length lc) ≠ some k) W8 W4 := (Kept.of_all hbA _).trans (Kept.grown hgrow (fun r hr h => h.2 hr))
                have x0' := hKW.cell x0 ⟨hg6l, fun e => R8.out.ne _ e rfl⟩
                have K9 : Blk W4 S1 37 #[.int .i64 pf, .int .i64 pt] := K8.out.keep hKW ⟨K8.out.lt, fun e => by have := hlvS.out _ e; omega⟩
                have n1 := k7.cell (k := 1) rfl
                have n2 := k7.cell (k := 2) rfl
                have zn1 := k7.froz 1
                have s0' := K9.cell (k := 0) rfl
                have s1' := K9.cell (k := 1) rfl
                have HRun := hid hrun
                have hBl : wB.heap.size < W8.heap.size := R8.out.lt
                have hSl : S1 < W8.heap.size := K8.out.lt
                have HR9 := hid R9
                clear hrun hown' hgrow hblk k7 R9 hKW K9 hbA
                refine P.two_tail (W1 := (W8.alloc (.cells #[.string (line.extract ni line.size), .int .i64 ni, .int .i64 mm, .int .i64 (IntKind.i64.wrap ((L.length : Int) - q2)), .int .i64 (IntKind.i64.wrap ((pf : Int) + ni)), .int .i64 pt] 136)).drew) (W2 := W4) 33 31 32 (by kernel_rfl) (by kernel_rfl) ?_
                simp only [List.take_succ_cons, List.take_zero, List.drop_succ_cons, List.drop_zero]
                refine P.wpE_step (fun K hK => ?_); go_simp; refine hK _ ?_; clear hK K
                refine P.wpE_step (fun K hK => ?_); go_simp; refine hK _ ?_; clear hK K
                refine P.wpE_step (fun K hK => ?_); go_simp; refine hK _ ?_; clear hK K
                refine P.wpE_step (fun K hK => ?_); go_simp; refine hK _ ?_; clear hK K
                refine P.wpE_step (fun K hK => ?_); go_simp; refine hK _ ?_; clear hK K
                refine P.wpE_step (fun K hK => ?_); go_simp; refine hK _ ?_; clear hK K
                refine P.wpE_step (fun K hK => ?_); go_simp; refine hK _ ?_; clear hK K
                refine P.wpE_step (fun K hK => ?_); go_simp; refine hK _ ?_; clear hK K
                refine P.wpE_step (fun K hK => ?_); go_simp; refine hK _ ?_; clear hK K
                refine P.wpE_step (fun K hK => ?_); go_simp; refine hK _ ?_; clear hK K
                refine P.wpE_step (fun K hK => ?_); go_simp; refine hK _ ?_; clear hK K
                refine P.wpE_step (fun K hK => ?_); go_simp; refine hK _ ?_; clear hK K
                refine P.wpE_step (fun K hK => ?_); go_simp; refine hK _ ?_; clear hK K
                refine P.wpE_step (fun K hK => ?_); go_simp; refine hK _ ?_; clear hK K
                refine P.wpE_step (fun K hK => ?_); go_simp; refine hK _ ?_; clear hK K
                refine P.wpE_step (fun K hK => ?_); go_simp; refine hK _ ?_; clear hK K
                refine P.wpE_step (fun K hK => ?_); go_simp; refine hK _ ?_; clear hK K
                refine P.wpE_step (fun K hK => ?_); go_simp; refine hK _ ?_; clear hK K
                refine P.wpE_step (fun K hK => ?_); go_simp; refine hK _ ?_; clear hK K
                refine P.wpE_step (fun K hK => ?_); go_simp; refine hK _ ?_; clear hK K
                refine P.wpE_step (fun K hK => ?_); go_simp; refine hK _ ?_; clear hK K
                refine P.wpE_step (fun K hK => ?_); go_simp; refine hK _ ?_; clear hK K
                refine P.wpE_step (fun K hK => ?_); go_simp; refine hK _ ?_; clear hK K
                refine P.wpE_step (fun K hK => ?_); go_simp; refine hK _ ?_; clear hK K
                refine P.wpE_step (fun K hK => ?_); go_simp; refine hK _ ?_; clear hK K
                refine P.wpE_step (fun K hK => ?_); go_simp; refine hK _ ?_; clear hK K
                refine P.wpE_step (fun K hK => ?_); go_simp; refine hK _ ?_; clear hK K
                refine P.wpE_step (fun K hK => ?_); go_simp; refine hK _ ?_; clear hK K
                refine P.wpE_step (fun K hK => ?_); go_simp; refine hK _ ?_; clear hK K
                refine P.wpE_step (fun K hK => ?_); go_simp; refine hK _ ?_; clear hK K
                refine P.wpE_step (fun K hK => ?_); go_simp; refine hK _ ?_; clear hK K
                refine P.wpE_step (fun K hK => ?_); go_simp; refine hK _ ?_; clear hK K
                refine P.wpE_step (fun K hK => ?_)
                refine ⟨_, .inl ⟨rfl, fun h => absurd h (by decide), fun _ => P.append_run (s := .tmp 124) (x := .tmp 150) rfl rfl rfl HRun.out, fun _ h => absurd rfl h⟩, hK _ ?_⟩
                clear hK K
                refine P.wpE_nil ?_
                clear HRun
                rename_i hKK
                have HCont := hid hKK
                clear hKK
                go_wp2_with fail
                generalize W4.setCell ⟨wB.heap.size, 1, none⟩ (.slice (some ⟨g7', 0, none⟩) (L.length + 1) c7') = W9 at *
                refine HCont.out _ _ ?_
                clear HCont n1 n2 zn1 s0' s1' x0' p1 p2 s0 s1 x0 x1 zf
                obtain ⟨g8, c8, q4, q5, hsv3, hg8, hg8l, y0, y1, yz, hset9⟩ := HR9.out.last
                cases hsv3
                have HSET := hid hset9
                clear hset9
                go_wp2_with fail
                go_roundw
                case rel => exact ⟨false, true, kk + 1, L ++ [⟨line.extract ni line.size, ni, mm, IntKind.i64.wrap ((L.length : Int) - q2), IntKind.i64.wrap ((pf : Int) + ni), pt⟩], mm + 1, _, tv, _, _, rfl, rfl, by go_num, by omega, hid (HSET.out _), by rw [List.length_append, List.length_singleton]; omega, hid (hLs.out.push HLine.out (by omega) hNx.out.2 (by omega) hni (by omega) hs _ _ _), by omega, fun _ => by omega⟩
                case measure => simp [RowKit.intOf]; omega
    · obtain rfl : kk = nl := by omega
      have kN : Blk wr N 96 #[.int .i64 0, .int .i64 0] := (hR.out.low.block N (by omega)).trans K0.out
      have n0 := kN.cell (k := 0) rfl
      have n1 := kN.cell (k := 1) rfl
      have zn0 := kN.froz 0
      have zn1 := kN.froz 1
      have kf : Blk ((wr.setCell ⟨N, 0, none⟩ (.int .i64 0)).setCell ⟨N, 1, none⟩ (.int .i64 0)) N 96 #[.int .i64 0, .int .i64 0] := (kN.upd 0 (.int .i64 0) rfl).upd 1 (.int .i64 0) rfl
      have y0 := kf.cell (k := 0) rfl
      have y1 := kf.cell (k := 1) rfl
      have Y := hid (And.intro y0 y1)
      clear kN kf y0 y1
      go_wp2_with fail
      try rw [Exit.noGoto_ret]
      obtain ⟨y0, y1⟩ := Y.out
      obtain ⟨g, a, cap, hPm, hg1, hg2⟩ := hR.out.poem
      have hB1 := hR.out.lt
      have hK : Kept (fun k => k ≠ N) wr ((wr.setCell ⟨N, 0, none⟩ (.int .i64 0)).setCell ⟨N, 1, none⟩ (.int .i64 0)) := (Kept.setCell _ (fun h => h rfl) _).trans (Kept.setCell _ (fun h => h rfl) _)
      have hsK := hK.size
      refine bodyPost_ret (v := .tuple #[.pointer (some ⟨wB.heap.size, 0, none⟩), .agg #[.int .i64 0, .int .i64 0]]) (by simp [results, Tryz.results45, go_sem, y0, y1]) rfl ⟨?_, .inr ⟨wB.heap.size, g, a, cap, L, rfl, hPm.keep hK (by show wB.heap.size ≠ N; omega) (by show g ≠ N; omega), hL, (fun v hv => (hLs.out.all v hv).1), by rw [← HNN.out]; omega, by rw [← HNN.out]; omega, by omega, by omega, hK.cell (hR.out.bp.cell (k := 3) rfl) (by show wB.heap.size ≠ N; omega), _, hLs.out⟩⟩
      rw [← HNN.out]
      exact ((HBB.out.trans (hR.out.low.mono (by omega))).setCell (p := ⟨N, 0, none⟩) (Nat.le_refl _) _).setCell (p := ⟨N, 1, none⟩) (Nat.le_refl _) _
end Go.Proofs.YteodfondjogmoaaGreatDoor
