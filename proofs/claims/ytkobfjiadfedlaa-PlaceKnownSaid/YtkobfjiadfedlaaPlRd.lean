/- The document's answer: Places, walked: the places of all boundaries of a text. Conditions: the text has at most 65536 bytes. -/
import Derived.Test.YtkobfjiadfedlaaPlRc
namespace Go.Proofs.Ytkobfjiadfedlaa
open Go.RowKit
set_option linter.unusedVariables false
set_option linter.unusedSimpArgs false
attribute [local go_sem] Ext.cell Ext.froz
theorem cells_new5p (w : World) (a0 a1 a2 a3 a4 : Value) (T : TypeId) : ∀ j u, [a0, a1, a2, a3, a4][j]? = some u → (w.alloc (.cells #[a0, a1, a2, a3, a4] T)).cell? ((⟨w.heap.size, 0, none⟩ : Addr).add j) = some u := by
  intro j u hj
  match j, hj with
  | 0, hj => simp at hj; subst hj; simp [Addr.add]
  | 1, hj => simp at hj; subst hj; simp [Addr.add]
  | 2, hj => simp at hj; subst hj; simp [Addr.add]
  | 3, hj => simp at hj; subst hj; simp [Addr.add]
  | 4, hj => simp at hj; subst hj; simp [Addr.add]
  | j + 5, hj => simp at hj
theorem own_at3 {W : World} {base : Nat} {e : TypeId} {size n : Nat} {v : Value} {xs : List Value} (h : W.ownsRow base e size v n xs) (hn : 0 < n) : ∃ g cap, v = .slice (some ⟨g, 0, none⟩) n cap ∧ g < W.heap.size ∧ ∀ j u, xs[j]? = some u → W.cell? ⟨g, j, none⟩ = some u := by
  rcases h.2 with ⟨hv, h0⟩ | ⟨g, cap, cur, hv, _, hg, _⟩
  · omega
  · refine ⟨g, cap, hv, (Array.getElem?_eq_some_iff.1 hg).1, fun j u hj => ?_⟩
    have := h.cells (g := g) (by rw [hv]; rfl) j u hj
    cases j with
    | zero => exact this
    | succ j => simpa [Addr.add] using this
theorem own_mono {W : World} {base base' : Nat} {e : TypeId} {size n : Nat} {v : Value} {xs : List Value} (h : W.ownsRow base e size v n xs) (hb : base' ≤ base) : W.ownsRow base' e size v n xs := by
  obtain ⟨h1, h2 | ⟨g, cap, cur, a, b, c⟩⟩ := h
  · exact ⟨h1, .inl h2⟩
  · exact ⟨h1, .inr ⟨g, cap, cur, a, by omega, c⟩⟩
theorem drewN_blk {W : World} {B : Nat} {t : TypeId} {c : Array Value} (h : Blk W B t c) (n : Nat) : Blk (W.drewN n) B t c := h
theorem drewN_own {W : World} {base : Nat} {e : TypeId} {size n : Nat} {v : Value} {xs : List Value} (h : W.ownsRow base e size v n xs) (k : Nat) : (W.drewN k).ownsRow base e size v n xs := h
theorem set_own {W : World} {base : Nat} {e : TypeId} {size n : Nat} {v : Value} {xs : List Value} (h : W.ownsRow base e size v n xs) {b k : Nat} (hb : b < base) (u : Value) : (W.setCell ⟨b, k, none⟩ u).ownsRow base e size v n xs := ownsRow_setCell_below h hb u
theorem set_low {B : Nat} {V W : World} (h : Below B V W) {b k : Nat} (hb : B ≤ b) (u : Value) : Below B V (W.setCell ⟨b, k, none⟩ u) := h.setCell (p := ⟨b, k, none⟩) hb u
theorem ext_grown {w : World} (x : Ext w) : w.grownBy x.w none := ⟨x.h.1, x.h.2, x.h.3, x.h.4, fun k hk _ => x.h.5 k hk⟩
theorem PlHead.le {s : ByteArray} {k r u l c e : Nat} (h : PlHead s k r u l c e) : l = e ∧ (c = 0 ∨ ∃ q : Pl, (plOf s)[k - 1]? = some q ∧ c = q.c + 1) := by
  rcases h.2.2 with ⟨_, h2, h3, h4⟩ | ⟨q, h1, h2, h3, h4, h5⟩
  · exact ⟨by omega, .inl h3⟩
  · exact ⟨by omega, .inr ⟨q, h2, h4⟩⟩
/-- what the cells of the pieces, of the ends say, wherever they lie -/
structure Refs (s : ByteArray) (N : Nat) (w : World) (gP gE : Option Addr) : Prop where
  pc : ∀ (k : Nat) (p : Pl), (fin s).ps[k]? = some p → ∃ (g r : Nat) (z : Int), gP = some ⟨g, 0, none⟩ ∧ g < N ∧ w.cell? ⟨g, k * 3, none⟩ = some (.int .i64 p.b) ∧ w.cell? ⟨g, k * 3 + 1, none⟩ = some (.int .i64 z) ∧ w.cell? ⟨g, k * 3 + 2, none⟩ = some (.int .i32 r) ∧ nextU (fin s) k = p.u + unitsOf r
  ec : ∀ (k : Nat) (ln : Ln), (fin s).ls[k]? = some ln → ∃ g : Nat, gE = some ⟨g, 0, none⟩ ∧ g < N ∧ w.cell? ⟨g, k * 2, none⟩ = some (.int .i64 ln.t) ∧ w.cell? ⟨g, k * 2 + 1, none⟩ = some (.int .i64 (ln.t + ln.e : Nat))
theorem Refs.low {s : ByteArray} {N : Nat} {w w' : World} {gP gE : Option Addr} (h : Refs s N w gP gE) (hb : Below N w w') : Refs s N w' gP gE := by
  refine ⟨fun k p hp => ?_, fun k ln hl => ?_⟩
  · obtain ⟨g, r, z, h1, h2, h3, h4, h5, h6⟩ := h.pc k p hp
    exact ⟨g, r, z, h1, h2, (hb.cell (p := ⟨g, k * 3, none⟩) h2).trans h3, (hb.cell (p := ⟨g, k * 3 + 1, none⟩) h2).trans h4, (hb.cell (p := ⟨g, k * 3 + 2, none⟩) h2).trans h5, h6⟩
  · obtain ⟨g, h1, h2, h3, h4⟩ := h.ec k ln hl
    exact ⟨g, h1, h2, (hb.cell (p := ⟨g, k * 2, none⟩) h2).trans h3, (hb.cell (p := ⟨g, k * 2 + 1, none⟩) h2).trans h4⟩
/-- what the loop of Places keeps: k places have come -/
structure MemQ (s : ByteArray) (N : Nat) (w3 wr : World) (k r u l c e : Nat) (b : Int) (v : Value) : Prop where
  bx : Blk wr N 33 #[.int .i64 b, .int .i64 r, .int .i64 u, .int .i64 l, .int .i64 c]
  o : wr.ownsRow (N + 1) 33 5 v k (flatP ((plOf s).take k))
  low : Below N w3 wr
set_option maxRecDepth 100000 in
set_option maxHeartbeats 8000000 in
theorem places_own (s : ByteArray) (w : World) (hs : s.size ≤ 65536) :
    Calls Try.prog 24 #[.string s] w fun e w' => ∃ v, e = .returned v ∧ w'.ownsRow w.heap.size 33 5 v (plOf s).length (flatP (plOf s)) ∧ Below w.heap.size w w' := by
  obtain ⟨i0, hi, hz0, hz1, hz2⟩ := info_parts Try.info33
  go_enter Try.func24, Try.ntmps24
  go_wp2_with fail
  have hPc := hid (pieces_own s w hs)
  with_reducible refine Calls.mono hPc.out ?_
  rintro e w1 ⟨vP, rs, xs, rfl, hoP, hpc, hb1⟩
  have hoP' := hid hoP
  have hpc' := hid hpc
  clear hPc hoP hpc
  go_wp2_with fail
  have hEn := hid (ends_own s w1 hs)
  with_reducible refine Calls.mono hEn.out ?_
  rintro e w2 ⟨vE, rfl, hoE, hb2⟩
  obtain ⟨gP, capP, rfl⟩ := own_some hoP'.out
  obtain ⟨gE, capE, rfl⟩ := own_some hoE
  have hR2 : Hid (Refs s w2.heap.size w2 gP gE) := by
    refine ⟨fun k p hp => ?_, fun k ln hl => ?_⟩
    · have hk := (List.getElem?_eq_some_iff.1 hp).1
      obtain ⟨g, cap, h1, h2, h3⟩ := own_at3 hoP'.out (by omega)
      cases h1
      obtain ⟨r, hr⟩ : ∃ r, rs[k]? = some r := ⟨_, List.getElem?_eq_getElem (by rw [hpc'.out.rl]; exact hk)⟩
      obtain ⟨a1, ⟨z, a2⟩, a3, a4⟩ := hpc'.out.at' k p r hp hr
      have hlt := hb2.size
      exact ⟨g, r, z, rfl, by omega, (hb2.cell (p := ⟨g, k * 3, none⟩) h2).trans (h3 _ _ a1), (hb2.cell (p := ⟨g, k * 3 + 1, none⟩) h2).trans (h3 _ _ a2), (hb2.cell (p := ⟨g, k * 3 + 2, none⟩) h2).trans (h3 _ _ a3), a4⟩
    · have hk := (List.getElem?_eq_some_iff.1 hl).1
      obtain ⟨g, cap, h1, h2, h3⟩ := own_at3 hoE (by omega)
      cases h1
      obtain ⟨a1, a2⟩ := flatE_get _ k ln hl
      exact ⟨g, rfl, h2, h3 _ _ a1, h3 _ _ a2⟩
  have hb : Below w.heap.size w w2 := hb1.trans (hb2.mono hb1.size)
  clear hoP' hpc' hoE hEn hb1 hb2
  obtain ⟨N, hN⟩ : ∃ N, w2.heap.size = N := ⟨_, rfl⟩
  have hnw : w.heap.size ≤ N := hN ▸ hb.size
  have hok := hid (fin_ok s)
  have hpl := hid (plOf_len s)
  have hlast := hid (last_get s)
  obtain ⟨n, hn⟩ : ∃ n, (fin s).ps.length = n := ⟨_, rfl⟩
  obtain ⟨m, hm⟩ : ∃ m, (fin s).ls.length = m := ⟨_, rfl⟩
  have hnm : Hid (n ≤ 65536 ∧ m ≤ 65536) := ⟨by have := hok.out.len; omega, by have := hok.out.ll; omega⟩
  have hnh := hid hn
  have hmh := hid hm
  simp only [hn, hm]
  go_wp2_with fail
  obtain ⟨w3, hA⟩ : ∃ w3, w2.alloc (.cells #[.int .i64 0, .int .i64 0, .int .i64 0, .int .i64 0, .int .i64 0] 33) = w3 := ⟨_, rfl⟩
  have k6 : Blk w3 N 33 #[.int .i64 0, .int .i64 0, .int .i64 0, .int .i64 0, .int .i64 0] := by rw [← hA, ← hN]; exact Blk.new w2 _ _
  have hb3 : Below w2.heap.size w2 w3 := hA ▸ (Below.refl _ _).alloc (Nat.le_refl _) _
  have hR3 : Hid (Refs s N w3 gP gE) := hN ▸ hR2.out.low hb3
  replace hb := hb.trans (hb3.mono hb.size)
  rw [hA]
  clear hA hb3 hR2 hn hm hN hok
  go_loopw [5, 7, 8] (fun v e i wr => ∃ (k r u l c e' : Nat) (b : Int), i = .int .i64 k ∧ e = .int .i64 e' ∧ k ≤ n + 1 ∧ Hid (MemQ s N w3 wr k r u l c e' b v) ∧ Hid (k ≤ n → PlHead s k r u l c e')) (fun _ _ i _ => n + 1 - (intOf i).toNat)
  case atStart =>
    exact ⟨0, 0, 0, 0, 0, 0, 0, rfl, rfl, Nat.zero_le _, ⟨k6, World.ownsRow_nil _ _ _ _, Below.refl _ _⟩, fun _ => PlHead.start s⟩
  case round =>
    obtain ⟨k, r, u, l, c, e', b, rfl, rfl, hkn, HM, HH⟩ := hrel
    have hb1 := hnm.out
    by_cases hkn2 : k ≤ n
    · obtain ⟨p, hp⟩ : ∃ p, (plOf s)[k]? = some p := ⟨_, List.getElem?_eq_getElem (by rw [hpl.out, hnh.out]; omega)⟩
      obtain ⟨rfl, hu, hline⟩ := HH.out hkn2
      have hue : u = p.u := hu p hp
      subst hue
      have hli := hid ((HH.out hkn2).line hp)
      have hle : Hid (l = e') := (HH.out hkn2).le.1
      have hcb : Hid (c ≤ 70001) := by
        rcases (HH.out hkn2).le.2 with h | ⟨q, h1, h2⟩
        · unfold Hid; omega
        · have := pl_bd s hs h1; unfold Hid; omega
      have hpr : Hid (p.r = r) := plOf_r s hp
      have hph := hid hp
      have hbd := hid (pl_bd s hs hp)
      have hRr := hid (hR3.out.low HM.out.low)
      have htk := hid (take_snoc (plOf s) r p hp)
      clear HH hu hline hp
      have k6 := HM.out.bx
      have ho := HM.out.o
      have hlo := HM.out.low
      obtain ⟨g0, cap0, rfl⟩ := own_some ho
      have hoh := hid ho
      clear ho HM
      have t1 : (r : Int) ≤ n := by omega
      have y1 : IntKind.i64.wrap ((r : Int) + 1) = (r : Int) + 1 := IntWalk.i64_in _ (by omega)
      have y2 : IntKind.i64.wrap ((l : Int) + 1) = (l : Int) + 1 := IntWalk.i64_in _ (by have := hbd.out; rcases hli.out with ⟨_, _, _, h, _⟩ | ⟨_, _, _, h, _⟩ | ⟨_, h, _⟩ <;> omega)
      have y3 : IntKind.i64.wrap ((e' : Int) + 1) = (e' : Int) + 1 := IntWalk.i64_in _ (by
        rcases hli.out with ⟨_, h, _⟩ | ⟨_, h, _⟩ | ⟨h, _⟩
        · have := (List.getElem?_eq_some_iff.1 h).1; have := hmh.out; omega
        · have := (List.getElem?_eq_some_iff.1 h).1; have := hmh.out; omega
        · have := hmh.out; omega)
      have cb0 := k6.cell (k := 0) rfl
      have nb := k6.lt
      have fb := k6.froz
      -- what is to be shown once the place has been put behind the others
      rcases Nat.lt_or_ge r n with hlt | hge
      · have e2 : Hid ((fin s).ps[r]? = some p) := by
          have := hph.out
          unfold plOf at this
          rw [List.getElem?_append_left (by rw [hnh.out]; exact hlt)] at this
          exact this
        obtain ⟨gp, rr, z, rfl, hgp, p0, p1, p2, _⟩ := hRr.out.pc r p e2.out
        have q1 : (r : Int) < n := by omega
        have q4 : ((r : Nat) : Int).toNat = r := Int.toNat_natCast r
        have cb1 := k6.cell (k := 1) rfl
        have y4 : IntKind.i64.wrap ((c : Int) + 1) = (c : Int) + 1 := IntWalk.i64_in _ (by have := hcb.out; omega)
        go_wp2_with fail
        replace k6 : Blk ((wr.setCell ⟨N, 0, none⟩ (.int .i64 s.size)).setCell ⟨N, 0, none⟩ (.int .i64 p.b)) N 33 #[.int .i64 p.b, .int .i64 r, .int .i64 p.u, .int .i64 l, .int .i64 c] := (k6.set 0 _).set 0 _
        replace hoh := hid (set_own (set_own hoh.out (Nat.lt_succ_self N) (k := 0) (.int .i64 s.size)) (Nat.lt_succ_self N) (k := 0) (.int .i64 p.b))
        have hlo2 := set_low (set_low hlo (Nat.le_refl N) (k := 0) (.int .i64 s.size)) (Nat.le_refl N) (k := 0) (.int .i64 p.b)
        have hRr2 := hid (hRr.out.low (set_low (set_low (Below.refl N wr) (Nat.le_refl N) (k := 0) (.int .i64 s.size)) (Nat.le_refl N) (k := 0) (.int .i64 p.b)))
        clear cb0 cb1 nb fb p0 p1 p2 hlo hRr
        generalize (wr.setCell ⟨N, 0, none⟩ (.int .i64 s.size)).setCell ⟨N, 0, none⟩ (.int .i64 p.b) = W2 at *
        have hlo := hlo2
        clear hlo2
        rcases hli.out with ⟨ln, hln, hbe, hpl1, hpc1⟩ | ⟨ln, hln, hbe, hpl1, hpc1⟩ | ⟨hem, hpl1, hpc1⟩
        · obtain ⟨ge, rfl, hge, _, g1c⟩ := hRr2.out.ec e' ln hln
          obtain ⟨E0, hE0⟩ : ∃ E0, ln.t + ln.e = E0 := ⟨_, rfl⟩
          rw [hE0] at g1c hbe
          have q2 : (e' : Int) < m := by have := (List.getElem?_eq_some_iff.1 hln).1; have := hmh.out; omega
          have q3 : (((E0 : Nat) : Int) == (p.b : Int)) = true := by rw [beq_iff_eq]; omega
          have q5 : ((e' : Nat) : Int).toNat = e' := Int.toNat_natCast e'
          clear hE0 hln hbe
          have hcells : Hid (p.cells = [.int .i64 p.b, .int .i64 r, .int .i64 p.u, .int .i64 ((l : Int) + 1), .int .i64 0]) := by
            unfold Hid Pl.cells
            rw [hpr.out, hpl1, hpc1]
            simp
          have hl1 := hid hpl1
          have hc1 := hid hpc1
          clear hpl1 hpc1
          have cb0 := k6.cell (k := 0) rfl
          have cb3 := k6.cell (k := 3) rfl
          have cb4 := k6.cell (k := 4) rfl
          have nb := k6.lt
          refine draw_allB (by kernel_rfl) (by kernel_rfl) ?_
          repeat (refine bq_step (fun K hK => ?_); go_simp; refine ⟨hK _ ?_⟩; clear hK K)
          refine bq_nil ?_
          rintro _ ⟨nq, rfl⟩
          replace k6 := drewN_blk k6 nq
          replace hoh := hid (drewN_own hoh.out nq)
          replace hlo := hlo.trans (below_dr W2 nq)
          have hRr3 := hid (show Refs s N (W2.drewN nq) _ _ from hRr2.out.low (below_dr W2 nq))
          clear cb0 cb3 cb4 nb hRr2 g1c
          generalize W2.drewN nq = W3 at k6 hoh hlo hRr3 ⊢
          have cb0 := k6.cell (k := 0) rfl
          have cb1 := k6.cell (k := 1) rfl
          have cb2 := k6.cell (k := 2) rfl
          have cb3 := k6.cell (k := 3) rfl
          have cb4 := k6.cell (k := 4) rfl
          have nb := k6.lt
          have fb := k6.froz
          go_wp2_with (at_builtin; refine stop_here ?_)
          refine hid ?_
          clear cb0 cb1 cb2 cb3 cb4 nb fb q2 q3 q5
          replace k6 : Blk ((W3.setCell ⟨N, 3, none⟩ (.int .i64 ((l : Int) + 1))).setCell ⟨N, 4, none⟩ (.int .i64 0)) N 33 #[.int .i64 p.b, .int .i64 r, .int .i64 p.u, .int .i64 ((l : Int) + 1), .int .i64 0] := (k6.set 3 _).set 4 _
          replace hoh := hid (set_own (set_own hoh.out (Nat.lt_succ_self N) (k := 3) (.int .i64 ((l : Int) + 1))) (Nat.lt_succ_self N) (k := 4) (.int .i64 0))
          have hlo4 := set_low (set_low hlo (Nat.le_refl N) (k := 3) (.int .i64 ((l : Int) + 1))) (Nat.le_refl N) (k := 4) (.int .i64 0)
          have hRr4 := hid (hRr3.out.low (set_low (set_low (Below.refl N W3) (Nat.le_refl N) (k := 3) (.int .i64 ((l : Int) + 1))) (Nat.le_refl N) (k := 4) (.int .i64 0)))
          clear hlo hRr3
          have hsz4 : ((W3.setCell ⟨N, 3, none⟩ (.int .i64 ((l : Int) + 1))).setCell ⟨N, 4, none⟩ (.int .i64 0)).heap.size = W3.heap.size := by simp
          generalize (W3.setCell ⟨N, 3, none⟩ (.int .i64 ((l : Int) + 1))).setCell ⟨N, 4, none⟩ (.int .i64 0) = W4 at *
          have nb := k6.lt
          have hlo5 := hlo4
          clear hlo4
          refine wpList_append_own _ rfl (.tmp 54) (.tmp 56) 54 rfl (N + 1) 33 i0 _ 5 40 Try.underlying54 hi hz0 hz1 hz2 rfl (by decide) _ _ _ rfl (hoh.out.alloc _) ⟨W4.heap.size, 0, none⟩ 1 1 [.int .i64 p.b, .int .i64 r, .int .i64 p.u, .int .i64 ((l : Int) + 1), .int .i64 0] (by rw [hsz4]; rfl) rfl (cells_new5p _ _ _ _ _ _ _) (by simp [Value.oneCell']) (by unfold maxLen; omega) (by omega) (by simp; omega) ?_
          intro v' w5 hown' hgrow _
          replace hown' : w5.ownsRow (N + 1) 33 5 v' (r + 1) (flatP ((plOf s).take (r + 1))) := by
            rw [htk.out, flatP_snoc, hcells.out]
            exact hown'
          have hown5 := hid hown'
          have h45 : Below N W4 w5 := ((Below.refl N W4).alloc (by omega) _).grown hgrow (by simp; omega) (fun k hk => by have := (hoh.out.lt k hk).1; omega)
          have k65 : Blk w5 N 33 #[.int .i64 p.b, .int .i64 r, .int .i64 p.u, .int .i64 ((l : Int) + 1), .int .i64 0] := (k6.alloc _).kept hgrow (fun e => by have := (hoh.out.lt N e.symm).1; omega)
          replace hlo5 := hlo5.trans h45
          have hRr5 := hid (hRr4.out.low h45)
          clear hown' hgrow hoh k6 h45 hRr4 nb hcells
          have cb1 := k65.cell (k := 1) rfl
          have cb4 := k65.cell (k := 4) rfl
          have nb := k65.lt
          have fb := k65.froz
          go_wp2_with fail
          clear cb1 cb4 nb fb
          replace k65 : Blk ((w5.setCell ⟨N, 1, none⟩ (.int .i64 ((r : Int) + 1))).setCell ⟨N, 4, none⟩ (.int .i64 1)) N 33 #[.int .i64 p.b, .int .i64 ((r : Int) + 1), .int .i64 p.u, .int .i64 ((l : Int) + 1), .int .i64 1] := (k65.set 1 _).set 4 _
          have hown6 := hid (set_own (set_own hown5.out (Nat.lt_succ_self N) (k := 1) (.int .i64 ((r : Int) + 1))) (Nat.lt_succ_self N) (k := 4) (.int .i64 1))
          have hlo6 := set_low (set_low hlo5 (Nat.le_refl N) (k := 1) (.int .i64 ((r : Int) + 1))) (Nat.le_refl N) (k := 4) (.int .i64 1)
          have hRr6 := hid (hRr5.out.low (set_low (set_low (Below.refl N w5) (Nat.le_refl N) (k := 1) (.int .i64 ((r : Int) + 1))) (Nat.le_refl N) (k := 4) (.int .i64 1)))
          clear hown5 hlo5 hRr5
          generalize (w5.setCell ⟨N, 1, none⟩ (.int .i64 ((r : Int) + 1))).setCell ⟨N, 4, none⟩ (.int .i64 1) = w6 at *
          obtain ⟨gp2, r2, z2, hgp2, hgn, p0, p1, p2, hnu⟩ := hRr6.out.pc r p e2.out
          cases hgp2
          replace hnu := hid hnu
          have hU : Hid (∀ x : Ext w6, Calls Try.prog 39 #[.agg #[.int .i64 p.b, .int .i64 z2, .int .i32 r2]] x.w fun e w' => e = .returned (.int .i64 (unitsOf r2 : Nat)) ∧ Below x.w.heap.size x.w w') := fun x => units_any _ _ _ _
          have hur := unitsOf_le r2
          generalize unitsOf r2 = ur at hU hnu hur
          have y5 : IntKind.i64.wrap ((p.u : Int) + ur) = (p.u : Int) + ur := IntWalk.i64_in _ (by have := hbd.out; omega)
          have cb2 := k65.cell (k := 2) rfl
          have nb := k65.lt
          clear hur
          refine ext_tailB 9 (by kernel_rfl) (by kernel_rfl) ?_
          simp only [List.take_succ_cons, List.take_zero, List.drop_succ_cons, List.drop_zero]
          iterate 6 (refine bq_step (fun K hK => ?_); go_simp; refine ⟨hK _ ?_⟩; clear hK K)
          refine bq_step (fun K hK => ?_)
          go_simp
          refine ⟨?_⟩
          apply Exists.intro
          refine ⟨fun x => ?_, hK _ ?_⟩
          · with_reducible exact Ext.call (hU.out _)
          clear hK K
          iterate 2 (refine bq_step (fun K hK => ?_); go_simp; refine ⟨hK _ ?_⟩; clear hK K)
          refine bq_nil ?_
          rintro _ ⟨x, rfl⟩
          have k6x := k65.low x.h
          have hownx := hid ((hown6.out).kept (row := none) (ext_grown x) (Classical.em _))
          have hlox := hlo6.trans (x.h.mono (by have := hlo6.size; omega))
          have cx := k6x.cell (k := 2) rfl
          have nx := k6x.lt
          have fx := k6x.froz 2
          have hR : Hid (∃ (k' r' u' l' c' f' : Nat) (b' : Int), (.int .i64 ((r : Int) + 1) : Value) = .int .i64 (k' : Nat) ∧ (.int .i64 ((e' : Int) + 1) : Value) = .int .i64 (f' : Nat) ∧ k' ≤ n + 1 ∧ Hid (MemQ s N w3 (x.w.setCell ⟨N, 2, none⟩ (.int .i64 ((p.u : Int) + ur))) k' r' u' l' c' f' b' v') ∧ Hid (k' ≤ n → PlHead s k' r' u' l' c' f')) := by
            refine ⟨r + 1, r + 1, p.u + ur, p.l, p.c + 1, p.l, p.b, by simp, ?_, by omega, ⟨?_, set_own hownx.out (Nat.lt_succ_self N) _, set_low hlox (Nat.le_refl N) _⟩, fun _ => PlHead.next hph.out _ hnu.out.symm⟩
            · have := hl1.out; have := hle.out; exact congrArg (Value.int .i64) (by omega)
            · have e0 : Blk (x.w.setCell ⟨N, 2, none⟩ (.int .i64 ((p.u : Int) + ur))) N 33 #[.int .i64 p.b, .int .i64 ((r : Int) + 1), .int .i64 ((p.u : Int) + ur), .int .i64 ((l : Int) + 1), .int .i64 1] := k6x.set 2 _
              have e1 : ((r + 1 : Nat) : Int) = (r : Int) + 1 := by omega
              have e2 : ((p.u + ur : Nat) : Int) = (p.u : Int) + ur := by omega
              have e3 : ((p.l : Nat) : Int) = ((l : Int) + 1) := by have := hl1.out; omega
              have e4 : ((p.c + 1 : Nat) : Int) = 1 := by have := hc1.out; omega
              rw [e1, e2, e3, e4]
              exact e0
          clear hl1 hc1
          go_wp2_with fail
          go_roundw
          case rel => exact hR.out
          case measure => simp [intOf] <;> omega
        · obtain ⟨ge, rfl, hge, _, g1c⟩ := hRr2.out.ec e' ln hln
          obtain ⟨E0, hE0⟩ : ∃ E0, ln.t + ln.e = E0 := ⟨_, rfl⟩
          rw [hE0] at g1c hbe
          have q2 : (e' : Int) < m := by have := (List.getElem?_eq_some_iff.1 hln).1; have := hmh.out; omega
          have q3 : (((E0 : Nat) : Int) == (p.b : Int)) = false := by rw [beq_eq_false_iff_ne]; omega
          have q5 : ((e' : Nat) : Int).toNat = e' := Int.toNat_natCast e'
          clear hE0 hln hbe
          have hcells : Hid (p.cells = [.int .i64 p.b, .int .i64 r, .int .i64 p.u, .int .i64 l, .int .i64 c]) := by
            unfold Hid Pl.cells
            rw [hpr.out, hpl1, hpc1]

          have hl1 := hid hpl1
          have hc1 := hid hpc1
          clear hpl1 hpc1
          have cb0 := k6.cell (k := 0) rfl
          have cb3 := k6.cell (k := 3) rfl
          have cb4 := k6.cell (k := 4) rfl
          have nb := k6.lt
          refine draw_allB (by kernel_rfl) (by kernel_rfl) ?_
          repeat (refine bq_step (fun K hK => ?_); go_simp; refine ⟨hK _ ?_⟩; clear hK K)
          refine bq_nil ?_
          rintro _ ⟨nq, rfl⟩
          replace k6 := drewN_blk k6 nq
          replace hoh := hid (drewN_own hoh.out nq)
          replace hlo := hlo.trans (below_dr W2 nq)
          have hRr3 := hid (show Refs s N (W2.drewN nq) _ _ from hRr2.out.low (below_dr W2 nq))
          clear cb0 cb3 cb4 nb hRr2 g1c
          generalize W2.drewN nq = W3 at k6 hoh hlo hRr3 ⊢
          have cb0 := k6.cell (k := 0) rfl
          have cb1 := k6.cell (k := 1) rfl
          have cb2 := k6.cell (k := 2) rfl
          have cb3 := k6.cell (k := 3) rfl
          have cb4 := k6.cell (k := 4) rfl
          have nb := k6.lt
          have fb := k6.froz
          go_wp2_with (at_builtin; refine stop_here ?_)
          refine hid ?_
          clear cb0 cb1 cb2 cb3 cb4 nb fb q2 q3 q5
          have hlo4 := hlo
          have hRr4 := hRr3
          clear hlo hRr3
          generalize W3 = W4 at *
          have nb := k6.lt
          have hlo5 := hlo4
          clear hlo4
          refine wpList_append_own _ rfl (.tmp 54) (.tmp 56) 54 rfl (N + 1) 33 i0 _ 5 40 Try.underlying54 hi hz0 hz1 hz2 rfl (by decide) _ _ _ rfl (hoh.out.alloc _) ⟨W4.heap.size, 0, none⟩ 1 1 [.int .i64 p.b, .int .i64 r, .int .i64 p.u, .int .i64 l, .int .i64 c] rfl rfl (cells_new5p _ _ _ _ _ _ _) (by simp [Value.oneCell']) (by unfold maxLen; omega) (by omega) (by simp; omega) ?_
          intro v' w5 hown' hgrow _
          replace hown' : w5.ownsRow (N + 1) 33 5 v' (r + 1) (flatP ((plOf s).take (r + 1))) := by
            rw [htk.out, flatP_snoc, hcells.out]
            exact hown'
          have hown5 := hid hown'
          have h45 : Below N W4 w5 := ((Below.refl N W4).alloc (by omega) _).grown hgrow (by simp; omega) (fun k hk => by have := (hoh.out.lt k hk).1; omega)
          have k65 : Blk w5 N 33 #[.int .i64 p.b, .int .i64 r, .int .i64 p.u, .int .i64 l, .int .i64 c] := (k6.alloc _).kept hgrow (fun e => by have := (hoh.out.lt N e.symm).1; omega)
          replace hlo5 := hlo5.trans h45
          have hRr5 := hid (hRr4.out.low h45)
          clear hown' hgrow hoh k6 h45 hRr4 nb hcells
          have cb1 := k65.cell (k := 1) rfl
          have cb4 := k65.cell (k := 4) rfl
          have nb := k65.lt
          have fb := k65.froz
          go_wp2_with fail
          clear cb1 cb4 nb fb
          replace k65 : Blk ((w5.setCell ⟨N, 1, none⟩ (.int .i64 ((r : Int) + 1))).setCell ⟨N, 4, none⟩ (.int .i64 ((c : Int) + 1))) N 33 #[.int .i64 p.b, .int .i64 ((r : Int) + 1), .int .i64 p.u, .int .i64 l, .int .i64 ((c : Int) + 1)] := (k65.set 1 _).set 4 _
          have hown6 := hid (set_own (set_own hown5.out (Nat.lt_succ_self N) (k := 1) (.int .i64 ((r : Int) + 1))) (Nat.lt_succ_self N) (k := 4) (.int .i64 ((c : Int) + 1)))
          have hlo6 := set_low (set_low hlo5 (Nat.le_refl N) (k := 1) (.int .i64 ((r : Int) + 1))) (Nat.le_refl N) (k := 4) (.int .i64 ((c : Int) + 1))
          have hRr6 := hid (hRr5.out.low (set_low (set_low (Below.refl N w5) (Nat.le_refl N) (k := 1) (.int .i64 ((r : Int) + 1))) (Nat.le_refl N) (k := 4) (.int .i64 ((c : Int) + 1))))
          clear hown5 hlo5 hRr5
          generalize (w5.setCell ⟨N, 1, none⟩ (.int .i64 ((r : Int) + 1))).setCell ⟨N, 4, none⟩ (.int .i64 ((c : Int) + 1)) = w6 at *
          obtain ⟨gp2, r2, z2, hgp2, hgn, p0, p1, p2, hnu⟩ := hRr6.out.pc r p e2.out
          cases hgp2
          replace hnu := hid hnu
          have hU : Hid (∀ x : Ext w6, Calls Try.prog 39 #[.agg #[.int .i64 p.b, .int .i64 z2, .int .i32 r2]] x.w fun e w' => e = .returned (.int .i64 (unitsOf r2 : Nat)) ∧ Below x.w.heap.size x.w w') := fun x => units_any _ _ _ _
          have hur := unitsOf_le r2
          generalize unitsOf r2 = ur at hU hnu hur
          have y5 : IntKind.i64.wrap ((p.u : Int) + ur) = (p.u : Int) + ur := IntWalk.i64_in _ (by have := hbd.out; omega)
          have cb2 := k65.cell (k := 2) rfl
          have nb := k65.lt
          clear hur
          refine ext_tailB 9 (by kernel_rfl) (by kernel_rfl) ?_
          simp only [List.take_succ_cons, List.take_zero, List.drop_succ_cons, List.drop_zero]
          iterate 6 (refine bq_step (fun K hK => ?_); go_simp; refine ⟨hK _ ?_⟩; clear hK K)
          refine bq_step (fun K hK => ?_)
          go_simp
          refine ⟨?_⟩
          apply Exists.intro
          refine ⟨fun x => ?_, hK _ ?_⟩
          · with_reducible exact Ext.call (hU.out _)
          clear hK K
          iterate 2 (refine bq_step (fun K hK => ?_); go_simp; refine ⟨hK _ ?_⟩; clear hK K)
          refine bq_nil ?_
          rintro _ ⟨x, rfl⟩
          have k6x := k65.low x.h
          have hownx := hid ((hown6.out).kept (row := none) (ext_grown x) (Classical.em _))
          have hlox := hlo6.trans (x.h.mono (by have := hlo6.size; omega))
          have cx := k6x.cell (k := 2) rfl
          have nx := k6x.lt
          have fx := k6x.froz 2
          have hR : Hid (∃ (k' r' u' l' c' f' : Nat) (b' : Int), (.int .i64 ((r : Int) + 1) : Value) = .int .i64 (k' : Nat) ∧ (.int .i64 e' : Value) = .int .i64 (f' : Nat) ∧ k' ≤ n + 1 ∧ Hid (MemQ s N w3 (x.w.setCell ⟨N, 2, none⟩ (.int .i64 ((p.u : Int) + ur))) k' r' u' l' c' f' b' v') ∧ Hid (k' ≤ n → PlHead s k' r' u' l' c' f')) := by
            refine ⟨r + 1, r + 1, p.u + ur, p.l, p.c + 1, p.l, p.b, by simp, ?_, by omega, ⟨?_, set_own hownx.out (Nat.lt_succ_self N) _, set_low hlox (Nat.le_refl N) _⟩, fun _ => PlHead.next hph.out _ hnu.out.symm⟩
            · have := hl1.out; have := hle.out; exact congrArg (Value.int .i64) (by omega)
            · have e0 : Blk (x.w.setCell ⟨N, 2, none⟩ (.int .i64 ((p.u : Int) + ur))) N 33 #[.int .i64 p.b, .int .i64 ((r : Int) + 1), .int .i64 ((p.u : Int) + ur), .int .i64 l, .int .i64 ((c : Int) + 1)] := k6x.set 2 _
              have e1 : ((r + 1 : Nat) : Int) = (r : Int) + 1 := by omega
              have e2 : ((p.u + ur : Nat) : Int) = (p.u : Int) + ur := by omega
              have e3 : ((p.l : Nat) : Int) = l := by have := hl1.out; omega
              have e4 : ((p.c + 1 : Nat) : Int) = ((c : Int) + 1) := by have := hc1.out; omega
              rw [e1, e2, e3, e4]
              exact e0
          clear hl1 hc1
          go_wp2_with fail
          go_roundw
          case rel => exact hR.out
          case measure => simp [intOf] <;> omega
        · have q2 : ¬ (e' : Int) < m := by have := hmh.out; omega
          have q3 : decide (e' < m) = false := decide_eq_false (by have := hmh.out; omega)
          clear hem
          have hcells : Hid (p.cells = [.int .i64 p.b, .int .i64 r, .int .i64 p.u, .int .i64 l, .int .i64 c]) := by
            unfold Hid Pl.cells
            rw [hpr.out, hpl1, hpc1]

          have hl1 := hid hpl1
          have hc1 := hid hpc1
          clear hpl1 hpc1
          have cb0 := k6.cell (k := 0) rfl
          have cb3 := k6.cell (k := 3) rfl
          have cb4 := k6.cell (k := 4) rfl
          have nb := k6.lt
          refine draw_allB (by kernel_rfl) (by kernel_rfl) ?_
          repeat (refine bq_step (fun K hK => ?_); go_simp; refine ⟨hK _ ?_⟩; clear hK K)
          refine bq_nil ?_
          rintro _ ⟨nq, rfl⟩
          replace k6 := drewN_blk k6 nq
          replace hoh := hid (drewN_own hoh.out nq)
          replace hlo := hlo.trans (below_dr W2 nq)
          have hRr3 := hid (show Refs s N (W2.drewN nq) _ _ from hRr2.out.low (below_dr W2 nq))
          clear cb0 cb3 cb4 nb hRr2
          generalize W2.drewN nq = W3 at k6 hoh hlo hRr3 ⊢
          have cb0 := k6.cell (k := 0) rfl
          have cb1 := k6.cell (k := 1) rfl
          have cb2 := k6.cell (k := 2) rfl
          have cb3 := k6.cell (k := 3) rfl
          have cb4 := k6.cell (k := 4) rfl
          have nb := k6.lt
          have fb := k6.froz
          go_wp2_with (at_builtin; refine stop_here ?_)
          refine hid ?_
          clear cb0 cb1 cb2 cb3 cb4 nb fb q2 q3
          have hlo4 := hlo
          have hRr4 := hRr3
          clear hlo hRr3
          generalize W3 = W4 at *
          have nb := k6.lt
          have hlo5 := hlo4
          clear hlo4
          refine wpList_append_own _ rfl (.tmp 54) (.tmp 56) 54 rfl (N + 1) 33 i0 _ 5 40 Try.underlying54 hi hz0 hz1 hz2 rfl (by decide) _ _ _ rfl (hoh.out.alloc _) ⟨W4.heap.size, 0, none⟩ 1 1 [.int .i64 p.b, .int .i64 r, .int .i64 p.u, .int .i64 l, .int .i64 c] rfl rfl (cells_new5p _ _ _ _ _ _ _) (by simp [Value.oneCell']) (by unfold maxLen; omega) (by omega) (by simp; omega) ?_
          intro v' w5 hown' hgrow _
          replace hown' : w5.ownsRow (N + 1) 33 5 v' (r + 1) (flatP ((plOf s).take (r + 1))) := by
            rw [htk.out, flatP_snoc, hcells.out]
            exact hown'
          have hown5 := hid hown'
          have h45 : Below N W4 w5 := ((Below.refl N W4).alloc (by omega) _).grown hgrow (by simp; omega) (fun k hk => by have := (hoh.out.lt k hk).1; omega)
          have k65 : Blk w5 N 33 #[.int .i64 p.b, .int .i64 r, .int .i64 p.u, .int .i64 l, .int .i64 c] := (k6.alloc _).kept hgrow (fun e => by have := (hoh.out.lt N e.symm).1; omega)
          replace hlo5 := hlo5.trans h45
          have hRr5 := hid (hRr4.out.low h45)
          clear hown' hgrow hoh k6 h45 hRr4 nb hcells
          have cb1 := k65.cell (k := 1) rfl
          have cb4 := k65.cell (k := 4) rfl
          have nb := k65.lt
          have fb := k65.froz
          go_wp2_with fail
          clear cb1 cb4 nb fb
          replace k65 : Blk ((w5.setCell ⟨N, 1, none⟩ (.int .i64 ((r : Int) + 1))).setCell ⟨N, 4, none⟩ (.int .i64 ((c : Int) + 1))) N 33 #[.int .i64 p.b, .int .i64 ((r : Int) + 1), .int .i64 p.u, .int .i64 l, .int .i64 ((c : Int) + 1)] := (k65.set 1 _).set 4 _
          have hown6 := hid (set_own (set_own hown5.out (Nat.lt_succ_self N) (k := 1) (.int .i64 ((r : Int) + 1))) (Nat.lt_succ_self N) (k := 4) (.int .i64 ((c : Int) + 1)))
          have hlo6 := set_low (set_low hlo5 (Nat.le_refl N) (k := 1) (.int .i64 ((r : Int) + 1))) (Nat.le_refl N) (k := 4) (.int .i64 ((c : Int) + 1))
          have hRr6 := hid (hRr5.out.low (set_low (set_low (Below.refl N w5) (Nat.le_refl N) (k := 1) (.int .i64 ((r : Int) + 1))) (Nat.le_refl N) (k := 4) (.int .i64 ((c : Int) + 1))))
          clear hown5 hlo5 hRr5
          generalize (w5.setCell ⟨N, 1, none⟩ (.int .i64 ((r : Int) + 1))).setCell ⟨N, 4, none⟩ (.int .i64 ((c : Int) + 1)) = w6 at *
          obtain ⟨gp2, r2, z2, hgp2, hgn, p0, p1, p2, hnu⟩ := hRr6.out.pc r p e2.out
          cases hgp2
          replace hnu := hid hnu
          have hU : Hid (∀ x : Ext w6, Calls Try.prog 39 #[.agg #[.int .i64 p.b, .int .i64 z2, .int .i32 r2]] x.w fun e w' => e = .returned (.int .i64 (unitsOf r2 : Nat)) ∧ Below x.w.heap.size x.w w') := fun x => units_any _ _ _ _
          have hur := unitsOf_le r2
          generalize unitsOf r2 = ur at hU hnu hur
          have y5 : IntKind.i64.wrap ((p.u : Int) + ur) = (p.u : Int) + ur := IntWalk.i64_in _ (by have := hbd.out; omega)
          have cb2 := k65.cell (k := 2) rfl
          have nb := k65.lt
          clear hur
          refine ext_tailB 9 (by kernel_rfl) (by kernel_rfl) ?_
          simp only [List.take_succ_cons, List.take_zero, List.drop_succ_cons, List.drop_zero]
          iterate 6 (refine bq_step (fun K hK => ?_); go_simp; refine ⟨hK _ ?_⟩; clear hK K)
          refine bq_step (fun K hK => ?_)
          go_simp
          refine ⟨?_⟩
          apply Exists.intro
          refine ⟨fun x => ?_, hK _ ?_⟩
          · with_reducible exact Ext.call (hU.out _)
          clear hK K
          iterate 2 (refine bq_step (fun K hK => ?_); go_simp; refine ⟨hK _ ?_⟩; clear hK K)
          refine bq_nil ?_
          rintro _ ⟨x, rfl⟩
          have k6x := k65.low x.h
          have hownx := hid ((hown6.out).kept (row := none) (ext_grown x) (Classical.em _))
          have hlox := hlo6.trans (x.h.mono (by have := hlo6.size; omega))
          have cx := k6x.cell (k := 2) rfl
          have nx := k6x.lt
          have fx := k6x.froz 2
          have hR : Hid (∃ (k' r' u' l' c' f' : Nat) (b' : Int), (.int .i64 ((r : Int) + 1) : Value) = .int .i64 (k' : Nat) ∧ (.int .i64 e' : Value) = .int .i64 (f' : Nat) ∧ k' ≤ n + 1 ∧ Hid (MemQ s N w3 (x.w.setCell ⟨N, 2, none⟩ (.int .i64 ((p.u : Int) + ur))) k' r' u' l' c' f' b' v') ∧ Hid (k' ≤ n → PlHead s k' r' u' l' c' f')) := by
            refine ⟨r + 1, r + 1, p.u + ur, p.l, p.c + 1, p.l, p.b, by simp, ?_, by omega, ⟨?_, set_own hownx.out (Nat.lt_succ_self N) _, set_low hlox (Nat.le_refl N) _⟩, fun _ => PlHead.next hph.out _ hnu.out.symm⟩
            · have := hl1.out; have := hle.out; exact congrArg (Value.int .i64) (by omega)
            · have e0 : Blk (x.w.setCell ⟨N, 2, none⟩ (.int .i64 ((p.u : Int) + ur))) N 33 #[.int .i64 p.b, .int .i64 ((r : Int) + 1), .int .i64 ((p.u : Int) + ur), .int .i64 l, .int .i64 ((c : Int) + 1)] := k6x.set 2 _
              have e1 : ((r + 1 : Nat) : Int) = (r : Int) + 1 := by omega
              have e2 : ((p.u + ur : Nat) : Int) = (p.u : Int) + ur := by omega
              have e3 : ((p.l : Nat) : Int) = l := by have := hl1.out; omega
              have e4 : ((p.c + 1 : Nat) : Int) = ((c : Int) + 1) := by have := hc1.out; omega
              rw [e1, e2, e3, e4]
              exact e0
          clear hl1 hc1
          go_wp2_with fail
          go_roundw
          case rel => exact hR.out
          case measure => simp [intOf] <;> omega
      · obtain rfl : r = n := by omega
        have q1 : ¬ (r : Int) < r := by omega
        have q4 : decide (r < r) = false := decide_eq_false (by omega)
        have hpb : Hid (p.b = s.size) := by
          have h1 := hlast.out
          have h2 := hph.out
          rw [hnh.out, h2] at h1
          cases h1
          rfl
        go_wp2_with fail
        replace k6 : Blk (wr.setCell ⟨N, 0, none⟩ (.int .i64 s.size)) N 33 #[.int .i64 s.size, .int .i64 r, .int .i64 p.u, .int .i64 l, .int .i64 c] := k6.set 0 _
        replace hoh := hid (set_own hoh.out (Nat.lt_succ_self N) (k := 0) (.int .i64 s.size))
        have hlo2 := set_low hlo (Nat.le_refl N) (k := 0) (.int .i64 s.size)
        have hRr2 := hid (hRr.out.low (set_low (Below.refl N wr) (Nat.le_refl N) (k := 0) (.int .i64 s.size)))
        clear cb0 nb fb hlo hRr
        generalize wr.setCell ⟨N, 0, none⟩ (.int .i64 s.size) = W2 at *
        have hlo := hlo2
        clear hlo2
        rcases hli.out with ⟨ln, hln, hbe, hpl1, hpc1⟩ | ⟨ln, hln, hbe, hpl1, hpc1⟩ | ⟨hem, hpl1, hpc1⟩
        · obtain ⟨ge, rfl, hge, _, g1c⟩ := hRr2.out.ec e' ln hln
          obtain ⟨E0, hE0⟩ : ∃ E0, ln.t + ln.e = E0 := ⟨_, rfl⟩
          rw [hE0] at g1c hbe
          have q2 : (e' : Int) < m := by have := (List.getElem?_eq_some_iff.1 hln).1; have := hmh.out; omega
          have q3 : (((E0 : Nat) : Int) == (s.size : Int)) = true := by rw [beq_iff_eq]; have := hpb.out; omega
          have q5 : ((e' : Nat) : Int).toNat = e' := Int.toNat_natCast e'
          clear hE0 hln hbe
          have hcells : Hid (p.cells = [.int .i64 s.size, .int .i64 r, .int .i64 p.u, .int .i64 ((l : Int) + 1), .int .i64 0]) := by
            unfold Hid Pl.cells
            rw [hpr.out, hpl1, hpc1, hpb.out]
            simp
          have hl1 := hid hpl1
          have hc1 := hid hpc1
          clear hpl1 hpc1
          have cb0 := k6.cell (k := 0) rfl
          have cb3 := k6.cell (k := 3) rfl
          have cb4 := k6.cell (k := 4) rfl
          have nb := k6.lt
          refine draw_allB (by kernel_rfl) (by kernel_rfl) ?_
          repeat (refine bq_step (fun K hK => ?_); go_simp; refine ⟨hK _ ?_⟩; clear hK K)
          refine bq_nil ?_
          rintro _ ⟨nq, rfl⟩
          replace k6 := drewN_blk k6 nq
          replace hoh := hid (drewN_own hoh.out nq)
          replace hlo := hlo.trans (below_dr W2 nq)
          have hRr3 := hid (show Refs s N (W2.drewN nq) _ _ from hRr2.out.low (below_dr W2 nq))
          clear cb0 cb3 cb4 nb hRr2 g1c
          generalize W2.drewN nq = W3 at k6 hoh hlo hRr3 ⊢
          have cb0 := k6.cell (k := 0) rfl
          have cb1 := k6.cell (k := 1) rfl
          have cb2 := k6.cell (k := 2) rfl
          have cb3 := k6.cell (k := 3) rfl
          have cb4 := k6.cell (k := 4) rfl
          have nb := k6.lt
          have fb := k6.froz
          go_wp2_with (at_builtin; refine stop_here ?_)
          refine hid ?_
          clear cb0 cb1 cb2 cb3 cb4 nb fb q2 q3 q5
          replace k6 : Blk ((W3.setCell ⟨N, 3, none⟩ (.int .i64 ((l : Int) + 1))).setCell ⟨N, 4, none⟩ (.int .i64 0)) N 33 #[.int .i64 s.size, .int .i64 r, .int .i64 p.u, .int .i64 ((l : Int) + 1), .int .i64 0] := (k6.set 3 _).set 4 _
          replace hoh := hid (set_own (set_own hoh.out (Nat.lt_succ_self N) (k := 3) (.int .i64 ((l : Int) + 1))) (Nat.lt_succ_self N) (k := 4) (.int .i64 0))
          have hlo4 := set_low (set_low hlo (Nat.le_refl N) (k := 3) (.int .i64 ((l : Int) + 1))) (Nat.le_refl N) (k := 4) (.int .i64 0)
          have hRr4 := hid (hRr3.out.low (set_low (set_low (Below.refl N W3) (Nat.le_refl N) (k := 3) (.int .i64 ((l : Int) + 1))) (Nat.le_refl N) (k := 4) (.int .i64 0)))
          clear hlo hRr3
          have hsz4 : ((W3.setCell ⟨N, 3, none⟩ (.int .i64 ((l : Int) + 1))).setCell ⟨N, 4, none⟩ (.int .i64 0)).heap.size = W3.heap.size := by simp
          generalize (W3.setCell ⟨N, 3, none⟩ (.int .i64 ((l : Int) + 1))).setCell ⟨N, 4, none⟩ (.int .i64 0) = W4 at *
          have nb := k6.lt
          have hlo5 := hlo4
          clear hlo4
          refine wpList_append_own _ rfl (.tmp 54) (.tmp 56) 54 rfl (N + 1) 33 i0 _ 5 40 Try.underlying54 hi hz0 hz1 hz2 rfl (by decide) _ _ _ rfl (hoh.out.alloc _) ⟨W4.heap.size, 0, none⟩ 1 1 [.int .i64 s.size, .int .i64 r, .int .i64 p.u, .int .i64 ((l : Int) + 1), .int .i64 0] (by rw [hsz4]; rfl) rfl (cells_new5p _ _ _ _ _ _ _) (by simp [Value.oneCell']) (by unfold maxLen; omega) (by omega) (by simp; omega) ?_
          intro v' w5 hown' hgrow _
          replace hown' : w5.ownsRow (N + 1) 33 5 v' (r + 1) (flatP ((plOf s).take (r + 1))) := by
            rw [htk.out, flatP_snoc, hcells.out]
            exact hown'
          have hown5 := hid hown'
          have h45 : Below N W4 w5 := ((Below.refl N W4).alloc (by omega) _).grown hgrow (by simp; omega) (fun k hk => by have := (hoh.out.lt k hk).1; omega)
          have k65 : Blk w5 N 33 #[.int .i64 s.size, .int .i64 r, .int .i64 p.u, .int .i64 ((l : Int) + 1), .int .i64 0] := (k6.alloc _).kept hgrow (fun e => by have := (hoh.out.lt N e.symm).1; omega)
          replace hlo5 := hlo5.trans h45
          have hRr5 := hid (hRr4.out.low h45)
          clear hown' hgrow hoh k6 h45 hRr4 nb hcells
          have cb1 := k65.cell (k := 1) rfl
          have cb4 := k65.cell (k := 4) rfl
          have nb := k65.lt
          have fb := k65.froz
          go_wp2_with fail
          have hR : Hid (∃ (k' r' u' l' c' f' : Nat) (b' : Int), (.int .i64 ((r : Int) + 1) : Value) = .int .i64 (k' : Nat) ∧ (.int .i64 ((e' : Int) + 1) : Value) = .int .i64 (f' : Nat) ∧ k' ≤ r + 1 ∧ Hid (MemQ s N w3 w5 k' r' u' l' c' f' b' v') ∧ Hid (k' ≤ r → PlHead s k' r' u' l' c' f')) := by
            refine ⟨r + 1, r, p.u, p.l, p.c, p.l, s.size, by simp, ?_, by omega, ⟨?_, hown5.out, hlo5⟩, fun h => by omega⟩
            · have := hl1.out; have := hle.out; exact congrArg (Value.int .i64) (by omega)
            · have e3 : ((p.l : Nat) : Int) = ((l : Int) + 1) := by have := hl1.out; omega
              have e4 : ((p.c : Nat) : Int) = 0 := by have := hc1.out; omega
              rw [e3, e4]
              exact k65
          clear hl1 hc1
          go_roundw
          case rel => exact hR.out
          case measure => simp [intOf] <;> omega
        · obtain ⟨ge, rfl, hge, _, g1c⟩ := hRr2.out.ec e' ln hln
          obtain ⟨E0, hE0⟩ : ∃ E0, ln.t + ln.e = E0 := ⟨_, rfl⟩
          rw [hE0] at g1c hbe
          have q2 : (e' : Int) < m := by have := (List.getElem?_eq_some_iff.1 hln).1; have := hmh.out; omega
          have q3 : (((E0 : Nat) : Int) == (s.size : Int)) = false := by rw [beq_eq_false_iff_ne]; have := hpb.out; omega
          have q5 : ((e' : Nat) : Int).toNat = e' := Int.toNat_natCast e'
          clear hE0 hln hbe
          have hcells : Hid (p.cells = [.int .i64 s.size, .int .i64 r, .int .i64 p.u, .int .i64 l, .int .i64 c]) := by
            unfold Hid Pl.cells
            rw [hpr.out, hpl1, hpc1, hpb.out]

          have hl1 := hid hpl1
          have hc1 := hid hpc1
          clear hpl1 hpc1
          have cb0 := k6.cell (k := 0) rfl
          have cb3 := k6.cell (k := 3) rfl
          have cb4 := k6.cell (k := 4) rfl
          have nb := k6.lt
          refine draw_allB (by kernel_rfl) (by kernel_rfl) ?_
          repeat (refine bq_step (fun K hK => ?_); go_simp; refine ⟨hK _ ?_⟩; clear hK K)
          refine bq_nil ?_
          rintro _ ⟨nq, rfl⟩
          replace k6 := drewN_blk k6 nq
          replace hoh := hid (drewN_own hoh.out nq)
          replace hlo := hlo.trans (below_dr W2 nq)
          have hRr3 := hid (show Refs s N (W2.drewN nq) _ _ from hRr2.out.low (below_dr W2 nq))
          clear cb0 cb3 cb4 nb hRr2 g1c
          generalize W2.drewN nq = W3 at k6 hoh hlo hRr3 ⊢
          have cb0 := k6.cell (k := 0) rfl
          have cb1 := k6.cell (k := 1) rfl
          have cb2 := k6.cell (k := 2) rfl
          have cb3 := k6.cell (k := 3) rfl
          have cb4 := k6.cell (k := 4) rfl
          have nb := k6.lt
          have fb := k6.froz
          go_wp2_with (at_builtin; refine stop_here ?_)
          refine hid ?_
          clear cb0 cb1 cb2 cb3 cb4 nb fb q2 q3 q5
          have hlo4 := hlo
          have hRr4 := hRr3
          clear hlo hRr3
          generalize W3 = W4 at *
          have nb := k6.lt
          have hlo5 := hlo4
          clear hlo4
          refine wpList_append_own _ rfl (.tmp 54) (.tmp 56) 54 rfl (N + 1) 33 i0 _ 5 40 Try.underlying54 hi hz0 hz1 hz2 rfl (by decide) _ _ _ rfl (hoh.out.alloc _) ⟨W4.heap.size, 0, none⟩ 1 1 [.int .i64 s.size, .int .i64 r, .int .i64 p.u, .int .i64 l, .int .i64 c] rfl rfl (cells_new5p _ _ _ _ _ _ _) (by simp [Value.oneCell']) (by unfold maxLen; omega) (by omega) (by simp; omega) ?_
          intro v' w5 hown' hgrow _
          replace hown' : w5.ownsRow (N + 1) 33 5 v' (r + 1) (flatP ((plOf s).take (r + 1))) := by
            rw [htk.out, flatP_snoc, hcells.out]
            exact hown'
          have hown5 := hid hown'
          have h45 : Below N W4 w5 := ((Below.refl N W4).alloc (by omega) _).grown hgrow (by simp; omega) (fun k hk => by have := (hoh.out.lt k hk).1; omega)
          have k65 : Blk w5 N 33 #[.int .i64 s.size, .int .i64 r, .int .i64 p.u, .int .i64 l, .int .i64 c] := (k6.alloc _).kept hgrow (fun e => by have := (hoh.out.lt N e.symm).1; omega)
          replace hlo5 := hlo5.trans h45
          have hRr5 := hid (hRr4.out.low h45)
          clear hown' hgrow hoh k6 h45 hRr4 nb hcells
          have cb1 := k65.cell (k := 1) rfl
          have cb4 := k65.cell (k := 4) rfl
          have nb := k65.lt
          have fb := k65.froz
          go_wp2_with fail
          have hR : Hid (∃ (k' r' u' l' c' f' : Nat) (b' : Int), (.int .i64 ((r : Int) + 1) : Value) = .int .i64 (k' : Nat) ∧ (.int .i64 e' : Value) = .int .i64 (f' : Nat) ∧ k' ≤ r + 1 ∧ Hid (MemQ s N w3 w5 k' r' u' l' c' f' b' v') ∧ Hid (k' ≤ r → PlHead s k' r' u' l' c' f')) := by
            refine ⟨r + 1, r, p.u, p.l, p.c, p.l, s.size, by simp, ?_, by omega, ⟨?_, hown5.out, hlo5⟩, fun h => by omega⟩
            · have := hl1.out; have := hle.out; exact congrArg (Value.int .i64) (by omega)
            · have e3 : ((p.l : Nat) : Int) = l := by have := hl1.out; omega
              have e4 : ((p.c : Nat) : Int) = c := by have := hc1.out; omega
              rw [e3, e4]
              exact k65
          clear hl1 hc1
          go_roundw
          case rel => exact hR.out
          case measure => simp [intOf] <;> omega
        · have q2 : ¬ (e' : Int) < m := by have := hmh.out; omega
          have q3 : decide (e' < m) = false := decide_eq_false (by have := hmh.out; omega)
          clear hem
          have hcells : Hid (p.cells = [.int .i64 s.size, .int .i64 r, .int .i64 p.u, .int .i64 l, .int .i64 c]) := by
            unfold Hid Pl.cells
            rw [hpr.out, hpl1, hpc1, hpb.out]

          have hl1 := hid hpl1
          have hc1 := hid hpc1
          clear hpl1 hpc1
          have cb0 := k6.cell (k := 0) rfl
          have cb3 := k6.cell (k := 3) rfl
          have cb4 := k6.cell (k := 4) rfl
          have nb := k6.lt
          refine draw_allB (by kernel_rfl) (by kernel_rfl) ?_
          repeat (refine bq_step (fun K hK => ?_); go_simp; refine ⟨hK _ ?_⟩; clear hK K)
          refine bq_nil ?_
          rintro _ ⟨nq, rfl⟩
          replace k6 := drewN_blk k6 nq
          replace hoh := hid (drewN_own hoh.out nq)
          replace hlo := hlo.trans (below_dr W2 nq)
          have hRr3 := hid (show Refs s N (W2.drewN nq) _ _ from hRr2.out.low (below_dr W2 nq))
          clear cb0 cb3 cb4 nb hRr2
          generalize W2.drewN nq = W3 at k6 hoh hlo hRr3 ⊢
          have cb0 := k6.cell (k := 0) rfl
          have cb1 := k6.cell (k := 1) rfl
          have cb2 := k6.cell (k := 2) rfl
          have cb3 := k6.cell (k := 3) rfl
          have cb4 := k6.cell (k := 4) rfl
          have nb := k6.lt
          have fb := k6.froz
          go_wp2_with (at_builtin; refine stop_here ?_)
          refine hid ?_
          clear cb0 cb1 cb2 cb3 cb4 nb fb q2 q3
          have hlo4 := hlo
          have hRr4 := hRr3
          clear hlo hRr3
          generalize W3 = W4 at *
          have nb := k6.lt
          have hlo5 := hlo4
          clear hlo4
          refine wpList_append_own _ rfl (.tmp 54) (.tmp 56) 54 rfl (N + 1) 33 i0 _ 5 40 Try.underlying54 hi hz0 hz1 hz2 rfl (by decide) _ _ _ rfl (hoh.out.alloc _) ⟨W4.heap.size, 0, none⟩ 1 1 [.int .i64 s.size, .int .i64 r, .int .i64 p.u, .int .i64 l, .int .i64 c] rfl rfl (cells_new5p _ _ _ _ _ _ _) (by simp [Value.oneCell']) (by unfold maxLen; omega) (by omega) (by simp; omega) ?_
          intro v' w5 hown' hgrow _
          replace hown' : w5.ownsRow (N + 1) 33 5 v' (r + 1) (flatP ((plOf s).take (r + 1))) := by
            rw [htk.out, flatP_snoc, hcells.out]
            exact hown'
          have hown5 := hid hown'
          have h45 : Below N W4 w5 := ((Below.refl N W4).alloc (by omega) _).grown hgrow (by simp; omega) (fun k hk => by have := (hoh.out.lt k hk).1; omega)
          have k65 : Blk w5 N 33 #[.int .i64 s.size, .int .i64 r, .int .i64 p.u, .int .i64 l, .int .i64 c] := (k6.alloc _).kept hgrow (fun e => by have := (hoh.out.lt N e.symm).1; omega)
          replace hlo5 := hlo5.trans h45
          have hRr5 := hid (hRr4.out.low h45)
          clear hown' hgrow hoh k6 h45 hRr4 nb hcells
          have cb1 := k65.cell (k := 1) rfl
          have cb4 := k65.cell (k := 4) rfl
          have nb := k65.lt
          have fb := k65.froz
          go_wp2_with fail
          have hR : Hid (∃ (k' r' u' l' c' f' : Nat) (b' : Int), (.int .i64 ((r : Int) + 1) : Value) = .int .i64 (k' : Nat) ∧ (.int .i64 e' : Value) = .int .i64 (f' : Nat) ∧ k' ≤ r + 1 ∧ Hid (MemQ s N w3 w5 k' r' u' l' c' f' b' v') ∧ Hid (k' ≤ r → PlHead s k' r' u' l' c' f')) := by
            refine ⟨r + 1, r, p.u, p.l, p.c, p.l, s.size, by simp, ?_, by omega, ⟨?_, hown5.out, hlo5⟩, fun h => by omega⟩
            · have := hl1.out; have := hle.out; exact congrArg (Value.int .i64) (by omega)
            · have e3 : ((p.l : Nat) : Int) = l := by have := hl1.out; omega
              have e4 : ((p.c : Nat) : Int) = c := by have := hc1.out; omega
              rw [e3, e4]
              exact k65
          clear hl1 hc1
          go_roundw
          case rel => exact hR.out
          case measure => simp [intOf] <;> omega
    · have hk1 : k = n + 1 := by omega
      subst hk1
      have t1 : ¬ ((n : Int) + 1 ≤ n) := by omega
      have t2 : decide ((n : Int) + 1 ≤ n) = false := decide_eq_false t1
      have ho := HM.out.o
      rw [List.take_of_length_le (by rw [hpl.out, hnh.out]; omega)] at ho
      have hlo := HM.out.low
      have hoh := hid ho
      clear ho HM HH
      go_wp2_with fail
      try rw [Exit.noGoto_ret]
      go_ret
      refine ⟨_, rfl, ?_, hb.trans (hlo.mono hnw)⟩
      rw [hpl.out, hnh.out]
      exact own_mono hoh.out (by omega)
end Go.Proofs.Ytkobfjiadfedlaa
