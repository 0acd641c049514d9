/- count.Lengths of a poem. Conditions: those of each theorem. -/
import Derived.Test.YtmpkfpabejpbkaaGreatDoorWm
import Derived.Maps.OwnIn
import Derived.Maps.AppendAt
import Derived.RangeFuncBox
namespace Go.Proofs.YtmpkfpabejpbkaaGreatDoor
open Go Go.RowKit Go.Lib Go.Shelf
set_option linter.unusedVariables false
set_option linter.unusedSimpArgs false
attribute [local go_sem] Oper.semAt_some C.Ext.cell C.Ext.froz
/-- the walk stands at an append -/
theorem stop_app {F : Fence} {n : Nat} {P : Program} {w : World} {ops : Array Oper} {rest : List Oper} {o : Oper} {a : Act} {Q : Exit → Act → World → Prop} {s x : Operand} {t : TypeId} (hop : o.op = Op.call { callee := Callee.builtin Builtin.append, args := #[s, x], argTypes := #[t, t] })
    (h : Hid (wpListIn F n P ops Q (o :: rest) a w)) : wpListIn F n P ops Q (o :: rest) a w := h.out
/-- how long a line is -/
def lenN (way : Int) (v : Vs) : Nat := if way = 2 then (posL v.tx 0).length else if way = 3 then (wordsL v.tx).length else v.tx.size
abbrev fltN (n : Nat) : Value := .float .f64 (floatOfInt .f64 n)
def lensV (way : Int) (l : List (Nat × Vs)) : List Value := l.map fun x => fltN (lenN way x.2)
theorem row_keep {T : Nat → Prop} {W W' : World} {b : Nat} {e : TypeId} {n : Nat} {v : Value} {k : Nat} {xs : List Value} (h : W.ownsRow b e n v k xs) (hk : Kept T W W') (hT : ∀ g, v.ownBlock = some g → T g) : W'.ownsRow b e n v k xs := by
  obtain ⟨h1, h2⟩ := h
  refine ⟨h1, ?_⟩
  rcases h2 with h2 | ⟨g, cap, cur, rfl, hb, hc, r⟩
  · exact .inl h2
  · exact .inr ⟨g, cap, cur, rfl, hb, hk.obj hc (hT g rfl), r⟩
theorem row_lt {W : World} {b : Nat} {e : TypeId} {n : Nat} {v : Value} {k : Nat} {xs : List Value} (h : W.ownsRow b e n v k xs) : ∀ g, v.ownBlock = some g → b ≤ g ∧ g < W.heap.size := h.lt
theorem infoF : (Tryz.prog.info? 50).map (fun i => (i.zero, i.size, i.bytes)) = some (some (.float .f64 0), 1, 8) := by kernel_rfl
theorem wordsL_len (s : ByteArray) : (wordsL s).length ≤ 2 * s.size + 4 := Nat.le_trans (List.length_filter_le _ _) (scanL_len s)
theorem lenN_le (way : Int) (v : Vs) (h : v.tx.size ≤ 100000) : lenN way v ≤ 300000 := by
  unfold lenN
  have h1 := posL_len v.tx _ 0 rfl
  have h2 := wordsL_len v.tx
  repeat' split
  all_goals omega
theorem cells_own {W : World} {b : Nat} {t e : TypeId} {n : Nat} {v : Value} {k : Nat} {xs : List Value} {B : Nat} {c : Array Value} (h : W.ownsRow b e n v k xs) (hB : Blk W B t c) (hte : t ≠ e) : v.ownBlock ≠ some B := by
  rcases h.2 with ⟨rfl, _⟩ | ⟨g, cap, cur, rfl, _, hc, _⟩
  · simp [Value.ownBlock]
  · intro e'
    obtain rfl : g = B := by simpa [Value.ownBlock] using e'
    unfold Blk at hB
    rw [hc] at hB
    cases hB
    exact hte rfl
def LenPost (way : Int) (w : World) (L : List Vs) (e : Ending) (w' : World) : Prop :=
  Below w.heap.size w w' ∧ ∃ v, e = .returned (.tuple #[v, .int .i64 0]) ∧ w'.ownsRow w.heap.size 50 1 v L.length (lensV way (eachL 0 L))
theorem eachL_len : ∀ (L : List Vs) (k : Nat), (eachL k L).length = L.length
  | [], _ => rfl
  | v :: r, k => by unfold eachL; rw [List.length_cons, List.length_cons, eachL_len r (k + 1)]
set_option maxHeartbeats 1000000 in
theorem len10_bad (way : Int) (hw : way < 1 ∨ 3 < way) (pb : Nat) (w : World) :
    Calls Tryz.prog 10 #[.pointer (some ⟨pb, 0, none⟩), .int .i64 way] w fun e w' => e = .returned (.tuple #[.slice none 0 0, .int .i64 2]) ∧ Below w.heap.size w w' := by
  rcases hw with hw | hw
  · have t1 : decide (way < 1) = true := decide_eq_true hw
    go_enter Tryz.func10, Tryz.ntmps10
    go_wp2_with fail
    exact bodyPost_ret (v := .tuple #[.slice none 0 0, .int .i64 2]) (by simp [results, Tryz.results10, go_sem]) rfl ⟨rfl, (Below.refl _ w).alloc (Nat.le_refl _) _⟩
  · have t1 : decide (way < 1) = false := decide_eq_false (by omega)
    have t2 : decide (3 < way) = true := decide_eq_true hw
    go_enter Tryz.func10, Tryz.ntmps10
    go_wp2_with fail
    exact bodyPost_ret (v := .tuple #[.slice none 0 0, .int .i64 2]) (by simp [results, Tryz.results10, go_sem]) rfl ⟨rfl, (Below.refl _ w).alloc (Nat.le_refl _) _⟩
set_option maxRecDepth 100000 in
set_option maxHeartbeats 8000000 in
theorem len10 (hOf : OfOk) (way : Int) (hw : 1 ≤ way ∧ way ≤ 3) (L : List Vs) (hL : L.length ≤ 70000) (hLs : ∀ v ∈ L, v.tx.size ≤ 100000) (pb g cap : Nat) (a : Option Addr) (w : World) (hPm : PmAt w pb g a cap L) (hgW : pb < w.heap.size ∧ g < w.heap.size) :
    Calls Tryz.prog 10 #[.pointer (some ⟨pb, 0, none⟩), .int .i64 way] w (LenPost way w L) := by
  have t1 : decide (way < 1) = false := decide_eq_false (by omega)
  have t2 : decide (3 < way) = false := decide_eq_false (by omega)
  have t3 : ¬ way < 1 := by omega
  have t4 : ¬ 3 < way := by omega
  refine (callsIn_wide (n := 9)).1 ?_
  refine callsIn_of_wp_marks Tryz.func10 rfl trivial ?_ rfl
  simp only [Tryz.ntmps10, List.size_toArray, List.length_cons, List.length_nil, Nat.reduceAdd, Nat.reduceSub, Array.replicate_succ, Array.replicate_zero, List.push_toArray, List.append_toArray, List.nil_append, List.cons_append]
  have hP := hid (fun W => each11 (some ⟨pb, 0, none⟩) W)
  have HPm := hid hPm
  have HOf := hid hOf
  have HLs := hid hLs
  clear hPm hOf hLs
  gi_wp2_with fail
  refine ⟨trivial, ?_⟩
  with_reducible refine CallsIn.mono (callsIn_wide.2 (hP.out _)) ?_
  rintro e w4 ⟨rfl, hw4⟩
  obtain ⟨N, hNN⟩ : ∃ N, N = w.heap.size := ⟨_, rfl⟩
  have b0 : Blk w4 N 3 #[.int .i64 way] := by rw [hw4, hNN]; exact ((Blk.new w 3 #[.int .i64 way]).alloc _).alloc _
  have b1 : Blk w4 (N + 1) 39 #[.slice none 0 0] := by
    have := (Blk.new (w.alloc (.cells #[.int .i64 way] 3)) 39 #[.slice none 0 0]).alloc (.cells #[.pointer (some ⟨pb, 0, none⟩)] 23)
    rw [World.size_alloc] at this
    rw [hw4, hNN]; exact this
  have b2 : Blk w4 (N + 2) 23 #[.pointer (some ⟨pb, 0, none⟩)] := by
    have := Blk.new ((w.alloc (.cells #[.int .i64 way] 3)).alloc (.cells #[.slice none 0 0] 39)) 23 #[.pointer (some ⟨pb, 0, none⟩)]
    simp only [World.size_alloc, Nat.add_assoc, Nat.reduceAdd] at this
    rw [hw4, hNN]; exact this
  have hN : w4.heap.size = N + 3 := by rw [hw4, hNN]; simp
  have hB4 : Below N w w4 := by rw [hw4, hNN]; exact (((Below.refl _ w).alloc (Nat.le_refl _) _).alloc (by simp) _).alloc (by simp; omega) _
  have B0 := hid b0
  have B1 := hid b1
  have B2 := hid b2
  have HB4 := hid hB4
  simp only [World.size_alloc, Nat.add_assoc, Nat.reduceAdd]
  rw [← hNN] at hgW ⊢
  have HNN := hid hNN
  clear hw4 hP b0 b1 b2 hB4 hNN
  gi_wp2_with fail
  refine name_actZ ?_
  intro Tm D hTm hD
  have hseq := (each_seq L hL pb g cap a (N + 2) w4 (B2.out.cell (k := 0) rfl) (HPm.out.keep (Kept.of_below HB4.out (T := fun k => k < N) (fun _ _ h => h)) hgW.1 hgW.2)).wide 8
  refine rangeFunc_s (F := Fence.wide) (α := Nat × Vs) rfl (by omega) (gf := 37) (lb := #[.pointer (some ⟨N + 2, 0, none⟩)]) (by subst hTm; rfl) trivial (enters_of Tryz.func37 (by kernel_rfl) rfl)
    hseq (fun k hk => by rcases hk with h | h | h <;> omega) (Below.refl _ _) (fun _ => rfl)
    (fun pre S W => ∃ v, Blk W N 3 #[.int .i64 way] ∧ Blk W (N + 1) 39 #[v] ∧ W.ownsRow (N + 3) 50 1 v pre.length (lensV way pre) ∧ (∀ g, v.ownBlock = some g → ¬ S g) ∧ N + 3 ≤ W.heap.size ∧ Below N w W)
    (fun _ _ _ _ => False)
    ?hI (fun c _ _ _ _ _ h _ _ _ => h) ⟨_, B0.out, B1.out, World.ownsRow_nil _ _ _ _, (fun g h => by cases h), by omega, HB4.out⟩
    (fun pre S x a' W => ∃ Bx v, w4.heap.size ≤ Bx ∧ ¬ S Bx ∧ Blk W Bx 48 x.2.cells ∧ Blk W N 3 #[.int .i64 way] ∧ Blk W (N + 1) 39 #[v] ∧ W.ownsRow (N + 3) 50 1 v pre.length (lensV way pre) ∧ (∀ g, v.ownBlock = some g → ¬ S g) ∧ N + 3 ≤ W.heap.size ∧ Below N w W ∧ a' = { tmps := ((Tm.setIfInBounds 20 (.int .i64 x.1)).setIfInBounds 21 x.2.v).setIfInBounds 8 (.pointer (some ⟨Bx, 0, none⟩)), defers := [] })
    ?hAx ?assign ?body ?done ?stop
  case hI =>
    intro pre S S' X Y ⟨v, h0, h1, h2, h3, h4, h5⟩ hS hK hS'
    have nb : ∀ k, k < N + 3 → ¬ S k := fun k h hs => by have := (hS k hs).1; omega
    exact ⟨v, h0.keep hK (nb _ (by omega)), h1.keep hK (nb _ (by omega)), row_keep h2 hK h3, (fun g hg hs => (hS' g hs).elim (h3 g hg) (fun h => by have := (row_lt h2 g hg).2; omega)), by have := hK.size; omega, h5.trans (hK.below (by omega) (fun k hk => nb k (by omega)))⟩
  case hAx =>
    intro pre S x a' X lb o ⟨Bx, v, g1, g2, g3, g4, g5, h2, h3, h4, h5, g8⟩ hSl hS
    have hlb := (hS _ hSl).1
    have hK : Kept (fun k => k ≠ lb) X (X.putObj lb o) := Kept.putObj X (fun h => h rfl) o
    exact ⟨Bx, v, g1, g2, g3.put (fun e => g2 (e ▸ hSl)) _, g4.put (by omega) _, g5.put (by omega) _, row_keep h2 hK (fun g hg e => h3 g hg (e ▸ hSl)), h3, by simp [World.putObj]; omega, h5.trans (hK.below (by omega) (fun k hk => by show k ≠ lb; omega)), g8⟩
  case assign =>
    rintro l' pre S x W5 K ⟨v, h0, h1, h2, h3, h4, h5⟩ hW5 hS5 hpre hK
    subst hTm hD
    have hB := Blk.new W5 48 x.2.cells
    have H := hK _ _ (Kept.alloc _ _ _) ⟨W5.heap.size, v, by omega, (fun h => by have := (hS5 _ h).2; omega), hB, h0.alloc _, h1.alloc _, h2.alloc _, h3, by rw [World.size_alloc]; omega, h5.alloc (by omega) _, rfl⟩
    clear hK hB h0 h1 h2 h3 h5
    obtain ⟨xi, tx, va, vb, vc, vf, vt⟩ := x
    dsimp only at H
    simp only [List.setIfInBounds_toArray, List.set_cons_succ, List.set_cons_zero] at H
    gi_wp2
    exact H
  case body =>
    rintro l' pre S x a' W5 hSl ⟨rec, hrec⟩ hW5 hS5 hpre ⟨Bx, v, hBx, hSB, kx, k0, k1, h2, h3, h4, h5, rfl⟩
    have hxm : x.2 ∈ L := eachL_mem L 0 x (hpre.subset (by simp))
    have hts := HLs.out x.2 hxm
    have hlen : pre.length < 70000 := by
      have h := hpre.length_le
      rw [List.length_append, List.length_singleton, eachL_len] at h
      omega
    have hln := lenN_le way x.2 hts
    have hE : Hid (lensV way (pre ++ [x]) = lensV way pre ++ [fltN (lenN way x.2)] ∧ (pre ++ [x]).length = pre.length + 1) := hid ⟨by unfold lensV; simp, by simp⟩
    obtain ⟨xi, tx, va, vb, vc, vf, vt⟩ := x
    dsimp only at kx hts
    obtain ⟨m, hm⟩ : ∃ m, lenN way ⟨tx, va, vb, vc, vf, vt⟩ = m := ⟨_, rfl⟩
    dsimp only at hE hln
    rw [hm] at hE hln
    have HM := hid hm
    have c0 := kx.cell (k := 0) rfl
    have d0 := k0.cell (k := 0) rfl
    try dsimp only at c0
    have KX := hid kx
    have K0 := hid k0
    have K1 := hid k1
    have H2 := hid h2
    have H3 := hid h3
    have H5 := hid h5
    have HS5 := hid hS5
    have hbx := kx.lt
    subst hTm hD
    dsimp only
    simp only [List.setIfInBounds_toArray, List.set_cons_succ, List.set_cons_zero]
    clear kx k0 k1 h2 h3 h5 hm hseq hrec hpre hSl hSB hxm hS5
    have hfin : ∀ (W6 : World), Below W5.heap.size W5 W6 → (Code.wpIn (Fence.wide.inRound l') 7 Tryz.prog (.skip) (fun _ _ _ => True) { tmps := #[], defers := [] } W6 → True) := fun _ _ _ => trivial
    clear hfin
    have hsh : ∃ p c, v = .slice p pre.length c := by
      rcases H2.out.2 with ⟨h1, h2⟩ | ⟨g', cap', cur, h1, _⟩
      · exact ⟨none, 0, by rw [h1, h2]⟩
      · exact ⟨_, _, h1⟩
    obtain ⟨p, c, rfl⟩ := hsh
    obtain ⟨i0, hi, hz0, hz1, hz2⟩ := info_parts infoF
    have n1 : Hid (¬ ((N + 1 = N + 2 ∨ N + 1 = pb ∨ N + 1 = g) ∨ S (N + 1))) := hid (fun h => h.elim (fun h => by rcases h with h | h | h <;> omega) (fun h => by have := (HS5.out _ h).1; omega))
    have hRow : Hid (∀ g', Value.ownBlock (.slice p pre.length c) = some g' → ¬ ((g' = N + 2 ∨ g' = pb ∨ g' = g) ∨ S g')) := hid (fun g' hg' h => h.elim (fun h => by have := (row_lt H2.out g' hg').1; rcases h with h | h | h <;> omega) (H3.out g' hg'))
    have hnb : Hid (Value.ownBlock (.slice p pre.length c) ≠ some (N + 1)) := hid (fun h => by have := (row_lt H2.out _ h).1; omega)
    have hw3 : way = 1 ∨ way = 2 ∨ way = 3 := by omega
    -- what is left behind the line's length
    have fin : Hid (∀ (W6 W7 : World) (tmp : Obj) (p' : Option Addr) (c' : Nat), Below W5.heap.size W5 W6 → W7.ownsRow (N + 3) 50 1 (.slice p' (pre.length + 1) c') (pre.length + 1) (lensV way pre ++ [fltN m]) → (W6.alloc tmp).grownBy W7 (Value.ownBlock (.slice p pre.length c)) →
        (Value.ownBlock (.slice p' (pre.length + 1) c') = Value.ownBlock (.slice p pre.length c) ∨ Value.ownBlock (.slice p' (pre.length + 1) c') = some (W6.alloc tmp).heap.size) →
        W7.cell? ⟨N + 1, 0, none⟩ = some (.slice p pre.length c) ∧ W7.frozen? ⟨N + 1, 0, none⟩ = false ∧
        (Kept (fun k => (k = N + 2 ∨ k = pb ∨ k = g) ∨ S k) W5 (W7.setCell ⟨N + 1, 0, none⟩ (.slice p' (pre.length + 1) c')) ∧ ∃ v, Blk (W7.setCell ⟨N + 1, 0, none⟩ (.slice p' (pre.length + 1) c')) N 3 #[.int .i64 way] ∧ Blk (W7.setCell ⟨N + 1, 0, none⟩ (.slice p' (pre.length + 1) c')) (N + 1) 39 #[v] ∧
          (W7.setCell ⟨N + 1, 0, none⟩ (.slice p' (pre.length + 1) c')).ownsRow (N + 3) 50 1 v (pre.length + 1) (lensV way pre ++ [fltN m]) ∧ (∀ g, v.ownBlock = some g → ¬ S g) ∧ N + 3 ≤ (W7.setCell ⟨N + 1, 0, none⟩ (.slice p' (pre.length + 1) c')).heap.size ∧ Below N w (W7.setCell ⟨N + 1, 0, none⟩ (.slice p' (pre.length + 1) c')))) := hid (fun W6 W7 tmp p' c' hb hown hgr hbk => by
      have hs6 := hb.size
      have hs7 := hgr.size
      rw [World.size_alloc] at hs7
      have hKt : ∀ T : Nat → Prop, (∀ r, Value.ownBlock (.slice p pre.length c) = some r → ¬ T r) → Kept T W5 W7 := fun T hT => ((Kept.of_all hb T).trans (Kept.alloc T W6 tmp)).trans (Kept.grown hgr hT)
      have k1 : Blk W7 (N + 1) 39 #[.slice p pre.length c] := K1.out.keep (hKt (fun k => k = N + 1) (fun r hr e => hnb.out (e ▸ hr))) rfl
      have k0 : Blk W7 N 3 #[.int .i64 way] := K0.out.keep (hKt (fun k => k = N) (fun r hr e => by have := (row_lt H2.out r hr).1; omega)) rfl
      have hbl : ∀ g', Value.ownBlock (.slice p' (pre.length + 1) c') = some g' → g' ≠ N + 1 := fun g' hg' => by have := (row_lt hown g' hg').1; omega
      refine ⟨k1.cell rfl, k1.froz 0, (hKt _ (fun r hr => hRow.out r hr)).trans (Kept.setCell _ (by exact n1.out) _), _, k0.other (by omega) _, k1.upd _ _ rfl, row_keep hown (Kept.setCell (T := fun k => k ≠ N + 1) W7 (fun h => h rfl) _) (fun g' hg' => hbl g' hg'), ?_, by simp [World.setCell]; omega, ?_⟩
      · intro g' hg' hs
        rcases hbk with h | h
        · exact H3.out g' (h ▸ hg') hs
        · rw [h] at hg'
          have := (HS5.out _ hs).2
          have e := Option.some.inj hg'
          rw [World.size_alloc] at e
          omega
      · exact (H5.out.trans ((hKt (fun k => k < N) (fun r hr h => by have := (row_lt H2.out r hr).1; omega)).below (by omega) (fun k hk => hk))).setCell (p := ⟨N + 1, 0, none⟩) (by show N ≤ N + 1; omega) _)
    have kf := K1.out.cell (k := 0) rfl
    have zf := K1.out.froz 0
    try dsimp only at kf
    rcases hw3 with rfl | rfl | rfl
    · have hv : m = tx.size := by have := HM.out; unfold lenN at this; simpa using this.symm
      subst hv
      gi_wp2_with (gi_at_builtin; refine stop_app rfl ?_)
      refine hid ?_
      refine wpListIn_append_own_at _ rfl _ _ 39 rfl (N + 3) 50 i0 _ 1 8 Tryz.underlying39 hi hz0 hz1 hz2 rfl (by decide) _ _ _ rfl (H2.out.alloc _) ⟨W5.heap.size, 0, none⟩ 1 1 [fltN tx.size] rfl rfl (cell_one_new _ _ _) (by simp [fltN, Value.oneCell']) (by unfold maxLen; omega) (by omega) (by rw [World.size_alloc]; omega) ?_
      intro v' W7 hown' hgrow _ hblk
      obtain ⟨g', cap', rfl⟩ := ownsRow_succ hown'
      obtain ⟨f1, f2, f3⟩ := fin.out W5 W7 _ _ _ (Below.refl _ _) hown' hgrow hblk
      have F3 := hid f3
      clear f3 hown' hgrow hblk
      gi_wp2_with fail
      show _ ∧ ∃ v, _ ∧ _ ∧ World.ownsRow _ _ _ _ v (pre ++ [(xi, (⟨tx, va, vb, vc, vf, vt⟩ : Vs))]).length (lensV _ (pre ++ [(xi, (⟨tx, va, vb, vc, vf, vt⟩ : Vs))])) ∧ _
      rw [hE.out.1, hE.out.2]
      exact F3.out
    · have hv : m = (posL tx 0).length := by have := HM.out; unfold lenN at this; simpa using this.symm
      subst hv
      have hC := hid (rcount35 tx (by omega) W5)
      gi_wp2_with (gi_at_builtin; refine stop_app rfl ?_)
      refine ⟨trivial, ?_⟩
      with_reducible refine (CallsIn.inRound l' (callsIn_wide.2 hC.out)).mono ?_
      rintro e W6 ⟨rfl, hb6⟩
      have hs6 := hb6.size
      have R6 := hid (row_keep H2.out (Kept.of_all hb6 (fun _ => True)) (fun _ _ => trivial))
      have kf6 := (K1.out.low hb6).cell (k := 0) rfl
      try dsimp only at kf6
      have HB6 := hid hb6
      clear hb6 kf zf hC
      gi_wp2_with (gi_at_builtin; refine stop_app rfl ?_)
      refine hid ?_
      refine wpListIn_append_own_at _ rfl _ _ 39 rfl (N + 3) 50 i0 _ 1 8 Tryz.underlying39 hi hz0 hz1 hz2 rfl (by decide) _ _ _ rfl (R6.out.alloc _) ⟨W6.heap.size, 0, none⟩ 1 1 [fltN (posL tx 0).length] rfl rfl (cell_one_new _ _ _) (by simp [fltN, Value.oneCell']) (by unfold maxLen; omega) (by omega) (by rw [World.size_alloc]; omega) ?_
      intro v' W7 hown' hgrow _ hblk
      obtain ⟨g', cap', rfl⟩ := ownsRow_succ hown'
      obtain ⟨f1, f2, f3⟩ := fin.out W6 W7 _ _ _ HB6.out hown' hgrow hblk
      have F3 := hid f3
      clear f3 hown' hgrow hblk
      gi_wp2_with fail
      show _ ∧ ∃ v, _ ∧ _ ∧ World.ownsRow _ _ _ _ v (pre ++ [(xi, (⟨tx, va, vb, vc, vf, vt⟩ : Vs))]).length (lensV _ (pre ++ [(xi, (⟨tx, va, vb, vc, vf, vt⟩ : Vs))])) ∧ _
      rw [hE.out.1, hE.out.2]
      exact F3.out
    · have hv : m = (wordsL tx).length := by have := HM.out; unfold lenN at this; simpa using this.symm
      subst hv
      have hC := hid (wcount36 HOf.out tx (by omega) W5)
      gi_wp2_with (gi_at_builtin; refine stop_app rfl ?_)
      refine ⟨trivial, ?_⟩
      with_reducible refine (CallsIn.inRound l' (callsIn_wide.2 hC.out)).mono ?_
      rintro e W6 ⟨rfl, hb6⟩
      have hs6 := hb6.size
      have R6 := hid (row_keep H2.out (Kept.of_all hb6 (fun _ => True)) (fun _ _ => trivial))
      have kf6 := (K1.out.low hb6).cell (k := 0) rfl
      try dsimp only at kf6
      have HB6 := hid hb6
      clear hb6 kf zf hC
      gi_wp2_with (gi_at_builtin; refine stop_app rfl ?_)
      refine hid ?_
      refine wpListIn_append_own_at _ rfl _ _ 39 rfl (N + 3) 50 i0 _ 1 8 Tryz.underlying39 hi hz0 hz1 hz2 rfl (by decide) _ _ _ rfl (R6.out.alloc _) ⟨W6.heap.size, 0, none⟩ 1 1 [fltN (wordsL tx).length] rfl rfl (cell_one_new _ _ _) (by simp [fltN, Value.oneCell']) (by unfold maxLen; omega) (by omega) (by rw [World.size_alloc]; omega) ?_
      intro v' W7 hown' hgrow _ hblk
      obtain ⟨g', cap', rfl⟩ := ownsRow_succ hown'
      obtain ⟨f1, f2, f3⟩ := fin.out W6 W7 _ _ _ HB6.out hown' hgrow hblk
      have F3 := hid f3
      clear f3 hown' hgrow hblk
      gi_wp2_with fail
      show _ ∧ ∃ v, _ ∧ _ ∧ World.ownsRow _ _ _ _ v (pre ++ [(xi, (⟨tx, va, vb, vc, vf, vt⟩ : Vs))]).length (lensV _ (pre ++ [(xi, (⟨tx, va, vb, vc, vf, vt⟩ : Vs))])) ∧ _
      rw [hE.out.1, hE.out.2]
      exact F3.out
  case done =>
    rintro Dk W9 hDk ⟨v, h0, h1, h2, h3, h4, h5⟩ hK
    have hK0 := hid hK
    have hDl := at_lt hK
    have d1 := h1.cell (k := 0) rfl
    have H2 := hid (row_keep h2 (Kept.putObj (T := fun k => k ≠ Dk) W9 (fun h => h rfl) (.deferred none)) h3)
    have H5 := hid h5
    subst hTm hD
    clear h0 h1 h2 h3 h5 hK hseq
    gi_wp2_with fail
    refine ⟨by simp, .inl ⟨_, _, rfl, run_takeDeferred hK0.out, ?_⟩⟩
    refine ⟨.tuple #[v, .int .i64 0], (by simp [results, Tryz.results10, go_sem]), ?_, v, rfl, ?_⟩
    · rw [← HNN.out]
      exact H5.out.trans ((Kept.putObj (T := fun k => k < N) W9 (by show ¬ (Dk < N); omega) _).below (by omega) (fun k hk => hk))
    · have h := H2.out
      rw [eachL_len] at h
      obtain ⟨h1, h2⟩ := h
      refine ⟨h1, ?_⟩
      rcases h2 with h2 | ⟨g', cap', cur, e, hb, r⟩
      · exact .inl h2
      · exact .inr ⟨g', cap', cur, e, by rw [← HNN.out]; omega, r⟩
  case stop =>
    rintro Dk c pre W9 hDk hpre h hK
    exact h.elim
end Go.Proofs.YtmpkfpabejpbkaaGreatDoor
