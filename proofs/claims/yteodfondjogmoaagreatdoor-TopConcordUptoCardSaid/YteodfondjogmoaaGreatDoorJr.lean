/- cluster.all and cluster.Count at the text that canticletop.wakes names. Conditions: those of each theorem. -/
import Derived.Test.YteodfondjogmoaaGreatDoorJq
import Derived.Test.YteodfondjogmoaaGreatDoorJg
import Derived.Test.YteodfondjogmoaaGreatDoorJi
import Derived.Test.YteodfondjogmoaaGreatDoorJm
namespace Go.Proofs.YteodfondjogmoaaGreatDoor
open Go Go.RowKit Go.Lib Go.Shelf Go.Maps
set_option linter.unusedVariables false
set_option linter.unusedSimpArgs false
attribute [local go_sem] Oper.semAt_some C.Ext.cell C.Ext.froz
theorem each198_seq (hOf : OfOk) (kb : Nat) (w : World) (hc : w.cell? ⟨kb, 0, none⟩ = some (.string clB)) :
    SeqS Fence.wide 9 Tryz.prog 195 #[.pointer (some ⟨kb, 0, none⟩)] (fun x => #[.agg #[.int .i64 x.1, .int .i64 x.2.1, .int .i64 x.2.2]]) (fun k => k = kb) clAll w := fun l J Jx W hW hJ hX hY h0 =>
  each198 hOf l kb (fun k => k = kb) rfl J Jx W hJ hX hY ((hW.cell (p := ⟨kb, 0, none⟩) (World.block_lt_of_cell? w _ hc)).trans hc) h0
theorem info267 : (Tryz.prog.info? 267).map (fun i => (i.zero, i.size, i.bytes)) = some (some (.agg #[.int .i64 0, .int .i64 0, .int .i64 0]), 3, 24) := by kernel_rfl
theorem cells_new3' (w : World) (a0 a1 a2 : Value) (T : TypeId) : ∀ j u, [a0, a1, a2][j]? = some u → (w.alloc (.cells #[a0, a1, a2] T)).cell? ((⟨w.heap.size, 0, none⟩ : Addr).add j) = some u := by
  intro j u hj
  match j, hj with
  | 0, hj => simp at hj; subst hj; simp [Addr.add]
  | 1, hj => simp at hj; subst hj; simp [Addr.add]
  | 2, hj => simp at hj; subst hj; simp [Addr.add]
abbrev ceZ (x : Ce3) : Array Value := #[.int .i64 x.1, .int .i64 x.2.1, .int .i64 x.2.2]
set_option maxHeartbeats 8000000 in
theorem all132 (hOf : OfOk) (w : World) : Calls Tryz.prog 129 #[.string clB] w fun e w' => (∃ a c, e = .returned (.slice a 2 c)) ∧ Below w.heap.size w w' := by
  obtain ⟨i0, hi, hz0, hz1, hz2⟩ := info_parts info267
  refine (callsIn_wide (n := 10)).1 ?_
  refine callsIn_of_wp_marks Tryz.func129 rfl trivial ?_ rfl
  simp only [Tryz.ntmps129, List.size_toArray, List.length_cons, List.length_nil, Nat.reduceAdd, Nat.reduceSub, Array.replicate_succ, Array.replicate_zero, List.push_toArray, List.append_toArray, List.nil_append, List.cons_append]
  have hP := hid (fun W => each170 clB W)
  gi_wp2_with fail
  refine ⟨trivial, ?_⟩
  with_reducible refine CallsIn.mono (callsIn_wide.2 (hP.out _)) ?_
  rintro e w4 ⟨rfl, hw4⟩
  obtain ⟨N, hNN⟩ : ∃ N, N = w.heap.size := ⟨_, rfl⟩
  have b0 : Blk w4 N 212 #[.slice none 0 0] := by rw [hw4, hNN]; exact (Blk.new w 212 #[.slice none 0 0]).alloc _
  have b1 : Blk w4 (N + 1) 9 #[.string clB] := by
    have := Blk.new (w.alloc (.cells #[.slice none 0 0] 212)) 9 #[.string clB]
    rw [World.size_alloc] at this
    rw [hw4, hNN]; exact this
  have hN : w4.heap.size = N + 2 := by rw [hw4, hNN]; simp
  have hB4 : Below N w w4 := by rw [hw4, hNN]; exact ((Below.refl _ w).alloc (Nat.le_refl _) _).alloc (by simp) _
  have B0 := hid b0
  have B1 := hid b1
  have HB4 := hid hB4
  simp only [World.size_alloc, Nat.add_assoc, Nat.reduceAdd]
  rw [← hNN]
  have HNN := hid hNN
  clear hw4 hP b0 b1 hB4 hNN
  gi_wp2_with fail
  refine name_actZ ?_
  intro Tm D hTm hD
  have hseq := each198_seq hOf (N + 1) w4 (B1.out.cell (k := 0) rfl)
  refine rangeFunc_s (F := Fence.wide) (α := Ce3) rfl (by omega) (gf := 195) (lb := #[.pointer (some ⟨N + 1, 0, none⟩)]) (by subst hTm; rfl) trivial (enters_of Tryz.func195 (by kernel_rfl) rfl)
    hseq (fun k hk => by omega) (Below.refl _ _) (fun _ => rfl)
    (fun pre S W => ∃ v xs, Blk W N 212 #[v] ∧ W.ownsRow (N + 2) 267 3 v pre.length xs ∧ (∀ g, v.ownBlock = some g → ¬ S g) ∧ N + 2 ≤ W.heap.size ∧ Below N w W)
    (fun _ _ _ _ => False)
    ?hI (fun c _ _ _ _ _ h _ _ _ => h) ⟨_, [], B0.out, World.ownsRow_nil _ _ _ _, fun g hg => by simp [Value.ownBlock] at hg, by omega, HB4.out⟩
    (fun pre S x a' W => ∃ Bx v xs, w4.heap.size ≤ Bx ∧ ¬ S Bx ∧ Blk W Bx 267 (ceZ x) ∧ Blk W N 212 #[v] ∧ W.ownsRow (N + 2) 267 3 v pre.length xs ∧ (∀ g, v.ownBlock = some g → ¬ S g ∧ g ≠ Bx) ∧ N + 2 ≤ W.heap.size ∧ Below N w W ∧ a' = { tmps := (Tm.setIfInBounds 7 (.agg (ceZ x))).setIfInBounds 4 (.pointer (some ⟨Bx, 0, none⟩)), defers := [] })
    ?hAx ?assign ?body ?done ?stop
  case hI =>
    rintro pre S S' X Y ⟨v, xs, h1, h2, h3, h4, h5⟩ hS hK hS'
    have nb : ∀ k, k < N + 2 → ¬ S k := fun k h hs => by have := (hS k hs).1; omega
    refine ⟨v, xs, h1.keep hK (nb _ (by omega)), row_keep h2 hK h3, fun g hg hs => ?_, by have := hK.size; omega, h5.trans (hK.below (by omega) (fun k hk => nb k (by omega)))⟩
    rcases hS' g hs with h | h
    · exact h3 g hg h
    · have := (h2.lt g hg).2; omega
  case hAx =>
    rintro pre S x a' X lb o ⟨Bx, v, xs, g1, g2, g3, g4, g5, g6, g7, g8, g9⟩ hSl hS
    have hlb := (hS _ hSl).1
    exact ⟨Bx, v, xs, g1, g2, g3.put (fun e => g2 (e ▸ hSl)) _, g4.put (by omega) _, row_keep g5 (Kept.putObj (T := fun k => k ≠ lb) X (fun h => h rfl) o) (fun g hg e => (g6 g hg).1 (e ▸ hSl)), g6, by simp [World.putObj]; omega, g8.trans ((Kept.putObj (T := fun k => k < N) X (by show ¬ (lb < N); omega) o).below (by omega) (fun k hk => hk)), g9⟩
  case assign =>
    rintro l' pre S x W5 K ⟨v, xs, h0, h1, h2, h3, h4⟩ hW5 hS5 hpre hK
    subst hTm hD
    have hB := Blk.new W5 267 (ceZ x)
    have H := hK _ _ (Kept.alloc _ _ _) ⟨W5.heap.size, v, xs, by omega, (fun h => by have := (hS5 _ h).2; omega), hB, h0.alloc _, h1.alloc _, fun g hg => ⟨h2 g hg, by have := (h1.lt g hg).2; omega⟩, by rw [World.size_alloc]; omega, h4.alloc (by omega) _, rfl⟩
    clear hK hB h0 h1 h2 h4
    obtain ⟨x0, x1, x2⟩ := x
    dsimp only at H
    simp only [List.setIfInBounds_toArray, List.set_cons_succ, List.set_cons_zero] at H
    gi_wp2
    exact H
  case body =>
    rintro l' pre S x a' W5 hSl ⟨rec, hrec⟩ hW5 hS5 hpre ⟨Bx, v, xs, hBx, hSB, kx, k0, h1, h2, h3, h4, rfl⟩
    have hlen : pre.length < 3 := by
      have h := hpre.length_le
      rw [List.length_append, List.length_singleton] at h
      have : clAll.length = 2 := rfl
      omega
    obtain ⟨x0, x1, x2⟩ := x
    have c0 : W5.cell? ⟨Bx, 0, none⟩ = some (.int .i64 x0) := kx.cell (k := 0) rfl
    have c1 : W5.cell? ⟨Bx, 1, none⟩ = some (.int .i64 x1) := kx.cell (k := 1) rfl
    have c2 : W5.cell? ⟨Bx, 2, none⟩ = some (.int .i64 x2) := kx.cell (k := 2) rfl
    obtain ⟨va, vc, rfl⟩ := own_sl h1
    have d0 : W5.cell? ⟨N, 0, none⟩ = some (.slice va pre.length vc) := k0.cell (k := 0) rfl
    have hE : Hid ((pre ++ [(x0, x1, x2)]).length = pre.length + 1) := hid (by simp)
    have K0 := hid k0
    have H1 := hid h1
    have H2 := hid h2
    have H4 := hid h4
    have HS5 := hid hS5
    clear k0 h1 h2 h4 hseq kx hrec
    subst hTm hD
    dsimp only
    simp only [List.setIfInBounds_toArray, List.set_cons_succ, List.set_cons_zero]
    gi_wp2_with (gi_at_builtin; refine stop_app rfl ?_)
    refine hid ?_
    refine wpListIn_append_own_at _ rfl _ _ 212 rfl (N + 2) 267 i0 _ 3 24 Tryz.underlying212 hi hz0 hz1 hz2 rfl (by decide) (.slice va pre.length vc) pre.length xs rfl (H1.out.alloc _) ⟨W5.heap.size, 0, none⟩ 1 1 [.int .i64 x0, .int .i64 x1, .int .i64 x2] rfl rfl (cells_new3' W5 _ _ _ _) (by simp [Value.oneCell']) (by unfold maxLen; omega) (by omega) (by rw [World.size_alloc]; omega) ?_
    intro v' W7 hown' hgrow _ hblk
    have hKg : Kept (fun q => Value.ownBlock (.slice va pre.length vc) ≠ some q) W5 W7 := (Kept.alloc _ _ _).trans (Kept.grown hgrow (fun r hr h => h hr))
    have hvN : Value.ownBlock (.slice va pre.length vc) ≠ some N := fun e => by have := (H1.out.lt N e).1; omega
    have k07 := K0.out.keep hKg hvN
    obtain ⟨gv, cv, rfl⟩ := ownsRow_succ hown'
    have z0 : W7.frozen? ⟨N, 0, none⟩ = false := k07.froz 0
    have e0 : W7.cell? ⟨N, 0, none⟩ = some (.slice va pre.length vc) := k07.cell (k := 0) rfl
    have KN := hid (k07.upd 0 (.slice (some ⟨gv, 0, none⟩) (pre.length + 1) cv) rfl)
    have HO := hid hown'
    have HG := hid hKg
    have hgv : gv ≠ N ∧ ¬ S gv := by
      have h5 := hown'.lt gv rfl
      refine ⟨by omega, fun hs => ?_⟩
      rcases hblk with e | e
      · exact H2.out gv (by rw [← e]; rfl) |>.1 hs
      · have : gv = (W5.alloc (.cells #[.int .i64 x0, .int .i64 x1, .int .i64 x2] 267)).heap.size := Option.some.inj e
        rw [World.size_alloc] at this
        have := (HS5.out gv hs).2; omega
    clear hown' hgrow hblk hKg k07 c0 c1 c2 d0
    gi_wp2_with fail
    have hKF : Kept (fun q => Value.ownBlock (.slice va pre.length vc) ≠ some q ∧ q ≠ N) W5 (W7.setCell ⟨N, 0, none⟩ (.slice (some ⟨gv, 0, none⟩) (pre.length + 1) cv)) := (HG.out.mono (fun q _ h => h.1)).trans (Kept.setCell _ (fun h => h.2 rfl) _)
    show Kept _ _ _ ∧ ∃ v xs, _
    refine ⟨hKF.mono (fun q _ h => ?_), _, _, KN.out, (by rw [hE.out]; exact row_keep HO.out (Kept.setCell (T := fun q => q ≠ N) _ (p := ⟨N, 0, none⟩) (fun h => h rfl) _) (fun g hg e => by have := (HO.out.lt g hg).1; omega)), fun g hg => ?_, by have := hKF.size; omega, H4.out.trans (hKF.below (by omega) (fun q hq => ⟨fun e => by have := (H1.out.lt q e).1; omega, by omega⟩))⟩
    · rcases h with rfl | h
      · exact ⟨fun e => by have := (H1.out.lt _ e).1; omega, by omega⟩
      · exact ⟨fun e => (H2.out q e).1 h, fun e => by have := (HS5.out q h).1; omega⟩
    · obtain rfl : gv = g := by simpa [Value.ownBlock] using hg
      exact hgv.2
  case done =>
    rintro Dk W9 hDk ⟨v, xs, h0, h1, h2, h3, h4⟩ hK
    obtain ⟨va, vc, rfl⟩ := own_sl h1
    have d0 : W9.cell? ⟨N, 0, none⟩ = some (.slice va 2 vc) := h0.cell (k := 0) rfl
    have hK0 := hid hK
    have H4 := hid h4
    clear h0 h1 h2 h4 hK hseq
    subst hTm hD
    gi_wp2_with fail
    refine ⟨by simp, .inl ⟨_, _, rfl, run_takeDeferred hK0.out, ?_⟩⟩
    exact ⟨.slice va 2 vc, by simp [results, Tryz.results129, go_sem], ⟨va, vc, rfl⟩, by rw [← HNN.out]; exact H4.out.trans ((Kept.putObj (T := fun k => k < N) W9 (by show ¬ (Dk < N); omega) _).below (by have := H4.out.size; have := HNN.out; omega) (fun k hk => hk))⟩
  case stop => exact fun _ _ _ _ _ _ h _ => h.elim
theorem count86 (hOf : OfOk) (w : World) : Calls Tryz.prog 83 #[.string clB] w fun e w' => e = .returned (.int .i64 2) ∧ Below w.heap.size w w' := by
  have hA := hid (fun W => all132 hOf W)
  go_enter Tryz.func83, Tryz.ntmps83
  go_wp2_with fail
  with_reducible refine Calls.mono (hA.out _) ?_
  rintro e w2 ⟨⟨a, c, rfl⟩, hb⟩
  go_wp2_with fail
  go_ret
  exact ⟨rfl, hb⟩
end Go.Proofs.YteodfondjogmoaaGreatDoor
/- canticletop.wakes answers true. Conditions: those of each theorem. -/
namespace Go.Proofs.YteodfondjogmoaaGreatDoor
open Go Go.RowKit Go.Lib Go.Shelf Go.Maps
set_option linter.unusedVariables false
set_option linter.unusedSimpArgs false
attribute [local go_sem] Oper.semAt_some C.Ext.cell C.Ext.froz
def ruB : ByteArray := ⟨#[97, 195, 169, 255]⟩
theorem posL_ru : posL ruB 0 = [0, 1, 3] := by
  rw [posL_more (by decide +kernel), show 0 + wdN ruB 0 = 1 by decide +kernel, posL_more (by decide +kernel), show 1 + wdN ruB 1 = 3 by decide +kernel, posL_more (by decide +kernel), show 3 + wdN ruB 3 = 4 by decide +kernel, posL_end (by decide +kernel)]
theorem ru_at : pcV ruB 1 = .agg #[.int .i64 1, .int .i64 2, .int .i32 233, .bool false] ∧ (([0, 1, 3] : List Nat).filter (isBr ruB)).length = 1 := by
  refine ⟨by kernel_rfl, by decide +kernel⟩
def wdB : ByteArray := ⟨#[68, 111, 110, 39, 116, 32, 103, 111, 44, 32, 109, 111, 116, 104, 101, 114, 45, 105, 110, 45, 108, 97, 119]⟩
def stB : ByteArray := ⟨#[83, 116, 114, 97, 195, 159, 101]⟩
theorem st_fold : foldB stB = ⟨#[115, 116, 114, 97, 115, 115, 101]⟩ := by decide +kernel
theorem wd_len : (wordsL wdB).length = 3 := by decide +kernel
theorem fold1 (T : Array Value) (i : Tmp) (v : Value) : (#[i].zip #[v]).foldl (fun t (p, v) => t.setIfInBounds p v) T = T.setIfInBounds i v := by simp
set_option maxRecDepth 100000 in
set_option maxHeartbeats 8000000 in
theorem wakes47 (w : World) : Calls Tryz.prog 44 #[] w fun e w' => e = .returned (.bool true) ∧ Below w.heap.size w w' := by
  have hRC : Hid (∀ W, Calls Tryz.prog 77 #[.string ⟨#[97, 195, 169, 255]⟩] W fun e w' => e = .returned (.tuple #[.int .i64 3, .int .i64 1]) ∧ Below W.heap.size W w') := hid (fun W => by
    have h := rcount35 ruB (by decide) W
    rw [posL_ru, ru_at.2] at h
    exact h)
  have hAt : Hid (∀ W, Calls Tryz.prog 81 #[.string ⟨#[97, 195, 169, 255]⟩, .int .i64 1] W fun e w' => e = .returned (.tuple #[.agg #[.int .i64 1, .int .i64 2, .int .i32 233, .bool false], .int .i64 0]) ∧ Below W.heap.size W w') := hid (fun W => by
    have h := at84 ruB 1 (by decide) (by decide) W
    rw [ru_at.1] at h
    exact h)
  have hFo : Hid (∀ W, Calls Tryz.prog 39 #[.string ⟨#[83, 116, 114, 97, 195, 159, 101]⟩] W fun e w' => e = .returned (.string ⟨#[115, 116, 114, 97, 115, 115, 101]⟩) ∧ Below W.heap.size W w') := hid (fun W => by
    have h := fold40 stB (by decide) W
    rw [st_fold] at h
    exact h)
  have hCl : Hid (∀ W, Calls Tryz.prog 83 #[.string ⟨#[101, 204, 129, 120]⟩] W fun e w' => e = .returned (.int .i64 2) ∧ Below W.heap.size W w') := hid (fun W => count86 of_ok W)
  have hWd : Hid (∀ W, Calls Tryz.prog 82 #[.string ⟨#[68, 111, 110, 39, 116, 32, 103, 111, 44, 32, 109, 111, 116, 104, 101, 114, 45, 105, 110, 45, 108, 97, 119]⟩] W fun e w' => e = .returned (.func (.func 127) #[] #[.pointer (some ⟨W.heap.size, 0, none⟩)]) ∧ w' = W.alloc (.cells #[.string wdB] 9)) := hid (fun W => words27 wdB W)
  refine (callsIn_wide (n := 10)).1 ?_
  refine callsIn_of_wp_marks Tryz.func44 rfl trivial ?_ rfl
  simp only [Tryz.ntmps44, List.size_toArray, List.length_cons, List.length_nil, Nat.reduceAdd, Nat.reduceSub, Array.replicate_succ, Array.replicate_zero, List.push_toArray, List.append_toArray, List.nil_append, List.cons_append]
  gi_wp2_with fail
  refine ⟨trivial, ?_⟩
  with_reducible refine CallsIn.mono (callsIn_wide.2 (hRC.out _)) ?_
  rintro e w1 ⟨rfl, hb1⟩
  gi_wp2_with fail
  refine ⟨trivial, ?_⟩
  with_reducible refine CallsIn.mono (callsIn_wide.2 (hAt.out _)) ?_
  rintro e w2 ⟨rfl, hb2⟩
  have HB2 := hid (hb1.trans (hb2.mono hb1.size))
  clear hb1 hb2
  gi_wp2_with fail
  refine ⟨trivial, ?_⟩
  with_reducible refine CallsIn.mono (callsIn_wide.2 (hWd.out _)) ?_
  rintro e w4 ⟨rfl, hw4⟩
  obtain ⟨N, hNN⟩ : ∃ N, N = w2.heap.size := ⟨_, rfl⟩
  have b0 : Blk w4 N 149 #[.int .i64 1, .int .i64 2, .int .i32 233, .bool false] := by rw [hw4, hNN]; exact ((Blk.new w2 149 _).alloc _).alloc _
  have b1 : Blk w4 (N + 1) 3 #[.int .i64 0] := by
    have := (Blk.new (w2.alloc (.cells #[.int .i64 1, .int .i64 2, .int .i32 233, .bool false] 149)) 3 #[.int .i64 0]).alloc (.cells #[.string wdB] 9)
    rw [World.size_alloc] at this
    rw [hw4, hNN]; exact this
  have b2 : Blk w4 (N + 2) 9 #[.string wdB] := by
    have := Blk.new ((w2.alloc (.cells #[.int .i64 1, .int .i64 2, .int .i32 233, .bool false] 149)).alloc (.cells #[.int .i64 0] 3)) 9 #[.string wdB]
    simp only [World.size_alloc, Nat.add_assoc, Nat.reduceAdd] at this
    rw [hw4, hNN]; exact this
  have hN : w4.heap.size = N + 3 := by rw [hw4, hNN]; simp
  have hB4 : Below N w2 w4 := by rw [hw4, hNN]; exact (((Below.refl _ w2).alloc (Nat.le_refl _) _).alloc (by simp) _).alloc (by simp; omega) _
  have B0 := hid b0
  have B1 := hid b1
  have B2 := hid b2
  have HB4 := hid hB4
  simp only [World.size_alloc, Nat.add_assoc, Nat.reduceAdd]
  rw [← hNN]
  have HNN := hid hNN
  clear hw4 b0 b1 b2 hB4 hNN
  gi_wp2_with fail
  refine name_actZ ?_
  intro Tm D hTm hD
  have hseq := words_seq of_ok wdB (by decide) (N + 2) w4 (B2.out.cell (k := 0) rfl)
  refine rangeFunc_s (F := Fence.wide) (α := Tk) rfl (by omega) (gf := 127) (lb := #[.pointer (some ⟨N + 2, 0, none⟩)]) (by subst hTm; rfl) trivial (enters_of Tryz.func127 (by kernel_rfl) rfl)
    hseq (fun k hk => by omega) (Below.refl _ _) (fun _ => rfl)
    (fun pre S W => Blk W N 149 #[.int .i64 1, .int .i64 2, .int .i32 233, .bool false] ∧ Blk W (N + 1) 3 #[.int .i64 (pre.length : Nat)] ∧ N + 3 ≤ W.heap.size ∧ Below N w2 W)
    (fun _ _ _ _ => False)
    ?hI (fun c _ _ _ _ _ h _ _ _ => h) ⟨B0.out, B1.out, by omega, HB4.out⟩
    (fun pre S x a' W => Blk W N 149 #[.int .i64 1, .int .i64 2, .int .i32 233, .bool false] ∧ Blk W (N + 1) 3 #[.int .i64 (pre.length : Nat)] ∧ N + 3 ≤ W.heap.size ∧ Below N w2 W ∧ a' = { tmps := Tm.setIfInBounds 15 x.span, defers := [] })
    ?hAx ?assign ?body ?done ?stop
  case hI =>
    intro pre S S' X Y ⟨h1, h2, h3, h4⟩ hS hK hS'
    have nb : ∀ k, k < N + 3 → ¬ S k := fun k h hs => by have := (hS k hs).1; omega
    exact ⟨h1.keep hK (nb _ (by omega)), h2.keep hK (nb _ (by omega)), by have := hK.size; omega, h4.trans (hK.below (by omega) (fun k hk => nb k (by omega)))⟩
  case hAx =>
    intro pre S x a' X lb o ⟨g4, g5, g6, g7, g8⟩ hSl hS
    have hlb := (hS _ hSl).1
    exact ⟨g4.put (by omega) _, g5.put (by omega) _, by simp [World.putObj]; omega, g7.trans ((Kept.putObj (T := fun k => k < N) X (by show ¬ (lb < N); omega) o).below (by omega) (fun k hk => hk)), g8⟩
  case assign =>
    rintro l' pre S x W5 K ⟨h0, h1, h2, h3⟩ hW5 hS5 hpre hK
    subst hTm hD
    have H := hK _ _ (Kept.refl _ _) ⟨h0, h1, h2, h3, rfl⟩
    clear hK h0 h1 h3
    dsimp only at H ⊢
    rw [fold1]
    simp only [List.setIfInBounds_toArray, List.set_cons_succ, List.set_cons_zero] at H ⊢
    gi_wp2
    exact H
  case body =>
    rintro l' pre S x a' W5 hSl ⟨rec, hrec⟩ hW5 hS5 hpre ⟨k0, k1, h2, h3, rfl⟩
    have hlen : pre.length < 3 := by
      have h := hpre.length_le
      rw [List.length_append, List.length_singleton, wd_len] at h
      omega
    have hE : Hid ((pre ++ [x]).length = pre.length + 1) := hid (by simp)
    have d1 := k1.cell (k := 0) rfl
    have z1 := k1.froz 0
    have G0 := hid k0
    have G1 := hid k1
    have hS2 := hid h3
    have n1 : Hid (¬ ((N + 1 = N + 2) ∨ S (N + 1))) := hid (fun h => h.elim (fun h => by omega) (fun h => by have := (hS5 _ h).1; omega))
    have hw1 : IntKind.i64.wrap ((pre.length : Int) + 1) = ((pre.length : Int) + 1) := IntWalk.i64_in _ (by omega)
    subst hTm hD
    dsimp only
    simp only [List.setIfInBounds_toArray, List.set_cons_succ, List.set_cons_zero]
    clear k0 k1 h3 hpre hrec hseq
    gi_wp2_with fail
    show Kept _ _ _ ∧ (Blk _ N 149 _ ∧ Blk _ (N + 1) 3 #[.int .i64 ((pre ++ [x]).length : Nat)] ∧ _)
    rw [hE.out]
    exact ⟨Kept.setCell _ (by exact n1.out) _, G0.out.other (by omega) _, G1.out.upd _ _ rfl, by simp [World.setCell]; omega, hS2.out.setCell (p := ⟨N + 1, 0, none⟩) (by show N ≤ N + 1; omega) _⟩
  case done =>
    rintro Dk W9 hDk ⟨h0, h1, h2, h3⟩ hK
    rw [wd_len] at h1
    have c0 : W9.cell? ⟨N, 0, none⟩ = some (.int .i64 1) := h0.cell (k := 0) rfl
    have c1 : W9.cell? ⟨N, 1, none⟩ = some (.int .i64 2) := h0.cell (k := 1) rfl
    have c2 : W9.cell? ⟨N, 2, none⟩ = some (.int .i32 233) := h0.cell (k := 2) rfl
    have c3 : W9.cell? ⟨N, 3, none⟩ = some (.bool false) := h0.cell (k := 3) rfl
    have d0 : W9.cell? ⟨N + 1, 0, none⟩ = some (.int .i64 3) := h1.cell (k := 0) rfl
    have hK0 := hid hK
    have H4 := hid h3
    clear h0 h1 h3 hK hseq
    subst hTm hD
    gi_wp2_with fail
    refine ⟨trivial, ?_⟩
    with_reducible refine CallsIn.mono (callsIn_wide.2 (hFo.out _)) ?_
    rintro e w10 ⟨rfl, hb10⟩
    have hK10 := hid ((hb10.block Dk (at_lt hK0.out)).trans hK0.out)
    have H10 := hid (H4.out.trans (hb10.mono (by have := H4.out.size; have := HNN.out; omega)))
    clear hb10 c0 c1 c2 c3 d0
    gi_wp2_with fail
    refine ⟨trivial, ?_⟩
    with_reducible refine CallsIn.mono (callsIn_wide.2 (hCl.out _)) ?_
    rintro e w11 ⟨rfl, hb11⟩
    have hK11 := hid ((hb11.block Dk (at_lt hK10.out)).trans hK10.out)
    have H11 := hid (H10.out.trans (hb11.mono (by have := H10.out.size; have := HNN.out; omega)))
    clear hb11
    gi_wp2_with fail
    refine ⟨by simp, .inl ⟨_, _, rfl, run_takeDeferred hK11.out, ?_⟩⟩
    have hlt : Below N w2 (w11.putObj Dk (.deferred none)) := H11.out.trans ((Kept.putObj (T := fun k => k < N) w11 (by show ¬ (Dk < N); omega) _).below (by have := H11.out.size; have := HNN.out; omega) (fun k hk => hk))
    exact ⟨.bool true, by simp [results, Tryz.results44, go_sem], rfl, HB2.out.trans (hlt.mono (by have := HNN.out; have := HB2.out.size; omega))⟩
  case stop => exact fun _ _ _ _ _ _ h _ => h.elim
end Go.Proofs.YteodfondjogmoaaGreatDoor
