/- The phones' rows, all of them, rising. Conditions: those of each theorem. -/
import Derived.Test.YtieifhfgedoiaaaGreatDoorNPhA
namespace Go.Proofs.YtieifhfgedoiaaaGreatDoor
open Go.RowKit Go.Lib
set_option linter.unusedVariables false
set_option linter.unusedSimpArgs false
attribute [local go_sem] ExtS.cell ExtS.froz upE_value upE_skip upE_enter
def textV : ByteArray := ⟨#[97, 48, 49, 48, 101, 52, 48, 48, 105, 54, 48, 48, 111, 52, 50, 49, 117, 54, 50, 49, 121, 54, 48, 49, 195, 166, 49, 48, 48, 195, 184, 52, 48, 49, 201, 145, 48, 50, 48, 201, 148, 50, 50, 49, 201, 153, 51, 49, 48, 201, 155, 50, 48, 48]⟩
def textC : ByteArray := ⟨#[98, 48, 48, 49, 100, 50, 48, 49, 102, 48, 50, 48, 103, 53, 48, 49, 104, 54, 50, 48, 106, 52, 53, 49, 107, 53, 48, 48, 108, 50, 52, 49, 109, 48, 51, 49, 110, 50, 51, 49, 112, 48, 48, 48, 114, 51, 52, 49, 115, 50, 50, 48, 116, 50, 48, 48, 118, 48, 50, 49, 119, 48, 53, 49, 120, 53, 50, 48, 122, 50, 50, 49, 195, 176, 49, 50, 49, 197, 139, 53, 51, 49, 202, 131, 51, 50, 48, 202, 146, 51, 50, 49, 202, 148, 54, 48, 48, 202, 164, 51, 49, 49, 202, 167, 51, 49, 48, 206, 184, 49, 50, 48]⟩
def rowsV : List Row := [⟨97, vow 0 1 false⟩, ⟨101, vow 4 0 false⟩, ⟨105, vow 6 0 false⟩, ⟨111, vow 4 2 true⟩, ⟨117, vow 6 2 true⟩, ⟨121, vow 6 0 true⟩, ⟨230, vow 1 0 false⟩, ⟨248, vow 4 0 true⟩, ⟨593, vow 0 2 false⟩, ⟨596, vow 2 2 true⟩, ⟨601, vow 3 1 false⟩, ⟨603, vow 2 0 false⟩]
def rowsC : List Row := [⟨98, con 0 0 true⟩, ⟨100, con 2 0 true⟩, ⟨102, con 0 2 false⟩, ⟨103, con 5 0 true⟩, ⟨104, con 6 2 false⟩, ⟨106, con 4 5 true⟩, ⟨107, con 5 0 false⟩, ⟨108, con 2 4 true⟩, ⟨109, con 0 3 true⟩, ⟨110, con 2 3 true⟩, ⟨112, con 0 0 false⟩, ⟨114, con 3 4 true⟩, ⟨115, con 2 2 false⟩, ⟨116, con 2 0 false⟩, ⟨118, con 0 2 true⟩, ⟨119, con 0 5 true⟩, ⟨120, con 5 2 false⟩, ⟨122, con 2 2 true⟩, ⟨240, con 1 2 true⟩, ⟨331, con 5 3 true⟩, ⟨643, con 3 2 false⟩, ⟨658, con 3 2 true⟩, ⟨660, con 6 0 false⟩, ⟨676, con 3 1 true⟩, ⟨679, con 3 1 false⟩, ⟨952, con 1 2 false⟩]
theorem goV : goL fV (runesF textV textV.size 0) 0 ⟨0, 0, 0⟩ [] = some rowsV := by kernel_rfl
theorem goC : goL fC (runesF textC textC.size 0) 0 ⟨0, 0, 0⟩ [] = some rowsC := by kernel_rfl
def mg : Nat → List Row → List Row → List Row → List Row
 | 0, _, _, out => out
 | f + 1, [], [], out => out
 | f + 1, x :: v, [], out => mg f v [] (out ++ [x])
 | f + 1, [], y :: c, out => mg f [] c (out ++ [y])
 | f + 1, x :: v, y :: c, out => if x.r < y.r then mg f v (y :: c) (out ++ [x]) else mg f (x :: v) c (out ++ [y])
def rowsS : List Row := mg 39 rowsV rowsC []
theorem rowsS_perm : rowsS.length = 38 ∧ (∀ x ∈ rows0, x ∈ rowsS) ∧ (∀ x ∈ rowsS, x ∈ rows0) := by decide +kernel
def lenOf (v : Value) : Nat := match v with
 | .slice _ n _ => n
 | _ => 0
def rowS (v : Value) : List Nat := match v.ownBlock with
 | some g => [g]
 | none => []
theorem rowS_mem {v : Value} {g : Nat} (h : g ∈ rowS v) : v.ownBlock = some g := by
 unfold rowS at h
 cases hv : v.ownBlock with
 | none => rw [hv] at h; simp at h
 | some k => rw [hv] at h; simp at h; rw [h]
theorem mem_rowS {v : Value} {g : Nat} (h : v.ownBlock = some g) : g ∈ rowS v := by
 unfold rowS
 rw [h]; simp
theorem blk_list {W : World} {B : Nat} {t : TypeId} {l : List Value} (h : Blk W B t l.toArray) : ∀ j u, l[j]? = some u → W.cell? ((⟨B, 0, none⟩ : Addr).add j) = some u := by
 intro j u hj
 have := h.cell (k := j) (v := u) (by simpa using hj)
 cases j with
 | zero => exact this
 | succ j => simpa [Addr.add] using this
theorem ButS.grownS {S : List Nat} {a b c : World} (h : ButS S a b) {row : Option Nat} (hg : b.grownBy c row) (hr : ∀ k, row = some k → k ∈ S) : ButS S a c :=
 ⟨hg.os.trans h.os, hg.tape.trans h.tape, hg.output.trans h.output, Nat.le_trans h.size hg.size, fun k hk hS => (hg.block k (by have := h.size; omega) (fun e => hS (hr k e.symm))).trans (h.block k hk hS)⟩
theorem drop_at (l : List Row) (a : Nat) (x : Row) (h : l[a]? = some x) : l.drop a = x :: l.drop (a + 1) := by
 obtain ⟨hl, rfl⟩ := List.getElem?_eq_some_iff.1 h
 exact List.drop_eq_getElem_cons hl
theorem own_mono {w : World} {b b' : Nat} {e : TypeId} {size n : Nat} {v : Value} {xs : List Value} (h : w.ownsRow b e size v n xs) (hb : b' ≤ b) : w.ownsRow b' e size v n xs := by
 refine ⟨h.1, ?_⟩
 rcases h.2 with hh | ⟨g, cap, cur, h1, h2, h3⟩
 ·exact .inl hh
 ·exact .inr ⟨g, cap, cur, h1, Nat.le_trans hb h2, h3⟩
theorem own_kept {w w' : World} {b : Nat} {e : TypeId} {size n g cap : Nat} {xs : List Value} (h : w.ownsRow b e size (.slice (some ⟨g, 0, none⟩) n cap) n xs) {row : Option Nat} (hg : w.grownBy w' row) (hne : row ≠ some g) : w'.ownsRow b e size (.slice (some ⟨g, 0, none⟩) n cap) n xs :=
 h.kept hg (.inr (fun e => hne e.symm))
theorem own_cap {w : World} {b : Nat} {e : TypeId} {size n g cap : Nat} {xs : List Value} (h : w.ownsRow b e size (.slice (some ⟨g, 0, none⟩) n cap) n xs) : n ≤ cap := by
 rcases h.2 with ⟨hh, _⟩ | ⟨g', cap', cur, h1, h2, h3, h4, _⟩
 ·simp at hh
 ·simp at h1; omega
set_option maxRecDepth 100000 in
set_option maxHeartbeats 4000000 in
theorem rows_any (w : World) : Calls Tryz.prog 97 #[] w fun e w' => ∃ v, e = .returned v ∧ w'.ownsRow w.heap.size 185 8 v 38 (flatE Row.cells rowsS) ∧ Below w.heap.size w w' := by
 obtain ⟨i0, hi, hz0, hz1, hz2⟩ := info_parts info196
 have h1 := hid (fun w => read119 textV w (by decide) rowsV goV)
 have h2 := hid (fun w => read120 textC w (by decide) rowsC goC)
 unfold textV at h1
 unfold textC at h2
 go_enter Tryz.func97, Tryz.ntmps97
 go_wp2_with (first | (go_at_call 102; (with_reducible refine Calls.mono (h1.out _) ?_); rintro e w1 ⟨vv, rfl, hO1, hB1⟩; have HV := hid hO1; have HB1 := hid hB1; clear hO1 hB1 h1) | (go_at_call 102; (with_reducible refine Calls.mono (h2.out _) ?_); rintro e w2 ⟨vc, rfl, hO2, hB2⟩; have HC := hid hO2; have HB2 := hid (bnextL HB1.out hB2); have HV2 := hid (own_low HV.out hB2); clear hO2 hB2 h2 HV HB1))
 obtain ⟨gv, kv, hvv⟩ := own_block (m := 11) HV2.out
 obtain ⟨gc, kc, hvc⟩ := own_block (m := 25) HC.out
 have hvv' : vv = .slice (some ⟨gv, 0, none⟩) 12 kv := hvv
 have hvc' : vc = .slice (some ⟨gc, 0, none⟩) 26 kc := hvc
 clear hvv hvc
 subst hvv' hvc'
 have hgv := hid (own_ge HV2.out (g := gv) rfl)
 have hgc := hid (own_ge HC.out (g := gc) rfl)
 have hkv := hid (own_cap HV2.out)
 have hkc := hid (own_cap HC.out)
 have hW12 : Hid (gv < w2.heap.size) := hid (own_ge HV2.out (g := gv) rfl).2
 have hws : Hid (w.heap.size ≤ w2.heap.size) := hid HB2.out.size
 go_loopw [1, 2, 3] (fun v c o wr => ∃ (a b mv mc cv cc fu : Nat) (pv pc : Option Addr) (out : List Row), v = .slice pv mv cv ∧ c = .slice pc mc cc ∧ a + mv = 12 ∧ b + mc = 26 ∧ mv ≤ cv ∧ mc ≤ cc ∧ Hid (0 < mv → pv = some ⟨gv, a * 8, none⟩) ∧ Hid (0 < mc → pc = some ⟨gc, b * 8, none⟩) ∧ Hid (wr.ownsRow (w.heap.size + 2) 185 8 (.slice (some ⟨gv, 0, none⟩) 12 kv) 12 (flatE Row.cells rowsV)) ∧ Hid (wr.ownsRow (w1.heap.size + 2) 185 8 (.slice (some ⟨gc, 0, none⟩) 26 kc) 26 (flatE Row.cells rowsC)) ∧ Hid (wr.ownsRow w2.heap.size 185 8 o out.length (flatE Row.cells out)) ∧ Hid (Below w.heap.size w wr) ∧ w2.heap.size ≤ wr.heap.size ∧ Hid (mg fu (rowsV.drop a) (rowsC.drop b) out = rowsS) ∧ mv + mc < fu ∧ out.length + mv + mc = 38) (fun v c _ _ => lenOf v + lenOf c)
 case atStart => exact ⟨0, 0, 12, 26, kv, kc, 39, _, _, [], rfl, rfl, rfl, rfl, hkv.out, hkc.out, hid (fun _ => by simp), hid (fun _ => by simp), HV2, HC, World.ownsRow_nil _ _ _ _, HB2, Nat.le_refl _, rfl, by omega, rfl⟩
 case round =>
  obtain ⟨a, b, mv, mc, cv, cc, fu, pv, pc, out, rfl, rfl, ha, hb, hcv, hcc, hpv, hpc, hV, hC, hO, hB, hwz2, hM, hfu, hol⟩ := hrel
  obtain ⟨fu, rfl⟩ : ∃ k, fu = k + 1 := ⟨fu - 1, by omega⟩
  obtain ⟨po, co, rfl⟩ := own_shape hO.out
  obtain ⟨q, hq⟩ : ∃ q, out.length = q := ⟨_, rfl⟩
  rw [hq] at hO hol
  rw [hq]
  have hwz := hid hwz2
  clear hwz2
  have hQ := hid hq
  clear hq HV2 HC HB2
  cases mv with
  | zero =>
   cases mc with
   | zero =>
    have hE : Hid (out = rowsS) := by
     have h0 := hM.out
     rw [show a = 12 by omega, show b = 26 by omega] at h0
     exact hid h0
    go_wp2_with fail
    try rw [Exit.noGoto_ret]
    go_ret
    have h38 : q = 38 := by omega
    subst h38
    exact ⟨_, rfl, by rw [← hE.out]; exact own_mono hO.out (by have := hgv.out; have := hgc.out; omega), hB.out⟩
   | succ mc =>
    obtain ⟨yy, hy⟩ : ∃ yy, rowsC[b]? = some yy := ⟨_, List.getElem?_eq_getElem (show b < 26 by omega)⟩
    have hYY := hid hy
    obtain rfl := hpc.out (by omega)
    clear hpc hy
    have vy0 := own_cell (j := b * 8) hC.out (flatE_get Row.cells 8 (fun _ => rfl) rowsC b yy hYY.out 0 _ rfl)
    have vy1 := own_cell (j := b * 8 + 1) hC.out (flatE_get Row.cells 8 (fun _ => rfl) rowsC b yy hYY.out 1 _ rfl)
    have vy2 := own_cell (j := b * 8 + 2) hC.out (flatE_get Row.cells 8 (fun _ => rfl) rowsC b yy hYY.out 2 _ rfl)
    have vy3 := own_cell (j := b * 8 + 3) hC.out (flatE_get Row.cells 8 (fun _ => rfl) rowsC b yy hYY.out 3 _ rfl)
    have vy4 := own_cell (j := b * 8 + 4) hC.out (flatE_get Row.cells 8 (fun _ => rfl) rowsC b yy hYY.out 4 _ rfl)
    have vy5 := own_cell (j := b * 8 + 5) hC.out (flatE_get Row.cells 8 (fun _ => rfl) rowsC b yy hYY.out 5 _ rfl)
    have vy6 := own_cell (j := b * 8 + 6) hC.out (flatE_get Row.cells 8 (fun _ => rfl) rowsC b yy hYY.out 6 _ rfl)
    have vy7 := own_cell (j := b * 8 + 7) hC.out (flatE_get Row.cells 8 (fun _ => rfl) rowsC b yy hYY.out 7 _ rfl)
    go_wp2_with fail
    refine region_plan [] (.quiet 0 (.quiet 1 (.quiet 2 (.quiet 3 (.quiet 4 (.quiet 5 (.quiet 6 (.quiet 7 (.quiet 8 (.quiet 9 (.quiet 10 (.quiet 11 (.quiet 12 (.quiet 13 (.quiet 14 (.quiet 15 (.quiet 16 (.quiet 17 (.quiet 18 .done))))))))))))))))))) (by kernel_rfl) (by kernel_rfl) ?_
    repeat (apply p_quiet; (case hi => rfl); intro K hK; go_simp; (refine ⟨hK _ ?_⟩; clear hK K))
    apply p_done
    intro W1 hb1
    replace hV := hid (own_low hV.out hb1)
    replace hC := hid (own_low hC.out hb1)
    replace hO := hid (own_low hO.out hb1)
    replace hB := hid (bnextL hB.out hb1)
    have hwz1 := hid hb1.size
    clear vy0 vy1 vy2 vy3 vy4 vy5 vy6 vy7
    clear hb1
    have hgo := hid (fun g (h : (Value.slice po q co).ownBlock = some g) => own_ge hO.out h)
    obtain ⟨So, hSo⟩ : ∃ So, rowS (.slice po q co) = So := ⟨_, rfl⟩
    have sv : gv ∉ So := fun h => by rw [← hSo] at h; have := (hgo.out gv (rowS_mem h)).1; have := hgv.out; have := hW12.out; omega
    have sc : gc ∉ So := fun h => by rw [← hSo] at h; have := (hgo.out gc (rowS_mem h)).1; have := hgc.out; omega
    replace hSo := hid hSo
    have vy0 := own_cell (j := b * 8) hC.out (flatE_get Row.cells 8 (fun _ => rfl) rowsC b yy hYY.out 0 _ rfl)
    have vy1 := own_cell (j := b * 8 + 1) hC.out (flatE_get Row.cells 8 (fun _ => rfl) rowsC b yy hYY.out 1 _ rfl)
    have vy2 := own_cell (j := b * 8 + 2) hC.out (flatE_get Row.cells 8 (fun _ => rfl) rowsC b yy hYY.out 2 _ rfl)
    have vy3 := own_cell (j := b * 8 + 3) hC.out (flatE_get Row.cells 8 (fun _ => rfl) rowsC b yy hYY.out 3 _ rfl)
    have vy4 := own_cell (j := b * 8 + 4) hC.out (flatE_get Row.cells 8 (fun _ => rfl) rowsC b yy hYY.out 4 _ rfl)
    have vy5 := own_cell (j := b * 8 + 5) hC.out (flatE_get Row.cells 8 (fun _ => rfl) rowsC b yy hYY.out 5 _ rfl)
    have vy6 := own_cell (j := b * 8 + 6) hC.out (flatE_get Row.cells 8 (fun _ => rfl) rowsC b yy hYY.out 6 _ rfl)
    have vy7 := own_cell (j := b * 8 + 7) hC.out (flatE_get Row.cells 8 (fun _ => rfl) rowsC b yy hYY.out 7 _ rfl)
    have hle1 : (1 : Int) ≤ (mc : Int) + 1 := by omega
    obtain ⟨p9, hp9⟩ : ∃ p9 : Option Addr, (if cc = 1 then some (⟨gc, b * 8, none⟩ : Addr) else some ⟨gc, b * 8 + 8, none⟩) = p9 := ⟨_, rfl⟩
    have hP9 := hid hp9
    go_wp2_with fail
    refine region_plan So (.quiet 0 (.quiet 1 (.quiet 2 (.quiet 3 (.quiet 6 (.quiet 7 (.one 4 (.one 5 (.quiet 8 (.quiet 9 .done)))))))))) (by kernel_rfl) (by kernel_rfl) ?_
    repeat (apply p_quiet; (case hi => rfl); intro K hK; go_simp; (refine ⟨hK _ ?_⟩; clear hK K))
    apply p_one
    case hi => rfl
    intro W2 hb2 K hK
    go_wp2_with fail
    refine hK _ _ (.of (hb2.alloc hb2.size _)) ?_
    clear hK K hp9 hle1
    clear vy0 vy1 vy2 vy3 vy4 vy5 vy6 vy7
    replace hV := hid (own_low (own_low hV.out hb2) ((Below.refl _ _).alloc (Nat.le_refl _) (.cells #[.int .i32 yy.r, .bool yy.t.vowel, .int .i64 yy.t.height, .int .i64 yy.t.back, .bool yy.t.round, .int .i64 yy.t.place, .int .i64 yy.t.manner, .bool yy.t.voiced] 185)))
    replace hC := hid (own_low (own_low hC.out hb2) ((Below.refl _ _).alloc (Nat.le_refl _) (.cells #[.int .i32 yy.r, .bool yy.t.vowel, .int .i64 yy.t.height, .int .i64 yy.t.back, .bool yy.t.round, .int .i64 yy.t.place, .int .i64 yy.t.manner, .bool yy.t.voiced] 185)))
    replace hO := hid (own_low (own_low hO.out hb2) ((Below.refl _ _).alloc (Nat.le_refl _) (.cells #[.int .i32 yy.r, .bool yy.t.vowel, .int .i64 yy.t.height, .int .i64 yy.t.back, .bool yy.t.round, .int .i64 yy.t.place, .int .i64 yy.t.manner, .bool yy.t.voiced] 185)))
    have KB := hid (Blk.new W2 185 #[.int .i32 yy.r, .bool yy.t.vowel, .int .i64 yy.t.height, .int .i64 yy.t.back, .bool yy.t.round, .int .i64 yy.t.place, .int .i64 yy.t.manner, .bool yy.t.voiced])
    have HS := hid (show ButS So W1 _ from .of (hb2.alloc hb2.size (.cells #[.int .i32 yy.r, .bool yy.t.vowel, .int .i64 yy.t.height, .int .i64 yy.t.back, .bool yy.t.round, .int .i64 yy.t.place, .int .i64 yy.t.manner, .bool yy.t.voiced] 185)))
    clear hb2
    generalize W2.alloc (.cells #[.int .i32 yy.r, .bool yy.t.vowel, .int .i64 yy.t.height, .int .i64 yy.t.back, .bool yy.t.round, .int .i64 yy.t.place, .int .i64 yy.t.manner, .bool yy.t.voiced] 185) = W3 at *
    generalize W2.heap.size = B4 at *
    apply p_one
    case hi => rfl
    intro W4 hb4 K hK
    replace hV := hid (own_low hV.out hb4)
    replace hC := hid (own_low hC.out hb4)
    replace hO := hid (own_low hO.out hb4)
    replace KB := hid (KB.out.low hb4)
    replace HS := hid (HS.out.low hb4)
    clear hb4
    have hsz := hid (hB.out.size)
    have hs2 := hid HS.out.size
    refine wpList_append_own _ rfl (.tmp 41) (.tmp 45) 182 rfl w2.heap.size 185 i0 _ 8 64 Tryz.underlying182 hi hz0 hz1 hz2 rfl (by decide) _ _ _ rfl hO.out ⟨B4, 0, none⟩ 1 1 [.int .i32 yy.r, .bool yy.t.vowel, .int .i64 yy.t.height, .int .i64 yy.t.back, .bool yy.t.round, .int .i64 yy.t.place, .int .i64 yy.t.manner, .bool yy.t.voiced] rfl rfl (blk_list KB.out) (by simp [Value.oneCell']) (by unfold maxLen; omega) (by omega) (by have := hwz.out; have := hwz1.out; have := hs2.out; omega) ?_
    intro v' w5 hown' hgrow hnil
    have hO5 : Hid (w5.ownsRow w2.heap.size 185 8 v' (q + 1) (flatE Row.cells (out ++ [yy]))) := by rw [flatE_snoc]; exact hid hown'
    have hS5 := hid (HS.out.grownS hgrow (fun k hk => hSo.out ▸ mem_rowS hk))
    replace hV := hid (own_kept hV.out hgrow (fun e => sv (hSo.out ▸ mem_rowS e)))
    replace hC := hid (own_kept hC.out hgrow (fun e => sc (hSo.out ▸ mem_rowS e)))
    have hB5 := hid (((ButS.of (S := []) hB.out).later hS5.out (fun k hk => .inl (by have := (hgo.out k (rowS_mem (hSo.out.symm ▸ hk))).1; have := hws.out; omega))).below' (by simp))
    clear hown' hgrow hnil
    obtain ⟨pp5, cap5, rfl⟩ := own_shape hO5.out
    refine ⟨rfl, hK _ _ hS5.out ?_⟩
    clear hK K
    repeat (apply p_quiet; (case hi => rfl); intro K hK; go_simp; (refine ⟨hK _ ?_⟩; clear hK K))
    apply p_done
    intro W6 hb6
    replace hV := hid (own_low hV.out hb6)
    replace hC := hid (own_low hC.out hb6)
    replace hO5 := hid (own_low hO5.out hb6)
    replace hB5 := hid (bnextL hB5.out hb6)
    have hz6 : Hid (w2.heap.size ≤ W6.heap.size) := hid (by have := hwz.out; have := hwz1.out; have := hS5.out.size; have := hb6.size; omega)
    clear hb6 hO hB HS KB
    have hM2 : Hid (mg fu (rowsV.drop a) (rowsC.drop (b + 1)) (out ++ [yy]) = rowsS) := by
     have h0 := hM.out
     rw [drop_at rowsC b yy hYY.out, show rowsV.drop a = [] by rw [show a = 12 by omega]; rfl] at h0
     rw [show rowsV.drop a = [] by rw [show a = 12 by omega]; rfl]
     exact hid h0
    go_wp2_with fail
    go_roundw
    case rel => exact ⟨a, b + 1, 0, mc, cv, cc - 1, fu, _, p9, out ++ [yy], rfl, rfl, by omega, by omega, by omega, by omega, hpv, hid (fun h => by rw [← hP9.out, if_neg (by omega), show (b + 1) * 8 = b * 8 + 8 by omega]), hV, hC, by rw [List.length_append, hQ.out]; exact hO5, hB5, hz6.out, hM2, by omega, by rw [List.length_append, hQ.out]; simp <;> omega⟩
    case measure => simp [lenOf] <;> omega
  | succ mv =>
   cases mc with
   | zero =>
    obtain ⟨xx, hx⟩ : ∃ xx, rowsV[a]? = some xx := ⟨_, List.getElem?_eq_getElem (show a < 12 by omega)⟩
    have hXX := hid hx
    obtain rfl := hpv.out (by omega)
    clear hpv hx
    have vx0 := own_cell (j := a * 8) hV.out (flatE_get Row.cells 8 (fun _ => rfl) rowsV a xx hXX.out 0 _ rfl)
    have vx1 := own_cell (j := a * 8 + 1) hV.out (flatE_get Row.cells 8 (fun _ => rfl) rowsV a xx hXX.out 1 _ rfl)
    have vx2 := own_cell (j := a * 8 + 2) hV.out (flatE_get Row.cells 8 (fun _ => rfl) rowsV a xx hXX.out 2 _ rfl)
    have vx3 := own_cell (j := a * 8 + 3) hV.out (flatE_get Row.cells 8 (fun _ => rfl) rowsV a xx hXX.out 3 _ rfl)
    have vx4 := own_cell (j := a * 8 + 4) hV.out (flatE_get Row.cells 8 (fun _ => rfl) rowsV a xx hXX.out 4 _ rfl)
    have vx5 := own_cell (j := a * 8 + 5) hV.out (flatE_get Row.cells 8 (fun _ => rfl) rowsV a xx hXX.out 5 _ rfl)
    have vx6 := own_cell (j := a * 8 + 6) hV.out (flatE_get Row.cells 8 (fun _ => rfl) rowsV a xx hXX.out 6 _ rfl)
    have vx7 := own_cell (j := a * 8 + 7) hV.out (flatE_get Row.cells 8 (fun _ => rfl) rowsV a xx hXX.out 7 _ rfl)
    go_wp2_with fail
    refine region_plan [] (.quiet 0 (.quiet 1 (.quiet 2 (.quiet 3 (.quiet 4 (.quiet 5 (.quiet 6 (.quiet 7 (.quiet 8 (.quiet 9 (.quiet 10 (.quiet 11 (.quiet 12 (.quiet 13 (.quiet 14 (.quiet 15 (.quiet 16 (.quiet 17 (.quiet 18 .done))))))))))))))))))) (by kernel_rfl) (by kernel_rfl) ?_
    repeat (apply p_quiet; (case hi => rfl); intro K hK; go_simp; (refine ⟨hK _ ?_⟩; clear hK K))
    apply p_done
    intro W1 hb1
    replace hV := hid (own_low hV.out hb1)
    replace hC := hid (own_low hC.out hb1)
    replace hO := hid (own_low hO.out hb1)
    replace hB := hid (bnextL hB.out hb1)
    have hwz1 := hid hb1.size
    clear vx0 vx1 vx2 vx3 vx4 vx5 vx6 vx7
    clear hb1
    have hgo := hid (fun g (h : (Value.slice po q co).ownBlock = some g) => own_ge hO.out h)
    obtain ⟨So, hSo⟩ : ∃ So, rowS (.slice po q co) = So := ⟨_, rfl⟩
    have sv : gv ∉ So := fun h => by rw [← hSo] at h; have := (hgo.out gv (rowS_mem h)).1; have := hgv.out; have := hW12.out; omega
    have sc : gc ∉ So := fun h => by rw [← hSo] at h; have := (hgo.out gc (rowS_mem h)).1; have := hgc.out; omega
    replace hSo := hid hSo
    have vx0 := own_cell (j := a * 8) hV.out (flatE_get Row.cells 8 (fun _ => rfl) rowsV a xx hXX.out 0 _ rfl)
    have vx1 := own_cell (j := a * 8 + 1) hV.out (flatE_get Row.cells 8 (fun _ => rfl) rowsV a xx hXX.out 1 _ rfl)
    have vx2 := own_cell (j := a * 8 + 2) hV.out (flatE_get Row.cells 8 (fun _ => rfl) rowsV a xx hXX.out 2 _ rfl)
    have vx3 := own_cell (j := a * 8 + 3) hV.out (flatE_get Row.cells 8 (fun _ => rfl) rowsV a xx hXX.out 3 _ rfl)
    have vx4 := own_cell (j := a * 8 + 4) hV.out (flatE_get Row.cells 8 (fun _ => rfl) rowsV a xx hXX.out 4 _ rfl)
    have vx5 := own_cell (j := a * 8 + 5) hV.out (flatE_get Row.cells 8 (fun _ => rfl) rowsV a xx hXX.out 5 _ rfl)
    have vx6 := own_cell (j := a * 8 + 6) hV.out (flatE_get Row.cells 8 (fun _ => rfl) rowsV a xx hXX.out 6 _ rfl)
    have vx7 := own_cell (j := a * 8 + 7) hV.out (flatE_get Row.cells 8 (fun _ => rfl) rowsV a xx hXX.out 7 _ rfl)
    have hle1 : (1 : Int) ≤ (mv : Int) + 1 := by omega
    obtain ⟨p9, hp9⟩ : ∃ p9 : Option Addr, (if cv = 1 then some (⟨gv, a * 8, none⟩ : Addr) else some ⟨gv, a * 8 + 8, none⟩) = p9 := ⟨_, rfl⟩
    have hP9 := hid hp9
    go_wp2_with fail
    refine region_plan So (.quiet 0 (.quiet 1 (.quiet 2 (.quiet 3 (.quiet 6 (.quiet 7 (.one 4 (.one 5 (.quiet 8 (.quiet 9 .done)))))))))) (by kernel_rfl) (by kernel_rfl) ?_
    repeat (apply p_quiet; (case hi => rfl); intro K hK; go_simp; (refine ⟨hK _ ?_⟩; clear hK K))
    apply p_one
    case hi => rfl
    intro W2 hb2 K hK
    go_wp2_with fail
    refine hK _ _ (.of (hb2.alloc hb2.size _)) ?_
    clear hK K hp9 hle1
    clear vx0 vx1 vx2 vx3 vx4 vx5 vx6 vx7
    replace hV := hid (own_low (own_low hV.out hb2) ((Below.refl _ _).alloc (Nat.le_refl _) (.cells #[.int .i32 xx.r, .bool xx.t.vowel, .int .i64 xx.t.height, .int .i64 xx.t.back, .bool xx.t.round, .int .i64 xx.t.place, .int .i64 xx.t.manner, .bool xx.t.voiced] 185)))
    replace hC := hid (own_low (own_low hC.out hb2) ((Below.refl _ _).alloc (Nat.le_refl _) (.cells #[.int .i32 xx.r, .bool xx.t.vowel, .int .i64 xx.t.height, .int .i64 xx.t.back, .bool xx.t.round, .int .i64 xx.t.place, .int .i64 xx.t.manner, .bool xx.t.voiced] 185)))
    replace hO := hid (own_low (own_low hO.out hb2) ((Below.refl _ _).alloc (Nat.le_refl _) (.cells #[.int .i32 xx.r, .bool xx.t.vowel, .int .i64 xx.t.height, .int .i64 xx.t.back, .bool xx.t.round, .int .i64 xx.t.place, .int .i64 xx.t.manner, .bool xx.t.voiced] 185)))
    have KB := hid (Blk.new W2 185 #[.int .i32 xx.r, .bool xx.t.vowel, .int .i64 xx.t.height, .int .i64 xx.t.back, .bool xx.t.round, .int .i64 xx.t.place, .int .i64 xx.t.manner, .bool xx.t.voiced])
    have HS := hid (show ButS So W1 _ from .of (hb2.alloc hb2.size (.cells #[.int .i32 xx.r, .bool xx.t.vowel, .int .i64 xx.t.height, .int .i64 xx.t.back, .bool xx.t.round, .int .i64 xx.t.place, .int .i64 xx.t.manner, .bool xx.t.voiced] 185)))
    clear hb2
    generalize W2.alloc (.cells #[.int .i32 xx.r, .bool xx.t.vowel, .int .i64 xx.t.height, .int .i64 xx.t.back, .bool xx.t.round, .int .i64 xx.t.place, .int .i64 xx.t.manner, .bool xx.t.voiced] 185) = W3 at *
    generalize W2.heap.size = B4 at *
    apply p_one
    case hi => rfl
    intro W4 hb4 K hK
    replace hV := hid (own_low hV.out hb4)
    replace hC := hid (own_low hC.out hb4)
    replace hO := hid (own_low hO.out hb4)
    replace KB := hid (KB.out.low hb4)
    replace HS := hid (HS.out.low hb4)
    clear hb4
    have hsz := hid (hB.out.size)
    have hs2 := hid HS.out.size
    refine wpList_append_own _ rfl (.tmp 33) (.tmp 37) 182 rfl w2.heap.size 185 i0 _ 8 64 Tryz.underlying182 hi hz0 hz1 hz2 rfl (by decide) _ _ _ rfl hO.out ⟨B4, 0, none⟩ 1 1 [.int .i32 xx.r, .bool xx.t.vowel, .int .i64 xx.t.height, .int .i64 xx.t.back, .bool xx.t.round, .int .i64 xx.t.place, .int .i64 xx.t.manner, .bool xx.t.voiced] rfl rfl (blk_list KB.out) (by simp [Value.oneCell']) (by unfold maxLen; omega) (by omega) (by have := hwz.out; have := hwz1.out; have := hs2.out; omega) ?_
    intro v' w5 hown' hgrow hnil
    have hO5 : Hid (w5.ownsRow w2.heap.size 185 8 v' (q + 1) (flatE Row.cells (out ++ [xx]))) := by rw [flatE_snoc]; exact hid hown'
    have hS5 := hid (HS.out.grownS hgrow (fun k hk => hSo.out ▸ mem_rowS hk))
    replace hV := hid (own_kept hV.out hgrow (fun e => sv (hSo.out ▸ mem_rowS e)))
    replace hC := hid (own_kept hC.out hgrow (fun e => sc (hSo.out ▸ mem_rowS e)))
    have hB5 := hid (((ButS.of (S := []) hB.out).later hS5.out (fun k hk => .inl (by have := (hgo.out k (rowS_mem (hSo.out.symm ▸ hk))).1; have := hws.out; omega))).below' (by simp))
    clear hown' hgrow hnil
    obtain ⟨pp5, cap5, rfl⟩ := own_shape hO5.out
    refine ⟨rfl, hK _ _ hS5.out ?_⟩
    clear hK K
    repeat (apply p_quiet; (case hi => rfl); intro K hK; go_simp; (refine ⟨hK _ ?_⟩; clear hK K))
    apply p_done
    intro W6 hb6
    replace hV := hid (own_low hV.out hb6)
    replace hC := hid (own_low hC.out hb6)
    replace hO5 := hid (own_low hO5.out hb6)
    replace hB5 := hid (bnextL hB5.out hb6)
    have hz6 : Hid (w2.heap.size ≤ W6.heap.size) := hid (by have := hwz.out; have := hwz1.out; have := hS5.out.size; have := hb6.size; omega)
    clear hb6 hO hB HS KB
    have hM2 : Hid (mg fu (rowsV.drop (a + 1)) (rowsC.drop b) (out ++ [xx]) = rowsS) := by
     have h0 := hM.out
     rw [drop_at rowsV a xx hXX.out, show rowsC.drop b = [] by rw [show b = 26 by omega]; rfl] at h0
     rw [show rowsC.drop b = [] by rw [show b = 26 by omega]; rfl]
     exact hid h0
    go_wp2_with fail
    go_roundw
    case rel => exact ⟨a + 1, b, mv, 0, cv - 1, cc, fu, p9, _, out ++ [xx], rfl, rfl, by omega, by omega, by omega, by omega, hid (fun h => by rw [← hP9.out, if_neg (by omega), show (a + 1) * 8 = a * 8 + 8 by omega]), hpc, hV, hC, by rw [List.length_append, hQ.out]; exact hO5, hB5, hz6.out, hM2, by omega, by rw [List.length_append, hQ.out]; simp <;> omega⟩
    case measure => simp [lenOf] <;> omega
   | succ mc =>
    obtain ⟨xx, hx⟩ : ∃ xx, rowsV[a]? = some xx := ⟨_, List.getElem?_eq_getElem (show a < 12 by omega)⟩
    have hXX := hid hx
    obtain rfl := hpv.out (by omega)
    clear hpv hx
    obtain ⟨yy, hy⟩ : ∃ yy, rowsC[b]? = some yy := ⟨_, List.getElem?_eq_getElem (show b < 26 by omega)⟩
    have hYY := hid hy
    obtain rfl := hpc.out (by omega)
    clear hpc hy
    by_cases hl0 : xx.r < yy.r
    ·have hlt := hid hl0
     have q1 := dT (show (xx.r : Int) < yy.r by omega)
     have q2 := dT (show xx.r < yy.r by omega)
     clear hl0
     have vx0 := own_cell (j := a * 8) hV.out (flatE_get Row.cells 8 (fun _ => rfl) rowsV a xx hXX.out 0 _ rfl)
     have vx1 := own_cell (j := a * 8 + 1) hV.out (flatE_get Row.cells 8 (fun _ => rfl) rowsV a xx hXX.out 1 _ rfl)
     have vx2 := own_cell (j := a * 8 + 2) hV.out (flatE_get Row.cells 8 (fun _ => rfl) rowsV a xx hXX.out 2 _ rfl)
     have vx3 := own_cell (j := a * 8 + 3) hV.out (flatE_get Row.cells 8 (fun _ => rfl) rowsV a xx hXX.out 3 _ rfl)
     have vx4 := own_cell (j := a * 8 + 4) hV.out (flatE_get Row.cells 8 (fun _ => rfl) rowsV a xx hXX.out 4 _ rfl)
     have vx5 := own_cell (j := a * 8 + 5) hV.out (flatE_get Row.cells 8 (fun _ => rfl) rowsV a xx hXX.out 5 _ rfl)
     have vx6 := own_cell (j := a * 8 + 6) hV.out (flatE_get Row.cells 8 (fun _ => rfl) rowsV a xx hXX.out 6 _ rfl)
     have vx7 := own_cell (j := a * 8 + 7) hV.out (flatE_get Row.cells 8 (fun _ => rfl) rowsV a xx hXX.out 7 _ rfl)
     have vy0 := own_cell (j := b * 8) hC.out (flatE_get Row.cells 8 (fun _ => rfl) rowsC b yy hYY.out 0 _ rfl)
     have vy1 := own_cell (j := b * 8 + 1) hC.out (flatE_get Row.cells 8 (fun _ => rfl) rowsC b yy hYY.out 1 _ rfl)
     have vy2 := own_cell (j := b * 8 + 2) hC.out (flatE_get Row.cells 8 (fun _ => rfl) rowsC b yy hYY.out 2 _ rfl)
     have vy3 := own_cell (j := b * 8 + 3) hC.out (flatE_get Row.cells 8 (fun _ => rfl) rowsC b yy hYY.out 3 _ rfl)
     have vy4 := own_cell (j := b * 8 + 4) hC.out (flatE_get Row.cells 8 (fun _ => rfl) rowsC b yy hYY.out 4 _ rfl)
     have vy5 := own_cell (j := b * 8 + 5) hC.out (flatE_get Row.cells 8 (fun _ => rfl) rowsC b yy hYY.out 5 _ rfl)
     have vy6 := own_cell (j := b * 8 + 6) hC.out (flatE_get Row.cells 8 (fun _ => rfl) rowsC b yy hYY.out 6 _ rfl)
     have vy7 := own_cell (j := b * 8 + 7) hC.out (flatE_get Row.cells 8 (fun _ => rfl) rowsC b yy hYY.out 7 _ rfl)
     go_wp2_with fail
     refine region_plan [] (.quiet 0 (.quiet 1 (.quiet 2 (.quiet 3 (.quiet 4 (.quiet 5 (.quiet 6 (.quiet 7 (.quiet 8 (.quiet 9 (.quiet 10 (.quiet 11 (.quiet 12 (.quiet 13 (.quiet 14 (.quiet 15 (.quiet 16 (.quiet 17 (.quiet 18 .done))))))))))))))))))) (by kernel_rfl) (by kernel_rfl) ?_
     repeat (apply p_quiet; (case hi => rfl); intro K hK; go_simp; (refine ⟨hK _ ?_⟩; clear hK K))
     apply p_done
     intro W1 hb1
     replace hV := hid (own_low hV.out hb1)
     replace hC := hid (own_low hC.out hb1)
     replace hO := hid (own_low hO.out hb1)
     replace hB := hid (bnextL hB.out hb1)
     have hwz1 := hid hb1.size
     clear vx0 vx1 vx2 vx3 vx4 vx5 vx6 vx7
     clear vy0 vy1 vy2 vy3 vy4 vy5 vy6 vy7
     clear hb1
     have hgo := hid (fun g (h : (Value.slice po q co).ownBlock = some g) => own_ge hO.out h)
     obtain ⟨So, hSo⟩ : ∃ So, rowS (.slice po q co) = So := ⟨_, rfl⟩
     have sv : gv ∉ So := fun h => by rw [← hSo] at h; have := (hgo.out gv (rowS_mem h)).1; have := hgv.out; have := hW12.out; omega
     have sc : gc ∉ So := fun h => by rw [← hSo] at h; have := (hgo.out gc (rowS_mem h)).1; have := hgc.out; omega
     replace hSo := hid hSo
     have vx0 := own_cell (j := a * 8) hV.out (flatE_get Row.cells 8 (fun _ => rfl) rowsV a xx hXX.out 0 _ rfl)
     have vx1 := own_cell (j := a * 8 + 1) hV.out (flatE_get Row.cells 8 (fun _ => rfl) rowsV a xx hXX.out 1 _ rfl)
     have vx2 := own_cell (j := a * 8 + 2) hV.out (flatE_get Row.cells 8 (fun _ => rfl) rowsV a xx hXX.out 2 _ rfl)
     have vx3 := own_cell (j := a * 8 + 3) hV.out (flatE_get Row.cells 8 (fun _ => rfl) rowsV a xx hXX.out 3 _ rfl)
     have vx4 := own_cell (j := a * 8 + 4) hV.out (flatE_get Row.cells 8 (fun _ => rfl) rowsV a xx hXX.out 4 _ rfl)
     have vx5 := own_cell (j := a * 8 + 5) hV.out (flatE_get Row.cells 8 (fun _ => rfl) rowsV a xx hXX.out 5 _ rfl)
     have vx6 := own_cell (j := a * 8 + 6) hV.out (flatE_get Row.cells 8 (fun _ => rfl) rowsV a xx hXX.out 6 _ rfl)
     have vx7 := own_cell (j := a * 8 + 7) hV.out (flatE_get Row.cells 8 (fun _ => rfl) rowsV a xx hXX.out 7 _ rfl)
     have hle1 : (1 : Int) ≤ (mv : Int) + 1 := by omega
     obtain ⟨p9, hp9⟩ : ∃ p9 : Option Addr, (if cv = 1 then some (⟨gv, a * 8, none⟩ : Addr) else some ⟨gv, a * 8 + 8, none⟩) = p9 := ⟨_, rfl⟩
     have hP9 := hid hp9
     go_wp2_with fail
     refine region_plan So (.quiet 0 (.quiet 1 (.quiet 2 (.quiet 3 (.quiet 6 (.quiet 7 (.one 4 (.one 5 (.quiet 8 (.quiet 9 .done)))))))))) (by kernel_rfl) (by kernel_rfl) ?_
     repeat (apply p_quiet; (case hi => rfl); intro K hK; go_simp; (refine ⟨hK _ ?_⟩; clear hK K))
     apply p_one
     case hi => rfl
     intro W2 hb2 K hK
     go_wp2_with fail
     refine hK _ _ (.of (hb2.alloc hb2.size _)) ?_
     clear hK K hp9 hle1
     clear vx0 vx1 vx2 vx3 vx4 vx5 vx6 vx7
     replace hV := hid (own_low (own_low hV.out hb2) ((Below.refl _ _).alloc (Nat.le_refl _) (.cells #[.int .i32 xx.r, .bool xx.t.vowel, .int .i64 xx.t.height, .int .i64 xx.t.back, .bool xx.t.round, .int .i64 xx.t.place, .int .i64 xx.t.manner, .bool xx.t.voiced] 185)))
     replace hC := hid (own_low (own_low hC.out hb2) ((Below.refl _ _).alloc (Nat.le_refl _) (.cells #[.int .i32 xx.r, .bool xx.t.vowel, .int .i64 xx.t.height, .int .i64 xx.t.back, .bool xx.t.round, .int .i64 xx.t.place, .int .i64 xx.t.manner, .bool xx.t.voiced] 185)))
     replace hO := hid (own_low (own_low hO.out hb2) ((Below.refl _ _).alloc (Nat.le_refl _) (.cells #[.int .i32 xx.r, .bool xx.t.vowel, .int .i64 xx.t.height, .int .i64 xx.t.back, .bool xx.t.round, .int .i64 xx.t.place, .int .i64 xx.t.manner, .bool xx.t.voiced] 185)))
     have KB := hid (Blk.new W2 185 #[.int .i32 xx.r, .bool xx.t.vowel, .int .i64 xx.t.height, .int .i64 xx.t.back, .bool xx.t.round, .int .i64 xx.t.place, .int .i64 xx.t.manner, .bool xx.t.voiced])
     have HS := hid (show ButS So W1 _ from .of (hb2.alloc hb2.size (.cells #[.int .i32 xx.r, .bool xx.t.vowel, .int .i64 xx.t.height, .int .i64 xx.t.back, .bool xx.t.round, .int .i64 xx.t.place, .int .i64 xx.t.manner, .bool xx.t.voiced] 185)))
     clear hb2
     generalize W2.alloc (.cells #[.int .i32 xx.r, .bool xx.t.vowel, .int .i64 xx.t.height, .int .i64 xx.t.back, .bool xx.t.round, .int .i64 xx.t.place, .int .i64 xx.t.manner, .bool xx.t.voiced] 185) = W3 at *
     generalize W2.heap.size = B4 at *
     apply p_one
     case hi => rfl
     intro W4 hb4 K hK
     replace hV := hid (own_low hV.out hb4)
     replace hC := hid (own_low hC.out hb4)
     replace hO := hid (own_low hO.out hb4)
     replace KB := hid (KB.out.low hb4)
     replace HS := hid (HS.out.low hb4)
     clear hb4
     have hsz := hid (hB.out.size)
     have hs2 := hid HS.out.size
     refine wpList_append_own _ rfl (.tmp 33) (.tmp 37) 182 rfl w2.heap.size 185 i0 _ 8 64 Tryz.underlying182 hi hz0 hz1 hz2 rfl (by decide) _ _ _ rfl hO.out ⟨B4, 0, none⟩ 1 1 [.int .i32 xx.r, .bool xx.t.vowel, .int .i64 xx.t.height, .int .i64 xx.t.back, .bool xx.t.round, .int .i64 xx.t.place, .int .i64 xx.t.manner, .bool xx.t.voiced] rfl rfl (blk_list KB.out) (by simp [Value.oneCell']) (by unfold maxLen; omega) (by omega) (by have := hwz.out; have := hwz1.out; have := hs2.out; omega) ?_
     intro v' w5 hown' hgrow hnil
     have hO5 : Hid (w5.ownsRow w2.heap.size 185 8 v' (q + 1) (flatE Row.cells (out ++ [xx]))) := by rw [flatE_snoc]; exact hid hown'
     have hS5 := hid (HS.out.grownS hgrow (fun k hk => hSo.out ▸ mem_rowS hk))
     replace hV := hid (own_kept hV.out hgrow (fun e => sv (hSo.out ▸ mem_rowS e)))
     replace hC := hid (own_kept hC.out hgrow (fun e => sc (hSo.out ▸ mem_rowS e)))
     have hB5 := hid (((ButS.of (S := []) hB.out).later hS5.out (fun k hk => .inl (by have := (hgo.out k (rowS_mem (hSo.out.symm ▸ hk))).1; have := hws.out; omega))).below' (by simp))
     clear hown' hgrow hnil
     obtain ⟨pp5, cap5, rfl⟩ := own_shape hO5.out
     refine ⟨rfl, hK _ _ hS5.out ?_⟩
     clear hK K
     repeat (apply p_quiet; (case hi => rfl); intro K hK; go_simp; (refine ⟨hK _ ?_⟩; clear hK K))
     apply p_done
     intro W6 hb6
     replace hV := hid (own_low hV.out hb6)
     replace hC := hid (own_low hC.out hb6)
     replace hO5 := hid (own_low hO5.out hb6)
     replace hB5 := hid (bnextL hB5.out hb6)
     have hz6 : Hid (w2.heap.size ≤ W6.heap.size) := hid (by have := hwz.out; have := hwz1.out; have := hS5.out.size; have := hb6.size; omega)
     clear hb6 hO hB HS KB
     have hM2 : Hid (mg fu (rowsV.drop (a + 1)) (rowsC.drop b) (out ++ [xx]) = rowsS) := by
      have h0 := hM.out
      rw [drop_at rowsV a xx hXX.out, drop_at rowsC b yy hYY.out] at h0
      rw [mg, if_pos hlt.out] at h0
      rw [drop_at rowsC b yy hYY.out]
      exact hid h0
     go_wp2_with fail
     go_roundw
     case rel => exact ⟨a + 1, b, mv, mc + 1, cv - 1, cc, fu, p9, _, out ++ [xx], rfl, rfl, by omega, by omega, by omega, by omega, hid (fun h => by rw [← hP9.out, if_neg (by omega), show (a + 1) * 8 = a * 8 + 8 by omega]), hid (fun _ => rfl), hV, hC, by rw [List.length_append, hQ.out]; exact hO5, hB5, hz6.out, hM2, by omega, by rw [List.length_append, hQ.out]; simp <;> omega⟩
     case measure => simp [lenOf] <;> omega
    ·have hlt := hid hl0
     have q1 := dF (show ¬ ((xx.r : Int) < yy.r) by omega)
     have q2 := dF (show ¬ (xx.r < yy.r) by omega)
     clear hl0
     have vx0 := own_cell (j := a * 8) hV.out (flatE_get Row.cells 8 (fun _ => rfl) rowsV a xx hXX.out 0 _ rfl)
     have vx1 := own_cell (j := a * 8 + 1) hV.out (flatE_get Row.cells 8 (fun _ => rfl) rowsV a xx hXX.out 1 _ rfl)
     have vx2 := own_cell (j := a * 8 + 2) hV.out (flatE_get Row.cells 8 (fun _ => rfl) rowsV a xx hXX.out 2 _ rfl)
     have vx3 := own_cell (j := a * 8 + 3) hV.out (flatE_get Row.cells 8 (fun _ => rfl) rowsV a xx hXX.out 3 _ rfl)
     have vx4 := own_cell (j := a * 8 + 4) hV.out (flatE_get Row.cells 8 (fun _ => rfl) rowsV a xx hXX.out 4 _ rfl)
     have vx5 := own_cell (j := a * 8 + 5) hV.out (flatE_get Row.cells 8 (fun _ => rfl) rowsV a xx hXX.out 5 _ rfl)
     have vx6 := own_cell (j := a * 8 + 6) hV.out (flatE_get Row.cells 8 (fun _ => rfl) rowsV a xx hXX.out 6 _ rfl)
     have vx7 := own_cell (j := a * 8 + 7) hV.out (flatE_get Row.cells 8 (fun _ => rfl) rowsV a xx hXX.out 7 _ rfl)
     have vy0 := own_cell (j := b * 8) hC.out (flatE_get Row.cells 8 (fun _ => rfl) rowsC b yy hYY.out 0 _ rfl)
     have vy1 := own_cell (j := b * 8 + 1) hC.out (flatE_get Row.cells 8 (fun _ => rfl) rowsC b yy hYY.out 1 _ rfl)
     have vy2 := own_cell (j := b * 8 + 2) hC.out (flatE_get Row.cells 8 (fun _ => rfl) rowsC b yy hYY.out 2 _ rfl)
     have vy3 := own_cell (j := b * 8 + 3) hC.out (flatE_get Row.cells 8 (fun _ => rfl) rowsC b yy hYY.out 3 _ rfl)
     have vy4 := own_cell (j := b * 8 + 4) hC.out (flatE_get Row.cells 8 (fun _ => rfl) rowsC b yy hYY.out 4 _ rfl)
     have vy5 := own_cell (j := b * 8 + 5) hC.out (flatE_get Row.cells 8 (fun _ => rfl) rowsC b yy hYY.out 5 _ rfl)
     have vy6 := own_cell (j := b * 8 + 6) hC.out (flatE_get Row.cells 8 (fun _ => rfl) rowsC b yy hYY.out 6 _ rfl)
     have vy7 := own_cell (j := b * 8 + 7) hC.out (flatE_get Row.cells 8 (fun _ => rfl) rowsC b yy hYY.out 7 _ rfl)
     go_wp2_with fail
     refine region_plan [] (.quiet 0 (.quiet 1 (.quiet 2 (.quiet 3 (.quiet 4 (.quiet 5 (.quiet 6 (.quiet 7 (.quiet 8 (.quiet 9 (.quiet 10 (.quiet 11 (.quiet 12 (.quiet 13 (.quiet 14 (.quiet 15 (.quiet 16 (.quiet 17 (.quiet 18 .done))))))))))))))))))) (by kernel_rfl) (by kernel_rfl) ?_
     repeat (apply p_quiet; (case hi => rfl); intro K hK; go_simp; (refine ⟨hK _ ?_⟩; clear hK K))
     apply p_done
     intro W1 hb1
     replace hV := hid (own_low hV.out hb1)
     replace hC := hid (own_low hC.out hb1)
     replace hO := hid (own_low hO.out hb1)
     replace hB := hid (bnextL hB.out hb1)
     have hwz1 := hid hb1.size
     clear vx0 vx1 vx2 vx3 vx4 vx5 vx6 vx7
     clear vy0 vy1 vy2 vy3 vy4 vy5 vy6 vy7
     clear hb1
     have hgo := hid (fun g (h : (Value.slice po q co).ownBlock = some g) => own_ge hO.out h)
     obtain ⟨So, hSo⟩ : ∃ So, rowS (.slice po q co) = So := ⟨_, rfl⟩
     have sv : gv ∉ So := fun h => by rw [← hSo] at h; have := (hgo.out gv (rowS_mem h)).1; have := hgv.out; have := hW12.out; omega
     have sc : gc ∉ So := fun h => by rw [← hSo] at h; have := (hgo.out gc (rowS_mem h)).1; have := hgc.out; omega
     replace hSo := hid hSo
     have vy0 := own_cell (j := b * 8) hC.out (flatE_get Row.cells 8 (fun _ => rfl) rowsC b yy hYY.out 0 _ rfl)
     have vy1 := own_cell (j := b * 8 + 1) hC.out (flatE_get Row.cells 8 (fun _ => rfl) rowsC b yy hYY.out 1 _ rfl)
     have vy2 := own_cell (j := b * 8 + 2) hC.out (flatE_get Row.cells 8 (fun _ => rfl) rowsC b yy hYY.out 2 _ rfl)
     have vy3 := own_cell (j := b * 8 + 3) hC.out (flatE_get Row.cells 8 (fun _ => rfl) rowsC b yy hYY.out 3 _ rfl)
     have vy4 := own_cell (j := b * 8 + 4) hC.out (flatE_get Row.cells 8 (fun _ => rfl) rowsC b yy hYY.out 4 _ rfl)
     have vy5 := own_cell (j := b * 8 + 5) hC.out (flatE_get Row.cells 8 (fun _ => rfl) rowsC b yy hYY.out 5 _ rfl)
     have vy6 := own_cell (j := b * 8 + 6) hC.out (flatE_get Row.cells 8 (fun _ => rfl) rowsC b yy hYY.out 6 _ rfl)
     have vy7 := own_cell (j := b * 8 + 7) hC.out (flatE_get Row.cells 8 (fun _ => rfl) rowsC b yy hYY.out 7 _ rfl)
     have hle1 : (1 : Int) ≤ (mc : Int) + 1 := by omega
     obtain ⟨p9, hp9⟩ : ∃ p9 : Option Addr, (if cc = 1 then some (⟨gc, b * 8, none⟩ : Addr) else some ⟨gc, b * 8 + 8, none⟩) = p9 := ⟨_, rfl⟩
     have hP9 := hid hp9
     go_wp2_with fail
     refine region_plan So (.quiet 0 (.quiet 1 (.quiet 2 (.quiet 3 (.quiet 6 (.quiet 7 (.one 4 (.one 5 (.quiet 8 (.quiet 9 .done)))))))))) (by kernel_rfl) (by kernel_rfl) ?_
     repeat (apply p_quiet; (case hi => rfl); intro K hK; go_simp; (refine ⟨hK _ ?_⟩; clear hK K))
     apply p_one
     case hi => rfl
     intro W2 hb2 K hK
     go_wp2_with fail
     refine hK _ _ (.of (hb2.alloc hb2.size _)) ?_
     clear hK K hp9 hle1
     clear vy0 vy1 vy2 vy3 vy4 vy5 vy6 vy7
     replace hV := hid (own_low (own_low hV.out hb2) ((Below.refl _ _).alloc (Nat.le_refl _) (.cells #[.int .i32 yy.r, .bool yy.t.vowel, .int .i64 yy.t.height, .int .i64 yy.t.back, .bool yy.t.round, .int .i64 yy.t.place, .int .i64 yy.t.manner, .bool yy.t.voiced] 185)))
     replace hC := hid (own_low (own_low hC.out hb2) ((Below.refl _ _).alloc (Nat.le_refl _) (.cells #[.int .i32 yy.r, .bool yy.t.vowel, .int .i64 yy.t.height, .int .i64 yy.t.back, .bool yy.t.round, .int .i64 yy.t.place, .int .i64 yy.t.manner, .bool yy.t.voiced] 185)))
     replace hO := hid (own_low (own_low hO.out hb2) ((Below.refl _ _).alloc (Nat.le_refl _) (.cells #[.int .i32 yy.r, .bool yy.t.vowel, .int .i64 yy.t.height, .int .i64 yy.t.back, .bool yy.t.round, .int .i64 yy.t.place, .int .i64 yy.t.manner, .bool yy.t.voiced] 185)))
     have KB := hid (Blk.new W2 185 #[.int .i32 yy.r, .bool yy.t.vowel, .int .i64 yy.t.height, .int .i64 yy.t.back, .bool yy.t.round, .int .i64 yy.t.place, .int .i64 yy.t.manner, .bool yy.t.voiced])
     have HS := hid (show ButS So W1 _ from .of (hb2.alloc hb2.size (.cells #[.int .i32 yy.r, .bool yy.t.vowel, .int .i64 yy.t.height, .int .i64 yy.t.back, .bool yy.t.round, .int .i64 yy.t.place, .int .i64 yy.t.manner, .bool yy.t.voiced] 185)))
     clear hb2
     generalize W2.alloc (.cells #[.int .i32 yy.r, .bool yy.t.vowel, .int .i64 yy.t.height, .int .i64 yy.t.back, .bool yy.t.round, .int .i64 yy.t.place, .int .i64 yy.t.manner, .bool yy.t.voiced] 185) = W3 at *
     generalize W2.heap.size = B4 at *
     apply p_one
     case hi => rfl
     intro W4 hb4 K hK
     replace hV := hid (own_low hV.out hb4)
     replace hC := hid (own_low hC.out hb4)
     replace hO := hid (own_low hO.out hb4)
     replace KB := hid (KB.out.low hb4)
     replace HS := hid (HS.out.low hb4)
     clear hb4
     have hsz := hid (hB.out.size)
     have hs2 := hid HS.out.size
     refine wpList_append_own _ rfl (.tmp 41) (.tmp 45) 182 rfl w2.heap.size 185 i0 _ 8 64 Tryz.underlying182 hi hz0 hz1 hz2 rfl (by decide) _ _ _ rfl hO.out ⟨B4, 0, none⟩ 1 1 [.int .i32 yy.r, .bool yy.t.vowel, .int .i64 yy.t.height, .int .i64 yy.t.back, .bool yy.t.round, .int .i64 yy.t.place, .int .i64 yy.t.manner, .bool yy.t.voiced] rfl rfl (blk_list KB.out) (by simp [Value.oneCell']) (by unfold maxLen; omega) (by omega) (by have := hwz.out; have := hwz1.out; have := hs2.out; omega) ?_
     intro v' w5 hown' hgrow hnil
     have hO5 : Hid (w5.ownsRow w2.heap.size 185 8 v' (q + 1) (flatE Row.cells (out ++ [yy]))) := by rw [flatE_snoc]; exact hid hown'
     have hS5 := hid (HS.out.grownS hgrow (fun k hk => hSo.out ▸ mem_rowS hk))
     replace hV := hid (own_kept hV.out hgrow (fun e => sv (hSo.out ▸ mem_rowS e)))
     replace hC := hid (own_kept hC.out hgrow (fun e => sc (hSo.out ▸ mem_rowS e)))
     have hB5 := hid (((ButS.of (S := []) hB.out).later hS5.out (fun k hk => .inl (by have := (hgo.out k (rowS_mem (hSo.out.symm ▸ hk))).1; have := hws.out; omega))).below' (by simp))
     clear hown' hgrow hnil
     obtain ⟨pp5, cap5, rfl⟩ := own_shape hO5.out
     refine ⟨rfl, hK _ _ hS5.out ?_⟩
     clear hK K
     repeat (apply p_quiet; (case hi => rfl); intro K hK; go_simp; (refine ⟨hK _ ?_⟩; clear hK K))
     apply p_done
     intro W6 hb6
     replace hV := hid (own_low hV.out hb6)
     replace hC := hid (own_low hC.out hb6)
     replace hO5 := hid (own_low hO5.out hb6)
     replace hB5 := hid (bnextL hB5.out hb6)
     have hz6 : Hid (w2.heap.size ≤ W6.heap.size) := hid (by have := hwz.out; have := hwz1.out; have := hS5.out.size; have := hb6.size; omega)
     clear hb6 hO hB HS KB
     have hM2 : Hid (mg fu (rowsV.drop a) (rowsC.drop (b + 1)) (out ++ [yy]) = rowsS) := by
      have h0 := hM.out
      rw [drop_at rowsV a xx hXX.out, drop_at rowsC b yy hYY.out] at h0
      rw [mg, if_neg hlt.out] at h0
      rw [drop_at rowsV a xx hXX.out]
      exact hid h0
     go_wp2_with fail
     go_roundw
     case rel => exact ⟨a, b + 1, mv + 1, mc, cv, cc - 1, fu, _, p9, out ++ [yy], rfl, rfl, by omega, by omega, by omega, by omega, hid (fun _ => rfl), hid (fun h => by rw [← hP9.out, if_neg (by omega), show (b + 1) * 8 = b * 8 + 8 by omega]), hV, hC, by rw [List.length_append, hQ.out]; exact hO5, hB5, hz6.out, hM2, by omega, by rw [List.length_append, hQ.out]; simp <;> omega⟩
     case measure => simp [lenOf] <;> omega
end Go.Proofs.YtieifhfgedoiaaaGreatDoor
