/- The phones' rows, read out of the program's text. Conditions: those of each theorem. -/
import Derived.Test.YtieifhfgedoiaaaGreatDoorNRi
namespace Go.Proofs.YtieifhfgedoiaaaGreatDoor
open Go.RowKit Go.Lib
set_option linter.unusedVariables false
set_option linter.unusedSimpArgs false
attribute [local go_sem] ExtS.cell ExtS.froz upE_value upE_skip upE_enter
theorem iterPos_of {w : World} {k : Nat} {s : ByteArray} {p : Nat} (h : w.heap[k]? = some (.stringIter s p)) : w.iterPos k = p := by simp [World.iterPos, h]
theorem own_iter {w : World} {base : Nat} {e : TypeId} {size : Nat} {v : Value} {n : Nat} {xs : List Value} (h : w.ownsRow base e size v n xs) {k : Nat} (hk : k < base) (s : ByteArray) (p : Nat) : (w.iterAt k s p).ownsRow base e size v n xs := by
 obtain ⟨h1, h2⟩ := h
 refine ⟨h1, ?_⟩
 rcases h2 with h2 | ⟨g, cap, cur, a, b, c, d⟩
 ·exact .inl h2
 ·exact .inr ⟨g, cap, cur, a, b, by rw [Lib.iterAt_other _ _ _ _ _ (by omega)]; exact c, d⟩
theorem own_cell {W : World} {base g n cap : Nat} {e : TypeId} {size : Nat} {xs : List Value} (h : W.ownsRow base e size (.slice (some ⟨g, 0, none⟩) n cap) n xs) {j : Nat} {u : Value} (hj : xs[j]? = some u) : W.cell? ⟨g, j, none⟩ = some u := by
 have := h.cells (g := g) rfl j u hj
 cases j with
 | zero => exact this
 | succ j => simpa [Addr.add] using this
theorem info196 : (Tryz.prog.info? 185).map (fun i => (i.zero, i.size, i.bytes)) = some (some (.agg #[.int .i32 0, .bool false, .int .i64 0, .int .i64 0, .bool false, .int .i64 0, .int .i64 0, .bool false]), 8, 64) := by kernel_rfl
def runesF (s : ByteArray) : Nat → Nat → List Nat
 | 0, _ => []
 | f + 1, p => if p < s.size then rnN s p :: runesF s f (p + wdN s p) else []
def setLast (l : List Row) (t : Tr) : List Row := match l.getLast? with
 | some x => l.dropLast ++ [⟨x.r, t⟩]
 | none => l
structure D3 where
 a : Nat
 b : Nat
 c : Nat
def D3.set (d : D3) (i x : Nat) : D3 := if i = 0 then ⟨x, d.b, d.c⟩ else if i = 1 then ⟨d.a, x, d.c⟩ else ⟨d.a, d.b, x⟩
def D3.cells (d : D3) : Array Value := #[.int .i64 d.a, .int .i64 d.b, .int .i64 d.c]
def goL (f : D3 → Tr) : List Nat → Nat → D3 → List Row → Option (List Row)
 | [], _, _, out => some out
 | r :: l, k, d, out =>
  if k % 4 = 0 then goL f l (k + 1) d (out ++ [⟨r, Tr.none⟩])
  else if 48 ≤ r then goL f l (k + 1) (d.set (k % 4 - 1) (r - 48)) (setLast out (f (d.set (k % 4 - 1) (r - 48)))) else none
def fV (d : D3) : Tr := ⟨true, d.a, d.b, d.c == 1, 0, 0, false⟩
def fC (d : D3) : Tr := ⟨false, 0, 0, false, d.a, d.b, d.c == 1⟩
theorem nat_eq1 (c : Nat) : ((c : Int) == 1) = (c == 1) := by
 by_cases h : c = 1
 ·subst h; rfl
 ·rw [beq_false_of (by omega)]; simp [h]
set_option maxHeartbeats 1000000 in
theorem vow119 (d : D3) (w : World) : Calls Tryz.prog 103 #[.agg d.cells] w fun e w' => e = .returned (fV d).val ∧ Below w.heap.size w w' := by
 obtain ⟨a, b, c⟩ := d
 unfold D3.cells fV Tr.val
 rw [← nat_eq1]
 go_enter Tryz.func103, Tryz.ntmps103
 go_wp2_with fail
 refine bodyPost_ret (v := .agg #[.bool true, .int .i64 a, .int .i64 b, .bool ((c : Int) == 1), .int .i64 0, .int .i64 0, .bool false]) (by simp [results, Tryz.results103, go_sem]) rfl ⟨rfl, ?_⟩
 repeat' (first | exact Below.refl _ _ | refine below_set ?_ ?_ _ _ | refine Below.alloc ?_ ?_ _ | (simp; done) | omega)
set_option maxHeartbeats 1000000 in
theorem con120 (d : D3) (w : World) : Calls Tryz.prog 104 #[.agg d.cells] w fun e w' => e = .returned (fC d).val ∧ Below w.heap.size w w' := by
 obtain ⟨a, b, c⟩ := d
 unfold D3.cells fC Tr.val
 rw [← nat_eq1]
 go_enter Tryz.func104, Tryz.ntmps104
 go_wp2_with fail
 refine bodyPost_ret (v := .agg #[.bool false, .int .i64 0, .int .i64 0, .bool false, .int .i64 a, .int .i64 b, .bool ((c : Int) == 1)]) (by simp [results, Tryz.results104, go_sem]) rfl ⟨rfl, ?_⟩
 repeat' (first | exact Below.refl _ _ | refine below_set ?_ ?_ _ _ | refine Below.alloc ?_ ?_ _ | (simp; done) | omega)
theorem set7 (A : List Value) (b0 b1 b2 b3 b4 b5 b6 b7 a1 a2 a3 a4 a5 a6 a7 : Value) (k : Nat) (hk : A.length = k) :
  (((((((A ++ [b0, b1, b2, b3, b4, b5, b6, b7]).set (k + 1) a1).set (k + 2) a2).set (k + 3) a3).set (k + 4) a4).set (k + 5) a5).set (k + 6) a6).set (k + 7) a7 = A ++ [b0, a1, a2, a3, a4, a5, a6, a7] := by
 subst hk
 induction A with
 | nil => rfl
 | cons x r ih =>
  simp only [List.cons_append, List.length_cons]
  rw [show r.length + 1 + 1 = (r.length + 1) + 1 by rfl, show r.length + 1 + 2 = (r.length + 2) + 1 by omega, show r.length + 1 + 3 = (r.length + 3) + 1 by omega, show r.length + 1 + 4 = (r.length + 4) + 1 by omega, show r.length + 1 + 5 = (r.length + 5) + 1 by omega, show r.length + 1 + 6 = (r.length + 6) + 1 by omega, show r.length + 1 + 7 = (r.length + 7) + 1 by omega]
  simp only [List.set_cons_succ]
  rw [ih]
def World.put7 (w : World) (g k : Nat) (a1 a2 a3 a4 a5 a6 a7 : Value) : World := ((((((w.setCell ⟨g, k + 1, none⟩ a1).setCell ⟨g, k + 2, none⟩ a2).setCell ⟨g, k + 3, none⟩ a3).setCell ⟨g, k + 4, none⟩ a4).setCell ⟨g, k + 5, none⟩ a5).setCell ⟨g, k + 6, none⟩ a6).setCell ⟨g, k + 7, none⟩ a7
theorem own_put7 {w : World} {base g n cap : Nat} {e : TypeId} {size : Nat} {xs : List Value} (h : w.ownsRow base e size (.slice (some ⟨g, 0, none⟩) n cap) n xs) (k : Nat) (a1 a2 a3 a4 a5 a6 a7 : Value) :
  (World.put7 w g k a1 a2 a3 a4 a5 a6 a7).ownsRow base e size (.slice (some ⟨g, 0, none⟩) n cap) n (((((((xs.set (k + 1) a1).set (k + 2) a2).set (k + 3) a3).set (k + 4) a4).set (k + 5) a5).set (k + 6) a6).set (k + 7) a7) :=
 ((((((((h.stored _ a1).1).stored _ a2).1.stored _ a3).1.stored _ a4).1.stored _ a5).1.stored _ a6).1.stored _ a7).1
theorem but_put7 (w : World) (g k : Nat) (a1 a2 a3 a4 a5 a6 a7 : Value) : ButS [g] w (World.put7 w g k a1 a2 a3 a4 a5 a6 a7) :=
 (((((((ButS.refl [g] w).set (List.mem_singleton.2 rfl) _ a1).set (List.mem_singleton.2 rfl) _ a2).set (List.mem_singleton.2 rfl) _ a3).set (List.mem_singleton.2 rfl) _ a4).set (List.mem_singleton.2 rfl) _ a5).set (List.mem_singleton.2 rfl) _ a6).set (List.mem_singleton.2 rfl) _ a7
theorem last_row {out : List Row} {m : Nat} (h : out.length = m + 1) (t : Tr) : ∃ (A : List Row) (x : Row), out = A ++ [x] ∧ A.length = m ∧ setLast out t = A ++ [⟨x.r, t⟩] := by
 have hne : out ≠ [] := fun e => by rw [e] at h; simp at h
 refine ⟨out.dropLast, out.getLast hne, (List.dropLast_concat_getLast hne).symm, by rw [List.length_dropLast, h]; rfl, ?_⟩
 unfold setLast
 rw [List.getLast?_eq_some_getLast hne]
theorem flat_last (A : List Row) (x : Row) (t : Tr) {m : Nat} (h : A.length = m) : (((((((flatE Row.cells (A ++ [x])).set (m * 8 + 1) (.bool t.vowel)).set (m * 8 + 2) (.int .i64 t.height)).set (m * 8 + 3) (.int .i64 t.back)).set (m * 8 + 4) (.bool t.round)).set (m * 8 + 5) (.int .i64 t.place)).set (m * 8 + 6) (.int .i64 t.manner)).set (m * 8 + 7) (.bool t.voiced) = flatE Row.cells (A ++ [⟨x.r, t⟩]) := by
 rw [flatE_snoc, flatE_snoc]
 exact set7 _ _ _ _ _ _ _ _ _ _ _ _ _ _ _ _ (m * 8) (by rw [flatE_len Row.cells 8 (fun _ => rfl), h])
theorem flat_at (A : List Row) (x : Row) {m : Nat} (h : A.length = m) (i : Nat) (u : Value) (hu : x.cells[i]? = some u) : (flatE Row.cells (A ++ [x]))[m * 8 + i]? = some u :=
 flatE_get Row.cells 8 (fun _ => rfl) (A ++ [x]) m x (by rw [← h]; simp) i u hu
theorem cells_new8 (w : World) (a0 a1 a2 a3 a4 a5 a6 a7 : Value) (T : TypeId) : ∀ j u, [a0, a1, a2, a3, a4, a5, a6, a7][j]? = some u → (w.alloc (.cells #[a0, a1, a2, a3, a4, a5, a6, a7] T)).cell? ((⟨w.heap.size, 0, none⟩ : Addr).add j) = some u := by
 intro j u hj
 match j, hj with
 | 0, hj => simp at hj; subst hj; simp [Addr.add]
 | 1, hj => simp at hj; subst hj; simp [Addr.add]
 | 2, hj => simp at hj; subst hj; simp [Addr.add]
 | 3, hj => simp at hj; subst hj; simp [Addr.add]
 | 4, hj => simp at hj; subst hj; simp [Addr.add]
 | 5, hj => simp at hj; subst hj; simp [Addr.add]
 | 6, hj => simp at hj; subst hj; simp [Addr.add]
 | 7, hj => simp at hj; subst hj; simp [Addr.add]
 | j + 8, hj => simp at hj
theorem own_block {w : World} {base : Nat} {e : TypeId} {size m : Nat} {v : Value} {xs : List Value} (h : w.ownsRow base e size v (m + 1) xs) : ∃ g cap, v = .slice (some ⟨g, 0, none⟩) (m + 1) cap := by
 rcases h.2 with ⟨_, h0⟩ | ⟨g, cap, cur, hv, _⟩
 ·omega
 ·exact ⟨g, cap, hv⟩
theorem set_oth {w : World} {b c k : Nat} {v : Value} (h : c ≠ b) : (w.setCell ⟨b, k, none⟩ v).heap[c]? = w.heap[c]? := Below.heap_setCell _ _ _ _ h
structure RdP (w wr : World) (s : ByteArray) (pos : Nat) (d : D3) (out : List Row) (v : Value) : Prop where
 it : wr.heap[w.heap.size + 1]? = some (.stringIter s pos)
 d : Blk wr w.heap.size 190 d.cells
 o : wr.ownsRow (w.heap.size + 2) 185 8 v out.length (flatE Row.cells out)
 bel : Below w.heap.size w wr
set_option maxRecDepth 100000 in
set_option maxHeartbeats 4000000 in
theorem read119 (s : ByteArray) (w : World) (hs : s.size ≤ 1000) (fin : List Row) (hf : goL fV (runesF s s.size 0) 0 ⟨0, 0, 0⟩ [] = some fin) :
  Calls Tryz.prog 102 #[.string s, .func (.func 103) #[] #[]] w fun e w' => ∃ v, e = .returned v ∧ w'.ownsRow (w.heap.size + 2) 185 8 v fin.length (flatE Row.cells fin) ∧ Below w.heap.size w w' := by
 obtain ⟨i0, hi, hz0, hz1, hz2⟩ := info_parts info196
 have HN := hid vow119
 have HF := hid hf
 clear hf
 go_enter Tryz.func102, Tryz.ntmps102
 go_wp2_with fail
 go_loopw [5, 7] (fun v k wr => ∃ (pos fu n : Nat) (d : D3) (out : List Row), k = .int .i64 n ∧ Hid (RdP w wr s pos d out v) ∧ Hid (goL fV (runesF s fu pos) n d out = some fin) ∧ s.size ≤ pos + fu ∧ n ≤ pos ∧ pos ≤ s.size ∧ out.length ≤ n ∧ (1 ≤ n → 1 ≤ out.length)) (fun _ k wr => s.size - wr.iterPos (w.heap.size + 1))
 case atStart => exact ⟨0, s.size, 0, ⟨0, 0, 0⟩, [], rfl, ⟨by have := heap_alloc_new (w.alloc (.cells #[.int .i64 0, .int .i64 0, .int .i64 0] 190)) (.stringIter s 0); rw [World.size_alloc] at this; exact this, (Blk.new w 190 _).alloc _, World.ownsRow_nil _ _ _ _, ((Below.refl _ w).alloc (Nat.le_refl _) _).alloc (by simp) _⟩, HF, by omega, Nat.le_refl _, Nat.zero_le _, Nat.le_refl _, fun h => absurd h (by omega)⟩
 case round =>
  obtain ⟨pos, fu, n, d, out, rfl, hP, hG, hfu, hnp, hps, hol, ho1⟩ := hrel
  have hpos0 := hid (iterPos_of hP.out.it)
  have hIlt : w.heap.size + 1 < wr.heap.size := at_lt hP.out.it
  by_cases hp : pos < s.size
  ·have hnx : ∀ ty, (Instr.next (.pointer (some ⟨w.heap.size + 1, 0, none⟩)) true ty).run Tryz.prog wr = _ := fun ty => Lib.run_next_any_at wr (w.heap.size + 1) s pos ty hP.out.it hp
   have ho2 := hid (own_iter hP.out.o (Nat.lt_succ_self _) s (pos + wdN s pos))
   have hb1 := hid (Lib.below_iterAt hP.out.bel (k := w.heap.size + 1) (by omega) s (pos + wdN s pos))
   have hit1 := hid (Lib.iterAt_heap wr (w.heap.size + 1) s pos (pos + wdN s pos) hP.out.it)
   have hd1 : Hid (Blk (wr.iterAt (w.heap.size + 1) s (pos + wdN s pos)) w.heap.size 190 d.cells) := hid ((Lib.iterAt_other wr (w.heap.size + 1) w.heap.size s (pos + wdN s pos) (by omega)).trans hP.out.d)
   have hG2 : Hid (goL fV (rnN s pos :: runesF s (fu - 1) (pos + wdN s pos)) n d out = some fin) := by
    have h0 := hG.out
    obtain ⟨fu', rfl⟩ : ∃ k, fu = k + 1 := ⟨fu - 1, by omega⟩
    rw [runesF, if_pos hp] at h0
    exact hid h0
   have hwd := wdN_pos hp
   have hrb := rn_bd hp
   change ∀ ty, (Instr.next (.pointer (some ⟨w.heap.size + 1, 0, none⟩)) true ty).run Tryz.prog wr = .ok (.tuple #[.bool true, .int .i64 pos, .int .i32 (rnN s pos)]) (wr.iterAt (w.heap.size + 1) s (pos + wdN s pos)) at hnx
   generalize rnN s pos = r at *
   generalize wdN s pos = wd at *
   obtain ⟨W1, hW1⟩ : ∃ W1, wr.iterAt (w.heap.size + 1) s (pos + wd) = W1 := ⟨_, rfl⟩
   rw [hW1] at hnx ho2 hb1 hit1 hd1
   clear hW1 hP hG
   have hm4 : n % 4 = 0 ∨ n % 4 = 1 ∨ n % 4 = 2 ∨ n % 4 = 3 := by omega
   have hI1 : w.heap.size + 1 < W1.heap.size := at_lt hit1.out
   have hwk : IntKind.i64.wrap ((n : Int) + 1) = (n : Int) + 1 := Wi64 (by omega)
   have hmeas : Hid (1 ≤ wd ∧ pos < s.size) := ⟨hwd.1, hp⟩
   have hle : pos + wd ≤ s.size := hwd.2.2
   rcases hm4 with hm | hm | hm | hm
   ·-- a rune
    have hmI : ((n : Int) % 4) = 0 := by omega
    have hmT : ((n : Int).tmod 4) = 0 := by rw [Int.tmod_eq_emod_of_nonneg (by omega)]; omega
    have hG3 : Hid (goL fV (runesF s (fu - 1) (pos + wd)) (n + 1) d (out ++ [⟨r, Tr.none⟩]) = some fin) := by
     have h0 := hG2.out
     rw [goL, if_pos hm] at h0
     exact hid h0
    obtain ⟨pp, cap, hv⟩ := own_shape ho2.out
    subst hv
    obtain ⟨q, hq⟩ : ∃ q, out.length = q := ⟨_, rfl⟩
    rw [hq] at ho2 hol ho1
    rw [hq]
    have hQ := hid hq
    clear hq hm hG2
    go_wp2_with (at_builtin; refine wpList_append_own _ rfl (.tmp 18) (.tmp 21) 182 rfl (w.heap.size + 2) 185 i0 _ 8 64 Tryz.underlying182 hi hz0 hz1 hz2 rfl (by decide) _ _ _ rfl (ho2.out.alloc _) ⟨W1.heap.size, 0, none⟩ 1 1 [.int .i32 r, .bool false, .int .i64 0, .int .i64 0, .bool false, .int .i64 0, .int .i64 0, .bool false] rfl rfl (cells_new8 _ _ _ _ _ _ _ _ _ _) (by simp [Value.oneCell']) (by unfold maxLen; omega) (by omega) (by simp; omega) ?_; refine stop_here ?_)
    refine hid ?_
    intro v' w5 hown' hgrow hnil
    have hO5 : Hid (w5.ownsRow (w.heap.size + 2) 185 8 v' (q + 1) (flatE Row.cells (out ++ [⟨r, Tr.none⟩]))) := by rw [flatE_snoc]; exact hid hown'
    have hg1 : ∀ k, (Value.slice pp q cap).ownBlock = some k → w.heap.size + 2 ≤ k := fun k hk => (own_ge ho2.out hk).1
    have HB5 := hid ((ButS.of (S := []) hb1.out).alloc (.cells #[.int .i32 r, .bool false, .int .i64 0, .int .i64 0, .bool false, .int .i64 0, .int .i64 0, .bool false] 185) |>.grown hgrow (fun k hk => by have := hg1 k hk; omega))
    have HI5 : Hid (w5.heap[w.heap.size + 1]? = some (.stringIter s (pos + wd))) := hid ((hgrow.block _ (by simp; omega) (fun e => by have := hg1 _ e.symm; omega)).trans ((Below.heap_alloc _ _ _ hI1).trans hit1.out))
    have HD5 : Hid (Blk w5 w.heap.size 190 d.cells) := hid ((hd1.out.alloc _).kept hgrow (fun e => by have := hg1 _ e.symm; omega))
    clear hown' hgrow hnil hnx
    go_wp2_with fail
    go_roundw
    case rel => exact ⟨pos + wd, fu - 1, n + 1, d, out ++ [⟨r, Tr.none⟩], by go_num, ⟨HI5.out, HD5.out, by rw [List.length_append, hQ.out]; exact hO5.out, HB5.out.below' (by simp)⟩, hG3, by have := hmeas.out; omega, by have := hmeas.out; omega, hle, by rw [List.length_append, hQ.out]; simp <;> omega, fun _ => by rw [List.length_append]; simp⟩
    case measure =>
     rw [iterPos_of HI5.out, hpos0.out]
     have := hmeas.out
     omega
   ·-- 1
    have hmI : ((n : Int) % 4) = 1 := by omega
    have hmT : ((n : Int).tmod 4) = 1 := by rw [Int.tmod_eq_emod_of_nonneg (by omega)]; omega
    obtain ⟨m, hm1⟩ : ∃ m, out.length = m + 1 := ⟨out.length - 1, by have := ho1 (by omega); omega⟩
    obtain ⟨a, b, c⟩ := d
    have h48 : 48 ≤ r := by
     have h0 := hG2.out
     rw [goL, if_neg (by omega)] at h0
     by_cases h48 : 48 ≤ r
     ·exact h48
     ·rw [if_neg h48] at h0; cases h0
    obtain ⟨x, rfl⟩ : ∃ x, r = x + 48 := ⟨r - 48, by omega⟩
    have hG3 : Hid (goL fV (runesF s (fu - 1) (pos + wd)) (n + 1) ⟨x, b, c⟩ (setLast out (fV ⟨x, b, c⟩)) = some fin) := by
     have h0 := hG2.out
     rw [goL, if_neg (by omega), if_pos h48, hm, Nat.add_sub_cancel] at h0
     exact hid h0
    obtain ⟨A, y, rfl, hA, hsl⟩ := last_row hm1 (fV ⟨x, b, c⟩)
    rw [hsl] at hG3
    have hC := fun w => HN.out ⟨x, b, c⟩ w
    obtain ⟨t1, t2, t3, t4, t5, t6, t7, ht⟩ : ∃ t1 t2 t3 t4 t5 t6 t7, fV ⟨x, b, c⟩ = ⟨t1, t2, t3, t4, t5, t6, t7⟩ := ⟨_, _, _, _, _, _, _, rfl⟩
    rw [ht] at hC hG3
    simp only [D3.cells, Tr.val] at hC
    have hsub : (((x + 48 : Nat) : Int) - 48) = x := by omega
    have hsw : IntKind.i32.wrap (((x + 48 : Nat) : Int) - 48) = x := by rw [hsub]; exact IntWalk.i32_in _ (by omega)
    obtain ⟨r, hr⟩ : ∃ r, x + 48 = r := ⟨_, rfl⟩
    rw [hr] at hsub hsw hnx
    obtain ⟨g, cap, hv⟩ := own_block (by rw [hm1] at ho2; exact ho2.out)
    subst hv
    rw [hm1] at ho2 hol
    have hgb := (own_ge ho2.out (g := g) rfl).1
    have hD1 : Hid (Blk (W1.setCell ⟨w.heap.size, 0, none⟩ (.int .i64 x)) w.heap.size 190 #[.int .i64 x, .int .i64 b, .int .i64 c]) := hid (hd1.out.set 0 (.int .i64 x))
    have hOs := hid (own_set ho2.out (B := w.heap.size) (by omega) 0 (.int .i64 x))
    have hIs : Hid ((W1.setCell ⟨w.heap.size, 0, none⟩ (.int .i64 x)).heap[w.heap.size + 1]? = some (.stringIter s (pos + wd))) := hid ((set_oth (by omega)).trans hit1.out)
    have hBs := hid (below_set hb1.out (Nat.le_refl _) 0 (.int .i64 x))
    obtain ⟨d0, d1, d2, df⟩ := hd1.out.c3
    have hHm1 := hid hm1
    have hHs := hid hsl
    have HA := hid hA
    have e1 : IntKind.i64.wrap (m : Int) = m := Wi64 (by omega)
    have e2 : (0 : Int) ≤ m := by omega
    have e3 : ((m : Nat) : Int) < (m : Int) + 1 := by omega
    have e4 : ((m : Nat) : Int).toNat = m := by omega
    have HC := hid hC
    have h48' := hid h48
    clear hG2 hm hm1 ho1 hsl hA hC h48
    go_wp2_with (go_at_call 103; (with_reducible refine Calls.mono (HC.out _) ?_); rintro e w5 ⟨rfl, hb5⟩; have HD5 := hid (hD1.out.low hb5); have HO5 := hid (own_low hOs.out hb5); have HI5 := hid (at_low hIs.out hb5); have HB5 := hid (bnextL hBs.out hb5); clear hb5 d0 d1 d2 df hD1 hOs hIs hBs; have y0 := own_cell HO5.out (flat_at A y HA.out 1 _ rfl); have y1 := own_cell HO5.out (flat_at A y HA.out 2 _ rfl); have y2 := own_cell HO5.out (flat_at A y HA.out 3 _ rfl); have y3 := own_cell HO5.out (flat_at A y HA.out 4 _ rfl); have y4 := own_cell HO5.out (flat_at A y HA.out 5 _ rfl); have y5 := own_cell HO5.out (flat_at A y HA.out 6 _ rfl); have y6 := own_cell HO5.out (flat_at A y HA.out 7 _ rfl); have yf := HO5.out.frozenAt)
    have P6 := hid (but_put7 w5 g (m * 8) (.bool t1) (.int .i64 t2) (.int .i64 t3) (.bool t4) (.int .i64 t5) (.int .i64 t6) (.bool t7))
    have HI6 := hid (at_but HI5.out P6.out (by rw [List.mem_singleton]; omega))
    have HD6 := hid (P6.out.blk HD5.out (by rw [List.mem_singleton]; omega))
    have HO6 := own_put7 HO5.out (m * 8) (.bool t1) (.int .i64 t2) (.int .i64 t3) (.bool t4) (.int .i64 t5) (.int .i64 t6) (.bool t7)
    rw [flat_last A y ⟨t1, t2, t3, t4, t5, t6, t7⟩ HA.out] at HO6
    have HB6 := hid (((ButS.of (S := []) HB5.out).later P6.out (fun z hz => by rw [List.mem_singleton] at hz; subst hz; exact .inl (by omega))).below' (by simp))
    have hL6 : (A ++ [(⟨y.r, ⟨t1, t2, t3, t4, t5, t6, t7⟩⟩ : Row)]).length = m + 1 := by rw [List.length_append, HA.out]; rfl
    go_roundw
    case rel => exact ⟨pos + wd, fu - 1, n + 1, ⟨x, b, c⟩, A ++ [⟨y.r, ⟨t1, t2, t3, t4, t5, t6, t7⟩⟩], by go_num, ⟨HI6.out, HD6.out, by rw [hL6]; exact HO6, HB6.out⟩, hG3, by have := hmeas.out; omega, by have := hmeas.out; omega, hle, by rw [hL6]; omega, fun _ => by rw [hL6]; omega⟩
    case measure =>
     have h1 := iterPos_of HI6.out
     have h2 := hpos0.out
     have h3 := hmeas.out
     have h4 : s.size - (pos + wd) < s.size - wr.iterPos (w.heap.size + 1) := by omega
     rw [← h1] at h4
     exact h4
   ·-- 2
    have hmI : ((n : Int) % 4) = 2 := by omega
    have hmT : ((n : Int).tmod 4) = 2 := by rw [Int.tmod_eq_emod_of_nonneg (by omega)]; omega
    obtain ⟨m, hm1⟩ : ∃ m, out.length = m + 1 := ⟨out.length - 1, by have := ho1 (by omega); omega⟩
    obtain ⟨a, b, c⟩ := d
    have h48 : 48 ≤ r := by
     have h0 := hG2.out
     rw [goL, if_neg (by omega)] at h0
     by_cases h48 : 48 ≤ r
     ·exact h48
     ·rw [if_neg h48] at h0; cases h0
    obtain ⟨x, rfl⟩ : ∃ x, r = x + 48 := ⟨r - 48, by omega⟩
    have hG3 : Hid (goL fV (runesF s (fu - 1) (pos + wd)) (n + 1) ⟨a, x, c⟩ (setLast out (fV ⟨a, x, c⟩)) = some fin) := by
     have h0 := hG2.out
     rw [goL, if_neg (by omega), if_pos h48, hm, Nat.add_sub_cancel] at h0
     exact hid h0
    obtain ⟨A, y, rfl, hA, hsl⟩ := last_row hm1 (fV ⟨a, x, c⟩)
    rw [hsl] at hG3
    have hC := fun w => HN.out ⟨a, x, c⟩ w
    obtain ⟨t1, t2, t3, t4, t5, t6, t7, ht⟩ : ∃ t1 t2 t3 t4 t5 t6 t7, fV ⟨a, x, c⟩ = ⟨t1, t2, t3, t4, t5, t6, t7⟩ := ⟨_, _, _, _, _, _, _, rfl⟩
    rw [ht] at hC hG3
    simp only [D3.cells, Tr.val] at hC
    have hsub : (((x + 48 : Nat) : Int) - 48) = x := by omega
    have hsw : IntKind.i32.wrap (((x + 48 : Nat) : Int) - 48) = x := by rw [hsub]; exact IntWalk.i32_in _ (by omega)
    obtain ⟨r, hr⟩ : ∃ r, x + 48 = r := ⟨_, rfl⟩
    rw [hr] at hsub hsw hnx
    obtain ⟨g, cap, hv⟩ := own_block (by rw [hm1] at ho2; exact ho2.out)
    subst hv
    rw [hm1] at ho2 hol
    have hgb := (own_ge ho2.out (g := g) rfl).1
    have hD1 : Hid (Blk (W1.setCell ⟨w.heap.size, 1, none⟩ (.int .i64 x)) w.heap.size 190 #[.int .i64 a, .int .i64 x, .int .i64 c]) := hid (hd1.out.set 1 (.int .i64 x))
    have hOs := hid (own_set ho2.out (B := w.heap.size) (by omega) 1 (.int .i64 x))
    have hIs : Hid ((W1.setCell ⟨w.heap.size, 1, none⟩ (.int .i64 x)).heap[w.heap.size + 1]? = some (.stringIter s (pos + wd))) := hid ((set_oth (by omega)).trans hit1.out)
    have hBs := hid (below_set hb1.out (Nat.le_refl _) 1 (.int .i64 x))
    obtain ⟨d0, d1, d2, df⟩ := hd1.out.c3
    have hHm1 := hid hm1
    have hHs := hid hsl
    have HA := hid hA
    have e1 : IntKind.i64.wrap (m : Int) = m := Wi64 (by omega)
    have e2 : (0 : Int) ≤ m := by omega
    have e3 : ((m : Nat) : Int) < (m : Int) + 1 := by omega
    have e4 : ((m : Nat) : Int).toNat = m := by omega
    have HC := hid hC
    have h48' := hid h48
    clear hG2 hm hm1 ho1 hsl hA hC h48
    go_wp2_with (go_at_call 103; (with_reducible refine Calls.mono (HC.out _) ?_); rintro e w5 ⟨rfl, hb5⟩; have HD5 := hid (hD1.out.low hb5); have HO5 := hid (own_low hOs.out hb5); have HI5 := hid (at_low hIs.out hb5); have HB5 := hid (bnextL hBs.out hb5); clear hb5 d0 d1 d2 df hD1 hOs hIs hBs; have y0 := own_cell HO5.out (flat_at A y HA.out 1 _ rfl); have y1 := own_cell HO5.out (flat_at A y HA.out 2 _ rfl); have y2 := own_cell HO5.out (flat_at A y HA.out 3 _ rfl); have y3 := own_cell HO5.out (flat_at A y HA.out 4 _ rfl); have y4 := own_cell HO5.out (flat_at A y HA.out 5 _ rfl); have y5 := own_cell HO5.out (flat_at A y HA.out 6 _ rfl); have y6 := own_cell HO5.out (flat_at A y HA.out 7 _ rfl); have yf := HO5.out.frozenAt)
    have P6 := hid (but_put7 w5 g (m * 8) (.bool t1) (.int .i64 t2) (.int .i64 t3) (.bool t4) (.int .i64 t5) (.int .i64 t6) (.bool t7))
    have HI6 := hid (at_but HI5.out P6.out (by rw [List.mem_singleton]; omega))
    have HD6 := hid (P6.out.blk HD5.out (by rw [List.mem_singleton]; omega))
    have HO6 := own_put7 HO5.out (m * 8) (.bool t1) (.int .i64 t2) (.int .i64 t3) (.bool t4) (.int .i64 t5) (.int .i64 t6) (.bool t7)
    rw [flat_last A y ⟨t1, t2, t3, t4, t5, t6, t7⟩ HA.out] at HO6
    have HB6 := hid (((ButS.of (S := []) HB5.out).later P6.out (fun z hz => by rw [List.mem_singleton] at hz; subst hz; exact .inl (by omega))).below' (by simp))
    have hL6 : (A ++ [(⟨y.r, ⟨t1, t2, t3, t4, t5, t6, t7⟩⟩ : Row)]).length = m + 1 := by rw [List.length_append, HA.out]; rfl
    go_roundw
    case rel => exact ⟨pos + wd, fu - 1, n + 1, ⟨a, x, c⟩, A ++ [⟨y.r, ⟨t1, t2, t3, t4, t5, t6, t7⟩⟩], by go_num, ⟨HI6.out, HD6.out, by rw [hL6]; exact HO6, HB6.out⟩, hG3, by have := hmeas.out; omega, by have := hmeas.out; omega, hle, by rw [hL6]; omega, fun _ => by rw [hL6]; omega⟩
    case measure =>
     have h1 := iterPos_of HI6.out
     have h2 := hpos0.out
     have h3 := hmeas.out
     have h4 : s.size - (pos + wd) < s.size - wr.iterPos (w.heap.size + 1) := by omega
     rw [← h1] at h4
     exact h4
   ·-- 3
    have hmI : ((n : Int) % 4) = 3 := by omega
    have hmT : ((n : Int).tmod 4) = 3 := by rw [Int.tmod_eq_emod_of_nonneg (by omega)]; omega
    obtain ⟨m, hm1⟩ : ∃ m, out.length = m + 1 := ⟨out.length - 1, by have := ho1 (by omega); omega⟩
    obtain ⟨a, b, c⟩ := d
    have h48 : 48 ≤ r := by
     have h0 := hG2.out
     rw [goL, if_neg (by omega)] at h0
     by_cases h48 : 48 ≤ r
     ·exact h48
     ·rw [if_neg h48] at h0; cases h0
    obtain ⟨x, rfl⟩ : ∃ x, r = x + 48 := ⟨r - 48, by omega⟩
    have hG3 : Hid (goL fV (runesF s (fu - 1) (pos + wd)) (n + 1) ⟨a, b, x⟩ (setLast out (fV ⟨a, b, x⟩)) = some fin) := by
     have h0 := hG2.out
     rw [goL, if_neg (by omega), if_pos h48, hm, Nat.add_sub_cancel] at h0
     exact hid h0
    obtain ⟨A, y, rfl, hA, hsl⟩ := last_row hm1 (fV ⟨a, b, x⟩)
    rw [hsl] at hG3
    have hC := fun w => HN.out ⟨a, b, x⟩ w
    obtain ⟨t1, t2, t3, t4, t5, t6, t7, ht⟩ : ∃ t1 t2 t3 t4 t5 t6 t7, fV ⟨a, b, x⟩ = ⟨t1, t2, t3, t4, t5, t6, t7⟩ := ⟨_, _, _, _, _, _, _, rfl⟩
    rw [ht] at hC hG3
    simp only [D3.cells, Tr.val] at hC
    have hsub : (((x + 48 : Nat) : Int) - 48) = x := by omega
    have hsw : IntKind.i32.wrap (((x + 48 : Nat) : Int) - 48) = x := by rw [hsub]; exact IntWalk.i32_in _ (by omega)
    obtain ⟨r, hr⟩ : ∃ r, x + 48 = r := ⟨_, rfl⟩
    rw [hr] at hsub hsw hnx
    obtain ⟨g, cap, hv⟩ := own_block (by rw [hm1] at ho2; exact ho2.out)
    subst hv
    rw [hm1] at ho2 hol
    have hgb := (own_ge ho2.out (g := g) rfl).1
    have hD1 : Hid (Blk (W1.setCell ⟨w.heap.size, 2, none⟩ (.int .i64 x)) w.heap.size 190 #[.int .i64 a, .int .i64 b, .int .i64 x]) := hid (hd1.out.set 2 (.int .i64 x))
    have hOs := hid (own_set ho2.out (B := w.heap.size) (by omega) 2 (.int .i64 x))
    have hIs : Hid ((W1.setCell ⟨w.heap.size, 2, none⟩ (.int .i64 x)).heap[w.heap.size + 1]? = some (.stringIter s (pos + wd))) := hid ((set_oth (by omega)).trans hit1.out)
    have hBs := hid (below_set hb1.out (Nat.le_refl _) 2 (.int .i64 x))
    obtain ⟨d0, d1, d2, df⟩ := hd1.out.c3
    have hHm1 := hid hm1
    have hHs := hid hsl
    have HA := hid hA
    have e1 : IntKind.i64.wrap (m : Int) = m := Wi64 (by omega)
    have e2 : (0 : Int) ≤ m := by omega
    have e3 : ((m : Nat) : Int) < (m : Int) + 1 := by omega
    have e4 : ((m : Nat) : Int).toNat = m := by omega
    have HC := hid hC
    have h48' := hid h48
    clear hG2 hm hm1 ho1 hsl hA hC h48
    go_wp2_with (go_at_call 103; (with_reducible refine Calls.mono (HC.out _) ?_); rintro e w5 ⟨rfl, hb5⟩; have HD5 := hid (hD1.out.low hb5); have HO5 := hid (own_low hOs.out hb5); have HI5 := hid (at_low hIs.out hb5); have HB5 := hid (bnextL hBs.out hb5); clear hb5 d0 d1 d2 df hD1 hOs hIs hBs; have y0 := own_cell HO5.out (flat_at A y HA.out 1 _ rfl); have y1 := own_cell HO5.out (flat_at A y HA.out 2 _ rfl); have y2 := own_cell HO5.out (flat_at A y HA.out 3 _ rfl); have y3 := own_cell HO5.out (flat_at A y HA.out 4 _ rfl); have y4 := own_cell HO5.out (flat_at A y HA.out 5 _ rfl); have y5 := own_cell HO5.out (flat_at A y HA.out 6 _ rfl); have y6 := own_cell HO5.out (flat_at A y HA.out 7 _ rfl); have yf := HO5.out.frozenAt)
    have P6 := hid (but_put7 w5 g (m * 8) (.bool t1) (.int .i64 t2) (.int .i64 t3) (.bool t4) (.int .i64 t5) (.int .i64 t6) (.bool t7))
    have HI6 := hid (at_but HI5.out P6.out (by rw [List.mem_singleton]; omega))
    have HD6 := hid (P6.out.blk HD5.out (by rw [List.mem_singleton]; omega))
    have HO6 := own_put7 HO5.out (m * 8) (.bool t1) (.int .i64 t2) (.int .i64 t3) (.bool t4) (.int .i64 t5) (.int .i64 t6) (.bool t7)
    rw [flat_last A y ⟨t1, t2, t3, t4, t5, t6, t7⟩ HA.out] at HO6
    have HB6 := hid (((ButS.of (S := []) HB5.out).later P6.out (fun z hz => by rw [List.mem_singleton] at hz; subst hz; exact .inl (by omega))).below' (by simp))
    have hL6 : (A ++ [(⟨y.r, ⟨t1, t2, t3, t4, t5, t6, t7⟩⟩ : Row)]).length = m + 1 := by rw [List.length_append, HA.out]; rfl
    go_roundw
    case rel => exact ⟨pos + wd, fu - 1, n + 1, ⟨a, b, x⟩, A ++ [⟨y.r, ⟨t1, t2, t3, t4, t5, t6, t7⟩⟩], by go_num, ⟨HI6.out, HD6.out, by rw [hL6]; exact HO6, HB6.out⟩, hG3, by have := hmeas.out; omega, by have := hmeas.out; omega, hle, by rw [hL6]; omega, fun _ => by rw [hL6]; omega⟩
    case measure =>
     have h1 := iterPos_of HI6.out
     have h2 := hpos0.out
     have h3 := hmeas.out
     have h4 : s.size - (pos + wd) < s.size - wr.iterPos (w.heap.size + 1) := by omega
     rw [← h1] at h4
     exact h4
  ·have hps' : pos = s.size := by omega
   subst hps'
   have hnx : ∀ ty, (Instr.next (.pointer (some ⟨w.heap.size + 1, 0, none⟩)) true ty).run Tryz.prog wr = _ := fun ty => Lib.run_next_end_at wr (w.heap.size + 1) s s.size ty hP.out.it hp
   have hfin : out = fin := by
    have h0 := hG.out
    cases fu with
    | zero => simpa [runesF, goL] using h0
    | succ k => rw [runesF, if_neg hp] at h0; simpa [goL] using h0
   subst hfin
   have hO := hid hP.out.o
   have hB := hid hP.out.bel
   clear hP hG hpos0
   go_wp2_with fail
   try rw [Exit.noGoto_ret]
   go_ret
   exact ⟨_, rfl, hO.out, hB.out⟩
set_option maxRecDepth 100000 in
set_option maxHeartbeats 4000000 in
theorem read120 (s : ByteArray) (w : World) (hs : s.size ≤ 1000) (fin : List Row) (hf : goL fC (runesF s s.size 0) 0 ⟨0, 0, 0⟩ [] = some fin) :
  Calls Tryz.prog 102 #[.string s, .func (.func 104) #[] #[]] w fun e w' => ∃ v, e = .returned v ∧ w'.ownsRow (w.heap.size + 2) 185 8 v fin.length (flatE Row.cells fin) ∧ Below w.heap.size w w' := by
 obtain ⟨i0, hi, hz0, hz1, hz2⟩ := info_parts info196
 have HN := hid con120
 have HF := hid hf
 clear hf
 go_enter Tryz.func102, Tryz.ntmps102
 go_wp2_with fail
 go_loopw [5, 7] (fun v k wr => ∃ (pos fu n : Nat) (d : D3) (out : List Row), k = .int .i64 n ∧ Hid (RdP w wr s pos d out v) ∧ Hid (goL fC (runesF s fu pos) n d out = some fin) ∧ s.size ≤ pos + fu ∧ n ≤ pos ∧ pos ≤ s.size ∧ out.length ≤ n ∧ (1 ≤ n → 1 ≤ out.length)) (fun _ k wr => s.size - wr.iterPos (w.heap.size + 1))
 case atStart => exact ⟨0, s.size, 0, ⟨0, 0, 0⟩, [], rfl, ⟨by have := heap_alloc_new (w.alloc (.cells #[.int .i64 0, .int .i64 0, .int .i64 0] 190)) (.stringIter s 0); rw [World.size_alloc] at this; exact this, (Blk.new w 190 _).alloc _, World.ownsRow_nil _ _ _ _, ((Below.refl _ w).alloc (Nat.le_refl _) _).alloc (by simp) _⟩, HF, by omega, Nat.le_refl _, Nat.zero_le _, Nat.le_refl _, fun h => absurd h (by omega)⟩
 case round =>
  obtain ⟨pos, fu, n, d, out, rfl, hP, hG, hfu, hnp, hps, hol, ho1⟩ := hrel
  have hpos0 := hid (iterPos_of hP.out.it)
  have hIlt : w.heap.size + 1 < wr.heap.size := at_lt hP.out.it
  by_cases hp : pos < s.size
  ·have hnx : ∀ ty, (Instr.next (.pointer (some ⟨w.heap.size + 1, 0, none⟩)) true ty).run Tryz.prog wr = _ := fun ty => Lib.run_next_any_at wr (w.heap.size + 1) s pos ty hP.out.it hp
   have ho2 := hid (own_iter hP.out.o (Nat.lt_succ_self _) s (pos + wdN s pos))
   have hb1 := hid (Lib.below_iterAt hP.out.bel (k := w.heap.size + 1) (by omega) s (pos + wdN s pos))
   have hit1 := hid (Lib.iterAt_heap wr (w.heap.size + 1) s pos (pos + wdN s pos) hP.out.it)
   have hd1 : Hid (Blk (wr.iterAt (w.heap.size + 1) s (pos + wdN s pos)) w.heap.size 190 d.cells) := hid ((Lib.iterAt_other wr (w.heap.size + 1) w.heap.size s (pos + wdN s pos) (by omega)).trans hP.out.d)
   have hG2 : Hid (goL fC (rnN s pos :: runesF s (fu - 1) (pos + wdN s pos)) n d out = some fin) := by
    have h0 := hG.out
    obtain ⟨fu', rfl⟩ : ∃ k, fu = k + 1 := ⟨fu - 1, by omega⟩
    rw [runesF, if_pos hp] at h0
    exact hid h0
   have hwd := wdN_pos hp
   have hrb := rn_bd hp
   change ∀ ty, (Instr.next (.pointer (some ⟨w.heap.size + 1, 0, none⟩)) true ty).run Tryz.prog wr = .ok (.tuple #[.bool true, .int .i64 pos, .int .i32 (rnN s pos)]) (wr.iterAt (w.heap.size + 1) s (pos + wdN s pos)) at hnx
   generalize rnN s pos = r at *
   generalize wdN s pos = wd at *
   obtain ⟨W1, hW1⟩ : ∃ W1, wr.iterAt (w.heap.size + 1) s (pos + wd) = W1 := ⟨_, rfl⟩
   rw [hW1] at hnx ho2 hb1 hit1 hd1
   clear hW1 hP hG
   have hm4 : n % 4 = 0 ∨ n % 4 = 1 ∨ n % 4 = 2 ∨ n % 4 = 3 := by omega
   have hI1 : w.heap.size + 1 < W1.heap.size := at_lt hit1.out
   have hwk : IntKind.i64.wrap ((n : Int) + 1) = (n : Int) + 1 := Wi64 (by omega)
   have hmeas : Hid (1 ≤ wd ∧ pos < s.size) := ⟨hwd.1, hp⟩
   have hle : pos + wd ≤ s.size := hwd.2.2
   rcases hm4 with hm | hm | hm | hm
   ·-- a rune
    have hmI : ((n : Int) % 4) = 0 := by omega
    have hmT : ((n : Int).tmod 4) = 0 := by rw [Int.tmod_eq_emod_of_nonneg (by omega)]; omega
    have hG3 : Hid (goL fC (runesF s (fu - 1) (pos + wd)) (n + 1) d (out ++ [⟨r, Tr.none⟩]) = some fin) := by
     have h0 := hG2.out
     rw [goL, if_pos hm] at h0
     exact hid h0
    obtain ⟨pp, cap, hv⟩ := own_shape ho2.out
    subst hv
    obtain ⟨q, hq⟩ : ∃ q, out.length = q := ⟨_, rfl⟩
    rw [hq] at ho2 hol ho1
    rw [hq]
    have hQ := hid hq
    clear hq hm hG2
    go_wp2_with (at_builtin; refine wpList_append_own _ rfl (.tmp 18) (.tmp 21) 182 rfl (w.heap.size + 2) 185 i0 _ 8 64 Tryz.underlying182 hi hz0 hz1 hz2 rfl (by decide) _ _ _ rfl (ho2.out.alloc _) ⟨W1.heap.size, 0, none⟩ 1 1 [.int .i32 r, .bool false, .int .i64 0, .int .i64 0, .bool false, .int .i64 0, .int .i64 0, .bool false] rfl rfl (cells_new8 _ _ _ _ _ _ _ _ _ _) (by simp [Value.oneCell']) (by unfold maxLen; omega) (by omega) (by simp; omega) ?_; refine stop_here ?_)
    refine hid ?_
    intro v' w5 hown' hgrow hnil
    have hO5 : Hid (w5.ownsRow (w.heap.size + 2) 185 8 v' (q + 1) (flatE Row.cells (out ++ [⟨r, Tr.none⟩]))) := by rw [flatE_snoc]; exact hid hown'
    have hg1 : ∀ k, (Value.slice pp q cap).ownBlock = some k → w.heap.size + 2 ≤ k := fun k hk => (own_ge ho2.out hk).1
    have HB5 := hid ((ButS.of (S := []) hb1.out).alloc (.cells #[.int .i32 r, .bool false, .int .i64 0, .int .i64 0, .bool false, .int .i64 0, .int .i64 0, .bool false] 185) |>.grown hgrow (fun k hk => by have := hg1 k hk; omega))
    have HI5 : Hid (w5.heap[w.heap.size + 1]? = some (.stringIter s (pos + wd))) := hid ((hgrow.block _ (by simp; omega) (fun e => by have := hg1 _ e.symm; omega)).trans ((Below.heap_alloc _ _ _ hI1).trans hit1.out))
    have HD5 : Hid (Blk w5 w.heap.size 190 d.cells) := hid ((hd1.out.alloc _).kept hgrow (fun e => by have := hg1 _ e.symm; omega))
    clear hown' hgrow hnil hnx
    go_wp2_with fail
    go_roundw
    case rel => exact ⟨pos + wd, fu - 1, n + 1, d, out ++ [⟨r, Tr.none⟩], by go_num, ⟨HI5.out, HD5.out, by rw [List.length_append, hQ.out]; exact hO5.out, HB5.out.below' (by simp)⟩, hG3, by have := hmeas.out; omega, by have := hmeas.out; omega, hle, by rw [List.length_append, hQ.out]; simp <;> omega, fun _ => by rw [List.length_append]; simp⟩
    case measure =>
     rw [iterPos_of HI5.out, hpos0.out]
     have := hmeas.out
     omega
   ·-- 1
    have hmI : ((n : Int) % 4) = 1 := by omega
    have hmT : ((n : Int).tmod 4) = 1 := by rw [Int.tmod_eq_emod_of_nonneg (by omega)]; omega
    obtain ⟨m, hm1⟩ : ∃ m, out.length = m + 1 := ⟨out.length - 1, by have := ho1 (by omega); omega⟩
    obtain ⟨a, b, c⟩ := d
    have h48 : 48 ≤ r := by
     have h0 := hG2.out
     rw [goL, if_neg (by omega)] at h0
     by_cases h48 : 48 ≤ r
     ·exact h48
     ·rw [if_neg h48] at h0; cases h0
    obtain ⟨x, rfl⟩ : ∃ x, r = x + 48 := ⟨r - 48, by omega⟩
    have hG3 : Hid (goL fC (runesF s (fu - 1) (pos + wd)) (n + 1) ⟨x, b, c⟩ (setLast out (fC ⟨x, b, c⟩)) = some fin) := by
     have h0 := hG2.out
     rw [goL, if_neg (by omega), if_pos h48, hm, Nat.add_sub_cancel] at h0
     exact hid h0
    obtain ⟨A, y, rfl, hA, hsl⟩ := last_row hm1 (fC ⟨x, b, c⟩)
    rw [hsl] at hG3
    have hC := fun w => HN.out ⟨x, b, c⟩ w
    obtain ⟨t1, t2, t3, t4, t5, t6, t7, ht⟩ : ∃ t1 t2 t3 t4 t5 t6 t7, fC ⟨x, b, c⟩ = ⟨t1, t2, t3, t4, t5, t6, t7⟩ := ⟨_, _, _, _, _, _, _, rfl⟩
    rw [ht] at hC hG3
    simp only [D3.cells, Tr.val] at hC
    have hsub : (((x + 48 : Nat) : Int) - 48) = x := by omega
    have hsw : IntKind.i32.wrap (((x + 48 : Nat) : Int) - 48) = x := by rw [hsub]; exact IntWalk.i32_in _ (by omega)
    obtain ⟨r, hr⟩ : ∃ r, x + 48 = r := ⟨_, rfl⟩
    rw [hr] at hsub hsw hnx
    obtain ⟨g, cap, hv⟩ := own_block (by rw [hm1] at ho2; exact ho2.out)
    subst hv
    rw [hm1] at ho2 hol
    have hgb := (own_ge ho2.out (g := g) rfl).1
    have hD1 : Hid (Blk (W1.setCell ⟨w.heap.size, 0, none⟩ (.int .i64 x)) w.heap.size 190 #[.int .i64 x, .int .i64 b, .int .i64 c]) := hid (hd1.out.set 0 (.int .i64 x))
    have hOs := hid (own_set ho2.out (B := w.heap.size) (by omega) 0 (.int .i64 x))
    have hIs : Hid ((W1.setCell ⟨w.heap.size, 0, none⟩ (.int .i64 x)).heap[w.heap.size + 1]? = some (.stringIter s (pos + wd))) := hid ((set_oth (by omega)).trans hit1.out)
    have hBs := hid (below_set hb1.out (Nat.le_refl _) 0 (.int .i64 x))
    obtain ⟨d0, d1, d2, df⟩ := hd1.out.c3
    have hHm1 := hid hm1
    have hHs := hid hsl
    have HA := hid hA
    have e1 : IntKind.i64.wrap (m : Int) = m := Wi64 (by omega)
    have e2 : (0 : Int) ≤ m := by omega
    have e3 : ((m : Nat) : Int) < (m : Int) + 1 := by omega
    have e4 : ((m : Nat) : Int).toNat = m := by omega
    have HC := hid hC
    have h48' := hid h48
    clear hG2 hm hm1 ho1 hsl hA hC h48
    go_wp2_with (go_at_call 104; (with_reducible refine Calls.mono (HC.out _) ?_); rintro e w5 ⟨rfl, hb5⟩; have HD5 := hid (hD1.out.low hb5); have HO5 := hid (own_low hOs.out hb5); have HI5 := hid (at_low hIs.out hb5); have HB5 := hid (bnextL hBs.out hb5); clear hb5 d0 d1 d2 df hD1 hOs hIs hBs; have y0 := own_cell HO5.out (flat_at A y HA.out 1 _ rfl); have y1 := own_cell HO5.out (flat_at A y HA.out 2 _ rfl); have y2 := own_cell HO5.out (flat_at A y HA.out 3 _ rfl); have y3 := own_cell HO5.out (flat_at A y HA.out 4 _ rfl); have y4 := own_cell HO5.out (flat_at A y HA.out 5 _ rfl); have y5 := own_cell HO5.out (flat_at A y HA.out 6 _ rfl); have y6 := own_cell HO5.out (flat_at A y HA.out 7 _ rfl); have yf := HO5.out.frozenAt)
    have P6 := hid (but_put7 w5 g (m * 8) (.bool t1) (.int .i64 t2) (.int .i64 t3) (.bool t4) (.int .i64 t5) (.int .i64 t6) (.bool t7))
    have HI6 := hid (at_but HI5.out P6.out (by rw [List.mem_singleton]; omega))
    have HD6 := hid (P6.out.blk HD5.out (by rw [List.mem_singleton]; omega))
    have HO6 := own_put7 HO5.out (m * 8) (.bool t1) (.int .i64 t2) (.int .i64 t3) (.bool t4) (.int .i64 t5) (.int .i64 t6) (.bool t7)
    rw [flat_last A y ⟨t1, t2, t3, t4, t5, t6, t7⟩ HA.out] at HO6
    have HB6 := hid (((ButS.of (S := []) HB5.out).later P6.out (fun z hz => by rw [List.mem_singleton] at hz; subst hz; exact .inl (by omega))).below' (by simp))
    have hL6 : (A ++ [(⟨y.r, ⟨t1, t2, t3, t4, t5, t6, t7⟩⟩ : Row)]).length = m + 1 := by rw [List.length_append, HA.out]; rfl
    go_roundw
    case rel => exact ⟨pos + wd, fu - 1, n + 1, ⟨x, b, c⟩, A ++ [⟨y.r, ⟨t1, t2, t3, t4, t5, t6, t7⟩⟩], by go_num, ⟨HI6.out, HD6.out, by rw [hL6]; exact HO6, HB6.out⟩, hG3, by have := hmeas.out; omega, by have := hmeas.out; omega, hle, by rw [hL6]; omega, fun _ => by rw [hL6]; omega⟩
    case measure =>
     have h1 := iterPos_of HI6.out
     have h2 := hpos0.out
     have h3 := hmeas.out
     have h4 : s.size - (pos + wd) < s.size - wr.iterPos (w.heap.size + 1) := by omega
     rw [← h1] at h4
     exact h4
   ·-- 2
    have hmI : ((n : Int) % 4) = 2 := by omega
    have hmT : ((n : Int).tmod 4) = 2 := by rw [Int.tmod_eq_emod_of_nonneg (by omega)]; omega
    obtain ⟨m, hm1⟩ : ∃ m, out.length = m + 1 := ⟨out.length - 1, by have := ho1 (by omega); omega⟩
    obtain ⟨a, b, c⟩ := d
    have h48 : 48 ≤ r := by
     have h0 := hG2.out
     rw [goL, if_neg (by omega)] at h0
     by_cases h48 : 48 ≤ r
     ·exact h48
     ·rw [if_neg h48] at h0; cases h0
    obtain ⟨x, rfl⟩ : ∃ x, r = x + 48 := ⟨r - 48, by omega⟩
    have hG3 : Hid (goL fC (runesF s (fu - 1) (pos + wd)) (n + 1) ⟨a, x, c⟩ (setLast out (fC ⟨a, x, c⟩)) = some fin) := by
     have h0 := hG2.out
     rw [goL, if_neg (by omega), if_pos h48, hm, Nat.add_sub_cancel] at h0
     exact hid h0
    obtain ⟨A, y, rfl, hA, hsl⟩ := last_row hm1 (fC ⟨a, x, c⟩)
    rw [hsl] at hG3
    have hC := fun w => HN.out ⟨a, x, c⟩ w
    obtain ⟨t1, t2, t3, t4, t5, t6, t7, ht⟩ : ∃ t1 t2 t3 t4 t5 t6 t7, fC ⟨a, x, c⟩ = ⟨t1, t2, t3, t4, t5, t6, t7⟩ := ⟨_, _, _, _, _, _, _, rfl⟩
    rw [ht] at hC hG3
    simp only [D3.cells, Tr.val] at hC
    have hsub : (((x + 48 : Nat) : Int) - 48) = x := by omega
    have hsw : IntKind.i32.wrap (((x + 48 : Nat) : Int) - 48) = x := by rw [hsub]; exact IntWalk.i32_in _ (by omega)
    obtain ⟨r, hr⟩ : ∃ r, x + 48 = r := ⟨_, rfl⟩
    rw [hr] at hsub hsw hnx
    obtain ⟨g, cap, hv⟩ := own_block (by rw [hm1] at ho2; exact ho2.out)
    subst hv
    rw [hm1] at ho2 hol
    have hgb := (own_ge ho2.out (g := g) rfl).1
    have hD1 : Hid (Blk (W1.setCell ⟨w.heap.size, 1, none⟩ (.int .i64 x)) w.heap.size 190 #[.int .i64 a, .int .i64 x, .int .i64 c]) := hid (hd1.out.set 1 (.int .i64 x))
    have hOs := hid (own_set ho2.out (B := w.heap.size) (by omega) 1 (.int .i64 x))
    have hIs : Hid ((W1.setCell ⟨w.heap.size, 1, none⟩ (.int .i64 x)).heap[w.heap.size + 1]? = some (.stringIter s (pos + wd))) := hid ((set_oth (by omega)).trans hit1.out)
    have hBs := hid (below_set hb1.out (Nat.le_refl _) 1 (.int .i64 x))
    obtain ⟨d0, d1, d2, df⟩ := hd1.out.c3
    have hHm1 := hid hm1
    have hHs := hid hsl
    have HA := hid hA
    have e1 : IntKind.i64.wrap (m : Int) = m := Wi64 (by omega)
    have e2 : (0 : Int) ≤ m := by omega
    have e3 : ((m : Nat) : Int) < (m : Int) + 1 := by omega
    have e4 : ((m : Nat) : Int).toNat = m := by omega
    have HC := hid hC
    have h48' := hid h48
    clear hG2 hm hm1 ho1 hsl hA hC h48
    go_wp2_with (go_at_call 104; (with_reducible refine Calls.mono (HC.out _) ?_); rintro e w5 ⟨rfl, hb5⟩; have HD5 := hid (hD1.out.low hb5); have HO5 := hid (own_low hOs.out hb5); have HI5 := hid (at_low hIs.out hb5); have HB5 := hid (bnextL hBs.out hb5); clear hb5 d0 d1 d2 df hD1 hOs hIs hBs; have y0 := own_cell HO5.out (flat_at A y HA.out 1 _ rfl); have y1 := own_cell HO5.out (flat_at A y HA.out 2 _ rfl); have y2 := own_cell HO5.out (flat_at A y HA.out 3 _ rfl); have y3 := own_cell HO5.out (flat_at A y HA.out 4 _ rfl); have y4 := own_cell HO5.out (flat_at A y HA.out 5 _ rfl); have y5 := own_cell HO5.out (flat_at A y HA.out 6 _ rfl); have y6 := own_cell HO5.out (flat_at A y HA.out 7 _ rfl); have yf := HO5.out.frozenAt)
    have P6 := hid (but_put7 w5 g (m * 8) (.bool t1) (.int .i64 t2) (.int .i64 t3) (.bool t4) (.int .i64 t5) (.int .i64 t6) (.bool t7))
    have HI6 := hid (at_but HI5.out P6.out (by rw [List.mem_singleton]; omega))
    have HD6 := hid (P6.out.blk HD5.out (by rw [List.mem_singleton]; omega))
    have HO6 := own_put7 HO5.out (m * 8) (.bool t1) (.int .i64 t2) (.int .i64 t3) (.bool t4) (.int .i64 t5) (.int .i64 t6) (.bool t7)
    rw [flat_last A y ⟨t1, t2, t3, t4, t5, t6, t7⟩ HA.out] at HO6
    have HB6 := hid (((ButS.of (S := []) HB5.out).later P6.out (fun z hz => by rw [List.mem_singleton] at hz; subst hz; exact .inl (by omega))).below' (by simp))
    have hL6 : (A ++ [(⟨y.r, ⟨t1, t2, t3, t4, t5, t6, t7⟩⟩ : Row)]).length = m + 1 := by rw [List.length_append, HA.out]; rfl
    go_roundw
    case rel => exact ⟨pos + wd, fu - 1, n + 1, ⟨a, x, c⟩, A ++ [⟨y.r, ⟨t1, t2, t3, t4, t5, t6, t7⟩⟩], by go_num, ⟨HI6.out, HD6.out, by rw [hL6]; exact HO6, HB6.out⟩, hG3, by have := hmeas.out; omega, by have := hmeas.out; omega, hle, by rw [hL6]; omega, fun _ => by rw [hL6]; omega⟩
    case measure =>
     have h1 := iterPos_of HI6.out
     have h2 := hpos0.out
     have h3 := hmeas.out
     have h4 : s.size - (pos + wd) < s.size - wr.iterPos (w.heap.size + 1) := by omega
     rw [← h1] at h4
     exact h4
   ·-- 3
    have hmI : ((n : Int) % 4) = 3 := by omega
    have hmT : ((n : Int).tmod 4) = 3 := by rw [Int.tmod_eq_emod_of_nonneg (by omega)]; omega
    obtain ⟨m, hm1⟩ : ∃ m, out.length = m + 1 := ⟨out.length - 1, by have := ho1 (by omega); omega⟩
    obtain ⟨a, b, c⟩ := d
    have h48 : 48 ≤ r := by
     have h0 := hG2.out
     rw [goL, if_neg (by omega)] at h0
     by_cases h48 : 48 ≤ r
     ·exact h48
     ·rw [if_neg h48] at h0; cases h0
    obtain ⟨x, rfl⟩ : ∃ x, r = x + 48 := ⟨r - 48, by omega⟩
    have hG3 : Hid (goL fC (runesF s (fu - 1) (pos + wd)) (n + 1) ⟨a, b, x⟩ (setLast out (fC ⟨a, b, x⟩)) = some fin) := by
     have h0 := hG2.out
     rw [goL, if_neg (by omega), if_pos h48, hm, Nat.add_sub_cancel] at h0
     exact hid h0
    obtain ⟨A, y, rfl, hA, hsl⟩ := last_row hm1 (fC ⟨a, b, x⟩)
    rw [hsl] at hG3
    have hC := fun w => HN.out ⟨a, b, x⟩ w
    obtain ⟨t1, t2, t3, t4, t5, t6, t7, ht⟩ : ∃ t1 t2 t3 t4 t5 t6 t7, fC ⟨a, b, x⟩ = ⟨t1, t2, t3, t4, t5, t6, t7⟩ := ⟨_, _, _, _, _, _, _, rfl⟩
    rw [ht] at hC hG3
    simp only [D3.cells, Tr.val] at hC
    have hsub : (((x + 48 : Nat) : Int) - 48) = x := by omega
    have hsw : IntKind.i32.wrap (((x + 48 : Nat) : Int) - 48) = x := by rw [hsub]; exact IntWalk.i32_in _ (by omega)
    obtain ⟨r, hr⟩ : ∃ r, x + 48 = r := ⟨_, rfl⟩
    rw [hr] at hsub hsw hnx
    obtain ⟨g, cap, hv⟩ := own_block (by rw [hm1] at ho2; exact ho2.out)
    subst hv
    rw [hm1] at ho2 hol
    have hgb := (own_ge ho2.out (g := g) rfl).1
    have hD1 : Hid (Blk (W1.setCell ⟨w.heap.size, 2, none⟩ (.int .i64 x)) w.heap.size 190 #[.int .i64 a, .int .i64 b, .int .i64 x]) := hid (hd1.out.set 2 (.int .i64 x))
    have hOs := hid (own_set ho2.out (B := w.heap.size) (by omega) 2 (.int .i64 x))
    have hIs : Hid ((W1.setCell ⟨w.heap.size, 2, none⟩ (.int .i64 x)).heap[w.heap.size + 1]? = some (.stringIter s (pos + wd))) := hid ((set_oth (by omega)).trans hit1.out)
    have hBs := hid (below_set hb1.out (Nat.le_refl _) 2 (.int .i64 x))
    obtain ⟨d0, d1, d2, df⟩ := hd1.out.c3
    have hHm1 := hid hm1
    have hHs := hid hsl
    have HA := hid hA
    have e1 : IntKind.i64.wrap (m : Int) = m := Wi64 (by omega)
    have e2 : (0 : Int) ≤ m := by omega
    have e3 : ((m : Nat) : Int) < (m : Int) + 1 := by omega
    have e4 : ((m : Nat) : Int).toNat = m := by omega
    have HC := hid hC
    have h48' := hid h48
    clear hG2 hm hm1 ho1 hsl hA hC h48
    go_wp2_with (go_at_call 104; (with_reducible refine Calls.mono (HC.out _) ?_); rintro e w5 ⟨rfl, hb5⟩; have HD5 := hid (hD1.out.low hb5); have HO5 := hid (own_low hOs.out hb5); have HI5 := hid (at_low hIs.out hb5); have HB5 := hid (bnextL hBs.out hb5); clear hb5 d0 d1 d2 df hD1 hOs hIs hBs; have y0 := own_cell HO5.out (flat_at A y HA.out 1 _ rfl); have y1 := own_cell HO5.out (flat_at A y HA.out 2 _ rfl); have y2 := own_cell HO5.out (flat_at A y HA.out 3 _ rfl); have y3 := own_cell HO5.out (flat_at A y HA.out 4 _ rfl); have y4 := own_cell HO5.out (flat_at A y HA.out 5 _ rfl); have y5 := own_cell HO5.out (flat_at A y HA.out 6 _ rfl); have y6 := own_cell HO5.out (flat_at A y HA.out 7 _ rfl); have yf := HO5.out.frozenAt)
    have P6 := hid (but_put7 w5 g (m * 8) (.bool t1) (.int .i64 t2) (.int .i64 t3) (.bool t4) (.int .i64 t5) (.int .i64 t6) (.bool t7))
    have HI6 := hid (at_but HI5.out P6.out (by rw [List.mem_singleton]; omega))
    have HD6 := hid (P6.out.blk HD5.out (by rw [List.mem_singleton]; omega))
    have HO6 := own_put7 HO5.out (m * 8) (.bool t1) (.int .i64 t2) (.int .i64 t3) (.bool t4) (.int .i64 t5) (.int .i64 t6) (.bool t7)
    rw [flat_last A y ⟨t1, t2, t3, t4, t5, t6, t7⟩ HA.out] at HO6
    have HB6 := hid (((ButS.of (S := []) HB5.out).later P6.out (fun z hz => by rw [List.mem_singleton] at hz; subst hz; exact .inl (by omega))).below' (by simp))
    have hL6 : (A ++ [(⟨y.r, ⟨t1, t2, t3, t4, t5, t6, t7⟩⟩ : Row)]).length = m + 1 := by rw [List.length_append, HA.out]; rfl
    go_roundw
    case rel => exact ⟨pos + wd, fu - 1, n + 1, ⟨a, b, x⟩, A ++ [⟨y.r, ⟨t1, t2, t3, t4, t5, t6, t7⟩⟩], by go_num, ⟨HI6.out, HD6.out, by rw [hL6]; exact HO6, HB6.out⟩, hG3, by have := hmeas.out; omega, by have := hmeas.out; omega, hle, by rw [hL6]; omega, fun _ => by rw [hL6]; omega⟩
    case measure =>
     have h1 := iterPos_of HI6.out
     have h2 := hpos0.out
     have h3 := hmeas.out
     have h4 : s.size - (pos + wd) < s.size - wr.iterPos (w.heap.size + 1) := by omega
     rw [← h1] at h4
     exact h4
  ·have hps' : pos = s.size := by omega
   subst hps'
   have hnx : ∀ ty, (Instr.next (.pointer (some ⟨w.heap.size + 1, 0, none⟩)) true ty).run Tryz.prog wr = _ := fun ty => Lib.run_next_end_at wr (w.heap.size + 1) s s.size ty hP.out.it hp
   have hfin : out = fin := by
    have h0 := hG.out
    cases fu with
    | zero => simpa [runesF, goL] using h0
    | succ k => rw [runesF, if_neg hp] at h0; simpa [goL] using h0
   subst hfin
   have hO := hid hP.out.o
   have hB := hid hP.out.bel
   clear hP hG hpos0
   go_wp2_with fail
   try rw [Exit.noGoto_ret]
   go_ret
   exact ⟨_, rfl, hO.out, hB.out⟩
end Go.Proofs.YtieifhfgedoiaaaGreatDoor
