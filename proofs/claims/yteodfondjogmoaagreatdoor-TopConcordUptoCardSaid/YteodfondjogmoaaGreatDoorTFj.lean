/- fold.units, walked. Conditions: those of each theorem. -/
import Derived.Test.YteodfondjogmoaaGreatDoorJl
namespace Go.Proofs.YteodfondjogmoaaGreatDoor
open Go Go.RowKit Go.Lib Go.Shelf Go.Maps
set_option linter.unusedVariables false
set_option linter.unusedSimpArgs false
attribute [local go_sem] Oper.semAt_some C.Ext.cell C.Ext.froz
/-- the units of a text in memory -/
def UnR (w' : World) (base : Nat) (s : ByteArray) (v : Value) : Prop := ∃ xs, w'.ownsRow base 193 5 v (fuL s (posL s 0)).length xs ∧ (∀ i u, (fuL s (posL s 0))[i]? = some u → UnX xs i u) ∧ ∀ u ∈ fuL s (posL s 0), BaseOk u.base
theorem fuL_len (s : ByteArray) : ∀ ps : List Nat, (fuL s ps).length ≤ ps.length := by
  intro ps
  have key : ∀ (ps : List Nat) (l : List FU), (ps.foldl (fuStep s) l).length ≤ l.length + ps.length := by
    intro ps
    induction ps with
    | nil => intro l; exact Nat.le_refl _
    | cons p t ih =>
      intro l
      rw [List.foldl_cons, List.length_cons]
      have := ih (fuStep s l p)
      have h2 : (fuStep s l p).length ≤ l.length + 1 := by
        unfold fuStep
        repeat' split
        all_goals simp
      omega
  simpa [fuL] using key ps []
/-- a literal slice of one, made at whatever time -/
def SlH (w2 : World) (t : TypeId) (v : Value) (c : Array Value) (x : List (Option Value)) (w' : World) : Prop := Below w2.heap.size w2 w' ∧ ∀ u, x[0]? = some (some u) → ∃ g, u = .slice (some ⟨g, 0, none⟩) 1 1 ∧ w2.heap.size ≤ g ∧ Blk w' g t c
theorem SlH.cls (w2 : World) (t : TypeId) (v : Value) (c : Array Value) : C.ClsE w2 (SlH w2 t v c) :=
  ⟨fun x w hx => hx.1, fun x w w' hx hb => ⟨hx.1.trans (hb.mono hx.1.size), fun u hu => by
    obtain ⟨g, a, b, d⟩ := hx.2 u hu
    exact ⟨g, a, b, d.low hb⟩⟩⟩
theorem SlH.start (w2 : World) (t : TypeId) (v : Value) (c : Array Value) : SlH w2 t v c [none] w2.drew := ⟨(Below.refl _ _).drew, fun u hu => by simp at hu⟩
theorem SlH.made {w2 w' : World} {t : TypeId} {v : Value} {c : Array Value} {x : List (Option Value)} (hl : x.length = 1) (h : SlH w2 t v c x w') : SlH w2 t v c (x.set 0 (some (.slice (some ⟨w'.heap.size, 0, none⟩) 1 1))) (w'.alloc (.cells c t)) := by
  refine ⟨h.1.alloc h.1.size _, fun u hu => ?_⟩
  rw [List.getElem?_set_self (by omega)] at hu
  obtain rfl := (Option.some.inj (Option.some.inj hu))
  exact ⟨_, rfl, h.1.size, Blk.new _ _ _⟩
theorem cells_of5 {w : World} {g : Nat} {t : TypeId} {a0 a1 a2 a3 a4 : Value} (h : Blk w g t #[a0, a1, a2, a3, a4]) : ∀ j u, [a0, a1, a2, a3, a4][j]? = some u → w.cell? ((⟨g, 0, none⟩ : Addr).add j) = some u := by
  intro j u hj
  match j, hj with
  | 0, hj => simp at hj; subst hj; simpa [Addr.add] using h.cell (k := 0) rfl
  | 1, hj => simp at hj; subst hj; simpa [Addr.add] using h.cell (k := 1) rfl
  | 2, hj => simp at hj; subst hj; simpa [Addr.add] using h.cell (k := 2) rfl
  | 3, hj => simp at hj; subst hj; simpa [Addr.add] using h.cell (k := 3) rfl
  | 4, hj => simp at hj; subst hj; simpa [Addr.add] using h.cell (k := 4) rfl
  | j + 5, hj => simp at hj
theorem part_bd : ∀ (f r : Nat), r ≤ 1114111 → (partN f r).1 ≤ 1114111
  | 0, r, h => h
  | f + 1, r, h => by
    cases hs : splitN r with
    | none =>
      have e : (partN (f + 1) r).1 = r := by unfold partN; rw [hs]
      rw [e]; exact h
    | some q =>
      obtain ⟨b, k⟩ := q
      have e : (partN (f + 1) r).1 = (partN f b).1 := by rw [show partN (f + 1) r = (match splitN r with | some (b, m) => ((partN f b).1, (partN f b).2 ++ [m]) | none => (r, [])) from rfl, hs]
      rw [e]
      exact part_bd f b (split_le hs).1
theorem head_bd {r : Nat} (h : r ≤ 1114111) : headN r ≤ 1114111 := part_bd 4 r h
theorem UM.open {w : World} {base : Nat} {lo hi : Value} {k : Nat} (h : UM w base lo hi k) : ∃ a n c b m d, lo = .slice a n c ∧ hi = .slice b m d := by
  obtain ⟨n, m, ys, zs, hnm, h1, h2, hd⟩ := h
  have key : ∀ {v : Value} {n : Nat} {xs : List Value}, w.ownsRow base 21 1 v n xs → ∃ a n c, v = .slice a n c := fun h => by
    rcases h.2 with ⟨rfl, _⟩ | ⟨g, cap, cur, rfl, _⟩
    · exact ⟨_, _, _, rfl⟩
    · exact ⟨_, _, _, rfl⟩
  obtain ⟨a, b, c, rfl⟩ := key h1
  obtain ⟨a2, b2, c2, rfl⟩ := key h2
  exact ⟨_, _, _, _, _, _, rfl, rfl⟩
set_option maxRecDepth 100000 in
set_option maxHeartbeats 16000000 in
theorem units77 (s : ByteArray) (hs : s.size ≤ 1100000) (w : World) : Calls Tryz.prog 74 #[.string s] w fun e w' => (∃ v, e = .returned v ∧ UnR w' w.heap.size s v) ∧ Below w.heap.size w w' := by
  obtain ⟨j0, hj, gz0, gz1, gz2⟩ := info_parts info193
  have hTb := hid (fun W => tables118 W)
  have hP := hid (fun W => pieces53 s W)
  refine (callsIn_wide (n := 9)).1 ?_
  refine callsIn_of_wp_marks Tryz.func74 rfl trivial ?_ rfl
  simp only [Tryz.ntmps74, List.size_toArray, List.length_cons, List.length_nil, Nat.reduceAdd, Nat.reduceSub, Array.replicate_succ, Array.replicate_zero, List.push_toArray, List.append_toArray, List.nil_append, List.cons_append]
  obtain ⟨N, hNN⟩ : ∃ N, N = w.heap.size := ⟨_, rfl⟩
  have k1 := Blk.new w 9 #[.string s]
  rw [← hNN] at k1
  have hb1 : Below N w (w.alloc (.cells #[.string s] 9)) := by rw [hNN]; exact (Below.refl _ w).alloc (Nat.le_refl _) _
  have hs1 : (w.alloc (.cells #[.string s] 9)).heap.size = N + 1 := by rw [World.size_alloc, hNN]
  gi_wp2_with fail
  refine wpIn_scope_ahead 0 rfl ?_
  gi_wp2_with fail
  refine ⟨trivial, ?_⟩
  with_reducible refine CallsIn.mono (callsIn_wide.2 (hTb.out _)) ?_
  rintro e w2 ⟨⟨m1, m, rfl, hm1, hm2, hT⟩, hb2⟩
  rw [hs1] at hm1 hb2
  obtain ⟨M, hMM⟩ : ∃ M, M = w2.heap.size := ⟨_, rfl⟩
  have hs12 : N + 1 ≤ M := by have := hb2.size; rw [hs1] at this; omega
  have k2 := k1.low (W' := w2) (by rw [hs1]; exact hb2)
  have c1 : ((w2.alloc (.cells #[.map (some m)] 195)).alloc (.cells #[.slice none 0 0] 143)).cell? ⟨N, 0, none⟩ = some (.string s) := ((k2.alloc (.cells #[.map (some m)] 195)).alloc (.cells #[.slice none 0 0] 143)).cell rfl
  have c1w := c1
  rw [hNN] at c1w
  gi_wp2_with fail
  refine wpIn_label ?_
  gi_wp2_with fail
  refine ⟨trivial, ?_⟩
  with_reducible refine CallsIn.mono (callsIn_wide.2 (hP.out _)) ?_
  rintro e w4 ⟨rfl, hw4⟩
  have hs2 : (w2.alloc (.cells #[.map (some m)] 195)).heap.size = M + 1 := by rw [World.size_alloc, hMM]
  have hs3 : ((w2.alloc (.cells #[.map (some m)] 195)).alloc (.cells #[.slice none 0 0] 143)).heap.size = M + 2 := by rw [World.size_alloc, hs2]
  have hN4 : w4.heap.size = M + 3 := by rw [hw4, World.size_alloc, hs3]
  have hbw : Below w2.heap.size w2 w4 := by rw [hw4]; exact (((Below.refl _ w2).alloc (Nat.le_refl _) _).alloc (by rw [hs2]; omega) _).alloc (by rw [hs3]; omega) _
  have hI0 : UnI w w4 N M m s none' [] 0 (.slice none 0 0) [] (.slice none 0 0) (.slice none 0 0) := by
    refine ⟨k2.low hbw, ?_, ?_, World.ownsRow_nil _ _ _ _, (fun i u h => by simp at h), (fun u h => by simp at h), UM.nil _ _ _, (fun i h => by simp at h), (fun g hg => by simp [Value.ownBlock] at hg), hT.low hbw, by omega, ?_⟩
    · rw [hw4, hMM]; exact ((Blk.new w2 195 _).alloc _).alloc _
    · have := (Blk.new (w2.alloc (.cells #[.map (some m)] 195)) 143 #[.slice none 0 0]).alloc (.cells #[.string s] 9)
      rw [hs2] at this
      rw [hw4]; exact this
    · exact (hb1.trans (hb2.mono (by omega))).trans (hbw.mono (by omega))
  have kP : Blk w4 (M + 2) 9 #[.string s] := by
    have := Blk.new ((w2.alloc (.cells #[.map (some m)] 195)).alloc (.cells #[.slice none 0 0] 143)) 9 #[.string s]
    rw [hs3] at this
    rw [hw4]; exact this
  have HI0 := hid hI0
  have KP := hid kP
  have HNN := hid hNN
  have HMM := hid hMM
  simp only [World.size_alloc, Nat.add_assoc, Nat.reduceAdd]
  rw [← hMM]
  clear k1 hb1 k2 hbw hI0 kP hT hb2 hTb hP c1 c1w hw4 hs1 hs2 hs3 hMM hNN
  gi_wp2_with fail
  refine name_actZ ?_
  intro Tm D hTm hD
  have hseq := pieces_seq 8 s (by omega) (M + 2) w4 (KP.out.cell (k := 0) rfl)
  refine rangeFunc_s (F := Fence.wide) (α := Nat) rfl (by omega) (gf := 150) (lb := #[.pointer (some ⟨M + 2, 0, none⟩)]) (by subst hTm; rfl) trivial (enters_of Tryz.func150 (by kernel_rfl) rfl)
    hseq (fun k hk => by omega) (Below.refl _ _) (fun _ => rfl)
    (fun pre S W => ∃ lv xs lo hi, UnI w W N M m s S (fuL s pre) (6 + pre.length) lv xs lo hi)
    (fun _ _ _ _ => False)
    ?hI (fun c _ _ _ _ _ h _ _ _ => h) ⟨_, _, _, _, (show UnI w w4 N M m s none' (fuL s []) (6 + ([] : List Nat).length) _ _ _ _ from HI0.out.mono (Nat.zero_le _))⟩
    (fun pre S x a' W => ∃ Bx, w4.heap.size ≤ Bx ∧ Bx < W.heap.size ∧ ¬ S Bx ∧ Blk W Bx 149 (pcZ s x) ∧ (∃ lv xs lo hi, UnI w W N M m s (fun g => S g ∨ g = Bx) (fuL s pre) (6 + pre.length) lv xs lo hi) ∧ a' = { tmps := (Tm.setIfInBounds 18 (pcV s x)).setIfInBounds 6 (.pointer (some ⟨Bx, 0, none⟩)), defers := [] })
    ?hAx ?assign ?body ?done ?stop
  case hI =>
    rintro pre S S' X Y ⟨lv, xs, lo, hi, h⟩ hS hK hS'
    exact ⟨lv, xs, lo, hi, h.free (Nat.le_refl _) (fun g hg => by have := hS g hg; omega) hK hS'⟩
  case hAx =>
    rintro pre S x a' X lb o ⟨Bx, g1, g2, g3, g4, ⟨lv, xs, lo, hi, g5⟩, g6⟩ hSl hS
    have hlb := (hS _ hSl).1
    refine ⟨Bx, g1, by simp [World.putObj]; omega, g3, g4.put (fun e => g3 (e ▸ hSl)) _, ⟨lv, xs, lo, hi, g5.keep (Kept.putObj (T := fun k => k ≠ lb) X (fun h => h rfl) o) (fun g hg => by show g ≠ lb; omega) (fun g hg e => g5.nS g hg (.inl (e ▸ hSl))) g5.nS⟩, g6⟩
  case assign =>
    rintro l' pre S x W5 K ⟨lv, xs, lo, hi, h0⟩ hW5 hS5 hpre hK
    subst hTm hD
    have hB := Blk.new W5 149 (pcZ s x)
    have hkA : ∀ T, Kept T W5 (W5.alloc (.cells (pcZ s x) 149)) := fun T => Kept.alloc T W5 _
    have H := hK _ _ (hkA _) ⟨W5.heap.size, by omega, by rw [World.size_alloc]; omega, (fun h => by have := (hS5 _ h).2; omega), hB, ⟨lv, xs, lo, hi, h0.keep (hkA (fun _ => True)) (fun _ _ => trivial) (fun _ _ => trivial) (fun g hg e => e.elim (h0.nS g hg) (fun e => by have := (h0.below g hg).2; omega))⟩, rfl⟩
    clear hK hB h0
    unfold pcV pcZ at H
    unfold pcV
    dsimp only at H
    simp only [List.setIfInBounds_toArray, List.set_cons_succ, List.set_cons_zero] at H
    gi_wp2
    exact H
  case body =>
    rintro l' pre S x a' W5 hSl ⟨rec, hrec⟩ hW5 hS5 hpre ⟨Bx, hBx, hBlt, hSB, kx, ⟨lv, xs, lo, hi, hI⟩, rfl⟩
    have hxl : x < s.size := posL_lt s _ 0 rfl x (hpre.subset (by simp))
    have hln := fuL_len s pre
    have hpl : pre.length < 1200000 := by
      have h := hpre.length_le
      rw [List.length_append, List.length_singleton] at h
      have := posL_len s _ 0 rfl
      omega
    have hE : Hid (fuL s (pre ++ [x]) = fuStep s (fuL s pre) x) := hid (fuL_snoc s pre x)
    have hS2 : ∀ g, S g ∨ g = Bx → g < W5.heap.size := fun g h => h.elim (fun h => (hS5 g h).2) (fun h => h ▸ hBlt)
    have hSlo : ∀ g, S g → M + 3 ≤ g := fun g h => by have := (hS5 g h).1; omega
    have HE := hid hE
    generalize hl0 : fuL s pre = l at *
    clear hl0
    -- behind whatever a round does
    have fin : ∀ (W' : World) (lv' : Value) (xs' : List Value) (lo' hi' : Value) (T : Nat → Prop), Kept T W5 W' → (∀ g, (g = M + 2 ∨ S g) → T g) → UnI w W' N M m s (fun g => S g ∨ g = Bx) (fuStep s l x) (6 + (pre.length + 1)) lv' xs' lo' hi' →
        Kept (fun k => k = M + 2 ∨ S k) W5 W' ∧ ∃ lv xs lo hi, UnI w W' N M m s S (fuL s (pre ++ [x])) (6 + (pre ++ [x]).length) lv xs lo hi := by
      intro W' lv' xs' lo' hi' T hK hT hU
      refine ⟨hK.mono (fun k _ h => hT k h), lv', xs', lo', hi', ?_⟩
      rw [hE.out, List.length_append, List.length_singleton]
      exact hU.keep (Kept.refl (fun _ => True) _) (fun _ _ => trivial) (fun _ _ => trivial) (fun g hg h => hU.nS g hg (.inl h))
    have Fin := hid fin
    have c1 := hI.kS.cell (k := 0) rfl
    have c5 := hI.kL.cell (k := 0) rfl
    have z5 := hI.kL.froz 0
    have x0 : W5.cell? ⟨Bx, 0, none⟩ = some (.int .i64 x) := kx.cell (k := 0) rfl
    have x2 : W5.cell? ⟨Bx, 2, none⟩ = some (.int .i32 (rnN s x)) := kx.cell (k := 2) rfl
    have x3 : W5.cell? ⟨Bx, 3, none⟩ = some (.bool (isBr s x)) := kx.cell (k := 3) rfl
    have hwN : w.heap.size = N := HNN.out.symm
    have hlt := hI.lt
    have HI := hid hI
    have KX := hid kx
    clear fin hI kx hseq hpre hrec hE
    subst hTm hD
    dsimp only
    simp only [List.setIfInBounds_toArray, List.set_cons_succ, List.set_cons_zero]
    rw [hwN]
    clear hwN
    by_cases hbr : isBr s x = true
    · have hStep : Hid (fuStep s l x = l ++ [⟨x, (s.get! x).toNat, -1⟩]) := hid (by unfold fuStep; rw [if_pos hbr])
      rw [hbr] at x3
      have hxI : (x : Int) < s.size := by omega
      have hgb : ((s[x]'hxl).toNat) = (s.get! x).toNat := by simp [ByteArray.get!, hxl]; rfl
      have hCl := SlH.cls W5 193 (.agg #[.int .i64 x, .int .u8 (s.get! x).toNat, .int .i32 (-1), .slice none 0 0, .slice none 0 0]) #[.int .i64 x, .int .u8 (s.get! x).toNat, .int .i32 (-1), .slice none 0 0, .slice none 0 0]
      have h00 := SlH.start W5 193 (.agg #[.int .i64 x, .int .u8 (s.get! x).toNat, .int .i32 (-1), .slice none 0 0, .slice none 0 0]) #[.int .i64 x, .int .u8 (s.get! x).toNat, .int .i32 (-1), .slice none 0 0, .slice none 0 0]
      gi_wp2_with fail
      refine C.eff_tailIn 9 [(8, some 29)] (SlH W5 193 (.agg #[.int .i64 x, .int .u8 (s.get! x).toNat, .int .i32 (-1), .slice none 0 0, .slice none 0 0]) #[.int .i64 x, .int .u8 (s.get! x).toNat, .int .i32 (-1), .slice none 0 0, .slice none 0 0]) (fun _ _ _ => False) (by kernel_rfl) (C.WideF.round _ _ _) (by kernel_rfl) (by kernel_rfl) (by kernel_rfl) rfl h00 ?_
      simp only [List.take_succ_cons, List.take_zero, List.drop_succ_cons, List.drop_zero]
      iterate 8 (refine C.ge_step hCl (by kernel_rfl) (C.wit0 h00 (by kernel_rfl)) (fun K hK => ?_); go_simp; refine ⟨hK _ ?_⟩; clear hK K)
      refine C.ge_eff (m := 0) (by kernel_rfl) rfl (C.wit0 h00 (by kernel_rfl)) (fun u => ∃ g, u = .slice (some ⟨g, 0, none⟩) 1 1) ?_ ?_
      · intro x' w' hf hx0 hx
        refine ⟨.slice (some ⟨w'.heap.size, 0, none⟩) 1 1, w'.alloc (.cells #[.int .i64 x, .int .u8 (s.get! x).toNat, .int .i32 (-1), .slice none 0 0, .slice none 0 0] 193), .inl ?_, ⟨_, rfl⟩, SlH.made hf.1 hx⟩
        go_simp
      rintro u ⟨g2, rfl⟩
      refine C.ge_nil ?_
      intro w3 hw3
      obtain ⟨hb3, h2⟩ := hw3
      obtain ⟨g3, e3, e4, e5⟩ := h2 _ rfl
      obtain rfl : g2 = g3 := by
        have e3 : (Value.slice (some ⟨g2, 0, none⟩) 1 1) = .slice (some ⟨g3, 0, none⟩) 1 1 := e3
        simpa using e3
      have hnw : ∀ j u, [Value.int .i64 x, .int .u8 (s.get! x).toNat, .int .i32 (-1), .slice none 0 0, .slice none 0 0][j]? = some u → w3.cell? ((⟨g2, 0, none⟩ : Addr).add j) = some u := cells_of5 e5
      have hI3 := HI.out.up hb3
      have hs3 := hb3.size
      clear h2 e3 hCl h00 c1 c5 z5 x0 x2 x3
      refine wpListIn_append_own_at _ rfl _ _ 143 rfl (M + 3) 193 j0 _ 5 64 Tryz.underlying143 hj gz0 gz1 gz2 rfl (by decide) lv l.length xs rfl hI3.own ⟨g2, 0, none⟩ 1 1 [.int .i64 x, .int .u8 (s.get! x).toNat, .int .i32 (-1), .slice none 0 0, .slice none 0 0] rfl rfl hnw (by simp [Value.oneCell']) (by unfold maxLen; omega) (by omega) (by omega) ?_
      intro v' W7 hown' hgrow _ hblk
      have hpu := HI.out.push (u := ⟨x, (s.get! x).toNat, -1⟩) (k' := 6 + (pre.length + 1)) (Kept.of_all hb3 _) hown' hgrow hblk (.inl rfl) (UM.nil w3 (M + 3) _) (fun g hg => by simp [Value.ownBlock] at hg) hS2
      have hK : Kept (fun g => g < W5.heap.size ∧ lv.ownBlock ≠ some g ∧ g ≠ M + 1) W5 (W7.setCell ⟨M + 1, 0, none⟩ v') := ((Kept.of_all hb3 _).trans (Kept.grown (T := fun g => g < W5.heap.size ∧ lv.ownBlock ≠ some g ∧ g ≠ M + 1) hgrow (fun r hr h => h.2.1 hr))).trans (Kept.setCell W7 (fun h => h.2.2 rfl) _)
      obtain ⟨gv, cv, rfl⟩ := ownsRow_succ hown'
      have kL7 : Blk W7 (M + 1) 143 #[lv] := hI3.kL.keep (Kept.grown (T := fun g => g = M + 1) hgrow (fun r hr e => by have := (hI3.own.lt r hr).1; omega)) rfl
      have d5 := kL7.cell (k := 0) rfl
      have y5 := kL7.froz 0
      have hF := hid (Fin.out _ _ _ _ _ _ hK (fun g hg => hg.elim (fun e => ⟨by omega, fun e2 => by have := (HI.out.own.lt g e2).1; omega, by omega⟩) (fun e => ⟨(hS5 g e).2, fun e2 => HI.out.nS g (.inl e2) (.inl e), by have := hSlo g e; omega⟩)) (hStep.out ▸ hpu))
      clear hpu hK kL7 hown' hgrow hblk hnw e5 hI3
      gi_wp2_with fail
      exact hF.out
    · have hbf : isBr s x = false := by simpa using hbr
      rw [hbf] at x3
      have hrn : rnN s x ≤ 1114111 := rn_bd hxl
      obtain ⟨lp, lc, rfl⟩ : ∃ p c, lv = .slice p l.length c := by
        rcases HI.out.own.2 with ⟨h1, h2⟩ | ⟨g', cap', cur, h1, _⟩
        · exact ⟨none, 0, by rw [h1, h2]⟩
        · exact ⟨_, _, h1⟩
      have hll : (l.length : Int) ≤ 1200000 := by omega
      by_cases hl0 : l.length = 0
      · have hn0 : decide ((0 : Int) < (l.length : Int)) = false := decide_eq_false (by omega)
        have hn1 : decide (0 < l.length) = false := decide_eq_false (by omega)
        have hn2 : ¬ 0 < l.length := by omega
        have hStep : Hid (fuStep s l x = l ++ [⟨x, 0, (baseN (rnN s x) : Nat)⟩]) := hid (by
          have : l = [] := List.length_eq_zero_iff.1 hl0
          subst this
          unfold fuStep; rw [if_neg hbr, if_neg (by simp [lastLet])])
        have HIc := HI
        have KXc := KX
        have HBc := hid (Below.refl W5.heap.size W5)
        clear HI KX hl0
        gi_wp2_with fail
        refine ⟨trivial, ?_⟩
        gi_wp2_with fail
        refine ⟨trivial, ?_⟩
        have x0 : W5.cell? ⟨Bx, 0, none⟩ = some (.int .i64 x) := KXc.out.cell (k := 0) rfl
        have x2 : W5.cell? ⟨Bx, 2, none⟩ = some (.int .i32 (rnN s x)) := KXc.out.cell (k := 2) rfl
        gi_wp2_with fail
        refine ⟨trivial, ?_⟩
        obtain ⟨Wd, hWd⟩ : ∃ Wd, W5.alloc (.cells #[.int .i64 x, .int .u8 0, .int .i32 (rnN s x), .slice none 0 0, .slice none 0 0] 193) = Wd := ⟨_, rfl⟩
        have k8 : Blk Wd W5.heap.size 193 #[.int .i64 x, .int .u8 0, .int .i32 (rnN s x), .slice none 0 0, .slice none 0 0] := by rw [← hWd]; exact Blk.new _ _ _
        have hKd : Below W5.heap.size W5 Wd := by rw [← hWd]; exact (Below.refl _ _).alloc (Nat.le_refl _) _
        have hLt := hid (fun W => letter120 x 0 (rnN s x) (.slice none 0 0) (.slice none 0 0) rfl rfl (.inr ⟨_, rfl, hrn⟩) W)
        try rw [show W5.alloc (.cells #[.int .i64 x, .int .u8 0, .int .i32 (rnN s x), .slice none 0 0, .slice none 0 0] 193) = Wd from hWd]
        with_reducible refine (CallsIn.inRound l' (callsIn_wide.2 (hLt.out _))).mono ?_
        rintro e We ⟨rfl, hbe⟩
        rw [show letB (rnN s x : Int) = letN (rnN s x) by unfold letB; rw [decide_eq_true (by omega), Bool.true_and, Int.toNat_natCast]]
        have KE := hid (k8.low hbe)
        have HKE := hid ((Kept.of_all hKd (fun g => g < W5.heap.size)).trans (Kept.of_below (hbe.mono hKd.size) (T := fun g => g < W5.heap.size) (fun _ _ h => h)))
        have KLe := hid (HIc.out.kL.keep HKE.out (by have := HIc.out.lt; omega))
        have hTe : W5.heap.size < We.heap.size := KE.out.lt
        clear k8 hKd hbe hWd x0 x2 hLt
        cases hlet : letN (rnN s x) with
        | false =>
          have hbase : baseN (rnN s x) = rnN s x := by unfold baseN; rw [hlet]; rfl
          rw [hbase] at hStep
          have e5 := KLe.out.cell (k := 0) rfl
          have e0 : We.cell? ⟨W5.heap.size, 0, none⟩ = some (.int .i64 x) := KE.out.cell (k := 0) rfl
          have e1 : We.cell? ⟨W5.heap.size, 1, none⟩ = some (.int .u8 0) := KE.out.cell (k := 1) rfl
          have e2 : We.cell? ⟨W5.heap.size, 2, none⟩ = some (.int .i32 (rnN s x)) := KE.out.cell (k := 2) rfl
          have e3 : We.cell? ⟨W5.heap.size, 3, none⟩ = some (.slice none 0 0) := KE.out.cell (k := 3) rfl
          have e4 : We.cell? ⟨W5.heap.size, 4, none⟩ = some (.slice none 0 0) := KE.out.cell (k := 4) rfl
          have HKA := HKE
          have HON := hid trivial
          gi_wp2_with (gi_at_builtin; refine stop_app rfl ?_)
          refine hid ?_
          have hnw : ∀ j u, [Value.int .i64 x, .int .u8 0, .int .i32 (rnN s x), .slice none 0 0, .slice none 0 0][j]? = some u → (We.alloc (.cells #[.int .i64 x, .int .u8 0, .int .i32 (rnN s x), .slice none 0 0, .slice none 0 0] 193)).cell? ((⟨We.heap.size, 0, none⟩ : Addr).add j) = some u := cells_of5 (Blk.new We 193 _)
          have hsA := HKA.out.size
          refine wpListIn_append_own_at _ rfl _ _ 143 rfl (M + 3) 193 j0 _ 5 64 Tryz.underlying143 hj gz0 gz1 gz2 rfl (by decide) (.slice lp l.length lc) l.length xs rfl (row_keep HIc.out.own (HKA.out.trans (Kept.alloc _ _ _)) (fun g hg => (HIc.out.own.lt g hg).2)) ⟨We.heap.size, 0, none⟩ 1 1 [.int .i64 x, .int .u8 0, .int .i32 (rnN s x), .slice none 0 0, .slice none 0 0] rfl rfl hnw (by simp [Value.oneCell', HON.out]) (by unfold maxLen; omega) (by omega) (by rw [World.size_alloc]; have := HIc.out.lt; omega) ?_
          intro v' W7 hown' hgrow _ hblk
          have hpu := HIc.out.push (u := ⟨x, 0, (rnN s x)⟩) (k' := 6 + (pre.length + 1)) (HKA.out.trans (Kept.alloc _ _ _)) hown' hgrow hblk (.inr ⟨_, rfl, hrn⟩) (UM.keep (UM.nil We (M + 3) _) (Kept.alloc (fun _ => True) _ _) (fun _ _ => trivial) (fun _ _ => trivial)) (fun g hg => by simp [Value.ownBlock] at hg) (fun g hg => Nat.lt_of_lt_of_le (hS2 g hg) HBc.out.size)
          have hK : Kept (fun g => g < W5.heap.size ∧ Value.ownBlock (.slice lp l.length lc) ≠ some g ∧ g ≠ M + 1) W5 (W7.setCell ⟨M + 1, 0, none⟩ v') := (((HKA.out.mono (fun g _ h => h.1)).trans (Kept.alloc _ _ _)).trans (Kept.grown (T := fun g => g < W5.heap.size ∧ Value.ownBlock (.slice lp l.length lc) ≠ some g ∧ g ≠ M + 1) hgrow (fun r hr h => h.2.1 hr))).trans (Kept.setCell W7 (fun h => h.2.2 rfl) _)
          have hK5 : Kept (fun g => g < W5.heap.size ∧ Value.ownBlock (.slice lp l.length lc) ≠ some g ∧ g ≠ M + 1) W5 (W7.setCell ⟨M + 1, 0, none⟩ v') := (Kept.of_all HBc.out _).trans (hK.mono (fun g _ h => ⟨Nat.lt_of_lt_of_le h.1 HBc.out.size, h.2⟩))
          obtain ⟨gv, cv, rfl⟩ := ownsRow_succ hown'
          have kL7 : Blk W7 (M + 1) 143 #[.slice lp l.length lc] := (HIc.out.kL.keep (HKA.out.trans (Kept.alloc _ _ _)) (by have := HIc.out.lt; omega)).keep (Kept.grown (T := fun g => g = M + 1) hgrow (fun r hr e => by have := (HIc.out.own.lt r hr).1; omega)) rfl
          have d5 := kL7.cell (k := 0) rfl
          have y5 := kL7.froz 0
          have hF := hid (Fin.out _ _ _ _ _ _ hK5 (fun g hg => hg.elim (fun e => ⟨by omega, fun e2 => by have := (HIc.out.own.lt g e2).1; omega, by omega⟩) (fun e => ⟨(hS5 g e).2, fun e2 => HIc.out.nS g (.inl e2) (.inl e), by have := hSlo g e; omega⟩)) (hStep.out ▸ hpu))
          clear hpu hK hK5 kL7 hown' hgrow hblk hnw
          gi_wp2_with fail
          exact hF.out
        | true =>
          have hbase : baseN (rnN s x) = headN (rnN s x) := by unfold baseN; rw [hlet]; rfl
          rw [hbase] at hStep
          have hTbe : TbAt We m := HIc.out.tb.keep HKE.out (by have := HIc.out.lt; omega)
          have kMe : Blk We M 195 #[.map (some m)] := HIc.out.kM.keep HKE.out (by have := HIc.out.lt; omega)
          have m0 := kMe.cell (k := 0) rfl
          have hBxc : Bx < W5.heap.size := KXc.out.lt
          have x2 : We.cell? ⟨Bx, 2, none⟩ = some (.int .i32 (rnN s x)) := (KXc.out.keep HKE.out hBxc).cell (k := 2) rfl
          have hPt := hid (fun W h => parted123 (rnN s x) hrn W m h)
          gi_wp2_with fail
          refine ⟨trivial, ?_⟩
          with_reducible refine (CallsIn.inRound l' (callsIn_wide.2 (hPt.out _ hTbe))).mono ?_
          rintro e Wf ⟨⟨pv, rfl, np, ms, hnp, hpo, hall⟩, hbf⟩
          clear x2 m0 kMe hTbe hPt
          obtain ⟨gp, cp, rfl⟩ := ownsRow_succ hpo
          have hpb : We.heap.size ≤ gp := (hpo.lt gp rfl).1
          have hpl : gp < Wf.heap.size := (hpo.lt gp rfl).2
          have hpc : ∀ j u, (Value.int .i32 (headN (rnN s x)) :: ms)[j]? = some u → Wf.cell? ⟨gp, j, none⟩ = some u := by
            rcases own_at hpo with ⟨h1, _⟩ | ⟨g, cap, h1, _, _, h2⟩
            · omega
            · obtain rfl : gp = g := by have := (Value.slice.inj h1).1; simpa using this
              exact h2
          have hml : ms.length = np := by have := hpo.1; simp at this; omega
          have hcp : np + 1 ≤ cp := by
            rcases hpo.2 with ⟨h1, _⟩ | ⟨g, cap, cur, h1, _, _, h2, _⟩
            · cases h1
            · obtain ⟨_, _, rfl⟩ := Value.slice.inj h1
              exact h2
          have p0 := hpc 0 _ rfl
          have hbf2 := hbf.size
          have KF := hid (KE.out.low hbf)
          have k82 := KF.out.froz 2
          have e82 : Wf.cell? ⟨W5.heap.size, 2, none⟩ = some (.int .i32 (rnN s x)) := KF.out.cell (k := 2) rfl
          have HKF := hid (HKE.out.trans (Kept.of_below (hbf.mono HKE.out.size) (T := fun g => g < W5.heap.size) (fun _ _ h => h)))
          have HPC := hid hpc
          have hml2 := hid hml
          have hnpI : (np : Int) ≤ 4 := by omega
          have hcpI : (np : Int) + 1 ≤ cp := by omega
          have hcp1 : (1 : Int) ≤ cp := by omega
          clear hpo hpc hml hbf
          gi_wp2_with fail
          all_goals
            gi_loopw [74] (fun i wr => ∃ (k : Nat) (lo hi : Value), k ≤ np ∧ i = .int .i64 k ∧ Hid (Blk wr W5.heap.size 193 #[.int .i64 x, .int .u8 0, .int .i32 (headN (rnN s x)), lo, hi]) ∧ Hid (UM wr (M + 3) lo hi k) ∧ Hid (∀ g, lo.ownBlock = some g ∨ hi.ownBlock = some g → Wf.heap.size ≤ g) ∧ Hid (Kept (fun g => g < Wf.heap.size ∧ g ≠ W5.heap.size) Wf wr)) (fun i wr => np - (RowKit.intOf i).toNat)
            case atStart => exact ⟨0, .slice none 0 0, .slice none 0 0, Nat.zero_le _, rfl, hid (KF.out.upd 2 _ rfl), hid (UM.nil _ _ _), hid (fun g hg => by simp [Value.ownBlock] at hg), hid (Kept.setCell Wf (fun h => h.2 rfl) _)⟩
            case round =>
              obtain ⟨k, lo, hi, hk, rfl, hB, hU, hN, hKw⟩ := hrel
              by_cases hp : k < np
              · first
                | (exfalso; omega)
                |
                  obtain ⟨q, hq⟩ : ∃ q : Int, ms[k]? = some (.int .i32 q) := by
                    obtain ⟨q, hq⟩ := hall k _ (List.getElem?_eq_getElem (by rw [hml2.out]; exact hp))
                    exact ⟨q, by rw [List.getElem?_eq_getElem (by rw [hml2.out]; exact hp), hq]⟩
                  have q0 : wr.cell? ⟨gp, 1 + k, none⟩ = some (.int .i32 q) := by
                    have h1 := HPC.out (1 + k) (.int .i32 q) (by rw [Nat.add_comm, List.getElem?_cons_succ]; exact hq)
                    exact hKw.out.cell h1 ⟨hpl, by show gp ≠ _; omega⟩
                  have hkI : (k : Int) < np := by omega
                  have hMk := hid (mark122 wr W5.heap.size 0 (M + 3) _ lo hi k q hB.out rfl rfl hU.out (by omega) (by have := hKw.out.size; omega))
                  clear hB hU
                  gi_wp2_with fail
                  refine ⟨trivial, ?_⟩
                  with_reducible refine (CallsIn.inRound l' (callsIn_wide.2 hMk.out)).mono ?_
                  rintro e W2 ⟨⟨v2, rfl⟩, lo2, hi2, hM⟩
                  have G1 := hid hM.b
                  have G2 := hid hM.um
                  have G3 : Hid (∀ g, lo2.ownBlock = some g ∨ hi2.ownBlock = some g → Wf.heap.size ≤ g) := hid (fun g hg => (hM.old g hg).elim (hN.out g) (fun e => Nat.le_trans hKw.out.size e))
                  have G4 := hid (hKw.out.trans (hM.kept.mono (fun g _ h => ⟨h.2, fun e => by have := hN.out g (.inl e); omega, fun e => by have := hN.out g (.inr e); omega⟩)))
                  clear hM q0 hMk
                  gi_wp2_with fail
                  go_roundw
                  case rel => exact ⟨k + 1, lo2, hi2, by omega, by go_num, G1, G2, G3, G4⟩
                  case measure => simp [RowKit.intOf]; omega
              · obtain rfl : k = np := by omega
                obtain ⟨lq, ln, lc0, hq, hn, hc0, rfl, rfl⟩ := hU.out.open
                have KB := hid hB.out
                have HKA := hid (HKF.out.trans (hKw.out.mono (fun g hg (h : g < W5.heap.size) => ⟨by omega, by omega⟩)))
                have HON := hid hU.out.one
                have KLw := hid (HIc.out.kL.keep HKA.out (by have := HIc.out.lt; omega))
                have e5 := KLw.out.cell (k := 0) rfl
                have e0 : wr.cell? ⟨W5.heap.size, 0, none⟩ = some (.int .i64 x) := KB.out.cell (k := 0) rfl
                have e1 : wr.cell? ⟨W5.heap.size, 1, none⟩ = some (.int .u8 0) := KB.out.cell (k := 1) rfl
                have e2 : wr.cell? ⟨W5.heap.size, 2, none⟩ = some (.int .i32 (headN (rnN s x))) := KB.out.cell (k := 2) rfl
                have e3 : wr.cell? ⟨W5.heap.size, 3, none⟩ = some (.slice lq ln lc0) := KB.out.cell (k := 3) rfl
                have e4 : wr.cell? ⟨W5.heap.size, 4, none⟩ = some (.slice hq hn hc0) := KB.out.cell (k := 4) rfl
                have hUm := hid (hU.out.mono (k' := 6 + (pre.length + 1)) (by omega))
                have hUn : ∀ g, Value.ownBlock (.slice lq ln lc0) = some g ∨ Value.ownBlock (.slice hq hn hc0) = some g → W5.heap.size ≤ g := fun g hg => by have := hN.out g hg; omega
                have HUn := hid hUn
                clear hB hU hN hKw hUn
                gi_wp2_with (gi_at_builtin; refine stop_app rfl ?_)
                refine hid ?_
                have hnw : ∀ j u, [Value.int .i64 x, .int .u8 0, .int .i32 (headN (rnN s x)), .slice lq ln lc0, .slice hq hn hc0][j]? = some u → (wr.alloc (.cells #[.int .i64 x, .int .u8 0, .int .i32 (headN (rnN s x)), .slice lq ln lc0, .slice hq hn hc0] 193)).cell? ((⟨wr.heap.size, 0, none⟩ : Addr).add j) = some u := cells_of5 (Blk.new wr 193 _)
                have hsA := HKA.out.size
                refine wpListIn_append_own_at _ rfl _ _ 143 rfl (M + 3) 193 j0 _ 5 64 Tryz.underlying143 hj gz0 gz1 gz2 rfl (by decide) (.slice lp l.length lc) l.length xs rfl (row_keep HIc.out.own (HKA.out.trans (Kept.alloc _ _ _)) (fun g hg => (HIc.out.own.lt g hg).2)) ⟨wr.heap.size, 0, none⟩ 1 1 [.int .i64 x, .int .u8 0, .int .i32 (headN (rnN s x)), .slice lq ln lc0, .slice hq hn hc0] rfl rfl hnw (by simp [Value.oneCell', HON.out]) (by unfold maxLen; omega) (by omega) (by rw [World.size_alloc]; have := HIc.out.lt; omega) ?_
                intro v' W7 hown' hgrow _ hblk
                have hpu := HIc.out.push (u := ⟨x, 0, (headN (rnN s x))⟩) (k' := 6 + (pre.length + 1)) (HKA.out.trans (Kept.alloc _ _ _)) hown' hgrow hblk (.inr ⟨_, rfl, (head_bd hrn)⟩) (UM.keep hUm.out (Kept.alloc (fun _ => True) _ _) (fun _ _ => trivial) (fun _ _ => trivial)) HUn.out (fun g hg => Nat.lt_of_lt_of_le (hS2 g hg) HBc.out.size)
                have hK : Kept (fun g => g < W5.heap.size ∧ Value.ownBlock (.slice lp l.length lc) ≠ some g ∧ g ≠ M + 1) W5 (W7.setCell ⟨M + 1, 0, none⟩ v') := (((HKA.out.mono (fun g _ h => h.1)).trans (Kept.alloc _ _ _)).trans (Kept.grown (T := fun g => g < W5.heap.size ∧ Value.ownBlock (.slice lp l.length lc) ≠ some g ∧ g ≠ M + 1) hgrow (fun r hr h => h.2.1 hr))).trans (Kept.setCell W7 (fun h => h.2.2 rfl) _)
                have hK5 : Kept (fun g => g < W5.heap.size ∧ Value.ownBlock (.slice lp l.length lc) ≠ some g ∧ g ≠ M + 1) W5 (W7.setCell ⟨M + 1, 0, none⟩ v') := (Kept.of_all HBc.out _).trans (hK.mono (fun g _ h => ⟨Nat.lt_of_lt_of_le h.1 HBc.out.size, h.2⟩))
                obtain ⟨gv, cv, rfl⟩ := ownsRow_succ hown'
                have kL7 : Blk W7 (M + 1) 143 #[.slice lp l.length lc] := (HIc.out.kL.keep (HKA.out.trans (Kept.alloc _ _ _)) (by have := HIc.out.lt; omega)).keep (Kept.grown (T := fun g => g = M + 1) hgrow (fun r hr e => by have := (HIc.out.own.lt r hr).1; omega)) rfl
                have d5 := kL7.cell (k := 0) rfl
                have y5 := kL7.froz 0
                have hF := hid (Fin.out _ _ _ _ _ _ hK5 (fun g hg => hg.elim (fun e => ⟨by omega, fun e2 => by have := (HIc.out.own.lt g e2).1; omega, by omega⟩) (fun e => ⟨(hS5 g e).2, fun e2 => HIc.out.nS g (.inl e2) (.inl e), by have := hSlo g e; omega⟩)) (hStep.out ▸ hpu))
                clear hpu hK hK5 kL7 hown' hgrow hblk hnw
                gi_wp2_with fail
                exact hF.out
      · have hil : l.length = (l.length - 1) + 1 := by omega
        obtain ⟨gz, cap, cur, hlv, hgM, hgl, hgc, hc3, hc4, hlast⟩ := HI.out.last hil
        have HLast := hid hlast
        obtain ⟨u, hu⟩ : ∃ u, l[l.length - 1]? = some u := ⟨_, List.getElem?_eq_getElem (by omega)⟩
        have hlu : Hid (lastLet l = letU u) := hid (by unfold lastLet; rw [List.getLast?_eq_getElem?, hu])
        have hBo := HI.out.bs u (List.mem_of_getElem? hu)
        obtain ⟨y0, y1, y2, ya, yb, y3, y4, o3, o4⟩ := HI.out.rel _ u hu
        obtain ⟨ey3, ey4⟩ := HI.out.lst _ hil
        rw [ey3] at y3
        rw [ey4] at y4
        obtain rfl := Option.some.inj y3
        obtain rfl := Option.some.inj y4
        have hce : ∀ j v, xs[j]? = some v → W5.cell? ⟨gz, j, none⟩ = some v := by
          rcases own_at HI.out.own with ⟨h1, _⟩ | ⟨g', cap', h1, _, _, h2⟩
          · omega
          · obtain rfl : gz = g' := by
              rw [hlv] at h1
              have := (Value.slice.inj h1).1
              simpa using this
            exact h2
        have u0 := hce _ _ y0
        have u1 := hce _ _ y1
        have u2 := hce _ _ y2
        have u3 := hce _ _ ey3
        have u4 := hce _ _ ey4
        obtain ⟨rfl, hlx, rfl⟩ := Value.slice.inj hlv
        clear hlx
        obtain ⟨la, ln, lcc, hqa, hqn, hqc, rfl, rfl⟩ := HI.out.um.open
        have hn0 : decide ((0 : Int) < (l.length : Int)) = true := decide_eq_true (by omega)
        have hn1 : decide (0 < l.length) = true := decide_eq_true (by omega)
        have hn2 : 0 < l.length := by omega
        have HGC := hid hgc
        have HC := hid (And.intro hc3 hc4)
        have HUP := hid (And.intro hgM hgl)
        clear hil hlv hlast hu y0 y1 y2 y3 y4 ey3 ey4 hce hgc hc3 hc4 o3 o4
        have hLtU := hid (fun W => letter120 u.p u.br u.base (.slice la ln lcc) (.slice hqa hqn hqc) rfl rfl hBo W)
        obtain ⟨up, ub, ubase⟩ := u
        dsimp only at u0 u1 u2 hLtU hBo
        have hi1 : (0 : Int) ≤ (l.length : Int) - 1 := by omega
        have hi2 : (l.length : Int) - 1 < l.length := by omega
        have HL0 := hid hl0
        have HS2 := hid hS2
        clear hl0 hn2
        gi_wp2_with fail
        refine ⟨trivial, ?_⟩
        with_reducible refine (CallsIn.inRound l' (callsIn_wide.2 (hLtU.out _))).mono ?_
        rintro e Wq ⟨rfl, hbq⟩
        have hlu2 : Hid (lastLet l = letB ubase) := hlu
        have HIc := hid (HI.out.up hbq)
        have KXc := hid (KX.out.low hbq)
        have HBc := hid hbq
        clear u0 u1 u2 u3 u4 hbq hLtU hlu c1 c5 z5 x0 x2 x3
        have x2 : Wq.cell? ⟨Bx, 2, none⟩ = some (.int .i32 (rnN s x)) := KXc.out.cell (k := 2) rfl
        have c5 := HIc.out.kL.cell (k := 0) rfl
        have hKd := hid (fun w => R.kind81 (rnN s x : Int) (by omega) (by omega) w)
        have hkm := kind_is2 (rnN s x) hrn
        cases hlb : letB ubase with
        | false =>
          have hStep : Hid (fuStep s l x = l ++ [⟨x, 0, (baseN (rnN s x) : Nat)⟩]) := hid (by
            unfold fuStep; rw [if_neg hbr, if_neg (by rw [hlu2.out, hlb]; simp)])
          have hl0 := HL0
          clear HI KX hlb hlu2 x2 hkm hKd c5 hi1 hi2
          gi_wp2_with fail
          refine ⟨trivial, ?_⟩
          have x0 : Wq.cell? ⟨Bx, 0, none⟩ = some (.int .i64 x) := KXc.out.cell (k := 0) rfl
          have x2 : Wq.cell? ⟨Bx, 2, none⟩ = some (.int .i32 (rnN s x)) := KXc.out.cell (k := 2) rfl
          gi_wp2_with fail
          refine ⟨trivial, ?_⟩
          obtain ⟨Wd, hWd⟩ : ∃ Wd, Wq.alloc (.cells #[.int .i64 x, .int .u8 0, .int .i32 (rnN s x), .slice none 0 0, .slice none 0 0] 193) = Wd := ⟨_, rfl⟩
          have k8 : Blk Wd Wq.heap.size 193 #[.int .i64 x, .int .u8 0, .int .i32 (rnN s x), .slice none 0 0, .slice none 0 0] := by rw [← hWd]; exact Blk.new _ _ _
          have hKd : Below Wq.heap.size Wq Wd := by rw [← hWd]; exact (Below.refl _ _).alloc (Nat.le_refl _) _
          have hLt := hid (fun W => letter120 x 0 (rnN s x) (.slice none 0 0) (.slice none 0 0) rfl rfl (.inr ⟨_, rfl, hrn⟩) W)
          try rw [show Wq.alloc (.cells #[.int .i64 x, .int .u8 0, .int .i32 (rnN s x), .slice none 0 0, .slice none 0 0] 193) = Wd from hWd]
          with_reducible refine (CallsIn.inRound l' (callsIn_wide.2 (hLt.out _))).mono ?_
          rintro e We ⟨rfl, hbe⟩
          rw [show letB (rnN s x : Int) = letN (rnN s x) by unfold letB; rw [decide_eq_true (by omega), Bool.true_and, Int.toNat_natCast]]
          have KE := hid (k8.low hbe)
          have HKE := hid ((Kept.of_all hKd (fun g => g < Wq.heap.size)).trans (Kept.of_below (hbe.mono hKd.size) (T := fun g => g < Wq.heap.size) (fun _ _ h => h)))
          have KLe := hid (HIc.out.kL.keep HKE.out (by have := HIc.out.lt; omega))
          have hTe : Wq.heap.size < We.heap.size := KE.out.lt
          clear k8 hKd hbe hWd x0 x2 hLt
          cases hlet : letN (rnN s x) with
          | false =>
            have hbase : baseN (rnN s x) = rnN s x := by unfold baseN; rw [hlet]; rfl
            rw [hbase] at hStep
            have e5 := KLe.out.cell (k := 0) rfl
            have e0 : We.cell? ⟨Wq.heap.size, 0, none⟩ = some (.int .i64 x) := KE.out.cell (k := 0) rfl
            have e1 : We.cell? ⟨Wq.heap.size, 1, none⟩ = some (.int .u8 0) := KE.out.cell (k := 1) rfl
            have e2 : We.cell? ⟨Wq.heap.size, 2, none⟩ = some (.int .i32 (rnN s x)) := KE.out.cell (k := 2) rfl
            have e3 : We.cell? ⟨Wq.heap.size, 3, none⟩ = some (.slice none 0 0) := KE.out.cell (k := 3) rfl
            have e4 : We.cell? ⟨Wq.heap.size, 4, none⟩ = some (.slice none 0 0) := KE.out.cell (k := 4) rfl
            have HKA := HKE
            have HON := hid trivial
            gi_wp2_with (gi_at_builtin; refine stop_app rfl ?_)
            refine hid ?_
            have hnw : ∀ j u, [Value.int .i64 x, .int .u8 0, .int .i32 (rnN s x), .slice none 0 0, .slice none 0 0][j]? = some u → (We.alloc (.cells #[.int .i64 x, .int .u8 0, .int .i32 (rnN s x), .slice none 0 0, .slice none 0 0] 193)).cell? ((⟨We.heap.size, 0, none⟩ : Addr).add j) = some u := cells_of5 (Blk.new We 193 _)
            have hsA := HKA.out.size
            refine wpListIn_append_own_at _ rfl _ _ 143 rfl (M + 3) 193 j0 _ 5 64 Tryz.underlying143 hj gz0 gz1 gz2 rfl (by decide) (.slice (some ⟨gz, 0, none⟩) l.length lc) l.length xs rfl (row_keep HIc.out.own (HKA.out.trans (Kept.alloc _ _ _)) (fun g hg => (HIc.out.own.lt g hg).2)) ⟨We.heap.size, 0, none⟩ 1 1 [.int .i64 x, .int .u8 0, .int .i32 (rnN s x), .slice none 0 0, .slice none 0 0] rfl rfl hnw (by simp [Value.oneCell', HON.out]) (by unfold maxLen; omega) (by omega) (by rw [World.size_alloc]; have := HIc.out.lt; omega) ?_
            intro v' W7 hown' hgrow _ hblk
            have hpu := HIc.out.push (u := ⟨x, 0, (rnN s x)⟩) (k' := 6 + (pre.length + 1)) (HKA.out.trans (Kept.alloc _ _ _)) hown' hgrow hblk (.inr ⟨_, rfl, hrn⟩) (UM.keep (UM.nil We (M + 3) _) (Kept.alloc (fun _ => True) _ _) (fun _ _ => trivial) (fun _ _ => trivial)) (fun g hg => by simp [Value.ownBlock] at hg) (fun g hg => Nat.lt_of_lt_of_le (hS2 g hg) HBc.out.size)
            have hK : Kept (fun g => g < Wq.heap.size ∧ Value.ownBlock (.slice (some ⟨gz, 0, none⟩) l.length lc) ≠ some g ∧ g ≠ M + 1) Wq (W7.setCell ⟨M + 1, 0, none⟩ v') := (((HKA.out.mono (fun g _ h => h.1)).trans (Kept.alloc _ _ _)).trans (Kept.grown (T := fun g => g < Wq.heap.size ∧ Value.ownBlock (.slice (some ⟨gz, 0, none⟩) l.length lc) ≠ some g ∧ g ≠ M + 1) hgrow (fun r hr h => h.2.1 hr))).trans (Kept.setCell W7 (fun h => h.2.2 rfl) _)
            have hK5 : Kept (fun g => g < W5.heap.size ∧ Value.ownBlock (.slice (some ⟨gz, 0, none⟩) l.length lc) ≠ some g ∧ g ≠ M + 1) W5 (W7.setCell ⟨M + 1, 0, none⟩ v') := (Kept.of_all HBc.out _).trans (hK.mono (fun g _ h => ⟨Nat.lt_of_lt_of_le h.1 HBc.out.size, h.2⟩))
            obtain ⟨gv, cv, rfl⟩ := ownsRow_succ hown'
            have kL7 : Blk W7 (M + 1) 143 #[.slice (some ⟨gz, 0, none⟩) l.length lc] := (HIc.out.kL.keep (HKA.out.trans (Kept.alloc _ _ _)) (by have := HIc.out.lt; omega)).keep (Kept.grown (T := fun g => g = M + 1) hgrow (fun r hr e => by have := (HIc.out.own.lt r hr).1; omega)) rfl
            have d5 := kL7.cell (k := 0) rfl
            have y5 := kL7.froz 0
            have hF := hid (Fin.out _ _ _ _ _ _ hK5 (fun g hg => hg.elim (fun e => ⟨by omega, fun e2 => by have := (HIc.out.own.lt g e2).1; omega, by omega⟩) (fun e => ⟨(hS5 g e).2, fun e2 => HIc.out.nS g (.inl e2) (.inl e), by have := hSlo g e; omega⟩)) (hStep.out ▸ hpu))
            clear hpu hK hK5 kL7 hown' hgrow hblk hnw
            gi_wp2_with fail
            exact hF.out
          | true =>
            have hbase : baseN (rnN s x) = headN (rnN s x) := by unfold baseN; rw [hlet]; rfl
            rw [hbase] at hStep
            have hTbe : TbAt We m := HIc.out.tb.keep HKE.out (by have := HIc.out.lt; omega)
            have kMe : Blk We M 195 #[.map (some m)] := HIc.out.kM.keep HKE.out (by have := HIc.out.lt; omega)
            have m0 := kMe.cell (k := 0) rfl
            have hBxc : Bx < Wq.heap.size := KXc.out.lt
            have x2 : We.cell? ⟨Bx, 2, none⟩ = some (.int .i32 (rnN s x)) := (KXc.out.keep HKE.out hBxc).cell (k := 2) rfl
            have hPt := hid (fun W h => parted123 (rnN s x) hrn W m h)
            gi_wp2_with fail
            refine ⟨trivial, ?_⟩
            with_reducible refine (CallsIn.inRound l' (callsIn_wide.2 (hPt.out _ hTbe))).mono ?_
            rintro e Wf ⟨⟨pv, rfl, np, ms, hnp, hpo, hall⟩, hbf⟩
            clear x2 m0 kMe hTbe hPt
            obtain ⟨gp, cp, rfl⟩ := ownsRow_succ hpo
            have hpb : We.heap.size ≤ gp := (hpo.lt gp rfl).1
            have hpl : gp < Wf.heap.size := (hpo.lt gp rfl).2
            have hpc : ∀ j u, (Value.int .i32 (headN (rnN s x)) :: ms)[j]? = some u → Wf.cell? ⟨gp, j, none⟩ = some u := by
              rcases own_at hpo with ⟨h1, _⟩ | ⟨g, cap, h1, _, _, h2⟩
              · omega
              · obtain rfl : gp = g := by have := (Value.slice.inj h1).1; simpa using this
                exact h2
            have hml : ms.length = np := by have := hpo.1; simp at this; omega
            have hcp : np + 1 ≤ cp := by
              rcases hpo.2 with ⟨h1, _⟩ | ⟨g, cap, cur, h1, _, _, h2, _⟩
              · cases h1
              · obtain ⟨_, _, rfl⟩ := Value.slice.inj h1
                exact h2
            have p0 := hpc 0 _ rfl
            have hbf2 := hbf.size
            have KF := hid (KE.out.low hbf)
            have k82 := KF.out.froz 2
            have e82 : Wf.cell? ⟨Wq.heap.size, 2, none⟩ = some (.int .i32 (rnN s x)) := KF.out.cell (k := 2) rfl
            have HKF := hid (HKE.out.trans (Kept.of_below (hbf.mono HKE.out.size) (T := fun g => g < Wq.heap.size) (fun _ _ h => h)))
            have HPC := hid hpc
            have hml2 := hid hml
            have hnpI : (np : Int) ≤ 4 := by omega
            have hcpI : (np : Int) + 1 ≤ cp := by omega
            have hcp1 : (1 : Int) ≤ cp := by omega
            clear hpo hpc hml hbf
            gi_wp2_with fail
            all_goals
              gi_loopw [74] (fun i wr => ∃ (k : Nat) (lo hi : Value), k ≤ np ∧ i = .int .i64 k ∧ Hid (Blk wr Wq.heap.size 193 #[.int .i64 x, .int .u8 0, .int .i32 (headN (rnN s x)), lo, hi]) ∧ Hid (UM wr (M + 3) lo hi k) ∧ Hid (∀ g, lo.ownBlock = some g ∨ hi.ownBlock = some g → Wf.heap.size ≤ g) ∧ Hid (Kept (fun g => g < Wf.heap.size ∧ g ≠ Wq.heap.size) Wf wr)) (fun i wr => np - (RowKit.intOf i).toNat)
              case atStart => exact ⟨0, .slice none 0 0, .slice none 0 0, Nat.zero_le _, rfl, hid (KF.out.upd 2 _ rfl), hid (UM.nil _ _ _), hid (fun g hg => by simp [Value.ownBlock] at hg), hid (Kept.setCell Wf (fun h => h.2 rfl) _)⟩
              case round =>
                obtain ⟨k, lo, hi, hk, rfl, hB, hU, hN, hKw⟩ := hrel
                by_cases hp : k < np
                · first
                  | (exfalso; omega)
                  |
                    obtain ⟨q, hq⟩ : ∃ q : Int, ms[k]? = some (.int .i32 q) := by
                      obtain ⟨q, hq⟩ := hall k _ (List.getElem?_eq_getElem (by rw [hml2.out]; exact hp))
                      exact ⟨q, by rw [List.getElem?_eq_getElem (by rw [hml2.out]; exact hp), hq]⟩
                    have q0 : wr.cell? ⟨gp, 1 + k, none⟩ = some (.int .i32 q) := by
                      have h1 := HPC.out (1 + k) (.int .i32 q) (by rw [Nat.add_comm, List.getElem?_cons_succ]; exact hq)
                      exact hKw.out.cell h1 ⟨hpl, by show gp ≠ _; omega⟩
                    have hkI : (k : Int) < np := by omega
                    have hMk := hid (mark122 wr Wq.heap.size 0 (M + 3) _ lo hi k q hB.out rfl rfl hU.out (by omega) (by have := hKw.out.size; omega))
                    clear hB hU
                    gi_wp2_with fail
                    refine ⟨trivial, ?_⟩
                    with_reducible refine (CallsIn.inRound l' (callsIn_wide.2 hMk.out)).mono ?_
                    rintro e W2 ⟨⟨v2, rfl⟩, lo2, hi2, hM⟩
                    have G1 := hid hM.b
                    have G2 := hid hM.um
                    have G3 : Hid (∀ g, lo2.ownBlock = some g ∨ hi2.ownBlock = some g → Wf.heap.size ≤ g) := hid (fun g hg => (hM.old g hg).elim (hN.out g) (fun e => Nat.le_trans hKw.out.size e))
                    have G4 := hid (hKw.out.trans (hM.kept.mono (fun g _ h => ⟨h.2, fun e => by have := hN.out g (.inl e); omega, fun e => by have := hN.out g (.inr e); omega⟩)))
                    clear hM q0 hMk
                    gi_wp2_with fail
                    go_roundw
                    case rel => exact ⟨k + 1, lo2, hi2, by omega, by go_num, G1, G2, G3, G4⟩
                    case measure => simp [RowKit.intOf]; omega
                · obtain rfl : k = np := by omega
                  obtain ⟨lq, ln, lc0, hq, hn, hc0, rfl, rfl⟩ := hU.out.open
                  have KB := hid hB.out
                  have HKA := hid (HKF.out.trans (hKw.out.mono (fun g hg (h : g < Wq.heap.size) => ⟨by omega, by omega⟩)))
                  have HON := hid hU.out.one
                  have KLw := hid (HIc.out.kL.keep HKA.out (by have := HIc.out.lt; omega))
                  have e5 := KLw.out.cell (k := 0) rfl
                  have e0 : wr.cell? ⟨Wq.heap.size, 0, none⟩ = some (.int .i64 x) := KB.out.cell (k := 0) rfl
                  have e1 : wr.cell? ⟨Wq.heap.size, 1, none⟩ = some (.int .u8 0) := KB.out.cell (k := 1) rfl
                  have e2 : wr.cell? ⟨Wq.heap.size, 2, none⟩ = some (.int .i32 (headN (rnN s x))) := KB.out.cell (k := 2) rfl
                  have e3 : wr.cell? ⟨Wq.heap.size, 3, none⟩ = some (.slice lq ln lc0) := KB.out.cell (k := 3) rfl
                  have e4 : wr.cell? ⟨Wq.heap.size, 4, none⟩ = some (.slice hq hn hc0) := KB.out.cell (k := 4) rfl
                  have hUm := hid (hU.out.mono (k' := 6 + (pre.length + 1)) (by omega))
                  have hUn : ∀ g, Value.ownBlock (.slice lq ln lc0) = some g ∨ Value.ownBlock (.slice hq hn hc0) = some g → Wq.heap.size ≤ g := fun g hg => by have := hN.out g hg; omega
                  have HUn := hid hUn
                  clear hB hU hN hKw hUn
                  gi_wp2_with (gi_at_builtin; refine stop_app rfl ?_)
                  refine hid ?_
                  have hnw : ∀ j u, [Value.int .i64 x, .int .u8 0, .int .i32 (headN (rnN s x)), .slice lq ln lc0, .slice hq hn hc0][j]? = some u → (wr.alloc (.cells #[.int .i64 x, .int .u8 0, .int .i32 (headN (rnN s x)), .slice lq ln lc0, .slice hq hn hc0] 193)).cell? ((⟨wr.heap.size, 0, none⟩ : Addr).add j) = some u := cells_of5 (Blk.new wr 193 _)
                  have hsA := HKA.out.size
                  refine wpListIn_append_own_at _ rfl _ _ 143 rfl (M + 3) 193 j0 _ 5 64 Tryz.underlying143 hj gz0 gz1 gz2 rfl (by decide) (.slice (some ⟨gz, 0, none⟩) l.length lc) l.length xs rfl (row_keep HIc.out.own (HKA.out.trans (Kept.alloc _ _ _)) (fun g hg => (HIc.out.own.lt g hg).2)) ⟨wr.heap.size, 0, none⟩ 1 1 [.int .i64 x, .int .u8 0, .int .i32 (headN (rnN s x)), .slice lq ln lc0, .slice hq hn hc0] rfl rfl hnw (by simp [Value.oneCell', HON.out]) (by unfold maxLen; omega) (by omega) (by rw [World.size_alloc]; have := HIc.out.lt; omega) ?_
                  intro v' W7 hown' hgrow _ hblk
                  have hpu := HIc.out.push (u := ⟨x, 0, (headN (rnN s x))⟩) (k' := 6 + (pre.length + 1)) (HKA.out.trans (Kept.alloc _ _ _)) hown' hgrow hblk (.inr ⟨_, rfl, (head_bd hrn)⟩) (UM.keep hUm.out (Kept.alloc (fun _ => True) _ _) (fun _ _ => trivial) (fun _ _ => trivial)) HUn.out (fun g hg => Nat.lt_of_lt_of_le (hS2 g hg) HBc.out.size)
                  have hK : Kept (fun g => g < Wq.heap.size ∧ Value.ownBlock (.slice (some ⟨gz, 0, none⟩) l.length lc) ≠ some g ∧ g ≠ M + 1) Wq (W7.setCell ⟨M + 1, 0, none⟩ v') := (((HKA.out.mono (fun g _ h => h.1)).trans (Kept.alloc _ _ _)).trans (Kept.grown (T := fun g => g < Wq.heap.size ∧ Value.ownBlock (.slice (some ⟨gz, 0, none⟩) l.length lc) ≠ some g ∧ g ≠ M + 1) hgrow (fun r hr h => h.2.1 hr))).trans (Kept.setCell W7 (fun h => h.2.2 rfl) _)
                  have hK5 : Kept (fun g => g < W5.heap.size ∧ Value.ownBlock (.slice (some ⟨gz, 0, none⟩) l.length lc) ≠ some g ∧ g ≠ M + 1) W5 (W7.setCell ⟨M + 1, 0, none⟩ v') := (Kept.of_all HBc.out _).trans (hK.mono (fun g _ h => ⟨Nat.lt_of_lt_of_le h.1 HBc.out.size, h.2⟩))
                  obtain ⟨gv, cv, rfl⟩ := ownsRow_succ hown'
                  have kL7 : Blk W7 (M + 1) 143 #[.slice (some ⟨gz, 0, none⟩) l.length lc] := (HIc.out.kL.keep (HKA.out.trans (Kept.alloc _ _ _)) (by have := HIc.out.lt; omega)).keep (Kept.grown (T := fun g => g = M + 1) hgrow (fun r hr e => by have := (HIc.out.own.lt r hr).1; omega)) rfl
                  have d5 := kL7.cell (k := 0) rfl
                  have y5 := kL7.froz 0
                  have hF := hid (Fin.out _ _ _ _ _ _ hK5 (fun g hg => hg.elim (fun e => ⟨by omega, fun e2 => by have := (HIc.out.own.lt g e2).1; omega, by omega⟩) (fun e => ⟨(hS5 g e).2, fun e2 => HIc.out.nS g (.inl e2) (.inl e), by have := hSlo g e; omega⟩)) (hStep.out ▸ hpu))
                  clear hpu hK hK5 kL7 hown' hgrow hblk hnw
                  gi_wp2_with fail
                  exact hF.out
        | true =>
          gi_wp2_with fail
          refine ⟨trivial, ?_⟩
          with_reducible refine (CallsIn.inRound l' (callsIn_wide.2 (hKd.out _))).mono ?_
          rintro e Wr ⟨rfl, rfl⟩
          cases hmk : markN (rnN s x) with
          | false =>
            have hStep : Hid (fuStep s l x = l ++ [⟨x, 0, (baseN (rnN s x) : Nat)⟩]) := hid (by
              unfold fuStep; rw [if_neg hbr, if_neg (by rw [hmk]; simp)])
            rw [hmk] at hkm
            clear HI KX hlb hlu2 x2 hKd c5 hi1 hi2
            have x0 : Wq.cell? ⟨Bx, 0, none⟩ = some (.int .i64 x) := KXc.out.cell (k := 0) rfl
            have x2 : Wq.cell? ⟨Bx, 2, none⟩ = some (.int .i32 (rnN s x)) := KXc.out.cell (k := 2) rfl
            gi_wp2_with fail
            refine ⟨trivial, ?_⟩
            obtain ⟨Wd, hWd⟩ : ∃ Wd, Wq.alloc (.cells #[.int .i64 x, .int .u8 0, .int .i32 (rnN s x), .slice none 0 0, .slice none 0 0] 193) = Wd := ⟨_, rfl⟩
            have k8 : Blk Wd Wq.heap.size 193 #[.int .i64 x, .int .u8 0, .int .i32 (rnN s x), .slice none 0 0, .slice none 0 0] := by rw [← hWd]; exact Blk.new _ _ _
            have hKd : Below Wq.heap.size Wq Wd := by rw [← hWd]; exact (Below.refl _ _).alloc (Nat.le_refl _) _
            have hLt := hid (fun W => letter120 x 0 (rnN s x) (.slice none 0 0) (.slice none 0 0) rfl rfl (.inr ⟨_, rfl, hrn⟩) W)
            try rw [show Wq.alloc (.cells #[.int .i64 x, .int .u8 0, .int .i32 (rnN s x), .slice none 0 0, .slice none 0 0] 193) = Wd from hWd]
            with_reducible refine (CallsIn.inRound l' (callsIn_wide.2 (hLt.out _))).mono ?_
            rintro e We ⟨rfl, hbe⟩
            rw [show letB (rnN s x : Int) = letN (rnN s x) by unfold letB; rw [decide_eq_true (by omega), Bool.true_and, Int.toNat_natCast]]
            have KE := hid (k8.low hbe)
            have HKE := hid ((Kept.of_all hKd (fun g => g < Wq.heap.size)).trans (Kept.of_below (hbe.mono hKd.size) (T := fun g => g < Wq.heap.size) (fun _ _ h => h)))
            have KLe := hid (HIc.out.kL.keep HKE.out (by have := HIc.out.lt; omega))
            have hTe : Wq.heap.size < We.heap.size := KE.out.lt
            clear k8 hKd hbe hWd x0 x2 hLt
            cases hlet : letN (rnN s x) with
            | false =>
              have hbase : baseN (rnN s x) = rnN s x := by unfold baseN; rw [hlet]; rfl
              rw [hbase] at hStep
              have e5 := KLe.out.cell (k := 0) rfl
              have e0 : We.cell? ⟨Wq.heap.size, 0, none⟩ = some (.int .i64 x) := KE.out.cell (k := 0) rfl
              have e1 : We.cell? ⟨Wq.heap.size, 1, none⟩ = some (.int .u8 0) := KE.out.cell (k := 1) rfl
              have e2 : We.cell? ⟨Wq.heap.size, 2, none⟩ = some (.int .i32 (rnN s x)) := KE.out.cell (k := 2) rfl
              have e3 : We.cell? ⟨Wq.heap.size, 3, none⟩ = some (.slice none 0 0) := KE.out.cell (k := 3) rfl
              have e4 : We.cell? ⟨Wq.heap.size, 4, none⟩ = some (.slice none 0 0) := KE.out.cell (k := 4) rfl
              have HKA := HKE
              have HON := hid trivial
              gi_wp2_with (gi_at_builtin; refine stop_app rfl ?_)
              refine hid ?_
              have hnw : ∀ j u, [Value.int .i64 x, .int .u8 0, .int .i32 (rnN s x), .slice none 0 0, .slice none 0 0][j]? = some u → (We.alloc (.cells #[.int .i64 x, .int .u8 0, .int .i32 (rnN s x), .slice none 0 0, .slice none 0 0] 193)).cell? ((⟨We.heap.size, 0, none⟩ : Addr).add j) = some u := cells_of5 (Blk.new We 193 _)
              have hsA := HKA.out.size
              refine wpListIn_append_own_at _ rfl _ _ 143 rfl (M + 3) 193 j0 _ 5 64 Tryz.underlying143 hj gz0 gz1 gz2 rfl (by decide) (.slice (some ⟨gz, 0, none⟩) l.length lc) l.length xs rfl (row_keep HIc.out.own (HKA.out.trans (Kept.alloc _ _ _)) (fun g hg => (HIc.out.own.lt g hg).2)) ⟨We.heap.size, 0, none⟩ 1 1 [.int .i64 x, .int .u8 0, .int .i32 (rnN s x), .slice none 0 0, .slice none 0 0] rfl rfl hnw (by simp [Value.oneCell', HON.out]) (by unfold maxLen; omega) (by omega) (by rw [World.size_alloc]; have := HIc.out.lt; omega) ?_
              intro v' W7 hown' hgrow _ hblk
              have hpu := HIc.out.push (u := ⟨x, 0, (rnN s x)⟩) (k' := 6 + (pre.length + 1)) (HKA.out.trans (Kept.alloc _ _ _)) hown' hgrow hblk (.inr ⟨_, rfl, hrn⟩) (UM.keep (UM.nil We (M + 3) _) (Kept.alloc (fun _ => True) _ _) (fun _ _ => trivial) (fun _ _ => trivial)) (fun g hg => by simp [Value.ownBlock] at hg) (fun g hg => Nat.lt_of_lt_of_le (hS2 g hg) HBc.out.size)
              have hK : Kept (fun g => g < Wq.heap.size ∧ Value.ownBlock (.slice (some ⟨gz, 0, none⟩) l.length lc) ≠ some g ∧ g ≠ M + 1) Wq (W7.setCell ⟨M + 1, 0, none⟩ v') := (((HKA.out.mono (fun g _ h => h.1)).trans (Kept.alloc _ _ _)).trans (Kept.grown (T := fun g => g < Wq.heap.size ∧ Value.ownBlock (.slice (some ⟨gz, 0, none⟩) l.length lc) ≠ some g ∧ g ≠ M + 1) hgrow (fun r hr h => h.2.1 hr))).trans (Kept.setCell W7 (fun h => h.2.2 rfl) _)
              have hK5 : Kept (fun g => g < W5.heap.size ∧ Value.ownBlock (.slice (some ⟨gz, 0, none⟩) l.length lc) ≠ some g ∧ g ≠ M + 1) W5 (W7.setCell ⟨M + 1, 0, none⟩ v') := (Kept.of_all HBc.out _).trans (hK.mono (fun g _ h => ⟨Nat.lt_of_lt_of_le h.1 HBc.out.size, h.2⟩))
              obtain ⟨gv, cv, rfl⟩ := ownsRow_succ hown'
              have kL7 : Blk W7 (M + 1) 143 #[.slice (some ⟨gz, 0, none⟩) l.length lc] := (HIc.out.kL.keep (HKA.out.trans (Kept.alloc _ _ _)) (by have := HIc.out.lt; omega)).keep (Kept.grown (T := fun g => g = M + 1) hgrow (fun r hr e => by have := (HIc.out.own.lt r hr).1; omega)) rfl
              have d5 := kL7.cell (k := 0) rfl
              have y5 := kL7.froz 0
              have hF := hid (Fin.out _ _ _ _ _ _ hK5 (fun g hg => hg.elim (fun e => ⟨by omega, fun e2 => by have := (HIc.out.own.lt g e2).1; omega, by omega⟩) (fun e => ⟨(hS5 g e).2, fun e2 => HIc.out.nS g (.inl e2) (.inl e), by have := hSlo g e; omega⟩)) (hStep.out ▸ hpu))
              clear hpu hK hK5 kL7 hown' hgrow hblk hnw
              gi_wp2_with fail
              exact hF.out
            | true =>
              have hbase : baseN (rnN s x) = headN (rnN s x) := by unfold baseN; rw [hlet]; rfl
              rw [hbase] at hStep
              have hTbe : TbAt We m := HIc.out.tb.keep HKE.out (by have := HIc.out.lt; omega)
              have kMe : Blk We M 195 #[.map (some m)] := HIc.out.kM.keep HKE.out (by have := HIc.out.lt; omega)
              have m0 := kMe.cell (k := 0) rfl
              have hBxc : Bx < Wq.heap.size := KXc.out.lt
              have x2 : We.cell? ⟨Bx, 2, none⟩ = some (.int .i32 (rnN s x)) := (KXc.out.keep HKE.out hBxc).cell (k := 2) rfl
              have hPt := hid (fun W h => parted123 (rnN s x) hrn W m h)
              gi_wp2_with fail
              refine ⟨trivial, ?_⟩
              with_reducible refine (CallsIn.inRound l' (callsIn_wide.2 (hPt.out _ hTbe))).mono ?_
              rintro e Wf ⟨⟨pv, rfl, np, ms, hnp, hpo, hall⟩, hbf⟩
              clear x2 m0 kMe hTbe hPt
              obtain ⟨gp, cp, rfl⟩ := ownsRow_succ hpo
              have hpb : We.heap.size ≤ gp := (hpo.lt gp rfl).1
              have hpl : gp < Wf.heap.size := (hpo.lt gp rfl).2
              have hpc : ∀ j u, (Value.int .i32 (headN (rnN s x)) :: ms)[j]? = some u → Wf.cell? ⟨gp, j, none⟩ = some u := by
                rcases own_at hpo with ⟨h1, _⟩ | ⟨g, cap, h1, _, _, h2⟩
                · omega
                · obtain rfl : gp = g := by have := (Value.slice.inj h1).1; simpa using this
                  exact h2
              have hml : ms.length = np := by have := hpo.1; simp at this; omega
              have hcp : np + 1 ≤ cp := by
                rcases hpo.2 with ⟨h1, _⟩ | ⟨g, cap, cur, h1, _, _, h2, _⟩
                · cases h1
                · obtain ⟨_, _, rfl⟩ := Value.slice.inj h1
                  exact h2
              have p0 := hpc 0 _ rfl
              have hbf2 := hbf.size
              have KF := hid (KE.out.low hbf)
              have k82 := KF.out.froz 2
              have e82 : Wf.cell? ⟨Wq.heap.size, 2, none⟩ = some (.int .i32 (rnN s x)) := KF.out.cell (k := 2) rfl
              have HKF := hid (HKE.out.trans (Kept.of_below (hbf.mono HKE.out.size) (T := fun g => g < Wq.heap.size) (fun _ _ h => h)))
              have HPC := hid hpc
              have hml2 := hid hml
              have hnpI : (np : Int) ≤ 4 := by omega
              have hcpI : (np : Int) + 1 ≤ cp := by omega
              have hcp1 : (1 : Int) ≤ cp := by omega
              clear hpo hpc hml hbf
              gi_wp2_with fail
              all_goals
                gi_loopw [74] (fun i wr => ∃ (k : Nat) (lo hi : Value), k ≤ np ∧ i = .int .i64 k ∧ Hid (Blk wr Wq.heap.size 193 #[.int .i64 x, .int .u8 0, .int .i32 (headN (rnN s x)), lo, hi]) ∧ Hid (UM wr (M + 3) lo hi k) ∧ Hid (∀ g, lo.ownBlock = some g ∨ hi.ownBlock = some g → Wf.heap.size ≤ g) ∧ Hid (Kept (fun g => g < Wf.heap.size ∧ g ≠ Wq.heap.size) Wf wr)) (fun i wr => np - (RowKit.intOf i).toNat)
                case atStart => exact ⟨0, .slice none 0 0, .slice none 0 0, Nat.zero_le _, rfl, hid (KF.out.upd 2 _ rfl), hid (UM.nil _ _ _), hid (fun g hg => by simp [Value.ownBlock] at hg), hid (Kept.setCell Wf (fun h => h.2 rfl) _)⟩
                case round =>
                  obtain ⟨k, lo, hi, hk, rfl, hB, hU, hN, hKw⟩ := hrel
                  by_cases hp : k < np
                  · first
                    | (exfalso; omega)
                    |
                      obtain ⟨q, hq⟩ : ∃ q : Int, ms[k]? = some (.int .i32 q) := by
                        obtain ⟨q, hq⟩ := hall k _ (List.getElem?_eq_getElem (by rw [hml2.out]; exact hp))
                        exact ⟨q, by rw [List.getElem?_eq_getElem (by rw [hml2.out]; exact hp), hq]⟩
                      have q0 : wr.cell? ⟨gp, 1 + k, none⟩ = some (.int .i32 q) := by
                        have h1 := HPC.out (1 + k) (.int .i32 q) (by rw [Nat.add_comm, List.getElem?_cons_succ]; exact hq)
                        exact hKw.out.cell h1 ⟨hpl, by show gp ≠ _; omega⟩
                      have hkI : (k : Int) < np := by omega
                      have hMk := hid (mark122 wr Wq.heap.size 0 (M + 3) _ lo hi k q hB.out rfl rfl hU.out (by omega) (by have := hKw.out.size; omega))
                      clear hB hU
                      gi_wp2_with fail
                      refine ⟨trivial, ?_⟩
                      with_reducible refine (CallsIn.inRound l' (callsIn_wide.2 hMk.out)).mono ?_
                      rintro e W2 ⟨⟨v2, rfl⟩, lo2, hi2, hM⟩
                      have G1 := hid hM.b
                      have G2 := hid hM.um
                      have G3 : Hid (∀ g, lo2.ownBlock = some g ∨ hi2.ownBlock = some g → Wf.heap.size ≤ g) := hid (fun g hg => (hM.old g hg).elim (hN.out g) (fun e => Nat.le_trans hKw.out.size e))
                      have G4 := hid (hKw.out.trans (hM.kept.mono (fun g _ h => ⟨h.2, fun e => by have := hN.out g (.inl e); omega, fun e => by have := hN.out g (.inr e); omega⟩)))
                      clear hM q0 hMk
                      gi_wp2_with fail
                      go_roundw
                      case rel => exact ⟨k + 1, lo2, hi2, by omega, by go_num, G1, G2, G3, G4⟩
                      case measure => simp [RowKit.intOf]; omega
                  · obtain rfl : k = np := by omega
                    obtain ⟨lq, ln, lc0, hq, hn, hc0, rfl, rfl⟩ := hU.out.open
                    have KB := hid hB.out
                    have HKA := hid (HKF.out.trans (hKw.out.mono (fun g hg (h : g < Wq.heap.size) => ⟨by omega, by omega⟩)))
                    have HON := hid hU.out.one
                    have KLw := hid (HIc.out.kL.keep HKA.out (by have := HIc.out.lt; omega))
                    have e5 := KLw.out.cell (k := 0) rfl
                    have e0 : wr.cell? ⟨Wq.heap.size, 0, none⟩ = some (.int .i64 x) := KB.out.cell (k := 0) rfl
                    have e1 : wr.cell? ⟨Wq.heap.size, 1, none⟩ = some (.int .u8 0) := KB.out.cell (k := 1) rfl
                    have e2 : wr.cell? ⟨Wq.heap.size, 2, none⟩ = some (.int .i32 (headN (rnN s x))) := KB.out.cell (k := 2) rfl
                    have e3 : wr.cell? ⟨Wq.heap.size, 3, none⟩ = some (.slice lq ln lc0) := KB.out.cell (k := 3) rfl
                    have e4 : wr.cell? ⟨Wq.heap.size, 4, none⟩ = some (.slice hq hn hc0) := KB.out.cell (k := 4) rfl
                    have hUm := hid (hU.out.mono (k' := 6 + (pre.length + 1)) (by omega))
                    have hUn : ∀ g, Value.ownBlock (.slice lq ln lc0) = some g ∨ Value.ownBlock (.slice hq hn hc0) = some g → Wq.heap.size ≤ g := fun g hg => by have := hN.out g hg; omega
                    have HUn := hid hUn
                    clear hB hU hN hKw hUn
                    gi_wp2_with (gi_at_builtin; refine stop_app rfl ?_)
                    refine hid ?_
                    have hnw : ∀ j u, [Value.int .i64 x, .int .u8 0, .int .i32 (headN (rnN s x)), .slice lq ln lc0, .slice hq hn hc0][j]? = some u → (wr.alloc (.cells #[.int .i64 x, .int .u8 0, .int .i32 (headN (rnN s x)), .slice lq ln lc0, .slice hq hn hc0] 193)).cell? ((⟨wr.heap.size, 0, none⟩ : Addr).add j) = some u := cells_of5 (Blk.new wr 193 _)
                    have hsA := HKA.out.size
                    refine wpListIn_append_own_at _ rfl _ _ 143 rfl (M + 3) 193 j0 _ 5 64 Tryz.underlying143 hj gz0 gz1 gz2 rfl (by decide) (.slice (some ⟨gz, 0, none⟩) l.length lc) l.length xs rfl (row_keep HIc.out.own (HKA.out.trans (Kept.alloc _ _ _)) (fun g hg => (HIc.out.own.lt g hg).2)) ⟨wr.heap.size, 0, none⟩ 1 1 [.int .i64 x, .int .u8 0, .int .i32 (headN (rnN s x)), .slice lq ln lc0, .slice hq hn hc0] rfl rfl hnw (by simp [Value.oneCell', HON.out]) (by unfold maxLen; omega) (by omega) (by rw [World.size_alloc]; have := HIc.out.lt; omega) ?_
                    intro v' W7 hown' hgrow _ hblk
                    have hpu := HIc.out.push (u := ⟨x, 0, (headN (rnN s x))⟩) (k' := 6 + (pre.length + 1)) (HKA.out.trans (Kept.alloc _ _ _)) hown' hgrow hblk (.inr ⟨_, rfl, (head_bd hrn)⟩) (UM.keep hUm.out (Kept.alloc (fun _ => True) _ _) (fun _ _ => trivial) (fun _ _ => trivial)) HUn.out (fun g hg => Nat.lt_of_lt_of_le (hS2 g hg) HBc.out.size)
                    have hK : Kept (fun g => g < Wq.heap.size ∧ Value.ownBlock (.slice (some ⟨gz, 0, none⟩) l.length lc) ≠ some g ∧ g ≠ M + 1) Wq (W7.setCell ⟨M + 1, 0, none⟩ v') := (((HKA.out.mono (fun g _ h => h.1)).trans (Kept.alloc _ _ _)).trans (Kept.grown (T := fun g => g < Wq.heap.size ∧ Value.ownBlock (.slice (some ⟨gz, 0, none⟩) l.length lc) ≠ some g ∧ g ≠ M + 1) hgrow (fun r hr h => h.2.1 hr))).trans (Kept.setCell W7 (fun h => h.2.2 rfl) _)
                    have hK5 : Kept (fun g => g < W5.heap.size ∧ Value.ownBlock (.slice (some ⟨gz, 0, none⟩) l.length lc) ≠ some g ∧ g ≠ M + 1) W5 (W7.setCell ⟨M + 1, 0, none⟩ v') := (Kept.of_all HBc.out _).trans (hK.mono (fun g _ h => ⟨Nat.lt_of_lt_of_le h.1 HBc.out.size, h.2⟩))
                    obtain ⟨gv, cv, rfl⟩ := ownsRow_succ hown'
                    have kL7 : Blk W7 (M + 1) 143 #[.slice (some ⟨gz, 0, none⟩) l.length lc] := (HIc.out.kL.keep (HKA.out.trans (Kept.alloc _ _ _)) (by have := HIc.out.lt; omega)).keep (Kept.grown (T := fun g => g = M + 1) hgrow (fun r hr e => by have := (HIc.out.own.lt r hr).1; omega)) rfl
                    have d5 := kL7.cell (k := 0) rfl
                    have y5 := kL7.froz 0
                    have hF := hid (Fin.out _ _ _ _ _ _ hK5 (fun g hg => hg.elim (fun e => ⟨by omega, fun e2 => by have := (HIc.out.own.lt g e2).1; omega, by omega⟩) (fun e => ⟨(hS5 g e).2, fun e2 => HIc.out.nS g (.inl e2) (.inl e), by have := hSlo g e; omega⟩)) (hStep.out ▸ hpu))
                    clear hpu hK hK5 kL7 hown' hgrow hblk hnw
                    gi_wp2_with fail
                    exact hF.out
          | true =>
            have hStepB : Hid (fuStep s l x = l) := hid (by
              unfold fuStep; rw [if_neg hbr, if_pos (by rw [hlu2.out, hlb, hmk]; rfl)])
            rw [hmk] at hkm
            have hwr : IntKind.i64.wrap ((l.length : Int) - 1) = (l.length : Int) - 1 := IntWalk.i64_in _ (by omega)
            have hi3 : (1 : Int) ≤ (l.length : Int) := by omega
            gi_wp2_with fail
            refine C.ext_tailInB 6 (by kernel_rfl) (C.WideF.round _ _ _) (by kernel_rfl) (by kernel_rfl) ?_
            simp only [List.take_succ_cons, List.take_zero, List.drop_succ_cons, List.drop_zero]
            repeat (refine C.bq_step (fun K hK => ?_); go_simp; refine ⟨hK _ ?_⟩; clear hK K)
            refine C.bq_nil ?_
            rintro _ ⟨xx, rfl⟩
            have hxx := xx.h
            have hb9 : Below W5.heap.size W5 xx.w := HBc.out.trans (hxx.mono HBc.out.size)
            obtain ⟨g2, cap2, cur2, hlv2, hgM2, hgl2, hgc2, hc32, hc42, hlast2⟩ := (HI.out.up hb9).last (i := l.length - 1) (by have := HL0.out; omega)
            obtain rfl : gz = g2 := by have := (Value.slice.inj hlv2).1; simpa using this
            have hMk := hid (mark122 xx.w gz ((l.length - 1) * 5) (M + 3) cur2 _ _ (6 + pre.length) (rnN s x : Int) hgc2 hc32 hc42 (HI.out.up hb9).um (by omega) (by have := (HI.out.up hb9).lt; omega))
            have hLast2 := hid hlast2
            have HB9 := hid hb9
            clear hlv2 hlast2 hgc2 hc32 hc42 hxx hb9 x2 c5 hlb
            gi_wp2_with fail
            refine ⟨trivial, ?_⟩
            with_reducible refine (CallsIn.inRound l' (callsIn_wide.2 hMk.out)).mono ?_
            rintro e W9 ⟨⟨v9, rfl⟩, lo2, hi2, hM⟩
            obtain ⟨xs2, hU9⟩ := hLast2.out W9 lo2 hi2 hM (fun q hq => Nat.lt_of_lt_of_le (HS2.out q hq) HB9.out.size)
            have hbl := HI.out.below
            have hF := hid (Fin.out W9 _ xs2 lo2 hi2 (fun q => q < W5.heap.size ∧ q ≠ gz ∧ Value.ownBlock (.slice la ln lcc) ≠ some q ∧ Value.ownBlock (.slice hqa hqn hqc) ≠ some q)
              ((Kept.of_all HB9.out _).trans (hM.kept.mono (fun q _ h => h.2)))
              (fun q hq => hq.elim (fun e => ⟨by omega, by omega, fun e2 => by have := hbl q (.inr (.inl e2)); omega, fun e2 => by have := hbl q (.inr (.inr e2)); omega⟩)
                (fun e => ⟨HS2.out q (.inl e), fun e2 => HI.out.nS gz (.inl rfl) (.inl (e2 ▸ e)), fun e2 => HI.out.nS q (.inr (.inl e2)) (.inl e), fun e2 => HI.out.nS q (.inr (.inr e2)) (.inl e)⟩))
              (hStepB.out ▸ (hU9.mono (Nat.le_refl _))))
            clear hM hU9 hbl hMk
            gi_wp2_with fail
            exact hF.out
  case done =>
    rintro Dk W9 hDk ⟨lv, xs, lo, hi, h0⟩ hK
    have hK0 := hid hK
    have hDl := at_lt hK
    have d0 := h0.kL.cell (k := 0) rfl
    have HI := hid h0
    subst hTm hD
    clear h0 hK hseq
    gi_wp2_with fail
    refine ⟨by simp, .inl ⟨_, _, rfl, run_takeDeferred hK0.out, ?_⟩⟩
    have hI2 := HI.out.keep (S' := none') (Kept.putObj (T := fun k => k ≠ Dk) W9 (fun h => h rfl) (.deferred none)) (fun k hk => by show k ≠ Dk; omega) (fun g hg e => HI.out.nS g hg e) (fun g hg h => h)
    refine ⟨lv, (by simp [results, Tryz.results74, go_sem]), ?_⟩
    rw [← HNN.out]
    exact ⟨⟨_, rfl, xs, row_base hI2.own (by omega), hI2.rel, hI2.bs⟩, hI2.low⟩
  case stop =>
    rintro Dk c pre W9 hDk hpre h hK
    exact h.elim
end Go.Proofs.YteodfondjogmoaaGreatDoor
