/- Bins. Conditions: none beyond each theorem's own. -/
import Derived.Test.YthidjbobjjoekaaGreatCoL
import Derived.OwnWalk
import Derived.Laws.OwnMore
import Derived.WalkMore
namespace Go.Proofs.YthidjbobjjoekaaGreat
open Go.RowKit Go.Lib
set_option linter.unusedVariables false
set_option linter.unusedSimpArgs false
set_option maxHeartbeats 2000000
open Ieee (infR)
/-- the edges rise -/
def okAt (es : List Nat) (j : Nat) : Prop := ∀ x, es[j]? = some x → ford x x = some .eq ∧ ∀ i y, j = i + 1 → es[i]? = some y → ford x y = some .gt
def okE (es : List Nat) : Prop := ∀ j, okAt es j
def binI (es : List Nat) (x : Nat) : Nat := if ford x x = some .eq then es.findIdx (fun e => ford x e == some .lt) else es.length + 1
def bump (cs : List Int) (j : Nat) : List Int := cs.set j (cs.getD j 0 + 1)
def binsC (es xs : List Nat) : List Int := xs.foldl (fun cs x => bump cs (binI es x)) (List.replicate (es.length + 2) 0)
theorem infoI : (Tryz.prog.info? 3).map (fun i => (i.zero, i.size, i.bytes)) = some (some (.int .i64 0), 1, 8) := by kernel_rfl
theorem binI_le (es : List Nat) (x : Nat) : binI es x < es.length + 2 := by
  unfold binI
  split
  · have := List.findIdx_le_length (xs := es) (p := fun e => ford x e == some .lt); omega
  · omega
theorem binI_at {es : List Nat} {x k e : Nat} (hx : ford x x = some .eq) (h : ∀ j, j < k → ∀ e, es[j]? = some e → ford x e ≠ some .lt) (he : es[k]? = some e) (hl : ford x e = some .lt) : binI es x = k := by
  obtain ⟨hk, hke⟩ := List.getElem?_eq_some_iff.1 he
  unfold binI
  rw [if_pos hx, List.findIdx_eq hk]
  refine ⟨by rw [hke, hl]; rfl, fun j hj => ?_⟩
  have := h j hj _ (List.getElem?_eq_getElem (by omega))
  rw [beq_eq_false_iff_ne]
  exact this
theorem binI_end {es : List Nat} {x : Nat} (hx : ford x x = some .eq) (h : ∀ j, j < es.length → ∀ e, es[j]? = some e → ford x e ≠ some .lt) : binI es x = es.length := by
  unfold binI
  rw [if_pos hx, List.findIdx_eq_length]
  intro e he
  obtain ⟨j, hj⟩ := List.getElem?_of_mem he
  have := h j (List.getElem?_eq_some_iff.1 hj).1 e hj
  simpa using this
/-- counts that lie in memory, none greater than k -/
structure Cnt (w0 w : World) (g n : Nat) (cs : List Int) (k : Nat) : Prop where
  own : w.ownsRow w0.heap.size 3 1 (.slice (some ⟨g, 0, none⟩) n n) n (cs.map (Value.int .i64))
  len : cs.length = n
  bd : ∀ c ∈ cs, 0 ≤ c ∧ c ≤ k
  low : Below w0.heap.size w0 w
theorem Cnt.at_ {w0 w : World} {g n k : Nat} {cs : List Int} (h : Cnt w0 w g n cs k) (j : Nat) (hj : j < n) : w.cell? ⟨g, j, none⟩ = some (.int .i64 (cs.getD j 0)) ∧ w.frozen? ⟨g, j, none⟩ = false ∧ 0 ≤ cs.getD j 0 ∧ cs.getD j 0 ≤ k := by
  have hl := h.len
  have e : cs[j]? = some cs[j] := List.getElem?_eq_getElem (by omega)
  have ed : cs.getD j 0 = cs[j] := by rw [List.getD, e]; rfl
  refine ⟨?_, h.own.frozenAt j, ?_⟩
  · rw [h.own.cellAt j (by omega), List.getElem?_map, e, ed]; rfl
  · rw [ed]; exact h.bd _ (List.getElem_mem _)
theorem Cnt.bump {w0 w : World} {g n k : Nat} {cs : List Int} (h : Cnt w0 w g n cs k) (j : Nat) (hj : j < n) : Cnt w0 (w.setCell ⟨g, j, none⟩ (.int .i64 (cs.getD j 0 + 1))) g n (bump cs j) (k + 1) := by
  have s := h.own.stored j (.int .i64 (cs.getD j 0 + 1))
  have hg := (h.own.lt g rfl).1
  refine ⟨?_, by unfold YthidjbobjjoekaaGreat.bump; rw [List.length_set, h.len], fun c hc => ?_, h.low.grown s.2 h.low.size (fun k e => by cases e; exact hg)⟩
  · have e : (YthidjbobjjoekaaGreat.bump cs j).map (Value.int .i64) = (cs.map (Value.int .i64)).set j (.int .i64 (cs.getD j 0 + 1)) := by unfold YthidjbobjjoekaaGreat.bump; rw [List.map_set]
    rw [e]; exact s.1
  · have b := (h.at_ j hj).2.2
    unfold YthidjbobjjoekaaGreat.bump at hc
    rcases List.mem_or_eq_of_mem_set hc with hc | hc
    · have := h.bd c hc; omega
    · omega
def BinsOk (f : Nat) : Prop := ∀ (w : World) (p p' : Option Addr) (c c' : Nat) (xs es : List Nat), FloatsIn w p xs → FloatsIn w p' es → xs.length < 9007199254740992 → es.length * 8 ≤ 140737488355328 →
    Calls Tryz.prog f #[.slice p xs.length c, .slice p' es.length c'] w fun e w' => Below w.heap.size w w' ∧
      ((¬ okE es ∧ e = .returned (.tuple #[.slice none 0 0, .int .i64 2])) ∨
       (okE es ∧ ∃ g, e = .returned (.tuple #[.slice (some ⟨g, 0, none⟩) (es.length + 2) (es.length + 2), .int .i64 0]) ∧ w'.ownsRow w.heap.size 3 1 (.slice (some ⟨g, 0, none⟩) (es.length + 2) (es.length + 2)) (es.length + 2) ((binsC es xs).map (Value.int .i64))))
set_option maxRecDepth 100000 in
theorem bins29 : BinsOk 15 := by
  intro w p p' c c' xs es hx he hl hl'
  obtain ⟨i0, hi, hz0, hz1, hz2⟩ := info_parts infoI
  have X := hid hx
  have E := hid he
  clear hx he
  generalize hm : xs.length = m at *
  have hM := hid hm
  clear hm
  generalize hn : es.length = n at *
  have hN := hid hn
  clear hn
  go_enter Tryz.func15, Tryz.ntmps15
  go_wp2_with fail
  go_step3
  go_wp2_with fail
  go_loop [15] (fun i => ∃ k : Nat, k ≤ n ∧ i = .int .i64 k ∧ ∀ j, j < k → okAt es j) (fun i => n - (intOf i).toNat)
  case atStart => exact ⟨0, by omega, rfl, fun j hj => absurd hj (Nat.not_lt_zero _)⟩
  case round =>
    obtain ⟨k, hk, rfl, hok⟩ := hrel
    have hOK := hid hok
    clear hok
    by_cases hlt : k < n
    · obtain ⟨x, hx⟩ : ∃ x, es[k]? = some x := ⟨_, List.getElem?_eq_getElem (by rw [hN.out]; exact hlt)⟩
      obtain ⟨g, off, rfl, hg, hc⟩ := E.out.at_ k x hx
      have hX := hid hx
      clear hx
      rcases ord_self x with o1 | o1
      case' inr =>
        have hbad : ¬ okE es := fun h => by have := (h k x hX.out).1; rw [o1] at this; cases this
        have hB := hid hbad
        clear hbad
        unfold ford at o1
        go_wp2_with fail
        try rw [Exit.noGoto_ret]
        go_ret2
        exact ⟨Below.refl _ _, .inl ⟨hB.out, rfl⟩⟩
      rcases Nat.eq_zero_or_pos k with h0 | h0
      case' inl =>
        subst h0
        rw [Nat.add_zero] at hc
        have hok0 : Hid (okAt es 0) := hid fun y hy => by
          rw [hX.out] at hy
          cases hy
          exact ⟨o1, fun i z h => absurd h (Nat.succ_ne_zero i).symm⟩
        unfold ford at o1
        go_wp2_with fail
        go_round
        case rel => exact ⟨1, by omega, by go_num, fun j hj => by obtain rfl : j = 0 := by omega
                                                                  exact hok0.out⟩
        case measure => simp [intOf]; omega
      obtain ⟨y, hy⟩ : ∃ y, es[k - 1]? = some y := ⟨_, List.getElem?_eq_getElem (by rw [hN.out]; omega)⟩
      obtain ⟨g', off', e', hg', hc'⟩ := E.out.at_ (k - 1) y hy
      cases e'
      have hY := hid hy
      clear hy
      have hk0 : (0 : Int) < (k : Int) := by omega
      have hk1 : 1 ≤ k := h0
      have next : ford x y = some .gt → Hid (∀ j, j < k + 1 → okAt es j) := fun o2 => hid fun j hj => by
        rcases Nat.lt_or_eq_of_le (Nat.lt_succ_iff.1 hj) with h | h
        · exact hOK.out j h
        · subst h
          intro z hz
          rw [hX.out] at hz
          cases hz
          refine ⟨o1, fun i y' hi' hy' => ?_⟩
          obtain rfl : i = j - 1 := by omega
          rw [hY.out] at hy'
          cases hy'
          exact o2
      have bad : ford x y ≠ some .gt → Hid (¬ okE es) := fun o2 => hid fun h => o2 ((h k x hX.out).2 (k - 1) y (by omega) hY.out)
      cases o2 : ford x y with
      | none =>
        have hB := bad (by rw [o2]; decide)
        unfold ford at o1 o2
        clear next bad
        go_wp2_with fail
        try rw [Exit.noGoto_ret]
        go_ret2
        exact ⟨Below.refl _ _, .inl ⟨hB.out, rfl⟩⟩
      | some o =>
        cases o
        case' gt =>
          have hNx := next o2
          unfold ford at o1 o2
          clear next bad
          go_wp2_with fail
          go_round
          case rel => exact ⟨k + 1, by omega, by go_num, hNx.out⟩
          case measure => simp [intOf]; omega
        all_goals
          have hB := bad (by rw [o2]; decide)
          unfold ford at o1 o2
          clear next bad
          go_wp2_with fail
          try rw [Exit.noGoto_ret]
          go_ret2
          exact ⟨Below.refl _ _, .inl ⟨hB.out, rfl⟩⟩
    · obtain rfl : k = n := by omega
      have hE : Hid (okE es) := hid fun j => by
        by_cases h : j < k
        · exact hOK.out j h
        · intro x hx
          have := (List.getElem?_eq_some_iff.1 hx).1
          rw [hN.out] at this
          exact absurd this h
      clear hOK
      go_wp2_with (first | (at_make; refine wpList_make_full _ rfl (.tmp 40) (.tmp 40) 39 rfl w.heap.size 3 i0 _ 1 Tryz.underlying39 hi hz0 hz1 .i64 .i64 _ _ (k + 2) rfl rfl (by omega) (by omega) (by rw [hz2]; omega) (by unfold maxLen; omega) (Nat.le_refl _) ?_; refine stop_here ?_) | fail)
      refine hid ?_
      intro w1 hown hgr
      have hC0 : Hid (Cnt w w1 w.heap.size (k + 2) (List.replicate (k + 2) 0) 0) := hid
        ⟨by rw [show (List.replicate (k + 2) (0 : Int)).map (Value.int .i64) = (madeCells #[Value.int .i64 0] (k + 2)).toList by rw [List.map_replicate]; exact (toList_madeCells_one _ _).symm]; exact hown, List.length_replicate, fun c hc => by rw [List.eq_of_mem_replicate hc]; exact ⟨Int.le_refl _, Int.le_refl _⟩, (Below.refl w.heap.size w).grown hgr (Nat.le_refl _) (fun k e => by cases e)⟩
      clear hown hgr
      go_wp2_with fail
      go_step3
      go_wp2_with fail
      go_loopw [44] (fun i wr => ∃ (a : Nat), a ≤ m ∧ i = .int .i64 a ∧ Cnt w wr w.heap.size (k + 2) ((xs.take a).foldl (fun cs x => bump cs (binI es x)) (List.replicate (k + 2) 0)) a) (fun i _ => m - (intOf i).toNat)
      case atStart => exact ⟨0, by omega, rfl, hC0.out⟩
      case round =>
        obtain ⟨a, ha, rfl, hC⟩ := hrel
        have C := hid hC
        clear hC hC0
        by_cases hlt : a < m
        · obtain ⟨x, hx⟩ : ∃ x, xs[a]? = some x := ⟨_, List.getElem?_eq_getElem (by rw [hM.out]; exact hlt)⟩
          obtain ⟨g, off, rfl, hg, hc⟩ := (X.out.low (Nat.le_refl _) C.out.low).at_ a x hx
          have hf := hid (fold_more (fun cs x => bump cs (binI es x)) (List.replicate (k + 2) (0 : Int)) xs a x hx)
          have hX := hid hx
          clear hx
          generalize (xs.take a).foldl (fun cs x => bump cs (binI es x)) (List.replicate (k + 2) 0) = cs at C hf
          rcases ord_self x with o1 | o1
          case' inr =>
            have hbin : binI es x = k + 1 := by unfold binI; rw [if_neg (by rw [o1]; decide), hN.out]
            rw [hbin] at hf
            have hb := hid (C.out.bump (k + 1) (by omega))
            obtain ⟨c1, c2, c3, c4⟩ := C.out.at_ (k + 1) (by omega)
            unfold ford at o1
            generalize cs.getD (k + 1) 0 = v at *
            go_wp2_with fail
            go_roundw
            case rel => exact ⟨a + 1, by omega, by go_num, by rw [hf.out]; exact hb.out⟩
            case measure => simp [intOf]; omega
          have O1 := hid o1
          unfold ford at o1
          go_wp2_with fail
          go_loopw [61] (fun i wr2 => ∃ (j : Nat), j ≤ k ∧ i = .int .i64 j ∧ wr2 = wr ∧ ∀ i, i < j → ∀ e, es[i]? = some e → ford x e ≠ some .lt) (fun i _ => k - (intOf i).toNat)
          case atStart => exact ⟨0, by omega, rfl, rfl, fun i hi => absurd hi (Nat.not_lt_zero _)⟩
          case round =>
            obtain ⟨j, hj, rfl, rfl, hno⟩ := hrel
            have NO := hid hno
            clear hno
            by_cases hjl : j < k
            · obtain ⟨e, he⟩ : ∃ e, es[j]? = some e := ⟨_, List.getElem?_eq_getElem (by rw [hN.out]; exact hjl)⟩
              obtain ⟨ge, offe, rfl, hge, hce⟩ := (E.out.low (Nat.le_refl _) C.out.low).at_ j e he
              have HE := hid he
              clear he
              have nx : ford x e ≠ some .lt → Hid (∀ i, i < j + 1 → ∀ e, es[i]? = some e → ford x e ≠ some .lt) := fun o2 => hid fun i hi e' he' => by
                rcases Nat.lt_or_eq_of_le (Nat.lt_succ_iff.1 hi) with h | h
                · exact NO.out i h e' he'
                · subst h
                  rw [HE.out] at he'
                  cases he'
                  exact o2
              have hit : ford x e = some .lt → Hid (binI es x = j) := fun o2 => hid (binI_at O1.out NO.out HE.out o2)
              cases o2 : ford x e with
              | none =>
                have NX := nx (by rw [o2]; decide)
                unfold ford at o2
                clear nx hit
                go_wp2_with fail
                go_roundw
                case rel => exact ⟨j + 1, by omega, by go_num, trivial, NX.out⟩
                case measure => simp [intOf]; omega
              | some o =>
                cases o
                case' lt =>
                  have HB := hit o2
                  unfold ford at o2
                  clear nx hit
                  have hb := hid (C.out.bump j (by omega))
                  obtain ⟨c1, c2, c3, c4⟩ := C.out.at_ j (by omega)
                  generalize cs.getD j 0 = v at *
                  go_wp2_with fail
                  try rw [Exit.noGoto_ret]
                  go_roundw
                  case rel => exact ⟨a + 1, by omega, by go_num, by rw [hf.out, HB.out]; exact hb.out⟩
                  case measure => simp [intOf]; omega
                all_goals
                  have NX := nx (by rw [o2]; decide)
                  unfold ford at o2
                  clear nx hit
                  go_wp2_with fail
                  go_roundw
                  case rel => exact ⟨j + 1, by omega, by go_num, trivial, NX.out⟩
                  case measure => simp [intOf]; omega
            · obtain rfl : j = k := by omega
              have HB : Hid (binI es x = j) := hid (by rw [binI_end O1.out (fun i hi => NO.out i (by rw [← hN.out]; exact hi)), hN.out])
              have hb := hid (C.out.bump j (by omega))
              obtain ⟨c1, c2, c3, c4⟩ := C.out.at_ j (by omega)
              generalize cs.getD j 0 = v at *
              go_wp2_with fail
              go_roundw
              case rel => exact ⟨a + 1, by omega, by go_num, by rw [hf.out, HB.out]; exact hb.out⟩
              case measure => simp [intOf]; omega
        · obtain rfl : a = m := by omega
          go_wp2_with fail
          try rw [Exit.noGoto_ret]
          go_ret2
          exact ⟨C.out.low, .inr ⟨hE.out, _, rfl, by have := C.out.own; rw [← hM.out, List.take_length] at this; unfold binsC; rw [hN.out]; exact this⟩⟩
end Go.Proofs.YthidjbobjjoekaaGreat
