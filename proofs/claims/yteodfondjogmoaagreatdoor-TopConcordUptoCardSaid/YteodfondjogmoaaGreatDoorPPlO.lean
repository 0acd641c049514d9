/- place.New: the map of any text that is not too long. Conditions: the text has at most 65536 bytes. -/
import Derived.Test.YteodfondjogmoaaGreatDoorJPPlA
import Derived.Test.YteodfondjogmoaaGreatDoorJPPlN
import Derived.WalkKit
import Derived.WalkSpells
import Derived.WalkLawsBesides
import Derived.Deep.QuietTactic
import Derived.BigQuiet
import Derived.Lib.OthersKept
import Derived.StillTailTactics
namespace Go.Proofs.YteodfondjogmoaaGreatDoor.P
open Go.RowKit
set_option linter.unusedVariables false
set_option linter.unusedSimpArgs false
attribute [local go_sem] Ext.cell Ext.froz GivesG Gives
theorem flatP_get : ∀ (l : List Pl) (k : Nat) (p : Pl) (i : Nat), l[k]? = some p → i < 5 → (flatP l)[k * 5 + i]? = p.cells[i]?
  | [], k, p, i, h, _ => by simp at h
  | q :: l, 0, p, i, h, hi => by
    simp at h; subst h
    simp only [flatP, List.flatMap_cons, Nat.zero_mul, Nat.zero_add]
    rw [List.getElem?_append_left (by simp [Pl.cells]; omega)]
  | q :: l, k + 1, p, i, h, hi => by
    simp at h
    have := flatP_get l k p i h hi
    simp only [flatP, List.flatMap_cons] at *
    rw [List.getElem?_append_right (by simp [Pl.cells]; omega), ← this]
    congr 1
    simp [Pl.cells]; omega
theorem flatL_get : ∀ (l : List Ln) (k : Nat) (p : Ln) (i : Nat), l[k]? = some p → i < 4 → (flatL l)[k * 4 + i]? = p.cells[i]?
  | [], k, p, i, h, _ => by simp at h
  | q :: l, 0, p, i, h, hi => by
    simp at h; subst h
    simp only [flatL, List.flatMap_cons, Nat.zero_mul, Nat.zero_add]
    rw [List.getElem?_append_left (by simp [Ln.cells]; omega)]
  | q :: l, k + 1, p, i, h, hi => by
    simp at h
    have := flatL_get l k p i h hi
    simp only [flatL, List.flatMap_cons] at *
    rw [List.getElem?_append_right (by simp [Ln.cells]; omega), ← this]
    congr 1
    simp [Ln.cells]; omega
theorem own_cell {W : World} {base g n cap : Nat} {e : TypeId} {size : Nat} {xs : List Value} (h : W.ownsRow base e size (.slice (some ⟨g, 0, none⟩) n cap) n xs) {j : Nat} {u : Value} (hj : xs[j]? = some u) : W.cell? ⟨g, j, none⟩ = some u := by
  have := h.cells (g := g) rfl j u hj
  cases j with
  | zero => exact this
  | succ j => simpa [Addr.add] using this
theorem start_heap (w : World) (o1 o2 o3 o4 : Obj) : ((((w.alloc o1).alloc o2).alloc o3).alloc o4).heap[w.heap.size]? = some o1 ∧ ((((w.alloc o1).alloc o2).alloc o3).alloc o4).heap[w.heap.size + 1]? = some o2 ∧
    ((((w.alloc o1).alloc o2).alloc o3).alloc o4).heap[w.heap.size + 1 + 1]? = some o3 ∧ ((((w.alloc o1).alloc o2).alloc o3).alloc o4).heap[w.heap.size + 1 + 1 + 1]? = some o4 := by
  have s1 : (w.alloc o1).heap.size = w.heap.size + 1 := by simp
  have s2 : ((w.alloc o1).alloc o2).heap.size = w.heap.size + 1 + 1 := by simp
  have s3 : (((w.alloc o1).alloc o2).alloc o3).heap.size = w.heap.size + 1 + 1 + 1 := by simp
  refine ⟨?_, ?_, ?_, ?_⟩
  · rw [Below.heap_alloc _ _ _ (by omega), Below.heap_alloc _ _ _ (by omega), Below.heap_alloc _ _ _ (by omega)]
    exact heap_alloc_new _ _
  · rw [Below.heap_alloc _ _ _ (by omega), Below.heap_alloc _ _ _ (by omega), ← s1]
    exact heap_alloc_new _ _
  · rw [Below.heap_alloc _ _ _ (by omega), ← s2]
    exact heap_alloc_new _ _
  · rw [← s3]
    exact heap_alloc_new _ _
theorem mem_map {w W7 : World} {s : ByteArray} {t : St} {pc lc : Array Value} {g cap g2 cap2 fuel : Nat}
    (h : Mem w (W7.setCell ⟨w.heap.size, 2, none⟩ (.slice (some ⟨g2, 0, none⟩) (t.ls.length + 1) cap2)) s s.size (t.ps ++ [⟨s.size, t.r, t.u, t.l, t.c⟩]) (t.ls ++ [⟨t.fr, s.size, 0, t.fi⟩]) pc lc (.slice (some ⟨g, 0, none⟩) (t.ps.length + 1) cap) (.slice (some ⟨g2, 0, none⟩) (t.ls.length + 1) cap2))
    (hr : runFrom s fuel s.size t = fin s) : ∃ b pb pc lb lc, w.heap.size ≤ b ∧ IsMap (W7.setCell ⟨w.heap.size, 2, none⟩ (.slice (some ⟨g2, 0, none⟩) (t.ls.length + 1) cap2)) b s (plOf s) (lnOf s) pb pc lb lc ∧ Ending.returned (.tuple #[.pointer (some ⟨w.heap.size, 0, none⟩), .int .i64 0]) = .returned (.tuple #[.pointer (some ⟨b, 0, none⟩), .int .i64 0]) ∧ Below w.heap.size w (W7.setCell ⟨w.heap.size, 2, none⟩ (.slice (some ⟨g2, 0, none⟩) (t.ls.length + 1) cap2)) := by
  have ht : t = fin s := by
    rw [← hr]
    cases fuel with
    | zero => rfl
    | succ f => unfold runFrom; rw [if_neg (by omega)]
  have hP : plOf s = t.ps ++ [⟨s.size, t.r, t.u, t.l, t.c⟩] := by unfold plOf; rw [← ht]
  have hL : lnOf s = t.ls ++ [⟨t.fr, s.size, 0, t.fi⟩] := by unfold lnOf; rw [← ht]
  have o1 := h.o1
  have o2 := h.o2
  rw [List.length_append] at o1 o2
  refine ⟨w.heap.size, g, cap, g2, cap2, Nat.le_refl _, ⟨?_, fun k p hk => ?_, fun k p hk => ?_⟩, rfl, h.bel⟩
  · rw [hP, hL, List.length_append, List.length_append]; exact h.m
  · rw [hP] at hk
    have f := fun i hi => flatP_get _ k p i hk hi
    exact ⟨own_cell o1 (f 0 (by omega)), own_cell o1 (f 1 (by omega)), own_cell o1 (f 2 (by omega)), own_cell o1 (f 3 (by omega)), own_cell o1 (f 4 (by omega))⟩
  · rw [hL] at hk
    have f := fun i hi => flatL_get _ k p i hk hi
    exact ⟨own_cell o2 (f 0 (by omega)), own_cell o2 (f 1 (by omega)), own_cell o2 (f 2 (by omega)), own_cell o2 (f 3 (by omega))⟩
theorem step_no {s : ByteArray} {pos rr : Nat} {t : St} (h : nlw s pos rr = 0) : t.step s pos rr = ⟨t.ps ++ [⟨pos, t.r, t.u, t.l, t.c⟩], t.ls, t.r + 1, t.u + unitsOf rr, t.l, t.c + 1, t.fr, t.fi⟩ := by
  unfold St.step; rw [if_pos h]
theorem step_nl {s : ByteArray} {pos rr k : Nat} {t : St} (h : nlw s pos rr = k) (hk : k ≠ 0) : t.step s pos rr = ⟨t.ps ++ [⟨pos, t.r, t.u, t.l, t.c⟩], t.ls ++ [⟨t.fr, pos + 1 - k, k, t.fi⟩], t.r + 1, t.u + unitsOf rr, t.l + 1, 0, pos + 1, t.ps.length + 1⟩ := by
  subst h; unfold St.step; rw [if_neg hk]
theorem run_next {s : ByteArray} {pos fuel rr wd : Nat} {t : St} (h : runFrom s fuel pos t = fin s ∧ s.size ≤ pos + fuel ∧ Ok s pos t) (hp : pos < s.size) (hrr : (Utf8.decode s pos).1 = rr) (hwd : (Utf8.decode s pos).2 = wd) :
    runFrom s (fuel - 1) (pos + wd) (t.step s pos rr) = fin s ∧ s.size ≤ pos + wd + (fuel - 1) ∧ Ok s (pos + wd) (t.step s pos rr) := by
  obtain ⟨h1, h2, h3⟩ := h
  obtain ⟨f, rfl⟩ : ∃ f, fuel = f + 1 := ⟨fuel - 1, by omega⟩
  have hd := dec_pos s pos
  unfold runFrom at h1
  rw [if_pos hp] at h1
  subst hrr hwd
  exact ⟨h1, by omega, h3.step hp⟩
theorem byte_nat {s : ByteArray} {i : Nat} (h : i < s.size) (c : Nat) (hc : c < 256) (b : Bool) (hb : (((s[i]'h).toNat : Int) == c) = b) : (s[i]! = UInt8.ofNat c) ↔ b = true := by
  have e : s[i]! = s[i]'h := getElem!_pos s i h
  rw [e, ← hb]
  simp only [beq_iff_eq]
  constructor
  · intro h1; rw [h1]; simp; omega
  · intro h1
    have h2 : (s[i]'h).toNat = c := by omega
    rw [← h2]; simp
theorem cases_nl (s : ByteArray) (pos rr : Nat) (hp : pos < s.size) : (65536 ≤ rr ∧ rr ≠ 13 ∧ rr ≠ 10 ∧ True) ∨ (rr = 13 ∧ ∃ h : pos + 1 < s.size, (pos : Int) + 1 < s.size ∧ (((s[pos + 1]'h).toNat : Int) == 10) = true) ∨ (rr = 13 ∧ (s.size : Int) ≤ pos + 1 ∧ s.size ≤ pos + 1) ∨
    (rr = 13 ∧ ∃ h : pos + 1 < s.size, (pos : Int) + 1 < s.size ∧ (((s[pos + 1]'h).toNat : Int) == 10) = false) ∨ (rr = 10 ∧ ∃ h : pos - 1 < s.size, 0 < pos ∧ (((s[pos - 1]'h).toNat : Int) == 13) = true) ∨ (rr = 10 ∧ pos = 0 ∧ True) ∨
    (rr = 10 ∧ ∃ h : pos - 1 < s.size, 0 < pos ∧ (((s[pos - 1]'h).toNat : Int) == 13) = false) ∨ (rr < 65536 ∧ rr ≠ 13 ∧ rr ≠ 10 ∧ True) := by
  by_cases h13 : rr = 13
  · by_cases hn : pos + 1 < s.size
    · cases hb : (((s[pos + 1]'hn).toNat : Int) == 10)
      · exact .inr (.inr (.inr (.inl ⟨h13, hn, by omega, hb⟩)))
      · exact .inr (.inl ⟨h13, hn, by omega, hb⟩)
    · exact .inr (.inr (.inl ⟨h13, by omega, by omega⟩))
  · by_cases h10 : rr = 10
    · by_cases hn : 0 < pos
      · cases hb : (((s[pos - 1]'(by omega)).toNat : Int) == 13)
        · exact .inr (.inr (.inr (.inr (.inr (.inr (.inl ⟨h10, by omega, hn, hb⟩))))))
        · exact .inr (.inr (.inr (.inr (.inl ⟨h10, by omega, hn, hb⟩))))
      · exact .inr (.inr (.inr (.inr (.inr (.inl ⟨h10, by omega, trivial⟩)))))
    · by_cases hg : 65536 ≤ rr
      · exact .inl ⟨hg, h13, h10, trivial⟩
      · exact .inr (.inr (.inr (.inr (.inr (.inr (.inr ⟨by omega, h13, h10, trivial⟩))))))
set_option maxRecDepth 1000000 in
set_option maxHeartbeats 16000000 in
theorem new_any (s : ByteArray) (w : World) (hs : s.size ≤ 65536) :
    Calls Tryz.prog 84 #[.string s] w fun e w' => ∃ b pb pc lb lc, w.heap.size ≤ b ∧ IsMap w' b s (plOf s) (lnOf s) pb pc lb lc ∧ e = .returned (.tuple #[.pointer (some ⟨b, 0, none⟩), .int .i64 0]) ∧ Below w.heap.size w w' := by
  obtain ⟨i0, hi, hz0, hz1, hz2⟩ := info_parts Tryz.info33
  obtain ⟨j0, hj, gz0, gz1, gz2⟩ := info_parts Tryz.info76
  go_enter Tryz.func84, Tryz.ntmps84
  go_wp2_with fail
  go_step3
  go_wp2_with fail
  go_step3
  go_wp2_with fail
  go_loopw [9] (fun v wr => ∃ pos fuel t b0 v1 v2, Mem w wr s pos t.ps t.ls #[.int .i64 b0, .int .i64 t.r, .int .i64 t.u, .int .i64 t.l, .int .i64 t.c] #[.int .i64 t.fr, .int .i64 0, .int .i64 0, .int .i64 t.fi] v1 v2 ∧ Hid (runFrom s fuel pos t = fin s ∧ s.size ≤ pos + fuel ∧ Ok s pos t)) (fun _ wr => s.size - wr.iterPos (w.heap.size + 1 + 1 + 1))
  case atStart =>
    obtain ⟨a1, a2, a3, a4⟩ := start_heap w (.cells #[.string s, .slice none 0 0, .slice none 0 0] 217) (.cells #[.int .i64 0, .int .i64 0, .int .i64 0, .int .i64 0, .int .i64 0] 219) (.cells #[.int .i64 0, .int .i64 0, .int .i64 0, .int .i64 0] 221) (.stringIter s 0)
    exact ⟨0, s.size, St.start, 0, _, _, ⟨a4, a1, a2, a3, World.ownsRow_nil _ _ _ _, World.ownsRow_nil _ _ _ _, ((((Below.refl _ w).alloc (Nat.le_refl _) _).alloc (by simp) _).alloc (by simp <;> omega) _).alloc (by simp <;> omega) _⟩, ⟨rfl, by omega, Ok.start s⟩⟩
  case round =>
    obtain ⟨pos, fuel, t, b0, v1, v2, HM, HR⟩ := hrel
    have hpos0 := iterPos_of HM.it
    by_cases hp : pos < s.size
    · have hnx : ∀ ty, (Instr.next (.pointer (some ⟨w.heap.size + 1 + 1 + 1, 0, none⟩)) true ty).run Tryz.prog wr = _ := fun ty => Lib.run_next_any_at wr (w.heap.size + 1 + 1 + 1) s pos ty HM.it hp
      have HM1 := HM.next (pos + (Utf8.decode s pos).2)
      obtain ⟨W1, hW1⟩ : ∃ W1, W1 = wr.iterAt (w.heap.size + 1 + 1 + 1) s (pos + (Utf8.decode s pos).2) := ⟨_, rfl⟩
      rw [← hW1] at hnx HM1
      clear hW1
      have hdm := dec_max s pos
      have hd1 := dec_pos s pos
      have hd2 := dec_le s pos hp
      have HD := hid (show ∃ r wd, Utf8.decode s pos = (r, wd) ∧ (Utf8.decode s pos).1 = r ∧ (Utf8.decode s pos).2 = wd from ⟨_, _, rfl, rfl, rfl⟩)
      generalize hrr : (Utf8.decode s pos).1 = rr at hnx hdm
      generalize hwd : (Utf8.decode s pos).2 = wd at hnx hd1 hd2 HM1
      have Hrr := hid hrr
      have Hwd := hid hwd
      clear hrr hwd HD
      obtain ⟨q0, q1, q2, q3, q4, qf, qs⟩ := blk5 HM1.p
      go_wp2_with fail
      clear hnx q0 q1 q2 q3 q4 qf qs
      have HM2 := HM1.setp 0 (.int .i64 pos)
      generalize W1.setCell ⟨w.heap.size + 1, 0, none⟩ (.int .i64 pos) = W2 at *
      obtain ⟨q0, q1, q2, q3, q4, qf, qs⟩ := blk5 HM2.p
      obtain ⟨m0, m1, m2, mf, ms⟩ := blk3 HM2.m
      have hn5 := HR.out.2.2.len
      obtain ⟨v', W4, hrun, hown', hgrow, hnil⟩ := run_append_own (P := Tryz.prog) ((W2.alloc (.cells #[.int .i64 pos, .int .i64 t.r, .int .i64 t.u, .int .i64 t.l, .int .i64 t.c] 219)).drew) (w.heap.size + 4) 214 214 219 i0 _ 5 40 Tryz.underlying214 hi hz0 hz1 hz2 rfl (by decide)
        v1 t.ps.length (flatP t.ps) ((HM2.o1.alloc _).drew) ⟨W2.heap.size, 0, none⟩ 1 1 [.int .i64 pos, .int .i64 t.r, .int .i64 t.u, .int .i64 t.l, .int .i64 t.c] rfl (cells_new5 _ _ _ _ _ _ _) (by simp [Value.oneCell']) (by unfold maxLen; omega) (by omega) (by have := HM2.lt; simp [World.drew] <;> omega)
      clear hnil
      obtain ⟨HM5, hold⟩ := HM2.pushp (p := ⟨pos, t.r, t.u, t.l, t.c⟩) hgrow hown'
      obtain ⟨g, cap, rfl⟩ := own_shape hown'
      obtain ⟨g1, cap1, rfl⟩ := own_some HM2.o1
      obtain ⟨n0, n1, n2, nf, ns⟩ := blk3 ((hold _ (by omega)).trans HM2.m)
      obtain ⟨r0, r1, r2, r3, r4, rf, rs⟩ := blk5 ((hold _ (by omega)).trans HM2.p)
      have HRun := hid hrun
      clear hrun hold hown' hgrow HM HM1 HM2
      refine two_tail (W1 := (W2.alloc (.cells #[.int .i64 pos, .int .i64 t.r, .int .i64 t.u, .int .i64 t.l, .int .i64 t.c] 219)).drew) (W2 := W4) 8 6 7 (by kernel_rfl) (by kernel_rfl) ?_
      simp only [List.take_succ_cons, List.take_zero, List.drop_succ_cons, List.drop_zero]
      refine wpE_step (fun K hK => ?_); go_simp; refine hK _ ?_; clear hK K
      refine wpE_step (fun K hK => ?_); go_simp; refine hK _ ?_; clear hK K
      refine wpE_step (fun K hK => ?_); go_simp; refine hK _ ?_; clear hK K
      refine wpE_step (fun K hK => ?_); go_simp; refine hK _ ?_; clear hK K
      refine wpE_step (fun K hK => ?_); go_simp; refine hK _ ?_; clear hK K
      refine wpE_step (fun K hK => ?_); go_simp; refine hK _ ?_; clear hK K
      refine wpE_step (fun K hK => ?_); go_simp; refine hK _ ?_; clear hK K
      refine wpE_step (fun K hK => ?_)
      refine ⟨_, .inl ⟨rfl, fun h => absurd h (by decide), fun _ => append_run (s := .tmp 30) (x := .tmp 32) rfl rfl rfl HRun.out, fun _ h => absurd rfl h⟩, hK _ ?_⟩
      clear hK K
      refine wpE_nil ?_
      clear HRun
      rename_i hKK
      have HKK := hid hKK
      clear hKK
      go_wp2_with fail
      generalize W4.setCell ⟨w.heap.size, 1, none⟩ (.slice (some ⟨g, 0, none⟩) (t.ps.length + 1) cap) = W5 at *
      refine HKK.out _ _ ?_
      clear HKK n0 n1 n2 nf ns r0 r1 r2 r3 r4 rf rs q0 q1 q2 q3 q4 qf qs m0 m1 m2 mf ms
      obtain ⟨q0, q1, q2, q3, q4, qf, qs⟩ := blk5 HM5.p
      obtain ⟨m0, m1, m2, mf, ms⟩ := blk3 HM5.m
      obtain ⟨l0, l1, l2, l3, lf, ls⟩ := blk4 HM5.ln
      have HMC := hid HM5
      have hr5 := HR.out.2.2.r
      have hu5 := HR.out.2.2.u
      have hc5 := HR.out.2.2.c
      have hl5 := HR.out.2.2.l
      have hll5 := HR.out.2.2.ll
      have Hr5 := hid hr5
      have Hl5 := hid hl5
      have br : t.r ≤ 65536 := by omega
      have bl : t.l ≤ 65536 := by omega
      clear HM5 hr5 hl5
      rcases cases_nl s pos rr hp with ⟨h0, h1, h2, h3⟩ | ⟨h1, h, h2, h3⟩ | ⟨h1, h2, h3⟩ | ⟨h1, h, h2, h3⟩ | ⟨h1, h, h2, h3⟩ | ⟨h1, h2, h3⟩ | ⟨h1, h, h2, h3⟩ | ⟨h0, h1, h2, h3⟩
      · have HN : Hid (nlw s pos rr = 0) := by unfold nlw Hid; rw [if_neg h1, if_neg h2]
        have HU : Hid (65536 ≤ rr) := h0
        have e1 : ((rr : Int) == 13) = false := by simp; omega
        have e2 : ((rr : Int) == 10) = false := by simp; omega
        have e3 : ((rr : Int) != 13) = true := by simp; omega
        have e4 : ((rr : Int) != 10) = true := by simp; omega
        go_wp2_with fail
        have HM6 : Mem w ((((W5.setCell ⟨w.heap.size + 1, 1, none⟩ (.int .i64 (t.r + 1))).setCell ⟨w.heap.size + 1, 2, none⟩ (.int .i64 (t.u + 1))).setCell ⟨w.heap.size + 1, 4, none⟩ (.int .i64 (t.c + 1))).setCell ⟨w.heap.size + 1, 2, none⟩ (.int .i64 (t.u + 1 + 1))) s (pos + wd) (t.ps ++ [⟨pos, t.r, t.u, t.l, t.c⟩]) t.ls #[.int .i64 pos, .int .i64 (t.r + 1), .int .i64 (t.u + 1 + 1), .int .i64 t.l, .int .i64 (t.c + 1)] #[.int .i64 t.fr, .int .i64 0, .int .i64 0, .int .i64 t.fi] (.slice (some ⟨g, 0, none⟩) (t.ps.length + 1) cap) v2 := (((HMC.out.setp 1 (.int .i64 (t.r + 1))).setp 2 (.int .i64 (t.u + 1))).setp 4 (.int .i64 (t.c + 1))).setp 2 (.int .i64 (t.u + 1 + 1))
        go_roundw
        case rel =>
          refine ⟨pos + wd, fuel - 1, t.step s pos rr, pos, (.slice (some ⟨g, 0, none⟩) (t.ps.length + 1) cap), v2, ?_, run_next HR.out hp Hrr.out Hwd.out⟩
          rw [step_no HN.out]
          simpa [unitsOf, HU.out, Int.add_assoc] using HM6
        case measure => rw [iterPos_of HM6.it, hpos0]; omega
      · obtain rfl : rr = 13 := h1
        have HN : Hid (nlw s pos 13 = 0) := by unfold nlw Hid; rw [if_pos rfl, if_pos ⟨h, (byte_nat h 10 (by decide) true h3).2 rfl⟩]
        have HU : Hid (True) := trivial
        go_wp2_with fail
        have HM6 : Mem w (((W5.setCell ⟨w.heap.size + 1, 1, none⟩ (.int .i64 (t.r + 1))).setCell ⟨w.heap.size + 1, 2, none⟩ (.int .i64 (t.u + 1))).setCell ⟨w.heap.size + 1, 4, none⟩ (.int .i64 (t.c + 1))) s (pos + wd) (t.ps ++ [⟨pos, t.r, t.u, t.l, t.c⟩]) t.ls #[.int .i64 pos, .int .i64 (t.r + 1), .int .i64 (t.u + 1), .int .i64 t.l, .int .i64 (t.c + 1)] #[.int .i64 t.fr, .int .i64 0, .int .i64 0, .int .i64 t.fi] (.slice (some ⟨g, 0, none⟩) (t.ps.length + 1) cap) v2 := ((HMC.out.setp 1 (.int .i64 (t.r + 1))).setp 2 (.int .i64 (t.u + 1))).setp 4 (.int .i64 (t.c + 1))
        go_roundw
        case rel =>
          refine ⟨pos + wd, fuel - 1, t.step s pos 13, pos, (.slice (some ⟨g, 0, none⟩) (t.ps.length + 1) cap), v2, ?_, run_next HR.out hp Hrr.out Hwd.out⟩
          rw [step_no HN.out]
          simpa [unitsOf, HU.out, Int.add_assoc] using HM6
        case measure => rw [iterPos_of HM6.it, hpos0]; omega
      · obtain rfl : rr = 13 := h1
        have HN : Hid (nlw s pos 13 = 1) := by unfold nlw Hid; rw [if_pos rfl, if_neg (fun hh => by have := hh.1; omega)]
        have h5 : decide (((pos : Int) + 1) < s.size) = false := by simp; omega
        have h6 : ¬ ((pos : Int) + 1) < s.size := by omega
        clear h2 h3
        go_wp2_with fail
        have HM6 : Mem w (((((W5.setCell ⟨w.heap.size + 1, 1, none⟩ (.int .i64 (t.r + 1))).setCell ⟨w.heap.size + 1, 2, none⟩ (.int .i64 (t.u + 1))).setCell ⟨w.heap.size + 1, 4, none⟩ (.int .i64 (t.c + 1))).setCell ⟨w.heap.size + 1 + 1, 1, none⟩ (.int .i64 pos)).setCell ⟨w.heap.size + 1 + 1, 2, none⟩ (.int .i64 1)) s (pos + wd) (t.ps ++ [⟨pos, t.r, t.u, t.l, t.c⟩]) t.ls #[.int .i64 pos, .int .i64 (t.r + 1), .int .i64 (t.u + 1), .int .i64 t.l, .int .i64 (t.c + 1)] #[.int .i64 t.fr, .int .i64 pos, .int .i64 1, .int .i64 t.fi] (.slice (some ⟨g, 0, none⟩) (t.ps.length + 1) cap) v2 :=
          (((((HMC.out.setp 1 (.int .i64 (t.r + 1))).setp 2 (.int .i64 (t.u + 1))).setp 4 (.int .i64 (t.c + 1))).setl 1 (.int .i64 pos)).setl 2 (.int .i64 1))
        generalize (((((W5.setCell ⟨w.heap.size + 1, 1, none⟩ (.int .i64 (t.r + 1))).setCell ⟨w.heap.size + 1, 2, none⟩ (.int .i64 (t.u + 1))).setCell ⟨w.heap.size + 1, 4, none⟩ (.int .i64 (t.c + 1))).setCell ⟨w.heap.size + 1 + 1, 1, none⟩ (.int .i64 pos)).setCell ⟨w.heap.size + 1 + 1, 2, none⟩ (.int .i64 1)) = W6 at *
        clear HMC q0 q1 q2 q3 q4 qf qs m0 m1 m2 mf ms l0 l1 l2 l3 lf ls
        obtain ⟨l0, l1, l2, l3, lf, ls⟩ := blk4 HM6.ln
        obtain ⟨m0, m1, m2, mf, ms⟩ := blk3 HM6.m
        obtain ⟨v3, W7, hrun, hown', hgrow, hnil⟩ := run_append_own (P := Tryz.prog) ((W6.alloc (.cells #[.int .i64 t.fr, .int .i64 pos, .int .i64 1, .int .i64 t.fi] 221)).drew) (w.heap.size + 4) 215 215 221 j0 _ 4 32 Tryz.underlying215 hj gz0 gz1 gz2 rfl (by decide)
          v2 t.ls.length (flatL t.ls) ((HM6.o2.alloc _).drew) ⟨W6.heap.size, 0, none⟩ 1 1 [.int .i64 t.fr, .int .i64 pos, .int .i64 1, .int .i64 t.fi] rfl (cells_new4 _ _ _ _ _ _) (by simp [Value.oneCell']) (by unfold maxLen; omega) (by omega) (by have := HM6.lt; simp [World.drew] <;> omega)
        clear hnil
        have hA : ((pos + 1 - 1 : Nat) : Int) = pos := by omega
        obtain ⟨HM8, hold⟩ := HM6.pushl (p := ⟨t.fr, pos + 1 - 1, 1, t.fi⟩) hgrow (by simp only [Ln.cells]; rw [hA]; exact hown')
        clear hA
        obtain ⟨g2, cap2, rfl⟩ := own_shape hown'
        obtain ⟨g3, cap3, rfl⟩ := own_some HM6.o2
        obtain ⟨n0, n1, n2, nf, ns⟩ := blk3 ((hold _ (by omega)).trans HM6.m)
        obtain ⟨r0, r1, r2, r3, rf, rs⟩ := blk4 ((hold _ (by omega)).trans HM6.ln)
        have HRun := hid hrun
        clear hrun hold hown' hgrow HM6
        refine two_tail (W1 := (W6.alloc (.cells #[.int .i64 t.fr, .int .i64 pos, .int .i64 1, .int .i64 t.fi] 221)).drew) (W2 := W7) 8 6 7 (by kernel_rfl) (by kernel_rfl) ?_
        simp only [List.take_succ_cons, List.take_zero, List.drop_succ_cons, List.drop_zero]
        refine wpE_step (fun K hK => ?_); go_simp; refine hK _ ?_; clear hK K
        refine wpE_step (fun K hK => ?_); go_simp; refine hK _ ?_; clear hK K
        refine wpE_step (fun K hK => ?_); go_simp; refine hK _ ?_; clear hK K
        refine wpE_step (fun K hK => ?_); go_simp; refine hK _ ?_; clear hK K
        refine wpE_step (fun K hK => ?_); go_simp; refine hK _ ?_; clear hK K
        refine wpE_step (fun K hK => ?_); go_simp; refine hK _ ?_; clear hK K
        refine wpE_step (fun K hK => ?_); go_simp; refine hK _ ?_; clear hK K
        refine wpE_step (fun K hK => ?_)
        refine ⟨_, .inl ⟨rfl, fun h => absurd h (by decide), fun _ => append_run (s := .tmp 104) (x := .tmp 106) rfl rfl rfl HRun.out, fun _ h => absurd rfl h⟩, hK _ ?_⟩
        clear hK K HRun
        refine wpE_nil ?_
        rename_i hKK
        have HKK := hid hKK
        clear hKK
        go_wp2_with fail
        generalize W7.setCell ⟨w.heap.size, 2, none⟩ (.slice (some ⟨g2, 0, none⟩) (t.ls.length + 1) cap2) = W8 at *
        refine HKK.out _ _ ?_
        clear HKK n0 n1 n2 nf ns r0 r1 r2 r3 rf rs m0 m1 m2 mf ms l0 l1 l2 l3 lf ls
        obtain ⟨q0, q1, q2, q3, q4, qf, qs⟩ := blk5 HM8.p
        obtain ⟨m0, m1, m2, mf, ms⟩ := blk3 HM8.m
        obtain ⟨l0, l1, l2, l3, lf, ls⟩ := blk4 HM8.ln
        have HMD := hid HM8
        clear HM8
        go_wp2_with fail
        have HM9 := (((((HMD.out.setl 0 (.int .i64 (pos + 1))).setl 1 (.int .i64 0)).setl 2 (.int .i64 0)).setl 3 (.int .i64 (t.ps.length + 1))).setp 3 (.int .i64 (t.l + 1))).setp 4 (.int .i64 0)
        go_roundw
        case rel =>
          refine ⟨pos + wd, fuel - 1, t.step s pos 13, pos, (.slice (some ⟨g, 0, none⟩) (t.ps.length + 1) cap), (.slice (some ⟨g2, 0, none⟩) (t.ls.length + 1) cap2), ?_, run_next HR.out hp Hrr.out Hwd.out⟩
          rw [step_nl HN.out (by decide)]
          simpa [unitsOf] using HM9
        case measure => rw [iterPos_of HM9.it, hpos0]; omega
      · obtain rfl : rr = 13 := h1
        have HN : Hid (nlw s pos 13 = 1) := by unfold nlw Hid; rw [if_pos rfl, if_neg (fun hh => Bool.false_ne_true ((byte_nat h 10 (by decide) false h3).1 hh.2))]
        go_wp2_with fail
        have HM6 : Mem w (((((W5.setCell ⟨w.heap.size + 1, 1, none⟩ (.int .i64 (t.r + 1))).setCell ⟨w.heap.size + 1, 2, none⟩ (.int .i64 (t.u + 1))).setCell ⟨w.heap.size + 1, 4, none⟩ (.int .i64 (t.c + 1))).setCell ⟨w.heap.size + 1 + 1, 1, none⟩ (.int .i64 pos)).setCell ⟨w.heap.size + 1 + 1, 2, none⟩ (.int .i64 1)) s (pos + wd) (t.ps ++ [⟨pos, t.r, t.u, t.l, t.c⟩]) t.ls #[.int .i64 pos, .int .i64 (t.r + 1), .int .i64 (t.u + 1), .int .i64 t.l, .int .i64 (t.c + 1)] #[.int .i64 t.fr, .int .i64 pos, .int .i64 1, .int .i64 t.fi] (.slice (some ⟨g, 0, none⟩) (t.ps.length + 1) cap) v2 :=
          (((((HMC.out.setp 1 (.int .i64 (t.r + 1))).setp 2 (.int .i64 (t.u + 1))).setp 4 (.int .i64 (t.c + 1))).setl 1 (.int .i64 pos)).setl 2 (.int .i64 1))
        generalize (((((W5.setCell ⟨w.heap.size + 1, 1, none⟩ (.int .i64 (t.r + 1))).setCell ⟨w.heap.size + 1, 2, none⟩ (.int .i64 (t.u + 1))).setCell ⟨w.heap.size + 1, 4, none⟩ (.int .i64 (t.c + 1))).setCell ⟨w.heap.size + 1 + 1, 1, none⟩ (.int .i64 pos)).setCell ⟨w.heap.size + 1 + 1, 2, none⟩ (.int .i64 1)) = W6 at *
        clear HMC q0 q1 q2 q3 q4 qf qs m0 m1 m2 mf ms l0 l1 l2 l3 lf ls
        obtain ⟨l0, l1, l2, l3, lf, ls⟩ := blk4 HM6.ln
        obtain ⟨m0, m1, m2, mf, ms⟩ := blk3 HM6.m
        obtain ⟨v3, W7, hrun, hown', hgrow, hnil⟩ := run_append_own (P := Tryz.prog) ((W6.alloc (.cells #[.int .i64 t.fr, .int .i64 pos, .int .i64 1, .int .i64 t.fi] 221)).drew) (w.heap.size + 4) 215 215 221 j0 _ 4 32 Tryz.underlying215 hj gz0 gz1 gz2 rfl (by decide)
          v2 t.ls.length (flatL t.ls) ((HM6.o2.alloc _).drew) ⟨W6.heap.size, 0, none⟩ 1 1 [.int .i64 t.fr, .int .i64 pos, .int .i64 1, .int .i64 t.fi] rfl (cells_new4 _ _ _ _ _ _) (by simp [Value.oneCell']) (by unfold maxLen; omega) (by omega) (by have := HM6.lt; simp [World.drew] <;> omega)
        clear hnil
        have hA : ((pos + 1 - 1 : Nat) : Int) = pos := by omega
        obtain ⟨HM8, hold⟩ := HM6.pushl (p := ⟨t.fr, pos + 1 - 1, 1, t.fi⟩) hgrow (by simp only [Ln.cells]; rw [hA]; exact hown')
        clear hA
        obtain ⟨g2, cap2, rfl⟩ := own_shape hown'
        obtain ⟨g3, cap3, rfl⟩ := own_some HM6.o2
        obtain ⟨n0, n1, n2, nf, ns⟩ := blk3 ((hold _ (by omega)).trans HM6.m)
        obtain ⟨r0, r1, r2, r3, rf, rs⟩ := blk4 ((hold _ (by omega)).trans HM6.ln)
        have HRun := hid hrun
        clear hrun hold hown' hgrow HM6
        refine two_tail (W1 := (W6.alloc (.cells #[.int .i64 t.fr, .int .i64 pos, .int .i64 1, .int .i64 t.fi] 221)).drew) (W2 := W7) 8 6 7 (by kernel_rfl) (by kernel_rfl) ?_
        simp only [List.take_succ_cons, List.take_zero, List.drop_succ_cons, List.drop_zero]
        refine wpE_step (fun K hK => ?_); go_simp; refine hK _ ?_; clear hK K
        refine wpE_step (fun K hK => ?_); go_simp; refine hK _ ?_; clear hK K
        refine wpE_step (fun K hK => ?_); go_simp; refine hK _ ?_; clear hK K
        refine wpE_step (fun K hK => ?_); go_simp; refine hK _ ?_; clear hK K
        refine wpE_step (fun K hK => ?_); go_simp; refine hK _ ?_; clear hK K
        refine wpE_step (fun K hK => ?_); go_simp; refine hK _ ?_; clear hK K
        refine wpE_step (fun K hK => ?_); go_simp; refine hK _ ?_; clear hK K
        refine wpE_step (fun K hK => ?_)
        refine ⟨_, .inl ⟨rfl, fun h => absurd h (by decide), fun _ => append_run (s := .tmp 104) (x := .tmp 106) rfl rfl rfl HRun.out, fun _ h => absurd rfl h⟩, hK _ ?_⟩
        clear hK K HRun
        refine wpE_nil ?_
        rename_i hKK
        have HKK := hid hKK
        clear hKK
        go_wp2_with fail
        generalize W7.setCell ⟨w.heap.size, 2, none⟩ (.slice (some ⟨g2, 0, none⟩) (t.ls.length + 1) cap2) = W8 at *
        refine HKK.out _ _ ?_
        clear HKK n0 n1 n2 nf ns r0 r1 r2 r3 rf rs m0 m1 m2 mf ms l0 l1 l2 l3 lf ls
        obtain ⟨q0, q1, q2, q3, q4, qf, qs⟩ := blk5 HM8.p
        obtain ⟨m0, m1, m2, mf, ms⟩ := blk3 HM8.m
        obtain ⟨l0, l1, l2, l3, lf, ls⟩ := blk4 HM8.ln
        have HMD := hid HM8
        clear HM8
        go_wp2_with fail
        have HM9 := (((((HMD.out.setl 0 (.int .i64 (pos + 1))).setl 1 (.int .i64 0)).setl 2 (.int .i64 0)).setl 3 (.int .i64 (t.ps.length + 1))).setp 3 (.int .i64 (t.l + 1))).setp 4 (.int .i64 0)
        go_roundw
        case rel =>
          refine ⟨pos + wd, fuel - 1, t.step s pos 13, pos, (.slice (some ⟨g, 0, none⟩) (t.ps.length + 1) cap), (.slice (some ⟨g2, 0, none⟩) (t.ls.length + 1) cap2), ?_, run_next HR.out hp Hrr.out Hwd.out⟩
          rw [step_nl HN.out (by decide)]
          simpa [unitsOf] using HM9
        case measure => rw [iterPos_of HM9.it, hpos0]; omega
      · obtain rfl : rr = 10 := h1
        have HN : Hid (nlw s pos 10 = 2) := by unfold nlw Hid; rw [if_neg (by decide), if_pos rfl, if_pos ⟨h2, (byte_nat h 13 (by decide) true h3).2 rfl⟩]
        have h4 : (0 : Int) < pos := by omega
        go_wp2_with fail
        have HM6 : Mem w (((((W5.setCell ⟨w.heap.size + 1, 1, none⟩ (.int .i64 (t.r + 1))).setCell ⟨w.heap.size + 1, 2, none⟩ (.int .i64 (t.u + 1))).setCell ⟨w.heap.size + 1, 4, none⟩ (.int .i64 (t.c + 1))).setCell ⟨w.heap.size + 1 + 1, 1, none⟩ (.int .i64 (pos + 1 - 2))).setCell ⟨w.heap.size + 1 + 1, 2, none⟩ (.int .i64 2)) s (pos + wd) (t.ps ++ [⟨pos, t.r, t.u, t.l, t.c⟩]) t.ls #[.int .i64 pos, .int .i64 (t.r + 1), .int .i64 (t.u + 1), .int .i64 t.l, .int .i64 (t.c + 1)] #[.int .i64 t.fr, .int .i64 (pos + 1 - 2), .int .i64 2, .int .i64 t.fi] (.slice (some ⟨g, 0, none⟩) (t.ps.length + 1) cap) v2 :=
          (((((HMC.out.setp 1 (.int .i64 (t.r + 1))).setp 2 (.int .i64 (t.u + 1))).setp 4 (.int .i64 (t.c + 1))).setl 1 (.int .i64 (pos + 1 - 2))).setl 2 (.int .i64 2))
        generalize (((((W5.setCell ⟨w.heap.size + 1, 1, none⟩ (.int .i64 (t.r + 1))).setCell ⟨w.heap.size + 1, 2, none⟩ (.int .i64 (t.u + 1))).setCell ⟨w.heap.size + 1, 4, none⟩ (.int .i64 (t.c + 1))).setCell ⟨w.heap.size + 1 + 1, 1, none⟩ (.int .i64 (pos + 1 - 2))).setCell ⟨w.heap.size + 1 + 1, 2, none⟩ (.int .i64 2)) = W6 at *
        clear HMC q0 q1 q2 q3 q4 qf qs m0 m1 m2 mf ms l0 l1 l2 l3 lf ls
        obtain ⟨l0, l1, l2, l3, lf, ls⟩ := blk4 HM6.ln
        obtain ⟨m0, m1, m2, mf, ms⟩ := blk3 HM6.m
        obtain ⟨v3, W7, hrun, hown', hgrow, hnil⟩ := run_append_own (P := Tryz.prog) ((W6.alloc (.cells #[.int .i64 t.fr, .int .i64 (pos + 1 - 2), .int .i64 2, .int .i64 t.fi] 221)).drew) (w.heap.size + 4) 215 215 221 j0 _ 4 32 Tryz.underlying215 hj gz0 gz1 gz2 rfl (by decide)
          v2 t.ls.length (flatL t.ls) ((HM6.o2.alloc _).drew) ⟨W6.heap.size, 0, none⟩ 1 1 [.int .i64 t.fr, .int .i64 (pos + 1 - 2), .int .i64 2, .int .i64 t.fi] rfl (cells_new4 _ _ _ _ _ _) (by simp [Value.oneCell']) (by unfold maxLen; omega) (by omega) (by have := HM6.lt; simp [World.drew] <;> omega)
        clear hnil
        have hA : ((pos + 1 - 2 : Nat) : Int) = (pos + 1 - 2) := by omega
        obtain ⟨HM8, hold⟩ := HM6.pushl (p := ⟨t.fr, pos + 1 - 2, 2, t.fi⟩) hgrow (by simp only [Ln.cells]; rw [hA]; exact hown')
        clear hA
        obtain ⟨g2, cap2, rfl⟩ := own_shape hown'
        obtain ⟨g3, cap3, rfl⟩ := own_some HM6.o2
        obtain ⟨n0, n1, n2, nf, ns⟩ := blk3 ((hold _ (by omega)).trans HM6.m)
        obtain ⟨r0, r1, r2, r3, rf, rs⟩ := blk4 ((hold _ (by omega)).trans HM6.ln)
        have HRun := hid hrun
        clear hrun hold hown' hgrow HM6
        refine two_tail (W1 := (W6.alloc (.cells #[.int .i64 t.fr, .int .i64 (pos + 1 - 2), .int .i64 2, .int .i64 t.fi] 221)).drew) (W2 := W7) 8 6 7 (by kernel_rfl) (by kernel_rfl) ?_
        simp only [List.take_succ_cons, List.take_zero, List.drop_succ_cons, List.drop_zero]
        refine wpE_step (fun K hK => ?_); go_simp; refine hK _ ?_; clear hK K
        refine wpE_step (fun K hK => ?_); go_simp; refine hK _ ?_; clear hK K
        refine wpE_step (fun K hK => ?_); go_simp; refine hK _ ?_; clear hK K
        refine wpE_step (fun K hK => ?_); go_simp; refine hK _ ?_; clear hK K
        refine wpE_step (fun K hK => ?_); go_simp; refine hK _ ?_; clear hK K
        refine wpE_step (fun K hK => ?_); go_simp; refine hK _ ?_; clear hK K
        refine wpE_step (fun K hK => ?_); go_simp; refine hK _ ?_; clear hK K
        refine wpE_step (fun K hK => ?_)
        refine ⟨_, .inl ⟨rfl, fun h => absurd h (by decide), fun _ => append_run (s := .tmp 104) (x := .tmp 106) rfl rfl rfl HRun.out, fun _ h => absurd rfl h⟩, hK _ ?_⟩
        clear hK K HRun
        refine wpE_nil ?_
        rename_i hKK
        have HKK := hid hKK
        clear hKK
        go_wp2_with fail
        generalize W7.setCell ⟨w.heap.size, 2, none⟩ (.slice (some ⟨g2, 0, none⟩) (t.ls.length + 1) cap2) = W8 at *
        refine HKK.out _ _ ?_
        clear HKK n0 n1 n2 nf ns r0 r1 r2 r3 rf rs m0 m1 m2 mf ms l0 l1 l2 l3 lf ls
        obtain ⟨q0, q1, q2, q3, q4, qf, qs⟩ := blk5 HM8.p
        obtain ⟨m0, m1, m2, mf, ms⟩ := blk3 HM8.m
        obtain ⟨l0, l1, l2, l3, lf, ls⟩ := blk4 HM8.ln
        have HMD := hid HM8
        clear HM8
        go_wp2_with fail
        have HM9 := (((((HMD.out.setl 0 (.int .i64 (pos + 1))).setl 1 (.int .i64 0)).setl 2 (.int .i64 0)).setl 3 (.int .i64 (t.ps.length + 1))).setp 3 (.int .i64 (t.l + 1))).setp 4 (.int .i64 0)
        go_roundw
        case rel =>
          refine ⟨pos + wd, fuel - 1, t.step s pos 10, pos, (.slice (some ⟨g, 0, none⟩) (t.ps.length + 1) cap), (.slice (some ⟨g2, 0, none⟩) (t.ls.length + 1) cap2), ?_, run_next HR.out hp Hrr.out Hwd.out⟩
          rw [step_nl HN.out (by decide)]
          simpa [unitsOf] using HM9
        case measure => rw [iterPos_of HM9.it, hpos0]; omega
      · obtain rfl : rr = 10 := h1
        have HN : Hid (nlw s pos 10 = 1) := by unfold nlw Hid; rw [if_neg (by decide), if_pos rfl, if_neg (fun hh => by have := hh.1; omega)]
        have h4 : decide ((0 : Int) < pos) = false := by simp; omega
        have h5 : ¬ (0 : Int) < pos := by omega
        clear h2
        go_wp2_with fail
        have HM6 : Mem w (((((W5.setCell ⟨w.heap.size + 1, 1, none⟩ (.int .i64 (t.r + 1))).setCell ⟨w.heap.size + 1, 2, none⟩ (.int .i64 (t.u + 1))).setCell ⟨w.heap.size + 1, 4, none⟩ (.int .i64 (t.c + 1))).setCell ⟨w.heap.size + 1 + 1, 1, none⟩ (.int .i64 pos)).setCell ⟨w.heap.size + 1 + 1, 2, none⟩ (.int .i64 1)) s (pos + wd) (t.ps ++ [⟨pos, t.r, t.u, t.l, t.c⟩]) t.ls #[.int .i64 pos, .int .i64 (t.r + 1), .int .i64 (t.u + 1), .int .i64 t.l, .int .i64 (t.c + 1)] #[.int .i64 t.fr, .int .i64 pos, .int .i64 1, .int .i64 t.fi] (.slice (some ⟨g, 0, none⟩) (t.ps.length + 1) cap) v2 :=
          (((((HMC.out.setp 1 (.int .i64 (t.r + 1))).setp 2 (.int .i64 (t.u + 1))).setp 4 (.int .i64 (t.c + 1))).setl 1 (.int .i64 pos)).setl 2 (.int .i64 1))
        generalize (((((W5.setCell ⟨w.heap.size + 1, 1, none⟩ (.int .i64 (t.r + 1))).setCell ⟨w.heap.size + 1, 2, none⟩ (.int .i64 (t.u + 1))).setCell ⟨w.heap.size + 1, 4, none⟩ (.int .i64 (t.c + 1))).setCell ⟨w.heap.size + 1 + 1, 1, none⟩ (.int .i64 pos)).setCell ⟨w.heap.size + 1 + 1, 2, none⟩ (.int .i64 1)) = W6 at *
        clear HMC q0 q1 q2 q3 q4 qf qs m0 m1 m2 mf ms l0 l1 l2 l3 lf ls
        obtain ⟨l0, l1, l2, l3, lf, ls⟩ := blk4 HM6.ln
        obtain ⟨m0, m1, m2, mf, ms⟩ := blk3 HM6.m
        obtain ⟨v3, W7, hrun, hown', hgrow, hnil⟩ := run_append_own (P := Tryz.prog) ((W6.alloc (.cells #[.int .i64 t.fr, .int .i64 pos, .int .i64 1, .int .i64 t.fi] 221)).drew) (w.heap.size + 4) 215 215 221 j0 _ 4 32 Tryz.underlying215 hj gz0 gz1 gz2 rfl (by decide)
          v2 t.ls.length (flatL t.ls) ((HM6.o2.alloc _).drew) ⟨W6.heap.size, 0, none⟩ 1 1 [.int .i64 t.fr, .int .i64 pos, .int .i64 1, .int .i64 t.fi] rfl (cells_new4 _ _ _ _ _ _) (by simp [Value.oneCell']) (by unfold maxLen; omega) (by omega) (by have := HM6.lt; simp [World.drew] <;> omega)
        clear hnil
        have hA : ((pos + 1 - 1 : Nat) : Int) = pos := by omega
        obtain ⟨HM8, hold⟩ := HM6.pushl (p := ⟨t.fr, pos + 1 - 1, 1, t.fi⟩) hgrow (by simp only [Ln.cells]; rw [hA]; exact hown')
        clear hA
        obtain ⟨g2, cap2, rfl⟩ := own_shape hown'
        obtain ⟨g3, cap3, rfl⟩ := own_some HM6.o2
        obtain ⟨n0, n1, n2, nf, ns⟩ := blk3 ((hold _ (by omega)).trans HM6.m)
        obtain ⟨r0, r1, r2, r3, rf, rs⟩ := blk4 ((hold _ (by omega)).trans HM6.ln)
        have HRun := hid hrun
        clear hrun hold hown' hgrow HM6
        refine two_tail (W1 := (W6.alloc (.cells #[.int .i64 t.fr, .int .i64 pos, .int .i64 1, .int .i64 t.fi] 221)).drew) (W2 := W7) 8 6 7 (by kernel_rfl) (by kernel_rfl) ?_
        simp only [List.take_succ_cons, List.take_zero, List.drop_succ_cons, List.drop_zero]
        refine wpE_step (fun K hK => ?_); go_simp; refine hK _ ?_; clear hK K
        refine wpE_step (fun K hK => ?_); go_simp; refine hK _ ?_; clear hK K
        refine wpE_step (fun K hK => ?_); go_simp; refine hK _ ?_; clear hK K
        refine wpE_step (fun K hK => ?_); go_simp; refine hK _ ?_; clear hK K
        refine wpE_step (fun K hK => ?_); go_simp; refine hK _ ?_; clear hK K
        refine wpE_step (fun K hK => ?_); go_simp; refine hK _ ?_; clear hK K
        refine wpE_step (fun K hK => ?_); go_simp; refine hK _ ?_; clear hK K
        refine wpE_step (fun K hK => ?_)
        refine ⟨_, .inl ⟨rfl, fun h => absurd h (by decide), fun _ => append_run (s := .tmp 104) (x := .tmp 106) rfl rfl rfl HRun.out, fun _ h => absurd rfl h⟩, hK _ ?_⟩
        clear hK K HRun
        refine wpE_nil ?_
        rename_i hKK
        have HKK := hid hKK
        clear hKK
        go_wp2_with fail
        generalize W7.setCell ⟨w.heap.size, 2, none⟩ (.slice (some ⟨g2, 0, none⟩) (t.ls.length + 1) cap2) = W8 at *
        refine HKK.out _ _ ?_
        clear HKK n0 n1 n2 nf ns r0 r1 r2 r3 rf rs m0 m1 m2 mf ms l0 l1 l2 l3 lf ls
        obtain ⟨q0, q1, q2, q3, q4, qf, qs⟩ := blk5 HM8.p
        obtain ⟨m0, m1, m2, mf, ms⟩ := blk3 HM8.m
        obtain ⟨l0, l1, l2, l3, lf, ls⟩ := blk4 HM8.ln
        have HMD := hid HM8
        clear HM8
        go_wp2_with fail
        have HM9 := (((((HMD.out.setl 0 (.int .i64 (pos + 1))).setl 1 (.int .i64 0)).setl 2 (.int .i64 0)).setl 3 (.int .i64 (t.ps.length + 1))).setp 3 (.int .i64 (t.l + 1))).setp 4 (.int .i64 0)
        go_roundw
        case rel =>
          refine ⟨pos + wd, fuel - 1, t.step s pos 10, pos, (.slice (some ⟨g, 0, none⟩) (t.ps.length + 1) cap), (.slice (some ⟨g2, 0, none⟩) (t.ls.length + 1) cap2), ?_, run_next HR.out hp Hrr.out Hwd.out⟩
          rw [step_nl HN.out (by decide)]
          simpa [unitsOf] using HM9
        case measure => rw [iterPos_of HM9.it, hpos0]; omega
      · obtain rfl : rr = 10 := h1
        have HN : Hid (nlw s pos 10 = 1) := by unfold nlw Hid; rw [if_neg (by decide), if_pos rfl, if_neg (fun hh => Bool.false_ne_true ((byte_nat h 13 (by decide) false h3).1 hh.2))]
        have h4 : (0 : Int) < pos := by omega
        go_wp2_with fail
        have HM6 : Mem w (((((W5.setCell ⟨w.heap.size + 1, 1, none⟩ (.int .i64 (t.r + 1))).setCell ⟨w.heap.size + 1, 2, none⟩ (.int .i64 (t.u + 1))).setCell ⟨w.heap.size + 1, 4, none⟩ (.int .i64 (t.c + 1))).setCell ⟨w.heap.size + 1 + 1, 1, none⟩ (.int .i64 pos)).setCell ⟨w.heap.size + 1 + 1, 2, none⟩ (.int .i64 1)) s (pos + wd) (t.ps ++ [⟨pos, t.r, t.u, t.l, t.c⟩]) t.ls #[.int .i64 pos, .int .i64 (t.r + 1), .int .i64 (t.u + 1), .int .i64 t.l, .int .i64 (t.c + 1)] #[.int .i64 t.fr, .int .i64 pos, .int .i64 1, .int .i64 t.fi] (.slice (some ⟨g, 0, none⟩) (t.ps.length + 1) cap) v2 :=
          (((((HMC.out.setp 1 (.int .i64 (t.r + 1))).setp 2 (.int .i64 (t.u + 1))).setp 4 (.int .i64 (t.c + 1))).setl 1 (.int .i64 pos)).setl 2 (.int .i64 1))
        generalize (((((W5.setCell ⟨w.heap.size + 1, 1, none⟩ (.int .i64 (t.r + 1))).setCell ⟨w.heap.size + 1, 2, none⟩ (.int .i64 (t.u + 1))).setCell ⟨w.heap.size + 1, 4, none⟩ (.int .i64 (t.c + 1))).setCell ⟨w.heap.size + 1 + 1, 1, none⟩ (.int .i64 pos)).setCell ⟨w.heap.size + 1 + 1, 2, none⟩ (.int .i64 1)) = W6 at *
        clear HMC q0 q1 q2 q3 q4 qf qs m0 m1 m2 mf ms l0 l1 l2 l3 lf ls
        obtain ⟨l0, l1, l2, l3, lf, ls⟩ := blk4 HM6.ln
        obtain ⟨m0, m1, m2, mf, ms⟩ := blk3 HM6.m
        obtain ⟨v3, W7, hrun, hown', hgrow, hnil⟩ := run_append_own (P := Tryz.prog) ((W6.alloc (.cells #[.int .i64 t.fr, .int .i64 pos, .int .i64 1, .int .i64 t.fi] 221)).drew) (w.heap.size + 4) 215 215 221 j0 _ 4 32 Tryz.underlying215 hj gz0 gz1 gz2 rfl (by decide)
          v2 t.ls.length (flatL t.ls) ((HM6.o2.alloc _).drew) ⟨W6.heap.size, 0, none⟩ 1 1 [.int .i64 t.fr, .int .i64 pos, .int .i64 1, .int .i64 t.fi] rfl (cells_new4 _ _ _ _ _ _) (by simp [Value.oneCell']) (by unfold maxLen; omega) (by omega) (by have := HM6.lt; simp [World.drew] <;> omega)
        clear hnil
        have hA : ((pos + 1 - 1 : Nat) : Int) = pos := by omega
        obtain ⟨HM8, hold⟩ := HM6.pushl (p := ⟨t.fr, pos + 1 - 1, 1, t.fi⟩) hgrow (by simp only [Ln.cells]; rw [hA]; exact hown')
        clear hA
        obtain ⟨g2, cap2, rfl⟩ := own_shape hown'
        obtain ⟨g3, cap3, rfl⟩ := own_some HM6.o2
        obtain ⟨n0, n1, n2, nf, ns⟩ := blk3 ((hold _ (by omega)).trans HM6.m)
        obtain ⟨r0, r1, r2, r3, rf, rs⟩ := blk4 ((hold _ (by omega)).trans HM6.ln)
        have HRun := hid hrun
        clear hrun hold hown' hgrow HM6
        refine two_tail (W1 := (W6.alloc (.cells #[.int .i64 t.fr, .int .i64 pos, .int .i64 1, .int .i64 t.fi] 221)).drew) (W2 := W7) 8 6 7 (by kernel_rfl) (by kernel_rfl) ?_
        simp only [List.take_succ_cons, List.take_zero, List.drop_succ_cons, List.drop_zero]
        refine wpE_step (fun K hK => ?_); go_simp; refine hK _ ?_; clear hK K
        refine wpE_step (fun K hK => ?_); go_simp; refine hK _ ?_; clear hK K
        refine wpE_step (fun K hK => ?_); go_simp; refine hK _ ?_; clear hK K
        refine wpE_step (fun K hK => ?_); go_simp; refine hK _ ?_; clear hK K
        refine wpE_step (fun K hK => ?_); go_simp; refine hK _ ?_; clear hK K
        refine wpE_step (fun K hK => ?_); go_simp; refine hK _ ?_; clear hK K
        refine wpE_step (fun K hK => ?_); go_simp; refine hK _ ?_; clear hK K
        refine wpE_step (fun K hK => ?_)
        refine ⟨_, .inl ⟨rfl, fun h => absurd h (by decide), fun _ => append_run (s := .tmp 104) (x := .tmp 106) rfl rfl rfl HRun.out, fun _ h => absurd rfl h⟩, hK _ ?_⟩
        clear hK K HRun
        refine wpE_nil ?_
        rename_i hKK
        have HKK := hid hKK
        clear hKK
        go_wp2_with fail
        generalize W7.setCell ⟨w.heap.size, 2, none⟩ (.slice (some ⟨g2, 0, none⟩) (t.ls.length + 1) cap2) = W8 at *
        refine HKK.out _ _ ?_
        clear HKK n0 n1 n2 nf ns r0 r1 r2 r3 rf rs m0 m1 m2 mf ms l0 l1 l2 l3 lf ls
        obtain ⟨q0, q1, q2, q3, q4, qf, qs⟩ := blk5 HM8.p
        obtain ⟨m0, m1, m2, mf, ms⟩ := blk3 HM8.m
        obtain ⟨l0, l1, l2, l3, lf, ls⟩ := blk4 HM8.ln
        have HMD := hid HM8
        clear HM8
        go_wp2_with fail
        have HM9 := (((((HMD.out.setl 0 (.int .i64 (pos + 1))).setl 1 (.int .i64 0)).setl 2 (.int .i64 0)).setl 3 (.int .i64 (t.ps.length + 1))).setp 3 (.int .i64 (t.l + 1))).setp 4 (.int .i64 0)
        go_roundw
        case rel =>
          refine ⟨pos + wd, fuel - 1, t.step s pos 10, pos, (.slice (some ⟨g, 0, none⟩) (t.ps.length + 1) cap), (.slice (some ⟨g2, 0, none⟩) (t.ls.length + 1) cap2), ?_, run_next HR.out hp Hrr.out Hwd.out⟩
          rw [step_nl HN.out (by decide)]
          simpa [unitsOf] using HM9
        case measure => rw [iterPos_of HM9.it, hpos0]; omega
      · have HN : Hid (nlw s pos rr = 0) := by unfold nlw Hid; rw [if_neg h1, if_neg h2]
        have HU : Hid (¬ 65536 ≤ rr) := by unfold Hid; omega
        have e1 : ((rr : Int) == 13) = false := by simp; omega
        have e2 : ((rr : Int) == 10) = false := by simp; omega
        have e3 : ((rr : Int) != 13) = true := by simp; omega
        have e4 : ((rr : Int) != 10) = true := by simp; omega
        go_wp2_with fail
        have HM6 : Mem w (((W5.setCell ⟨w.heap.size + 1, 1, none⟩ (.int .i64 (t.r + 1))).setCell ⟨w.heap.size + 1, 2, none⟩ (.int .i64 (t.u + 1))).setCell ⟨w.heap.size + 1, 4, none⟩ (.int .i64 (t.c + 1))) s (pos + wd) (t.ps ++ [⟨pos, t.r, t.u, t.l, t.c⟩]) t.ls #[.int .i64 pos, .int .i64 (t.r + 1), .int .i64 (t.u + 1), .int .i64 t.l, .int .i64 (t.c + 1)] #[.int .i64 t.fr, .int .i64 0, .int .i64 0, .int .i64 t.fi] (.slice (some ⟨g, 0, none⟩) (t.ps.length + 1) cap) v2 := ((HMC.out.setp 1 (.int .i64 (t.r + 1))).setp 2 (.int .i64 (t.u + 1))).setp 4 (.int .i64 (t.c + 1))
        go_roundw
        case rel =>
          refine ⟨pos + wd, fuel - 1, t.step s pos rr, pos, (.slice (some ⟨g, 0, none⟩) (t.ps.length + 1) cap), v2, ?_, run_next HR.out hp Hrr.out Hwd.out⟩
          rw [step_no HN.out]
          simpa [unitsOf, HU.out, Int.add_assoc] using HM6
        case measure => rw [iterPos_of HM6.it, hpos0]; omega
    · obtain rfl : pos = s.size := by have := HR.out.2.2.hp; omega
      have hnx : ∀ ty, (Instr.next (.pointer (some ⟨w.heap.size + 1 + 1 + 1, 0, none⟩)) true ty).run Tryz.prog wr = _ := fun ty => Lib.run_next_end_at wr (w.heap.size + 1 + 1 + 1) s s.size ty HM.it hp
      obtain ⟨q0, q1, q2, q3, q4, qf, qs⟩ := blk5 HM.p
      have hn5 := HR.out.2.2.len
      have hl5 := HR.out.2.2.ll
      go_wp2_with fail
      clear hnx q0 q1 q2 q3 q4 qf qs
      have HM2 := HM.setp 0 (.int .i64 s.size)
      generalize wr.setCell ⟨w.heap.size + 1, 0, none⟩ (.int .i64 s.size) = W2 at *
      obtain ⟨q0, q1, q2, q3, q4, qf, qs⟩ := blk5 HM2.p
      obtain ⟨m0, m1, m2, mf, ms⟩ := blk3 HM2.m
      obtain ⟨v', W4, hrun, hown', hgrow, hnil⟩ := run_append_own (P := Tryz.prog) ((W2.alloc (.cells #[.int .i64 s.size, .int .i64 t.r, .int .i64 t.u, .int .i64 t.l, .int .i64 t.c] 219)).drew) (w.heap.size + 4) 214 214 219 i0 _ 5 40 Tryz.underlying214 hi hz0 hz1 hz2 rfl (by decide)
        v1 t.ps.length (flatP t.ps) ((HM2.o1.alloc _).drew) ⟨W2.heap.size, 0, none⟩ 1 1 [.int .i64 s.size, .int .i64 t.r, .int .i64 t.u, .int .i64 t.l, .int .i64 t.c] rfl (cells_new5 _ _ _ _ _ _ _) (by simp [Value.oneCell']) (by unfold maxLen; omega) (by omega) (by have := HM2.lt; simp [World.drew] <;> omega)
      clear hnil
      obtain ⟨HM5, hold⟩ := HM2.pushp (p := ⟨s.size, t.r, t.u, t.l, t.c⟩) hgrow hown'
      obtain ⟨g, cap, rfl⟩ := own_shape hown'
      obtain ⟨g1, cap1, rfl⟩ := own_some HM2.o1
      obtain ⟨n0, n1, n2, nf, ns⟩ := blk3 ((hold _ (by omega)).trans HM2.m)
      obtain ⟨r0, r1, r2, r3, r4, rf, rs⟩ := blk5 ((hold _ (by omega)).trans HM2.p)
      have HRun := hid hrun
      clear hrun hold hown' hgrow HM HM2
      refine two_tail (W1 := (W2.alloc (.cells #[.int .i64 s.size, .int .i64 t.r, .int .i64 t.u, .int .i64 t.l, .int .i64 t.c] 219)).drew) (W2 := W4) 8 6 7 (by kernel_rfl) (by kernel_rfl) ?_
      simp only [List.take_succ_cons, List.take_zero, List.drop_succ_cons, List.drop_zero]
      refine wpE_step (fun K hK => ?_); go_simp; refine hK _ ?_; clear hK K
      refine wpE_step (fun K hK => ?_); go_simp; refine hK _ ?_; clear hK K
      refine wpE_step (fun K hK => ?_); go_simp; refine hK _ ?_; clear hK K
      refine wpE_step (fun K hK => ?_); go_simp; refine hK _ ?_; clear hK K
      refine wpE_step (fun K hK => ?_); go_simp; refine hK _ ?_; clear hK K
      refine wpE_step (fun K hK => ?_); go_simp; refine hK _ ?_; clear hK K
      refine wpE_step (fun K hK => ?_); go_simp; refine hK _ ?_; clear hK K
      refine wpE_step (fun K hK => ?_)
      refine ⟨_, .inl ⟨rfl, fun h => absurd h (by decide), fun _ => append_run (s := .tmp 131) (x := .tmp 133) rfl rfl rfl HRun.out, fun _ h => absurd rfl h⟩, hK _ ?_⟩
      clear hK K HRun
      refine wpE_nil ?_
      rename_i hKK
      have HKK := hid hKK
      clear hKK
      go_wp2_with fail
      generalize W4.setCell ⟨w.heap.size, 1, none⟩ (.slice (some ⟨g, 0, none⟩) (t.ps.length + 1) cap) = W5 at *
      refine HKK.out _ _ ?_
      clear HKK n0 n1 n2 nf ns r0 r1 r2 r3 r4 rf rs q0 q1 q2 q3 q4 qf qs m0 m1 m2 mf ms
      obtain ⟨l0, l1, l2, l3, lf, ls⟩ := blk4 HM5.ln
      go_wp2_with fail
      clear l0 l1 l2 l3 lf ls
      have HM6 := HM5.setl 1 (.int .i64 s.size)
      generalize W5.setCell ⟨w.heap.size + 1 + 1, 1, none⟩ (.int .i64 s.size) = W6 at *
      obtain ⟨l0, l1, l2, l3, lf, ls⟩ := blk4 HM6.ln
      obtain ⟨m0, m1, m2, mf, ms⟩ := blk3 HM6.m
      obtain ⟨v3, W7, hrun, hown', hgrow, hnil⟩ := run_append_own (P := Tryz.prog) ((W6.alloc (.cells #[.int .i64 t.fr, .int .i64 s.size, .int .i64 0, .int .i64 t.fi] 221)).drew) (w.heap.size + 4) 215 215 221 j0 _ 4 32 Tryz.underlying215 hj gz0 gz1 gz2 rfl (by decide)
        v2 t.ls.length (flatL t.ls) ((HM6.o2.alloc _).drew) ⟨W6.heap.size, 0, none⟩ 1 1 [.int .i64 t.fr, .int .i64 s.size, .int .i64 0, .int .i64 t.fi] rfl (cells_new4 _ _ _ _ _ _) (by simp [Value.oneCell']) (by unfold maxLen; omega) (by omega) (by have := HM6.lt; simp [World.drew] <;> omega)
      clear hnil
      obtain ⟨HM8, hold⟩ := HM6.pushl (p := ⟨t.fr, s.size, 0, t.fi⟩) hgrow hown'
      obtain ⟨g2, cap2, rfl⟩ := own_shape hown'
      obtain ⟨g3, cap3, rfl⟩ := own_some HM6.o2
      obtain ⟨n0, n1, n2, nf, ns⟩ := blk3 ((hold _ (by omega)).trans HM6.m)
      obtain ⟨r0, r1, r2, r3, rf, rs⟩ := blk4 ((hold _ (by omega)).trans HM6.ln)
      have HRun := hid hrun
      clear hrun hold hown' hgrow HM5 HM6
      refine two_tail (W1 := (W6.alloc (.cells #[.int .i64 t.fr, .int .i64 s.size, .int .i64 0, .int .i64 t.fi] 221)).drew) (W2 := W7) 8 6 7 (by kernel_rfl) (by kernel_rfl) ?_
      simp only [List.take_succ_cons, List.take_zero, List.drop_succ_cons, List.drop_zero]
      refine wpE_step (fun K hK => ?_); go_simp; refine hK _ ?_; clear hK K
      refine wpE_step (fun K hK => ?_); go_simp; refine hK _ ?_; clear hK K
      refine wpE_step (fun K hK => ?_); go_simp; refine hK _ ?_; clear hK K
      refine wpE_step (fun K hK => ?_); go_simp; refine hK _ ?_; clear hK K
      refine wpE_step (fun K hK => ?_); go_simp; refine hK _ ?_; clear hK K
      refine wpE_step (fun K hK => ?_); go_simp; refine hK _ ?_; clear hK K
      refine wpE_step (fun K hK => ?_); go_simp; refine hK _ ?_; clear hK K
      refine wpE_step (fun K hK => ?_)
      refine ⟨_, .inl ⟨rfl, fun h => absurd h (by decide), fun _ => append_run (s := .tmp 145) (x := .tmp 147) rfl rfl rfl HRun.out, fun _ h => absurd rfl h⟩, hK _ ?_⟩
      clear hK K HRun
      refine wpE_nil ?_
      have HMF := hid (mem_map (t := t) HM8 HR.out.1)
      clear HM8
      go_wp2_with fail
      try rw [Exit.noGoto_ret]
      go_ret2
      exact HMF.out
end Go.Proofs.YteodfondjogmoaaGreatDoor.P
