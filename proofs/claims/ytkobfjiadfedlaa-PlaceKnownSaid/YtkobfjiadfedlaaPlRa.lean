/- The document's answer: Ends, walked: the line ends of a text, in order. Conditions: the text has at most 65536 bytes. -/
import Derived.Test.YtkobfjiadfedlaaPlY
import Derived.Test.YtkobfjiadfedlaaPlEc
import Derived.Test.YtkobfjiadfedlaaPlM
import Derived.Test.YtkobfjiadfedlaaQs
import Derived.WalkSpells
import Derived.WalkLawsBesides
import Derived.Deep.QuietTactic
import Derived.BigQuiet
namespace Go.Proofs.Ytkobfjiadfedlaa
open Go.RowKit
set_option linter.unusedVariables false
set_option linter.unusedSimpArgs false
attribute [local go_sem] Ext.cell Ext.froz
theorem Try.info29 : (Try.prog.info? 29).map (fun i => (i.zero, i.size, i.bytes)) = some (some (.agg #[.int .i64 0, .int .i64 0]), 2, 16) := by kernel_rfl
theorem stop_here {p : Prop} (h : Hid p) : p := h.out
theorem cells_new2 (w : World) (a0 a1 : Value) (T : TypeId) : ∀ j u, [a0, a1][j]? = some u → (w.alloc (.cells #[a0, a1] T)).cell? ((⟨w.heap.size, 0, none⟩ : Addr).add j) = some u := by
  intro j u hj
  match j, hj with
  | 0, hj => simp at hj; subst hj; simp [Addr.add]
  | 1, hj => simp at hj; subst hj; simp [Addr.add]
  | j + 2, hj => simp at hj
/-- the cells of the line ends -/
def flatE (l : List Ln) : List Value := l.flatMap fun ln => [.int .i64 ln.t, .int .i64 (ln.t + ln.e : Nat)]
theorem flatE_snoc (l : List Ln) (x : Ln) : flatE (l ++ [x]) = flatE l ++ [.int .i64 x.t, .int .i64 (x.t + x.e : Nat)] := by simp [flatE]
theorem flatE_get : ∀ (l : List Ln) (k : Nat) (p : Ln), l[k]? = some p → (flatE l)[k * 2]? = some (.int .i64 p.t) ∧ (flatE l)[k * 2 + 1]? = some (.int .i64 (p.t + p.e : Nat))
  | [], k, p, h => by simp at h
  | q :: l, 0, p, h => by
    simp at h; subst h
    exact ⟨rfl, rfl⟩
  | q :: l, k + 1, p, h => by
    simp at h
    have := flatE_get l k p h
    have e1 : (k + 1) * 2 = k * 2 + 2 := by omega
    have e2 : (k + 1) * 2 + 1 = k * 2 + 1 + 2 := by omega
    rw [e2, e1]
    exact this
/-- the k-th line is the one of the byte at pos -/
def AtLn (s : ByteArray) (k pos : Nat) : Prop := ∃ ln : Ln, (lnOf s)[k]? = some ln ∧ ln.f ≤ pos ∧ pos ≤ ln.t
theorem own_push {w wr W4 : World} {base : Nat} {e : TypeId} {size n : Nat} {v : Value} {o : Obj} {xs : List Value} (hb : Below base w wr) (h : wr.ownsRow base e size v n xs) (hbase : base ≤ wr.heap.size) (hg : (wr.alloc o).grownBy W4 v.ownBlock) : Below base w W4 :=
  (hb.alloc hbase o).grown hg (by simp; omega) (fun k hk => (h.lt k hk).1)
set_option maxRecDepth 100000 in
set_option maxHeartbeats 4000000 in
theorem ends_own (s : ByteArray) (w : World) (hs : s.size ≤ 65536) :
    Calls Try.prog 26 #[.string s] w fun e w' => ∃ v, e = .returned v ∧ w'.ownsRow w.heap.size 29 2 v (fin s).ls.length (flatE (fin s).ls) ∧ Below w.heap.size w w' := by
  obtain ⟨i0, hi, hz0, hz1, hz2⟩ := info_parts Try.info29
  have hlen := hid (lnOf_len s)
  have hsm := hid (plOf_small s hs).2
  have hln : Hid (∀ (k : Nat) (ln : Ln), (lnOf s)[k]? = some ln → k < (fin s).ls.length → (fin s).ls[k]? = some ln) := fun k ln h hk => by
    unfold lnOf at h
    rw [List.getElem?_append_left hk] at h
    exact h
  go_enter Try.func26, Try.ntmps26
  go_wp2_with fail
  go_loopw [3, 4] (fun v i wr => ∃ k pos : Nat, i = .int .i64 pos ∧ Hid (AtLn s k pos) ∧ wr.ownsRow w.heap.size 29 2 v k (flatE ((fin s).ls.take k)) ∧ Below w.heap.size w wr) (fun _ i _ => s.size - (intOf i).toNat)
  case atStart =>
    have hp := lnOf_pos s
    have hg : (lnOf s)[0]? = some (lnOf s)[0] := List.getElem?_eq_getElem hp
    have hk := ln_ok s hg
    have hf : (lnOf s)[0].f = 0 := by rw [hk.f]; rfl
    exact ⟨0, 0, rfl, ⟨_, hg, by omega, Nat.zero_le _⟩, World.ownsRow_nil _ _ _ _, Below.refl _ _⟩
  case round =>
    obtain ⟨k, pos, rfl, hAt, hown, hB⟩ := hrel
    obtain ⟨ln, hg, h1, h2⟩ := hAt.out
    have hok := hid (ln_ok s hg)
    have hsz := hok.out.sz
    have hkl := (List.getElem?_eq_some_iff.1 hg).1
    have hhs := hB.size
    by_cases hp : pos < s.size
    · have hpi : (pos : Int) < s.size := by omega
      have r1 : IntKind.i64.wrap ((pos : Int) + 1) = (pos : Int) + 1 := IntWalk.i64_in _ (by omega)
      have r2 : IntKind.i64.wrap ((pos : Int) + 2) = (pos : Int) + 2 := IntWalk.i64_in _ (by omega)
      have r3 : ((pos : Int) + 1).toNat = pos + 1 := by omega
      rcases Nat.lt_or_eq_of_le h2 with h2 | h2
      · obtain ⟨n10, n13⟩ := hok.out.inn pos h1 h2
        rw [getElem!_pos s _ hp] at n10 n13
        have z10 : (((s[pos]'hp).toNat : Int) == 10) = false := by
          rw [beq_eq_false_iff_ne]; intro h; apply n10; apply UInt8.toNat_inj.1; show _ = 10; omega
        have z13 : (((s[pos]'hp).toNat : Int) == 13) = false := by
          rw [beq_eq_false_iff_ne]; intro h; apply n13; apply UInt8.toNat_inj.1; show _ = 13; omega
        have hAt2 : Hid (AtLn s k (pos + 1)) := ⟨ln, hg, by omega, h2⟩
        replace hown := hid hown
        clear n10 n13 hg h1 h2 hsz hkl hhs
        go_wp2_with fail
        go_roundw
        case rel => exact ⟨k, pos + 1, by go_num, hAt2, hown.out, hB⟩
        case measure => simp [intOf]; omega
      · subst h2
        rcases hok.out.fin with ⟨q1, q2, q3⟩ | ⟨q1, q2⟩
        · omega
        · have hnx := hok.out.next
          have hkk : k < (fin s).ls.length := by have := hlen.out; omega
          have hgk := hln.out k ln hg hkk
          obtain ⟨ln2, hg2⟩ : ∃ ln2, (lnOf s)[k + 1]? = some ln2 := ⟨_, List.getElem?_eq_getElem q1⟩
          have hok2 := ln_ok s hg2
          have hAt2 : Hid (AtLn s (k + 1) (ln.t + ln.e)) := ⟨ln2, hg2, by rw [hok2.f, hnx]; exact Nat.le_refl _, by have := hok2.f; have := hok2.ft; omega⟩
          have htk := hid (take_snoc (fin s).ls k ln hgk)
          have hsm2 := hsm.out
          have hl2 := hlen.out
          obtain ⟨g0, cap0, rfl⟩ := own_some hown
          replace hown := hid hown
          have hfin : Hid (∀ (E : Int) (W4 : World) (v' : Value), E = ((ln.t + ln.e : Nat) : Int) → W4.ownsRow w.heap.size 29 2 v' (k + 1) (flatE ((fin s).ls.take k) ++ [.int .i64 ln.t, .int .i64 E]) → W4.ownsRow w.heap.size 29 2 v' (k + 1) (flatE ((fin s).ls.take (k + 1)))) := fun E W4 v' hE h => by rw [htk.out, flatE_snoc, ← hE]; exact h
          have hbx := hid hB
          clear hg hg2 hok2 hnx hgk hok h1 hAt htk hB q1
          rcases q2 with ⟨e1, b1, b2⟩ | ⟨e1, b1, b2, b3⟩ | ⟨e1, b1, b2, b3⟩
          · rw [e1] at hAt2
            rw [getElem!_pos s _ hp] at b2
            have z10 : (((s[ln.t]'hp).toNat : Int) == 10) = true := by rw [b2]; rfl
            have z13 : (((s[ln.t]'hp).toNat : Int) == 13) = false := by rw [b2]; rfl
            clear b2
            replace e1 := hid e1
            go_wp2_with (at_builtin; refine wpList_append_own _ rfl (.tmp 50) (.tmp 55) 57 rfl w.heap.size 29 i0 _ 2 16 Try.underlying57 hi hz0 hz1 hz2 rfl (by decide) _ _ _ rfl (hown.out.alloc _) ⟨wr.heap.size, 0, none⟩ 1 1 [.int .i64 ln.t, .int .i64 ((ln.t : Int) + 1)] rfl rfl (cells_new2 _ _ _ _) (by simp [Value.oneCell']) (by unfold maxLen; omega) (by omega) (by simp; omega) ?_; refine stop_here ?_)
            refine hid ?_
            intro v' w5 hown' hgrow _
            have hB5 := own_push hbx.out hown.out hhs hgrow
            replace hown' := hfin.out _ w5 v' (by rw [e1.out]; rfl) hown'
            clear hfin hgrow hown
            go_wp2_with fail
            go_roundw
            case rel => exact ⟨k + 1, ln.t + 1, by go_num, hAt2, hown', hB5⟩
            case measure => simp [intOf]; omega
          · rw [e1] at hAt2
            rw [getElem!_pos s _ hp] at b2
            have z13 : (((s[ln.t]'hp).toNat : Int) == 13) = true := by rw [b2]; rfl
            replace e1 := hid e1
            by_cases hm : ln.t + 1 < s.size
            · have q5 : ¬ s[ln.t + 1]! = 10 := fun h => b3 ⟨hm, h⟩
              rw [getElem!_pos s _ hm] at q5
              have z10 : (((s[ln.t + 1]'hm).toNat : Int) == 10) = false := by
                rw [beq_eq_false_iff_ne]; intro h; apply q5; apply UInt8.toNat_inj.1; show _ = 10; omega
              have t9 : (ln.t : Int) + 1 < s.size := by omega
              clear b2 b3 q5
              go_wp2_with (at_builtin; refine wpList_append_own _ rfl (.tmp 50) (.tmp 55) 57 rfl w.heap.size 29 i0 _ 2 16 Try.underlying57 hi hz0 hz1 hz2 rfl (by decide) _ _ _ rfl (hown.out.alloc _) ⟨wr.heap.size, 0, none⟩ 1 1 [.int .i64 ln.t, .int .i64 ((ln.t : Int) + 1)] rfl rfl (cells_new2 _ _ _ _) (by simp [Value.oneCell']) (by unfold maxLen; omega) (by omega) (by simp; omega) ?_; refine stop_here ?_)
              refine hid ?_
              intro v' w5 hown' hgrow _
              have hB5 := own_push hbx.out hown.out hhs hgrow
              replace hown' := hfin.out _ w5 v' (by rw [e1.out]; rfl) hown'
              clear hfin hgrow hown
              go_wp2_with fail
              go_roundw
              case rel => exact ⟨k + 1, ln.t + 1, by go_num, hAt2, hown', hB5⟩
              case measure => simp [intOf]; omega
            · have t9 : ¬ (ln.t : Int) + 1 < s.size := by omega
              have t10 : decide ((ln.t : Int) + 1 < s.size) = false := decide_eq_false t9
              clear b2 b3
              go_wp2_with (at_builtin; refine wpList_append_own _ rfl (.tmp 50) (.tmp 55) 57 rfl w.heap.size 29 i0 _ 2 16 Try.underlying57 hi hz0 hz1 hz2 rfl (by decide) _ _ _ rfl (hown.out.alloc _) ⟨wr.heap.size, 0, none⟩ 1 1 [.int .i64 ln.t, .int .i64 ((ln.t : Int) + 1)] rfl rfl (cells_new2 _ _ _ _) (by simp [Value.oneCell']) (by unfold maxLen; omega) (by omega) (by simp; omega) ?_; refine stop_here ?_)
              refine hid ?_
              intro v' w5 hown' hgrow _
              have hB5 := own_push hbx.out hown.out hhs hgrow
              replace hown' := hfin.out _ w5 v' (by rw [e1.out]; rfl) hown'
              clear hfin hgrow hown
              go_wp2_with fail
              go_roundw
              case rel => exact ⟨k + 1, ln.t + 1, by go_num, hAt2, hown', hB5⟩
              case measure => simp [intOf]; omega
          · rw [e1] at hAt2
            rw [getElem!_pos s _ hp] at b2
            have hm : ln.t + 1 < s.size := by omega
            rw [getElem!_pos s _ hm] at b3
            have z13 : (((s[ln.t]'hp).toNat : Int) == 13) = true := by rw [b2]; rfl
            have z10 : (((s[ln.t + 1]'hm).toNat : Int) == 10) = true := by rw [b3]; rfl
            have t9 : (ln.t : Int) + 1 < s.size := by omega
            have t10 : IntKind.i64.wrap ((ln.t : Int) + 1 + 1) = (ln.t : Int) + 1 + 1 := IntWalk.i64_in _ (by omega)
            clear b2 b3
            replace e1 := hid e1
            go_wp2_with (at_builtin; refine wpList_append_own _ rfl (.tmp 30) (.tmp 35) 57 rfl w.heap.size 29 i0 _ 2 16 Try.underlying57 hi hz0 hz1 hz2 rfl (by decide) _ _ _ rfl (hown.out.alloc _) ⟨wr.heap.size, 0, none⟩ 1 1 [.int .i64 ln.t, .int .i64 ((ln.t : Int) + 2)] rfl rfl (cells_new2 _ _ _ _) (by simp [Value.oneCell']) (by unfold maxLen; omega) (by omega) (by simp; omega) ?_; refine stop_here ?_)
            refine hid ?_
            intro v' w5 hown' hgrow _
            have hB5 := own_push hbx.out hown.out hhs hgrow
            replace hown' := hfin.out _ w5 v' (by rw [e1.out]; rfl) hown'
            clear hfin hgrow hown
            go_wp2_with fail
            go_roundw
            case rel => exact ⟨k + 1, ln.t + 2, by go_num, hAt2, hown', hB5⟩
            case measure => simp [intOf]; omega
    · have hpi : ¬ (pos : Int) < s.size := by omega
      have hpd : decide (pos < s.size) = false := decide_eq_false hp
      have hk : k = (fin s).ls.length := by
        rcases hok.out.fin with ⟨q1, q2, q3⟩ | ⟨q1, q2⟩
        · have := hlen.out; omega
        · rcases q2 with ⟨e1, b1, b2⟩ | ⟨e1, b1, b2, b3⟩ | ⟨e1, b1, b2, b3⟩ <;> omega
      subst hk
      rw [List.take_length] at hown
      replace hown := hid hown
      clear hg h1 h2 hok hsz hkl hhs hAt
      go_wp2_with fail
      try rw [Exit.noGoto_ret]
      go_ret
      exact ⟨_, rfl, hown.out, hB⟩
end Go.Proofs.Ytkobfjiadfedlaa
