/- Whether a piece is what an item says, whether a rule fits, the first one that does: the document's hand. Conditions: those of each theorem. -/
import Derived.Test.YtieifhfgedoiaaaDoorNTb
import Derived.Test.YtieifhfgedoiaaaDoorNFd
import Derived.Great.Walk
namespace Go.Proofs.YtieifhfgedoiaaaDoor
open Go.RowKit Go.Lib
set_option linter.unusedVariables false
set_option linter.unusedSimpArgs false
attribute [local go_sem] ExtS.cell ExtS.froz upE_value upE_skip upE_enter Ext.cell Ext.froz one_neq
theorem wpQuiet_load_row {P : Program} {ops : Array Oper} {C : World → Prop} {Q : Act → Prop} {rest : List Oper} {o : Oper} {a : Act} (hgd : Region.wanted o (yielded ops a.tmps) = true) (ty : TypeId) (x : Operand) (ho : o.op = .load ty x)
  (g : Nat) (hx : a.eval x = .pointer (some ⟨g, 0, none⟩)) (t : TypeId) (cs : Array Value) (fr : Nat × Nat) (d : TypeDesc) (hg : ∀ w, C w → w.heap[g]? = some (.cells cs t fr))
  (hu : P.underlying ty = some d) (hd : (match d with | .struct _ | .array _ _ => true | _ => false) = true) (hi : (P.info? ty).map (·.size) = some cs.size)
  (h : wpQuiet P ops C Q rest (a.put o.dst (.agg cs))) : wpQuiet P ops C Q (o :: rest) a :=
 wpQuiet_step fun K hK => by
  rw [if_pos hgd]
  refine ⟨.agg cs, fun w hC => ?_, hK _ h⟩
  unfold Oper.quietAt execOp
  simp only [ho, hx, Instr.loadAt, Instr.sureAddr, Sem.run_bind, Sem.run_pure, Result.andThen_ok, run_loadVar_row w g t ty cs fr d (hg w hC) hu hd hi]
  exact ⟨rfl, rfl⟩
theorem hasB_pcs {x : Rs} {i : Item} {u : One} {b : Nat} (h : i.name = b + 65) : hasB x i u = (x.pcs b).contains u := by
 unfold hasB Rs.pcs
 rw [if_neg (by omega), show i.name - 65 = b by omega]
 cases x.cls b <;> rfl
theorem cont_step {L : List One} {i : Nat} {a u : One} (h : L[i]? = some a) (hne : a ≠ u) (hp : (L.take i).contains u = false) : (L.take (i + 1)).contains u = false := by
 rw [List.take_add_one, h]
 simp only [List.contains_eq_mem, decide_eq_false_iff_not, List.mem_append, Option.toList_some, List.mem_singleton, not_or] at hp ⊢
 exact ⟨hp, fun e => hne e.symm⟩
theorem cont_hit {L : List One} {i : Nat} {u : One} (h : L[i]? = some u) : L.contains u = true := by
 simp only [List.contains_eq_mem, decide_eq_true_eq]
 exact List.mem_of_getElem? h
set_option maxRecDepth 100000 in
set_option maxHeartbeats 4000000 in
theorem has48 {w : World} {base : Nat} {c : Array Value} {x : Rs} (h : DVal w base c x) (g : RsG x) (i : Item) (u : One) (hi : ItemG x.said i) :
  Calls Tryd.prog 48 #[.agg c, i.val, u.val] w fun e w' => e = .returned (.bool (hasB x i u)) ∧ Below w.heap.size w w' := by
 have hb1 : Below w.heap.size w (w.alloc (.cells c 31)) := (Below.refl _ _).alloc (Nat.le_refl _) _
 have hb2 : Below w.heap.size w ((w.alloc (.cells c 31)).alloc (.cells i.cells.toArray 120)) := hb1.alloc hb1.size _
 have hb3 := hid (hb2.alloc hb2.size (.cells u.cells.toArray 98))
 have KB := hid ((((Blk.new w 31 c).alloc (.cells i.cells.toArray 120)).alloc (.cells u.cells.toArray 98)))
 have H := hid (h.low hb3.out)
 have hV1 := h.one
 clear h hb1 hb2
 rcases hi.2 with h0 | ⟨h1, h2, h3⟩
 ·have hE : hasB x i u = decide (i.u = u) := by unfold hasB; rw [if_pos h0]; rfl
  rw [hE]
  obtain ⟨nm, o⟩ := i
  dsimp only at h0
  subst h0
  unfold Item.val One.val Item.cells One.cells at *
  cases hd : decide (o = u)
  all_goals
   dsimp only at *
   go_enter Tryd.func48, Tryd.ntmps48
   go_wp2_with fail
   go_ret
   exact ⟨rfl, hb3.out⟩
 ·obtain ⟨nm, o⟩ := i
  dsimp only at h1 h2 h3
  obtain ⟨b, rfl⟩ : ∃ b, nm = b + 65 := ⟨nm - 65, by omega⟩
  have hb26 : b < 26 := by omega
  rw [hasB_pcs (i := ⟨b + 65, o⟩) rfl]
  have hcast : (((b + 65 : Nat)) : Int) = (b : Int) + 65 := by omega
  unfold Item.val One.val Item.cells One.cells at *
  dsimp only at *
  rw [hcast] at KB hb3 H ⊢
  have hb4 := hid hb3.out.size
  obtain ⟨Vc, v, e2, e3, e4, e5⟩ := H.out.ex
  obtain ⟨f1, f2, f3, f4⟩ := e3 b hb26
  obtain ⟨L, hL⟩ : ∃ L, x.pcs b = L := ⟨_, rfl⟩
  rw [hL] at f4 ⊢
  obtain ⟨n, hnn⟩ : ∃ n, L.length = n := ⟨_, rfl⟩
  rw [hnn] at f4
  obtain ⟨pv, cv, hv⟩ := own_shape f4
  rw [hv] at f3 f4
  have k1 := KB.out.cell f3
  have kf := KB.out.froz
  have HNN := hid hnn
  have HN9 : Hid (n ≤ 64) := by
   rw [← hnn, ← hL]
   unfold Rs.pcs
   cases hc : x.cls b with
   | none => exact hid (Nat.zero_le _)
   | some y => exact hid (g.c b y hc).1
  have HO := hid (own_oneR (by rw [hnn]; exact f4))
  have qn2 : (((b : Int) + 65) == 0) = false := beq_false_of (by omega)
  have qw : IntKind.u8.wrap ((b : Int) + 65 - 65) = b := by rw [Int.add_sub_cancel]; exact IntWalk.u8_in _ (by omega)
  have qw2 : IntKind.u8.wrap (b : Int) = b := Wu8 (by omega)
  have qb : (b : Int) < 26 := by omega
  clear H e2 e3 e4 e5 f1 f2 f3 f4 hL hv hnn h1 h2 h3 hi
  go_enter Tryd.func48, Tryd.ntmps48
  go_wp2_with fail
  have KU := hid (Blk.new ((w.alloc (.cells c 31)).alloc (.cells #[.int .u8 ((b : Int) + 65), .int .i32 o.r, .bool o.br, .int .u8 o.b] 120)) 98 #[.int .i32 u.r, .bool u.br, .int .u8 u.b])
  have hsz : ((w.alloc (.cells c 31)).alloc (.cells #[.int .u8 ((b : Int) + 65), .int .i32 o.r, .bool o.br, .int .u8 o.b] 120)).heap.size = w.heap.size + 1 + 1 := by simp
  rw [hsz] at KU
  have u0 := KU.out.cell (k := 0) rfl
  have u1 := KU.out.cell (k := 1) rfl
  have u2 := KU.out.cell (k := 2) rfl
  have uf := KU.out.froz
  clear hsz k1 kf KU KB
  generalize ((w.alloc (.cells c 31)).alloc (.cells #[.int .u8 ((b : Int) + 65), .int .i32 o.r, .bool o.br, .int .u8 o.b] 120)).alloc (.cells #[.int .i32 u.r, .bool u.br, .int .u8 u.b] 98) = W0 at *
  go_loopw [8] (fun v wr => ∃ i : Nat, i ≤ n ∧ v = .int .i64 i ∧ Hid ((L.take i).contains u = false) ∧ ∃ d, wr = W0.drewN d) (fun v _ => n - (RowKit.intOf v).toNat)
  case atStart => exact ⟨0, Nat.zero_le _, rfl, hid (by simp), 0, rfl⟩
  case round =>
   obtain ⟨i, hi2, rfl, hT, d, rfl⟩ := hrel
   have hw1 : IntKind.i64.wrap ((i : Int) + 1) = (i : Int) + 1 := IntWalk.i64_in _ (by have := HN9.out; omega)
   by_cases hlt : i < n
   ·have q1 := dT (show (i : Int) < n by omega)
    have q2 : (i : Int) < n := by omega
    obtain ⟨a, ha⟩ : ∃ a, L[i]? = some a := ⟨_, List.getElem?_eq_getElem (by rw [HNN.out]; exact hlt)⟩
    obtain ⟨g1, o1, rfl, a0, a1, a2⟩ := HO.out.at ha
    have HA := hid ha
    clear ha
    by_cases hab : a = u
    ·have hE : Hid (L.contains u = true) := hid (cont_hit (by rw [← hab]; exact HA.out))
     subst hab
     go_wp2_with fail
     go_quiet (fail)
     go_wp2_with fail
     go_ret
     exact ⟨by rw [hE.out]; rfl, bel_dr (bel_dr hb3.out _) _⟩
    ·have q3 : decide (a = u) = false := decide_eq_false hab
     have hT5 := hid (cont_step HA.out hab hT.out)
     clear hab hT
     go_wp2_with fail
     go_quiet (fail)
     go_wp2_with fail
     go_roundw
     case rel => exact ⟨i + 1, by omega, by go_num, hT5, _, rfl⟩
     case measure => simp [RowKit.intOf] <;> omega
   ·obtain rfl : i = n := by omega
    have q1 : decide ((i : Int) < i) = false := by simp
    have hE : Hid (L.contains u = false) := hid (by have := hT.out; rw [List.take_of_length_le (by rw [HNN.out]; exact Nat.le_refl _)] at this; exact this)
    go_wp2_with fail
    go_ret
    exact ⟨by rw [hE.out]; rfl, bel_dr hb3.out _⟩
end Go.Proofs.YtieifhfgedoiaaaDoor
/- Whether a rule fits at a piece: the document's hand. Conditions: those of each theorem. -/
namespace Go.Proofs.YtieifhfgedoiaaaDoor
open Go.RowKit Go.Lib
set_option linter.unusedVariables false
set_option linter.unusedSimpArgs false
attribute [local go_sem] ExtS.cell ExtS.froz upE_value upE_skip upE_enter Ext.cell Ext.froz one_neq
def preD (u : Rl) (W : List One) (k : Nat) : Bool :=
 decide (u.left.length ≤ k) && decide (k + u.body.length + u.right.length ≤ W.length) && (!u.begins || decide (k = u.left.length)) && (!u.ends || decide (k + u.body.length + u.right.length = W.length))
theorem fitB_preD (x : Rs) (u : Rl) (W : List One) (k : Nat) : fitB x u W k = (preD u W k && ((W.drop k).take u.body.length == u.body) && leftB x u.left W (k - u.left.length) u.left.length && leftB x u.right W (k + u.body.length) u.right.length) := rfl
set_option maxRecDepth 100000 in
set_option maxHeartbeats 8000000 in
theorem fit30 {w : World} {base : Nat} {c : Array Value} {x : Rs} (hX : DVal w base c x) (gx : RsG x) {u : Rl} {p1 p2 p3 p4 : Option Addr} {c1 c2 c3 c4 : Nat} (g : RlG x.said u)
  (h1 : ItemR w p1 u.left) (h2 : ItemR w p2 u.right) (h3 : OneR w p3 u.body)
  (W : List One) {pu : Option Addr} {cu : Nat} (hW : OneR w pu W) (hn : W.length ≤ 100000000) (k : Nat) (hk : k ≤ W.length) :
  Calls Tryd.prog 30 #[.agg c, .agg #[.string u.line, .bool u.begins, .slice p1 u.left.length c1, .slice p3 u.body.length c3, .slice p2 u.right.length c2, .bool u.ends, .slice p4 u.phones.length c4], .slice pu W.length cu, .int .i64 k] w
   fun e w' => e = .returned (.bool (fitB x u W k)) ∧ Below w.heap.size w w' := by
 rw [fitB_preD]
 have hV1 := hX.one
 have hi31 : (Tryd.prog.info? 31).map (·.size) = some c.size := by rw [hV1.1]; kernel_rfl
 obtain ⟨pre, hpre⟩ : ∃ pre, preD u W k = pre := ⟨_, rfl⟩
 rw [hpre]
 unfold preD at hpre
 have g1 := g.ln
 have g2 := g.rn
 have g3 := g.b1
 have g4 := g.bn
 obtain ⟨n, hnn⟩ : ∃ n, W.length = n := ⟨_, rfl⟩
 obtain ⟨ll, hll⟩ : ∃ ll, u.left.length = ll := ⟨_, rfl⟩
 obtain ⟨rl, hrl⟩ : ∃ rl, u.right.length = rl := ⟨_, rfl⟩
 obtain ⟨bl, hbl⟩ : ∃ bl, u.body.length = bl := ⟨_, rfl⟩
 obtain ⟨pl, hpl⟩ : ∃ pl, u.phones.length = pl := ⟨_, rfl⟩
 rw [hnn, hll, hrl, hbl, hpl]
 rw [hnn, hll, hrl, hbl] at hpre
 rw [hnn] at hn hk
 rw [hll] at g1
 rw [hrl] at g2
 rw [hbl] at g3 g4
 have hba : Below w.heap.size w (w.alloc (.cells c 31)) := (Below.refl _ _).alloc (Nat.le_refl _) _
 have hb1 := hid (hba.alloc hba.size (.cells #[.string u.line, .bool u.begins, .slice p1 ll c1, .slice p3 bl c3, .slice p2 rl c2, .bool u.ends, .slice p4 pl c4] 43))
 have KB := hid ((Blk.new w 31 c).alloc (.cells #[.string u.line, .bool u.begins, .slice p1 ll c1, .slice p3 bl c3, .slice p2 rl c2, .bool u.ends, .slice p4 pl c4] 43))
 have KR := hid (Blk.new (w.alloc (.cells c 31)) 43 #[.string u.line, .bool u.begins, .slice p1 ll c1, .slice p3 bl c3, .slice p2 rl c2, .bool u.ends, .slice p4 pl c4])
 have HX := hid (hX.low hb1.out)
 have H1 := hid (h1.low hb1.out)
 have H2 := hid (h2.low hb1.out)
 have H3 := hid (h3.low hb1.out)
 have HW := hid (hW.low hb1.out)
 have HG := hid g
 have HNN := hid hnn
 have HLL := hid hll
 have HRL := hid hrl
 have HBL := hid hbl
 have hsz : (w.alloc (.cells c 31)).heap.size = w.heap.size + 1 := by simp
 rw [hsz] at KR
 have y1 := KR.out.cell (k := 1) rfl
 have y2 := KR.out.cell (k := 2) rfl
 have y3 := KR.out.cell (k := 3) rfl
 have y4 := KR.out.cell (k := 4) rfl
 have y5 := KR.out.cell (k := 5) rfl
 have yf := KR.out.froz
 have hF2 : IntKind.i64.wrap ((k : Int) - (ll : Int)) = (k : Int) - ll := Wi64 (by omega)
 have hw2 : IntKind.i64.wrap ((k : Int) + (bl : Int)) = (k : Int) + bl := Wi64 (by omega)
 have hw3 : IntKind.i64.wrap ((k : Int) + (bl : Int) + (rl : Int)) = (k : Int) + bl + rl := Wi64 (by omega)
 clear hX h1 h2 h3 hW g hnn hll hrl hbl hpl hba hsz
 go_enter Tryd.func30, Tryd.ntmps30
 go_upto_region 4 with fail
 generalize (w.alloc (.cells c 31)).alloc (.cells #[.string u.line, .bool u.begins, .slice p1 ll c1, .slice p3 bl c3, .slice p2 rl c2, .bool u.ends, .slice p4 pl c4] 43) = W0 at *
 go_cut [55] (fun v wd => v = .bool (!pre) ∧ wd = W0)
 case first =>
  by_cases ha : k < ll
  ·have qa := dT (show (k : Int) - ll < 0 by omega)
   obtain rfl : pre = false := by rw [← hpre, decide_eq_false (show ¬ ll ≤ k by omega)]; rfl
   go_wp2_with fail
   go_meet
   first | exact ⟨rfl, rfl⟩ | exact ⟨rfl, trivial⟩
  have qa := dF (show ¬ ((k : Int) - ll < 0) by omega)
  have pa := dT (show ll ≤ k by omega)
  by_cases hb : n < k + bl + rl
  ·have qb := dT (show (n : Int) < (k : Int) + bl + rl by omega)
   obtain rfl : pre = false := by rw [← hpre, decide_eq_false (show ¬ k + bl + rl ≤ n by omega), pa]; rfl
   go_wp2_with fail
   go_meet
   first | exact ⟨rfl, rfl⟩ | exact ⟨rfl, trivial⟩
  have qb := dF (show ¬ ((n : Int) < (k : Int) + bl + rl) by omega)
  have pb := dT (show k + bl + rl ≤ n by omega)
  rw [pa, pb] at hpre
  obtain ⟨f, hf⟩ : ∃ f, decide (ll < k) = f := ⟨_, rfl⟩
  obtain ⟨e, he⟩ : ∃ e, decide (k + bl + rl < n) = e := ⟨_, rfl⟩
  have hf3 : decide ((0 : Int) < (k : Int) - ll) = f := by rw [← hf]; exact decide_eq_decide.2 (by omega)
  have he3 : decide ((k : Int) + bl + rl < n) = e := by rw [← he]; exact decide_eq_decide.2 (by omega)
  have hf2 : decide (k = ll) = !f := by
   rw [← hf]
   by_cases h : k = ll
   ·rw [decide_eq_true h, decide_eq_false (by omega)]; rfl
   ·rw [decide_eq_false h, decide_eq_true (show ll < k by omega)]; rfl
  have he2 : decide (k + bl + rl = n) = !e := by
   rw [← he]
   by_cases h : k + bl + rl = n
   ·rw [decide_eq_true h, decide_eq_false (show ¬ k + bl + rl < n by omega)]; rfl
   ·rw [decide_eq_false h, decide_eq_true (show k + bl + rl < n by omega)]; rfl
  obtain ⟨bb, hbb⟩ : ∃ bb, u.begins = bb := ⟨_, rfl⟩
  obtain ⟨en, hen⟩ : ∃ en, u.ends = en := ⟨_, rfl⟩
  rw [hbb, hen, hf2, he2] at hpre
  rw [hbb] at y1
  rw [hen] at y5
  have hp2 : Hid (pre = ((!bb || !f) && (!en || !e))) := by rw [← hpre]; exact hid (by rw [Bool.true_and, Bool.true_and])
  clear hbb hen hpre hf2 he2
  cases bb <;> cases f <;> cases en <;> cases e
  all_goals
   have hp3 := hp2.out
   simp only [Bool.not_true, Bool.not_false, Bool.or_true, Bool.or_false, Bool.true_or, Bool.and_true, Bool.and_false, Bool.true_and, Bool.false_and, Bool.or_self, Bool.and_self] at hp3
   subst hp3
   clear hp2
   go_wp2_with fail
   go_meet
   first | exact ⟨rfl, rfl⟩ | exact ⟨rfl, trivial⟩
 case rest =>
  obtain ⟨rfl, rfl⟩ := hcut
  cases pre with
  | false =>
   go_wp2_with fail
   go_ret
   exact ⟨rfl, hb1.out⟩
  | true =>
   simp only [Bool.and_eq_true, decide_eq_true_eq] at hpre
   obtain ⟨⟨⟨m1, m2⟩, _⟩, _⟩ := hpre
   obtain ⟨f0, hf0⟩ : ∃ f0 : Nat, k = f0 + ll := ⟨k - ll, by omega⟩
   have hFk : (k : Int) - ll = f0 := by omega
   have hE1 : Hid (k - ll = f0) := hid (by omega)
   clear hF2 hw2 hw3 hf0
   generalize wc = W1 at *
   rw [hFk, show (!true) = false from rfl]
   have HFK := hid (show f0 + ll = k by omega)
   clear hFk
   go_wp2_with fail
   go_loopw [12] (fun v wr => ∃ i : Nat, i ≤ ll ∧ v = .int .i64 i ∧ Hid (leftB x u.left W f0 i = true) ∧ Hid (Below W1.heap.size W1 wr)) (fun v _ => ll - (RowKit.intOf v).toNat)
   case atStart => exact ⟨0, Nat.zero_le _, rfl, hid rfl, hid (Below.refl _ _)⟩
   case round =>
    clear y1 y2 y3 y4 y5 yf
    obtain ⟨i, hi, rfl, hT, hB⟩ := hrel
    have hw1 : IntKind.i64.wrap ((i : Int) + 1) = (i : Int) + 1 := Wi64 (by omega)
    have hbr := hid (hb1.out.trans (hB.out.mono hb1.out.size))
    have KR2 := hid (KR.out.low hB.out)
    have y2 := KR2.out.cell (k := 2) rfl
    have yf := KR2.out.froz
    by_cases hlt : i < ll
    ·have q1 := dT (show (i : Int) < ll by omega)
     have q2 : (i : Int) < ll := by omega
     have hfk := HFK.out
     have q3 : IntKind.i64.wrap ((f0 : Int) + i) = (f0 : Int) + i := Wi64 (by omega)
     have q4 : (0 : Int) ≤ (f0 : Int) + i := by omega
     have q5 : (f0 : Int) + i < n := by omega
     have q6 : ((f0 : Int) + i).toNat = f0 + i := by omega
     obtain ⟨it, hit⟩ : ∃ it, u.left[i]? = some it := ⟨_, List.getElem?_eq_getElem (by rw [HLL.out]; exact hlt)⟩
     obtain ⟨o, ho⟩ : ∃ o, W[f0 + i]? = some o := ⟨_, List.getElem?_eq_getElem (by rw [HNN.out]; omega)⟩
     clear hfk
     obtain ⟨g1, rfl, hcell⟩ := (H1.out.low hB.out) (fun e => by rw [e] at hit; cases hit)
     obtain ⟨a0, a1, a2, a3⟩ := hcell i it hit
     have HX2 := hid (HX.out.low hB.out)
     have HW2 := hid (HW.out.low hB.out)
     have KB2 := hid (KB.out.low hB.out)
     have hIt : Hid (ItemG x.said it) := hid (HG.out.l it (List.mem_of_getElem? hit))
     have hC := hid (fun xx : Ext wr => has48 (HX2.out.low xx.h) gx it o hIt.out)
     have hst := hid (leftB_step (x := x) (k := f0) hit ho)
     rw [hT.out, Bool.true_and] at hst
     obtain ⟨hs, hhs⟩ : ∃ hs, hasB x it o = hs := ⟨_, rfl⟩
     rw [hhs] at hC hst
     obtain ⟨g2, o2, rfl, b0, b1, b2⟩ := HW2.out.at ho
     unfold Item.val One.val at *
     clear HX2 HW2 hit hcell hhs hIt ho
     go_wp2_with fail
     refine ext_all (by kernel_rfl) (by kernel_rfl) ?_
     refine wpQuiet_load_row rfl 31 _ rfl w.heap.size rfl 31 c (0, 0) _ (fun w hw => by obtain ⟨xx, rfl⟩ := hw; exact KB2.out.low xx.h) Tryd.underlying31 rfl hi31 ?_
     go_simp
     repeat (go_big_quiet_step (with_reducible exact Ext.call (hC.out _)))
     refine wpQuiet_nil ?_
     first | rintro _ ⟨xx, rfl⟩ | intro xx
     have hB5 := hid (bnext hB.out xx.h)
     have hb5 := hid (bnext hbr.out xx.h)
     generalize xx.w = W5 at *
     clear hC hB hbr a0 a1 a2 a3 b0 b1 b2 y2 yf KR2 KB2
     cases hs with
     | false =>
      have hF := hid (leftB_down (ll - (i + 1)) _ hst)
      rw [show i + 1 + (ll - (i + 1)) = ll by omega] at hF
      go_wp2_with fail
      go_ret
      exact ⟨by rw [hE1.out, hF.out, Bool.and_false, Bool.false_and]; rfl, hb5.out⟩
     | true =>
      go_wp2_with fail
      go_roundw
      case rel => exact ⟨i + 1, by omega, by go_num, hst, hB5⟩
      case measure => simp [RowKit.intOf] <;> omega
    ·obtain rfl : i = ll := by omega
     have q1 : decide ((i : Int) < i) = false := by simp
     go_wp2_with fail
     go_loopw [13] (fun v wr2 => ∃ j : Nat, j ≤ bl ∧ v = .int .i64 j ∧ Hid (((W.drop k).take bl).take j = u.body.take j) ∧ Hid (Below W1.heap.size W1 wr2)) (fun v _ => bl - (RowKit.intOf v).toNat)
     case atStart => exact ⟨0, Nat.zero_le _, rfl, hid rfl, hB⟩
     case round =>
      clear y2 yf KR2 hbr hB
      obtain ⟨j, hj, rfl, hS, hB⟩ := hrel
      have hw1 : IntKind.i64.wrap ((j : Int) + 1) = (j : Int) + 1 := Wi64 (by omega)
      have hbr := hid (hb1.out.trans (hB.out.mono hb1.out.size))
      have KR2 := hid (KR.out.low hB.out)
      have y3 := KR2.out.cell (k := 3) rfl
      have yf := KR2.out.froz
      have l1 : ((W.drop k).take bl).length = bl := by rw [List.length_take, List.length_drop, HNN.out]; omega
      have HL1 := hid l1
      clear l1
      by_cases hlt : j < bl
      ·have q1 := dT (show (j : Int) < bl by omega)
       have q2 : (j : Int) < bl := by omega
       have q3 : IntKind.i64.wrap ((k : Int) + j) = (k : Int) + j := Wi64 (by omega)
       have q4 : (0 : Int) ≤ (k : Int) + j := by omega
       have q5 : (k : Int) + j < n := by omega
       have q6 : ((k : Int) + j).toNat = k + j := by omega
       obtain ⟨a, ha⟩ : ∃ a, u.body[j]? = some a := ⟨_, List.getElem?_eq_getElem (by rw [HBL.out]; exact hlt)⟩
       obtain ⟨o, ho⟩ : ∃ o, W[k + j]? = some o := ⟨_, List.getElem?_eq_getElem (by rw [HNN.out]; omega)⟩
       have HA := hid ha
       have HO2 : Hid (((W.drop k).take bl)[j]? = some o) := by rw [List.getElem?_take, if_pos hlt, List.getElem?_drop]; exact hid ho
       have HW2 := hid (HW.out.low hB.out)
       have H32 := hid (H3.out.low hB.out)
       obtain ⟨g2, o2, rfl, b0, b1, b2⟩ := HW2.out.at ho
       obtain ⟨g3, o3, rfl, a0, a1, a2⟩ := H32.out.at ha
       clear ha ho HW2 H32
       by_cases hab : a = o
       ·have hS5 := hid (take_snoc hS.out HO2.out (by rw [HA.out, hab]))
        subst hab
        go_wp2_with fail
        go_quiet (fail)
        have hB5 := hid (bel_dr hB.out nq)
        go_wp2_with fail
        go_roundw
        case rel => exact ⟨j + 1, by omega, by go_num, hS5, hB5⟩
        case measure => simp [RowKit.intOf] <;> omega
       ·have q7 : decide (a = o) = false := decide_eq_false hab
        have hE2 := hid (eq_take (by rw [HL1.out, HBL.out]) HO2.out HA.out (fun e => hab e.symm))
        clear hab
        go_wp2_with fail
        go_quiet (fail)
        go_wp2_with fail
        go_ret
        exact ⟨by rw [hE2.out, Bool.and_false, Bool.false_and, Bool.false_and]; rfl, bel_dr hbr.out _⟩
      ·obtain rfl : j = bl := by omega
       have q1 : decide ((j : Int) < j) = false := by simp
       have hE2 : Hid (((W.drop k).take j == u.body) = true) := hid (eq_all (by rw [HL1.out, HBL.out]) (by rw [HL1.out]; exact hS.out))
       go_wp2_with fail
       go_loopw [14] (fun v wr2 => ∃ i : Nat, i ≤ rl ∧ v = .int .i64 i ∧ Hid (leftB x u.right W (k + j) i = true) ∧ Hid (Below W1.heap.size W1 wr2)) (fun v _ => rl - (RowKit.intOf v).toNat)
       case atStart => exact ⟨0, Nat.zero_le _, rfl, hid rfl, hB⟩
       case round =>
        clear y3 yf KR2 hbr hB hS
        obtain ⟨i, hi, rfl, hS, hB⟩ := hrel
        have hw1 : IntKind.i64.wrap ((i : Int) + 1) = (i : Int) + 1 := Wi64 (by omega)
        have hbr := hid (hb1.out.trans (hB.out.mono hb1.out.size))
        have KR2 := hid (KR.out.low hB.out)
        have y4 := KR2.out.cell (k := 4) rfl
        have yf := KR2.out.froz
        by_cases hlt : i < rl
        ·have q1 := dT (show (i : Int) < rl by omega)
         have q2 : (i : Int) < rl := by omega
         have q3 : IntKind.i64.wrap ((k : Int) + j + i) = (k : Int) + j + i := Wi64 (by omega)
         have q4 : (0 : Int) ≤ (k : Int) + j + i := by omega
         have q5 : (k : Int) + j + i < n := by omega
         have q6 : ((k : Int) + j + i).toNat = k + j + i := by omega
         obtain ⟨it, hit⟩ : ∃ it, u.right[i]? = some it := ⟨_, List.getElem?_eq_getElem (by rw [HRL.out]; exact hlt)⟩
         obtain ⟨o, ho⟩ : ∃ o, W[k + j + i]? = some o := ⟨_, List.getElem?_eq_getElem (by rw [HNN.out]; omega)⟩
         obtain ⟨g1, rfl, hcell⟩ := (H2.out.low hB.out) (fun e => by rw [e] at hit; cases hit)
         obtain ⟨a0, a1, a2, a3⟩ := hcell i it hit
         have HX2 := hid (HX.out.low hB.out)
         have HW2 := hid (HW.out.low hB.out)
         have KB2 := hid (KB.out.low hB.out)
         have hIt : Hid (ItemG x.said it) := hid (HG.out.r it (List.mem_of_getElem? hit))
         have hC := hid (fun xx : Ext wr => has48 (HX2.out.low xx.h) gx it o hIt.out)
         have hst := hid (leftB_step (x := x) (k := k + j) hit ho)
         rw [hS.out, Bool.true_and] at hst
         obtain ⟨hs, hhs⟩ : ∃ hs, hasB x it o = hs := ⟨_, rfl⟩
         rw [hhs] at hC hst
         obtain ⟨g2, o2, rfl, b0, b1, b2⟩ := HW2.out.at ho
         unfold Item.val One.val at *
         clear HX2 HW2 hit hcell hhs hIt ho
         go_wp2_with fail
         refine ext_all (by kernel_rfl) (by kernel_rfl) ?_
         refine wpQuiet_load_row rfl 31 _ rfl w.heap.size rfl 31 c (0, 0) _ (fun w hw => by obtain ⟨xx, rfl⟩ := hw; exact KB2.out.low xx.h) Tryd.underlying31 rfl hi31 ?_
         go_simp
         repeat (go_big_quiet_step (with_reducible exact Ext.call (hC.out _)))
         refine wpQuiet_nil ?_
         first | rintro _ ⟨xx, rfl⟩ | intro xx
         have hB5 := hid (bnext hB.out xx.h)
         have hb5 := hid (bnext hbr.out xx.h)
         generalize xx.w = W5 at *
         clear hC hB hbr a0 a1 a2 a3 b0 b1 b2 y4 yf KR2 KB2
         cases hs with
         | false =>
          have hF := hid (leftB_down (rl - (i + 1)) _ hst)
          rw [show i + 1 + (rl - (i + 1)) = rl by omega] at hF
          go_wp2_with fail
          go_ret
          exact ⟨by rw [hF.out, Bool.and_false]; rfl, hb5.out⟩
         | true =>
          go_wp2_with fail
          go_roundw
          case rel => exact ⟨i + 1, by omega, by go_num, hst, hB5⟩
          case measure => simp [RowKit.intOf] <;> omega
        ·obtain rfl : i = rl := by omega
         have q1 : decide ((i : Int) < i) = false := by simp
         go_wp2_with fail
         go_ret
         exact ⟨by rw [hE2.out, hE1.out, hT.out, hS.out]; rfl, hbr.out⟩
end Go.Proofs.YtieifhfgedoiaaaDoor
