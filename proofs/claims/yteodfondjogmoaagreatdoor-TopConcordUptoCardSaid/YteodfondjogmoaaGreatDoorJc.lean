/- word's scanner tells the open token. Conditions: those of each theorem. -/
import Derived.Test.YteodfondjogmoaaGreatDoorTWe
import Derived.Test.YteodfondjogmoaaGreatDoorTWf
import Derived.Test.YteodfondjogmoaaGreatDoorTWc
import Derived.ScopeJumps
import Derived.OwnWalkIn
namespace Go.Proofs.YteodfondjogmoaaGreatDoor
open Go Go.RowKit Go.Lib Go.Shelf
set_option linter.unusedVariables false
set_option linter.unusedSimpArgs false
attribute [local go_sem] Oper.semAt_some
/-- a token -/
structure Tk where
  kd : Int
  f : Int
  t : Int
abbrev Tk.v (x : Tk) : Value := .agg #[.int .i64 x.kd, .int .i64 x.f, .int .i64 x.t]
abbrev Tk.cells (x : Tk) : Array Value := #[.int .i64 x.kd, .int .i64 x.f, .int .i64 x.t]
/-- the open token, and what waits behind it -/
def toks (sc : Sc) : List Tk := if sc.st = 0 then [] else if sc.st = 2 ∨ sc.st = 4 then [⟨sc.kd, sc.f, sc.t⟩, ⟨5, sc.h.f, sc.h.t⟩] else [⟨sc.kd, sc.f, sc.t⟩]
def EndPost (J Jx : List Tk → (Nat → Prop) → World → Prop) (T S2 : Nat → Prop) (all qs : List Tk) (W : World) (e : Ending) (W' : World) : Prop :=
  Kept T W W' ∧ ((e = .returned (.bool true) ∧ J qs S2 W') ∨ (e = .returned (.bool false) ∧ ∃ q, q <+: all ∧ Jx q S2 W'))
set_option maxHeartbeats 2000000 in
theorem end66_two (st : Int) (hst : st = 2 ∨ st = 4) (sc : Sc) (hs : sc.st = st) (b l : Nat) (J Jx : List Tk → (Nat → Prop) → World → Prop) (RR S2 : Nat → Prop) (all pre : List Tk) (W : World)
    (hB : Blk W b 256 sc.cells) (hS : S2 b) (hJ : J pre S2 W)
    (hY : ∀ pre' x W1, J pre' S2 W1 → W.heap.size ≤ W1.heap.size → pre' ++ [x] <+: all → YieldAt Fence.wide 8 Tryz.prog l #[x.v] W1 fun e W' =>
      Kept (fun k => RR k ∨ S2 k) W1 W' ∧ ((e = .returned (.bool true) ∧ J (pre' ++ [x]) S2 W') ∨ (e = .returned (.bool false) ∧ Jx (pre' ++ [x]) S2 W')))
    (hall : pre ++ toks sc <+: all) :
    CallsIn Fence.wide 9 Tryz.prog 165 #[.pointer (some ⟨b, 0, none⟩), .func (.yield l) #[] #[]] W (EndPost J Jx (fun k => RR k ∨ S2 k) S2 all (pre ++ toks sc) W) := by
  have hb := hB.lt
  obtain ⟨st', kd, f, t, h⟩ := sc
  obtain ⟨hk, hr, hf, ht, hal⟩ := h
  dsimp only at hs
  subst hs
  have hv : toks ⟨st', kd, f, t, ⟨hk, hr, hf, ht, hal⟩⟩ = [⟨kd, f, t⟩, ⟨5, hf, ht⟩] := by
    unfold toks; rcases hst with rfl | rfl <;> rfl
  rw [hv] at hall ⊢
  clear hv
  have hp1 : pre ++ [⟨kd, f, t⟩] <+: all := (show pre ++ [⟨kd, f, t⟩] <+: pre ++ [⟨kd, f, t⟩, ⟨5, hf, ht⟩] from ⟨[⟨5, hf, ht⟩], by simp⟩).trans hall
  have hp2 : (pre ++ [⟨kd, f, t⟩]) ++ [⟨5, hf, ht⟩] <+: all := by simpa using hall
  have c0 := hB.cell (k := 0) rfl
  have c1 := hB.cell (k := 1) rfl
  have c2 := hB.cell (k := 2) rfl
  have c3 := hB.cell (k := 3) rfl
  try dsimp only at c0 c1 c2 c3
  have HB := hid hB
  have HS := hid hS
  have HY := hid hY
  have HP1 := hid hp1
  have HP2 := hid hp2
  obtain ⟨fn, tmps, assign, body, hy, hR⟩ := hY pre ⟨kd, f, t⟩ W hJ (Nat.le_refl _) hp1
  change (Instr.yield l #[.agg #[.int .i64 kd, .int .i64 f, .int .i64 t]]).run Tryz.prog W = _ at hy
  have HR := hid hR
  clear hR hB hS hY hJ hp1 hp2 hall
  rcases hst with rfl | rfl
  all_goals
    refine callsIn_of_wp Tryz.func165 rfl trivial ?_ rfl
    simp only [Tryz.ntmps165, List.size_toArray, List.length_cons, List.length_nil, Nat.reduceAdd, Nat.reduceSub, Array.replicate_succ, Array.replicate_zero, List.push_toArray, List.append_toArray, List.nil_append, List.cons_append]
    gi_wp2_with fail
    refine (RoundIn.wide HR.out).mono ?_
    rintro e W2 ⟨hk2, (⟨rfl, hJ2⟩ | ⟨rfl, hJ2⟩)⟩
    · have B2 := HB.out.keep hk2 (.inr HS.out)
      have d6 := B2.cell (k := 6) rfl
      have d7 := B2.cell (k := 7) rfl
      try dsimp only at d6 d7
      have hs2 := hk2.size
      obtain ⟨fn2, tmps2, assign2, body2, hy2, hR2⟩ := HY.out _ ⟨5, hf, ht⟩ W2 hJ2 (by omega) HP2.out
      change (Instr.yield l #[.agg #[.int .i64 5, .int .i64 hf, .int .i64 ht]]).run Tryz.prog W2 = _ at hy2
      have HR2 := hid hR2
      have HK2 := hid hk2
      clear hR2 hy B2 hJ2 hk2 c0 c1 c2 c3
      gi_wp2_with fail
      refine (RoundIn.wide HR2.out).mono ?_
      rintro e W3 ⟨hk3, (⟨rfl, hJ3⟩ | ⟨rfl, hJ3⟩)⟩
      · have HK3 := hid hk3
        have HJ3 := hid hJ3
        clear hk3 hJ3 hy2
        gi_wp2_with fail
        go_ret
        exact ⟨HK2.out.trans HK3.out, .inl ⟨rfl, by have := HJ3.out; simpa using this⟩⟩
      · have HK3 := hid hk3
        have HJ3 := hid hJ3
        clear hk3 hJ3 hy2
        gi_wp2_with fail
        go_ret
        exact ⟨HK2.out.trans HK3.out, .inr ⟨rfl, _, HP2.out, HJ3.out⟩⟩
    · have HK2 := hid hk2
      have HJ2 := hid hJ2
      clear hk2 hJ2 hy
      gi_wp2_with fail
      refine ⟨fun _ h => (by cases h), ?_⟩
      gi_wp2_with fail
      go_ret
      exact ⟨HK2.out, .inr ⟨rfl, _, HP1.out, HJ2.out⟩⟩
set_option maxHeartbeats 2000000 in
theorem end66_one (sc : Sc) (h0 : ¬ sc.st = 0) (h2 : ¬ sc.st = 2) (h4 : ¬ sc.st = 4) (b l : Nat) (J Jx : List Tk → (Nat → Prop) → World → Prop) (RR S2 : Nat → Prop) (all pre : List Tk) (W : World)
    (hB : Blk W b 256 sc.cells) (hS : S2 b) (hJ : J pre S2 W)
    (hY : ∀ pre' x W1, J pre' S2 W1 → W.heap.size ≤ W1.heap.size → pre' ++ [x] <+: all → YieldAt Fence.wide 8 Tryz.prog l #[x.v] W1 fun e W' =>
      Kept (fun k => RR k ∨ S2 k) W1 W' ∧ ((e = .returned (.bool true) ∧ J (pre' ++ [x]) S2 W') ∨ (e = .returned (.bool false) ∧ Jx (pre' ++ [x]) S2 W')))
    (hall : pre ++ toks sc <+: all) :
    CallsIn Fence.wide 9 Tryz.prog 165 #[.pointer (some ⟨b, 0, none⟩), .func (.yield l) #[] #[]] W (EndPost J Jx (fun k => RR k ∨ S2 k) S2 all (pre ++ toks sc) W) := by
  have hb := hB.lt
  obtain ⟨st, kd, f, t, h⟩ := sc
  obtain ⟨hk, hr, hf, ht, hal⟩ := h
  dsimp only at h0 h2 h4
  have hv : toks ⟨st, kd, f, t, ⟨hk, hr, hf, ht, hal⟩⟩ = [⟨kd, f, t⟩] := by
    unfold toks; dsimp only; rw [if_neg h0, if_neg (by omega)]
  rw [hv] at hall ⊢
  clear hv
  have e0 := beq_f h0
  have e2 := beq_f h2
  have e4 := beq_f h4
  have c0 := hB.cell (k := 0) rfl
  have c1 := hB.cell (k := 1) rfl
  have c2 := hB.cell (k := 2) rfl
  have c3 := hB.cell (k := 3) rfl
  try dsimp only at c0 c1 c2 c3
  have HP1 := hid hall
  obtain ⟨fn, tmps, assign, body, hy, hR⟩ := hY pre ⟨kd, f, t⟩ W hJ (Nat.le_refl _) hall
  change (Instr.yield l #[.agg #[.int .i64 kd, .int .i64 f, .int .i64 t]]).run Tryz.prog W = _ at hy
  have HR := hid hR
  clear hR hB hS hY hJ hall
  refine callsIn_of_wp Tryz.func165 rfl trivial ?_ rfl
  simp only [Tryz.ntmps165, List.size_toArray, List.length_cons, List.length_nil, Nat.reduceAdd, Nat.reduceSub, Array.replicate_succ, Array.replicate_zero, List.push_toArray, List.append_toArray, List.nil_append, List.cons_append]
  gi_wp2_with fail
  refine (RoundIn.wide HR.out).mono ?_
  rintro e W2 ⟨hk2, (⟨rfl, hJ2⟩ | ⟨rfl, hJ2⟩)⟩
  all_goals
    have HK2 := hid hk2
    have HJ2 := hid hJ2
    clear hk2 hJ2 hy
    gi_wp2_with fail
    go_ret
  · exact ⟨HK2.out, .inl ⟨rfl, HJ2.out⟩⟩
  · exact ⟨HK2.out, .inr ⟨rfl, _, HP1.out, HJ2.out⟩⟩
theorem end66 (sc : Sc) (b l : Nat) (J Jx : List Tk → (Nat → Prop) → World → Prop) (RR S2 : Nat → Prop) (all pre : List Tk) (W : World)
    (hB : Blk W b 256 sc.cells) (hS : S2 b) (hJ : J pre S2 W)
    (hY : ∀ pre' x W1, J pre' S2 W1 → W.heap.size ≤ W1.heap.size → pre' ++ [x] <+: all → YieldAt Fence.wide 8 Tryz.prog l #[x.v] W1 fun e W' =>
      Kept (fun k => RR k ∨ S2 k) W1 W' ∧ ((e = .returned (.bool true) ∧ J (pre' ++ [x]) S2 W') ∨ (e = .returned (.bool false) ∧ Jx (pre' ++ [x]) S2 W')))
    (hall : pre ++ toks sc <+: all) :
    CallsIn Fence.wide 9 Tryz.prog 165 #[.pointer (some ⟨b, 0, none⟩), .func (.yield l) #[] #[]] W (EndPost J Jx (fun k => RR k ∨ S2 k) S2 all (pre ++ toks sc) W) := by
  by_cases h0 : sc.st = 0
  · have hv : toks sc = [] := by unfold toks; rw [if_pos h0]
    rw [hv, List.append_nil]
    obtain ⟨st, kd, f, t, h⟩ := sc
    dsimp only at h0
    subst h0
    have c0 := hB.cell (k := 0) (v := .int .i64 0) rfl
    have HJ := hid hJ
    clear hB hJ hY hall hv
    refine callsIn_of_wp Tryz.func165 rfl trivial ?_ rfl
    simp only [Tryz.ntmps165, List.size_toArray, List.length_cons, List.length_nil, Nat.reduceAdd, Nat.reduceSub, Array.replicate_succ, Array.replicate_zero, List.push_toArray, List.append_toArray, List.nil_append, List.cons_append]
    gi_wp2_with fail
    go_ret
    exact ⟨Kept.refl _ _, .inl ⟨rfl, HJ.out⟩⟩
  by_cases h2 : sc.st = 2
  · exact end66_two 2 (.inl rfl) sc h2 b l J Jx RR S2 all pre W hB hS hJ hY hall
  by_cases h4 : sc.st = 4
  · exact end66_two 4 (.inr rfl) sc h4 b l J Jx RR S2 all pre W hB hS hJ hY hall
  exact end66_one sc h0 h2 h4 b l J Jx RR S2 all pre W hB hS hJ hY hall
end Go.Proofs.YteodfondjogmoaaGreatDoor
/- A scope, inside a fence or a round, out of which the run may jump ahead to one label. Conditions: those of each theorem. -/
namespace Go.Proofs.YteodfondjogmoaaGreatDoor
open Go
set_option linter.unusedVariables false
section
variable {F : Fence} {n : Nat} {P : Program} {b : Frame} {a : Act} {k : List Item} {cs : List Frame} {w : World} {Q : Exit → Act → World → Prop} {l : Nat} {J : Act → World → Prop}
theorem stepR_scope {c : Code} : step P (lone (b.atR a (.code (.scope c) :: k)) cs w) = .next (lone (b.atR a (.code c :: .inScope c :: k)) cs w) :=
  step_lone_go (by simp [stepG, stepG.exec, Frame.atR])
theorem stepR_inScope {c : Code} : step P (lone (b.atR a (.inScope c :: k)) cs w) = .next (lone (b.atR a k) cs w) :=
  step_lone_go (by simp [stepG, stepG.exec, Frame.atR])
theorem jump_normal : Exit.jump l J Q .normal a w = Q .normal a w := rfl
theorem jump_exit (id : Nat) : Exit.jump l J Q (.exit id) a w = Q (.exit id) a w := rfl
theorem jump_ret : Exit.jump l J Q .ret a w = Q .ret a w := rfl
theorem jump_panic (ch : List PanicEntry) : Exit.jump l J Q (.panic ch) a w = Q (.panic ch) a w := rfl
/-- what stands behind the label, from a frame on -/
structure AheadIn (F : Fence) (n : Nat) (P : Program) (rest : Code) (Q : Exit → Act → World → Prop) (a : Act) (w : World) : Prop where
  out : rest.wpIn F n P (Exit.noGoto Q) a w
theorem wpIn_scope_ahead {c rest : Code} (l : Nat) (hf : findLabel c l = some rest) (h : c.wpIn F n P (Exit.jump l (AheadIn F n P rest Q) Q) a w) : (Code.scope c).wpIn F n P Q a w := by
  intro b k cs hro hb hr
  have hg : gotoIn l (.inScope c :: k) = some (.code rest :: .inScope c :: k) := by simp [gotoIn, hf]
  have h0 : (lone (b.atR a (.code (.scope c) :: k)) cs w).fenced P F := fenced_calm hb hr rfl
  have close : ∀ (m : Machine) (e : Exit) (a₁ : Act) (w₁ : World), Exit.noGoto Q e a₁ w₁ → ArrivesIn (Machine.fenced P F) P m b (.inScope c :: k) cs e a₁ w₁ → ∃ e a' w', Q e a' w' ∧ ArrivesIn (Machine.fenced P F) P m b k cs e a' w' := by
    intro m e a₁ w₁ hq harr
    cases e with
    | normal => exact ⟨.normal, a₁, w₁, hq, StepsIn.trans harr (.one (fenced_calm hb hr rfl) stepR_inScope)⟩
    | exit id =>
      have hx : exitTo id (.inScope c :: k) = exitTo id k := by simp [exitTo]
      exact ⟨.exit id, a₁, w₁, hq, fun k' hk => harr.1 k' (by rw [hx]; exact hk), fun hr' hk => harr.2 hr' (by rw [hx]; exact hk)⟩
    | goto l' => exact hq.elim
    | ret => exact ⟨_, a₁, w₁, hq, harr⟩
    | panic ch => exact ⟨_, a₁, w₁, hq, harr⟩
    | outgrown => exact ⟨_, a₁, w₁, hq, harr⟩
  have front : ∀ {e : Exit} {a₁ : Act} {w₁ : World}, ArrivesIn (Machine.fenced P F) P (lone (b.atR a (.code c :: .inScope c :: k)) cs w) b k cs e a₁ w₁ → ArrivesIn (Machine.fenced P F) P (lone (b.atR a (.code (.scope c) :: k)) cs w) b k cs e a₁ w₁ :=
    fun h => .of_steps (.one h0 stepR_scope) h
  obtain ⟨e, a₁, w₁, hq, harr⟩ := h b (.inScope c :: k) cs hro hb hr
  cases e with
  | goto l' =>
    obtain ⟨rfl, hJ⟩ := hq
    obtain ⟨e₂, a₂, w₂, hq₂, harr₂⟩ := hJ.out b (.inScope c :: k) cs hro hb hr
    obtain ⟨e₃, a₃, w₃, hq₃, harr₃⟩ := close _ e₂ a₂ w₂ hq₂ harr₂
    exact ⟨e₃, a₃, w₃, hq₃, front (.of_steps (harr.1 _ hg) harr₃)⟩
  | normal => obtain ⟨e₃, a₃, w₃, hq₃, harr₃⟩ := close _ .normal a₁ w₁ hq harr; exact ⟨e₃, a₃, w₃, hq₃, front harr₃⟩
  | exit id => obtain ⟨e₃, a₃, w₃, hq₃, harr₃⟩ := close _ (.exit id) a₁ w₁ hq harr; exact ⟨e₃, a₃, w₃, hq₃, front harr₃⟩
  | ret => obtain ⟨e₃, a₃, w₃, hq₃, harr₃⟩ := close _ .ret a₁ w₁ hq harr; exact ⟨e₃, a₃, w₃, hq₃, front harr₃⟩
  | panic ch => obtain ⟨e₃, a₃, w₃, hq₃, harr₃⟩ := close _ (.panic ch) a₁ w₁ hq harr; exact ⟨e₃, a₃, w₃, hq₃, front harr₃⟩
  | outgrown => obtain ⟨e₃, a₃, w₃, hq₃, harr₃⟩ := close _ .outgrown a₁ w₁ hq harr; exact ⟨e₃, a₃, w₃, hq₃, front harr₃⟩
end
end Go.Proofs.YteodfondjogmoaaGreatDoor
/- word.Scan: a text's tokens, as an iterator. Conditions: those of each theorem. -/
namespace Go.Proofs.YteodfondjogmoaaGreatDoor
open Go Go.RowKit Go.Lib Go.Shelf
set_option linter.unusedVariables false
set_option linter.unusedSimpArgs false
attribute [local go_sem] Oper.semAt_some
theorem SeqS.wide {α : Type} {n : Nat} {P : Program} {g : Nat} {lb : Array Value} {encs : α → Array Value} {R : Nat → Prop} {all : List α} {w : World} (h : SeqS Fence.wide n P g lb encs R all w) (m : Nat) : SeqS Fence.wide m P g lb encs R all w := fun l J Jx W hW hJ hX hY h0 =>
  callsIn_wide.2 (callsIn_wide.1 (h l J Jx W hW hJ hX (fun pre S x W1 a b c d => YieldAt.wide _ (hY pre S x W1 a b c d)) h0))
/-- one unit more: what has been told, and the scanner -/
def sStep (st : List Tk × Sc) (u : Un) : List Tk × Sc :=
  if (fitsU st.2 u).2 = 2 then (st.1, (fitsU st.2 u).1)
  else if (fitsU st.2 u).2 = 1 then (st.1, { (fitsU st.2 u).1 with t := u.t })
  else (st.1 ++ toks (fitsU st.2 u).1, beginU u (fitsU st.2 u).1.h)
def sFold (us : List Un) : List Tk × Sc := us.foldl sStep ([], ⟨0, 0, 0, 0, ⟨0, 0, 0, 0, false⟩⟩)
def scanL (s : ByteArray) : List Tk := (sFold (unitsL s)).1 ++ toks (sFold (unitsL s)).2
theorem sFold_snoc (pre : List Un) (x : Un) : sFold (pre ++ [x]) = sStep (sFold pre) x := by unfold sFold; rw [List.foldl_append]; rfl
theorem sStep_pre (st : List Tk × Sc) (x : Un) : st.1 <+: (sStep st x).1 := by
  unfold sStep
  split
  · exact List.prefix_rfl
  · split
    · exact List.prefix_rfl
    · exact List.prefix_append _ _
theorem sFold_pre : ∀ (pre q : List Un), (sFold pre).1 <+: (sFold (pre ++ q)).1
  | pre, [] => by rw [List.append_nil]; exact List.prefix_rfl
  | pre, x :: q => by
    have h := sFold_pre (pre ++ [x]) q
    rw [List.append_assoc] at h
    exact ((sFold_snoc pre x ▸ sStep_pre (sFold pre) x : (sFold pre).1 <+: (sFold (pre ++ [x])).1)).trans h
theorem scanL_pre (s : ByteArray) {pre : List Un} (h : pre <+: unitsL s) : (sFold pre).1 <+: scanL s := by
  obtain ⟨q, hq⟩ := h
  have h1 := sFold_pre pre q
  rw [hq] at h1
  exact h1.trans (List.prefix_append _ _)
theorem scan49 (s : ByteArray) (w : World) : Calls Tryz.prog 128 #[.string s] w fun e w' => e = .returned (.func (.func 162) #[] #[.pointer (some ⟨w.heap.size, 0, none⟩)]) ∧ w' = w.alloc (.cells #[.string s] 9) := by
  go_enter Tryz.func128, Tryz.ntmps128
  go_wp2_with fail
  go_ret
  exact ⟨rfl, rfl⟩
set_option maxHeartbeats 8000000 in
theorem scan63 (hOf : OfOk) (s : ByteArray) (hs : s.size ≤ 140737488355328) (l kb : Nat) (RR : Nat → Prop) (hR : RR kb) (J Jx : List Tk → (Nat → Prop) → World → Prop) (W : World) (hJ : Free W.heap.size J) (hX : Free W.heap.size Jx)
    (hY : ∀ pre S x W1, J pre S W1 → W.heap.size ≤ W1.heap.size → (∀ k, S k → W.heap.size ≤ k ∧ k < W1.heap.size) → pre ++ [x] <+: scanL s → YieldAt Fence.wide 8 Tryz.prog l #[x.v] W1 fun e W' =>
      Kept (fun k => RR k ∨ S k) W1 W' ∧ ((e = .returned (.bool true) ∧ J (pre ++ [x]) S W') ∨ (e = .returned (.bool false) ∧ Jx (pre ++ [x]) S W')))
    (hc : W.cell? ⟨kb, 0, none⟩ = some (.string s)) (h0 : J [] none' W) :
    CallsIn Fence.wide 9 Tryz.prog 162 #[.func (.yield l) #[] #[], .pointer (some ⟨kb, 0, none⟩)] W fun e W' => (∃ v, e = .returned v) ∧ (J (scanL s) none' W' ∨ (∃ pre, pre <+: scanL s ∧ Jx pre none' W')) := by
  have hkb : kb < W.heap.size := World.block_lt_of_cell? W _ hc
  refine callsIn_of_wp_marks Tryz.func162 rfl trivial ?_ rfl
  simp only [Tryz.ntmps162, List.size_toArray, List.length_cons, List.length_nil, Nat.reduceAdd, Nat.reduceSub, Array.replicate_succ, Array.replicate_zero, List.push_toArray, List.append_toArray, List.nil_append, List.cons_append]
  have HJ := hid hJ
  have HX := hid hX
  have HY := hid hY
  have HR := hid hR
  have H0 := hid h0
  have HOf := hid hOf
  have hOf' := hOf
  have hP := hid (fun W => units64 s W)
  clear hJ hX hY hR h0 hOf
  have hc1 : ((W.alloc (.cells #[.func (.yield l) #[] #[]] 252)).alloc (.cells #[.int .i64 0, .int .i64 0, .int .i64 0, .int .i64 0, .int .i64 0, .int .i32 0, .int .i64 0, .int .i64 0, .bool false] 256)).cell? ⟨kb, 0, none⟩ = some (.string s) := by
    exact ((((Below.refl W.heap.size W).alloc (Nat.le_refl _) _).alloc (by simp) _).cell (p := ⟨kb, 0, none⟩) hkb).trans hc
  gi_wp2_with fail
  refine ⟨trivial, ?_⟩
  with_reducible refine CallsIn.mono (callsIn_wide.2 (hP.out _)) ?_
  rintro e w4 ⟨rfl, hw4⟩
  have b0 := ((Blk.new W 252 #[.func (.yield l) #[] #[]]).alloc (.cells #[.int .i64 0, .int .i64 0, .int .i64 0, .int .i64 0, .int .i64 0, .int .i32 0, .int .i64 0, .int .i64 0, .bool false] 256)).alloc (.cells #[.string s] 9)
  have b1 := (Blk.new (W.alloc (.cells #[.func (.yield l) #[] #[]] 252)) 256 #[.int .i64 0, .int .i64 0, .int .i64 0, .int .i64 0, .int .i64 0, .int .i32 0, .int .i64 0, .int .i64 0, .bool false]).alloc (.cells #[.string s] 9)
  have b2 := Blk.new ((W.alloc (.cells #[.func (.yield l) #[] #[]] 252)).alloc (.cells #[.int .i64 0, .int .i64 0, .int .i64 0, .int .i64 0, .int .i64 0, .int .i32 0, .int .i64 0, .int .i64 0, .bool false] 256)) 9 #[.string s]
  rw [← hw4] at b0 b1 b2
  simp only [World.size_alloc, Nat.add_assoc, Nat.reduceAdd] at b1 b2
  have hN : w4.heap.size = W.heap.size + 3 := by rw [hw4]; simp
  have hK4 : Kept (fun k => ¬ none' k) W w4 := by rw [hw4]; exact ((Kept.alloc _ _ _).trans (Kept.alloc _ _ _)).trans (Kept.alloc _ _ _)
  have hB4 : Below W.heap.size W w4 := by rw [hw4]; exact (((Below.refl _ W).alloc (Nat.le_refl _) _).alloc (by simp) _).alloc (by simp; omega) _
  clear hw4 hc1 hP
  simp only [World.size_alloc, Nat.add_assoc, Nat.reduceAdd]
  obtain ⟨N, hNN⟩ : ∃ N, N = W.heap.size := ⟨_, rfl⟩
  rw [← hNN] at hN b0 b1 b2 hB4 HJ HX HY ⊢
  have B0 := hid b0
  have B1 := hid b1
  have B2 := hid b2
  have HK4 := hid hK4
  clear b0 b1 b2 hK4
  obtain ⟨U, hU⟩ : ∃ U : (Nat → Prop) → Nat → Prop, U = fun S k => S k ∨ k = N ∨ k = N + 1 ∨ k = N + 2 := ⟨_, rfl⟩
  have U1 : Hid (∀ S k, U S k → S k ∨ k = N ∨ k = N + 1 ∨ k = N + 2) := hid (fun S k h => by rw [hU] at h; exact h)
  have U2 : Hid (∀ S k, S k ∨ k = N ∨ k = N + 1 ∨ k = N + 2 → U S k) := hid (fun S k h => by rw [hU]; exact h)
  clear hU
  have U4 : Hid (∀ S (X : World), (∀ k, S k → N ≤ k ∧ k < X.heap.size) → N + 3 ≤ X.heap.size → ∀ k, U S k → N ≤ k ∧ k < X.heap.size) := hid (fun S X h1 h2 k h => by
    rcases U1.out _ _ h with h | h | h | h
    · exact h1 k h
    all_goals omega)
  have U5 : Hid (∀ (S S' : Nat → Prop) (X Y : World), (∀ k, S' k → S k ∨ (X.heap.size ≤ k ∧ k < Y.heap.size)) → ∀ k, U S' k → U S k ∨ (X.heap.size ≤ k ∧ k < Y.heap.size)) := hid (fun S S' X Y h1 k h => by
    rcases U1.out _ _ h with h | h
    · rcases h1 k h with h | h
      · exact .inl (U2.out _ _ (.inl h))
      · exact .inr h
    · exact .inl (U2.out _ _ (.inr h)))
  have H1 : Hid (J [] (U none') w4) := hid (HJ.out _ none' _ _ _ H0.out (fun k h => h.elim) HK4.out (fun k h => .inr (by
    rcases U1.out _ _ h with h | h | h | h
    · exact h.elim
    all_goals omega)))
  clear H0 HK4
  have HNN := hid hNN
  clear hNN
  gi_wp2_with fail
  refine name_actZ ?_
  intro Tm D hTm hD
  have hseq := (units_seq hOf' s hs (N + 2) w4 (B2.out.cell (k := 0) rfl)).wide 8
  refine rangeFunc_s (F := Fence.wide) (α := Un) rfl (by omega) (gf := 191) (lb := #[.pointer (some ⟨N + 2, 0, none⟩)]) (by subst hTm; rfl) trivial (enters_of Tryz.func191 (by kernel_rfl) rfl)
    hseq (fun k hk => by omega) (Below.refl _ _) (fun _ => rfl)
    (fun pre S W => J (sFold pre).1 (U S) W ∧ Blk W (N + 1) 256 (sFold pre).2.cells ∧ Blk W N 252 #[.func (.yield l) #[] #[]] ∧ N + 3 ≤ W.heap.size)
    (fun c _ S W => c = .ret ∧ N + 3 ≤ W.heap.size ∧ ∃ q, q <+: scanL s ∧ Jx q (U S) W)
    ?hI ?hIx ⟨H1.out, B1.out, B0.out, by omega⟩
    (fun pre S x a' W => ∃ Bx, w4.heap.size ≤ Bx ∧ ¬ S Bx ∧ Blk W Bx 254 x.cells ∧ J (sFold pre).1 (fun k => U S k ∨ k = Bx) W ∧ Blk W (N + 1) 256 (sFold pre).2.cells ∧ Blk W N 252 #[.func (.yield l) #[] #[]] ∧ a' = { tmps := (Tm.setIfInBounds 7 x.v).setIfInBounds 4 (.pointer (some ⟨Bx, 0, none⟩)), defers := [] })
    ?hAx ?assign ?body ?done ?stop
  case hI =>
    intro pre S S' X Y ⟨h1, h2, h3, h4⟩ hS hK hS'
    refine ⟨HJ.out _ (U S) _ X Y h1 (U4.out _ _ (fun k h => by have := hS k h; omega) h4) (hK.mono (fun k _ h hs => h (U2.out _ _ (.inl hs)))) (U5.out _ _ _ _ hS'), h2.keep hK (fun h => ?_), h3.keep hK (fun h => ?_), by have := hK.size; omega⟩
    · have := (hS _ h).1; omega
    · have := (hS _ h).1; omega
  case hIx =>
    intro c pre S S' X Y ⟨h0, h4, q, hq, h1⟩ hS hK hS'
    exact ⟨h0, by have := hK.size; omega, q, hq, HX.out _ (U S) _ X Y h1 (U4.out _ _ (fun k h => by have := hS k h; omega) h4) (hK.mono (fun k _ h hs => h (U2.out _ _ (.inl hs)))) (U5.out _ _ _ _ hS')⟩
  case hAx =>
    intro pre S x a' W5 lb o ⟨Bx, g1, g2, g3, g4, g5, g6, g7⟩ hSl hS
    have hb := g3.lt
    refine ⟨Bx, g1, g2, g3.put (fun e => g2 (e ▸ hSl)) _, ?_, g5.put (by have := hS _ hSl; omega) _, g6.put (by have := hS _ hSl; omega) _, g7⟩
    have u4 := U4.out S W5 (fun k h => by have := hS k h; omega) (by omega)
    exact HJ.out _ _ _ W5 _ g4 (fun k h => h.elim (fun h => u4 k h) (fun h => by omega)) (Kept.putObj W5 (fun h => h (.inl (U2.out _ _ (.inl hSl)))) _) (fun k h => .inl h)
  case assign =>
    rintro l' pre S x W5 K ⟨hJ5, hb5, h05, h45⟩ hW5 hS5 hpre hK
    subst hTm hD
    have kA : ∀ T, Kept T W5 (W5.alloc (.cells x.cells 254)) := fun T => Kept.alloc T W5 _
    have hB := Blk.new W5 254 x.cells
    have hJ6 := HJ.out _ (U S) (fun k => U S k ∨ k = W5.heap.size) W5 _ hJ5 (U4.out _ _ (fun k h => by have := hS5 k h; omega) h45) (kA _) (fun k h => by
      rcases h with h | h
      · exact .inl h
      · exact .inr ⟨by omega, by rw [World.size_alloc]; omega⟩)
    have H := hK _ _ (kA _) ⟨W5.heap.size, by omega, (fun h => by have := (hS5 _ h).2; omega), hB, hJ6, hb5.alloc _, h05.alloc _, rfl⟩
    clear hK kA hB hJ6 hJ5 hb5 h05
    dsimp only at H
    simp only [List.setIfInBounds_toArray, List.set_cons_succ, List.set_cons_zero] at H
    gi_wp2
    exact H
  case body =>
    rintro l' pre S x a' W5 hSl ⟨rec, hrec⟩ hW5 hS5 hpre ⟨Bx, hBx, hSB, kx, hJ5, k1, k0, rfl⟩
    obtain ⟨out, sc, hou⟩ : ∃ out sc, sFold pre = (out, sc) := ⟨_, _, rfl⟩
    have hE := sFold_snoc pre x
    have hpu := scanL_pre s hpre
    rw [hou] at hE hJ5 k1
    rw [hE] at hpu
    dsimp only at hJ5 k1
    have hbx := kx.lt
    have u4 := U4.out S W5 (fun k h => by have := hS5 k h; omega) (by omega)
    obtain ⟨S2, hS2⟩ : ∃ S2 : Nat → Prop, S2 = fun k => U S k ∨ k = Bx := ⟨_, rfl⟩
    rw [← hS2] at hJ5
    have s2 : Hid (∀ k, S2 k → N ≤ k ∧ k < W5.heap.size) := hid (fun k h => by rw [hS2] at h; exact h.elim (fun h => u4 k h) (fun h => by omega))
    have s2x : Hid (S2 Bx) := hid (by rw [hS2]; exact .inr rfl)
    have s2S : Hid (∀ k, U S k → S2 k) := hid (fun k h => by rw [hS2]; exact .inl h)
    have s20 : Hid (S2 N) := hid (s2S.out _ (U2.out _ _ (.inr (.inl rfl))))
    have s21 : Hid (S2 (N + 1)) := hid (s2S.out _ (U2.out _ _ (.inr (.inr (.inl rfl)))))
    have s22 : Hid (S2 (N + 2)) := hid (s2S.out _ (U2.out _ _ (.inr (.inr (.inr rfl)))))
    have sS : Hid (∀ k, S k → S2 k) := hid (fun k h => s2S.out _ (U2.out _ _ (.inl h)))
    have n1 : Hid (¬ S (N + 1)) := hid (fun h => by have := (hS5 _ h).1; omega)
    have n12 : Hid (∀ k, k = N + 2 ∨ S k → k ≠ N + 1) := hid (fun k h e => h.elim (fun h => by omega) (fun h => n1.out (e ▸ h)))
    clear hS2 u4
    have HE := hid hE
    have HP := hid hpu
    clear hE hpu hou hpre hrec hSl hSB hS5 hseq HOf
    unfold sStep at HE HP
    dsimp only at HE HP
    have hF := hid (fits65 sc x W5 (N + 1) k1)
    obtain ⟨sc2, d, hf⟩ : ∃ sc2 d, fitsU sc x = (sc2, d) := ⟨_, _, rfl⟩
    rw [hf] at hF HE HP
    dsimp only at hF HE HP
    clear hf
    obtain ⟨uk, ur, uf, ut, ual⟩ := x
    dsimp only at kx HE HP hF
    subst hTm hD
    dsimp only
    simp only [List.setIfInBounds_toArray, List.set_cons_succ, List.set_cons_zero]
    have KX := hid kx
    have K0 := hid k0
    have HJ5 := hid hJ5
    have c0 := kx.cell (k := 0) rfl
    have c1 := kx.cell (k := 1) rfl
    have c2 := kx.cell (k := 2) rfl
    have c3 := kx.cell (k := 3) rfl
    have c4 := kx.cell (k := 4) rfl
    have hbx2 : Bx ≠ N + 1 := by omega
    have hbn : Bx < W5.heap.size := hbx
    clear kx k1 k0 hJ5
    gi_wp2_with fail
    refine wpIn_scope_ahead 0 rfl ?_
    gi_wp2_with fail
    refine ⟨trivial, ?_⟩
    with_reducible refine (CallsIn.inRound l' (callsIn_wide.2 hF.out)).mono ?_
    rintro e W6 ⟨rfl, hb6, hk6⟩
    have hs6 := hk6.size
    have KX6 := hid (KX.out.keep hk6 hbx2)
    have K16 := hid hb6
    have K06 := hid (K0.out.keep hk6 (by omega))
    have J6 := hid (HJ.out _ S2 S2 W5 W6 HJ5.out s2.out (hk6.mono (fun k _ h e => h (e ▸ s21.out))) (fun k h => .inl h))
    have HK6 : Hid (Kept (fun k => k = N + 2 ∨ S k) W5 W6) := hid (hk6.mono (fun k _ h => n12.out k h))
    have s26 : Hid (∀ k, S2 k → N ≤ k ∧ k < W6.heap.size) := hid (fun k h => by have := s2.out k h; omega)
    have c0 := KX6.out.cell (k := 0) rfl
    have c1 := KX6.out.cell (k := 1) rfl
    have c2 := KX6.out.cell (k := 2) rfl
    have c3 := KX6.out.cell (k := 3) rfl
    have c4 := KX6.out.cell (k := 4) rfl
    have e0 := K06.out.cell (k := 0) rfl
    have d3 := K16.out.cell (k := 3) rfl
    have z3 := K16.out.froz 3
    try dsimp only at c0 c1 c2 c3 c4 e0 d3
    clear hb6 hk6 hF KX K0 HJ5 s2
    by_cases h2 : d = 2
    · have hv : Hid (sFold (pre ++ [⟨uk, ur, uf, ut, ual⟩]) = (out, sc2)) := hid (by rw [HE.out, if_pos h2])
      have e2 := beq_t h2
      gi_wp2_with fail
      show Kept _ _ _ ∧ (J (sFold (pre ++ [⟨uk, ur, uf, ut, ual⟩])).1 (U S) _ ∧ Blk _ (N + 1) 256 (sFold (pre ++ [⟨uk, ur, uf, ut, ual⟩])).2.cells ∧ Blk _ N 252 _ ∧ _)
      rw [hv.out]
      exact ⟨HK6.out, HJ.out _ S2 (U S) W6 _ J6.out s26.out (Kept.refl _ _) (fun k h => .inl (s2S.out k h)), K16.out, K06.out, by omega⟩
    have e2 := beq_f h2
    by_cases h1 : d = 1
    · have hv : Hid (sFold (pre ++ [⟨uk, ur, uf, ut, ual⟩]) = (out, { sc2 with t := ut })) := hid (by rw [HE.out, if_neg h2, if_pos h1])
      have e1 := beq_t h1
      gi_wp2_with fail
      refine wpIn_goto ?_
      refine ⟨rfl, ⟨?_⟩⟩
      gi_wp2_with fail
      show Kept _ _ _ ∧ (J (sFold (pre ++ [⟨uk, ur, uf, ut, ual⟩])).1 (U S) _ ∧ Blk _ (N + 1) 256 (sFold (pre ++ [⟨uk, ur, uf, ut, ual⟩])).2.cells ∧ Blk _ N 252 _ ∧ _)
      rw [hv.out]
      have g4 := K06.out
      exact ⟨HK6.out.trans (Kept.setCell _ (fun h => n12.out _ h rfl) _), HJ.out _ S2 (U S) W6 _ J6.out s26.out (Kept.setCell _ (fun h => h s21.out) _) (fun k h => .inl (s2S.out k h)), K16.out.upd _ _ rfl, g4.other (by omega) _, by simp [World.setCell]; omega⟩
    have e1 := beq_f h1
    have hv : Hid (sFold (pre ++ [⟨uk, ur, uf, ut, ual⟩]) = (out ++ toks sc2, beginU ⟨uk, ur, uf, ut, ual⟩ sc2.h)) := hid (by rw [HE.out, if_neg h2, if_neg h1])
    have hpo : Hid (out ++ toks sc2 <+: scanL s) := hid (by have := HP.out; rwa [if_neg h2, if_neg h1] at this)
    have hEnd := hid (end66 sc2 (N + 1) l J Jx RR S2 (scanL s) out W6 K16.out s21.out J6.out (fun pre' x W1 h h' hp => HY.out pre' S2 x W1 h (by omega) (fun k hk => by have := s26.out k hk; omega) hp) hpo.out)
    gi_wp2_with fail
    refine ⟨trivial, ?_⟩
    with_reducible refine (CallsIn.inRound l' (callsIn_wide.2 (callsIn_wide.1 hEnd.out))).mono ?_
    rintro e W7 ⟨hk7, hpost⟩
    have hs7 := hk7.size
    have HK7 : Hid (Kept (fun k => k = N + 2 ∨ S k) W5 W7) := hid (HK6.out.trans (hk7.mono (fun k _ h => .inr (h.elim (fun h => h ▸ s22.out) (sS.out k)))))
    have K17 := hid (K16.out.keep hk7 (.inr s21.out))
    have K07 := hid (K06.out.keep hk7 (.inr s20.out))
    have KX7 := hid (KX6.out.keep hk7 (.inr s2x.out))
    have s27 : Hid (∀ k, S2 k → N ≤ k ∧ k < W7.heap.size) := hid (fun k h => by have := s26.out k h; omega)
    have HPo := hid hpost
    clear hk7 hpost hEnd
    rcases HPo.out with ⟨rfl, hJ7⟩ | ⟨rfl, q, hq, hJ7⟩
    · have J7 := hid hJ7
      have c0 := KX7.out.cell (k := 0) rfl
      have c1 := KX7.out.cell (k := 1) rfl
      have c2 := KX7.out.cell (k := 2) rfl
      have c3 := KX7.out.cell (k := 3) rfl
      have c4 := KX7.out.cell (k := 4) rfl
      try dsimp only at c0 c1 c2 c3 c4
      have hBeg := hid (begin67 sc2 ⟨uk, ur, uf, ut, ual⟩ W7 (N + 1) K17.out)
      clear hJ7 HPo
      gi_wp2_with fail
      refine ⟨trivial, ?_⟩
      with_reducible refine (CallsIn.inRound l' (callsIn_wide.2 hBeg.out)).mono ?_
      rintro e W8 ⟨⟨v, rfl⟩, hb8, hk8⟩
      have K18 := hid hb8
      have K08 := hid (K07.out.keep hk8 (by omega))
      have hs8 := hk8.size
      have HK8 : Hid (Kept (fun k => k = N + 2 ∨ S k) W5 W8) := hid (HK7.out.trans (hk8.mono (fun k _ h => n12.out k h)))
      have J8 := hid (HJ.out _ S2 (U S) W7 W8 J7.out s27.out (hk8.mono (fun k _ h e => h (e ▸ s21.out))) (fun k h => .inl (s2S.out k h)))
      clear hb8 hk8 hBeg
      gi_wp2_with fail
      show Kept _ _ _ ∧ (J (sFold (pre ++ [⟨uk, ur, uf, ut, ual⟩])).1 (U S) _ ∧ Blk _ (N + 1) 256 (sFold (pre ++ [⟨uk, ur, uf, ut, ual⟩])).2.cells ∧ Blk _ N 252 _ ∧ _)
      rw [hv.out]
      exact ⟨HK8.out, J8.out, K18.out, K08.out, by omega⟩
    · have X7 := hid (HX.out _ S2 (U S) W7 W7 hJ7 s27.out (Kept.refl _ _) (fun k h => .inl (s2S.out k h)))
      have HQ := hid hq
      clear hJ7 HPo hq
      gi_wp2_with fail
      exact ⟨HK7.out, rfl, by omega, _, HQ.out, X7.out⟩
  case done =>
    rintro Dk W9 hDk ⟨hJ9, k1, k0, h49⟩ hK
    have hDl := at_lt hK
    have s9 := U4.out (fun k => k = Dk) W9 (fun k h => by omega) h49
    have SD : Hid (U (fun k => k = Dk) Dk) := hid (U2.out _ _ (.inl rfl))
    have S9 := hid s9
    have hK0 := hid hK
    have e0 := k0.cell (k := 0) rfl
    have hEnd := hid (end66 (sFold (unitsL s)).2 (N + 1) l J Jx RR (U (fun k => k = Dk)) (scanL s) (sFold (unitsL s)).1 W9 k1 (U2.out _ _ (.inr (.inr (.inl rfl)))) hJ9 (fun pre' x W1 h h' hp => HY.out pre' _ x W1 h (by omega) (fun k hk => by have := S9.out k hk; omega) hp) List.prefix_rfl)
    clear k1 k0 hK hJ9 s9 hseq HOf
    subst hTm hD
    gi_wp2_with fail
    refine ⟨trivial, ?_⟩
    with_reducible refine CallsIn.mono (callsIn_wide.2 (callsIn_wide.1 hEnd.out)) ?_
    rintro e W2 ⟨hk2, hpost⟩
    have hs2 := hk2.size
    have hK2 := hid (hk2.obj hK0.out (.inr SD.out))
    have S29 : Hid (∀ k, U (fun k => k = Dk) k → N ≤ k ∧ k < W2.heap.size) := hid (fun k h => by have := S9.out k h; omega)
    have HP := hid hpost
    clear hk2 hpost hEnd
    rcases HP.out with ⟨rfl, hJ2⟩ | ⟨rfl, q, hq, hJ2⟩
    all_goals
      have J2 := hid hJ2
      clear hJ2 HP
      gi_wp2_with fail
      refine ⟨by simp, .inl ⟨_, _, rfl, run_takeDeferred hK2.out, ?_⟩⟩
    · exact ⟨_, results_none rfl _ _ _, ⟨_, rfl⟩, .inl (HJ.out _ _ none' W2 _ J2.out S29.out (Kept.putObj W2 (fun h => h SD.out) _) (fun k h => h.elim))⟩
    · exact ⟨_, results_none rfl _ _ _, ⟨_, rfl⟩, .inr ⟨q, hq, HX.out _ _ none' W2 _ J2.out S29.out (Kept.putObj W2 (fun h => h SD.out) _) (fun k h => h.elim)⟩⟩
  case stop =>
    rintro Dk c pre W9 hDk hpre ⟨rfl, h49, q, hq, hXq⟩ hK
    have hDl := at_lt hK
    have s9 := U4.out (fun k => k = Dk) W9 (fun k h => by omega) h49
    have SD : Hid (U (fun k => k = Dk) Dk) := hid (U2.out _ _ (.inl rfl))
    have hK0 := hid hK
    have HXq := hid hXq
    have S9 := hid s9
    clear hK hXq s9 hseq HOf
    subst hTm hD
    gi_wp2_with fail
    refine ⟨by simp, .inl ⟨_, _, rfl, run_takeDeferred hK0.out, ?_⟩⟩
    exact ⟨_, results_none rfl _ _ _, ⟨_, rfl⟩, .inr ⟨q, hq, HX.out _ _ none' W9 _ HXq.out S9.out (Kept.putObj W9 (fun h => h SD.out) _) (fun k h => h.elim)⟩⟩
theorem scan_seq (hOf : OfOk) (s : ByteArray) (hs : s.size ≤ 140737488355328) (kb : Nat) (w : World) (hc : w.cell? ⟨kb, 0, none⟩ = some (.string s)) :
    SeqS Fence.wide 9 Tryz.prog 162 #[.pointer (some ⟨kb, 0, none⟩)] (fun x => #[x.v]) (fun k => k = kb) (scanL s) w := fun l J Jx W hW hJ hX hY h0 =>
  scan63 hOf s hs l kb (fun k => k = kb) rfl J Jx W hJ hX hY ((hW.cell (p := ⟨kb, 0, none⟩) (World.block_lt_of_cell? w _ hc)).trans hc) h0
end Go.Proofs.YteodfondjogmoaaGreatDoor
/- word.Words: a text's words, as an iterator. Conditions: those of each theorem. -/
namespace Go.Proofs.YteodfondjogmoaaGreatDoor
open Go Go.RowKit Go.Lib Go.Shelf
set_option linter.unusedVariables false
set_option linter.unusedSimpArgs false
attribute [local go_sem] Oper.semAt_some
/-- those of a row of tokens that are words -/
def wFil (l : List Tk) : List Tk := l.filter fun x => x.kd == 1
def wordsL (s : ByteArray) : List Tk := wFil (scanL s)
abbrev Tk.span (x : Tk) : Value := .agg #[.int .i64 x.f, .int .i64 x.t]
theorem wFil_pre (s : ByteArray) {pre : List Tk} (h : pre <+: scanL s) : wFil pre <+: wordsL s := List.IsPrefix.filter _ h
theorem wFil_snoc (pre : List Tk) (x : Tk) : wFil (pre ++ [x]) = if x.kd = 1 then wFil pre ++ [x] else wFil pre := by
  unfold wFil; rw [List.filter_append]
  by_cases h : x.kd = 1
  · simp [h]
  · simp [h]
theorem words27 (s : ByteArray) (w : World) : Calls Tryz.prog 82 #[.string s] w fun e w' => e = .returned (.func (.func 127) #[] #[.pointer (some ⟨w.heap.size, 0, none⟩)]) ∧ w' = w.alloc (.cells #[.string s] 9) := by
  go_enter Tryz.func82, Tryz.ntmps82
  go_wp2_with fail
  go_ret
  exact ⟨rfl, rfl⟩
set_option maxHeartbeats 8000000 in
theorem words48 (hOf : OfOk) (s : ByteArray) (hs : s.size ≤ 140737488355328) (l kb : Nat) (RR : Nat → Prop) (hR : RR kb) (J Jx : List Tk → (Nat → Prop) → World → Prop) (W : World) (hJ : Free W.heap.size J) (hX : Free W.heap.size Jx)
    (hY : ∀ pre S x W1, J pre S W1 → W.heap.size ≤ W1.heap.size → (∀ k, S k → W.heap.size ≤ k ∧ k < W1.heap.size) → pre ++ [x] <+: wordsL s → YieldAt Fence.wide 8 Tryz.prog l #[x.span] W1 fun e W' =>
      Kept (fun k => RR k ∨ S k) W1 W' ∧ ((e = .returned (.bool true) ∧ J (pre ++ [x]) S W') ∨ (e = .returned (.bool false) ∧ Jx (pre ++ [x]) S W')))
    (hc : W.cell? ⟨kb, 0, none⟩ = some (.string s)) (h0 : J [] none' W) :
    CallsIn Fence.wide 9 Tryz.prog 127 #[.func (.yield l) #[] #[], .pointer (some ⟨kb, 0, none⟩)] W fun e W' => (∃ v, e = .returned v) ∧ (J (wordsL s) none' W' ∨ (∃ pre, pre <+: wordsL s ∧ Jx pre none' W')) := by
  have hkb : kb < W.heap.size := World.block_lt_of_cell? W _ hc
  refine callsIn_of_wp_marks Tryz.func127 rfl trivial ?_ rfl
  simp only [Tryz.ntmps127, List.size_toArray, List.length_cons, List.length_nil, Nat.reduceAdd, Nat.reduceSub, Array.replicate_succ, Array.replicate_zero, List.push_toArray, List.append_toArray, List.nil_append, List.cons_append]
  have HJ := hid hJ
  have HX := hid hX
  have HY := hid hY
  have HR := hid hR
  have H0 := hid h0
  have HOf := hid hOf
  have hOf' := hOf
  have hP := hid (fun W => scan49 s W)
  clear hJ hX hY hR h0 hOf
  have hc1 : (W.alloc (.cells #[.func (.yield l) #[] #[]] 208)).cell? ⟨kb, 0, none⟩ = some (.string s) := by
    exact (((Below.refl W.heap.size W).alloc (Nat.le_refl _) _).cell (p := ⟨kb, 0, none⟩) hkb).trans hc
  gi_wp2_with fail
  refine ⟨trivial, ?_⟩
  with_reducible refine CallsIn.mono (callsIn_wide.2 (hP.out _)) ?_
  rintro e w4 ⟨rfl, hw4⟩
  have b0 := (Blk.new W 208 #[.func (.yield l) #[] #[]]).alloc (.cells #[.string s] 9)
  have b2 := Blk.new (W.alloc (.cells #[.func (.yield l) #[] #[]] 208)) 9 #[.string s]
  rw [← hw4] at b0 b2
  simp only [World.size_alloc, Nat.add_assoc, Nat.reduceAdd] at b2
  have hN : w4.heap.size = W.heap.size + 2 := by rw [hw4]; simp
  have hK4 : Kept (fun k => ¬ none' k) W w4 := by rw [hw4]; exact (Kept.alloc _ _ _).trans (Kept.alloc _ _ _)
  have hB4 : Below W.heap.size W w4 := by rw [hw4]; exact ((Below.refl _ W).alloc (Nat.le_refl _) _).alloc (by simp) _
  clear hw4 hc1 hP
  simp only [World.size_alloc, Nat.add_assoc, Nat.reduceAdd]
  obtain ⟨N, hNN⟩ : ∃ N, N = W.heap.size := ⟨_, rfl⟩
  rw [← hNN] at hN b0 b2 hB4 HJ HX HY ⊢
  have B0 := hid b0
  have B2 := hid b2
  have HK4 := hid hK4
  clear b0 b2 hK4
  obtain ⟨U, hU⟩ : ∃ U : (Nat → Prop) → Nat → Prop, U = fun S k => S k ∨ k = N ∨ k = N + 1 := ⟨_, rfl⟩
  have U1 : Hid (∀ S k, U S k → S k ∨ k = N ∨ k = N + 1) := hid (fun S k h => by rw [hU] at h; exact h)
  have U2 : Hid (∀ S k, S k ∨ k = N ∨ k = N + 1 → U S k) := hid (fun S k h => by rw [hU]; exact h)
  clear hU
  have U4 : Hid (∀ S (X : World), (∀ k, S k → N ≤ k ∧ k < X.heap.size) → N + 2 ≤ X.heap.size → ∀ k, U S k → N ≤ k ∧ k < X.heap.size) := hid (fun S X h1 h2 k h => by
    rcases U1.out _ _ h with h | h | h
    · exact h1 k h
    all_goals omega)
  have U5 : Hid (∀ (S S' : Nat → Prop) (X Y : World), (∀ k, S' k → S k ∨ (X.heap.size ≤ k ∧ k < Y.heap.size)) → ∀ k, U S' k → U S k ∨ (X.heap.size ≤ k ∧ k < Y.heap.size)) := hid (fun S S' X Y h1 k h => by
    rcases U1.out _ _ h with h | h
    · rcases h1 k h with h | h
      · exact .inl (U2.out _ _ (.inl h))
      · exact .inr h
    · exact .inl (U2.out _ _ (.inr h)))
  have H1 : Hid (J [] (U none') w4) := hid (HJ.out _ none' _ _ _ H0.out (fun k h => h.elim) HK4.out (fun k h => .inr (by
    rcases U1.out _ _ h with h | h | h
    · exact h.elim
    all_goals omega)))
  clear H0 HK4
  have HNN := hid hNN
  clear hNN
  gi_wp2_with fail
  refine name_actZ ?_
  intro Tm D hTm hD
  have hseq := (scan_seq hOf' s hs (N + 1) w4 (B2.out.cell (k := 0) rfl)).wide 8
  refine rangeFunc_s (F := Fence.wide) (α := Tk) rfl (by omega) (gf := 162) (lb := #[.pointer (some ⟨N + 1, 0, none⟩)]) (by subst hTm; rfl) trivial (enters_of Tryz.func162 (by kernel_rfl) rfl)
    hseq (fun k hk => by omega) (Below.refl _ _) (fun _ => rfl)
    (fun pre S W => J (wFil pre) (U S) W ∧ Blk W N 208 #[.func (.yield l) #[] #[]] ∧ N + 2 ≤ W.heap.size)
    (fun c _ S W => c = .ret ∧ N + 2 ≤ W.heap.size ∧ ∃ q, q <+: wordsL s ∧ Jx q (U S) W)
    ?hI ?hIx ⟨H1.out, B0.out, by omega⟩
    (fun pre S x a' W => ∃ Bx, w4.heap.size ≤ Bx ∧ ¬ S Bx ∧ Blk W Bx 186 x.cells ∧ J (wFil pre) (fun k => U S k ∨ k = Bx) W ∧ Blk W N 208 #[.func (.yield l) #[] #[]] ∧ a' = { tmps := (Tm.setIfInBounds 6 x.v).setIfInBounds 3 (.pointer (some ⟨Bx, 0, none⟩)), defers := [] })
    ?hAx ?assign ?body ?done ?stop
  case hI =>
    intro pre S S' X Y ⟨h1, h3, h4⟩ hS hK hS'
    refine ⟨HJ.out _ (U S) _ X Y h1 (U4.out _ _ (fun k h => by have := hS k h; omega) h4) (hK.mono (fun k _ h hs => h (U2.out _ _ (.inl hs)))) (U5.out _ _ _ _ hS'), h3.keep hK (fun h => ?_), by have := hK.size; omega⟩
    · have := (hS _ h).1; omega
  case hIx =>
    intro c pre S S' X Y ⟨h0, h4, q, hq, h1⟩ hS hK hS'
    exact ⟨h0, by have := hK.size; omega, q, hq, HX.out _ (U S) _ X Y h1 (U4.out _ _ (fun k h => by have := hS k h; omega) h4) (hK.mono (fun k _ h hs => h (U2.out _ _ (.inl hs)))) (U5.out _ _ _ _ hS')⟩
  case hAx =>
    intro pre S x a' W5 lb o ⟨Bx, g1, g2, g3, g4, g6, g7⟩ hSl hS
    have hb := g3.lt
    refine ⟨Bx, g1, g2, g3.put (fun e => g2 (e ▸ hSl)) _, ?_, g6.put (by have := hS _ hSl; omega) _, g7⟩
    have u4 := U4.out S W5 (fun k h => by have := hS k h; omega) (by omega)
    exact HJ.out _ _ _ W5 _ g4 (fun k h => h.elim (fun h => u4 k h) (fun h => by omega)) (Kept.putObj W5 (fun h => h (.inl (U2.out _ _ (.inl hSl)))) _) (fun k h => .inl h)
  case assign =>
    rintro l' pre S x W5 K ⟨hJ5, h05, h45⟩ hW5 hS5 hpre hK
    subst hTm hD
    have kA : ∀ T, Kept T W5 (W5.alloc (.cells x.cells 186)) := fun T => Kept.alloc T W5 _
    have hB := Blk.new W5 186 x.cells
    have hJ6 := HJ.out _ (U S) (fun k => U S k ∨ k = W5.heap.size) W5 _ hJ5 (U4.out _ _ (fun k h => by have := hS5 k h; omega) h45) (kA _) (fun k h => by
      rcases h with h | h
      · exact .inl h
      · exact .inr ⟨by omega, by rw [World.size_alloc]; omega⟩)
    have H := hK _ _ (kA _) ⟨W5.heap.size, by omega, (fun h => by have := (hS5 _ h).2; omega), hB, hJ6, h05.alloc _, rfl⟩
    clear hK kA hB hJ6 hJ5 h05
    dsimp only at H
    simp only [List.setIfInBounds_toArray, List.set_cons_succ, List.set_cons_zero] at H
    gi_wp2
    exact H
  case body =>
    rintro l' pre S x a' W5 hSl ⟨rec, hrec⟩ hW5 hS5 hpre ⟨Bx, hBx, hSB, kx, hJ5, k0, rfl⟩
    have hE := wFil_snoc pre x
    have hpu := wFil_pre s hpre
    have hbx := kx.lt
    have u4 := U4.out S W5 (fun k h => by have := hS5 k h; omega) (by omega)
    obtain ⟨S2, hS2⟩ : ∃ S2 : Nat → Prop, S2 = fun k => U S k ∨ k = Bx := ⟨_, rfl⟩
    rw [← hS2] at hJ5
    have s2 : Hid (∀ k, S2 k → N ≤ k ∧ k < W5.heap.size) := hid (fun k h => by rw [hS2] at h; exact h.elim (fun h => u4 k h) (fun h => by omega))
    have s2S : Hid (∀ k, U S k → S2 k) := hid (fun k h => by rw [hS2]; exact .inl h)
    have s20 : Hid (S2 N) := hid (s2S.out _ (U2.out _ _ (.inr (.inl rfl))))
    have s22 : Hid (S2 (N + 1)) := hid (s2S.out _ (U2.out _ _ (.inr (.inr rfl))))
    have sS : Hid (∀ k, S k → S2 k) := hid (fun k h => s2S.out _ (U2.out _ _ (.inl h)))
    have HE := hid hE
    have HP := hid hpu
    clear hE hpu hpre hrec hSl hSB hS5 hseq HOf hS2 u4
    obtain ⟨kd, f, t⟩ := x
    dsimp only at kx HE HP
    have K0 := hid k0
    have HJ5 := hid hJ5
    have c0 := kx.cell (k := 0) rfl
    have c1 := kx.cell (k := 1) rfl
    have c2 := kx.cell (k := 2) rfl
    have e0 := k0.cell (k := 0) rfl
    try dsimp only at c0 c1 c2
    subst hTm hD
    dsimp only
    simp only [List.setIfInBounds_toArray, List.set_cons_succ, List.set_cons_zero]
    by_cases h1 : kd = 1
    · have hv : Hid (wFil (pre ++ [⟨kd, f, t⟩]) = wFil pre ++ [⟨kd, f, t⟩]) := hid (by rw [HE.out, if_pos h1])
      have hpo : wFil pre ++ [⟨kd, f, t⟩] <+: wordsL s := hv.out ▸ HP.out
      obtain ⟨fn, tmps, assign, body, hy, hR⟩ := HY.out _ S2 ⟨kd, f, t⟩ W5 hJ5 (by omega) s2.out hpo
      change (Instr.yield l #[.agg #[.int .i64 f, .int .i64 t]]).run Tryz.prog W5 = _ at hy
      have HR' := hid hR
      have HO := hid hpo
      have e1 := beq_t h1
      clear hR hpo hJ5 kx k0
      gi_wp2_with fail
      refine (RoundIn.inRound l' (RoundIn.wide HR'.out)).mono ?_
      rintro e W7 ⟨hk7, (⟨rfl, hJ7⟩ | ⟨rfl, hJ7⟩)⟩
      all_goals
        have hs7 := hk7.size
        have HK7 : Hid (Kept (fun k => k = N + 1 ∨ S k) W5 W7) := hid (hk7.mono (fun k _ h => .inr (h.elim (fun h => h ▸ s22.out) (sS.out k))))
        have K07 := hid (K0.out.keep hk7 (.inr s20.out))
        have s27 : Hid (∀ k, S2 k → N ≤ k ∧ k < W7.heap.size) := hid (fun k h => by have := s2.out k h; omega)
        have J7 := hid hJ7
        clear hk7 hJ7 hy
        gi_wp2_with fail
      · show Kept _ _ _ ∧ (J (wFil (pre ++ [⟨kd, f, t⟩])) (U S) _ ∧ Blk _ N 208 _ ∧ _)
        rw [hv.out]
        exact ⟨HK7.out, HJ.out _ S2 (U S) W7 W7 J7.out s27.out (Kept.refl _ _) (fun k h => .inl (s2S.out k h)), K07.out, by omega⟩
      · exact ⟨HK7.out, rfl, by omega, _, HO.out, HX.out _ S2 (U S) W7 W7 J7.out s27.out (Kept.refl _ _) (fun k h => .inl (s2S.out k h))⟩
    · have hv : Hid (wFil (pre ++ [⟨kd, f, t⟩]) = wFil pre) := hid (by rw [HE.out, if_neg h1])
      have e1 := beq_f h1
      clear hJ5 kx k0
      gi_wp2_with fail
      refine ⟨fun _ h => (by cases h), ?_⟩
      gi_wp2_with fail
      show Kept _ _ _ ∧ (J (wFil (pre ++ [⟨kd, f, t⟩])) (U S) _ ∧ Blk _ N 208 _ ∧ _)
      rw [hv.out]
      exact ⟨Kept.refl _ _, HJ.out _ S2 (U S) W5 W5 HJ5.out s2.out (Kept.refl _ _) (fun k h => .inl (s2S.out k h)), K0.out, by omega⟩
  case done =>
    rintro Dk W9 hDk ⟨hJ9, k0, h49⟩ hK
    have hDl := at_lt hK
    have s9 := U4.out (fun k => k = Dk) W9 (fun k h => by omega) h49
    have SD : Hid (U (fun k => k = Dk) Dk) := hid (U2.out _ _ (.inl rfl))
    have S9 := hid s9
    have hK0 := hid hK
    have J9 := hid hJ9
    clear k0 hK hJ9 s9 hseq HOf
    subst hTm hD
    gi_wp2_with fail
    refine ⟨by simp, .inl ⟨_, _, rfl, run_takeDeferred hK0.out, ?_⟩⟩
    exact ⟨_, results_none rfl _ _ _, ⟨_, rfl⟩, .inl (HJ.out _ _ none' W9 _ J9.out S9.out (Kept.putObj W9 (fun h => h SD.out) _) (fun k h => h.elim))⟩
  case stop =>
    rintro Dk c pre W9 hDk hpre ⟨rfl, h49, q, hq, hXq⟩ hK
    have hDl := at_lt hK
    have s9 := U4.out (fun k => k = Dk) W9 (fun k h => by omega) h49
    have SD : Hid (U (fun k => k = Dk) Dk) := hid (U2.out _ _ (.inl rfl))
    have hK0 := hid hK
    have HXq := hid hXq
    have S9 := hid s9
    clear hK hXq s9 hseq HOf
    subst hTm hD
    gi_wp2_with fail
    refine ⟨by simp, .inl ⟨_, _, rfl, run_takeDeferred hK0.out, ?_⟩⟩
    exact ⟨_, results_none rfl _ _ _, ⟨_, rfl⟩, .inr ⟨q, hq, HX.out _ _ none' W9 _ HXq.out S9.out (Kept.putObj W9 (fun h => h SD.out) _) (fun k h => h.elim)⟩⟩
theorem words_seq (hOf : OfOk) (s : ByteArray) (hs : s.size ≤ 140737488355328) (kb : Nat) (w : World) (hc : w.cell? ⟨kb, 0, none⟩ = some (.string s)) :
    SeqS Fence.wide 9 Tryz.prog 127 #[.pointer (some ⟨kb, 0, none⟩)] (fun x => #[x.span]) (fun k => k = kb) (wordsL s) w := fun l J Jx W hW hJ hX hY h0 =>
  words48 hOf s hs l kb (fun k => k = kb) rfl J Jx W hJ hX hY ((hW.cell (p := ⟨kb, 0, none⟩) (World.block_lt_of_cell? w _ hc)).trans hc) h0
end Go.Proofs.YteodfondjogmoaaGreatDoor
/- The words of a text lie in it. No program in sight. Conditions: those of each theorem. -/
namespace Go.Proofs.YteodfondjogmoaaGreatDoor
open Go Go.RowKit Go.Lib
set_option linter.unusedVariables false
set_option linter.unusedSimpArgs false
theorem wrap_small (x : Int) (h0 : 0 ≤ x) (h1 : x ≤ 4611686018427387904) : wrap64 x = x := by
  unfold wrap64; omega
/-- what holds of the units so far, at position c -/
structure UInv (n c : Nat) (st : List Un × Un) : Prop where
  ok : ∀ x ∈ st.1, 0 ≤ x.f ∧ x.f ≤ x.t ∧ x.t ≤ st.2.f ∧ x.t ≤ c
  pw : st.1.Pairwise fun x y => x.f ≤ y.t
  u0 : 0 ≤ st.2.f
  u1 : st.2.f ≤ st.2.t
  u2 : st.2.t ≤ c
theorem UInv.step {s : ByteArray} {c : Nat} {st : List Un × Un} (h : UInv s.size c st) (hc : c < s.size) (hs : s.size ≤ 140737488355328) : UInv s.size (c + wdN s c) (uStep s st c) := by
  obtain ⟨out, u⟩ := st
  obtain ⟨h1, h2, h3, h4, h5⟩ := h
  dsimp only at h1 h2 h3 h4 h5
  have hw := wdN_pos hc
  have e1 : wrap64 (u.t + (wdN s c : Int)) = u.t + wdN s c := wrap_small _ (by omega) (by omega)
  have e2 : wrap64 ((c : Int) + (wdN s c : Int)) = c + wdN s c := wrap_small _ (by omega) (by omega)
  unfold uStep
  dsimp only
  rw [e1, e2]
  split
  · exact ⟨fun x hx => by have := h1 x hx; dsimp only; omega, h2, h3, by dsimp only; omega, by dsimp only; omega⟩
  · refine ⟨?_, ?_, by dsimp only; omega, by dsimp only; omega, by dsimp only; omega⟩
    · intro x hx
      dsimp only at hx ⊢
      split at hx
      · rcases List.mem_append.1 hx with hx | hx
        · have := h1 x hx; omega
        · rw [List.mem_singleton.1 hx]; omega
      · have := h1 x hx; omega
    · dsimp only
      split
      · refine List.pairwise_append.2 ⟨h2, List.pairwise_singleton _ _, fun x hx y hy => ?_⟩
        rw [List.mem_singleton.1 hy]
        have := h1 x hx
        omega
      · exact h2
theorem UInv.run {s : ByteArray} (hs : s.size ≤ 140737488355328) : ∀ (n c : Nat), n = s.size - c → c ≤ s.size → ∀ st, UInv s.size c st → UInv s.size s.size ((posL s c).foldl (uStep s) st) := by
  intro n
  induction n using Nat.strongRecOn with
  | _ n ih =>
    intro c hn hc st h
    by_cases hp : c < s.size
    · have hw := wdN_pos hp
      rw [posL_more hp, List.foldl_cons]
      exact ih (s.size - (c + wdN s c)) (by omega) _ rfl hw.2.2 _ (h.step hp hs)
    · rw [posL_end hp]
      obtain rfl : c = s.size := by omega
      exact h
theorem units_ok (s : ByteArray) (hs : s.size ≤ 140737488355328) : (∀ x ∈ unitsL s, 0 ≤ x.f ∧ x.f ≤ x.t ∧ x.t ≤ s.size) ∧ (unitsL s).Pairwise fun x y => x.f ≤ y.t := by
  have h : UInv s.size s.size (uFold s (posL s 0)) := UInv.run hs s.size 0 (by omega) (Nat.zero_le _) _ ⟨(by intro x hx; cases hx), List.Pairwise.nil, (by show (0:Int) ≤ 0; omega), (by show (0:Int) ≤ 0; omega), (by show (0:Int) ≤ (0:Nat); omega)⟩
  obtain ⟨h1, h2, h3, h4, h5⟩ := h
  unfold unitsL
  split
  · refine ⟨fun x hx => ?_, List.pairwise_append.2 ⟨h2, List.pairwise_singleton _ _, fun x hx y hy => ?_⟩⟩
    · rcases List.mem_append.1 hx with hx | hx
      · have := h1 x hx; omega
      · rw [List.mem_singleton.1 hx]; exact ⟨h3, h4, h5⟩
    · rw [List.mem_singleton.1 hy]
      have := h1 x hx
      omega
  · exact ⟨fun x hx => by have := h1 x hx; omega, h2⟩
theorem fitsU_keep (sc : Sc) (u : Un) : (fitsU sc u).1.f = sc.f ∧ (fitsU sc u).1.t = sc.t ∧ (sc.st = 0 → fitsU sc u = (sc, 0)) ∧ ((fitsU sc u).2 ≠ 2 → (fitsU sc u).2 ≠ 1 → (fitsU sc u).1 = sc) := by
  unfold fitsU
  repeat' split
  all_goals (refine ⟨rfl, rfl, fun h => ?_, fun h g => ?_⟩)
  all_goals first
    | rfl
    | (exfalso; omega)
    | (exfalso; exact h rfl)
    | (exfalso; exact g rfl)
structure SInv (n : Nat) (st : List Tk × Sc) (rest : List Un) : Prop where
  ok : ∀ x ∈ st.1, x.kd = 1 → 0 ≤ x.f ∧ x.f ≤ x.t ∧ x.t ≤ n
  sc : st.2.st = 0 ∨ (0 ≤ st.2.f ∧ st.2.f ≤ st.2.t ∧ st.2.t ≤ n ∧ ∀ y ∈ rest, st.2.f ≤ y.t)
theorem toks_ok {n : Nat} {sc : Sc} (h : sc.st = 0 ∨ (0 ≤ sc.f ∧ sc.f ≤ sc.t ∧ sc.t ≤ n)) : ∀ x ∈ toks sc, x.kd = 1 → 0 ≤ x.f ∧ x.f ≤ x.t ∧ x.t ≤ n := by
  intro x hx hk
  unfold toks at hx
  split at hx
  · cases hx
  · next h0 =>
    have h' := h.resolve_left h0
    split at hx
    · rcases List.mem_cons.1 hx with rfl | hx
      · exact h'
      · rw [List.mem_singleton.1 hx] at hk; exact absurd hk (by show ¬ (5:Int) = 1; omega)
    · rw [List.mem_singleton.1 hx]; exact h'
theorem beginU_ft (u h : Un) : (beginU u h).f = u.f ∧ (beginU u h).t = u.t := by
  unfold beginU; repeat' split
  all_goals exact ⟨rfl, rfl⟩
theorem SInv.step {n : Nat} {st : List Tk × Sc} {u : Un} {rest : List Un} (h : SInv n st (u :: rest)) (hu : 0 ≤ u.f ∧ u.f ≤ u.t ∧ u.t ≤ n) (hr : ∀ y ∈ rest, u.f ≤ y.t) : SInv n (sStep st u) rest := by
  obtain ⟨out, sc⟩ := st
  obtain ⟨h1, h2⟩ := h
  dsimp only at h1 h2
  obtain ⟨k1, k2, k3, k4⟩ := fitsU_keep sc u
  unfold sStep
  dsimp only
  split
  · next hd =>
    have h2' := h2.resolve_left (fun h0 => by rw [k3 h0] at hd; dsimp only at hd; omega)
    exact ⟨h1, .inr (by dsimp only; rw [k1, k2]; exact ⟨h2'.1, h2'.2.1, h2'.2.2.1, fun y hy => h2'.2.2.2 y (List.mem_cons_of_mem _ hy)⟩)⟩
  · next hd2 =>
    split
    · next hd =>
      have h2' := h2.resolve_left (fun h0 => by rw [k3 h0] at hd; dsimp only at hd; omega)
      exact ⟨h1, .inr (by dsimp only; rw [k1]; exact ⟨h2'.1, h2'.2.2.2 u (List.mem_cons_self ..), hu.2.2, fun y hy => h2'.2.2.2 y (List.mem_cons_of_mem _ hy)⟩)⟩
    · next hd1 =>
      rw [k4 hd2 hd1]
      refine ⟨fun x hx hk => ?_, .inr ?_⟩
      · rcases List.mem_append.1 hx with hx | hx
        · exact h1 x hx hk
        · exact toks_ok (h2.imp id (fun h => ⟨h.1, h.2.1, h.2.2.1⟩)) x hx hk
      · dsimp only
        rw [(beginU_ft u sc.h).1, (beginU_ft u sc.h).2]
        exact ⟨hu.1, hu.2.1, hu.2.2, hr⟩
theorem SInv.run {n : Nat} : ∀ (us : List Un) (st : List Tk × Sc), (∀ x ∈ us, 0 ≤ x.f ∧ x.f ≤ x.t ∧ x.t ≤ n) → (us.Pairwise fun x y => x.f ≤ y.t) → SInv n st us → SInv n (us.foldl sStep st) []
  | [], st, _, _, h => h
  | u :: us, st, h1, h2, h => by
    rw [List.foldl_cons]
    obtain ⟨p1, p2⟩ := List.pairwise_cons.1 h2
    exact SInv.run us _ (fun x hx => h1 x (List.mem_cons_of_mem _ hx)) p2 (h.step (h1 u (List.mem_cons_self ..)) p1)
/-- a text's words lie in it -/
theorem words_ok (s : ByteArray) (hs : s.size ≤ 140737488355328) : ∀ x ∈ wordsL s, 0 ≤ x.f ∧ x.f ≤ x.t ∧ x.t ≤ s.size := by
  intro x hx
  obtain ⟨u1, u2⟩ := units_ok s hs
  have h : SInv s.size (sFold (unitsL s)) [] := SInv.run _ _ u1 u2 ⟨(by intro x hx; cases hx), .inl rfl⟩
  unfold wordsL wFil at hx
  obtain ⟨hx, hk⟩ := List.mem_filter.1 hx
  have hk : x.kd = 1 := by simpa using hk
  unfold scanL at hx
  rcases List.mem_append.1 hx with hx | hx
  · exact h.ok x hx hk
  · exact toks_ok (h.sc.imp id (fun h => ⟨h.1, h.2.1, h.2.2.1⟩)) x hx hk
end Go.Proofs.YteodfondjogmoaaGreatDoor
