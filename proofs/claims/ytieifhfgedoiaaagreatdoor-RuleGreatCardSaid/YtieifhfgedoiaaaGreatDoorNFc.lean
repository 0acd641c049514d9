/- The document's rules in memory; a class's line. Conditions: those of each theorem. -/
import Derived.Test.YtieifhfgedoiaaaGreatDoorNFb
import Derived.Test.YtieifhfgedoiaaaGreatDoorNGa
import Derived.Deep.DeepCutAuto
namespace Go.Proofs.YtieifhfgedoiaaaGreatDoor
open Go.RowKit Go.Lib
set_option linter.unusedVariables false
set_option linter.unusedSimpArgs false
attribute [local go_sem] ExtS.cell ExtS.froz upE_value upE_skip upE_enter
def Rl.dcells (u : Rl) (V : RlV) : List Value := [.string u.line, .bool u.begins, V.l, V.b, V.r, .bool u.ends, V.p]
structure DlOk (w : World) (base : Nat) (u : Rl) (V : RlV) : Prop where
 l : w.ownsRow base 141 4 V.l u.left.length (flatE Item.cells u.left)
 r : w.ownsRow base 141 4 V.r u.right.length (flatE Item.cells u.right)
 b : w.ownsRow base 138 3 V.b u.body.length (flatE One.cells u.body)
 p : w.ownsRow base 60 3 V.p u.phones.length (flatE Ph.cells u.phones)
def Free (S : List Nat) (w : World) : Prop := ∀ B ∈ S, ∃ t a, (t ≠ 141 ∧ t ≠ 138 ∧ t ≠ 60 ∧ t ≠ 120) ∧ Blk w B t a
theorem Free.one {w : World} {R : Nat} {t : TypeId} {a : Array Value} (h : Blk w R t a) (ht : t ≠ 141 ∧ t ≠ 138 ∧ t ≠ 60 ∧ t ≠ 120) : Free [R] w := fun B hB => by
 rw [List.mem_singleton] at hB; subst hB; exact ⟨t, a, ht, h⟩
section
variable {w w' : World} {base : Nat} {u : Rl} {V : RlV} {S : List Nat} {v : Value} {L : List Rl}
theorem DlOk.low (h : DlOk w base u V) (hb : Below w.heap.size w w') : DlOk w' base u V := ⟨own_low h.l hb, own_low h.r hb, own_low h.b hb, own_low h.p hb⟩
theorem DlOk.butF (h : DlOk w base u V) (hb : ButS S w w') (hS : ∀ B ∈ S, ∃ t a, (t ≠ 141 ∧ t ≠ 138 ∧ t ≠ 60) ∧ Blk w B t a) : DlOk w' base u V :=
 ⟨own_butT h.l hb (fun B hB => by obtain ⟨t, a, ht, k⟩ := hS B hB; exact ⟨t, a, ht.1, k⟩), own_butT h.r hb (fun B hB => by obtain ⟨t, a, ht, k⟩ := hS B hB; exact ⟨t, a, ht.1, k⟩),
  own_butT h.b hb (fun B hB => by obtain ⟨t, a, ht, k⟩ := hS B hB; exact ⟨t, a, ht.2.1, k⟩), own_butT h.p hb (fun B hB => by obtain ⟨t, a, ht, k⟩ := hS B hB; exact ⟨t, a, ht.2.2, k⟩)⟩
theorem DlOk.mono {b' : Nat} (h : DlOk w base u V) (hb : b' ≤ base) : DlOk w b' u V := ⟨own_mono h.l hb, own_mono h.r hb, own_mono h.b hb, own_mono h.p hb⟩
def DRows (w : World) (base : Nat) (v : Value) (L : List Rl) : Prop :=
 ∃ Vs : List (Rl × RlV), Vs.map (·.1) = L ∧ w.ownsRow base 120 7 v L.length (flatE (fun y : Rl × RlV => Rl.dcells y.1 y.2) Vs) ∧ ∀ y ∈ Vs, DlOk w base y.1 y.2
theorem DRows.nil (w : World) (base : Nat) : DRows w base (.slice none 0 0) [] := ⟨[], rfl, World.ownsRow_nil _ _ _ _, by simp⟩
theorem DRows.low (h : DRows w base v L) (hb : Below w.heap.size w w') : DRows w' base v L := by
 obtain ⟨Vs, h1, h2, h3⟩ := h
 exact ⟨Vs, h1, own_low h2 hb, fun y hy => (h3 y hy).low hb⟩
theorem DRows.but (h : DRows w base v L) (hb : ButS S w w') (hS : Free S w) : DRows w' base v L := by
 obtain ⟨Vs, h1, h2, h3⟩ := h
 exact ⟨Vs, h1, own_butT h2 hb (fun B hB => by obtain ⟨t, a, ht, k⟩ := hS B hB; exact ⟨t, a, ht.2.2.2, k⟩), fun y hy => (h3 y hy).butF hb (fun B hB => by obtain ⟨t, a, ht, k⟩ := hS B hB; exact ⟨t, a, ⟨ht.1, ht.2.1, ht.2.2.1⟩, k⟩)⟩
end
def Rs.ln (x : Rs) (i : Nat) : ByteArray := match x.cls i with | some y => y.1 | none => ⟨#[]⟩
def Rs.pcs (x : Rs) (i : Nat) : List One := match x.cls i with | some y => y.2 | none => []
structure DAt (w : World) (X base : Nat) (x : Rs) : Prop where
 ex : ∃ (c : Array Value) (Vc : Nat → Value) (v : Value), Blk w X 31 c ∧ c.size = 79 ∧
  (∀ i, i < 26 → c[i]? = some (.bool (x.said i)) ∧ c[26 + i]? = some (.string (x.ln i)) ∧ c[52 + i]? = some (Vc i) ∧ w.ownsRow base 138 3 (Vc i) (x.pcs i).length (flatE One.cells (x.pcs i))) ∧
  c[78]? = some v ∧ DRows w base v x.rules
section
variable {w w' : World} {X base : Nat} {x : Rs} {S : List Nat}
theorem DAt.low (h : DAt w X base x) (hb : Below w.heap.size w w') : DAt w' X base x := by
 obtain ⟨c, Vc, v, h1, h2, h3, h4, h5⟩ := h.ex
 exact ⟨c, Vc, v, h1.low hb, h2, fun i hi => ⟨(h3 i hi).1, (h3 i hi).2.1, (h3 i hi).2.2.1, own_low (h3 i hi).2.2.2 hb⟩, h4, h5.low hb⟩
theorem DAt.but (h : DAt w X base x) (hb : ButS S w w') (hX : X ∉ S) (hS : Free S w) : DAt w' X base x := by
 obtain ⟨c, Vc, v, h1, h2, h3, h4, h5⟩ := h.ex
 exact ⟨c, Vc, v, hb.blk h1 hX, h2, fun i hi => ⟨(h3 i hi).1, (h3 i hi).2.1, (h3 i hi).2.2.1, own_butT (h3 i hi).2.2.2 hb (fun B hB => by obtain ⟨t, a, ht, k⟩ := hS B hB; exact ⟨t, a, ht.2.1, k⟩)⟩, h4, h5.but hb hS⟩
theorem DAt.blk (h : DAt w X base x) : ∃ c, Blk w X 31 c ∧ (∀ i, i < 26 → c[i]? = some (.bool (x.said i))) := by
 obtain ⟨c, Vc, v, h1, h2, h3, h4, h5⟩ := h.ex
 exact ⟨c, h1, fun i hi => (h3 i hi).1⟩
theorem sets_get (c : Array Value) (hc : c.size = 79) {n : Nat} (hn : n < 26) (a b d : Value) (k : Nat) (hk : k < 79) :
  (((c.setIfInBounds n a).setIfInBounds (26 + n) b).setIfInBounds (52 + n) d)[k]? = if k = 52 + n then some d else if k = 26 + n then some b else if k = n then some a else c[k]? := by
 by_cases h1 : k = 52 + n
 ·rw [if_pos h1, h1, Array.getElem?_setIfInBounds_self_of_lt (by simp; omega)]
 ·rw [if_neg h1, Array.getElem?_setIfInBounds_ne (Ne.symm h1)]
  by_cases h2 : k = 26 + n
  ·rw [if_pos h2, h2, Array.getElem?_setIfInBounds_self_of_lt (by simp; omega)]
  ·rw [if_neg h2, Array.getElem?_setIfInBounds_ne (Ne.symm h2)]
   by_cases h3 : k = n
   ·rw [if_pos h3, h3, Array.getElem?_setIfInBounds_self_of_lt (by omega)]
   ·rw [if_neg h3, Array.getElem?_setIfInBounds_ne (Ne.symm h3)]
theorem DAt.addC {s : ByteArray} {l : List One} {n : Nat} {v v0 : Value} {c : Array Value} {Vc : Nat → Value} (h1 : Blk w X 31 c) (h2 : c.size = 79)
  (h3 : ∀ i, i < 26 → c[i]? = some (.bool (x.said i)) ∧ c[26 + i]? = some (.string (x.ln i)) ∧ c[52 + i]? = some (Vc i) ∧ w.ownsRow base 138 3 (Vc i) (x.pcs i).length (flatE One.cells (x.pcs i)))
  (h4 : c[78]? = some v0) (h5 : DRows w base v0 x.rules) (hB : ButS [X] w w')
  (hk : Blk w' X 31 (((c.setIfInBounds n (.bool true)).setIfInBounds (26 + n) (.string s)).setIfInBounds (52 + n) v)) (hn : n < 26) (hs : byteN s 0 = n + 65) (hv : w.ownsRow base 138 3 v l.length (flatE One.cells l)) : DAt w' X base (x.addC s l) := by
 have hF : Free [X] w := Free.one h1 ⟨by decide, by decide, by decide, by decide⟩
 have hT : ∀ B ∈ [X], ∃ t a, t ≠ 138 ∧ Blk w B t a := fun B hB => by rw [List.mem_singleton] at hB; subst hB; exact ⟨31, _, by decide, h1⟩
 have hsame : (x.addC s l).cls n = some (s, l) := by show (if n = byteN s 0 - 65 then _ else _) = _; rw [if_pos (by omega)]
 have hother : ∀ i, i ≠ n → (x.addC s l).cls i = x.cls i := fun i hi => by show (if i = byteN s 0 - 65 then _ else _) = _; rw [if_neg (by omega)]
 refine ⟨_, fun i => if i = n then v else Vc i, v0, hk, by simp [h2], fun i hi => ?_, by rw [sets_get c h2 hn _ _ _ _ (by omega), if_neg (by omega), if_neg (by omega), if_neg (by omega)]; exact h4, h5.but hB hF⟩
 rw [sets_get c h2 hn _ _ _ _ (by omega), sets_get c h2 hn _ _ _ _ (by omega), sets_get c h2 hn _ _ _ _ (by omega), if_neg (show ¬ i = 52 + n by omega), if_neg (show ¬ i = 26 + n by omega), if_neg (show ¬ 26 + i = 52 + n by omega), if_neg (show ¬ 52 + i = 26 + n by omega), if_neg (show ¬ 26 + i = n by omega), if_neg (show ¬ 52 + i = n by omega)]
 by_cases hin : i = n
 ·subst hin
  rw [if_pos rfl, if_pos rfl, if_pos rfl, show ((fun j => if j = i then v else Vc j) i) = v from if_pos rfl]
  unfold Rs.said Rs.ln Rs.pcs
  rw [hsame]
  exact ⟨rfl, rfl, rfl, own_butT hv hB hT⟩
 ·rw [if_neg hin, if_neg (by omega), if_neg (by omega), show ((fun j => if j = n then v else Vc j) i) = Vc i from if_neg hin]
  unfold Rs.said Rs.ln Rs.pcs
  rw [hother i hin]
  exact ⟨(h3 i hi).1, (h3 i hi).2.1, (h3 i hi).2.2.1, own_butT (h3 i hi).2.2.2 hB hT⟩
theorem LSt.blk {w : World} {R : Nat} {s : ByteArray} {lv A : Value} {q0 : Int} {α : Type} {r : Res α} (h : LSt w R s lv A q0 r) : ∃ a, Blk w R 76 a := by
 cases r with
 | ok u p => obtain ⟨k, hk, hL⟩ := h; exact ⟨_, hL.b⟩
 | bad e q => obtain ⟨he, k, hL⟩ := h; exact ⟨_, hL.b⟩
structure LD (w W : World) (base R X : Nat) (s : ByteArray) (lv : Value) (x : Rs) {α : Type} (r : Res α) : Prop where
 st : LSt W R s lv (.pointer (some ⟨X, 0, none⟩)) 0 r
 d : DAt W X base x
 b : Below base w W
 hR : base ≤ R
 hX : base ≤ X
 hw : base ≤ w.heap.size
theorem LD.ne {w W : World} {R : Nat} {s : ByteArray} {lv : Value} {α : Type} {r : Res α} (h : LD w W base R X s lv x r) : X ≠ R := by
 obtain ⟨a, ha⟩ := h.st.blk
 obtain ⟨c, hc, _⟩ := h.d.blk
 exact blk_ne hc ha (by decide)
theorem LD.step {w W W' : World} {R : Nat} {s : ByteArray} {lv : Value} {α β : Type} {r : Res α} {r' : Res β} (h : LD w W base R X s lv x r) (hs : LSt W' R s lv (.pointer (some ⟨X, 0, none⟩)) 0 r') (hb : ButS [R] W W') : LD w W' base R X s lv x r' := by
 obtain ⟨a, ha⟩ := h.st.blk
 exact ⟨hs, h.d.but hb (by rw [List.mem_singleton]; exact h.ne) (Free.one ha ⟨by decide, by decide, by decide, by decide⟩), h.b.trans (hb.below (fun k hk => by rw [List.mem_singleton] at hk; subst hk; exact h.hR) (Nat.le_trans h.hw h.b.size)), h.hR, h.hX, h.hw⟩
end
theorem bind_bind {α β γ : Type} (x : Res α) (f : α → Nat → Res β) (g : β → Nat → Res γ) : (x.bind f).bind g = x.bind fun a p => (f a p).bind g := by cases x <;> rfl
def cls0 (x : Rs) (s : ByteArray) : Res Unit := if x.said (byteN s 0 - 65) then .bad 91 0 else .ok () 1
def cls4 (x : Rs) (s : ByteArray) : Res (List One) := ((((cls0 x s).bind fun _ p => mustR s p 32).bind fun _ p => mustR s p 61).bind fun _ p => mustR s p 32).bind fun _ p => piecesR s p []
theorem classR_st (x : Rs) (s : ByteArray) : classR x s = (cls4 x s).bind fun l p => if p < s.size then .bad 90 p else .ok l p := by
 unfold classR cls4 cls0
 cases x.said (byteN s 0 - 65)
 ·simp only [Bool.false_eq_true, if_false, bind_bind]
  rfl
 ·rfl
def DPost (w' : World) (base R X : Nat) (s : ByteArray) (lv : Value) (o : Out) : Prop :=
 match o with
 | .ok y => (∃ k, Ln w' R s lv k 0 0 (.pointer (some ⟨X, 0, none⟩))) ∧ DAt w' X base y
 | .bad e q => e ≠ 0 ∧ ∃ k, Ln w' R s lv k e q (.pointer (some ⟨X, 0, none⟩))
theorem isC_at {s : ByteArray} (h : isC s = true) : ∃ b, 1 < s.size ∧ b < 26 ∧ byteN s 0 = b + 65 := by
 obtain ⟨h1, h2, h3, h4⟩ := of_decide_eq_true h
 exact ⟨byteN s 0 - 65, h1, by omega, by omega⟩
set_option maxRecDepth 100000 in
set_option maxHeartbeats 8000000 in
theorem lclass_any {w : World} {R X base : Nat} {s : ByteArray} {lv : Value} {x : Rs} (h : Ln w R s lv 0 0 0 (.pointer (some ⟨X, 0, none⟩))) (hX : DAt w X base x) (hc : isC s = true) (hs : s.size ≤ 100000000) (hbR : base ≤ R) (hbX : base ≤ X) :
  Calls Tryz.prog 27 #[.pointer (some ⟨R, 0, none⟩)] w fun e w' => e = .returned (.tuple #[]) ∧ DPost w' base R X s lv (clsR x s) ∧ Below base w w' := by
 obtain ⟨b, hsz, hb26, hbN⟩ := isC_at hc
 have hs0 : 0 < s.size := by omega
 have hcb := get_eqN s 0 hs0
 have hb : (s[0]'hs0).toNat = b + 65 := by rw [← hcb]; exact hbN
 have hbw : base ≤ w.heap.size := by have := h.b.lt; omega
 have D0 := hid (show LD w w base R X s lv x (.ok () 0 : Res Unit) from ⟨⟨0, AtK.start s, h⟩, hX, Below.refl _ _, hbR, hbX, hbw⟩)
 obtain ⟨cx, hcx, hcs⟩ := hX.blk
 obtain ⟨sb, hsb⟩ : ∃ sb, x.said b = sb := ⟨_, rfl⟩
 have xc : w.cell? ⟨X, b, none⟩ = some (.bool sb) := hcx.cell (k := b) (by rw [hcs b hb26, hsb])
 have hwd : wdN s 0 = 1 := by have hd := dec_ascii hs0 (by unfold byteN at hcb; omega); unfold wdN; rw [hd]
 have hK1 := hid ((AtK.start s).next hs0)
 rw [hwd] at hK1
 have hN := hid hbN
 have q1 := dT (show (0 : Int) < s.size by omega)
 have q2 : decide (0 < s.size) = true := decide_eq_true hs0
 have q3 := dT (show (b : Int) < 26 by omega)
 have q4 : decide (b < 26) = true := decide_eq_true hb26
 have q5 : (b : Int) < 26 := by omega
 have q6 : IntKind.u8.wrap (b : Int) = b := Wu8 (by omega)
 have q7 : IntKind.u8.wrap ((b : Int) + 65 - 65) = b := by rw [show (b : Int) + 65 - 65 = b by omega]; exact q6
 have hW := hid (wrong_new h (AtK.start s) 91)
 have hC := hid (classR_st x s)
 have hClsR : Hid (clsR x s = match classR x s with | .ok l _ => .ok (x.addC s l) | .bad e p => .bad e p) := hid rfl
 obtain ⟨c0, c1, c2, c3, c4, c5, cf⟩ := h.c6
 have h0 : Hid (cls0 x s = if sb then .bad 91 0 else .ok () 1) := by
  unfold cls0; rw [hbN, Nat.add_sub_cancel, hsb]; exact hid rfl
 have h0L := h
 clear hcb hbN hcs hcx h hX hwd hc hsb
 have H0 := hid h0L
 clear h0L
 cases sb
 ·go_enter Tryz.func27, Tryz.ntmps27
  go_wp2_with fail
  have D1 : Hid (LD w (w.setCell ⟨R, 2, none⟩ (.int .i64 1)) base R X s lv x (cls0 x s)) := by
   rw [h0.out]
   exact hid (D0.out.step (r' := (.ok () 1 : Res Unit)) ⟨1, hK1.out, H0.out.go 1⟩ ((ButS.refl [R] w).set (by simp) 2 _))
  clear D0 H0 h0 c0 c1 c2 c3 c4 c5 cf xc hW q1 q2 hK1
  generalize w.setCell ⟨R, 2, none⟩ (.int .i64 1) = W1 at *
  go_at_call 42
  with_reducible refine Calls.mono (lmust_st D1.out.st 32 (by decide) hs) ?_
  rintro e w2 ⟨rfl, hs2, hb2⟩
  have D2 := hid (D1.out.step hs2 hb2)
  clear hs2 hb2 D1
  go_wp2_with fail
  go_at_call 42
  with_reducible refine Calls.mono (lmust_st D2.out.st 61 (by decide) hs) ?_
  rintro e w3 ⟨rfl, hs3, hb3⟩
  have D3 := hid (D2.out.step hs3 hb3)
  clear hs3 hb3 D2
  go_wp2_with fail
  go_at_call 42
  with_reducible refine Calls.mono (lmust_st D3.out.st 32 (by decide) hs) ?_
  rintro e w4 ⟨rfl, hs4, hb4⟩
  have D4 := hid (D3.out.step hs4 hb4)
  clear hs4 hb4 D3
  go_wp2_with fail
  go_at_call 43
  with_reducible refine Calls.mono (lpieces_st D4.out.st hs) ?_
  rintro e w5 ⟨v, rfl, hP5⟩
  skip
  replace hP5 : PSt w4 w5 R s lv (.pointer (some ⟨X, 0, none⟩)) 0 138 3 One.cells (cls4 x s) v := hP5
  have D5 : Hid (LD w w5 base R X s lv x (cls4 x s)) := hid (D4.out.step hP5.1 hP5.2.1)
  have hbs4 : base ≤ w4.heap.size := Nat.le_trans D4.out.hw D4.out.b.size
  clear D4
  cases hr4 : cls4 x s with
  | bad e q =>
   rw [hr4] at D5 hP5 hC
   obtain ⟨_, _, pv, n, cap, rfl⟩ := hP5
   obtain ⟨he, k, hL⟩ := D5.out.st
   have hR5 : Hid (clsR x s = .bad e q) := by rw [hClsR.out, hC.out]; exact hid rfl
   have HL := hid hL
   have q1 : (e == 0) = false := beq_false_of he
   obtain ⟨c0, c1, c2, c3, c4, c5, cf⟩ := HL.out.c6
   clear hr4 hL
   go_wp2_with fail
   refine region_plan [] (.quiet 0 (.quiet 1 (.quiet 2 (.quiet 3 (.quiet 4 (.quiet 5 (.quiet 6 (.quiet 7 (.quiet 8 (.quiet 9 (.quiet 10 (.quiet 11 (.quiet 12 (.quiet 13 (.quiet 14 (.quiet 15 (.quiet 16 .done))))))))))))))))) (by kernel_rfl) (by kernel_rfl) ?_
   repeat (apply p_quiet; (case hi => rfl); intro K hK; go_simp; (refine ⟨hK _ ?_⟩; clear hK K))
   apply p_done
   intro W6 hb6
   have HL6 := hid (HL.out.low hb6)
   have HD6 := hid (D5.out.d.low hb6)
   have HB6 := hid (D5.out.b.trans (hb6.mono (Nat.le_trans D5.out.hw D5.out.b.size)))
   have hRX : R ≠ X := D5.out.ne.symm
   clear hb6 c0 c1 c2 c3 c4 c5 cf
   have hPost : Hid (∀ w' : World, ButS [X] W6 w' → DPost w' base R X s lv (clsR x s)) := by
    rw [hR5.out]
    exact hid (fun w' hb => ⟨he, k, HL6.out.but hb (by simpa using hRX) (fun B hB => by rw [List.mem_singleton] at hB; subst hB; obtain ⟨c, hc, _⟩ := HD6.out.blk; exact ⟨31, c, by decide, hc⟩)⟩)
   go_wp2_with fail
   have HE := hid HL6.out.c6
   obtain ⟨c0, c1, c2, c3, c4, c5, cf⟩ := HE.out
   obtain ⟨c, Vc, v0, hc1, hc2, hc3, hc4, hc5⟩ := HD6.out.ex
   obtain ⟨x1, x2, x3, _⟩ := hc3 b hb26
   have HC1 := hid hc1
   have HC2 := hid hc2
   have X1 := hid x1
   have X2 := hid x2
   have X3 := hid x3
   clear hc1 hc2 hc3 hc4 hc5 x1 x2 x3
   refine region_plan [X] (.quiet 0 (.quiet 1 (.quiet 2 (.quiet 3 (.quiet 4 (.quiet 5 (.quiet 6 (.quiet 7 (.quiet 8 (.quiet 9 (.quiet 10 (.quiet 11 (.quiet 12 (.quiet 13 (.quiet 14 (.quiet 15 (.quiet 16 (.quiet 17 (.quiet 18 (.quiet 19 (.quiet 20 (.quiet 21 (.quiet 22 (.quiet 24 (.quiet 25 (.quiet 28 (.quiet 29 (.one 23 (.quiet 26 (.one 27 (.quiet 30 (.one 31 .done)))))))))))))))))))))))))))))))) (by kernel_rfl) (by kernel_rfl) ?_
   repeat (apply p_quiet; (case hi => rfl); intro K hK; go_simp; (refine ⟨hK _ ?_⟩; clear hK K))
   apply p_one
   case hi => rfl
   intro W8 hb8 K hK
   have hK8 := HC1.out.low hb8
   have y1 := hK8.cell X1.out
   have yf := hK8.froz
   go_wp2_with fail
   refine hK _ _ ((ButS.of hb8).set (by simp) _ _) ?_
   clear hK K y1 yf
   have KX := hid (hK8.set b (.bool true))
   have HBS := hid (((ButS.of hb8).set (S := [X]) (R := X) (by simp) b (.bool true)))
   clear hb8 hK8
   generalize W8.setCell ⟨X, b, none⟩ (.bool true) = W9 at *
   repeat (apply p_quiet; (case hi => rfl); intro K hK; go_simp; (refine ⟨hK _ ?_⟩; clear hK K))
   apply p_one
   case hi => rfl
   intro W10 hb10 K hK
   have hK10 := KX.out.low hb10
   have y1 : W10.cell? ⟨X, 26 + b, none⟩ = some (.string (x.ln b)) := hK10.cell (by rw [Array.getElem?_setIfInBounds_ne (by omega)]; exact X2.out)
   have yf := hK10.froz
   go_wp2_with fail
   refine hK _ _ ((HBS.out.low hb10).set (R := X) (by simp) _ _) ?_
   clear hK K y1 yf
   replace KX := hid (hK10.set (26 + b) (.string s))
   replace HBS := hid ((HBS.out.low hb10).set (R := X) (by simp) (26 + b) (.string s))
   clear hb10 hK10
   generalize W10.setCell ⟨X, 26 + b, none⟩ (.string s) = W11 at *
   repeat (apply p_quiet; (case hi => rfl); intro K hK; go_simp; (refine ⟨hK _ ?_⟩; clear hK K))
   apply p_one
   case hi => rfl
   intro W12 hb12 K hK
   have hK12 := KX.out.low hb12
   have y1 : W12.cell? ⟨X, 52 + b, none⟩ = some (Vc b) := hK12.cell (by rw [Array.getElem?_setIfInBounds_ne (by omega), Array.getElem?_setIfInBounds_ne (by omega)]; exact X3.out)
   have yf := hK12.froz
   go_wp2_with fail
   refine hK _ _ ((HBS.out.low hb12).set (R := X) (by simp) _ _) ?_
   clear hK K y1 yf
   replace KX := hid (hK12.set (52 + b) (.slice pv n cap))
   replace HBS := hid ((HBS.out.low hb12).set (R := X) (by simp) (52 + b) (.slice pv n cap))
   clear hb12 hK12
   generalize W12.setCell ⟨X, 52 + b, none⟩ (.slice pv n cap) = W13 at *
   apply p_done
   intro W14 hb14
   replace KX := hid (KX.out.low hb14)
   replace HBS := hid (HBS.out.low hb14)
   clear hb14
   go_wp2_with fail
   go_end0
   exact ⟨rfl, hPost.out _ HBS.out, HB6.out.trans (HBS.out.below (fun k hk => by rw [List.mem_singleton] at hk; subst hk; exact hbX) (Nat.le_trans hbw HB6.out.size))⟩
  | ok l p =>
   rw [hr4] at D5 hP5 hC
   obtain ⟨_, _, hv, hl64⟩ := hP5
   obtain ⟨pv, cap, rfl⟩ := own_shape hv
   have HV := hid (own_mono hv hbs4)
   obtain ⟨k, hk, hL⟩ := D5.out.st
   have HL := hid hL
   have HK := hid hk
   obtain ⟨np, hnp⟩ : ∃ np, (posL s 0).length = np := ⟨_, rfl⟩
   obtain ⟨pl, cl, hlv⟩ := HL.out.shape
   rw [hnp] at hlv
   obtain ⟨c0, c1, c2, c3, c4, c5, cf⟩ := HL.out.c6
   rw [hlv] at c1
   clear hr4 hL hv
   by_cases hp : p < s.size
   ·have hR5 : Hid (clsR x s = .bad 90 p) := by rw [hClsR.out, hC.out]; show Hid ((match (if p < s.size then (Res.bad 90 p : Res (List One)) else .ok l p) with | .ok l _ => Out.ok (x.addC s l) | .bad e p => .bad e p) = _); rw [if_pos hp]; exact hid rfl
    have hkn := hk.lt hp
    rw [hnp] at hkn
    have q1 := dT (show (k : Int) < np by omega)
    have q2 : decide (k < np) = true := decide_eq_true hkn
    clear hp hk hnp hkn
    go_wp2_with fail
    refine region_plan [] (.quiet 0 (.quiet 1 (.quiet 2 (.quiet 3 (.quiet 4 (.quiet 5 (.quiet 6 (.quiet 7 (.quiet 8 (.quiet 9 (.quiet 10 (.quiet 11 (.quiet 12 (.quiet 13 (.quiet 14 (.quiet 15 (.quiet 16 .done))))))))))))))))) (by kernel_rfl) (by kernel_rfl) ?_
    repeat (apply p_quiet; (case hi => rfl); intro K hK; go_simp; (refine ⟨hK _ ?_⟩; clear hK K))
    apply p_done
    intro W6 hb6
    have HL6 := hid (HL.out.low hb6)
    have D6 := hid (D5.out.step (r' := (.ok l p : Res (List One))) ⟨k, HK.out, HL6.out⟩ (.of hb6))
    clear hb6 c0 c1 c2 c3 c4 c5 cf HL D5
    go_wp2_with fail
    go_at_call 41
    with_reducible refine Calls.mono (wrong_new HL6.out HK.out 90) ?_
    rintro e w7 ⟨rfl, hL7, hB7⟩
    skip
    have D7 := hid (D6.out.step (r' := (.bad 90 p : Res (List One))) ⟨by decide, _, hL7⟩ hB7)
    have HL7 := hid hL7
    have hRX : R ≠ X := D7.out.ne.symm
    clear hL7 hB7 D6
    have HB6 := hid D7.out.b
    have HD6 := hid D7.out.d
    go_wp2_with fail
    have hPost : Hid (∀ w' : World, ButS [X] w7 w' → DPost w' base R X s lv (clsR x s)) := by
     rw [hR5.out]
     exact hid (fun w' hb => ⟨by decide, k, HL7.out.but hb (by simpa using hRX) (fun B hB => by rw [List.mem_singleton] at hB; subst hB; obtain ⟨c, hc, _⟩ := HD6.out.blk; exact ⟨31, c, by decide, hc⟩)⟩)
    have HE := hid HL7.out.c6
    obtain ⟨c0, c1, c2, c3, c4, c5, cf⟩ := HE.out
    obtain ⟨c, Vc, v0, hc1, hc2, hc3, hc4, hc5⟩ := HD6.out.ex
    obtain ⟨x1, x2, x3, _⟩ := hc3 b hb26
    have HC1 := hid hc1
    have HC2 := hid hc2
    have X1 := hid x1
    have X2 := hid x2
    have X3 := hid x3
    clear hc1 hc2 hc3 hc4 hc5 x1 x2 x3
    refine region_plan [X] (.quiet 0 (.quiet 1 (.quiet 2 (.quiet 3 (.quiet 4 (.quiet 5 (.quiet 6 (.quiet 7 (.quiet 8 (.quiet 9 (.quiet 10 (.quiet 11 (.quiet 12 (.quiet 13 (.quiet 14 (.quiet 15 (.quiet 16 (.quiet 17 (.quiet 18 (.quiet 19 (.quiet 20 (.quiet 21 (.quiet 22 (.quiet 24 (.quiet 25 (.quiet 28 (.quiet 29 (.one 23 (.quiet 26 (.one 27 (.quiet 30 (.one 31 .done)))))))))))))))))))))))))))))))) (by kernel_rfl) (by kernel_rfl) ?_
    repeat (apply p_quiet; (case hi => rfl); intro K hK; go_simp; (refine ⟨hK _ ?_⟩; clear hK K))
    apply p_one
    case hi => rfl
    intro W8 hb8 K hK
    have hK8 := HC1.out.low hb8
    have y1 := hK8.cell X1.out
    have yf := hK8.froz
    go_wp2_with fail
    refine hK _ _ ((ButS.of hb8).set (by simp) _ _) ?_
    clear hK K y1 yf
    have KX := hid (hK8.set b (.bool true))
    have HBS := hid (((ButS.of hb8).set (S := [X]) (R := X) (by simp) b (.bool true)))
    clear hb8 hK8
    generalize W8.setCell ⟨X, b, none⟩ (.bool true) = W9 at *
    repeat (apply p_quiet; (case hi => rfl); intro K hK; go_simp; (refine ⟨hK _ ?_⟩; clear hK K))
    apply p_one
    case hi => rfl
    intro W10 hb10 K hK
    have hK10 := KX.out.low hb10
    have y1 : W10.cell? ⟨X, 26 + b, none⟩ = some (.string (x.ln b)) := hK10.cell (by rw [Array.getElem?_setIfInBounds_ne (by omega)]; exact X2.out)
    have yf := hK10.froz
    go_wp2_with fail
    refine hK _ _ ((HBS.out.low hb10).set (R := X) (by simp) _ _) ?_
    clear hK K y1 yf
    replace KX := hid (hK10.set (26 + b) (.string s))
    replace HBS := hid ((HBS.out.low hb10).set (R := X) (by simp) (26 + b) (.string s))
    clear hb10 hK10
    generalize W10.setCell ⟨X, 26 + b, none⟩ (.string s) = W11 at *
    repeat (apply p_quiet; (case hi => rfl); intro K hK; go_simp; (refine ⟨hK _ ?_⟩; clear hK K))
    apply p_one
    case hi => rfl
    intro W12 hb12 K hK
    have hK12 := KX.out.low hb12
    have y1 : W12.cell? ⟨X, 52 + b, none⟩ = some (Vc b) := hK12.cell (by rw [Array.getElem?_setIfInBounds_ne (by omega), Array.getElem?_setIfInBounds_ne (by omega)]; exact X3.out)
    have yf := hK12.froz
    go_wp2_with fail
    refine hK _ _ ((HBS.out.low hb12).set (R := X) (by simp) _ _) ?_
    clear hK K y1 yf
    replace KX := hid (hK12.set (52 + b) (.slice pv l.length cap))
    replace HBS := hid ((HBS.out.low hb12).set (R := X) (by simp) (52 + b) (.slice pv l.length cap))
    clear hb12 hK12
    generalize W12.setCell ⟨X, 52 + b, none⟩ (.slice pv l.length cap) = W13 at *
    apply p_done
    intro W14 hb14
    replace KX := hid (KX.out.low hb14)
    replace HBS := hid (HBS.out.low hb14)
    clear hb14
    go_wp2_with fail
    go_end0
    exact ⟨rfl, hPost.out _ HBS.out, HB6.out.trans (HBS.out.below (fun k hk => by rw [List.mem_singleton] at hk; subst hk; exact hbX) (Nat.le_trans hbw HB6.out.size))⟩
   ·have hR5 : Hid (clsR x s = .ok (x.addC s l)) := by rw [hClsR.out, hC.out]; show Hid ((match (if p < s.size then (Res.bad 90 p : Res (List One)) else .ok l p) with | .ok l _ => Out.ok (x.addC s l) | .bad e p => .bad e p) = _); rw [if_neg hp]; exact hid rfl
    have hkn := (hk.ge hp).1
    rw [hnp] at hkn
    subst hkn
    have q1 : decide ((k : Int) < k) = false := by simp
    have q2 : decide (k < k) = false := by simp
    clear hp hk hnp
    go_wp2_with fail
    refine region_plan [] (.quiet 0 (.quiet 1 (.quiet 2 (.quiet 3 (.quiet 4 (.quiet 5 (.quiet 6 (.quiet 7 (.quiet 8 (.quiet 9 (.quiet 10 (.quiet 11 (.quiet 12 (.quiet 13 (.quiet 14 (.quiet 15 (.quiet 16 .done))))))))))))))))) (by kernel_rfl) (by kernel_rfl) ?_
    repeat (apply p_quiet; (case hi => rfl); intro K hK; go_simp; (refine ⟨hK _ ?_⟩; clear hK K))
    apply p_done
    intro W6 hb6
    have HL6 := hid (HL.out.low hb6)
    have HV6 := hid (own_low HV.out hb6)
    have D6 := hid (D5.out.step (r' := (.ok l p : Res (List One))) ⟨k, HK.out, HL6.out⟩ (.of hb6))
    have hRX : R ≠ X := D6.out.ne.symm
    clear hb6 c0 c1 c2 c3 c4 c5 cf HL D5 HV
    have HB6 := hid D6.out.b
    have HD6 := hid D6.out.d
    go_wp2_with fail
    have HE := hid HL6.out.c6
    obtain ⟨c0, c1, c2, c3, c4, c5, cf⟩ := HE.out
    obtain ⟨c, Vc, v0, hc1, hc2, hc3, hc4, hc5⟩ := HD6.out.ex
    obtain ⟨x1, x2, x3, _⟩ := hc3 b hb26
    have HC1 := hid hc1
    have HC2 := hid hc2
    have HC3 := hid hc3
    have HC4 := hid hc4
    have HC5 := hid hc5
    have X1 := hid x1
    have X2 := hid x2
    have X3 := hid x3
    clear hc1 hc2 hc3 hc4 hc5 x1 x2 x3
    refine region_plan [X] (.quiet 0 (.quiet 1 (.quiet 2 (.quiet 3 (.quiet 4 (.quiet 5 (.quiet 6 (.quiet 7 (.quiet 8 (.quiet 9 (.quiet 10 (.quiet 11 (.quiet 12 (.quiet 13 (.quiet 14 (.quiet 15 (.quiet 16 (.quiet 17 (.quiet 18 (.quiet 19 (.quiet 20 (.quiet 21 (.quiet 22 (.quiet 24 (.quiet 25 (.quiet 28 (.quiet 29 (.one 23 (.quiet 26 (.one 27 (.quiet 30 (.one 31 .done)))))))))))))))))))))))))))))))) (by kernel_rfl) (by kernel_rfl) ?_
    repeat (apply p_quiet; (case hi => rfl); intro K hK; go_simp; (refine ⟨hK _ ?_⟩; clear hK K))
    apply p_one
    case hi => rfl
    intro W8 hb8 K hK
    have hK8 := HC1.out.low hb8
    have y1 := hK8.cell X1.out
    have yf := hK8.froz
    go_wp2_with fail
    refine hK _ _ ((ButS.of hb8).set (by simp) _ _) ?_
    clear hK K y1 yf
    have KX := hid (hK8.set b (.bool true))
    have HBS := hid (((ButS.of hb8).set (S := [X]) (R := X) (by simp) b (.bool true)))
    clear hb8 hK8
    generalize W8.setCell ⟨X, b, none⟩ (.bool true) = W9 at *
    repeat (apply p_quiet; (case hi => rfl); intro K hK; go_simp; (refine ⟨hK _ ?_⟩; clear hK K))
    apply p_one
    case hi => rfl
    intro W10 hb10 K hK
    have hK10 := KX.out.low hb10
    have y1 : W10.cell? ⟨X, 26 + b, none⟩ = some (.string (x.ln b)) := hK10.cell (by rw [Array.getElem?_setIfInBounds_ne (by omega)]; exact X2.out)
    have yf := hK10.froz
    go_wp2_with fail
    refine hK _ _ ((HBS.out.low hb10).set (R := X) (by simp) _ _) ?_
    clear hK K y1 yf
    replace KX := hid (hK10.set (26 + b) (.string s))
    replace HBS := hid ((HBS.out.low hb10).set (R := X) (by simp) (26 + b) (.string s))
    clear hb10 hK10
    generalize W10.setCell ⟨X, 26 + b, none⟩ (.string s) = W11 at *
    repeat (apply p_quiet; (case hi => rfl); intro K hK; go_simp; (refine ⟨hK _ ?_⟩; clear hK K))
    apply p_one
    case hi => rfl
    intro W12 hb12 K hK
    have hK12 := KX.out.low hb12
    have y1 : W12.cell? ⟨X, 52 + b, none⟩ = some (Vc b) := hK12.cell (by rw [Array.getElem?_setIfInBounds_ne (by omega), Array.getElem?_setIfInBounds_ne (by omega)]; exact X3.out)
    have yf := hK12.froz
    go_wp2_with fail
    refine hK _ _ ((HBS.out.low hb12).set (R := X) (by simp) _ _) ?_
    clear hK K y1 yf
    replace KX := hid (hK12.set (52 + b) (.slice pv l.length cap))
    replace HBS := hid ((HBS.out.low hb12).set (R := X) (by simp) (52 + b) (.slice pv l.length cap))
    clear hb12 hK12
    generalize W12.setCell ⟨X, 52 + b, none⟩ (.slice pv l.length cap) = W13 at *
    apply p_done
    intro W14 hb14
    replace KX := hid (KX.out.low hb14)
    replace HBS := hid (HBS.out.low hb14)
    clear hb14
    go_wp2_with fail
    go_end0
    refine ⟨rfl, ?_, HB6.out.trans (HBS.out.below (fun k hk => by rw [List.mem_singleton] at hk; subst hk; exact hbX) (Nat.le_trans hbw HB6.out.size))⟩
    rw [hR5.out]
    refine ⟨⟨k, HL6.out.but HBS.out (by simpa using hRX) (fun B hB => by rw [List.mem_singleton] at hB; subst hB; exact ⟨31, _, by decide, HC1.out⟩)⟩, ?_⟩
    exact DAt.addC HC1.out HC2.out HC3.out HC4.out HC5.out HBS.out KX.out hb26 hN.out HV6.out
 ·go_enter Tryz.func27, Tryz.ntmps27
  go_wp2_with fail
  go_at_call 41
  with_reducible refine Calls.mono (hW.out) ?_
  rintro e w1 ⟨rfl, hL1, hB1⟩
  have HL1 := hid hL1
  have HB1 := hid hB1
  clear hL1 hB1 c0 c1 c2 c3 c4 c5 cf
  obtain ⟨c0, c1, c2, c3, c4, c5, cf⟩ := HL1.out.c6
  go_wp2_with fail
  have D1 : Hid (LD w (w1.setCell ⟨R, 2, none⟩ (.int .i64 1)) base R X s lv x (cls0 x s)) := by
   rw [h0.out]
   exact hid (D0.out.step (r' := (.bad 91 0 : Res Unit)) ⟨by decide, _, HL1.out.go 1⟩ (HB1.out.set (by simp) 2 _))
  clear D0 H0 h0 c0 c1 c2 c3 c4 c5 cf xc hW q1 q2 hK1 HL1 HB1
  generalize w1.setCell ⟨R, 2, none⟩ (.int .i64 1) = W1 at *
  go_at_call 42
  with_reducible refine Calls.mono (lmust_st D1.out.st 32 (by decide) hs) ?_
  rintro e w2 ⟨rfl, hs2, hb2⟩
  have D2 := hid (D1.out.step hs2 hb2)
  clear hs2 hb2 D1
  go_wp2_with fail
  go_at_call 42
  with_reducible refine Calls.mono (lmust_st D2.out.st 61 (by decide) hs) ?_
  rintro e w3 ⟨rfl, hs3, hb3⟩
  have D3 := hid (D2.out.step hs3 hb3)
  clear hs3 hb3 D2
  go_wp2_with fail
  go_at_call 42
  with_reducible refine Calls.mono (lmust_st D3.out.st 32 (by decide) hs) ?_
  rintro e w4 ⟨rfl, hs4, hb4⟩
  have D4 := hid (D3.out.step hs4 hb4)
  clear hs4 hb4 D3
  go_wp2_with fail
  go_at_call 43
  with_reducible refine Calls.mono (lpieces_st D4.out.st hs) ?_
  rintro e w5 ⟨v, rfl, hP5⟩
  skip
  replace hP5 : PSt w4 w5 R s lv (.pointer (some ⟨X, 0, none⟩)) 0 138 3 One.cells (cls4 x s) v := hP5
  have D5 : Hid (LD w w5 base R X s lv x (cls4 x s)) := hid (D4.out.step hP5.1 hP5.2.1)
  have hbs4 : base ≤ w4.heap.size := Nat.le_trans D4.out.hw D4.out.b.size
  clear D4
  cases hr4 : cls4 x s with
  | bad e q =>
   rw [hr4] at D5 hP5 hC
   obtain ⟨_, _, pv, n, cap, rfl⟩ := hP5
   obtain ⟨he, k, hL⟩ := D5.out.st
   have hR5 : Hid (clsR x s = .bad e q) := by rw [hClsR.out, hC.out]; exact hid rfl
   have HL := hid hL
   have q1 : (e == 0) = false := beq_false_of he
   obtain ⟨c0, c1, c2, c3, c4, c5, cf⟩ := HL.out.c6
   clear hr4 hL
   go_wp2_with fail
   refine region_plan [] (.quiet 0 (.quiet 1 (.quiet 2 (.quiet 3 (.quiet 4 (.quiet 5 (.quiet 6 (.quiet 7 (.quiet 8 (.quiet 9 (.quiet 10 (.quiet 11 (.quiet 12 (.quiet 13 (.quiet 14 (.quiet 15 (.quiet 16 .done))))))))))))))))) (by kernel_rfl) (by kernel_rfl) ?_
   repeat (apply p_quiet; (case hi => rfl); intro K hK; go_simp; (refine ⟨hK _ ?_⟩; clear hK K))
   apply p_done
   intro W6 hb6
   have HL6 := hid (HL.out.low hb6)
   have HD6 := hid (D5.out.d.low hb6)
   have HB6 := hid (D5.out.b.trans (hb6.mono (Nat.le_trans D5.out.hw D5.out.b.size)))
   have hRX : R ≠ X := D5.out.ne.symm
   clear hb6 c0 c1 c2 c3 c4 c5 cf
   have hPost : Hid (∀ w' : World, ButS [X] W6 w' → DPost w' base R X s lv (clsR x s)) := by
    rw [hR5.out]
    exact hid (fun w' hb => ⟨he, k, HL6.out.but hb (by simpa using hRX) (fun B hB => by rw [List.mem_singleton] at hB; subst hB; obtain ⟨c, hc, _⟩ := HD6.out.blk; exact ⟨31, c, by decide, hc⟩)⟩)
   go_wp2_with fail
   have HE := hid HL6.out.c6
   obtain ⟨c0, c1, c2, c3, c4, c5, cf⟩ := HE.out
   obtain ⟨c, Vc, v0, hc1, hc2, hc3, hc4, hc5⟩ := HD6.out.ex
   obtain ⟨x1, x2, x3, _⟩ := hc3 b hb26
   have HC1 := hid hc1
   have HC2 := hid hc2
   have X1 := hid x1
   have X2 := hid x2
   have X3 := hid x3
   clear hc1 hc2 hc3 hc4 hc5 x1 x2 x3
   refine region_plan [X] (.quiet 0 (.quiet 1 (.quiet 2 (.quiet 3 (.quiet 4 (.quiet 5 (.quiet 6 (.quiet 7 (.quiet 8 (.quiet 9 (.quiet 10 (.quiet 11 (.quiet 12 (.quiet 13 (.quiet 14 (.quiet 15 (.quiet 16 (.quiet 17 (.quiet 18 (.quiet 19 (.quiet 20 (.quiet 21 (.quiet 22 (.quiet 24 (.quiet 25 (.quiet 28 (.quiet 29 (.one 23 (.quiet 26 (.one 27 (.quiet 30 (.one 31 .done)))))))))))))))))))))))))))))))) (by kernel_rfl) (by kernel_rfl) ?_
   repeat (apply p_quiet; (case hi => rfl); intro K hK; go_simp; (refine ⟨hK _ ?_⟩; clear hK K))
   apply p_one
   case hi => rfl
   intro W8 hb8 K hK
   have hK8 := HC1.out.low hb8
   have y1 := hK8.cell X1.out
   have yf := hK8.froz
   go_wp2_with fail
   refine hK _ _ ((ButS.of hb8).set (by simp) _ _) ?_
   clear hK K y1 yf
   have KX := hid (hK8.set b (.bool true))
   have HBS := hid (((ButS.of hb8).set (S := [X]) (R := X) (by simp) b (.bool true)))
   clear hb8 hK8
   generalize W8.setCell ⟨X, b, none⟩ (.bool true) = W9 at *
   repeat (apply p_quiet; (case hi => rfl); intro K hK; go_simp; (refine ⟨hK _ ?_⟩; clear hK K))
   apply p_one
   case hi => rfl
   intro W10 hb10 K hK
   have hK10 := KX.out.low hb10
   have y1 : W10.cell? ⟨X, 26 + b, none⟩ = some (.string (x.ln b)) := hK10.cell (by rw [Array.getElem?_setIfInBounds_ne (by omega)]; exact X2.out)
   have yf := hK10.froz
   go_wp2_with fail
   refine hK _ _ ((HBS.out.low hb10).set (R := X) (by simp) _ _) ?_
   clear hK K y1 yf
   replace KX := hid (hK10.set (26 + b) (.string s))
   replace HBS := hid ((HBS.out.low hb10).set (R := X) (by simp) (26 + b) (.string s))
   clear hb10 hK10
   generalize W10.setCell ⟨X, 26 + b, none⟩ (.string s) = W11 at *
   repeat (apply p_quiet; (case hi => rfl); intro K hK; go_simp; (refine ⟨hK _ ?_⟩; clear hK K))
   apply p_one
   case hi => rfl
   intro W12 hb12 K hK
   have hK12 := KX.out.low hb12
   have y1 : W12.cell? ⟨X, 52 + b, none⟩ = some (Vc b) := hK12.cell (by rw [Array.getElem?_setIfInBounds_ne (by omega), Array.getElem?_setIfInBounds_ne (by omega)]; exact X3.out)
   have yf := hK12.froz
   go_wp2_with fail
   refine hK _ _ ((HBS.out.low hb12).set (R := X) (by simp) _ _) ?_
   clear hK K y1 yf
   replace KX := hid (hK12.set (52 + b) (.slice pv n cap))
   replace HBS := hid ((HBS.out.low hb12).set (R := X) (by simp) (52 + b) (.slice pv n cap))
   clear hb12 hK12
   generalize W12.setCell ⟨X, 52 + b, none⟩ (.slice pv n cap) = W13 at *
   apply p_done
   intro W14 hb14
   replace KX := hid (KX.out.low hb14)
   replace HBS := hid (HBS.out.low hb14)
   clear hb14
   go_wp2_with fail
   go_end0
   exact ⟨rfl, hPost.out _ HBS.out, HB6.out.trans (HBS.out.below (fun k hk => by rw [List.mem_singleton] at hk; subst hk; exact hbX) (Nat.le_trans hbw HB6.out.size))⟩
  | ok l p =>
   rw [hr4] at D5 hP5 hC
   obtain ⟨_, _, hv, hl64⟩ := hP5
   obtain ⟨pv, cap, rfl⟩ := own_shape hv
   have HV := hid (own_mono hv hbs4)
   obtain ⟨k, hk, hL⟩ := D5.out.st
   have HL := hid hL
   have HK := hid hk
   obtain ⟨np, hnp⟩ : ∃ np, (posL s 0).length = np := ⟨_, rfl⟩
   obtain ⟨pl, cl, hlv⟩ := HL.out.shape
   rw [hnp] at hlv
   obtain ⟨c0, c1, c2, c3, c4, c5, cf⟩ := HL.out.c6
   rw [hlv] at c1
   clear hr4 hL hv
   by_cases hp : p < s.size
   ·have hR5 : Hid (clsR x s = .bad 90 p) := by rw [hClsR.out, hC.out]; show Hid ((match (if p < s.size then (Res.bad 90 p : Res (List One)) else .ok l p) with | .ok l _ => Out.ok (x.addC s l) | .bad e p => .bad e p) = _); rw [if_pos hp]; exact hid rfl
    have hkn := hk.lt hp
    rw [hnp] at hkn
    have q1 := dT (show (k : Int) < np by omega)
    have q2 : decide (k < np) = true := decide_eq_true hkn
    clear hp hk hnp hkn
    go_wp2_with fail
    refine region_plan [] (.quiet 0 (.quiet 1 (.quiet 2 (.quiet 3 (.quiet 4 (.quiet 5 (.quiet 6 (.quiet 7 (.quiet 8 (.quiet 9 (.quiet 10 (.quiet 11 (.quiet 12 (.quiet 13 (.quiet 14 (.quiet 15 (.quiet 16 .done))))))))))))))))) (by kernel_rfl) (by kernel_rfl) ?_
    repeat (apply p_quiet; (case hi => rfl); intro K hK; go_simp; (refine ⟨hK _ ?_⟩; clear hK K))
    apply p_done
    intro W6 hb6
    have HL6 := hid (HL.out.low hb6)
    have D6 := hid (D5.out.step (r' := (.ok l p : Res (List One))) ⟨k, HK.out, HL6.out⟩ (.of hb6))
    clear hb6 c0 c1 c2 c3 c4 c5 cf HL D5
    go_wp2_with fail
    go_at_call 41
    with_reducible refine Calls.mono (wrong_new HL6.out HK.out 90) ?_
    rintro e w7 ⟨rfl, hL7, hB7⟩
    skip
    have D7 := hid (D6.out.step (r' := (.bad 90 p : Res (List One))) ⟨by decide, _, hL7⟩ hB7)
    have HL7 := hid hL7
    have hRX : R ≠ X := D7.out.ne.symm
    clear hL7 hB7 D6
    have HB6 := hid D7.out.b
    have HD6 := hid D7.out.d
    go_wp2_with fail
    have hPost : Hid (∀ w' : World, ButS [X] w7 w' → DPost w' base R X s lv (clsR x s)) := by
     rw [hR5.out]
     exact hid (fun w' hb => ⟨by decide, k, HL7.out.but hb (by simpa using hRX) (fun B hB => by rw [List.mem_singleton] at hB; subst hB; obtain ⟨c, hc, _⟩ := HD6.out.blk; exact ⟨31, c, by decide, hc⟩)⟩)
    have HE := hid HL7.out.c6
    obtain ⟨c0, c1, c2, c3, c4, c5, cf⟩ := HE.out
    obtain ⟨c, Vc, v0, hc1, hc2, hc3, hc4, hc5⟩ := HD6.out.ex
    obtain ⟨x1, x2, x3, _⟩ := hc3 b hb26
    have HC1 := hid hc1
    have HC2 := hid hc2
    have X1 := hid x1
    have X2 := hid x2
    have X3 := hid x3
    clear hc1 hc2 hc3 hc4 hc5 x1 x2 x3
    refine region_plan [X] (.quiet 0 (.quiet 1 (.quiet 2 (.quiet 3 (.quiet 4 (.quiet 5 (.quiet 6 (.quiet 7 (.quiet 8 (.quiet 9 (.quiet 10 (.quiet 11 (.quiet 12 (.quiet 13 (.quiet 14 (.quiet 15 (.quiet 16 (.quiet 17 (.quiet 18 (.quiet 19 (.quiet 20 (.quiet 21 (.quiet 22 (.quiet 24 (.quiet 25 (.quiet 28 (.quiet 29 (.one 23 (.quiet 26 (.one 27 (.quiet 30 (.one 31 .done)))))))))))))))))))))))))))))))) (by kernel_rfl) (by kernel_rfl) ?_
    repeat (apply p_quiet; (case hi => rfl); intro K hK; go_simp; (refine ⟨hK _ ?_⟩; clear hK K))
    apply p_one
    case hi => rfl
    intro W8 hb8 K hK
    have hK8 := HC1.out.low hb8
    have y1 := hK8.cell X1.out
    have yf := hK8.froz
    go_wp2_with fail
    refine hK _ _ ((ButS.of hb8).set (by simp) _ _) ?_
    clear hK K y1 yf
    have KX := hid (hK8.set b (.bool true))
    have HBS := hid (((ButS.of hb8).set (S := [X]) (R := X) (by simp) b (.bool true)))
    clear hb8 hK8
    generalize W8.setCell ⟨X, b, none⟩ (.bool true) = W9 at *
    repeat (apply p_quiet; (case hi => rfl); intro K hK; go_simp; (refine ⟨hK _ ?_⟩; clear hK K))
    apply p_one
    case hi => rfl
    intro W10 hb10 K hK
    have hK10 := KX.out.low hb10
    have y1 : W10.cell? ⟨X, 26 + b, none⟩ = some (.string (x.ln b)) := hK10.cell (by rw [Array.getElem?_setIfInBounds_ne (by omega)]; exact X2.out)
    have yf := hK10.froz
    go_wp2_with fail
    refine hK _ _ ((HBS.out.low hb10).set (R := X) (by simp) _ _) ?_
    clear hK K y1 yf
    replace KX := hid (hK10.set (26 + b) (.string s))
    replace HBS := hid ((HBS.out.low hb10).set (R := X) (by simp) (26 + b) (.string s))
    clear hb10 hK10
    generalize W10.setCell ⟨X, 26 + b, none⟩ (.string s) = W11 at *
    repeat (apply p_quiet; (case hi => rfl); intro K hK; go_simp; (refine ⟨hK _ ?_⟩; clear hK K))
    apply p_one
    case hi => rfl
    intro W12 hb12 K hK
    have hK12 := KX.out.low hb12
    have y1 : W12.cell? ⟨X, 52 + b, none⟩ = some (Vc b) := hK12.cell (by rw [Array.getElem?_setIfInBounds_ne (by omega), Array.getElem?_setIfInBounds_ne (by omega)]; exact X3.out)
    have yf := hK12.froz
    go_wp2_with fail
    refine hK _ _ ((HBS.out.low hb12).set (R := X) (by simp) _ _) ?_
    clear hK K y1 yf
    replace KX := hid (hK12.set (52 + b) (.slice pv l.length cap))
    replace HBS := hid ((HBS.out.low hb12).set (R := X) (by simp) (52 + b) (.slice pv l.length cap))
    clear hb12 hK12
    generalize W12.setCell ⟨X, 52 + b, none⟩ (.slice pv l.length cap) = W13 at *
    apply p_done
    intro W14 hb14
    replace KX := hid (KX.out.low hb14)
    replace HBS := hid (HBS.out.low hb14)
    clear hb14
    go_wp2_with fail
    go_end0
    exact ⟨rfl, hPost.out _ HBS.out, HB6.out.trans (HBS.out.below (fun k hk => by rw [List.mem_singleton] at hk; subst hk; exact hbX) (Nat.le_trans hbw HB6.out.size))⟩
   ·have hR5 : Hid (clsR x s = .ok (x.addC s l)) := by rw [hClsR.out, hC.out]; show Hid ((match (if p < s.size then (Res.bad 90 p : Res (List One)) else .ok l p) with | .ok l _ => Out.ok (x.addC s l) | .bad e p => .bad e p) = _); rw [if_neg hp]; exact hid rfl
    have hkn := (hk.ge hp).1
    rw [hnp] at hkn
    subst hkn
    have q1 : decide ((k : Int) < k) = false := by simp
    have q2 : decide (k < k) = false := by simp
    clear hp hk hnp
    go_wp2_with fail
    refine region_plan [] (.quiet 0 (.quiet 1 (.quiet 2 (.quiet 3 (.quiet 4 (.quiet 5 (.quiet 6 (.quiet 7 (.quiet 8 (.quiet 9 (.quiet 10 (.quiet 11 (.quiet 12 (.quiet 13 (.quiet 14 (.quiet 15 (.quiet 16 .done))))))))))))))))) (by kernel_rfl) (by kernel_rfl) ?_
    repeat (apply p_quiet; (case hi => rfl); intro K hK; go_simp; (refine ⟨hK _ ?_⟩; clear hK K))
    apply p_done
    intro W6 hb6
    have HL6 := hid (HL.out.low hb6)
    have HV6 := hid (own_low HV.out hb6)
    have D6 := hid (D5.out.step (r' := (.ok l p : Res (List One))) ⟨k, HK.out, HL6.out⟩ (.of hb6))
    have hRX : R ≠ X := D6.out.ne.symm
    clear hb6 c0 c1 c2 c3 c4 c5 cf HL D5 HV
    have HB6 := hid D6.out.b
    have HD6 := hid D6.out.d
    go_wp2_with fail
    have HE := hid HL6.out.c6
    obtain ⟨c0, c1, c2, c3, c4, c5, cf⟩ := HE.out
    obtain ⟨c, Vc, v0, hc1, hc2, hc3, hc4, hc5⟩ := HD6.out.ex
    obtain ⟨x1, x2, x3, _⟩ := hc3 b hb26
    have HC1 := hid hc1
    have HC2 := hid hc2
    have HC3 := hid hc3
    have HC4 := hid hc4
    have HC5 := hid hc5
    have X1 := hid x1
    have X2 := hid x2
    have X3 := hid x3
    clear hc1 hc2 hc3 hc4 hc5 x1 x2 x3
    refine region_plan [X] (.quiet 0 (.quiet 1 (.quiet 2 (.quiet 3 (.quiet 4 (.quiet 5 (.quiet 6 (.quiet 7 (.quiet 8 (.quiet 9 (.quiet 10 (.quiet 11 (.quiet 12 (.quiet 13 (.quiet 14 (.quiet 15 (.quiet 16 (.quiet 17 (.quiet 18 (.quiet 19 (.quiet 20 (.quiet 21 (.quiet 22 (.quiet 24 (.quiet 25 (.quiet 28 (.quiet 29 (.one 23 (.quiet 26 (.one 27 (.quiet 30 (.one 31 .done)))))))))))))))))))))))))))))))) (by kernel_rfl) (by kernel_rfl) ?_
    repeat (apply p_quiet; (case hi => rfl); intro K hK; go_simp; (refine ⟨hK _ ?_⟩; clear hK K))
    apply p_one
    case hi => rfl
    intro W8 hb8 K hK
    have hK8 := HC1.out.low hb8
    have y1 := hK8.cell X1.out
    have yf := hK8.froz
    go_wp2_with fail
    refine hK _ _ ((ButS.of hb8).set (by simp) _ _) ?_
    clear hK K y1 yf
    have KX := hid (hK8.set b (.bool true))
    have HBS := hid (((ButS.of hb8).set (S := [X]) (R := X) (by simp) b (.bool true)))
    clear hb8 hK8
    generalize W8.setCell ⟨X, b, none⟩ (.bool true) = W9 at *
    repeat (apply p_quiet; (case hi => rfl); intro K hK; go_simp; (refine ⟨hK _ ?_⟩; clear hK K))
    apply p_one
    case hi => rfl
    intro W10 hb10 K hK
    have hK10 := KX.out.low hb10
    have y1 : W10.cell? ⟨X, 26 + b, none⟩ = some (.string (x.ln b)) := hK10.cell (by rw [Array.getElem?_setIfInBounds_ne (by omega)]; exact X2.out)
    have yf := hK10.froz
    go_wp2_with fail
    refine hK _ _ ((HBS.out.low hb10).set (R := X) (by simp) _ _) ?_
    clear hK K y1 yf
    replace KX := hid (hK10.set (26 + b) (.string s))
    replace HBS := hid ((HBS.out.low hb10).set (R := X) (by simp) (26 + b) (.string s))
    clear hb10 hK10
    generalize W10.setCell ⟨X, 26 + b, none⟩ (.string s) = W11 at *
    repeat (apply p_quiet; (case hi => rfl); intro K hK; go_simp; (refine ⟨hK _ ?_⟩; clear hK K))
    apply p_one
    case hi => rfl
    intro W12 hb12 K hK
    have hK12 := KX.out.low hb12
    have y1 : W12.cell? ⟨X, 52 + b, none⟩ = some (Vc b) := hK12.cell (by rw [Array.getElem?_setIfInBounds_ne (by omega), Array.getElem?_setIfInBounds_ne (by omega)]; exact X3.out)
    have yf := hK12.froz
    go_wp2_with fail
    refine hK _ _ ((HBS.out.low hb12).set (R := X) (by simp) _ _) ?_
    clear hK K y1 yf
    replace KX := hid (hK12.set (52 + b) (.slice pv l.length cap))
    replace HBS := hid ((HBS.out.low hb12).set (R := X) (by simp) (52 + b) (.slice pv l.length cap))
    clear hb12 hK12
    generalize W12.setCell ⟨X, 52 + b, none⟩ (.slice pv l.length cap) = W13 at *
    apply p_done
    intro W14 hb14
    replace KX := hid (KX.out.low hb14)
    replace HBS := hid (HBS.out.low hb14)
    clear hb14
    go_wp2_with fail
    go_end0
    refine ⟨rfl, ?_, HB6.out.trans (HBS.out.below (fun k hk => by rw [List.mem_singleton] at hk; subst hk; exact hbX) (Nat.le_trans hbw HB6.out.size))⟩
    rw [hR5.out]
    refine ⟨⟨k, HL6.out.but HBS.out (by simpa using hRX) (fun B hB => by rw [List.mem_singleton] at hB; subst hB; exact ⟨31, _, by decide, HC1.out⟩)⟩, ?_⟩
    exact DAt.addC HC1.out HC2.out HC3.out HC4.out HC5.out HBS.out KX.out hb26 hN.out HV6.out
end Go.Proofs.YtieifhfgedoiaaaGreatDoor
/- The document's phones: all phones of a text; what a text of phones says. Conditions: those of each theorem. -/
namespace Go.Proofs.YtieifhfgedoiaaaGreatDoor
open Go.RowKit Go.Lib
set_option linter.unusedVariables false
set_option linter.unusedSimpArgs false
attribute [local go_sem] ExtS.cell ExtS.froz upE_value upE_skip upE_enter Ext.cell Ext.froz
theorem info3 : (Tryz.prog.info? 3).map (fun i => (i.zero, i.size, i.bytes)) = some (some (.int .i64 0), 1, 8) := by kernel_rfl
def phC (x : Ph × Nat) : List Value := x.1.cells
def atC (x : Ph × Nat) : List Value := [.int .i64 x.2]
theorem own_grown {w w' : World} {base n size : Nat} {e : TypeId} {v : Value} {xs : List Value} (h : w.ownsRow base e size v n xs) {row : Option Nat} (hg : w.grownBy w' row) (hb : ∀ g, row = some g → ∃ t a, t ≠ e ∧ Blk w g t a) : w'.ownsRow base e size v n xs :=
 own_butT h ((ButS.refl row.toList w).grownS hg (fun k hk => by subst hk; simp)) (fun B hm => by rw [Option.mem_toList] at hm; exact hb _ hm)
theorem cells_new1 (w : World) (v : Value) (T : TypeId) : ∀ j u, [v][j]? = some u → (w.alloc (.cells #[v] T)).cell? ((⟨w.heap.size, 0, none⟩ : Addr).add j) = some u := by
 intro j u hj
 match j, hj with
 | 0, hj => simp at hj; subst hj; simp [Addr.add]
 | j + 1, hj => simp at hj
structure Ea (w W : World) (vl vf : Value) (acc : List (Ph × Nat)) : Prop where
 l : W.ownsRow w.heap.size 60 3 vl acc.length (flatE phC acc)
 f : W.ownsRow w.heap.size 3 1 vf acc.length (flatE atC acc)
 b : Below w.heap.size w W
theorem Ea.low {w W W' : World} {vl vf : Value} {acc : List (Ph × Nat)} (h : Ea w W vl vf acc) (hb : Below W.heap.size W W') : Ea w W' vl vf acc := ⟨own_low h.l hb, own_low h.f hb, bnext h.b hb⟩
set_option maxRecDepth 100000 in
set_option maxHeartbeats 4000000 in
theorem each85 (s : ByteArray) (hs : s.size ≤ 100000000) (w : World) : Calls Tryz.prog 64 #[.string s] w fun e w' => ∃ vl vf, e = .returned (.tuple #[vl, vf, .int .i64 (phsR s 0 []).2]) ∧ Ea w w' vl vf (phsR s 0 []).1 := by
 obtain ⟨i0, hi, hz0, hz1, hz2⟩ := info_parts info66
 obtain ⟨j0, hj, hy0, hy1, hy2⟩ := info_parts info3
 have hNx := hid (fun a (ha : a < s.size) w => next96 s a ha hs w)
 go_enter Tryz.func64, Tryz.ntmps64
 go_wp2_with fail
 go_loopw [5, 6, 7] (fun v5 v6 v7 wr => ∃ (q : Nat) (acc : List (Ph × Nat)), v7 = .int .i64 q ∧ q ≤ s.size ∧ acc.length ≤ q ∧ Hid (Ea w wr v5 v6 acc) ∧ Hid (phsR s 0 [] = phsR s q acc)) (fun _ _ v _ => s.size - (RowKit.intOf v).toNat)
 case atStart => exact ⟨0, [], rfl, by omega, by simp, hid ⟨World.ownsRow_nil _ _ _ _, World.ownsRow_nil _ _ _ _, Below.refl _ _⟩, hid rfl⟩
 case round =>
  obtain ⟨q, acc, rfl, hq, hacc, hE, hS⟩ := hrel
  obtain ⟨pl, cl, rfl⟩ := own_shape hE.out.l
  obtain ⟨pf, cf, rfl⟩ := own_shape hE.out.f
  by_cases hlt : q < s.size
  ·have q1 := dT (show (q : Int) < s.size by omega)
   have hN := hid (fun w => hNx.out q hlt w)
   cases hph : phAt s q with
   | none =>
    have hn : nextP s q = (⟨0, false, 0⟩, 0) := by unfold nextP; rw [hph]
    rw [hn] at hN
    simp only [Ph.val] at hN
    have hE2 := hid (phsR_no (acc := acc) hlt hph)
    go_wp2_with fail
    go_at_call 79
    with_reducible refine Calls.mono (hN.out _) ?_
    rintro e w2 ⟨rfl, hb2⟩
    have HE := hid ((hE.out.low hb2).low ((Below.refl _ _).alloc (Nat.le_refl _) (.cells #[.int .i32 0, .bool false, .int .i32 0] 60)))
    clear hb2
    go_wp2_with fail
    refine bodyPost_ret_by (v := .tuple #[.slice pl acc.length cl, .slice pf acc.length cf, .int .i64 q]) (by simp [results, Tryz.results64, go_sem]) rfl ?_
    exact ⟨_, _, by rw [hS.out, hE2.out], by rw [hS.out, hE2.out]; exact HE.out⟩
   | some xn =>
    obtain ⟨⟨xr, xl, xg⟩, n⟩ := xn
    have hn : nextP s q = (⟨xr, xl, xg⟩, n) := by unfold nextP; rw [hph]
    rw [hn] at hN
    simp only [Ph.val] at hN
    obtain ⟨hn1, hn2⟩ := phAt_pos hlt hph
    have q2 : ((n : Int) == 0) = false := beq_false_of (by omega)
    have hw1 : IntKind.i64.wrap ((q : Int) + n) = (q : Int) + n := Wi64 (by omega)
    have hE2 := hid (phsR_more (acc := acc) hlt hph)
    obtain ⟨m, hm⟩ : ∃ m, acc.length = m := ⟨_, rfl⟩
    rw [hm] at hacc
    have hmm := hid hm
    go_wp2_with fail
    go_at_call 79
    with_reducible refine Calls.mono (hN.out _) ?_
    rintro e w2 ⟨rfl, hb2⟩
    skip
    have HE := hid ((hE.out.low hb2).low ((Below.refl _ _).alloc (Nat.le_refl _) (.cells #[.int .i32 xr, .bool xl, .int .i32 xg] 60)))
    have KP := hid (Blk.new w2 60 #[.int .i32 xr, .bool xl, .int .i32 xg])
    have HLo := hid HE.out.l
    rw [hm] at HLo
    have hlw : w.heap.size ≤ (w2.alloc (.cells #[.int .i32 xr, .bool xl, .int .i32 xg] 60)).heap.size := HE.out.b.size
    clear hb2
    go_wp2_with (at_builtin; refine wpList_append_own _ rfl (.tmp 25) (.tmp 27) 36 rfl w.heap.size 60 i0 _ 3 12 Tryz.underlying36 hi hz0 hz1 hz2 rfl (by decide) _ _ _ rfl (HLo.out.alloc _) ⟨w2.heap.size + 1, 0, none⟩ 1 1 [.int .i32 xr, .bool xl, .int .i32 xg] rfl rfl (cells_next3 _ _ _ _ _ _) (by simp [Value.oneCell']) (by unfold maxLen; omega) (by omega) (by simp at hlw; simp <;> omega) ?_; refine stop_here ?_)
    refine hid ?_
    intro v1 w5 hown1 hgrow1 hnil1
    have hb4 := hid ((HE.out.b.alloc HE.out.b.size (.cells #[.int .i32 xr, .bool xl, .int .i32 xg] 60)).grown hgrow1 (by simp at hlw; simp <;> omega) (fun k hk => (own_ge HLo.out hk).1))
    have HF5 := hid (own_grown (HE.out.f.alloc (.cells #[.int .i32 xr, .bool xl, .int .i32 xg] 60)) hgrow1 (fun g hg => by obtain ⟨a, ha⟩ := own_blk (HLo.out.alloc _) hg; exact ⟨60, a, by decide, ha⟩))
    have HL5 := hid hown1
    rw [hm] at HF5
    obtain ⟨p1, c1, rfl⟩ := own_shape HL5.out
    have hlw5 : w.heap.size ≤ w5.heap.size := hb4.out.size
    clear hown1 hgrow1 hnil1 HLo
    go_wp2_with (at_builtin; refine wpList_append_own _ rfl (.tmp 29) (.tmp 31) 78 rfl w.heap.size 3 j0 _ 1 8 Tryz.underlying78 hj hy0 hy1 hy2 rfl (by decide) _ _ _ rfl (HF5.out.alloc _) ⟨w5.heap.size, 0, none⟩ 1 1 [.int .i64 q] rfl rfl (cells_new1 _ _ _) (by simp [Value.oneCell']) (by unfold maxLen; omega) (by omega) (by simp <;> omega) ?_; refine stop_here ?_)
    refine hid ?_
    intro v2 w6 hown2 hgrow2 hnil2
    have hb5 := hid ((hb4.out.alloc hb4.out.size (.cells #[.int .i64 q] 3)).grown hgrow2 (by simp <;> omega) (fun k hk => (own_ge HF5.out hk).1))
    have HL6 := hid (own_grown (HL5.out.alloc (.cells #[.int .i64 q] 3)) hgrow2 (fun g hg => by obtain ⟨a, ha⟩ := own_blk (HF5.out.alloc _) hg; exact ⟨3, a, by decide, ha⟩))
    have HE6 : Hid (Ea w w6 (.slice p1 (m + 1) c1) v2 (acc ++ [(⟨xr, xl, xg⟩, q)])) := hid ⟨by rw [List.length_append, hmm.out, flatE_snoc]; exact HL6.out, by rw [List.length_append, hmm.out, flatE_snoc]; exact hown2, hb5.out⟩
    obtain ⟨p2, c2, rfl⟩ := own_shape hown2
    clear hown2 hgrow2 hnil2 HL5 HF5 HL6 hb4 hb5
    go_wp2_with fail
    go_roundw
    case rel => exact ⟨q + n, acc ++ [(⟨xr, xl, xg⟩, q)], by go_num, hn2, by rw [List.length_append, hmm.out]; simp; omega, HE6, by rw [hS.out, hE2.out]; exact hid rfl⟩
    case measure => simp [RowKit.intOf]; omega
  ·have q1 := dF (show ¬ ((q : Int) < s.size) by omega)
   have hE2 := hid (phsR_end (acc := acc) hlt)
   go_wp2_with fail
   refine bodyPost_ret_by (v := .tuple #[.slice pl acc.length cl, .slice pf acc.length cf, .int .i64 q]) (by simp [results, Tryz.results64, go_sem]) rfl ?_
   exact ⟨_, _, by rw [hS.out, hE2.out], by rw [hS.out, hE2.out]; exact hE.out⟩
theorem phC_map (l : List (Ph × Nat)) : flatE phC l = flatE Ph.cells (l.map (·.1)) := by
 unfold flatE
 rw [List.flatMap_map]
 rfl
theorem atC_get {l : List (Ph × Nat)} {k : Nat} {x : Ph × Nat} (h : l[k]? = some x) : (flatE atC l)[k]? = some (.int .i64 x.2) := by
 have := flatE_get atC 1 (fun _ => rfl) l k x h 0 (.int .i64 x.2) rfl
 rw [Nat.mul_one, Nat.add_zero] at this
 exact this
def PhPost (w w' : World) (r : Res (List Ph)) (e : Ending) : Prop :=
 match r with
 | .ok l _ => ∃ v, e = .returned (.tuple #[v, .agg #[.int .i64 0, .int .i64 0]]) ∧ w'.ownsRow w.heap.size 60 3 v l.length (flatE Ph.cells l) ∧ l.length ≤ 128
 | .bad er q => e = .returned (.tuple #[.slice none 0 0, .agg #[.int .i64 er, .int .i64 q]])
set_option maxRecDepth 100000 in
set_option maxHeartbeats 4000000 in
theorem phread69 (s : ByteArray) (hs : s.size ≤ 100000000) (w : World) : Calls Tryz.prog 47 #[.string s] w fun e w' => PhPost w w' (phR s 0) e ∧ Below w.heap.size w w' := by
 have hEa := hid (fun w => each85 s hs w)
 obtain ⟨acc, q, hpq⟩ : ∃ acc q, phsR s 0 [] = (acc, q) := ⟨_, _, rfl⟩
 have hR : phR s 0 = (match acc[128]? with | some x => .bad 3 x.2 | none => if q < s.size then .bad 80 q else .ok (acc.map (·.1)) q) := by unfold phR; rw [hpq]; dsimp only; cases acc[128]? <;> rfl
 rw [hpq] at hEa
 have hRH := hid hR
 clear hR
 go_enter Tryz.func47, Tryz.ntmps47
 go_wp2_with fail
 go_at_call 64
 with_reducible refine Calls.mono (hEa.out _) ?_
 rintro e w2 ⟨vl, vf, rfl, hE⟩
 skip
 have K0 := hid ((Blk.new w 44 #[.int .i64 0, .int .i64 0]).low hE.b)
 have hb2 := hid (((Below.refl w.heap.size w).alloc (Nat.le_refl _) (.cells #[.int .i64 0, .int .i64 0] 44)).trans (hE.b.mono (by simp)))
 have HL := hid (own_mono hE.l (show w.heap.size ≤ (w.alloc (.cells #[.int .i64 0, .int .i64 0] 44)).heap.size by simp))
 have HL0 := hid hE.l
 have HF := hid hE.f
 clear hE
 obtain ⟨pl, cl, rfl⟩ := own_shape HL.out
 obtain ⟨pf, cf, rfl⟩ := own_shape HF.out
 obtain ⟨k0, k1, kf⟩ := K0.out.c2
 have hx0 : ∀ x, acc[128]? = some x → Hid (phR s 0 = .bad 3 x.2) := fun x hx => by rw [hRH.out, hx]; exact hid rfl
 by_cases hl : 128 < acc.length
 ·obtain ⟨x, hx⟩ : ∃ x, acc[128]? = some x := ⟨_, List.getElem?_eq_getElem hl⟩
  have hE := hx0 x hx
  obtain ⟨m, hm⟩ : ∃ m, acc.length = m + 1 := ⟨acc.length - 1, by omega⟩
  have HF' := HF.out
  rw [hm] at HF'
  obtain ⟨g, cap, hgc⟩ := own_block HF'
  have hge := (own_ge HF' (g := g) (by rw [hgc]; rfl)).1
  rw [World.size_alloc] at hge
  rw [hm, hgc]
  rw [hgc] at HF'
  have f0 := own_cell (j := 128) HF' (atC_get hx)
  have q1 := dT (show (128 : Int) < (m : Int) + 1 by omega)
  have q2 := dT (show 128 < m + 1 by omega)
  have q3 : (128 : Int) < (m : Int) + 1 := by omega
  have q4 : (128 : Int) ≤ (m : Int) := by omega
  have q5 : 128 ≤ m := by omega
  have q6 : (127 : Int) < m := by omega
  have q7 : 127 < m := by omega
  have hgS : g ∉ [w.heap.size] := by simp; omega
  clear hx0 HF HL hgc hx hm
  go_wp2_with fail
  refine region_plan [w.heap.size] (.quiet 0 (.quiet 1 (.quiet 2 (.quiet 3 (.quiet 4 (.one 5 .done)))))) (by kernel_rfl) (by kernel_rfl) ?_
  repeat (apply p_quiet; (case hi => rfl); intro K hK; go_simp; (refine ⟨hK _ ?_⟩; clear hK K))
  apply p_one
  case hi => rfl
  intro W3 hb3 K hK
  replace K0 := hid (K0.out.low hb3)
  clear k0 k1 kf
  obtain ⟨k0, k1, kf⟩ := K0.out.c2
  go_wp2_with fail
  refine hK _ _ (((ButS.of hb3).set (R := w.heap.size) (by simp) _ _).set (R := w.heap.size) (by simp) _ _) ?_
  clear hK K
  have hb4 := hid (below_set (below_set (bnext hb2.out hb3) (Nat.le_refl _) 0 (.int .i64 3)) (Nat.le_refl _) 1 (.int .i64 x.2))
  have K4 := hid ((K0.out.set 0 (.int .i64 3)).set 1 (.int .i64 x.2))
  clear hb3 k0 k1 kf f0
  generalize (W3.setCell ⟨w.heap.size, 0, none⟩ (.int .i64 3)).setCell ⟨w.heap.size, 1, none⟩ (.int .i64 x.2) = W4 at *
  apply p_done
  intro W5 hb5
  obtain ⟨k0, k1, kf⟩ := (K4.out.low hb5).c2
  have hb6 := hid (bnext hb4.out hb5)
  go_wp2_with fail
  rw [hE.out]
  exact bodyPost_ret_by (v := .tuple #[.slice none 0 0, .agg #[.int .i64 3, .int .i64 x.2]]) (by simp [results, Tryz.results47, go_sem, k0, k1, kf]) rfl ⟨rfl, hb6.out⟩
 ·have hE0 : acc[128]? = none := List.getElem?_eq_none (by omega)
  have q1 := dF (show ¬ ((128 : Int) < acc.length) by omega)
  have q2 := dF (show ¬ (128 < acc.length) by omega)
  by_cases hq : q < s.size
  ·have hE : Hid (phR s 0 = .bad 80 q) := by rw [hRH.out, hE0]; dsimp only; rw [if_pos hq]; exact hid rfl
   have q3 := dT (show (q : Int) < s.size by omega)
   go_wp2_with fail
   rw [hE.out]
   exact bodyPost_ret_by (v := .tuple #[.slice none 0 0, .agg #[.int .i64 80, .int .i64 q]]) (by simp [results, Tryz.results47, go_sem, k0, k1, kf]) rfl ⟨rfl, by exact below_set (below_set hb2.out (Nat.le_refl _) 0 _) (Nat.le_refl _) 1 _⟩
  ·have hE : Hid (phR s 0 = .ok (acc.map (·.1)) q) := by rw [hRH.out, hE0]; dsimp only; rw [if_neg hq]; exact hid rfl
   have q3 := dF (show ¬ ((q : Int) < s.size) by omega)
   go_wp2_with fail
   rw [hE.out]
   refine bodyPost_ret_by (v := .tuple #[.slice pl acc.length cl, .agg #[.int .i64 0, .int .i64 0]]) (by simp [results, Tryz.results47, go_sem, k0, k1, kf]) rfl ⟨?_, by exact below_set (below_set hb2.out (Nat.le_refl _) 0 _) (Nat.le_refl _) 1 _⟩
   refine ⟨_, rfl, ?_, by rw [List.length_map]; omega⟩
   rw [List.length_map, ← phC_map]
   exact own_mono (own_set (own_set HL0.out (B := w.heap.size) (by simp) 0 _) (B := w.heap.size) (by simp) 1 _) (by simp)
end Go.Proofs.YtieifhfgedoiaaaGreatDoor
/- A rule's line in the document's hand. Conditions: those of each theorem. -/
namespace Go.Proofs.YtieifhfgedoiaaaGreatDoor
open Go.RowKit Go.Lib
set_option linter.unusedVariables false
set_option linter.unusedSimpArgs false
attribute [local go_sem] ExtS.cell ExtS.froz upE_value upE_skip upE_enter Ext.cell Ext.froz
def Res.u {α : Type} (r : Res α) : Res Unit := match r with
 | .ok _ p => .ok () p
 | .bad e q => .bad e q
def rl1 (s : ByteArray) : Res Unit := .ok () (hashR s 0).2
def rl2 (x : Rs) (s : ByteArray) : Res (List Item) := (rl1 s).bind fun _ p => itemsR x.said s p []
def rl3 (x : Rs) (s : ByteArray) : Res Unit := (rl2 x s).u.bind fun _ p => mustR s p 40
def rl4 (x : Rs) (s : ByteArray) : Res (List One) := (rl3 x s).bind fun _ p => piecesR s p []
def rl5 (x : Rs) (s : ByteArray) : Res Unit := (rl4 x s).u.bind fun _ p => mustR s p 41
def rl6 (x : Rs) (s : ByteArray) : Res (List Item) := (rl5 x s).bind fun _ p => itemsR x.said s p []
def rl7 (x : Rs) (s : ByteArray) : Res Unit := (rl6 x s).bind fun _ p => .ok () (hashR s p).2
def rl8 (x : Rs) (s : ByteArray) : Res Unit := (rl7 x s).bind fun _ p => mustR s p 32
def rl9 (x : Rs) (s : ByteArray) : Res Unit := (rl8 x s).bind fun _ p => mustR s p 62
def rl10 (x : Rs) (s : ByteArray) : Res (List Ph) := (rl9 x s).bind fun _ p => saysR s p
theorem rule_chain (x : Rs) (s : ByteArray) : match rl10 x s with
  | .ok l6 q => ∃ l1 q1 l2 q2 l3 q3, rl2 x s = .ok l1 q1 ∧ rl4 x s = .ok l2 q2 ∧ rl6 x s = .ok l3 q3 ∧ partsR x.said s = .ok ⟨s, (hashR s 0).1, l1, l2, l3, (hashR s q3).1, l6⟩ q
  | .bad e q => partsR x.said s = .bad e q := by
 unfold rl10 rl9 rl8 rl7 rl6 rl5 rl4 rl3 rl2 rl1 partsR bodyR
 simp only [Res.bind]
 cases h2 : itemsR x.said s (hashR s 0).2 [] with
 | bad e q => simp only [Res.bind, Res.u]
 | ok l1 p1 =>
  simp only [Res.bind, Res.u]
  cases h3 : mustR s p1 40 with
  | bad e q => simp only [Res.bind, Res.u]
  | ok u p2 =>
   simp only [Res.bind, Res.u]
   cases h4 : piecesR s p2 [] with
   | bad e q => simp only [Res.bind, Res.u]
   | ok l2 p3 =>
    simp only [Res.bind, Res.u]
    cases h5 : mustR s p3 41 with
    | bad e q => simp only [Res.bind, Res.u]
    | ok u p4 =>
     simp only [Res.bind, Res.u]
     cases h6 : itemsR x.said s p4 [] with
     | bad e q => simp only [Res.bind, Res.u]
     | ok l3 p5 =>
      simp only [Res.bind, Res.u]
      cases h8 : mustR s (hashR s p5).2 32 with
      | bad e q => simp only [Res.bind, Res.u]
      | ok u p6 =>
       simp only [Res.bind, Res.u]
       cases h9 : mustR s p6 62 with
       | bad e q => simp only [Res.bind, Res.u]
       | ok u p7 =>
        simp only [Res.bind, Res.u]
        cases h10 : saysR s p7 with
        | bad e q => simp only [Res.bind, Res.u]
        | ok l6 q => exact ⟨l1, p1, l2, p3, l3, p5, rfl, rfl, rfl, rfl⟩
section
variable {w W W' : World} {R X U : Nat} {s : ByteArray} {lv A : Value} {α : Type} {r : Res α} {c : Array Value} {q0 : Int}
theorem LSt.u (h : LSt W R s lv A q0 r) : LSt W R s lv A q0 r.u := by cases r <;> exact h
theorem LSt.but {S : List Nat} (h : LSt W R s lv A q0 r) (hb : ButS S W W') (hR : R ∉ S) (hS : ∀ B ∈ S, ∃ t a, t ≠ 113 ∧ Blk W B t a) : LSt W' R s lv A q0 r := by
 cases r with
 | ok u p => obtain ⟨k, hk, hL⟩ := h; exact ⟨k, hk, hL.but hb hR hS⟩
 | bad e q => obtain ⟨he, k, hL⟩ := h; exact ⟨he, k, hL.but hb hR hS⟩
theorem LSt.low (h : LSt W R s lv A q0 r) (hb : Below W.heap.size W W') : LSt W' R s lv A q0 r := by
 cases r with
 | ok u p => obtain ⟨k, hk, hL⟩ := h; exact ⟨k, hk, hL.low hb⟩
 | bad e q => obtain ⟨he, k, hL⟩ := h; exact ⟨he, k, hL.low hb⟩
structure RD (w W : World) (R X U : Nat) (s : ByteArray) (lv : Value) {α : Type} (r : Res α) (c : Array Value) : Prop where
 st : LSt W R s lv (.pointer (some ⟨X, 0, none⟩)) 0 r
 u : Blk W U 120 c
 b : ButS [R] w W
 n : U = w.heap.size ∧ R < w.heap.size
theorem RD.ne (h : RD w W R X U s lv r c) : U ≠ R := by have := h.n; omega
theorem RD.step {β : Type} {r' : Res β} (h : RD w W R X U s lv r c) (hs : LSt W' R s lv (.pointer (some ⟨X, 0, none⟩)) 0 r') (hb : ButS [R] W W') : RD w W' R X U s lv r' c :=
 ⟨hs, hb.blk h.u (by rw [List.mem_singleton]; exact h.ne), h.b.trans hb, h.n⟩
theorem RD.low (h : RD w W R X U s lv r c) (hb : Below W.heap.size W W') : RD w W' R X U s lv r c := h.step (h.st.low hb) (.of hb)
theorem RD.put (h : RD w W R X U s lv r c) (k : Nat) (v : Value) : RD w (W.setCell ⟨U, k, none⟩ v) R X U s lv r (c.setIfInBounds k v) :=
 ⟨h.st.but ((ButS.refl [U] W).set (by simp) k v) (by rw [List.mem_singleton]; exact h.ne.symm) (fun B hB => by rw [List.mem_singleton] at hB; subst hB; exact ⟨120, _, by decide, h.u⟩), h.u.set k v, h.b.setNew (by have := h.n; omega) k v, h.n⟩
theorem RD.u' (h : RD w W R X U s lv r c) : RD w W R X U s lv r.u c := ⟨h.st.u, h.u, h.b, h.n⟩
end
theorem RD.hash {w W : World} {R X U : Nat} {s : ByteArray} {lv : Value} {c : Array Value} {α : Type} {u : α} {p : Nat} (h : RD w W R X U s lv (.ok u p : Res α) c) (hb : isB s p 35 = true) (hs : s.size ≤ 100000000) (i : Nat) :
  ∃ k : Nat, W.cell? ⟨R, 2, none⟩ = some (.int .i64 k) ∧ (∀ j, W.frozen? ⟨R, j, none⟩ = false) ∧ IntKind.i64.wrap ((k : Int) + 1) = (k : Int) + 1 ∧
   RD w ((W.setCell ⟨U, i, none⟩ (.bool true)).setCell ⟨R, 2, none⟩ (.int .i64 ((k : Int) + 1))) R X U s lv (.ok () (p + 1) : Res Unit) (c.setIfInBounds i (.bool true)) := by
 obtain ⟨k, hk, hL⟩ := h.st
 have hp := (of_decide_eq_true hb).1
 have hn := hk.next hp
 rw [asc_wd hb (by omega)] at hn
 have hkl := hk.lt hp
 have hpl := posL_len s _ 0 rfl
 obtain ⟨_, _, c2, _, _, _, cf⟩ := hL.c6
 have hL1 := hL.but ((ButS.refl [U] W).set (R := U) (by simp) i (.bool true)) (by rw [List.mem_singleton]; exact h.ne.symm) (fun B hB => by rw [List.mem_singleton] at hB; subst hB; exact ⟨120, _, by decide, h.u⟩)
 exact ⟨k, c2, cf, IntWalk.i64_in _ (by omega), (h.put i (.bool true)).step (r' := (.ok () (p + 1) : Res Unit)) ⟨k + 1, hn, hL1.go (k + 1)⟩ ((ButS.refl [R] _).set (R := R) (by simp) 2 _)⟩
def RowOf (W : World) (base : Nat) (T : TypeId) (n : Nat) {α : Type} (f : α → List Value) (r : Res (List α)) (v : Value) : Prop := ∀ l p, r = .ok l p → W.ownsRow base T n v l.length (flatE f l) ∧ l.length ≤ 64
section
variable {w W W' : World} {R X U base n : Nat} {s : ByteArray} {lv A v : Value} {α : Type} {r : Res (List α)} {T : TypeId} {f : α → List Value} {q0 : Int}
theorem RowOf.butT {S : List Nat} (h : RowOf W base T n f r v) (hb : ButS S W W') (hS : ∀ B ∈ S, ∃ t a, t ≠ T ∧ Blk W B t a) : RowOf W' base T n f r v := fun l p e => ⟨own_butT (h l p e).1 hb hS, (h l p e).2⟩
theorem RowOf.low (h : RowOf W base T n f r v) (hb : Below W.heap.size W W') : RowOf W' base T n f r v := fun l p e => ⟨own_low (h l p e).1 hb, (h l p e).2⟩
theorem RowOf.put (h : RowOf W base T n f r v) {c : Array Value} {t : TypeId} (hu : Blk W U t c) (ht : t ≠ T) (k : Nat) (u : Value) : RowOf (W.setCell ⟨U, k, none⟩ u) base T n f r v :=
 h.butT ((ButS.refl [U] W).set (by simp) k u) (fun B hB => by rw [List.mem_singleton] at hB; subst hB; exact ⟨t, c, ht, hu⟩)
theorem PSt.row (h : PSt w W R s lv A q0 T n f r v) (hb : base ≤ w.heap.size) : RowOf W base T n f r v := by
 intro l p e
 obtain ⟨_, _, h⟩ := h
 subst e
 exact ⟨own_mono h.1 hb, h.2⟩
theorem PSt.shape (h : PSt w W R s lv A q0 T n f r v) : ∃ pv m cap, v = .slice pv m cap := by
 obtain ⟨_, _, h⟩ := h
 cases r with
 | ok l p => obtain ⟨pv, cap, e⟩ := own_shape h.1; exact ⟨_, _, _, e⟩
 | bad e q => exact h
end
def isv {α : Type} (r : Res α) (s : ByteArray) (c : Nat) : Bool := match r with
 | .ok _ p => isB s p c
 | .bad _ _ => false
theorem Res.either {α : Type} (r : Res α) : (∃ e q, r = .bad e q) ∨ ∃ l p, r = .ok l p := by
 cases r with
 | ok l p => exact .inr ⟨l, p, rfl⟩
 | bad e q => exact .inl ⟨e, q, rfl⟩
theorem lis_sv {w : World} {R : Nat} {s : ByteArray} {lv A : Value} {q0 : Int} {α : Type} {r : Res α} (h : LSt w R s lv A q0 r) (c : Nat) :
  Calls Tryz.prog 44 #[.pointer (some ⟨R, 0, none⟩), .int .u8 c] w fun x w' => x = .returned (.bool (isv r s c)) ∧ Below w.heap.size w w' := by
 have := lis_st h c
 cases r <;> exact this
def hash7 (r : Res (List Item)) (s : ByteArray) : Bool := match r with
 | .ok _ p => (hashR s p).1
 | .bad _ _ => false
def more9 (r : Res Unit) (s : ByteArray) : Bool := match r with
 | .ok _ p => decide (p < s.size)
 | .bad _ _ => false
structure Rws (W : World) (base : Nat) (x : Rs) (s : ByteArray) (v2 v4 v6 : Value) : Prop where
 r2 : RowOf W base 141 4 Item.cells (rl2 x s) v2
 r4 : RowOf W base 138 3 One.cells (rl4 x s) v4
 r6 : RowOf W base 141 4 Item.cells (rl6 x s) v6
section
variable {W W' : World} {base : Nat} {x : Rs} {s : ByteArray} {v2 v4 v6 : Value}
theorem Rws.low (h : Rws W base x s v2 v4 v6) (hb : Below W.heap.size W W') : Rws W' base x s v2 v4 v6 := ⟨h.r2.low hb, h.r4.low hb, h.r6.low hb⟩
theorem Rws.but {S : List Nat} (h : Rws W base x s v2 v4 v6) (hb : ButS S W W') (hS : ∀ B ∈ S, ∃ t a, (t ≠ 141 ∧ t ≠ 138) ∧ Blk W B t a) : Rws W' base x s v2 v4 v6 :=
 ⟨h.r2.butT hb (fun B hB => by obtain ⟨t, a, ht, k⟩ := hS B hB; exact ⟨t, a, ht.1, k⟩), h.r4.butT hb (fun B hB => by obtain ⟨t, a, ht, k⟩ := hS B hB; exact ⟨t, a, ht.2, k⟩), h.r6.butT hb (fun B hB => by obtain ⟨t, a, ht, k⟩ := hS B hB; exact ⟨t, a, ht.1, k⟩)⟩
theorem Rws.one {R : Nat} {t : TypeId} {a : Array Value} (h : Rws W base x s v2 v4 v6) (hb : ButS [R] W W') (hk : Blk W R t a) (ht : t ≠ 141 ∧ t ≠ 138) : Rws W' base x s v2 v4 v6 :=
 h.but hb (fun B hB => by rw [List.mem_singleton] at hB; subst hB; exact ⟨t, a, ht, hk⟩)
end
theorem RD.rows {w W W' : World} {R X U base : Nat} {s : ByteArray} {lv v2 v4 v6 : Value} {α : Type} {r : Res α} {c : Array Value} {x : Rs} (h : RD w W R X U s lv r c) (hr : Rws W base x s v2 v4 v6) (hb : ButS [R] W W') : Rws W' base x s v2 v4 v6 := by
 obtain ⟨a, ha⟩ := h.st.blk
 exact hr.one hb ha ⟨by decide, by decide⟩
def PhOf (W : World) (base : Nat) (r : Res (List Ph)) (v : Value) : Prop := ∀ l p, r = .ok l p → W.ownsRow base 60 3 v l.length (flatE Ph.cells l)
def LEnd (w : World) (R : Nat) (s : ByteArray) (lv A : Value) {α : Type} (r : Res α) : Prop :=
 match r with
 | .ok _ _ => ∃ k, Ln w R s lv k 0 0 A
 | .bad e q => e ≠ 0 ∧ ∃ k, Ln w R s lv k e q A
structure RF (w W : World) (R X U : Nat) (s : ByteArray) (lv : Value) {α : Type} (r : Res α) (c : Array Value) : Prop where
 st : LEnd W R s lv (.pointer (some ⟨X, 0, none⟩)) r
 u : Blk W U 120 c
 b : ButS [R] w W
 n : U = w.heap.size ∧ R < w.heap.size
theorem RD.fin {w W : World} {R X U : Nat} {s : ByteArray} {lv : Value} {α β : Type} {r : Res α} {c : Array Value} {r' : Res β} (h : RD w W R X U s lv r c) (hs : LEnd W R s lv (.pointer (some ⟨X, 0, none⟩)) r') : RF w W R X U s lv r' c := ⟨hs, h.u, h.b, h.n⟩
theorem RD.bad {w W : World} {R X U : Nat} {s : ByteArray} {lv : Value} {α β : Type} {e : Int} {q : Nat} {c : Array Value} (h : RD w W R X U s lv (.bad e q : Res α) c) : RF w W R X U s lv (.bad e q : Res β) c := h.fin (r' := (.bad e q : Res β)) h.st
def over (n : Nat) (r : Res (List Ph)) : Bool := decide (256 ≤ n) && (match r with
 | .ok _ _ => true
 | .bad _ q => decide (0 < q))
def FinR (W : World) (base : Nat) (x : Rs) (UL : List Value) (o : Out) (e q : Int) : Prop :=
 match o with
 | .ok y => e = 0 ∧ q = 0 ∧ ∃ u V, y = x.addR u ∧ UL = Rl.dcells u V ∧ DlOk W base u V
 | .bad er qq => er ≠ 0 ∧ e = er ∧ q = qq
theorem rule_end {w wz Wg : World} {R X base k n : Nat} {s : ByteArray} {lv v' A0 : Value} {x : Rs} {cx cr : Array Value} {Vc : Nat → Value} {Vs : List (Rl × RlV)} {So : List Nat} {UL : List Value} {e q : Int}
  (H1 : Blk w X 31 cx) (H2 : cx.size = 79)
  (H3 : ∀ i, i < 26 → cx[i]? = some (.bool (x.said i)) ∧ cx[26 + i]? = some (.string (x.ln i)) ∧ cx[52 + i]? = some (Vc i) ∧ w.ownsRow base 138 3 (Vc i) (x.pcs i).length (flatE One.cells (x.pcs i)))
  (hVa : Vs.map (·.1) = x.rules) (hVc : ∀ y ∈ Vs, DlOk wz base y.1 y.2) (hN : x.rules.length = n) (hLb : Blk w R 76 cr) (hBz : ButS [R] w wz) (hXz : Blk wz X 31 cx) (hLz : Ln wz R s lv k e q (.pointer (some ⟨X, 0, none⟩)))
  (hF : FinR wz base x UL (ruleR x s) e q) (hBS : ButS (X :: So) wz Wg) (hXg : Blk Wg X 31 (cx.setIfInBounds 78 v')) (hRg : Wg.ownsRow base 120 7 v' (n + 1) (flatE (fun y : Rl × RlV => Rl.dcells y.1 y.2) Vs ++ UL))
  (nRS : R ∉ X :: So) (hbw : base ≤ w.heap.size) (hbR : base ≤ R) (hbX : base ≤ X) {U : Nat} (hSoU : ∀ B ∈ So, base ≤ B ∧ B < U) (hSoK : ∀ B ∈ So, ∃ a, Blk wz B 120 a) : DPost Wg base R X s lv (ruleR x s) ∧ Below base w Wg := by
 have sB : ∀ B ∈ X :: So, ∃ t a, (t ≠ 113 ∧ t ≠ 141 ∧ t ≠ 138 ∧ t ≠ 60) ∧ Blk wz B t a := fun B h => by
  rcases List.mem_cons.1 h with h | h
  ·subst h; exact ⟨31, _, ⟨by decide, by decide, by decide, by decide⟩, hXz⟩
  ·obtain ⟨a, ha⟩ := hSoK B h; exact ⟨120, a, ⟨by decide, by decide, by decide, by decide⟩, ha⟩
 have hLg := hLz.but hBS nRS (fun B hB => by obtain ⟨t, a, h1, h2⟩ := sB B hB; exact ⟨t, a, h1.1, h2⟩)
 refine ⟨?_, (hBz.below (fun k hk => by rw [List.mem_singleton] at hk; subst hk; exact hbR) hbw).trans (hBS.below (fun k hk => by
  rcases List.mem_cons.1 hk with h | h
  ·subst h; exact hbX
  ·exact (hSoU k h).1) (Nat.le_trans hbw hBz.size))⟩
 cases hr : ruleR x s with
 | bad er qq =>
  rw [hr] at hF
  obtain ⟨h1, rfl, rfl⟩ := hF
  exact ⟨h1, _, hLg⟩
 | ok y =>
  rw [hr] at hF
  obtain ⟨rfl, rfl, u, V, rfl, rfl, hOk⟩ := hF
  refine ⟨⟨_, hLg⟩, ⟨_, Vc, v', hXg, by simp [H2], fun i hi => ?_, by rw [Array.getElem?_setIfInBounds_self_of_lt (by rw [H2]; omega)], ⟨Vs ++ [(u, V)], by rw [List.map_append, hVa]; rfl, ?_, fun y hy => ?_⟩⟩⟩
  ·obtain ⟨g1, g2, g3, g4⟩ := H3 i hi
   rw [Array.getElem?_setIfInBounds_ne (by omega), Array.getElem?_setIfInBounds_ne (by omega), Array.getElem?_setIfInBounds_ne (by omega)]
   exact ⟨g1, g2, g3, own_butT (own_butT g4 hBz (fun B hB => by rw [List.mem_singleton] at hB; subst hB; exact ⟨76, _, by decide, hLb⟩)) hBS (fun B hB => by obtain ⟨t, a, h1, h2⟩ := sB B hB; exact ⟨t, a, h1.2.2.1, h2⟩)⟩
  ·show Wg.ownsRow base 120 7 _ (x.rules ++ [_]).length _
   rw [List.length_append, hN, flatE_snoc]
   exact hRg
  ·rcases List.mem_append.1 hy with hy | hy
   ·exact (hVc y hy).butF hBS (fun B hB => by obtain ⟨t, a, h1, h2⟩ := sB B hB; exact ⟨t, a, h1.2, h2⟩)
   ·rw [List.mem_singleton] at hy
    subst hy
    exact hOk.butF hBS (fun B hB => by obtain ⟨t, a, h1, h2⟩ := sB B hB; exact ⟨t, a, h1.2, h2⟩)
theorem info43 : (Tryz.prog.info? 120).map (fun i => (i.zero, i.size, i.bytes)) = some (some (.agg #[.string ⟨#[]⟩, .bool false, .slice none 0 0, .slice none 0 0, .slice none 0 0, .bool false, .slice none 0 0]), 7, 128) := by kernel_rfl
set_option maxRecDepth 100000 in
set_option maxHeartbeats 8000000 in
theorem lrule_any {w : World} {R X base : Nat} {s : ByteArray} {lv : Value} {x : Rs} (h : Ln w R s lv 0 0 0 (.pointer (some ⟨X, 0, none⟩))) (hX : DAt w X base x) (hl : x.rules.length ≤ 256) (hs : s.size ≤ 100000000) (hbR : base ≤ R) (hbX : base ≤ X) :
  Calls Tryz.prog 28 #[.pointer (some ⟨R, 0, none⟩)] w fun e w' => e = .returned (.tuple #[]) ∧ DPost w' base R X s lv (ruleR x s) ∧ Below base w w' := by
 have hRl := h.b.lt
 have hbw : base ≤ w.heap.size := by omega
 have K1 := Blk.new w 120 #[.string s, .bool false, .slice none 0 0, .slice none 0 0, .slice none 0 0, .bool false, .slice none 0 0]
 have hb1 : Below w.heap.size w (w.alloc (.cells #[.string s, .bool false, .slice none 0 0, .slice none 0 0, .slice none 0 0, .bool false, .slice none 0 0] 120)) := (Below.refl _ w).alloc (Nat.le_refl _) _
 have D0 := hid (show RD w (w.alloc (.cells #[.string s, .bool false, .slice none 0 0, .slice none 0 0, .slice none 0 0, .bool false, .slice none 0 0] 120)) R X w.heap.size s lv (.ok () 0 : Res Unit) #[.string s, .bool false, .slice none 0 0, .slice none 0 0, .slice none 0 0, .bool false, .slice none 0 0] from ⟨⟨0, AtK.start s, h.low hb1⟩, K1, .of hb1, rfl, hRl⟩)
 have HX := hid hX
 have HL := hid h
 obtain ⟨c0, c1, c2, c3, c4, c5, cf⟩ := h.c6
 clear hX h K1 hb1 hRl
 go_enter Tryz.func28, Tryz.ntmps28
 go_wp2_with fail
 obtain ⟨U, hU⟩ : ∃ U, w.heap.size = U := ⟨_, rfl⟩
 rw [hU] at D0
 try simp only [hU]
 have HU := hid hU
 have hUw : w.heap.size ≤ U := Nat.le_of_eq hU
 clear hU c0 c1 c2 c3 c4 c5 cf
 generalize w.alloc (.cells #[.string s, .bool false, .slice none 0 0, .slice none 0 0, .slice none 0 0, .bool false, .slice none 0 0] 120) = W0 at *
 have hI0 := hid (lis_st D0.out.st 35)
 dsimp only at hI0
 go_upto_if 12 with (go_at_call 44; (with_reducible refine Calls.mono hI0.out ?_); rintro e w1 ⟨rfl, hb1⟩; have D1 := hid (D0.out.low hb1); clear hb1 hI0 D0)
 go_cut [] (fun wc => Hid (RD w wc R X U s lv (rl1 s) #[.string s, .bool (hashR s 0).1, .slice none 0 0, .slice none 0 0, .slice none 0 0, .bool false, .slice none 0 0]))
 case first => as_aux_lemma =>
  cases hb : isB s 0 35
  ·have hh := hash_no hb
   have hE : Hid (rl1 s = .ok () 0) := by unfold rl1; rw [hh]; exact hid rfl
   have hE2 : Hid ((hashR s 0).1 = false) := by rw [hh]; exact hid rfl
   clear hh
   go_wp2_with fail
   go_meet
   rw [hE.out, hE2.out]
   exact D1
  ·have hh := hash_yes hb
   have hE : Hid (rl1 s = .ok () 1) := by unfold rl1; rw [hh]; exact hid rfl
   have hE2 : Hid ((hashR s 0).1 = true) := by rw [hh]; exact hid rfl
   obtain ⟨k, c2, cf, hw, hD⟩ := D1.out.hash hb hs 1
   have HD := hid hD
   obtain ⟨u0, u1, u2, u3, u4, u5, u6, uf⟩ := D1.out.u.c7
   have nUR := D1.out.ne
   have nRU := Ne.symm nUR
   clear hD
   go_wp2_with fail
   go_meet
   rw [hE.out, hE2.out]
   exact HD
 case rest =>
  have D2 := hid hcut.out
  clear hcut
  obtain ⟨b0, hb0⟩ : ∃ b0, (hashR s 0).1 = b0 := ⟨_, rfl⟩
  rw [hb0] at D2
  have HB0 := hid hb0
  clear hb0
  have hx2 : Hid (∀ W, ButS [R] w W → ∃ c, Blk W X 31 c ∧ ∀ i, i < 26 → c[i]? = some (.bool (x.said i))) := hid (fun W hb => by
   obtain ⟨c, hc, hsd⟩ := HX.out.blk
   exact ⟨c, hb.blk hc (by rw [List.mem_singleton]; exact blk_ne hc HL.out.b (by decide)), hsd⟩)
  have nUR := D2.out.ne
  have nRU := Ne.symm nUR
  obtain ⟨cx, hcx, hsx⟩ := hx2.out _ D2.out.b
  have hI1 := hid (litems_st D2.out.st hcx hsx hs)
  clear hcx hsx
  go_wp2_with fail
  go_at_call 45
  with_reducible refine Calls.mono (hI1.out) ?_
  rintro e w3 ⟨v2, rfl, hP⟩
  skip
  replace hP : PSt wc w3 R s lv (.pointer (some ⟨X, 0, none⟩)) 0 141 4 Item.cells (rl2 x s) v2 := hP
  have D3 := hid (D2.out.step hP.1 hP.2.1)
  have HR2 := hid (hP.row (base := base) (Nat.le_trans hbw D2.out.b.size))
  obtain ⟨p2, n2, k2, rfl⟩ := hP.shape
  clear hP hI1 D2
  obtain ⟨u0, u1, u2, u3, u4, u5, u6, uf⟩ := D3.out.u.c7
  go_wp2_with fail
  have D4 : Hid (RD w (w3.setCell ⟨U, 2, none⟩ (.slice p2 n2 k2)) R X U s lv (rl2 x s) #[.string s, .bool b0, .slice p2 n2 k2, .slice none 0 0, .slice none 0 0, .bool false, .slice none 0 0]) := hid (D3.out.put 2 _)
  replace HR2 := hid (HR2.out.put D3.out.u (by decide) 2 (.slice p2 n2 k2))
  clear u0 u1 u2 u3 u4 u5 u6 uf D3
  generalize w3.setCell ⟨U, 2, none⟩ (.slice p2 n2 k2) = W4 at *
  go_at_call 42
  with_reducible refine Calls.mono (lmust_st D4.out.st.u 40 (by decide) hs) ?_
  rintro e w5 ⟨rfl, hs5, hb5⟩
  skip
  have D5 := hid (D4.out.step (r' := rl3 x s) hs5 hb5)
  replace HR2 := hid (HR2.out.butT hb5 (fun B hB => by rw [List.mem_singleton] at hB; subst hB; obtain ⟨a, ha⟩ := D4.out.st.blk; exact ⟨76, a, by decide, ha⟩))
  clear hs5 hb5 D4
  go_wp2_with fail
  go_at_call 43
  with_reducible refine Calls.mono (lpieces_st D5.out.st hs) ?_
  rintro e w6 ⟨v4, rfl, hP⟩
  skip
  replace hP : PSt w5 w6 R s lv (.pointer (some ⟨X, 0, none⟩)) 0 138 3 One.cells (rl4 x s) v4 := hP
  have D6 := hid (D5.out.step hP.1 hP.2.1)
  replace HR2 := hid (HR2.out.butT hP.2.1 (fun B hB => by rw [List.mem_singleton] at hB; subst hB; obtain ⟨a, ha⟩ := D5.out.st.blk; exact ⟨76, a, by decide, ha⟩))
  have HR4 := hid (hP.row (base := base) (Nat.le_trans hbw D5.out.b.size))
  obtain ⟨p4, n4, k4, rfl⟩ := hP.shape
  clear hP D5
  obtain ⟨u0, u1, u2, u3, u4, u5, u6, uf⟩ := D6.out.u.c7
  go_wp2_with fail
  have D7 : Hid (RD w (w6.setCell ⟨U, 3, none⟩ (.slice p4 n4 k4)) R X U s lv (rl4 x s) #[.string s, .bool b0, .slice p2 n2 k2, .slice p4 n4 k4, .slice none 0 0, .bool false, .slice none 0 0]) := hid (D6.out.put 3 _)
  replace HR2 := hid (HR2.out.put D6.out.u (by decide) 3 (.slice p4 n4 k4))
  replace HR4 := hid (HR4.out.put D6.out.u (by decide) 3 (.slice p4 n4 k4))
  clear u0 u1 u2 u3 u4 u5 u6 uf D6
  generalize w6.setCell ⟨U, 3, none⟩ (.slice p4 n4 k4) = W7 at *
  go_at_call 42
  with_reducible refine Calls.mono (lmust_st D7.out.st.u 41 (by decide) hs) ?_
  rintro e w8 ⟨rfl, hs5, hb5⟩
  skip
  have D8 := hid (D7.out.step (r' := rl5 x s) hs5 hb5)
  replace HR2 := hid (HR2.out.butT hb5 (fun B hB => by rw [List.mem_singleton] at hB; subst hB; obtain ⟨a, ha⟩ := D7.out.st.blk; exact ⟨76, a, by decide, ha⟩))
  replace HR4 := hid (HR4.out.butT hb5 (fun B hB => by rw [List.mem_singleton] at hB; subst hB; obtain ⟨a, ha⟩ := D7.out.st.blk; exact ⟨76, a, by decide, ha⟩))
  clear hs5 hb5 D7
  go_wp2_with fail
  obtain ⟨cx, hcx, hsx⟩ := hx2.out _ D8.out.b
  have hI1 := hid (litems_st D8.out.st hcx hsx hs)
  clear hcx hsx
  go_at_call 45
  with_reducible refine Calls.mono (hI1.out) ?_
  rintro e w9 ⟨v6, rfl, hP⟩
  skip
  replace hP : PSt w8 w9 R s lv (.pointer (some ⟨X, 0, none⟩)) 0 141 4 Item.cells (rl6 x s) v6 := hP
  have D9 := hid (D8.out.step hP.1 hP.2.1)
  replace HR2 := hid (HR2.out.butT hP.2.1 (fun B hB => by rw [List.mem_singleton] at hB; subst hB; obtain ⟨a, ha⟩ := D8.out.st.blk; exact ⟨76, a, by decide, ha⟩))
  replace HR4 := hid (HR4.out.butT hP.2.1 (fun B hB => by rw [List.mem_singleton] at hB; subst hB; obtain ⟨a, ha⟩ := D8.out.st.blk; exact ⟨76, a, by decide, ha⟩))
  have HR6 := hid (hP.row (base := base) (Nat.le_trans hbw D8.out.b.size))
  obtain ⟨p6, n6, k6, rfl⟩ := hP.shape
  clear hP hI1 D8
  obtain ⟨u0, u1, u2, u3, u4, u5, u6, uf⟩ := D9.out.u.c7
  go_wp2_with fail
  have D10 : Hid (RD w (w9.setCell ⟨U, 4, none⟩ (.slice p6 n6 k6)) R X U s lv (rl6 x s) #[.string s, .bool b0, .slice p2 n2 k2, .slice p4 n4 k4, .slice p6 n6 k6, .bool false, .slice none 0 0]) := hid (D9.out.put 4 _)
  replace HR2 := hid (HR2.out.put D9.out.u (by decide) 4 (.slice p6 n6 k6))
  replace HR4 := hid (HR4.out.put D9.out.u (by decide) 4 (.slice p6 n6 k6))
  replace HR6 := hid (HR6.out.put D9.out.u (by decide) 4 (.slice p6 n6 k6))
  clear u0 u1 u2 u3 u4 u5 u6 uf D9
  generalize w9.setCell ⟨U, 4, none⟩ (.slice p6 n6 k6) = W10 at *
  have HRs : Hid (Rws W10 base x s (.slice p2 n2 k2) (.slice p4 n4 k4) (.slice p6 n6 k6)) := hid ⟨HR2.out, HR4.out, HR6.out⟩
  clear HR2 HR4 HR6
  have hI1 := hid (lis_sv D10.out.st 35)
  go_upto_if 35 with (go_loud (go_at_call 44; (with_reducible refine Calls.mono hI1.out ?_); rintro e w11 ⟨rfl, hb11⟩; have D11 := hid (D10.out.low hb11); have HRs2 := hid (HRs.out.low hb11); clear hb11 hI1))
  go_cut [] (fun wc => Hid (RD w wc R X U s lv (rl7 x s) #[.string s, .bool b0, .slice p2 n2 k2, .slice p4 n4 k4, .slice p6 n6 k6, .bool (hash7 (rl6 x s) s), .slice none 0 0]) ∧ Hid (Rws wc base x s (.slice p2 n2 k2) (.slice p4 n4 k4) (.slice p6 n6 k6)))
  case first => as_aux_lemma =>
   rcases (rl6 x s).either with ⟨e, q, h6⟩ | ⟨l, p, h6⟩
   ·have hv : isv (rl6 x s) s 35 = false := by rw [h6]; rfl
    rw [h6] at D11
    have hE : Hid (rl7 x s = .bad e q) := by unfold rl7; rw [h6]; exact hid rfl
    have h6h := hid h6
    clear h6
    rw [hv]
    go_wp2_with fail
    go_meet
    rw [hE.out, h6h.out]
    exact ⟨hid (D11.out.u'), HRs2⟩
   ·rw [h6] at D11
    have h6h := hid h6
    clear h6
    cases hb : isB s p 35
    ·have hv : isv (rl6 x s) s 35 = false := by rw [h6h.out]; exact hb
     have hh := hash_no hb
     have hE : Hid (rl7 x s = .ok () p) := by unfold rl7; rw [h6h.out]; show Hid (Res.ok () (hashR s p).2 = _); rw [hh]; exact hid rfl
     have hE2 : Hid (hash7 (rl6 x s) s = false) := by rw [h6h.out]; show Hid ((hashR s p).1 = _); rw [hh]; exact hid rfl
     clear hh
     rw [hv]
     go_wp2_with fail
     go_meet
     rw [hE.out, hE2.out]
     exact ⟨hid (D11.out.u'), HRs2⟩
    ·have hv : isv (rl6 x s) s 35 = true := by rw [h6h.out]; exact hb
     have hh := hash_yes hb
     have hE : Hid (rl7 x s = .ok () (p + 1)) := by unfold rl7; rw [h6h.out]; show Hid (Res.ok () (hashR s p).2 = _); rw [hh]; exact hid rfl
     have hE2 : Hid (hash7 (rl6 x s) s = true) := by rw [h6h.out]; show Hid ((hashR s p).1 = _); rw [hh]; exact hid rfl
     clear hh
     obtain ⟨k, c2, cf, hw, hD⟩ := D11.out.hash hb hs 5
     have HD := hid hD
     have HR3 := hid ((D11.out.put 5 (.bool true)).rows (HRs2.out.one ((ButS.refl [U] _).set (R := U) (by simp) 5 (.bool true)) D11.out.u ⟨by decide, by decide⟩) ((ButS.refl [R] _).set (R := R) (by simp) 2 (.int .i64 ((k : Int) + 1))))
     obtain ⟨u0, u1, u2, u3, u4, u5, u6, uf⟩ := D11.out.u.c7
     clear hD
     rw [hv]
     go_wp2_with fail
     go_meet
     rw [hE.out, hE2.out]
     exact ⟨HD, HR3⟩
  case rest =>
   obtain ⟨D12, HRs⟩ := hcut
   obtain ⟨b7, hb7⟩ : ∃ b7, hash7 (rl6 x s) s = b7 := ⟨_, rfl⟩
   rw [hb7] at D12
   have HB7 := hid hb7
   clear hb7
   go_wp2_with fail
   go_at_call 42
   with_reducible refine Calls.mono (lmust_st D12.out.st 32 (by decide) hs) ?_
   rintro e w13 ⟨rfl, hs5, hb5⟩
   skip
   have D13 := hid (D12.out.step (r' := rl8 x s) hs5 hb5)
   replace HRs := hid (D12.out.rows HRs.out hb5)
   clear hs5 hb5 D12
   go_wp2_with fail
   go_at_call 42
   with_reducible refine Calls.mono (lmust_st D13.out.st 62 (by decide) hs) ?_
   rintro e w14 ⟨rfl, hs5, hb5⟩
   skip
   have D14 := hid (D13.out.step (r' := rl9 x s) hs5 hb5)
   replace HRs := hid (D13.out.rows HRs.out hb5)
   clear hs5 hb5 D13
   go_upto_region 14 with fail
   go_cut [64] (fun v wc => v = .bool (more9 (rl9 x s) s) ∧ Hid (RD w wc R X U s lv (rl9 x s) #[.string s, .bool b0, .slice p2 n2 k2, .slice p4 n4 k4, .slice p6 n6 k6, .bool b7, .slice none 0 0]) ∧ Hid (Rws wc base x s (.slice p2 n2 k2) (.slice p4 n4 k4) (.slice p6 n6 k6)))
   case first => as_aux_lemma =>
    rcases (rl9 x s).either with ⟨e, q, h9⟩ | ⟨l, p, h9⟩
    ·have hE : Hid (more9 (rl9 x s) s = false) := by rw [h9]; exact hid rfl
     obtain ⟨he, k, hL⟩ : LSt w14 R s lv (.pointer (some ⟨X, 0, none⟩)) 0 (.bad e q : Res Unit) := h9 ▸ D14.out.st
     have q1 : (e == 0) = false := beq_false_of he
     obtain ⟨c0, c1, c2, c3, c4, c5, cf⟩ := hL.c6
     clear h9 hL
     refine region_plan [] (.quiet 0 (.quiet 1 (.quiet 2 (.quiet 3 (.quiet 4 (.quiet 5 (.quiet 6 (.quiet 7 (.quiet 8 (.quiet 9 (.quiet 10 (.quiet 11 (.quiet 12 (.quiet 13 (.quiet 14 (.quiet 15 (.quiet 16 .done))))))))))))))))) (by kernel_rfl) (by kernel_rfl) ?_
     repeat (apply p_quiet; (case hi => rfl); intro K hK; go_simp; (refine ⟨hK _ ?_⟩; clear hK K))
     apply p_done
     intro W15 hb15
     go_wp2_with fail
     go_meet
     rw [hE.out]
     exact ⟨rfl, hid (D14.out.low hb15), hid (HRs.out.low hb15)⟩
    ·obtain ⟨k, hk, hL⟩ : LSt w14 R s lv (.pointer (some ⟨X, 0, none⟩)) 0 (.ok l p : Res Unit) := h9 ▸ D14.out.st
     obtain ⟨np, hnp⟩ : ∃ np, (posL s 0).length = np := ⟨_, rfl⟩
     obtain ⟨pl, cl, hlv⟩ := hL.shape
     rw [hnp] at hlv
     obtain ⟨c0, c1, c2, c3, c4, c5, cf⟩ := hL.c6
     rw [hlv] at c1
     by_cases hp : p < s.size
     ·have hE : Hid (more9 (rl9 x s) s = true) := by rw [h9]; exact hid (decide_eq_true hp)
      have hkn := hk.lt hp
      rw [hnp] at hkn
      have q1 := dT (show (k : Int) < np by omega)
      have q2 : decide (k < np) = true := decide_eq_true hkn
      clear hp hk hnp hkn h9 hlv hL
      refine region_plan [] (.quiet 0 (.quiet 1 (.quiet 2 (.quiet 3 (.quiet 4 (.quiet 5 (.quiet 6 (.quiet 7 (.quiet 8 (.quiet 9 (.quiet 10 (.quiet 11 (.quiet 12 (.quiet 13 (.quiet 14 (.quiet 15 (.quiet 16 .done))))))))))))))))) (by kernel_rfl) (by kernel_rfl) ?_
      repeat (apply p_quiet; (case hi => rfl); intro K hK; go_simp; (refine ⟨hK _ ?_⟩; clear hK K))
      apply p_done
      intro W15 hb15
      go_wp2_with fail
      go_meet
      rw [hE.out]
      exact ⟨rfl, hid (D14.out.low hb15), hid (HRs.out.low hb15)⟩
     ·have hE : Hid (more9 (rl9 x s) s = false) := by rw [h9]; exact hid (decide_eq_false hp)
      have hkn := (hk.ge hp).1
      rw [hnp] at hkn
      have q1 := dF (show ¬ ((k : Int) < np) by omega)
      have q2 := dF (show ¬ (k < np) by omega)
      clear hp hk hnp hkn h9 hlv hL
      refine region_plan [] (.quiet 0 (.quiet 1 (.quiet 2 (.quiet 3 (.quiet 4 (.quiet 5 (.quiet 6 (.quiet 7 (.quiet 8 (.quiet 9 (.quiet 10 (.quiet 11 (.quiet 12 (.quiet 13 (.quiet 14 (.quiet 15 (.quiet 16 .done))))))))))))))))) (by kernel_rfl) (by kernel_rfl) ?_
      repeat (apply p_quiet; (case hi => rfl); intro K hK; go_simp; (refine ⟨hK _ ?_⟩; clear hK K))
      apply p_done
      intro W15 hb15
      go_wp2_with fail
      go_meet
      rw [hE.out]
      exact ⟨rfl, hid (D14.out.low hb15), hid (HRs.out.low hb15)⟩
   case rest =>
    obtain ⟨rfl, D15, HRs2⟩ := hcut
    go_upto_if 64 with fail
    go_cut [] (fun wc2 => ∃ (pa : Option Addr) (na ca : Nat), Hid (RF w wc2 R X U s lv (rl10 x s) #[.string s, .bool b0, .slice p2 n2 k2, .slice p4 n4 k4, .slice p6 n6 k6, .bool b7, .slice pa na ca]) ∧ Hid (Rws wc2 base x s (.slice p2 n2 k2) (.slice p4 n4 k4) (.slice p6 n6 k6)) ∧ Hid (PhOf wc2 base (rl10 x s) (.slice pa na ca)))
    case first => as_aux_lemma =>
     rcases (rl9 x s).either with ⟨e, q, h9⟩ | ⟨l, p, h9⟩
     ·have hm : more9 (rl9 x s) s = false := by rw [h9]; rfl
      have hE : Hid (rl10 x s = .bad e q) := by unfold rl10; rw [h9]; exact hid rfl
      rw [hm]
      rw [h9] at D15
      clear h9 hm
      go_wp2_with fail
      go_meet
      rw [hE.out]
      exact ⟨none, 0, 0, hid D15.out.bad, HRs2, hid (fun l p h => by cases h)⟩
     ·have h10 : Hid (rl10 x s = saysR s p) := by unfold rl10; rw [h9]; exact hid rfl
      by_cases hp : p < s.size
      ·have hm : more9 (rl9 x s) s = true := by rw [h9]; exact decide_eq_true hp
       rw [hm]
       rw [h9] at D15
       clear h9 hm
       obtain ⟨k, hk, hL⟩ := D15.out.st
       have HL5 := hid hL
       have HK5 := hid hk
       clear hL hk
       cases hb : isB s p 32
       ·have hE : Hid (rl10 x s = .bad 90 p) := by
         rw [h10.out]
         unfold saysR
         rw [if_neg (by omega), mustR_no hb]
         exact hid rfl
        have hM := hid (lmust_no HL5.out HK5.out hb)
        clear hb hp
        go_wp2_with fail
        go_at_call 42
        with_reducible refine Calls.mono (hM.out) ?_
        rintro e w16 ⟨rfl, hL6, hB6⟩
        have HL6 := hid hL6
        have D16 := hid (D15.out.step (r' := (.bad 90 p : Res (List Ph))) ⟨by decide, k, hL6⟩ hB6)
        replace HRs2 := hid (D15.out.rows HRs2.out hB6)
        clear hL6 hB6 D15 HL5
        have hPl := hid (place_any HL6.out HK5.out)
        go_wp2_with fail
        go_at_call 46
        with_reducible refine Calls.mono (hPl.out) ?_
        rintro e w17 ⟨rfl, hb7⟩
        have D17 := hid (D16.out.low hb7)
        replace HRs2 := hid (HRs2.out.low hb7)
        have HL7 := hid (HL6.out.low hb7)
        clear hb7 hPl HL6 D16
        obtain ⟨c0, c1, c2, c3, c4, c5, cf⟩ := HL7.out.c6
        go_wp2_with fail
        go_meet
        rw [hE.out]
        exact ⟨none, 0, 0, hid D17.out.bad, HRs2, hid (fun l p h => by cases h)⟩
       ·have hM := hid (lmust_yes HL5.out HK5.out hb hs)
        have hKn := HK5.out.next hp
        rw [asc_wd hb (by omega)] at hKn
        have hmy := hid (mustR_yes hb)
        obtain ⟨f, hf⟩ : ∃ f, p + 1 = f := ⟨_, rfl⟩
        rw [hf] at hKn hmy
        have HKn := hid hKn
        have hfs : f ≤ s.size := by omega
        have hps : p ≠ s.size := by omega
        clear hb hKn hf HK5 hp
        go_wp2_with fail
        go_at_call 42
        with_reducible refine Calls.mono (hM.out) ?_
        rintro e w16 ⟨rfl, hL6, hB6⟩
        have HL6 := hid hL6
        have D16 := hid (D15.out.step (r' := (.ok () f : Res Unit)) ⟨k + 1, HKn.out, hL6⟩ hB6)
        replace HRs2 := hid (D15.out.rows HRs2.out hB6)
        clear hL6 hB6 D15 HL5
        have hPl := hid (place_any HL6.out HKn.out)
        go_wp2_with fail
        go_at_call 46
        with_reducible refine Calls.mono (hPl.out) ?_
        rintro e w17 ⟨rfl, hb7⟩
        have D17 := hid (D16.out.low hb7)
        replace HRs2 := hid (HRs2.out.low hb7)
        have HL7 := hid (HL6.out.low hb7)
        clear hb7 hPl HL6 D16
        obtain ⟨c0, c1, c2, c3, c4, c5, cf⟩ := HL7.out.c6
        by_cases hfe : f = s.size
        ·have hE : Hid (rl10 x s = .bad 90 f) := by
          rw [h10.out]
          unfold saysR
          rw [if_neg hps, hmy.out]
          show Hid ((if f = s.size then _ else _) = _)
          rw [if_pos hfe]
          exact hid rfl
         have q1 : ((f : Int) == s.size) = true := beq_true_of (by omega)
         have hW := hid (wrong_new HL7.out HKn.out 90)
         clear hfe
         go_wp2_with fail
         go_at_call 41
         with_reducible refine Calls.mono (hW.out) ?_
         rintro e w18 ⟨rfl, hL8, hB8⟩
         have HL8 := hid hL8
         have D18 := hid (D17.out.step (r' := (.bad 90 f : Res (List Ph))) ⟨by decide, _, hL8⟩ hB8)
         replace HRs2 := hid (D17.out.rows HRs2.out hB8)
         clear hL8 hB8 D17 HL7 c0 c1 c2 c3 c4 c5 cf
         obtain ⟨c0, c1, c2, c3, c4, c5, cf⟩ := HL8.out.c6
         go_wp2_with fail
         go_meet
         rw [hE.out]
         exact ⟨none, 0, 0, hid D18.out.bad, HRs2, hid (fun l p h => by cases h)⟩
        ·have q1 : ((f : Int) == s.size) = false := beq_false_of (by omega)
         have q2 : (f : Int) ≤ s.size := by omega
         have q3 : (0 : Int) ≤ (f : Int) := by omega
         have h10' : Hid (rl10 x s = phR s f) := by
          rw [h10.out]
          unfold saysR
          rw [if_neg hps, hmy.out]
          show Hid ((if f = s.size then _ else _) = _)
          rw [if_neg hfe]
          exact hid rfl
         have hext := hid (phR_ext s f hfs)
         have hPh := hid (phread69 (s.extract f s.size) (by rw [ext_size]; omega) w17)
         have hbd := bd_ph (s := s.extract f s.size) (p := 0) (by omega)
         rw [ext_size] at hbd
         have hne := hid (fun e q (h : phR (s.extract f s.size) 0 = .bad e q) => phR_ne h)
         clear hfe
         go_wp2_with fail
         go_at_call 47
         with_reducible refine Calls.mono (hPh.out) ?_
         rintro e w18 ⟨hPP, hb8⟩
         skip
         have HW17 := hid D17.out.b.size
         have D18 := hid (D17.out.low hb8)
         replace HRs2 := hid (HRs2.out.low hb8)
         have HL8 := hid (HL7.out.low hb8)
         clear D17 HL7 c0 c1 c2 c3 c4 c5 cf hPh
         rcases (phR (s.extract f s.size) 0).either with ⟨er, qe, hr⟩ | ⟨lp, qe, hr⟩
         ·have hE : Hid (rl10 x s = .bad er (f + qe)) := by rw [h10'.out, hext.out, hr]; exact hid rfl
          have hen := hne.out _ _ hr
          rw [hr] at hPP hbd
          obtain rfl : e = _ := hPP
          obtain ⟨u0, u1, u2, u3, u4, u5, u6, uf⟩ := D18.out.u.c7
          have hUlt : U < w18.heap.size := D18.out.u.lt
          have hDU := hid (D18.out.put 6 (.slice none 0 0))
          have hSU := hid ((ButS.refl [U] w18).set (R := U) (by simp) 6 (.slice none 0 0))
          have hRU := hid (HRs2.out.one hSU.out D18.out.u ⟨by decide, by decide⟩)
          have HLa := hid (HL8.out.but hSU.out (by rw [List.mem_singleton]; exact nRU) (fun B hB => by rw [List.mem_singleton] at hB; subst hB; exact ⟨120, _, by decide, D18.out.u⟩))
          have hbA : Below (w18.setCell ⟨U, 6, none⟩ (.slice none 0 0)).heap.size (w18.setCell ⟨U, 6, none⟩ (.slice none 0 0)) ((w18.setCell ⟨U, 6, none⟩ (.slice none 0 0)).alloc (.cells #[.int .i64 er, .int .i64 qe] 44)) := (Below.refl _ _).alloc (Nat.le_refl _) _
          have KE := Blk.new (w18.setCell ⟨U, 6, none⟩ (.slice none 0 0)) 44 #[.int .i64 er, .int .i64 qe]
          rw [show (w18.setCell ⟨U, 6, none⟩ (.slice none 0 0)).heap.size = w18.heap.size from by simp] at KE
          replace KE := hid KE
          have D19 : Hid (RD w ((w18.setCell ⟨U, 6, none⟩ (.slice none 0 0)).alloc (.cells #[.int .i64 er, .int .i64 qe] 44)) R X U s lv (.ok () f : Res Unit) #[.string s, .bool b0, .slice p2 n2 k2, .slice p4 n4 k4, .slice p6 n6 k6, .bool b7, .slice none 0 0]) := hid (hDU.out.low hbA)
          have HR19 := hid (hRU.out.low hbA)
          replace HLa := hid (HLa.out.low hbA)
          have nEU : w18.heap.size ≠ U := by omega
          have nUE := Ne.symm nEU
          have q4 : (er != 0) = true := bne_true_of hen
          have hw5 : IntKind.i64.wrap ((f : Int) + qe) = (f : Int) + qe := IntWalk.i64_in _ (by have : qe ≤ s.size - f := hbd; omega)
          have nER : w18.heap.size ≠ R := by have := HL8.out.b.lt; omega
          clear hr hbd hbA hb8 HRs2 D18 HL8 hDU hSU hRU
          go_wp2_with fail
          clear u0 u1 u2 u3 u4 u5 u6 uf
          generalize (w18.setCell ⟨U, 6, none⟩ (.slice none 0 0)).alloc (.cells #[.int .i64 er, .int .i64 qe] 44) = W19 at *
          generalize w18.heap.size = E5 at *
          obtain ⟨e0, e1, ef⟩ := KE.out.c2
          have nER' : E5 ∉ [R] := by simpa using nER
          refine region_plan [R] (.quiet 0 (.quiet 1 (.quiet 2 (.quiet 3 (.quiet 4 (.quiet 5 (.quiet 6 (.quiet 7 (.quiet 8 (.quiet 9 (.one 10 (.quiet 11 (.quiet 12 (.one 13 .done)))))))))))))) (by kernel_rfl) (by kernel_rfl) ?_
          repeat (apply p_quiet; (case hi => rfl); intro K hK; go_simp; (refine ⟨hK _ ?_⟩; clear hK K))
          apply p_one
          case hi => rfl
          intro W20 hb20 K hK
          replace HLa := hid (HLa.out.low hb20)
          obtain ⟨c0, c1, c2, c3, c4, c5, cf⟩ := HLa.out.c6
          go_wp2_with fail
          have HBS := hid ((ButS.of hb20).set (S := [R]) (R := R) (by simp) 3 (.int .i64 er))
          refine hK _ _ HBS.out ?_
          replace HLa := hid (show Ln (W20.setCell ⟨R, 3, none⟩ (.int .i64 er)) R s lv (k + 1) er 0 (.pointer (some ⟨X, 0, none⟩)) from ⟨HLa.out.b.set 3 _, HLa.out.own _ _⟩)
          clear hK K hb20 c0 c1 c2 c3 c4 c5 cf
          generalize W20.setCell ⟨R, 3, none⟩ (.int .i64 er) = W21 at *
          repeat (apply p_quiet; (case hi => rfl); intro K hK; go_simp; (refine ⟨hK _ ?_⟩; clear hK K))
          apply p_one
          case hi => rfl
          intro W22 hb22 K hK
          replace HLa := hid (HLa.out.low hb22)
          replace HBS := hid (HBS.out.low hb22)
          obtain ⟨c0, c1, c2, c3, c4, c5, cf⟩ := HLa.out.c6
          go_wp2_with fail
          replace HBS := hid (HBS.out.set (R := R) (by simp) 4 (.int .i64 ((f : Int) + qe)))
          refine hK _ _ HBS.out ?_
          replace HLa := hid (show Ln (W22.setCell ⟨R, 4, none⟩ (.int .i64 ((f : Int) + qe))) R s lv (k + 1) er ((f : Int) + qe) (.pointer (some ⟨X, 0, none⟩)) from ⟨HLa.out.b.set 4 _, HLa.out.own _ _⟩)
          clear hK K hb22 c0 c1 c2 c3 c4 c5 cf
          generalize W22.setCell ⟨R, 4, none⟩ (.int .i64 ((f : Int) + qe)) = W23 at *
          apply p_done
          intro W24 hb24
          replace HLa := hid (HLa.out.low hb24)
          replace HBS := hid (HBS.out.low hb24)
          clear hb24
          go_wp2_with fail
          go_meet
          rw [hE.out]
          have hcast : ((f + qe : Nat) : Int) = (f : Int) + qe := by omega
          exact ⟨none, 0, 0, hid ((D19.out.step (r' := (.bad er (f + qe) : Res (List Ph))) ⟨hen, k + 1, by rw [hcast]; exact HLa.out⟩ HBS.out).bad), hid (D19.out.rows HR19.out HBS.out), hid (fun l p h => by cases h)⟩
         ·have hE : Hid (rl10 x s = .ok lp (f + qe)) := by rw [h10'.out, hext.out, hr]; exact hid rfl
          rw [hr] at hPP hbd
          obtain ⟨vp, rfl, hOw, hlp⟩ := hPP
          obtain ⟨pp, cp, rfl⟩ := own_shape hOw
          have HOw := hid (own_mono hOw (show base ≤ w17.heap.size from Nat.le_trans hbw HW17.out))
          obtain ⟨u0, u1, u2, u3, u4, u5, u6, uf⟩ := D18.out.u.c7
          have hUlt : U < w18.heap.size := D18.out.u.lt
          have hDU := hid (D18.out.put 6 (.slice pp lp.length cp))
          have hSU := hid ((ButS.refl [U] w18).set (R := U) (by simp) 6 (.slice pp lp.length cp))
          have hRU := hid (HRs2.out.one hSU.out D18.out.u ⟨by decide, by decide⟩)
          have HLa := hid (HL8.out.but hSU.out (by rw [List.mem_singleton]; exact nRU) (fun B hB => by rw [List.mem_singleton] at hB; subst hB; exact ⟨120, _, by decide, D18.out.u⟩))
          have hbA : Below (w18.setCell ⟨U, 6, none⟩ (.slice pp lp.length cp)).heap.size (w18.setCell ⟨U, 6, none⟩ (.slice pp lp.length cp)) ((w18.setCell ⟨U, 6, none⟩ (.slice pp lp.length cp)).alloc (.cells #[.int .i64 0, .int .i64 0] 44)) := (Below.refl _ _).alloc (Nat.le_refl _) _
          have KE := Blk.new (w18.setCell ⟨U, 6, none⟩ (.slice pp lp.length cp)) 44 #[.int .i64 0, .int .i64 0]
          rw [show (w18.setCell ⟨U, 6, none⟩ (.slice pp lp.length cp)).heap.size = w18.heap.size from by simp] at KE
          replace KE := hid KE
          have D19 : Hid (RD w ((w18.setCell ⟨U, 6, none⟩ (.slice pp lp.length cp)).alloc (.cells #[.int .i64 0, .int .i64 0] 44)) R X U s lv (.ok () f : Res Unit) #[.string s, .bool b0, .slice p2 n2 k2, .slice p4 n4 k4, .slice p6 n6 k6, .bool b7, .slice pp lp.length cp]) := hid (hDU.out.low hbA)
          have HR19 := hid (hRU.out.low hbA)
          replace HLa := hid (HLa.out.low hbA)
          have nEU : w18.heap.size ≠ U := by omega
          have nUE := Ne.symm nEU
          have HO19 := hid (own_low (own_butT HOw.out hSU.out (fun B hB => by rw [List.mem_singleton] at hB; subst hB; exact ⟨120, _, by decide, D18.out.u⟩)) hbA)
          clear hr hbd hbA hb8 HRs2 D18 HL8 hOw hlp hDU hSU hRU
          go_wp2_with fail
          go_meet
          rw [hE.out]
          exact ⟨pp, lp.length, cp, hid (D19.out.fin (r' := (.ok lp (f + qe) : Res (List Ph))) ⟨_, HLa.out⟩), HR19, hid (fun l p h => by cases h; exact HO19.out)⟩
      ·have hm : more9 (rl9 x s) s = false := by rw [h9]; exact decide_eq_false hp
       rw [hm]
       rw [h9] at D15
       obtain ⟨k, hk, hL⟩ := D15.out.st
       have hE : Hid (rl10 x s = .ok [] p) := by
        rw [h10.out]
        unfold saysR
        rw [if_pos (hk.ge hp).2]
        exact hid rfl
       have D16 := hid (D15.out.fin (r' := (.ok [] p : Res (List Ph))) ⟨k, hL⟩)
       clear h9 hm hk hL
       go_wp2_with fail
       go_meet
       rw [hE.out]
       exact ⟨none, 0, 0, D16, HRs2, hid (fun l p h => by cases h; exact World.ownsRow_nil _ _ _ _)⟩
    case rest =>
     obtain ⟨pa, na, ca, D19, HR9, HP9⟩ := hcut
     obtain ⟨i0, hi, hz0, hz1, hz2⟩ := info_parts info43
     obtain ⟨cx, Vc, v0, h1, h2, h3, h4, h5⟩ := HX.out.ex
     have nXR : X ≠ R := blk_ne h1 HL.out.b (by decide)
     obtain ⟨Vs0, hVa, hVb, hVc⟩ := h5
     obtain ⟨n, hn⟩ : ∃ n, x.rules.length = n := ⟨_, rfl⟩
     rw [hn] at hVb hl
     obtain ⟨pv, cv, rfl⟩ := own_shape hVb
     have hgU := hid (fun g hg => own_ge hVb (g := g) hg)
     have H5w := hid (show DRows w base (.slice pv n cv) x.rules from ⟨Vs0, hVa, by rw [hn]; exact hVb, hVc⟩)
     have HN := hid hn
     have H1 := hid h1
     have H2 := hid h2
     have H3 := hid h3
     have H4 := hid h4
     have hUw2 : w.heap.size = U := HU.out
     have hX9 := hid (D19.out.b.blk h1 (by rw [List.mem_singleton]; exact nXR))
     have y78 := hX9.out.cell (k := 78) h4
     have yf := hX9.out.froz
     have hch := hid (rule_chain x s)
     have hLU : Hid (w.heap.size ≤ U) := hid (Nat.le_of_eq hUw2)
     clear hn h1 h2 h3 h4 hVa hVb hVc HX hUw2
     replace hgU := hid (fun g hg => (show base ≤ g ∧ g < U from ⟨(hgU.out g hg).1, by have := (hgU.out g hg).2; have := hLU.out; omega⟩))
     clear hUw
     go_upto_region 24 with fail
     go_cut [139] (fun v wy => v = .bool (over n (rl10 x s)) ∧ wy = wc)
     case first => as_aux_lemma =>
      rcases (rl10 x s).either with ⟨e, q, h10⟩ | ⟨l6, q, h10⟩
      ·have D19' := D19.out
       rw [h10] at D19'
       obtain ⟨he, k, hL⟩ := D19'.st
       obtain ⟨c0, c1, c2, c3, c4, c5, cf⟩ := hL.c6
       have q1 : (e == 0) = false := beq_false_of he
       have HO : Hid (over n (rl10 x s) = (decide (256 ≤ n) && decide (0 < q))) := by rw [h10]; exact hid rfl
       clear hL D19' h10
       by_cases h256 : 256 ≤ n
       ·have q2 := dT (show (256 : Int) ≤ n by omega)
        by_cases hq : 0 < q
        ·have q3 := dT (show (0 : Int) < q by omega)
         go_wp2_with fail
         go_meet
         rw [HO.out, decide_eq_true h256, decide_eq_true hq]
         exact ⟨rfl, rfl⟩
        ·have q3 := dF (show ¬ ((0 : Int) < q) by omega)
         go_wp2_with fail
         go_meet
         rw [HO.out, decide_eq_false hq, Bool.and_false]
         exact ⟨rfl, rfl⟩
       ·have q2 := dF (show ¬ ((256 : Int) ≤ n) by omega)
        go_wp2_with fail
        go_meet
        rw [HO.out, decide_eq_false h256]
        exact ⟨rfl, rfl⟩
      ·have D19' := D19.out
       rw [h10] at D19'
       obtain ⟨k, hL⟩ := D19'.st
       obtain ⟨c0, c1, c2, c3, c4, c5, cf⟩ := hL.c6
       have HO : Hid (over n (rl10 x s) = (decide (256 ≤ n) && true)) := by rw [h10]; exact hid rfl
       clear hL D19' h10
       by_cases h256 : 256 ≤ n
       ·have q2 := dT (show (256 : Int) ≤ n by omega)
        go_wp2_with fail
        go_meet
        rw [HO.out, decide_eq_true h256]
        exact ⟨rfl, rfl⟩
       ·have q2 := dF (show ¬ ((256 : Int) ≤ n) by omega)
        go_wp2_with fail
        go_meet
        rw [HO.out, decide_eq_false h256]
        exact ⟨rfl, rfl⟩
     case rest =>
      obtain ⟨rfl, rfl⟩ := hcut
      go_upto_if 139 with fail
      go_cut [] (fun wz => ∃ (k : Nat) (e q : Int), Hid (Ln wz R s lv k e q (.pointer (some ⟨X, 0, none⟩))) ∧ Hid (Blk wz U 120 #[.string s, .bool b0, .slice p2 n2 k2, .slice p4 n4 k4, .slice p6 n6 k6, .bool b7, .slice pa na ca]) ∧ Hid (ButS [R] w wz) ∧ Hid (FinR wz base x [.string s, .bool b0, .slice p2 n2 k2, .slice p4 n4 k4, .slice p6 n6 k6, .bool b7, .slice pa na ca] (ruleR x s) e q))
      case first => as_aux_lemma =>
       rcases (rl10 x s).either with ⟨e, q, h10⟩ | ⟨l6, q, h10⟩
       ·have hc2 := hch.out
        rw [h10] at hc2
        replace hc2 : partsR x.said s = .bad e q := hc2
        have D19' := D19.out
        rw [h10] at D19'
        obtain ⟨he, k, hL⟩ := D19'.st
        have HLk := hid hL
        obtain ⟨c0, c1, c2, c3, c4, c5, cf⟩ := hL.c6
        by_cases ho : n = 256 ∧ 0 < q
        ·have hov : over n (rl10 x s) = true := by rw [h10]; show (decide (256 ≤ n) && decide (0 < q)) = true; rw [decide_eq_true (by omega), decide_eq_true ho.2]; rfl
         have hE : Hid (ruleR x s = .bad 3 0) := by unfold ruleR; rw [hc2]; dsimp only; rw [if_pos ⟨by rw [HN.out]; exact ho.1, ho.2⟩]; exact hid rfl
         rw [hov]
         clear hov ho hc2 h10 hL D19'
         go_wp2_with fail
         go_meet
         rw [hE.out]
         exact ⟨k, 3, 0, hid (HLk.out.bad 3 0), hid ((D19.out.u.other (k := 3) nUR (.int .i64 3)).other (k := 4) nUR (.int .i64 0)), hid ((D19.out.b.set (R := R) (by simp) 3 (.int .i64 3)).set (R := R) (by simp) 4 (.int .i64 0)), hid ⟨by decide, rfl, rfl⟩⟩
        ·have hov : over n (rl10 x s) = false := by
          rw [h10]
          show (decide (256 ≤ n) && decide (0 < q)) = false
          by_cases h256 : 256 ≤ n
          ·rw [decide_eq_false (show ¬ 0 < q by omega), Bool.and_false]
          ·rw [decide_eq_false h256, Bool.false_and]
         have hE : Hid (ruleR x s = .bad e q) := by unfold ruleR; rw [hc2]; dsimp only; rw [if_neg (by rw [HN.out]; exact ho)]; exact hid rfl
         rw [hov]
         clear hov ho hc2 h10 hL D19'
         go_wp2_with fail
         go_meet
         rw [hE.out]
         exact ⟨k, e, q, HLk, hid D19.out.u, hid D19.out.b, hid ⟨he, rfl, rfl⟩⟩
       ·have hc2 := hch.out
        rw [h10] at hc2
        obtain ⟨l1, q1', l2, q2', l3, q3', hr2, hr4, hr6, hpr⟩ := hc2
        have D19' := D19.out
        rw [h10] at D19'
        obtain ⟨k, hL⟩ := D19'.st
        have HLk := hid hL
        obtain ⟨c0, c1, c2, c3, c4, c5, cf⟩ := hL.c6
        have hb7 : (hashR s q3').1 = b7 := by rw [← HB7.out, hr6]; rfl
        have hb0 : (hashR s 0).1 = b0 := HB0.out
        have hOk := hid (show DlOk wc base ⟨s, b0, l1, l2, l3, b7, l6⟩ ⟨.slice p2 n2 k2, .slice p6 n6 k6, .slice p4 n4 k4, .slice pa na ca⟩ from ⟨(HR9.out.r2 _ _ hr2).1, (HR9.out.r6 _ _ hr6).1, (HR9.out.r4 _ _ hr4).1, HP9.out _ _ h10⟩)
        by_cases ho : n = 256
        ·have hov : over n (rl10 x s) = true := by rw [h10]; show (decide (256 ≤ n) && true) = true; rw [decide_eq_true (by omega)]; rfl
         have hE : Hid (ruleR x s = .bad 3 0) := by unfold ruleR; rw [hpr]; dsimp only; rw [if_pos (by rw [HN.out]; exact ho)]; exact hid rfl
         rw [hov]
         clear hov ho hpr hr2 hr4 hr6 hb7 hb0 h10 hL D19' hOk
         go_wp2_with fail
         go_meet
         rw [hE.out]
         exact ⟨k, 3, 0, hid (HLk.out.bad 3 0), hid ((D19.out.u.other (k := 3) nUR (.int .i64 3)).other (k := 4) nUR (.int .i64 0)), hid ((D19.out.b.set (R := R) (by simp) 3 (.int .i64 3)).set (R := R) (by simp) 4 (.int .i64 0)), hid ⟨by decide, rfl, rfl⟩⟩
        ·have hov : over n (rl10 x s) = false := by rw [h10]; show (decide (256 ≤ n) && true) = false; rw [decide_eq_false (by omega)]; rfl
         have hE : Hid (ruleR x s = .ok (x.addR ⟨s, b0, l1, l2, l3, b7, l6⟩)) := by unfold ruleR; rw [hpr, hb7, hb0]; dsimp only; rw [if_neg (by rw [HN.out]; exact ho)]; exact hid rfl
         rw [hov]
         clear hov ho hpr hr2 hr4 hr6 hb7 hb0 h10 hL D19'
         go_wp2_with fail
         go_meet
         rw [hE.out]
         exact ⟨k, 0, 0, HLk, hid D19.out.u, hid D19.out.b, hid ⟨rfl, rfl, _, _, rfl, rfl, hOk.out⟩⟩
      case rest =>
       obtain ⟨kz, ez, qz, HLz, HUz, HBz, HFz⟩ := hcut
       have HX := hid (HBz.out.blk H1.out (by rw [List.mem_singleton]; exact nXR))
       obtain ⟨Vs, hVa, hVb, hVc⟩ := H5w.out.but HBz.out (Free.one HL.out.b ⟨by decide, by decide, by decide, by decide⟩)
       rw [HN.out] at hVb
       obtain ⟨So, hSo⟩ : ∃ So, rowS (.slice pv n cv) = So := ⟨_, rfl⟩
       have hSoU := hid (fun B (hB : B ∈ So) => hgU.out B (rowS_mem (hSo.symm ▸ hB)))
       have hSoK := hid (fun B (hB : B ∈ So) => show ∃ a, Blk wc B 120 a from own_blk hVb (rowS_mem (hSo.symm ▸ hB)))
       have nXU : X ≠ U := blk_ne HX.out HUz.out (by decide)
       have nUX := Ne.symm nXU
       have nXSo : X ∉ So := fun h => by obtain ⟨a, ha⟩ := hSoK.out X h; exact blk_ne HX.out ha (by decide) rfl
       have nUS : U ∉ X :: So := fun h => by
        rcases List.mem_cons.1 h with h | h
        ·exact nUX h
        ·have := (hSoU.out U h).2; omega
       have nRS : R ∉ X :: So := fun h => by
        rcases List.mem_cons.1 h with h | h
        ·exact nXR h.symm
        ·obtain ⟨a, ha⟩ := hSoK.out R h; exact blk_ne HLz.out.b ha (by decide) rfl
       have hEnd : Hid (∀ (Wg : World) (v' : Value), ButS (X :: So) wc Wg → Blk Wg X 31 (cx.setIfInBounds 78 v') → Wg.ownsRow base 120 7 v' (n + 1) (flatE (fun y : Rl × RlV => Rl.dcells y.1 y.2) Vs ++ [.string s, .bool b0, .slice p2 n2 k2, .slice p4 n4 k4, .slice p6 n6 k6, .bool b7, .slice pa na ca]) → DPost Wg base R X s lv (ruleR x s) ∧ Below base w Wg) := hid (by
        intro Wg v' hBS hXg hRg
        have z1 := @rule_end w wc Wg R X base kz n s lv v' (.int .i64 0) x cx _ Vc Vs So _ ez qz H1.out H2.out H3.out hVa hVc HN.out HL.out.b HBz.out HX.out HLz.out HFz.out hBS hXg hRg nRS hbw hbR hbX U
        exact z1 (fun B hB => hSoU.out B hB) (fun B hB => hSoK.out B hB))
       have HV := hid hVb
       have hSoH := hid hSo
       have HBS := hid (ButS.refl (X :: So) wc)
       obtain ⟨u0, u1, u2, u3, u4, u5, u6, uf⟩ := HUz.out.c7
       obtain ⟨c0, c1, c2, c3, c4, c5, cf⟩ := HLz.out.c6
       clear hVa hVb hVc hSo HFz y78 yf
       go_wp2_with fail
       refine region_plan (X :: So) (.quiet 0 (.quiet 1 (.quiet 2 (.quiet 3 (.quiet 4 (.quiet 5 (.quiet 6 (.quiet 7 (.quiet 8 (.quiet 9 (.quiet 11 (.two 10 (.one 12 (.one 13 (.quiet 14 (.quiet 15 (.one 16 .done))))) 12 (.one 10 (.one 13 (.quiet 14 (.quiet 15 (.one 16 .done))))))))))))))))) (by kernel_rfl) (by kernel_rfl) ?_
       repeat (apply p_quiet; (case hi => rfl); intro K hK; go_simp; (refine ⟨hK _ ?_⟩; clear hK K))
       clear u0 u1 u2 u3 u4 u5 u6 uf c0 c1 c2 c3 c4 c5 cf
       refine p_two ?_ ?_
       ·skip
        apply p_one
        case hi => rfl
        intro Wa hba K hK
        replace HBS := hid (HBS.out.low hba)
        replace HX := hid (HX.out.low hba)
        replace HV := hid (own_low HV.out hba)
        have y78 := HX.out.cell (k := 78) H4.out
        have yf := HX.out.froz
        go_wp2_with fail
        refine hK _ _ HBS.out ?_
        clear hK K y78 yf hba
        apply p_one
        case hi => rfl
        intro Wb hbb K hK
        replace HBS := hid (HBS.out.low hbb)
        replace HX := hid (HX.out.low hbb)
        replace HV := hid (own_low HV.out hbb)
        go_wp2_with fail
        refine hK _ _ (HBS.out.alloc _) ?_
        have KB := hid (Blk.new Wb 120 #[.string s, .bool b0, .slice p2 n2 k2, .slice p4 n4 k4, .slice p6 n6 k6, .bool b7, .slice pa na ca])
        have hbn : Below Wb.heap.size Wb (Wb.alloc (.cells #[.string s, .bool b0, .slice p2 n2 k2, .slice p4 n4 k4, .slice p6 n6 k6, .bool b7, .slice pa na ca] 120)) := (Below.refl _ _).alloc (Nat.le_refl _) _
        replace HBS := hid (HBS.out.low hbn)
        replace HX := hid (HX.out.low hbn)
        replace HV := hid (own_low HV.out hbn)
        clear hK K hbb hbn
        generalize Wb.alloc (.cells #[.string s, .bool b0, .slice p2 n2 k2, .slice p4 n4 k4, .slice p6 n6 k6, .bool b7, .slice pa na ca] 120) = Wba at *
        generalize Wb.heap.size = B4 at *
        apply p_one
        case hi => rfl
        intro Wd hbd K hK
        replace HBS := hid (HBS.out.low hbd)
        replace HX := hid (HX.out.low hbd)
        replace HV := hid (own_low HV.out hbd)
        replace KB := hid (KB.out.low hbd)
        have hs2 := HBS.out.size
        have hs1 := HBz.out.size
        refine wpList_append_own _ rfl (.tmp 156) (.tmp 158) 29 rfl base 120 i0 _ 7 128 Tryz.underlying29 hi hz0 hz1 hz2 rfl (by decide) _ _ _ rfl HV.out ⟨B4, 0, none⟩ 1 1 [.string s, .bool b0, .slice p2 n2 k2, .slice p4 n4 k4, .slice p6 n6 k6, .bool b7, .slice pa na ca] rfl rfl (blk_list KB.out) (by simp [Value.oneCell']) (by unfold maxLen; omega) (by omega) (by omega) ?_
        intro v' w5 hown' hgrow hnil
        have hSg := hid ((ButS.refl So Wd).grownS hgrow (fun k hk => hSoH.out ▸ mem_rowS hk))
        replace HBS := hid (HBS.out.grownS hgrow (fun k hk => List.mem_cons_of_mem _ (hSoH.out ▸ mem_rowS hk)))
        replace HX := hid (hSg.out.blk HX.out nXSo)
        have HR5 := hid hown'
        obtain ⟨pp5, cap5, rfl⟩ := own_shape hown'
        clear hown' hgrow hnil hSg HV hbd hs1 hs2
        refine ⟨rfl, hK _ _ HBS.out ?_⟩
        clear hK K KB
        repeat (apply p_quiet; (case hi => rfl); intro K hK; go_simp; (refine ⟨hK _ ?_⟩; clear hK K))
        apply p_one
        case hi => rfl
        intro We hbe K hK
        replace HBS := hid (HBS.out.low hbe)
        replace HX := hid (HX.out.low hbe)
        replace HR5 := hid (own_low HR5.out hbe)
        have y78 := HX.out.cell (k := 78) H4.out
        have yf := HX.out.froz
        go_wp2_with fail
        replace HBS := hid (HBS.out.set (R := X) (by simp) 78 (.slice pp5 (n + 1) cap5))
        refine hK _ _ HBS.out ?_
        replace HR5 := hid (own_butT HR5.out ((ButS.refl [X] We).set (R := X) (by simp) 78 (.slice pp5 (n + 1) cap5)) (fun B hB => by rw [List.mem_singleton] at hB; subst hB; exact ⟨31, _, by decide, HX.out⟩))
        replace HX := hid (HX.out.set 78 (.slice pp5 (n + 1) cap5))
        clear hK K y78 yf hbe
        generalize We.setCell ⟨X, 78, none⟩ (.slice pp5 (n + 1) cap5) = Wf at *
        apply p_done
        intro Wg hbg
        replace HBS := hid (HBS.out.low hbg)
        replace HX := hid (HX.out.low hbg)
        replace HR5 := hid (own_low HR5.out hbg)
        clear hbg
        go_wp2_with fail
        go_end0
        exact ⟨rfl, hEnd.out Wg _ HBS.out HX.out HR5.out⟩
       ·skip
        apply p_one
        case hi => rfl
        intro Wb hbb K hK
        replace HBS := hid (HBS.out.low hbb)
        replace HX := hid (HX.out.low hbb)
        replace HV := hid (own_low HV.out hbb)
        go_wp2_with fail
        refine hK _ _ (HBS.out.alloc _) ?_
        have KB := hid (Blk.new Wb 120 #[.string s, .bool b0, .slice p2 n2 k2, .slice p4 n4 k4, .slice p6 n6 k6, .bool b7, .slice pa na ca])
        have hbn : Below Wb.heap.size Wb (Wb.alloc (.cells #[.string s, .bool b0, .slice p2 n2 k2, .slice p4 n4 k4, .slice p6 n6 k6, .bool b7, .slice pa na ca] 120)) := (Below.refl _ _).alloc (Nat.le_refl _) _
        replace HBS := hid (HBS.out.low hbn)
        replace HX := hid (HX.out.low hbn)
        replace HV := hid (own_low HV.out hbn)
        clear hK K hbb hbn
        generalize Wb.alloc (.cells #[.string s, .bool b0, .slice p2 n2 k2, .slice p4 n4 k4, .slice p6 n6 k6, .bool b7, .slice pa na ca] 120) = Wba at *
        generalize Wb.heap.size = B4 at *
        apply p_one
        case hi => rfl
        intro Wa hba K hK
        replace HBS := hid (HBS.out.low hba)
        replace HX := hid (HX.out.low hba)
        replace HV := hid (own_low HV.out hba)
        replace KB := hid (KB.out.low hba)
        have y78 := HX.out.cell (k := 78) H4.out
        have yf := HX.out.froz
        go_wp2_with fail
        refine hK _ _ HBS.out ?_
        clear hK K y78 yf hba
        apply p_one
        case hi => rfl
        intro Wd hbd K hK
        replace HBS := hid (HBS.out.low hbd)
        replace HX := hid (HX.out.low hbd)
        replace HV := hid (own_low HV.out hbd)
        replace KB := hid (KB.out.low hbd)
        have hs2 := HBS.out.size
        have hs1 := HBz.out.size
        refine wpList_append_own _ rfl (.tmp 156) (.tmp 158) 29 rfl base 120 i0 _ 7 128 Tryz.underlying29 hi hz0 hz1 hz2 rfl (by decide) _ _ _ rfl HV.out ⟨B4, 0, none⟩ 1 1 [.string s, .bool b0, .slice p2 n2 k2, .slice p4 n4 k4, .slice p6 n6 k6, .bool b7, .slice pa na ca] rfl rfl (blk_list KB.out) (by simp [Value.oneCell']) (by unfold maxLen; omega) (by omega) (by omega) ?_
        intro v' w5 hown' hgrow hnil
        have hSg := hid ((ButS.refl So Wd).grownS hgrow (fun k hk => hSoH.out ▸ mem_rowS hk))
        replace HBS := hid (HBS.out.grownS hgrow (fun k hk => List.mem_cons_of_mem _ (hSoH.out ▸ mem_rowS hk)))
        replace HX := hid (hSg.out.blk HX.out nXSo)
        have HR5 := hid hown'
        obtain ⟨pp5, cap5, rfl⟩ := own_shape hown'
        clear hown' hgrow hnil hSg HV hbd hs1 hs2
        refine ⟨rfl, hK _ _ HBS.out ?_⟩
        clear hK K KB
        repeat (apply p_quiet; (case hi => rfl); intro K hK; go_simp; (refine ⟨hK _ ?_⟩; clear hK K))
        apply p_one
        case hi => rfl
        intro We hbe K hK
        replace HBS := hid (HBS.out.low hbe)
        replace HX := hid (HX.out.low hbe)
        replace HR5 := hid (own_low HR5.out hbe)
        have y78 := HX.out.cell (k := 78) H4.out
        have yf := HX.out.froz
        go_wp2_with fail
        replace HBS := hid (HBS.out.set (R := X) (by simp) 78 (.slice pp5 (n + 1) cap5))
        refine hK _ _ HBS.out ?_
        replace HR5 := hid (own_butT HR5.out ((ButS.refl [X] We).set (R := X) (by simp) 78 (.slice pp5 (n + 1) cap5)) (fun B hB => by rw [List.mem_singleton] at hB; subst hB; exact ⟨31, _, by decide, HX.out⟩))
        replace HX := hid (HX.out.set 78 (.slice pp5 (n + 1) cap5))
        clear hK K y78 yf hbe
        generalize We.setCell ⟨X, 78, none⟩ (.slice pp5 (n + 1) cap5) = Wf at *
        apply p_done
        intro Wg hbg
        replace HBS := hid (HBS.out.low hbg)
        replace HX := hid (HX.out.low hbg)
        replace HR5 := hid (own_low HR5.out hbg)
        clear hbg
        go_wp2_with fail
        go_end0
        exact ⟨rfl, hEnd.out Wg _ HBS.out HX.out HR5.out⟩
end Go.Proofs.YtieifhfgedoiaaaGreatDoor
