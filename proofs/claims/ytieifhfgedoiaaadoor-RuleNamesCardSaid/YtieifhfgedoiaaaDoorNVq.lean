/- Rules that are printed, and read again; the program's text of them. Conditions: those of each theorem. -/
import Derived.Test.YtieifhfgedoiaaaDoorNSc
import Derived.Test.YtieifhfgedoiaaaDoorNFa
import Derived.Test.YtieifhfgedoiaaaDoorNSa
import Derived.Test.YtieifhfgedoiaaaDoorNRz
import Derived.Shelf.Strings.Builder1
import Derived.Shelf.LaysM
import Derived.Test.YtieifhfgedoiaaaDoorProg
namespace Go.Proofs.YtieifhfgedoiaaaDoor
open Go.RowKit Go.Lib
open Go.ChangeMaps
set_option linter.unusedVariables false
set_option linter.unusedSimpArgs false
attribute [local go_sem] ExtS.cell ExtS.froz upE_value upE_skip upE_enter Ext.cell Ext.froz
/-- a class's line, as it is printed -/
def clsL (x : Rs) (i : Nat) : List UInt8 := match x.cls i with
 | some y => y.1.data.toList ++ [10]
 | none => []
def headL (x : Rs) (i : Nat) : List UInt8 := (List.range i).flatMap (clsL x)
def rulL (L : List Rl) : List UInt8 := L.flatMap fun u => u.line.data.toList ++ [10]
/-- the rules' text -/
def printL (x : Rs) : List UInt8 := headL x 26 ++ rulL x.rules
theorem headL_succ (x : Rs) (i : Nat) : headL x (i + 1) = headL x i ++ clsL x i := by unfold headL; rw [List.range_succ, List.flatMap_append, List.flatMap_singleton]
theorem headL_mono (x : Rs) : ∀ (d i : Nat), (headL x i).length ≤ (headL x (i + d)).length
 | 0, i => Nat.le_refl _
 | d + 1, i => Nat.le_trans (headL_mono x d i) (by rw [← Nat.add_assoc, headL_succ, List.length_append]; omega)
theorem rulL_take {L : List Rl} {j : Nat} {u : Rl} (h : L[j]? = some u) : rulL (L.take (j + 1)) = rulL (L.take j) ++ (u.line.data.toList ++ [10]) := by
 unfold rulL
 rw [List.take_add_one, h, List.flatMap_append]
 simp
theorem rulL_le (L : List Rl) (j : Nat) : (rulL (L.take j)).length ≤ (rulL L).length := by
 have : rulL L = rulL (L.take j) ++ rulL (L.drop j) := by unfold rulL; rw [← List.flatMap_append, List.take_append_drop]
 rw [this, List.length_append]
 omega
end Go.Proofs.YtieifhfgedoiaaaDoor
namespace Go.Proofs.YtieifhfgedoiaaaDoor
open Go.RowKit Go.Lib
set_option linter.unusedVariables false
set_option linter.unusedSimpArgs false
/-- a text whose lines are these, each with its end -/
def joinL (L : List ByteArray) : List UInt8 := L.flatMap fun t => t.data.toList ++ [10]
def NoNl (t : ByteArray) : Prop := ∀ c ∈ t.data.toList, c ≠ 10
/-- a list of bytes cut at its line ends -/
def splitA : List UInt8 → List UInt8 → List (List UInt8)
 | [], acc => [acc]
 | c :: r, acc => if c = 10 then acc :: splitA r [] else splitA r (acc ++ [c])
theorem splitA_no : ∀ (l r acc : List UInt8), (∀ c ∈ l, c ≠ 10) → splitA (l ++ r) acc = splitA r (acc ++ l)
 | [], r, acc, h => by simp
 | c :: l, r, acc, h => by
  rw [List.cons_append]
  show (if c = 10 then _ else _) = _
  rw [if_neg (h c (by simp)), splitA_no l r _ (fun d hd => h d (by simp [hd]))]
  simp
theorem splitA_join : ∀ (L : List ByteArray), (∀ t ∈ L, NoNl t) → splitA (joinL L) [] = L.map (fun t => t.data.toList) ++ [[]]
 | [], h => rfl
 | t :: L, h => by
  have h1 : joinL (t :: L) = t.data.toList ++ (10 :: joinL L) := by unfold joinL; simp
  rw [h1, splitA_no _ _ _ (h t (by simp))]
  show (if (10 : UInt8) = 10 then _ else _) = _
  rw [if_pos rfl, splitA_join L (fun u hu => h u (by simp [hu]))]
  simp
theorem splitA_mem : ∀ (l acc : List UInt8), (∀ c ∈ acc, c ≠ 10) → ∀ t ∈ splitA l acc, ∀ c ∈ t, c ≠ 10
 | [], acc, h, t, ht => by
  have : t = acc := by simpa [splitA] using ht
  subst this; exact h
 | c :: l, acc, h, t, ht => by
  unfold splitA at ht
  by_cases hc : c = 10
  ·rw [if_pos hc] at ht
   rcases List.mem_cons.1 ht with rfl | h2
   ·exact h
   ·exact splitA_mem l [] (by simp) t h2
  ·rw [if_neg hc] at ht
   refine splitA_mem l (acc ++ [c]) (fun d hd => ?_) t ht
   rcases List.mem_append.1 hd with h3 | h3
   ·exact h d h3
   ·rw [List.mem_singleton] at h3; subst h3; exact hc
theorem ext_list (s : ByteArray) (a b : Nat) : (s.extract a b).data.toList = (s.data.toList.take b).drop a := by
 rw [ByteArray.data_extract, Array.toList_extract, List.extract_eq_take_drop, List.drop_take]
theorem cutL_split (s : ByteArray) : ∀ (k i a : Nat), s.size - i = k → a ≤ i → i ≤ s.size → (cutL s a i).map (fun t => t.data.toList) = splitA (s.data.toList.drop i) ((s.data.toList.take i).drop a)
 | 0, i, a, hk, ha, hi => by
  have : i = s.size := by omega
  subst this
  have hl : s.data.toList.length = s.size := by simp
  rw [cutL_end (by omega), List.drop_of_length_le (by omega), List.map_singleton, ext_list]
  rfl
 | k + 1, i, a, hk, ha, hi => by
  have hlt : i < s.size := by omega
  have hl : s.data.toList.length = s.size := by simp
  have hd : s.data.toList.drop i = (s[i]'hlt) :: s.data.toList.drop (i + 1) := List.drop_eq_getElem_cons (by rw [hl]; exact hlt)
  have ht : s.data.toList.take (i + 1) = s.data.toList.take i ++ [s[i]'hlt] := by
   rw [List.take_add_one, List.getElem?_eq_getElem (by rw [hl]; exact hlt)]; rfl
  have hti : (s.data.toList.take i).length = i := by rw [List.length_take, hl]; omega
  rw [hd]
  show _ = if (s[i]'hlt) = 10 then _ else _
  have hb := get_eqN s i hlt
  by_cases hc : (s[i]'hlt) = 10
  ·rw [if_pos hc, cutL_nl hlt (by rw [hb, hc]; rfl), List.map_cons, cutL_split s k (i + 1) (i + 1) (by omega) (Nat.le_refl _) (by omega)]
   congr 1
   ·rw [ext_list]
   ·rw [List.drop_of_length_le (l := s.data.toList.take (i + 1)) (by rw [List.length_take, hl]; omega)]
  ·rw [if_neg hc, cutL_go hlt (fun e => hc (by apply UInt8.toNat_inj.1; rw [← hb, e]; rfl)), cutL_split s k (i + 1) a (by omega) (by omega) (by omega), ht, List.drop_append_of_le_length (by omega)]
theorem linesB_split (s : ByteArray) : (linesB s).map (fun t => t.data.toList) = splitA s.data.toList [] := by
 rw [linesB_eq, cutL_split s s.size 0 0 rfl (Nat.le_refl _) (Nat.zero_le _)]
 simp
theorem linesB_no {s t : ByteArray} (h : t ∈ linesB s) : NoNl t := by
 have h1 : t.data.toList ∈ splitA s.data.toList [] := by rw [← linesB_split]; exact List.mem_map_of_mem h
 exact fun c hc => splitA_mem _ _ (by simp) _ h1 c hc
theorem ba_list {a b : ByteArray} (h : a.data.toList = b.data.toList) : a = b := ByteArray.ext (Array.toList_inj.1 h)
theorem map_ba : ∀ {L M : List ByteArray}, L.map (fun t => t.data.toList) = M.map (fun t => t.data.toList) → L = M
 | [], [], h => rfl
 | [], _ :: _, h => by cases h
 | _ :: _, [], h => by cases h
 | a :: L, b :: M, h => by
  injection h with h1 h2
  rw [ba_list h1, map_ba h2]
theorem linesB_join {s : ByteArray} {L : List ByteArray} (hs : s.data.toList = joinL L) (hL : ∀ t ∈ L, NoNl t) : linesB s = L ++ [⟨#[]⟩] := by
 apply map_ba
 rw [linesB_split, hs, splitA_join L hL, List.map_append]
 rfl
/-- lines that bring rules to rules -/
def OkL (x : Rs) (L : List ByteArray) (y : Rs) : Prop := ∀ p, linesR x p L = .ok y
theorem OkL.nil (x : Rs) : OkL x [] x := fun p => rfl
theorem OkL.cons {x z y : Rs} {s : ByteArray} {L : List ByteArray} (h : lineR x s = .ok z) (k : OkL z L y) : OkL x (s :: L) y := fun p => by
 unfold linesR; rw [h]; exact k _
theorem linesR_any : ∀ {L : List ByteArray} {x y : Rs} {p : Nat}, linesR x p L = .ok y → ∀ q, linesR x q L = .ok y
 | [], x, y, p, h, q => h
 | s :: L, x, y, p, h, q => by
  unfold linesR at h ⊢
  cases hl : lineR x s with
  | bad e r => rw [hl] at h; cases h
  | ok w => rw [hl] at h; exact linesR_any h _
theorem OkL.app {y z : Rs} {M : List ByteArray} : ∀ {L : List ByteArray} {x : Rs}, OkL x L y → OkL y M z → OkL x (L ++ M) z
 | [], x, h, k => by have := h 0; injection this with this; subst this; exact k
 | s :: L, x, h, k => by
  have h0 := h 0
  unfold linesR at h0
  cases hl : lineR x s with
  | bad e q => rw [hl] at h0; cases h0
  | ok w =>
   rw [hl] at h0
   exact OkL.cons hl (OkL.app (fun p => linesR_any h0 p) k)
/-- a rule's line, that says this rule where these names are said -/
structure RlL (said : Nat → Bool) (u : Rl) : Prop where
 p : ∃ q, partsR said u.line = .ok u q
 z : ¬ (u.line.size = 0 ∨ byteN u.line 0 = 59)
 c : isC u.line = false
/-- a class's line, that says these pieces -/
structure ClL (n : Nat) (t : ByteArray) (l : List One) : Prop where
 c : isC t = true
 n : byteN t 0 = n + 65
 p : ∃ q, classR Rs.empty t = .ok l q
theorem classR_free {x : Rs} {t : ByteArray} (h : x.said (byteN t 0 - 65) = false) : classR x t = classR Rs.empty t := by
 unfold classR
 rw [h]; rfl
/-- with more names said, the same -/
theorem itemsR_up {a b : Nat → Bool} (hab : ∀ n, a n = true → b n = true) {s : ByteArray} : ∀ (k p : Nat) (acc l : List Item) (q : Nat), s.size - p = k → itemsR a s p acc = .ok l q → itemsR b s p acc = .ok l q := by
 intro k
 induction k using Nat.strongRecOn with
 | ind k ih =>
  intro p acc l q hk h
  cases hn : nameB s p
  ·cases hp : plB s p
   ·rw [itemsR_end hn hp] at h ⊢; exact h
   ·by_cases h6 : acc.length = 64
    ·rw [itemsR_long hn hp h6] at h; cases h
    ·rw [itemsR_more hn hp h6] at h ⊢
     have h1 := plB_lt hp
     have h2 := wdN_pos h1
     exact ih _ (by omega) _ _ _ _ rfl h
  ·obtain ⟨h1, h2, h3⟩ := of_decide_eq_true hn
   cases hs : a (byteN s p - 65)
   ·rw [itemsR_unsaid hn hs] at h; cases h
   ·by_cases h6 : acc.length = 64
    ·rw [itemsR_nlong hn hs h6] at h; cases h
    ·rw [itemsR_name hn hs h6] at h
     rw [itemsR_name hn (hab _ hs) h6]
     exact ih _ (by omega) _ _ _ _ rfl h
theorem Res.ok_bind {α β : Type} {x : Res α} {a : α} {p : Nat} (h : x = .ok a p) (f : α → Nat → Res β) : x.bind f = f a p := by rw [h]; rfl
theorem partsR_up {a b : Nat → Bool} (hab : ∀ n, a n = true → b n = true) {s : ByteArray} {u : Rl} {q : Nat} (h : partsR a s = .ok u q) : partsR b s = .ok u q := by
 rw [partsR_eq] at h ⊢
 obtain ⟨l, p1, h1, h⟩ := Res.bind_ok h
 obtain ⟨o, p2, h2, h⟩ := Res.bind_ok h
 obtain ⟨r, p3, h3, h⟩ := Res.bind_ok h
 obtain ⟨x, p4, h4, h⟩ := Res.bind_ok h
 rw [Res.ok_bind (itemsR_up hab _ _ _ _ _ rfl h1), Res.ok_bind h2, Res.ok_bind (itemsR_up hab _ _ _ _ _ rfl h3), Res.ok_bind h4]
 exact h
theorem RlL.up {a b : Nat → Bool} (hab : ∀ n, a n = true → b n = true) {u : Rl} (h : RlL a u) : RlL b u := by
 obtain ⟨q, hq⟩ := h.p
 exact ⟨⟨q, partsR_up hab hq⟩, h.z, h.c⟩
/-- what each rule and class of rules that were read says again -/
structure RsL (x : Rs) : Prop where
 r : ∀ u ∈ x.rules, RlL x.said u ∧ NoNl u.line
 c : ∀ n y, x.cls n = some y → ClL n y.1 y.2 ∧ NoNl y.1
theorem lineR_again {x y : Rs} {s : ByteArray} (h : lineR x s = .ok y) (hn : NoNl s) (g : RsL x) : RsL y := by
 unfold lineR at h
 by_cases h0 : s.size = 0 ∨ byteN s 0 = 59
 ·rw [if_pos h0] at h; injection h with h; subst h; exact g
 ·rw [if_neg h0] at h
  by_cases h1 : isC s = true
  ·rw [if_pos h1] at h
   unfold clsR at h
   cases hc : classR x s with
   | bad e p => rw [hc] at h; cases h
   | ok l p =>
    rw [hc] at h
    injection h with h
    subst h
    obtain ⟨b1, b2, b3, b4⟩ := of_decide_eq_true h1
    refine ⟨fun u hu => ⟨(g.r u hu).1.up fun n => addC_said n, (g.r u hu).2⟩, fun n y hy => ?_⟩
    unfold Rs.addC at hy
    dsimp only at hy
    by_cases h2 : n = byteN s 0 - 65
    ·rw [if_pos h2] at hy
     injection hy with hy
     subst hy
     refine ⟨⟨h1, show byteN s 0 = n + 65 by omega, p, ?_⟩, hn⟩
     have hf : x.said (byteN s 0 - 65) = false := by
      cases hs : x.said (byteN s 0 - 65)
      ·rfl
      ·unfold classR at hc; rw [if_pos hs] at hc; cases hc
     rw [← classR_free hf]; exact hc
    ·rw [if_neg h2] at hy; exact g.c n y hy
  ·rw [if_neg h1] at h
   unfold ruleR at h
   cases hc : partsR x.said s with
   | bad e p =>
    rw [hc] at h
    dsimp only at h
    split at h <;> cases h
   | ok u p =>
    rw [hc] at h
    dsimp only at h
    by_cases h2 : x.rules.length = 256
    ·rw [if_pos h2] at h; cases h
    ·rw [if_neg h2] at h
     injection h with h
     subst h
     have hl := (partsR_good hc).2
     refine ⟨fun v hv => ?_, g.c⟩
     rcases List.mem_append.1 hv with h3 | h3
     ·exact g.r v h3
     ·rw [List.mem_singleton] at h3
      subst h3
      rw [← hl] at hc h0 h1 hn
      exact ⟨⟨⟨p, hc⟩, h0, by simpa using h1⟩, hn⟩
theorem linesR_again : ∀ {L : List ByteArray} {x y : Rs} {p : Nat}, linesR x p L = .ok y → (∀ t ∈ L, NoNl t) → RsL x → RsL y
 | [], x, y, p, h, hn, g => by injection h with h; subst h; exact g
 | s :: r, x, y, p, h, hn, g => by
  unfold linesR at h
  cases hl : lineR x s with
  | bad e q => rw [hl] at h; cases h
  | ok z => rw [hl] at h; exact linesR_again h (fun t ht => hn t (by simp [ht])) (lineR_again hl (hn s (by simp)) g)
theorem text_again {s : ByteArray} {y : Rs} (h : linesR Rs.empty 0 (linesB s) = .ok y) : RsL y :=
 linesR_again h (fun t ht => linesB_no ht) ⟨fun u hu => (by cases hu), fun n y hy => (by cases hy)⟩
/-- the lines of the classes, in order -/
def clsLn (x : Rs) (i : Nat) : List ByteArray := match x.cls i with
 | some y => [y.1]
 | none => []
def headLn (x : Rs) (i : Nat) : List ByteArray := (List.range i).flatMap (clsLn x)
theorem headLn_succ (x : Rs) (i : Nat) : headLn x (i + 1) = headLn x i ++ clsLn x i := by unfold headLn; rw [List.range_succ, List.flatMap_append, List.flatMap_singleton]
def upC (x : Rs) (i : Nat) : Rs := ⟨fun n => if n < i then x.cls n else none, []⟩
theorem head_ok {x : Rs} (g : RsL x) : ∀ i, i ≤ 26 → OkL Rs.empty (headLn x i) (upC x i)
 | 0, _ => by
  have : upC x 0 = Rs.empty := rfl
  rw [this]; exact OkL.nil _
 | i + 1, hi => by
  rw [headLn_succ]
  refine (head_ok g i (by omega)).app ?_
  unfold clsLn
  cases hc : x.cls i with
  | none =>
   have : upC x (i + 1) = upC x i := by
    unfold upC
    congr 1
    funext n
    by_cases h1 : n < i
    ·rw [if_pos h1, if_pos (by omega)]
    ·by_cases h2 : n = i
     ·subst h2; rw [if_pos (by omega), if_neg h1, hc]
     ·rw [if_neg h1, if_neg (by omega)]
   rw [this]; exact OkL.nil _
  | some y =>
   obtain ⟨⟨c1, c2, q, c3⟩, _⟩ := g.c i y hc
   obtain ⟨b1, b2, b3, b4⟩ := of_decide_eq_true c1
   refine OkL.cons (z := upC x (i + 1)) ?_ (OkL.nil _)
   unfold lineR
   rw [if_neg (by omega), if_pos c1]
   unfold clsR
   have hf : (upC x i).said (byteN y.1 0 - 65) = false := by
    unfold Rs.said upC
    dsimp only
    rw [if_neg (by omega)]; rfl
   rw [classR_free hf, c3]
   show Out.ok _ = Out.ok _
   congr 1
   unfold Rs.addC upC
   dsimp only
   congr 1
   funext n
   by_cases h2 : n = byteN y.1 0 - 65
   ·have : n = i := by omega
    subst this
    rw [if_pos h2, if_pos (by omega), hc]
   ·rw [if_neg h2]
    by_cases h1 : n < i
    ·rw [if_pos h1, if_pos (by omega)]
    ·rw [if_neg h1, if_neg (by omega)]
theorem rules_ok {x : Rs} : ∀ (M : List Rl) (L : List Rl), (∀ u ∈ M, RlL x.said u) → L.length + M.length ≤ 256 → OkL ⟨x.cls, L⟩ (M.map (·.line)) ⟨x.cls, L ++ M⟩
 | [], L, h, hl => by rw [List.append_nil]; exact OkL.nil _
 | u :: M, L, h, hl => by
  obtain ⟨⟨q, hq⟩, h2, h3⟩ := h u (by simp)
  rw [List.length_cons] at hl
  refine OkL.cons (z := ⟨x.cls, L ++ [u]⟩) ?_ ?_
  ·unfold lineR
   rw [if_neg h2, if_neg (by rw [h3]; simp)]
   unfold ruleR
   have : (⟨x.cls, L⟩ : Rs).said = x.said := rfl
   rw [this, hq]
   dsimp only
   rw [if_neg (by omega)]
   rfl
  ·have := rules_ok M (L ++ [u]) (fun v hv => h v (by simp [hv])) (by rw [List.length_append, List.length_singleton]; omega)
   rw [List.append_assoc] at this
   exact this
/-- the classes' lines, and those of some rules, read again -/
theorem again_ok {x : Rs} (g : RsL x) (k : RsG x) (M : List Rl) (hM : ∀ u ∈ M, u ∈ x.rules) (hl : M.length ≤ 256) {s : ByteArray} (hs : s.data.toList = joinL (headLn x 26 ++ M.map (·.line))) :
  linesR Rs.empty 0 (linesB s) = .ok ⟨x.cls, M⟩ := by
 have hno : ∀ t ∈ headLn x 26 ++ M.map (·.line), NoNl t := by
  intro t ht
  rcases List.mem_append.1 ht with h1 | h1
  ·unfold headLn at h1
   obtain ⟨i, _, h2⟩ := List.mem_flatMap.1 h1
   unfold clsLn at h2
   cases hc : x.cls i with
   | none => rw [hc] at h2; cases h2
   | some y => rw [hc] at h2; rw [List.mem_singleton] at h2; subst h2; exact (g.c i y hc).2
  ·obtain ⟨u, hu, rfl⟩ := List.mem_map.1 h1
   exact (g.r u (hM u hu)).2
 rw [linesB_join hs hno]
 have h26 : upC x 26 = ⟨x.cls, []⟩ := by
  unfold upC
  congr 1
  funext n
  by_cases h1 : n < 26
  ·rw [if_pos h1]
  ·rw [if_neg h1]
   cases hc : x.cls n with
   | none => rfl
   | some y => have := (k.c n y hc).2.2; omega
 have h1 := head_ok g 26 (Nat.le_refl _)
 rw [h26] at h1
 have h2 := rules_ok (x := x) M [] (fun u hu => (g.r u (hM u hu)).1) (by simpa using hl)
 rw [List.nil_append] at h2
 have h3 : OkL ⟨x.cls, M⟩ [⟨#[]⟩] ⟨x.cls, M⟩ := OkL.cons (by unfold lineR; rw [if_pos (.inl rfl)]) (OkL.nil _)
 exact ((h1.app h2).app h3) 0
end Go.Proofs.YtieifhfgedoiaaaDoor
namespace Go.Proofs.YtieifhfgedoiaaaDoor
open Go.RowKit Go.Lib
set_option linter.unusedVariables false
set_option linter.unusedSimpArgs false
theorem headL_addC (x : Rs) (s : ByteArray) (l : List One) : ∀ i, (headL (x.addC s l) i).length ≤ (headL x i).length + (if byteN s 0 - 65 < i then s.size + 1 else 0)
 | 0 => by simp [headL]
 | i + 1 => by
  rw [headL_succ, headL_succ, List.length_append, List.length_append]
  have h := headL_addC x s l i
  by_cases h1 : i = byteN s 0 - 65
  · have e : clsL (x.addC s l) i = s.data.toList ++ [10] := by unfold clsL Rs.addC; dsimp only; rw [if_pos h1]
    have e2 : (s.data.toList ++ [10]).length = s.size + 1 := by simp
    rw [if_neg (by omega)] at h
    rw [if_pos (by omega), e, e2]
    omega
  · have e : clsL (x.addC s l) i = clsL x i := by unfold clsL Rs.addC; dsimp only; rw [if_neg h1]
    rw [e]
    by_cases h2 : byteN s 0 - 65 < i
    · rw [if_pos h2] at h
      rw [if_pos (by omega)]
      omega
    · rw [if_neg h2] at h
      rw [if_neg (by omega)]
      omega
theorem lineR_tot {x y : Rs} {s : ByteArray} (h : lineR x s = .ok y) : (printL y).length ≤ (printL x).length + (s.size + 1) := by
 unfold lineR at h
 split at h
 · injection h with h
   subst h
   omega
 · split at h
   · unfold clsR at h
     split at h
     · injection h with h
       subst h
       unfold printL
       rw [List.length_append, List.length_append]
       have h1 := headL_addC x s (by assumption) 26
       have h2 : (if byteN s 0 - 65 < 26 then s.size + 1 else 0) ≤ s.size + 1 := by split <;> omega
       show _ + (rulL x.rules).length ≤ _
       omega
     · cases h
   · unfold ruleR at h
     split at h
     · rename_i u p hp
       split at h
       · cases h
       · injection h with h
         subst h
         have h1 : rulL (x.addR u).rules = rulL x.rules ++ (u.line.data.toList ++ [10]) := by
          show rulL (x.rules ++ [u]) = _
          unfold rulL
          rw [List.flatMap_append, List.flatMap_singleton]
         have h2 : headL (x.addR u) 26 = headL x 26 := rfl
         have h3 : u.line = s := (partsR_good hp).2
         have e2 : (s.data.toList ++ [10]).length = s.size + 1 := by simp
         unfold printL
         rw [h1, h2, h3]
         simp only [List.length_append] at e2 ⊢
         omega
     · split at h <;> cases h
theorem linesR_tot : ∀ (L : List ByteArray) {x y : Rs} {p : Nat}, linesR x p L = .ok y → (printL y).length ≤ (printL x).length + (L.map fun t => t.size + 1).sum
 | [], x, y, p, h => by injection h with h; subst h; simp
 | s :: L, x, y, p, h => by
  unfold linesR at h
  cases hl : lineR x s with
  | bad e q => rw [hl] at h; cases h
  | ok z =>
   rw [hl] at h
   have h1 := linesR_tot L h
   have h2 := lineR_tot hl
   rw [List.map_cons, List.sum_cons]
   omega
theorem splitA_len : ∀ (l acc : List UInt8), ((splitA l acc).map fun t => t.length + 1).sum = l.length + acc.length + 1
 | [], acc => by simp [splitA]
 | c :: l, acc => by
  unfold splitA
  by_cases hc : c = 10
  · rw [if_pos hc, List.map_cons, List.sum_cons, splitA_len l []]
    simp
    omega
  · rw [if_neg hc, splitA_len l]
    simp
    omega
theorem linesB_tot (s : ByteArray) : ((linesB s).map fun t => t.size + 1).sum = s.size + 1 := by
 have h := splitA_len s.data.toList []
 rw [← linesB_split, List.map_map] at h
 have e : ((fun t : List UInt8 => t.length + 1) ∘ fun t : ByteArray => t.data.toList) = fun t : ByteArray => t.size + 1 := by
  funext t
  simp
 rw [e] at h
 rw [h]
 simp
/-- what is printed is no longer than what was read, and a line's end -/
theorem print_len {s : ByteArray} {y : Rs} (h : linesR Rs.empty 0 (linesB s) = .ok y) : (printL y).length ≤ s.size + 1 := by
 have h1 := linesR_tot (linesB s) h
 rw [linesB_tot] at h1
 have h2 : (printL Rs.empty).length = 0 := by decide
 omega
theorem joinL_app (L M : List ByteArray) : joinL (L ++ M) = joinL L ++ joinL M := by unfold joinL; rw [List.flatMap_append]
theorem head_join (x : Rs) : ∀ i, headL x i = joinL (headLn x i)
 | 0 => rfl
 | i + 1 => by
  rw [headL_succ, headLn_succ, joinL_app, head_join x i]
  congr 1
  unfold clsL clsLn
  cases x.cls i with
  | none => rfl
  | some y => simp [joinL]
theorem rul_join (M : List Rl) : rulL M = joinL (M.map (·.line)) := by
 unfold rulL joinL
 rw [List.flatMap_map]
theorem print_join (x : Rs) : printL x = joinL (headLn x 26 ++ x.rules.map (·.line)) := by
 unfold printL
 rw [joinL_app, head_join, rul_join]
/-- what is printed says the same -/
theorem back_ok {s : ByteArray} {y : Rs} (h : linesR Rs.empty 0 (linesB s) = .ok y) (hn : y.rules.length ≤ 256) : linesR Rs.empty 0 (linesB ⟨(printL y).toArray⟩) = .ok y :=
 again_ok (text_again h) (linesR_good h empty_good) y.rules (fun u hu => hu) hn (by show (printL y).toArray.toList = _; rw [print_join])
end Go.Proofs.YtieifhfgedoiaaaDoor
namespace Go.Proofs
open Go.Shelf
def Tryd.lays169_ren : Go.Shelf.Ren := ⟨fun | 169 => 35 | n => n, fun | 70 => 85 | 9 => 9 | 0 => 0 | 72 => 87 | 37 => 77 | 127 => 126 | 3 => 3 | 5 => 5 | n => n, fun | n => n⟩
theorem Tryd.lays169 : Go.Proofs.Lays.n169 Tryd.prog Tryd.lays169_ren := {
 mixed := by kernel_rfl
 f169 := Tryd.func35.trans (congrArg some (by kernel_rfl))
 t0 := Tryd.underlying0
 a0 := Tryd.isAgg0
 z0 := Tryd.sizeOf0
 v0 := Tryd.zeroValue0
 t3 := Tryd.underlying3
 a3 := Tryd.isAgg3
 z3 := Tryd.sizeOf3
 v3 := Tryd.zeroValue3
 t9 := Tryd.underlying9
 a9 := Tryd.isAgg9
 z9 := Tryd.sizeOf9
 v9 := Tryd.zeroValue9
 t37 := Tryd.underlying77
 a37 := Tryd.isAgg77
 z37 := Tryd.sizeOf77
 v37 := Tryd.zeroValue77
 t70 := Tryd.underlying85
 a70 := Tryd.isAgg85
 z70 := Tryd.sizeOf85
 v70 := Tryd.zeroValue85
 t72 := Tryd.underlying87
 a72 := Tryd.isAgg87
 z72 := Tryd.sizeOf87
 v72 := Tryd.zeroValue87
 t127 := Tryd.underlying126
 a127 := Tryd.isAgg126
 z127 := Tryd.sizeOf126
 v127 := Tryd.zeroValue126 }
theorem Tryd.Builder_Extra_169 : Builder.Extra Tryd.prog Tryd.lays169_ren := {
 sizeBuilder := by kernel_rfl
 liesBuilder := by kernel_rfl
 t5 := Tryd.underlying5
 a5 := Tryd.isAgg5
 z5 := Tryd.sizeOf5
 v5 := Tryd.zeroValue5
 infoByte := by kernel_rfl
 cellsByte := by kernel_rfl
 sizeByte := by kernel_rfl
 neB5 := by decide }
open Go.RowKit in
/-- (*strings.Builder).String: "String returns the accumulated string.": WHATEVER THE BUILDER HOLDS. (LAID: no walk: one application.) -/
theorem Tryd.Builder_String_any (B b : Nat) (l : List UInt8) (w : World) (h : Lib.IsBuilder 87 5 B b (Lib.byteCells l) w) (hBw : B ≤ w.heap.size) :
  Calls Tryd.prog 35 #[.pointer (some ⟨b, 0, none⟩)] w fun e w' => e = .returned (.string ⟨l.toArray⟩) ∧ Below B w w' := Any.Builder_String_any Tryd.lays169 Tryd.Builder_Extra_169 B b l w h hBw
end Go.Proofs
namespace Go.Proofs
open Go.Shelf
def Tryd.lays166_ren : Go.Shelf.Ren := ⟨fun | 166 => 34 | 240 => 51 | 276 => 70 | n => n, fun | 70 => 85 | 9 => 9 | 0 => 0 | 72 => 87 | 37 => 77 | 3 => 3 | 5 => 5 | 4 => 4 | 20 => 20 | 75 => 90 | 80 => 35 | 164 => 146 | n => n, fun | n => n⟩
theorem Tryd.lays166 : Go.Proofs.Lays.n166 Tryd.prog Tryd.lays166_ren := {
 mixed := by kernel_rfl
 f166 := Tryd.func34.trans (congrArg some (by kernel_rfl))
 f240 := Tryd.func51.trans (congrArg some (by kernel_rfl))
 f276 := Tryd.func70.trans (congrArg some (by kernel_rfl))
 t0 := Tryd.underlying0
 a0 := Tryd.isAgg0
 z0 := Tryd.sizeOf0
 v0 := Tryd.zeroValue0
 t3 := Tryd.underlying3
 a3 := Tryd.isAgg3
 z3 := Tryd.sizeOf3
 v3 := Tryd.zeroValue3
 t4 := Tryd.underlying4
 a4 := Tryd.isAgg4
 z4 := Tryd.sizeOf4
 v4 := Tryd.zeroValue4
 t9 := Tryd.underlying9
 a9 := Tryd.isAgg9
 z9 := Tryd.sizeOf9
 v9 := Tryd.zeroValue9
 t20 := Tryd.underlying20
 a20 := Tryd.isAgg20
 z20 := Tryd.sizeOf20
 v20 := Tryd.zeroValue20
 t37 := Tryd.underlying77
 a37 := Tryd.isAgg77
 z37 := Tryd.sizeOf77
 v37 := Tryd.zeroValue77
 t70 := Tryd.underlying85
 a70 := Tryd.isAgg85
 z70 := Tryd.sizeOf85
 v70 := Tryd.zeroValue85
 t72 := Tryd.underlying87
 a72 := Tryd.isAgg87
 z72 := Tryd.sizeOf87
 v72 := Tryd.zeroValue87
 t75 := Tryd.underlying90
 a75 := Tryd.isAgg90
 z75 := Tryd.sizeOf90
 v75 := Tryd.zeroValue90
 t164 := Tryd.underlying146
 a164 := Tryd.isAgg146
 z164 := Tryd.sizeOf146
 v164 := Tryd.zeroValue146 }
theorem Tryd.Builder_Extra_166 : Builder.Extra Tryd.prog Tryd.lays166_ren := {
 sizeBuilder := by kernel_rfl
 liesBuilder := by kernel_rfl
 t5 := Tryd.underlying5
 a5 := Tryd.isAgg5
 z5 := Tryd.sizeOf5
 v5 := Tryd.zeroValue5
 infoByte := by kernel_rfl
 cellsByte := by kernel_rfl
 sizeByte := by kernel_rfl
 neB5 := by decide }
open Go.RowKit in
theorem Tryd.Builder_WriteString (B b : Nat) (bs : List Value) (s : ByteArray) (w : World) (h : Lib.IsBuilder 87 5 B b bs w) (hlen : bs.length + s.size ≤ 140737488355328) (hBw : B ≤ w.heap.size) :
  Calls Tryd.prog 34 #[.pointer (some ⟨b, 0, none⟩), .string s] w fun e w' => e = .returned (.tuple #[.int .i64 s.size, .nilIface]) ∧ (Lib.BuilderAt 87 5 B b (.pointer (some ⟨b, 0, none⟩)) (bs ++ Lib.strCells s) w' ∧ Below B w w') := Any.Builder_WriteString Tryd.lays166 Tryd.Builder_Extra_166 B b bs s w h hlen hBw
end Go.Proofs
namespace Go.Proofs.YtieifhfgedoiaaaDoor
open Go.RowKit Go.Lib
open Go.ChangeMaps
set_option linter.unusedVariables false
set_option linter.unusedSimpArgs false
attribute [local go_sem] ExtS.cell ExtS.froz upE_value upE_skip upE_enter Ext.cell Ext.froz
theorem nl_cells (s : ByteArray) : strCells (s ++ ⟨#[10]⟩) = byteCells (s.data.toList ++ [10]) := by
 rw [strCells_eq]
 congr 1
theorem rows_row {w : World} {base n cv : Nat} {pv : Option Addr} {L : List Rl} (h : RowsAt w base (.slice pv n cv) L) {j : Nat} {u : Rl} (hj : L[j]? = some u) :
  ∃ g p1 n1 c1 p2 n2 c2 p3 n3 c3 p4 n4 c4, pv = some ⟨g, 0, none⟩ ∧ w.cell? ⟨g, j * 7, none⟩ = some (.string u.line) ∧ w.cell? ⟨g, j * 7 + 1, none⟩ = some (.slice p1 n1 c1) ∧ w.cell? ⟨g, j * 7 + 2, none⟩ = some (.slice p2 n2 c2) ∧ w.cell? ⟨g, j * 7 + 3, none⟩ = some (.slice p3 n3 c3) ∧
   w.cell? ⟨g, j * 7 + 4, none⟩ = some (.bool u.begins) ∧ w.cell? ⟨g, j * 7 + 5, none⟩ = some (.bool u.ends) ∧ w.cell? ⟨g, j * 7 + 6, none⟩ = some (.slice p4 n4 c4) := by
 obtain ⟨Vs, g1, g2, g3⟩ := h
 have hl : L.length ≠ 0 := by have := (List.getElem?_eq_some_iff.1 hj).1; omega
 obtain ⟨m, hm⟩ : ∃ m, L.length = m + 1 := ⟨L.length - 1, by omega⟩
 rw [hm] at g2
 obtain ⟨g, cap, hg⟩ := own_block g2
 cases hg
 have hV : ∃ y, Vs[j]? = some y ∧ y.1 = u := by
  rw [← g1, List.getElem?_map] at hj
  cases hv : Vs[j]? with
  | none => rw [hv] at hj; cases hj
  | some y => rw [hv] at hj; exact ⟨y, rfl, by simpa using hj⟩
 obtain ⟨⟨u', V⟩, hy, rfl⟩ := hV
 have hok := g3 _ (List.mem_of_getElem? hy)
 obtain ⟨p1, c1, e1⟩ := own_shape hok.l
 obtain ⟨p2, c2, e2⟩ := own_shape hok.r
 obtain ⟨p3, c3, e3⟩ := own_shape hok.b
 obtain ⟨p4, c4, e4⟩ := own_shape hok.p
 have hc := fun i v hv => own_cell (j := j * 7 + i) g2 (flatE_get (fun y : Rl × RlV => Rl.cells y.1 y.2) 7 (fun _ => rfl) Vs j _ hy i v hv)
 refine ⟨g, p1, u'.left.length, c1, p2, u'.right.length, c2, p3, u'.body.length, c3, p4, u'.phones.length, c4, rfl, hc 0 _ rfl, ?_, ?_, ?_, hc 4 _ rfl, hc 5 _ rfl, ?_⟩
 ·rw [← e1]; exact hc 1 _ rfl
 ·rw [← e2]; exact hc 2 _ rfl
 ·rw [← e3]; exact hc 3 _ rfl
 ·rw [← e4]; exact hc 6 _ rfl
theorem isB_low {T e : TypeId} {B b : Nat} {bs : List Value} {w w' : World} (h : IsBuilder T e B b bs w) (hb : Below w.heap.size w w') : IsBuilder T e B b bs w' := by
 rcases h with h | h
 ·obtain ⟨h1, v, h2, h3, h4⟩ := h
  exact .inl ⟨h1, v, (show Blk w b T _ from h2).low hb, own_low h3 hb, h4⟩
 ·obtain ⟨h1, v, h2, h3, h4⟩ := h
  exact .inr ⟨h1, v, (show Blk w b T _ from h2).low hb, own_low h3 hb, h4⟩
set_option maxRecDepth 100000 in
set_option maxHeartbeats 8000000 in
theorem print15 {w : World} {X base : Nat} {x : Rs} (h : PAt w X base x) (hl : (printL x).length ≤ 100000000) (hn : x.rules.length ≤ 256) :
  Calls Tryd.prog 15 #[.pointer (some ⟨X, 0, none⟩)] w fun e w' => e = .returned (.string ⟨(printL x).toArray⟩) ∧ Below w.heap.size w w' := by
 have H := hid h
 have hIs := hid (fresh_isBuilder 87 5 w)
 have hbA := hid ((Below.refl w.heap.size w).alloc (Nat.le_refl _) (.cells #[.pointer none, .slice none 0 0] 87))
 have hHl : (headL x 26).length ≤ 100000000 := by unfold printL at hl; rw [List.length_append] at hl; omega
 have hlH := hid hl
 clear h hl
 go_enter Tryd.func15, Tryd.ntmps15
 go_wp2_with fail
 obtain ⟨N, hN⟩ : ∃ N, w.heap.size = N := ⟨_, rfl⟩
 rw [hN] at hIs hbA
 simp only [hN]
 have HN := hid hN
 have hNle : N ≤ w.heap.size := Nat.le_of_eq hN.symm
 clear hN
 generalize w.alloc (.cells #[.pointer none, .slice none 0 0] 87) = W0 at *
 go_loopw [4] (fun v wr => ∃ i : Nat, i ≤ 26 ∧ v = .int .u8 ((65 + i : Nat) : Int) ∧ Hid (IsBuilder 87 5 N N (byteCells (headL x i)) wr) ∧ Hid (Below N w wr)) (fun v _ => 91 - (RowKit.intOf v).toNat)
 case atStart => exact ⟨0, by omega, rfl, hIs, hbA⟩
 case round =>
  obtain ⟨i, hi, rfl, hI, hB⟩ := hrel
  clear hIs hbA
  have hP := hid (H.out.low (by have := hB.out; rw [← HN.out] at this; exact this))
  obtain ⟨c, hc⟩ : ∃ c, 65 + i = c := ⟨_, rfl⟩
  rw [hc]
  by_cases hlt : i < 26
  ·have q1 : decide ((c : Int) ≤ 90) = true := decide_eq_true (by omega)
   have hw1 : IntKind.u8.wrap ((c : Int) + 1) = (c : Int) + 1 := IntWalk.u8_in _ (by omega)
   obtain ⟨mc, ml, v, k, hRs, hRw⟩ := hP.out.ex
   obtain ⟨n', f', l1, l2, l3⟩ := hRs.l
   have hlook := l2.look keysB Tryd.underlying81 (zeroS wr) (key := .int .u8 c) ⟨c, by omega, rfl⟩ true
   have hx0 := l3 c (by omega) (by omega)
   rw [show c - 65 = i by omega] at hx0
   rw [hx0] at hlook
   obtain ⟨x0, x1, x2, xf⟩ := hRs.b.c3
   cases hcl : x.cls i with
   | none =>
    rw [hcl] at hlook
    have hE : Hid (headL x (i + 1) = headL x i) := by rw [headL_succ]; unfold clsL; rw [hcl, List.append_nil]; exact hid rfl
    have hci := hid hc
    clear hcl hx0 l1 l2 l3 hRs hRw hc
    simp only [Option.map, Option.getD, Option.isSome] at hlook
    go_wp2_with fail
    go_roundw
    case rel => exact ⟨i + 1, by omega, by rw [show (65 + (i + 1) : Nat) = c + 1 by have := hci.out; omega]; go_num, by rw [hE.out]; exact hI, hB⟩
    case measure => have := hci.out; simp [RowKit.intOf]; omega
   | some y =>
    rw [hcl] at hlook
    have hE : Hid (headL x (i + 1) = headL x i ++ (y.1.data.toList ++ [10])) := by rw [headL_succ]; unfold clsL; rw [hcl]; exact hid rfl
    have hlen : (headL x i).length + (y.1.size + 1) ≤ 100000000 := by
     have h1 := headL_mono x (25 - i) (i + 1)
     rw [show i + 1 + (25 - i) = 26 by omega, hE.out, List.length_append, List.length_append] at h1
     have h2 : y.1.data.toList.length = y.1.size := by simp
     simp at h1
     have h3 : y.1.data.size = y.1.size := rfl
     omega
    have hWr := hid (Tryd.Builder_WriteString N N (byteCells (headL x i)) (y.1 ++ ⟨#[10]⟩) wr hI.out (by rw [byteCells_length, ByteArray.size_append']; show _ + (y.1.size + 1) ≤ _; omega) (Nat.le_trans hNle hB.out.size))
    rw [nl_cells, ← byteCells_append] at hWr
    have hci := hid hc
    have hsz : ¬ (y.1.size + 1 > 9223372036854775807) := by omega
    clear hcl hx0 l1 l2 l3 hRs hRw hc
    simp only [Option.map, Option.getD, Option.isSome] at hlook
    go_wp2_with fail
    go_at_call 34
    with_reducible refine Calls.mono (hWr.out) ?_
    rintro e w4 ⟨rfl, hb4, hbl⟩
    have HI4 := hid (Or.inr hb4 : IsBuilder 87 5 N N _ w4)
    have HB4 := hid (hB.out.trans hbl)
    clear hb4 hbl
    go_wp2_with fail
    go_roundw
    case rel => exact ⟨i + 1, by omega, by rw [show (65 + (i + 1) : Nat) = c + 1 by have := hci.out; omega]; go_num, by rw [hE.out]; exact HI4, HB4⟩
    case measure => have := hci.out; simp [RowKit.intOf]; omega
  ·have q1 : decide ((c : Int) ≤ 90) = false := decide_eq_false (by omega)
   obtain rfl : i = 26 := by omega
   obtain ⟨mc, ml, v, k, hRs, hRw⟩ := H.out.ex
   have HRw := hid hRw
   obtain ⟨Vs, g1, g2, g3⟩ := hRw
   obtain ⟨pv, cv, rfl⟩ := own_shape g2
   have hBw : Hid (Below w.heap.size w wr) := by rw [HN.out]; exact hB
   obtain ⟨x0, x1, x2, xf⟩ := (hRs.b.low hBw.out).c3
   obtain ⟨n, hnn⟩ : ∃ n, x.rules.length = n := ⟨_, rfl⟩
   rw [hnn] at HRw x2 hn
   have HNN := hid hnn
   have hI0 : Hid (IsBuilder 87 5 N N (byteCells (headL x 26 ++ rulL (x.rules.take 0))) wr) := by
    rw [List.take_zero]; show Hid (IsBuilder 87 5 N N (byteCells (headL x 26 ++ [])) wr); rw [List.append_nil]; exact hI
   clear hI hRs g1 g2 g3 hnn hc hlt hP
   go_wp2_with fail
   go_loopw [33] (fun v wr2 => ∃ j : Nat, j ≤ n ∧ v = .int .i64 j ∧ Hid (IsBuilder 87 5 N N (byteCells (headL x 26 ++ rulL (x.rules.take j))) wr2) ∧ Hid (Below N w wr2)) (fun v _ => n - (RowKit.intOf v).toNat)
   case atStart => exact ⟨0, Nat.zero_le _, rfl, hI0, hB⟩
   case round =>
    obtain ⟨j, hj, rfl, hI, hB2⟩ := hrel
    clear hI0 hB hBw x0 x1 x2 xf
    have hw1 : IntKind.i64.wrap ((j : Int) + 1) = (j : Int) + 1 := IntWalk.i64_in _ (by omega)
    by_cases hjn : j < n
    ·have q2 : decide ((j : Int) < n) = true := decide_eq_true (by omega)
     have q3 : (j : Int) < n := by omega
     obtain ⟨u, hu⟩ : ∃ u, x.rules[j]? = some u := ⟨_, List.getElem?_eq_getElem (by rw [HNN.out]; exact hjn)⟩
     have hRj := HRw.out.low (by have := hB2.out; rw [← HN.out] at this; exact this)
     obtain ⟨g, p1, n1, c1, p2, n2, c2, p3, n3, c3, p4, n4, c4, rfl, y0, y1, y2, y3, y4, y5, y6⟩ := rows_row hRj hu
     have hE : Hid (rulL (x.rules.take (j + 1)) = rulL (x.rules.take j) ++ (u.line.data.toList ++ [10])) := hid (rulL_take hu)
     have hlen : (headL x 26 ++ rulL (x.rules.take j)).length + (u.line.size + 1) ≤ 100000000 := by
      have h1 := rulL_le x.rules (j + 1)
      have h2 := hlH.out
      unfold printL at h2
      rw [hE.out, List.length_append, List.length_append] at h1
      rw [List.length_append] at h2 ⊢
      have h3 : u.line.data.toList.length = u.line.size := by simp
      simp only [List.length_singleton] at h1
      omega
     have hbA := hid ((Below.refl wr.heap.size wr).alloc (Nat.le_refl _) (.cells #[.string u.line, .slice p1 n1 c1, .slice p2 n2 c2, .slice p3 n3 c3, .bool u.begins, .bool u.ends, .slice p4 n4 c4] 96))
     have hIA : Hid (IsBuilder 87 5 N N (byteCells (headL x 26 ++ rulL (x.rules.take j))) (wr.alloc (.cells #[.string u.line, .slice p1 n1 c1, .slice p2 n2 c2, .slice p3 n3 c3, .bool u.begins, .bool u.ends, .slice p4 n4 c4] 96))) := hid (isB_low hI.out hbA.out)
     have hWr := hid (Tryd.Builder_WriteString N N (byteCells (headL x 26 ++ rulL (x.rules.take j))) (u.line ++ ⟨#[10]⟩) _ hIA.out (by rw [byteCells_length, ByteArray.size_append']; show _ + (u.line.size + 1) ≤ _; omega) (Nat.le_trans hNle (Nat.le_trans hB2.out.size hbA.out.size)))
     rw [nl_cells, ← byteCells_append] at hWr
     have hsz : ¬ (u.line.size + 1 > 9223372036854775807) := by omega
     clear hu hRj
     go_wp2_with fail
     go_at_call 34
     with_reducible refine Calls.mono (hWr.out) ?_
     rintro e w4 ⟨rfl, hb4, hbl⟩
     have HI4 := hid (Or.inr hb4 : IsBuilder 87 5 N N _ w4)
     have HB4 := hid ((hB2.out.trans (hbA.out.mono (Nat.le_trans hNle hB2.out.size))).trans hbl)
     clear hb4 hbl
     go_wp2_with fail
     go_roundw
     case rel => exact ⟨j + 1, by omega, by go_num, by rw [hE.out, ← List.append_assoc]; exact HI4, HB4⟩
     case measure => simp [RowKit.intOf]; omega
    ·obtain rfl : j = n := by omega
     have q2 : decide ((j : Int) < j) = false := by simp
     have hSt := hid (Tryd.Builder_String_any N N (headL x 26 ++ rulL (x.rules.take j)) wr hI.out (Nat.le_trans hNle hB2.out.size))
     have hE : Hid (headL x 26 ++ rulL (x.rules.take j) = printL x) := by rw [List.take_of_length_le (by rw [HNN.out]; omega)]; exact hid rfl
     rw [hE.out] at hSt
     go_wp2_with fail
     go_at_call 35
     with_reducible refine Calls.mono (hSt.out) ?_
     rintro e w5 ⟨rfl, hbl⟩
     have HB5 := hid (hB2.out.trans hbl)
     clear hbl
     go_wp2_with fail
     go_ret
     exact ⟨rfl, by have := HB5.out; rw [← HN.out] at this; exact this⟩
end Go.Proofs.YtieifhfgedoiaaaDoor
