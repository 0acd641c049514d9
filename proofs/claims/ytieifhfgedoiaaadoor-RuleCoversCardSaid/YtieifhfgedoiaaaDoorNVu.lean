/- Which rules cover which, in plain Lean; a range over a map whose block is a function. Conditions: those of each theorem. -/
import Derived.Test.YtieifhfgedoiaaaDoorNVt
import Derived.Test.YtieifhfgedoiaaaDoorNMm
import Derived.Maps.RangeWalk
namespace Go.Proofs.YtieifhfgedoiaaaDoor
open Go.RowKit Go.Lib
set_option linter.unusedVariables false
set_option linter.unusedSimpArgs false
/-- all pieces that the one says are such that the other says -/
def withinB (x : Rs) (a b : Item) : Bool :=
 if a.name = 0 then hasB x b a.u else match x.cls (a.name - 65) with
 | some y => y.2.all (hasB x b)
 | none => true
/-- what a rule says behind its first pieces -/
def behindL (n : Nat) (b : Rl) : List Item := (b.body.drop n).map (fun u => (⟨0, u⟩ : Item)) ++ b.right
def pairsB (x : Rs) (f g : List Item) : Nat → Bool
 | 0 => true
 | n + 1 => pairsB x f g n && (match f[n]?, g[n]? with
  | some i, some j => withinB x i j
  | _, _ => false)
/-- whether a rule fits wherever another one does -/
def coversB (x : Rs) (a b : Rl) : Bool :=
 decide (a.body.length ≤ b.body.length) && (a.body == b.body.take a.body.length)
 && decide (a.left.length ≤ b.left.length) && decide (a.right.length ≤ (behindL a.body.length b).length)
 && (!a.begins || (b.begins && decide (a.left.length = b.left.length)))
 && (!a.ends || (b.ends && decide (a.right.length = (behindL a.body.length b).length)))
 && pairsB x b.left.reverse a.left.reverse a.left.length && pairsB x (behindL a.body.length b) a.right a.right.length
def coverN (x : Rs) (i j : Nat) : Bool := match ruleAt x i, ruleAt x j with
 | some a, some b => coversB x a b
 | _, _ => false
def deadB (x : Rs) (j : Nat) : Bool := (List.range j).any fun i => coverN x i j
/-- the dead rules' numbers, up to one -/
def deadT (x : Rs) (i : Nat) : List Nat := (List.range (i + 1)).filter (deadB x)
def deadL (x : Rs) : List Nat := deadT x x.rules.length
theorem behindL_len (n : Nat) (b : Rl) : (behindL n b).length = b.body.length - n + b.right.length := by unfold behindL; simp
theorem leftB_iff {x : Rs} {l : List Item} {w : List One} {k : Nat} : ∀ n, leftB x l w k n = true ↔ ∀ i, i < n → ∃ it u, l[i]? = some it ∧ w[k + i]? = some u ∧ hasB x it u = true
 | 0 => by simp [leftB]
 | n + 1 => by
  have e : leftB x l w k (n + 1) = (leftB x l w k n && (match l[n]?, w[k + n]? with
   | some i, some u => hasB x i u
   | _, _ => false)) := rfl
  rw [e, Bool.and_eq_true, leftB_iff n]
  constructor
  · rintro ⟨h1, h2⟩ i hi
    by_cases h : i < n
    · exact h1 i h
    · obtain rfl : i = n := by omega
      cases ha : l[i]? with
      | none => rw [ha] at h2; simp at h2
      | some it =>
       cases hb : w[k + i]? with
       | none => rw [ha, hb] at h2; simp at h2
       | some u => rw [ha, hb] at h2; exact ⟨it, u, rfl, rfl, h2⟩
  · intro h
    refine ⟨fun i hi => h i (by omega), ?_⟩
    obtain ⟨it, u, h1, h2, h3⟩ := h n (by omega)
    rw [h1, h2]
    exact h3
theorem pairsB_iff {x : Rs} {f g : List Item} : ∀ n, pairsB x f g n = true ↔ ∀ i, i < n → ∃ a b, f[i]? = some a ∧ g[i]? = some b ∧ withinB x a b = true
 | 0 => by simp [pairsB]
 | n + 1 => by
  have e : pairsB x f g (n + 1) = (pairsB x f g n && (match f[n]?, g[n]? with
   | some i, some j => withinB x i j
   | _, _ => false)) := rfl
  rw [e, Bool.and_eq_true, pairsB_iff n]
  constructor
  · rintro ⟨h1, h2⟩ i hi
    by_cases h : i < n
    · exact h1 i h
    · obtain rfl : i = n := by omega
      cases ha : f[i]? with
      | none => rw [ha] at h2; simp at h2
      | some it =>
       cases hb : g[i]? with
       | none => rw [ha, hb] at h2; simp at h2
       | some u => rw [ha, hb] at h2; exact ⟨it, u, rfl, rfl, h2⟩
  · intro h
    refine ⟨fun i hi => h i (by omega), ?_⟩
    obtain ⟨it, u, h1, h2, h3⟩ := h n (by omega)
    rw [h1, h2]
    exact h3
theorem pairsB_step {x : Rs} {f g : List Item} {n : Nat} {a b : Item} (ha : f[n]? = some a) (hb : g[n]? = some b) : pairsB x f g (n + 1) = (pairsB x f g n && withinB x a b) := by
 show (pairsB x f g n && _) = _
 rw [ha, hb]
theorem pairsB_down {x : Rs} {f g : List Item} {n : Nat} (h : pairsB x f g n = false) : ∀ d, pairsB x f g (n + d) = false
 | 0 => h
 | d + 1 => by
  show (pairsB x f g (n + d) && _) = false
  rw [pairsB_down h d, Bool.false_and]
theorem pairsB_no {x : Rs} {f g : List Item} {n m : Nat} (h : pairsB x f g n = false) (hm : n ≤ m) : pairsB x f g m = false := by
 obtain ⟨d, rfl⟩ : ∃ d, m = n + d := ⟨m - n, by omega⟩
 exact pairsB_down h d
theorem within_sound {x : Rs} {a b : Item} {u : One} (h : withinB x a b = true) (hu : hasB x a u = true) : hasB x b u = true := by
 unfold withinB at h
 by_cases h0 : a.name = 0
 · rw [if_pos h0] at h
   unfold hasB at hu
   rw [if_pos h0, beq_iff_eq] at hu
   rw [← hu]
   exact h
 · rw [if_neg h0] at h
   unfold hasB at hu
   rw [if_neg h0] at hu
   cases hc : x.cls (a.name - 65) with
   | none => rw [hc] at hu; cases hu
   | some y =>
    rw [hc] at h hu
    have hm : u ∈ y.2 := by simpa using hu
    exact List.all_eq_true.1 h u hm
theorem covers_fit {x : Rs} {a b : Rl} {w : List One} {k : Nat} (h : coversB x a b = true) (hf : fitB x b w k = true) : fitB x a w k = true := by
 unfold coversB at h
 unfold fitB at hf ⊢
 simp only [Bool.and_eq_true, Bool.or_eq_true, Bool.not_eq_true', decide_eq_true_eq, beq_iff_eq] at h hf ⊢
 obtain ⟨⟨⟨⟨⟨⟨⟨c1, c2⟩, c3⟩, c4⟩, c5⟩, c6⟩, c7⟩, c8⟩ := h
 obtain ⟨⟨⟨⟨⟨⟨f1, f2⟩, f3⟩, f4⟩, f5⟩, f6⟩, f7⟩ := hf
 rw [behindL_len] at c4 c6
 rw [pairsB_iff] at c7 c8
 rw [leftB_iff] at f6 f7
 have fw : ∀ i, i < b.body.length → w[k + i]? = b.body[i]? := fun i hi => by
  have h1 : ((w.drop k).take b.body.length)[i]? = b.body[i]? := by rw [f5]
  rw [List.getElem?_take, if_pos hi, List.getElem?_drop] at h1
  exact h1
 refine ⟨⟨⟨⟨⟨⟨by omega, by omega⟩, ?_⟩, ?_⟩, ?_⟩, ?_⟩, ?_⟩
 · rcases c5 with h1 | ⟨h1, h2⟩
   · exact .inl h1
   · rcases f3 with h3 | h3
     · rw [h1] at h3; cases h3
     · exact .inr (by omega)
 · rcases c6 with h1 | ⟨h1, h2⟩
   · exact .inl h1
   · rcases f4 with h3 | h3
     · rw [h1] at h3; cases h3
     · exact .inr (by omega)
 · have h1 : (w.drop k).take a.body.length = ((w.drop k).take b.body.length).take a.body.length := by rw [List.take_take, Nat.min_eq_left c1]
   rw [h1, f5, ← c2]
 · rw [leftB_iff]
   intro i hi
   obtain ⟨p, q, h1, h2, h3⟩ := c7 (a.left.length - 1 - i) (by omega)
   rw [List.getElem?_reverse (by omega)] at h1 h2
   have e1 : a.left.length - 1 - (a.left.length - 1 - i) = i := by omega
   rw [e1] at h2
   obtain ⟨it, u, g1, g2, g3⟩ := f6 (b.left.length - 1 - (a.left.length - 1 - i)) (by omega)
   rw [h1] at g1
   cases g1
   have e2 : k - b.left.length + (b.left.length - 1 - (a.left.length - 1 - i)) = k - a.left.length + i := by omega
   rw [e2] at g2
   exact ⟨q, u, h2, g2, within_sound h3 g3⟩
 · rw [leftB_iff]
   intro i hi
   obtain ⟨p, q, h1, h2, h3⟩ := c8 i hi
   unfold behindL at h1
   by_cases hb : i < b.body.length - a.body.length
   · rw [List.getElem?_append_left (by simpa using hb), List.getElem?_map, List.getElem?_drop] at h1
     obtain ⟨o, ho⟩ : ∃ o, b.body[a.body.length + i]? = some o := ⟨_, List.getElem?_eq_getElem (by omega)⟩
     rw [ho] at h1
     have hp : (⟨0, o⟩ : Item) = p := by simpa using h1
     subst hp
     have g2 := fw (a.body.length + i) (by omega)
     rw [ho] at g2
     have e2 : k + (a.body.length + i) = k + a.body.length + i := by omega
     rw [e2] at g2
     exact ⟨q, o, h2, g2, within_sound h3 (by unfold hasB; rw [if_pos rfl]; simp)⟩
   · rw [List.getElem?_append_right (by simpa using hb), List.length_map, List.length_drop] at h1
     have hlt := (List.getElem?_eq_some_iff.1 h1).1
     obtain ⟨it, u, g1, g2, g3⟩ := f7 (i - (b.body.length - a.body.length)) hlt
     rw [h1] at g1
     cases g1
     have e2 : k + b.body.length + (i - (b.body.length - a.body.length)) = k + a.body.length + i := by omega
     rw [e2] at g2
     exact ⟨q, u, h2, g2, within_sound h3 g3⟩
theorem firstF_min (x : Rs) (w : List One) (k : Nat) : ∀ (L : List Rl) (n i : Nat) (u : Rl), L[i]? = some u → fitB x u w k = true → firstF x w k L n ≤ n + i + 1
 | [], n, i, u, h, _ => by simp at h
 | v :: r, n, i, u, h, hf => by
  unfold firstF
  by_cases hv : fitB x v w k = true
  · rw [if_pos hv]; omega
  · rw [if_neg hv]
    cases i with
    | zero =>
     have e : v = u := by simpa using h
     subst e
     exact absurd hf hv
    | succ i =>
     have := firstF_min x w k r (n + 1) i u (by simpa using h) hf
     omega
theorem ruleAt_some {x : Rs} {f : Nat} {u : Rl} (h : ruleAt x f = some u) : 1 ≤ f ∧ f ≤ x.rules.length ∧ x.rules[f - 1]? = some u := by
 unfold ruleAt at h
 by_cases h0 : f = 0
 · rw [if_pos h0] at h; cases h
 · rw [if_neg h0] at h
   have := (List.getElem?_eq_some_iff.1 h).1
   exact ⟨by omega, by omega, h⟩
theorem cover_some {x : Rs} {i j : Nat} (h : coverN x i j = true) : ∃ a b, ruleAt x i = some a ∧ ruleAt x j = some b ∧ coversB x a b = true := by
 unfold coverN at h
 cases ha : ruleAt x i with
 | none => rw [ha] at h; simp at h
 | some a =>
  cases hb : ruleAt x j with
  | none => rw [ha, hb] at h; simp at h
  | some b => rw [ha, hb] at h; exact ⟨a, b, rfl, rfl, h⟩
theorem dead_some {x : Rs} {j : Nat} (h : deadB x j = true) : ∃ i, i < j ∧ coverN x i j = true := by
 obtain ⟨i, h1, h2⟩ := List.any_eq_true.1 h
 exact ⟨i, List.mem_range.1 h1, h2⟩
/-- a dead rule is never the first that fits -/
theorem dead_first {x : Rs} {w : List One} {k j : Nat} (h : deadB x j = true) : firstN x w k ≠ j := by
 intro he
 obtain ⟨i, hi, hc⟩ := dead_some h
 obtain ⟨a, b, ha, hb, hab⟩ := cover_some hc
 obtain ⟨b1, b2, b3⟩ := ruleAt_some hb
 obtain ⟨a1, a2, a3⟩ := ruleAt_some ha
 rcases @firstN_at x w k with h1 | ⟨i', u, h1, h2, h3⟩
 · omega
 · have e : i' = j - 1 := by omega
   subst e
   rw [b3] at h1
   cases h1
   have := firstF_min x w k x.rules 0 (i - 1) a a3 (covers_fit hab h2)
   have hh : firstN x w k = firstF x w k x.rules 0 := rfl
   omega
theorem deadT_succ (x : Rs) (i : Nat) : deadT x (i + 1) = deadT x i ++ (if deadB x (i + 1) then [i + 1] else []) := by
 unfold deadT
 rw [List.range_succ, List.filter_append, List.filter_cons, List.filter_nil]
theorem deadT_zero (x : Rs) : deadT x 0 = [] := rfl
theorem deadT_le {x : Rs} : ∀ {i z : Nat}, z ∈ deadT x i → 1 ≤ z ∧ z ≤ i ∧ deadB x z = true := by
 intro i z h
 unfold deadT at h
 rw [List.mem_filter, List.mem_range] at h
 refine ⟨?_, by omega, h.2⟩
 rcases Nat.eq_zero_or_pos z with h0 | h0
 · rw [h0] at h; cases h.2
 · exact h0
/-- a rule covers itself -/
theorem within_self {x : Rs} {i : Item} (hi : ItemG x.said i) : withinB x i i = true := by
 unfold withinB
 by_cases h0 : i.name = 0
 · rw [if_pos h0]; unfold hasB; rw [if_pos h0]; simp
 · rw [if_neg h0]
   cases hc : x.cls (i.name - 65) with
   | none => rfl
   | some y =>
    show y.2.all (hasB x i) = true
    rw [List.all_eq_true]
    intro u hu
    unfold hasB
    rw [if_neg h0, hc]
    simpa using hu
theorem pairs_self {x : Rs} {l : List Item} (h : ∀ i ∈ l, ItemG x.said i) : pairsB x l l l.length = true := by
 rw [pairsB_iff]
 intro i hi
 exact ⟨_, _, List.getElem?_eq_getElem hi, List.getElem?_eq_getElem hi, within_self (h _ (List.getElem_mem hi))⟩
theorem covers_self {x : Rs} {a : Rl} (g : RlG x.said a) : coversB x a a = true := by
 have e : behindL a.body.length a = a.right := by unfold behindL; rw [List.drop_length]; rfl
 have h1 := pairs_self (x := x) (l := a.left.reverse) (fun i hi => g.l i (List.mem_reverse.1 hi))
 rw [List.length_reverse] at h1
 unfold coversB
 rw [e, h1, pairs_self g.r]
 simp
theorem cover_self {x : Rs} (g : RsG x) (i : Nat) : coverN x i i = decide (1 ≤ i ∧ i ≤ x.rules.length) := by
 unfold coverN
 cases h : ruleAt x i with
 | none =>
  symm
  show decide _ = false
  refine decide_eq_false fun hh => ?_
  unfold ruleAt at h
  rw [if_neg (by omega), List.getElem?_eq_none_iff] at h
  omega
 | some a =>
  obtain ⟨h1, h2, h3⟩ := ruleAt_some h
  show coversB x a a = _
  rw [covers_self (g.r a (List.mem_of_getElem? h3))]
  exact (decide_eq_true ⟨h1, h2⟩).symm
theorem sndL_r {x : Rs} {w : List One} {a : List Nat} : ∀ (m k : Nat), w.length - k = m → ∀ y ∈ sndL x w a k, ∃ k', y.r = firstN x w k' := by
 intro m
 induction m using Nat.strongRecOn with
 | ind m ih =>
  intro k hk y hy
  rw [sndL] at hy
  by_cases hc : k < w.length ∧ 1 ≤ stepN x w k
  · rw [dif_pos hc] at hy
    rcases List.mem_cons.1 hy with h1 | h1
    · exact ⟨k, by rw [h1]⟩
    · exact ih (w.length - (k + stepN x w k)) (by omega) _ rfl y h1
  · rw [dif_neg hc] at hy; cases hy
/-- no sound is of a dead rule -/
theorem sounds_dead {x : Rs} {s : ByteArray} {l : List Snd} (h : soundsR x s = some l) {y : Snd} (hy : y ∈ l) {j : Nat} (hj : j ∈ deadL x) : y.r ≠ j := by
 unfold soundsR at h
 split at h
 · cases h
 · split at h
   · cases h
   · injection h with h
     subst h
     obtain ⟨k, hk⟩ := sndL_r _ 0 rfl y hy
     rw [hk]
     exact dead_first (deadT_le hj).2.2
end Go.Proofs.YtieifhfgedoiaaaDoor
namespace Go.Proofs.YtieifhfgedoiaaaDoor
open Go.RowKit Go.Lib
open Go.ChangeMaps Go.MapKept
set_option linter.unusedVariables false
set_option linter.unusedSimpArgs false
/-- a range over a map under way: every key that has come is such -/
def Rng (KS : Value → Prop) (w : World) (m r : Nat) (f : Value → Option Value) (Pd : Value → Prop) (cnt : Nat) : Prop :=
 ∃ es clock since seen c0, w.heap[m]? = some (.map es clock) ∧ w.heap[r]? = some (.mapIter (some m) since seen c0) ∧ m ≠ r ∧ (∀ x ∈ es.toList, x.born < since) ∧ since ≤ c0 ∧ since ≤ clock ∧ (es.toList.map (·.born)).Nodup ∧
  (∀ e ∈ es.toList, KS e.key) ∧ (∀ key v, f key = some v ↔ ∃ e ∈ es.toList, e.key = key ∧ e.val = v) ∧ (∀ e ∈ es.toList, seen.contains e.born = true → Pd e.key) ∧ (leftOf es seen).size = cnt
section
variable {P : Program} {KS : Value → Prop} {w w' : World} {m r cnt : Nat} {f : Value → Option Value} {Pd : Value → Prop}
theorem Rng.low (h : Rng KS w m r f Pd cnt) (hb : Below w.heap.size w w') : Rng KS w' m r f Pd cnt := by
 obtain ⟨es, clock, since, seen, c0, h1, h2, h3⟩ := h
 exact ⟨es, clock, since, seen, c0, (hb.block m (Array.getElem?_eq_some_iff.1 h1).1).trans h1, (hb.block r (Array.getElem?_eq_some_iff.1 h2).1).trans h2, h3⟩
theorem Rng.mono {Pe : Value → Prop} (h : Rng KS w m r f Pd cnt) (hp : ∀ z, Pd z → Pe z) : Rng KS w m r f Pe cnt := by
 obtain ⟨es, clock, since, seen, c0, h1, h2, h3, h4, h5, h6, h7, h8, h9, h10, h11⟩ := h
 exact ⟨es, clock, since, seen, c0, h1, h2, h3, h4, h5, h6, h7, h8, h9, fun e he hs => hp _ (h10 e he hs), h11⟩
theorem Rng.next (h : Rng KS w m r f Pd cnt) (ty : TypeId) :
  ((∀ key v, f key = some v → Pd key) ∧ (Instr.next (.pointer (some ⟨r, 0, none⟩)) false ty).run P w = .ok (.tuple #[.bool false]) w) ∨
  ∃ key v w' cnt', KS key ∧ f key = some v ∧ (Instr.next (.pointer (some ⟨r, 0, none⟩)) false ty).run P w = .ok (.tuple #[.bool true, key, v]) w' ∧ Rng KS w' m r f (fun z => Pd z ∨ z = key) cnt' ∧ cnt' < cnt ∧
   (∀ B, B ≤ r → Below B w w') ∧ w'.heap.size = w.heap.size ∧ (Instr.entry (.pointer (some ⟨r, 0, none⟩))).run P w' = .ok (.tuple #[key, v]) w' := by
 obtain ⟨es, clock, since, seen, c0, hb, hr, hne, hold, hsc, hsk, hnd, hks, hf, hpd, hcnt⟩ := h
 rcases run_next_at (P := P) w ty r m since c0 seen es clock hr hb hold hsc with ⟨h0, hrun⟩ | ⟨e, he, w1, hal, hrun⟩
 · refine Or.inl ⟨fun key v hk => ?_, hrun⟩
   obtain ⟨e, he, rfl, _⟩ := (hf key v).1 hk
   exact hpd e he (all_seen es seen h0 e he)
 · obtain ⟨hem, hes⟩ := mem_left he
   have hr1 : w1.heap[r]? = some (.mapIter (some m) since seen c0) := by rcases hal with rfl | rfl <;> exact hr
   have hb1 : w1.heap[m]? = some (.map es clock) := by rcases hal with rfl | rfl <;> exact hb
   have hset := heap_set (o' := .mapIter (some m) since (seen.push e.born) clock) hr1
   have hb' : (setBlock w1 r (.mapIter (some m) since (seen.push e.born) clock)).heap[m]? = some (.map es clock) := (hset.2 m hne).trans hb1
   refine Or.inr ⟨e.key, e.val, _, _, hks e hem, (hf e.key e.val).2 ⟨e, hem, rfl, rfl⟩, hrun,
    ⟨es, clock, since, seen.push e.born, clock, hb', hset.1, hne, hold, hsk, hsk, hnd, hks, hf, fun x hx hs => ?_, rfl⟩, by rw [← hcnt]; exact left_shrinks es seen e he, fun B hB => ?_, ?_,
    run_entry_at _ r m since seen es clock e hset.1 hb' hem hnd⟩
   · rw [contains_push] at hs
     cases hc : seen.contains x.born with
     | true => exact .inl (hpd x hx hc)
     | false =>
      rw [hc, Bool.false_or, beq_iff_eq] at hs
      right
      obtain ⟨i, hi, rfl⟩ := List.getElem_of_mem hx
      obtain ⟨j, hj, rfl⟩ := List.getElem_of_mem hem
      have h1 : (es.toList.map (·.born))[i]'(by simpa using hi) = (es.toList.map (·.born))[j]'(by simpa using hj) := by simpa using hs
      rcases Nat.lt_trichotomy i j with h2 | h2 | h2
      · exact absurd h1 (List.pairwise_iff_getElem.1 hnd i j _ _ h2)
      · subst h2; rfl
      · exact absurd h1.symm (List.pairwise_iff_getElem.1 hnd j i _ _ h2)
   · rcases hal with rfl | rfl <;> exact ⟨rfl, rfl, rfl, by simp [setBlock], fun i hi => hset.2 i (by omega)⟩
   · rcases hal with rfl | rfl <;> simp [setBlock]
end
section
variable {P : Program} (w : World) {ops : Array Oper} {rest : List Oper} {o : Oper} {a : Act} {Q : Exit → Act → World → Prop} {KS : Value → Prop}
/-- 'range m' -/
theorem wpList_rangeF (hg : o.guard = none) (x : Operand) (t : TypeId) (hop : o.op = Op.range t x) (k e : TypeId) (ht : P.underlying t = some (.map k e)) {m n : Nat} {f : Value → Option Value} (hm : a.eval x = .map (some m)) (h : MapF KS w m n f)
  (hK : ∀ w' cnt, Rng KS w' m w.heap.size f (fun _ => False) cnt → Below w.heap.size w w' → w'.heap.size = w.heap.size + 1 → wpList P ops Q rest (a.put o.dst (.pointer (some ⟨w.heap.size, 0, none⟩))) w') :
  wpList P ops Q (o :: rest) a w := by
 refine wpList_plain hg fun K' hK' => ?_
 have hlt := h.lt
 obtain ⟨es, clock, hb, hs, hks, hn, hf⟩ := h
 obtain ⟨s1, s2, s3⟩ := stamped_nodup hs
 have hrun := run_range_map (P := P) w t k e m es clock ht hb
 have hbel : Below w.heap.size w (w.alloc (.mapIter (some m) clock #[] clock)) := (Below.refl _ _).alloc (Nat.le_refl _) _
 unfold Oper.wp
 simp [execOp, hop, hm, hrun, Result.andThen]
 refine hK' _ _ (hK _ _ ⟨es, clock, clock, #[], clock, (heap_alloc_old w _ hlt).trans hb, heap_alloc_new w _, by omega, s1, Nat.le_refl _, Nat.le_refl _, s2, hks, hf, fun e he hc => by simp at hc, rfl⟩ hbel (by simp))
/-- the step: the keys' and the elements' shapes are given -/
theorem wpList_nextF {α β : Type} (hg : o.guard = none) (it : Operand) (hop : o.op = Op.next it false) (mkK : α → Value) (mkV : β → Value) {f : Value → Option Value} (invK : ∀ key, KS key → ∃ x, key = mkK x) (invV : ∀ key v, KS key → f key = some v → ∃ c, v = mkV c)
  {m r cnt : Nat} {Pd : Value → Prop} (hit : a.eval it = .pointer (some ⟨r, 0, none⟩)) (h : Rng KS w m r f Pd cnt)
  (hDone : (∀ key v, f key = some v → Pd key) → wpList P ops Q rest (a.put o.dst (.tuple #[.bool false])) w)
  (hMore : ∀ (x : α) (c : β) (w' : World) (cnt' : Nat), KS (mkK x) → f (mkK x) = some (mkV c) → cnt' < cnt → Rng KS w' m r f (fun z => Pd z ∨ z = mkK x) cnt' → (∀ B, B ≤ r → Below B w w') → w'.heap.size = w.heap.size →
   (Instr.entry (.pointer (some ⟨r, 0, none⟩))).run P w' = .ok (.tuple #[mkK x, mkV c]) w' → wpList P ops Q rest (a.put o.dst (.tuple #[.bool true, mkK x, mkV c])) w') :
  wpList P ops Q (o :: rest) a w := by
 refine wpList_plain hg fun K' hK' => ?_
 unfold Oper.wp
 rcases h.next (P := P) o.type with ⟨h0, hrun⟩ | ⟨key, v, w', cnt', hk, hv, hrun, hrg, hlt, hbl, hsz, hen⟩
 · simp [execOp, hop, hit, hrun, Result.andThen]
   exact hK' _ _ (hDone h0)
 · obtain ⟨x, rfl⟩ := invK key hk
   obtain ⟨c, rfl⟩ := invV _ v hk hv
   simp [execOp, hop, hit, hrun, Result.andThen]
   exact hK' _ _ (hMore x c w' cnt' hk hv hlt hrg hbl hsz hen)
end
end Go.Proofs.YtieifhfgedoiaaaDoor
