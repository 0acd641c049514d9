/- Small laws on rows of one's own (of wip/Poem's Wo). Conditions: those of each theorem. -/
import Derived.Test.YteodfondjogmoaaGreatDoorJe
import Derived.Maps.OwnIn
import Derived.Maps.AppendAt
import Derived.RangeFuncBox
import Derived.Test.YteodfondjogmoaaGreatDoorJd
import Derived.Maps.GroupsBeside
import Derived.Sort.KeysCollected
namespace Go.Proofs.YteodfondjogmoaaGreatDoor
open Go Go.RowKit Go.Lib Go.Shelf
set_option linter.unusedVariables false
/-- the walk stands at an append -/
theorem stop_app {F : Fence} {n : Nat} {P : Program} {w : World} {ops : Array Oper} {rest : List Oper} {o : Oper} {a : Act} {Q : Exit → Act → World → Prop} {s x : Operand} {t : TypeId} (hop : o.op = Op.call { callee := Callee.builtin Builtin.append, args := #[s, x], argTypes := #[t, t] })
    (h : Hid (wpListIn F n P ops Q (o :: rest) a w)) : wpListIn F n P ops Q (o :: rest) a w := h.out
theorem row_keep {T : Nat → Prop} {W W' : World} {b : Nat} {e : TypeId} {n : Nat} {v : Value} {k : Nat} {xs : List Value} (h : W.ownsRow b e n v k xs) (hk : Kept T W W') (hT : ∀ g, v.ownBlock = some g → T g) : W'.ownsRow b e n v k xs := by
  obtain ⟨h1, h2⟩ := h
  refine ⟨h1, ?_⟩
  rcases h2 with h2 | ⟨g, cap, cur, rfl, hb, hc, r⟩
  · exact .inl h2
  · exact .inr ⟨g, cap, cur, rfl, hb, hk.obj hc (hT g rfl), r⟩
theorem row_lt {W : World} {b : Nat} {e : TypeId} {n : Nat} {v : Value} {k : Nat} {xs : List Value} (h : W.ownsRow b e n v k xs) : ∀ g, v.ownBlock = some g → b ≤ g ∧ g < W.heap.size := h.lt
theorem cells_own {W : World} {b : Nat} {t e : TypeId} {n : Nat} {v : Value} {k : Nat} {xs : List Value} {B : Nat} {c : Array Value} (h : W.ownsRow b e n v k xs) (hB : Blk W B t c) (hte : t ≠ e) : v.ownBlock ≠ some B := by
  rcases h.2 with ⟨rfl, _⟩ | ⟨g, cap, cur, rfl, _, hc, _⟩
  · simp [Value.ownBlock]
  · intro e'
    obtain rfl : g = B := by simpa [Value.ownBlock] using e'
    unfold Blk at hB
    rw [hc] at hB
    cases hB
    exact hte rfl
theorem eachL_len : ∀ (L : List Vs) (k : Nat), (eachL k L).length = L.length
  | [], _ => rfl
  | v :: r, k => by unfold eachL; rw [List.length_cons, List.length_cons, eachL_len r (k + 1)]
end Go.Proofs.YteodfondjogmoaaGreatDoor
/- Lines as they lie in a source. No program in sight. Conditions: those of each theorem. -/
namespace Go.Proofs.YteodfondjogmoaaGreatDoor
open Go Go.RowKit
set_option linter.unusedVariables false
/-- a line as it lies in a source -/
def LnAt (src : ByteArray) (v : Vs) : Prop := 0 ≤ v.f ∧ v.t = v.f + v.tx.size ∧ v.t ≤ src.size ∧ v.tx = src.extract v.f.toNat v.t.toNat
theorem ba_ext {a b : ByteArray} (h : a.data = b.data) : a = b := by cases a; cases b; cases h; rfl
theorem extract_in (s : ByteArray) (a b c d : Nat) (h : a + d ≤ b) : (s.extract a b).extract c d = s.extract (a + c) (a + d) := by
  apply ba_ext
  simp only [ByteArray.data_extract, Array.extract_extract]
  congr 1
  omega
/-- lines one behind the other, the last one ending at n at the latest -/
structure LsOk (s : ByteArray) (n : Nat) (L : List Vs) : Prop where
  all : ∀ v ∈ L, v.tx.size ≤ 1024 ∧ LnAt s v ∧ v.t ≤ n
  pw : L.Pairwise fun a b => a.t ≤ b.f
theorem LsOk.nil (s : ByteArray) (n : Nat) : LsOk s n [] := ⟨(fun v h => by cases h), List.Pairwise.nil⟩
theorem LsOk.skip {s : ByteArray} {n n' : Nat} {L : List Vs} (h : LsOk s n L) (hn : n ≤ n') : LsOk s n' L := ⟨fun v hv => ⟨(h.all v hv).1, (h.all v hv).2.1, by have := (h.all v hv).2.2; omega⟩, h.pw⟩
theorem LsOk.push {s line : ByteArray} {pf pt n' ni : Nat} {L : List Vs} (h : LsOk s pf L) (hl : s.extract pf pt = line) (h1 : pf ≤ pt) (h2 : pt ≤ n') (h3 : pt ≤ s.size) (h4 : ni ≤ line.size) (h5 : line.size ≤ 1024) (h6 : s.size ≤ 65536) (a b c : Int) :
    LsOk s n' (L ++ [⟨line.extract ni line.size, a, b, c, IntKind.i64.wrap ((pf : Int) + ni), pt⟩]) := by
  have hz : line.size = pt - pf := by rw [← hl, ByteArray.size_extract]; omega
  have hw : IntKind.i64.wrap ((pf : Int) + ni) = (pf : Int) + ni := IntWalk.i64_in _ (by omega)
  rw [hw]
  refine ⟨fun v hv => ?_, List.pairwise_append.2 ⟨h.pw, List.pairwise_singleton _ _, fun x hx y hy => ?_⟩⟩
  · rcases List.mem_append.1 hv with hv | hv
    · exact ⟨(h.all v hv).1, (h.all v hv).2.1, by have := (h.all v hv).2.2; omega⟩
    · rw [List.mem_singleton.1 hv]
      have hs : (line.extract ni line.size).size = line.size - ni := by rw [ByteArray.size_extract]; omega
      refine ⟨by dsimp only; omega, ⟨by dsimp only; omega, by dsimp only; omega, by dsimp only; omega, ?_⟩, by dsimp only; omega⟩
      dsimp only
      conv => lhs; rw [← hl]
      rw [extract_in _ _ _ _ _ (by rw [hl]; omega), hl]
      congr 1 <;> omega
  · rw [List.mem_singleton.1 hy]
    have := (h.all x hx).2.2
    dsimp only
    omega
end Go.Proofs.YteodfondjogmoaaGreatDoor
/- The concordance's plain data: the places of all words of poems, one behind the other. No program in sight. Conditions: those of each theorem. -/
namespace Go.Proofs.YteodfondjogmoaaGreatDoor
open Go Go.RowKit
set_option linter.unusedVariables false
/-- a place of a word -/
structure Hw where
  p : Nat
  l : Nat
  w : Nat
  n : Nat
  f : Int
  t : Int
/-- a place, with its key -/
structure En where
  h : Hw
  k : ByteArray
/-- a poem: its source, its lines -/
structure Pd where
  src : ByteArray
  L : List Vs
structure Pd.Ok (d : Pd) : Prop where
  sz : d.src.size ≤ 65536
  len : d.L.length ≤ 512
  tx : ∀ v ∈ d.L, v.tx.size ≤ 1024
  at' : ∀ v ∈ d.L, LnAt d.src v
  pw : d.L.Pairwise fun a b => a.t ≤ b.f
def mkE (k line : Nat) (v : Vs) (n i : Nat) (w : Tk) : En := ⟨⟨k, line, i, n + i, v.f + w.f, v.f + w.t⟩, foldB (v.tx.extract w.f.toNat w.t.toNat)⟩
def wdE (k n line : Nat) (v : Vs) (ws : List Tk) : List En := ws.mapIdx fun i w => mkE k line v n i w
def pmE (k : Nat) : Nat → List (Nat × Vs) → List En
  | _, [] => []
  | n, x :: r => wdE k n x.1 x.2 (wordsL x.2.tx) ++ pmE k (n + (wordsL x.2.tx).length) r
def alE : Nat → List Pd → List En
  | _, [] => []
  | k, d :: r => pmE k 0 (eachL 0 d.L) ++ alE (k + 1) r
theorem wdE_len (k n line : Nat) (v : Vs) (ws : List Tk) : (wdE k n line v ws).length = ws.length := by simp [wdE]
theorem wdE_snoc (k n line : Nat) (v : Vs) (ws : List Tk) (w : Tk) : wdE k n line v (ws ++ [w]) = wdE k n line v ws ++ [mkE k line v n ws.length w] := by
  unfold wdE; rw [List.mapIdx_concat]
theorem pmE_snoc (k : Nat) : ∀ (pre : List (Nat × Vs)) (n : Nat) (x : Nat × Vs), pmE k n (pre ++ [x]) = pmE k n pre ++ wdE k (n + (pmE k n pre).length) x.1 x.2 (wordsL x.2.tx)
  | [], n, x => by simp [pmE]
  | y :: r, n, x => by
    rw [List.cons_append, pmE, pmE_snoc k r, pmE, List.append_assoc, List.length_append, wdE_len, Nat.add_assoc]
theorem alE_snoc : ∀ (ds : List Pd) (k : Nat) (d : Pd), alE k (ds ++ [d]) = alE k ds ++ pmE (k + ds.length) 0 (eachL 0 d.L)
  | [], k, d => by simp [alE]
  | y :: r, k, d => by
    rw [List.cons_append, alE, alE_snoc r, alE, List.append_assoc, List.length_cons, show k + 1 + r.length = k + (r.length + 1) by omega]
/-- ahead of one another -/
def EnLt (a b : En) : Prop := a.h.p < b.h.p ∨ (a.h.p = b.h.p ∧ a.h.n < b.h.n ∧ a.h.t ≤ b.h.f)
/-- what a line's word comes to -/
def OfW (v : Vs) (e : En) : Prop := ∃ w ∈ wordsL v.tx, e.h.f = v.f + w.f ∧ e.h.t = v.f + w.t ∧ e.k = foldB (v.tx.extract w.f.toNat w.t.toNat)
theorem wdE_mem {k n line : Nat} {v : Vs} {e : En} (h : e ∈ wdE k n line v (wordsL v.tx)) : e.h.p = k ∧ n ≤ e.h.n ∧ e.h.n < n + (wordsL v.tx).length ∧ e.h.l = line ∧ OfW v e := by
  unfold wdE at h
  obtain ⟨i, hi, rfl⟩ := List.mem_mapIdx.1 h
  exact ⟨rfl, by show n ≤ n + i; omega, by show n + i < _; omega, rfl, _, List.getElem_mem hi, rfl, rfl, rfl⟩
theorem wdE_pw (k n line : Nat) (v : Vs) (ws : List Tk) (h : ws.Pairwise fun x y => x.t ≤ y.f) : (wdE k n line v ws).Pairwise EnLt := by
  rw [List.pairwise_iff_getElem] at h ⊢
  intro i j hi hj hij
  unfold wdE at hi hj ⊢
  rw [List.length_mapIdx] at hi hj
  rw [List.getElem_mapIdx, List.getElem_mapIdx]
  refine .inr ⟨rfl, by show n + i < n + j; omega, ?_⟩
  have := h i j hi hj hij
  show v.f + _ ≤ v.f + _
  omega
theorem OfW.span {v : Vs} {e : En} (hv : v.tx.size ≤ 1024) (h : OfW v e) : v.f ≤ e.h.f ∧ e.h.f < e.h.t ∧ e.h.t ≤ v.f + v.tx.size := by
  obtain ⟨w, hw, h1, h2, _⟩ := h
  have := (words_fine v.tx (by omega)).2 w hw
  omega
theorem pmE_mem {k : Nat} {e : En} : ∀ {xs : List (Nat × Vs)} {n : Nat}, e ∈ pmE k n xs → e.h.p = k ∧ n ≤ e.h.n ∧ e.h.n < n + (pmE k n xs).length ∧ ∃ x ∈ xs, e.h.l = x.1 ∧ OfW x.2 e
  | [], n, h => by cases h
  | x :: r, n, h => by
    unfold pmE at h ⊢
    rw [List.length_append, wdE_len]
    rcases List.mem_append.1 h with h | h
    · obtain ⟨a, b, c, d, f⟩ := wdE_mem h
      exact ⟨a, b, by omega, x, List.mem_cons_self .., d, f⟩
    · obtain ⟨a, b, c, y, d, f⟩ := pmE_mem h
      exact ⟨a, by omega, by omega, y, List.mem_cons_of_mem _ d, f⟩
theorem pmE_pw {k : Nat} : ∀ (xs : List (Nat × Vs)) (n : Nat), (∀ x ∈ xs, x.2.tx.size ≤ 1024) → xs.Pairwise (fun (a b : Nat × Vs) => a.2.f + (a.2.tx.size : Int) ≤ b.2.f) → (pmE k n xs).Pairwise EnLt
  | [], n, _, _ => List.Pairwise.nil
  | x :: r, n, hx, hp => by
    unfold pmE
    rw [List.pairwise_cons] at hp
    have h1 := hx x (List.mem_cons_self ..)
    refine List.pairwise_append.2 ⟨wdE_pw _ _ _ _ _ (words_fine x.2.tx (by omega)).1, pmE_pw r _ (fun y hy => hx y (List.mem_cons_of_mem _ hy)) hp.2, fun a ha b hb => ?_⟩
    obtain ⟨a1, a2, a3, a4, a5⟩ := wdE_mem ha
    obtain ⟨b1, b2, b3, y, b4, b5, b6⟩ := pmE_mem hb
    have a6 := a5.span h1
    have b7 := b6.span (hx y (List.mem_cons_of_mem _ b4))
    have := hp.1 y b4
    exact .inr ⟨by omega, by omega, by omega⟩
theorem eachL_get : ∀ (L : List Vs) (k i : Nat) (v : Vs), (i, v) ∈ eachL k L → ∃ j, i = k + j ∧ L[j]? = some v
  | [], k, i, v, h => by cases h
  | x :: r, k, i, v, h => by
    unfold eachL at h
    rcases List.mem_cons.1 h with h | h
    · cases h; exact ⟨0, rfl, rfl⟩
    · obtain ⟨j, h1, h2⟩ := eachL_get r (k + 1) i v h
      exact ⟨j + 1, by omega, h2⟩
theorem eachL_snd : ∀ (L : List Vs) (k : Nat), (eachL k L).map (·.2) = L
  | [], k => rfl
  | x :: r, k => by unfold eachL; rw [List.map_cons, eachL_snd r]
theorem Pd.Ok.each {d : Pd} (h : d.Ok) : (∀ x ∈ eachL 0 d.L, x.2.tx.size ≤ 1024) ∧ (eachL 0 d.L).Pairwise (fun (a b : Nat × Vs) => a.2.f + (a.2.tx.size : Int) ≤ b.2.f) := by
  refine ⟨fun x hx => h.tx _ (eachL_mem _ _ _ hx), ?_⟩
  have hp := h.pw
  rw [← eachL_snd d.L 0, List.pairwise_map] at hp
  refine hp.imp_of_mem ?_
  intro a b ha _ hab
  have := (h.at' _ (eachL_mem _ _ _ ha)).2.1
  omega
theorem alE_mem {e : En} : ∀ {ds : List Pd} {k : Nat}, e ∈ alE k ds → ∃ i d, ds[i]? = some d ∧ e.h.p = k + i ∧ e ∈ pmE (k + i) 0 (eachL 0 d.L)
  | [], k, h => by cases h
  | d :: r, k, h => by
    unfold alE at h
    rcases List.mem_append.1 h with h | h
    · exact ⟨0, d, rfl, (pmE_mem h).1, h⟩
    · obtain ⟨i, d', h1, h2, h3⟩ := alE_mem h
      exact ⟨i + 1, d', h1, by omega, by rw [show k + (i + 1) = k + 1 + i by omega]; exact h3⟩
theorem alE_pw : ∀ (ds : List Pd) (k : Nat), (∀ d ∈ ds, d.Ok) → (alE k ds).Pairwise EnLt
  | [], k, _ => List.Pairwise.nil
  | d :: r, k, h => by
    unfold alE
    have hd := (h d (List.mem_cons_self ..)).each
    refine List.pairwise_append.2 ⟨pmE_pw _ _ hd.1 hd.2, alE_pw r _ (fun y hy => h y (List.mem_cons_of_mem _ hy)), fun a ha b hb => ?_⟩
    have a1 := (pmE_mem ha).1
    obtain ⟨i, d', h1, h2, h3⟩ := alE_mem hb
    exact .inl (by omega)
/-- what is known of a place -/
structure Known (ds : List Pd) (e : En) (d : Pd) (v : Vs) : Prop where
  hd : ds[e.h.p]? = some d
  hv : d.L[e.h.l]? = some v
  ok : d.Ok
  ln : LnAt d.src v
  vs : v.tx.size ≤ 1024
  sp : v.f ≤ e.h.f ∧ e.h.f < e.h.t ∧ e.h.t ≤ v.t
  tx : d.src.extract e.h.f.toNat e.h.t.toNat = v.tx.extract (e.h.f - v.f).toNat (e.h.t - v.f).toNat
  ky : e.k = foldB (d.src.extract e.h.f.toNat e.h.t.toNat)
  kk : foldB e.k = e.k
theorem alE_known {ds : List Pd} (h : ∀ d ∈ ds, d.Ok) {e : En} (he : e ∈ alE 0 ds) : ∃ d v, Known ds e d v := by
  obtain ⟨i, d, h1, h2, h3⟩ := alE_mem he
  rw [Nat.zero_add] at h2 h3
  obtain ⟨_, _, _, x, h4, h5, h6⟩ := pmE_mem h3
  obtain ⟨x1, v⟩ := x
  dsimp only at h5 h6
  obtain ⟨j, h7, h8⟩ := eachL_get _ _ _ _ h4
  have hok := h d (List.mem_of_getElem? h1)
  have hvm := List.mem_of_getElem? h8
  have hvs := hok.tx v hvm
  have hln := hok.at' v hvm
  have hsp := h6.span hvs
  obtain ⟨w, w1, w2, w3, w4⟩ := h6
  have hw := (words_fine v.tx (by omega)).2 w w1
  have htx : d.src.extract e.h.f.toNat e.h.t.toNat = v.tx.extract w.f.toNat w.t.toNat := by
    obtain ⟨l1, l2, l3, l4⟩ := hln
    conv => rhs; rw [l4]
    rw [extract_in _ _ _ _ _ (by omega)]
    congr 1 <;> omega
  refine ⟨d, v, ?_, ?_, hok, hln, hvs, ⟨hsp.1, hsp.2.1, by have := hln.2.1; omega⟩, ?_, ?_, ?_⟩
  · rw [h2]; exact h1
  · rw [h5, h7, Nat.zero_add]; exact h8
  · rw [htx]; congr 1 <;> omega
  · rw [htx]; exact w4
  · rw [w4]; exact word_folded v.tx (by omega) w w1
theorem alE_num {e : En} : ∀ {ds : List Pd} {k : Nat}, e ∈ alE k ds → e.h.n < (alE k ds).length
  | [], k, h => by cases h
  | d :: r, k, h => by
    unfold alE at h ⊢
    rw [List.length_append]
    rcases List.mem_append.1 h with h | h
    · have := (pmE_mem h).2.2.1; omega
    · have := alE_num h; omega
theorem pw_lt {α : Type} {R : α → α → Prop} {l : List α} (h : l.Pairwise R) {i j : Nat} {a b : α} (hij : i < j) (ha : l[i]? = some a) (hb : l[j]? = some b) : R a b := by
  obtain ⟨h1, rfl⟩ := List.getElem?_eq_some_iff.1 ha
  obtain ⟨h2, rfl⟩ := List.getElem?_eq_some_iff.1 hb
  exact (List.pairwise_iff_getElem.1 h) i j h1 h2 hij
/-! the groups -/
def grp (E : List En) (κ : ByteArray) : List Nat := (E.zipIdx.filter fun x => decide (x.1.k = κ)).map (·.2)
theorem grp_snoc (E : List En) (e : En) (κ : ByteArray) : grp (E ++ [e]) κ = if e.k = κ then grp E κ ++ [E.length] else grp E κ := by
  unfold grp
  rw [List.zipIdx_append, List.filter_append, List.map_append]
  by_cases h : e.k = κ
  · simp [h]
  · simp [h]
theorem grp_mem {E : List En} {κ : ByteArray} {i : Nat} (h : i ∈ grp E κ) : ∃ e, E[i]? = some e ∧ e.k = κ := by
  unfold grp at h
  obtain ⟨x, hx, rfl⟩ := List.mem_map.1 h
  obtain ⟨h1, h2⟩ := List.mem_filter.1 hx
  obtain ⟨e, j⟩ := x
  exact ⟨e, by simpa using (List.mem_zipIdx_iff_getElem?.1 h1), by simpa using h2⟩
theorem grp_pw (E : List En) (κ : ByteArray) : (grp E κ).Pairwise (· < ·) := by
  unfold grp
  rw [List.pairwise_map]
  refine List.Pairwise.filter _ ?_
  rw [List.pairwise_iff_getElem]
  intro i j hi hj hij
  simp only [List.getElem_zipIdx]
  omega
theorem grp_len (E : List En) (κ : ByteArray) : (grp E κ).length = E.countP fun e => decide (e.k = κ) := by
  unfold grp
  rw [List.length_map, ← List.countP_eq_length_filter]
  have : E.countP (fun e => decide (e.k = κ)) = (E.zipIdx.map (·.1)).countP (fun e => decide (e.k = κ)) := by rw [List.zipIdx_map_fst]
  rw [this, List.countP_map]
  rfl
theorem sum_one : ∀ (ks : List ByteArray), ks.Nodup → ∀ k ∈ ks, (ks.map fun κ => if k = κ then 1 else 0).sum = 1
  | [], _, k, h => by cases h
  | x :: r, hn, k, h => by
    rw [List.nodup_cons] at hn
    rw [List.map_cons, List.sum_cons]
    by_cases e : k = x
    · subst e
      have z : ∀ (l : List ByteArray), k ∉ l → (l.map fun κ => if k = κ then 1 else 0).sum = 0 := by
        intro l
        induction l with
        | nil => intro _; rfl
        | cons y t ih =>
          intro hm
          rw [List.mem_cons, not_or] at hm
          rw [List.map_cons, List.sum_cons, if_neg hm.1, ih hm.2]
      rw [if_pos rfl, z r hn.1]
    · rw [if_neg e, sum_one r hn.2 k ((List.mem_cons.1 h).resolve_left e)]
theorem sum_add (ks : List ByteArray) (f g : ByteArray → Nat) : (ks.map fun κ => f κ + g κ).sum = (ks.map f).sum + (ks.map g).sum := by
  induction ks with
  | nil => rfl
  | cons x r ih => simp only [List.map_cons, List.sum_cons, ih]; omega
/-- the groups are all places -/
theorem sum_grp (ks : List ByteArray) (hn : ks.Nodup) (E : List En) (hE : ∀ e ∈ E, e.k ∈ ks) : (ks.map fun κ => (grp E κ).length).sum = E.length := by
  simp only [grp_len]
  induction E with
  | nil =>
    have z : ∀ l : List ByteArray, (l.map fun _ => (0 : Nat)).sum = 0 := fun l => by induction l with
      | nil => rfl
      | cons x r ih => rw [List.map_cons, List.sum_cons, ih]
    simpa using z ks
  | cons e r ih =>
    have h1 : (ks.map fun κ => (e :: r).countP fun e => decide (e.k = κ)) = ks.map fun κ => (r.countP fun e => decide (e.k = κ)) + (if e.k = κ then 1 else 0) := by
      apply List.map_congr_left
      intro κ _
      rw [List.countP_cons]
      by_cases h : e.k = κ <;> simp [h]
    rw [h1, sum_add, ih (fun x hx => hE x (List.mem_cons_of_mem _ hx)), sum_one ks hn e.k (hE e (List.mem_cons_self ..)), List.length_cons]
end Go.Proofs.YteodfondjogmoaaGreatDoor
/- The places of words by their keys, as a map of slices in memory, beside other work. Conditions: those of each theorem. -/
namespace Go.Proofs.YteodfondjogmoaaGreatDoor
open Go Go.RowKit Go.Lib Go.Shelf Go.Maps Go.MapKept Go.ChangeShapes
open Go.WideElems (Fit rd rg pl rd_val elemAt)
set_option linter.unusedVariables false
section
variable {H : Type} {P : Program} {k : TypeId} {w w' : World} {base : Nat} {e : TypeId} {q : IntKind} {b n : Nat} {D : DataW H} {T No : Nat → Prop}
theorem groups_keep (h : w.ownsGroups P k base e q b n D) (hK : Kept T w w') (hb : T b) (hs : w.Shuns b fun g => ¬ T g) : w'.ownsGroups P k base e q b n D := by
  obtain ⟨es, clock, hbk, F, hsz, rfl, hbb, hlen, hap⟩ := h
  have hT : ∀ x ∈ es.toList, ∀ g, x.val.ownBlock = some g → T g := fun x hx g hg => Classical.byContradiction (hs es clock hbk x hx g hg)
  have hoi : ∀ x ∈ es.toList, ∀ zs, w.ownsInts base e q x.val zs → w'.ownsInts base e q x.val zs := fun x hx zs ho => ⟨row_keep ho.1 hK (hT x hx), ho.2⟩
  have hst : ∀ x ∈ es.toList, ∀ z, rowElem (H := H) w base e q x.val = some z → rowElem w' base e q x.val = some z := fun x hx z hz => by
    obtain ⟨zs, ho, rfl⟩ := rowElem_inv hz
    exact rowElem_mk (hoi x hx zs ho)
  obtain ⟨F1, hmap, _⟩ := F.stay hst
  refine ⟨es, clock, hK.obj hbk hb, F1, hsz, by rw [hmap], hbb, fun x hx zs ho => ?_, hap⟩
  obtain ⟨y, hy⟩ := F.reads x hx
  obtain ⟨z, hz, _⟩ := rd_val hy
  obtain ⟨zs0, ho0, _⟩ := rowElem_inv hz
  rw [ho.unique (hoi x hx _ ho0)]
  exact hlen x hx zs0 ho0
theorem shuns_keep (h : w.Shuns b No) (hK : Kept T w w') (hlt : b < w.heap.size) (hb : T b) : w'.Shuns b No := fun es clock hb' => h es clock ((hK.block b hlt hb).symm.trans hb')
/-- the groups' rows are rows of numbers, above the base -/
theorem groups_row (h : w.ownsGroups P k base e q b n D) : w.Shuns b fun g => ¬ (base ≤ g ∧ g < w.heap.size ∧ ∃ c, w.heap[g]? = some (.cells c e (0, 0))) := by
  obtain ⟨es, clock, hbk, F, _⟩ := h
  intro es' clock' hb' x hx g hg hn
  obtain ⟨rfl, rfl⟩ : es = es' ∧ clock = clock' := by rw [hbk] at hb'; simpa using hb'
  obtain ⟨y, hy⟩ := F.reads x hx
  obtain ⟨z, hz, _⟩ := rd_val hy
  obtain ⟨zs0, ho0, _⟩ := rowElem_inv hz
  refine hn ⟨(ho0.1.lt g hg).1, (ho0.1.lt g hg).2, ?_⟩
  rcases ho0.1.2 with ⟨h1, _⟩ | ⟨g', cap, cur, h1, _, hc, _⟩
  · rw [h1] at hg; simp [Value.ownBlock] at hg
  · rw [h1] at hg
    obtain rfl : g' = g := by simpa [Value.ownBlock] using hg
    exact ⟨_, hc⟩
theorem Shuns.imp (h : w.Shuns b No) (hi : ∀ g, T g → No g) : w.Shuns b T := fun es clock hb x hx g hg ht => h es clock hb x hx g hg (hi g ht)
end
theorem update_runIn {F : Fence} {nF : Nat} {P : Program} {w w2 : World} {ops : Array Oper} {rest : List Oper} {o : Oper} {a : Act} {Q : Exit → Act → World → Prop} (hg : o.guard = none) (m x v : Operand) (t : TypeId) (hop : o.op = Op.mapUpdate t m x v)
    {vm vx vv : Value} (hm : a.eval m = vm) (hx : a.eval x = vx) (hv : a.eval v = vv) (hrun : (Instr.mapUpdate t vm vx vv).run P w = .ok () w2) (hK : wpListIn F nF P ops Q rest (a.put o.dst undef) w2) : wpListIn F nF P ops Q (o :: rest) a w := by
  refine wpListIn_plain hg fun K' hK' => ?_
  unfold Oper.wpIn
  refine ⟨by simp [Oper.about, hop], ?_⟩
  rw [Oper.semAt_plain F _ _ (by rw [hop]; intro c hc'; cases hc')]
  simp [execOp, hop, hm, hx, hv, hrun, Result.andThen]
  exact hK' _ _ hK
theorem lookup_runIn {F : Fence} {nF : Nat} {P : Program} {w : World} {ops : Array Oper} {rest : List Oper} {o : Oper} {a : Act} {Q : Exit → Act → World → Prop} (hg : o.guard = none) (m x : Operand) (t : TypeId) (c : Bool) (hop : o.op = Op.lookup t m x c)
    {vm vx v : Value} (hm : a.eval m = vm) (hx : a.eval x = vx) (hrun : (Instr.lookup t vm vx c).run P w = .ok v w) (hK : wpListIn F nF P ops Q rest (a.put o.dst v) w) : wpListIn F nF P ops Q (o :: rest) a w := by
  refine wpListIn_plain hg fun K' hK' => ?_
  unfold Oper.wpIn
  refine ⟨by simp [Oper.about, hop], ?_⟩
  rw [Oper.semAt_plain F _ _ (by rw [hop]; intro c hc'; cases hc')]
  simp [execOp, hop, hm, hx, hrun, Result.andThen]
  exact hK' _ _ hK
theorem lookup_run {P : Program} {w : World} {ops : Array Oper} {rest : List Oper} {o : Oper} {a : Act} {Q : Exit → Act → World → Prop} (hg : o.guard = none) (m x : Operand) (t : TypeId) (c : Bool) (hop : o.op = Op.lookup t m x c)
    {vm vx v : Value} (hm : a.eval m = vm) (hx : a.eval x = vx) (hrun : (Instr.lookup t vm vx c).run P w = .ok v w) (hK : wpList P ops Q rest (a.put o.dst v) w) : wpList P ops Q (o :: rest) a w := by
  refine wpList_plain hg fun K' hK' => ?_
  unfold Oper.wp
  simp [execOp, hop, hm, hx, hrun, Result.andThen]
  exact hK' _ _ hK
/-! the groups of places -/
def gdat (l : List Nat) : DataW Unit := if l = [] then .nil else .slice (lits .i64 (l.map Int.ofNat)) []
structure GD (E : List En) (D : DataW Unit) : Prop where
  map : Maps.IsMap D
  at' : ∀ κ : ByteArray, D.atKey (.string κ.data.toList) .nil = gdat (grp E κ)
  has : ∀ κ : ByteArray, Maps.has D (.string κ.data.toList) = decide (grp E κ ≠ [])
theorem GD.nil : GD [] (.map []) := ⟨⟨_, rfl⟩, fun κ => rfl, fun κ => rfl⟩
theorem lit_ne {a b : ByteArray} (h : ¬ a = b) : (Lit.string b.data.toList) ≠ .string a.data.toList := fun e => h (ba_ext (by
  have := (Lit.string.inj e)
  exact (Array.toList_inj.1 this).symm))
theorem GD.push {E : List En} {D : DataW Unit} (h : GD E D) (e : En) : GD (E ++ [e]) (D.put (.string e.k.data.toList) (.slice (lits .i64 ((grp E e.k ++ [E.length]).map Int.ofNat)) [])) := by
  refine ⟨h.map.put _ _, fun κ => ?_, fun κ => ?_⟩
  · rw [grp_snoc]
    by_cases hk : e.k = κ
    · subst hk
      rw [if_pos rfl, atKey_put_same (k := .string e.k.data.toList) h.map trivial]
      unfold gdat
      rw [if_neg (by simp)]
    · rw [if_neg hk, atKey_put_other (lit_ne hk)]
      exact h.at' κ
  · rw [grp_snoc]
    by_cases hk : e.k = κ
    · subst hk
      rw [if_pos rfl, has_put_same (k := .string e.k.data.toList) h.map trivial]
      exact (decide_eq_true (by simp)).symm
    · rw [if_neg hk, has_put_other (lit_ne hk)]
      exact h.has κ
/-- the groups in memory: a map's block; its rows lie from base on, and none of them is one of No -/
def GrAt (w : World) (mb base : Nat) (No : Nat → Prop) (E : List En) : Prop := ∃ D : DataW Unit, w.ownsGroups Tryz.prog 9 base 3 .i64 mb E.length D ∧ w.Shuns mb No ∧ GD E D
theorem GrAt.lt {w : World} {mb base : Nat} {No : Nat → Prop} {E : List En} (h : GrAt w mb base No E) : mb < w.heap.size ∧ mb < base := by
  obtain ⟨D, ⟨es, clock, hb, _, _, _, hbb, _⟩, _⟩ := h
  exact ⟨at_lt hb, hbb⟩
theorem GrAt.keep {w w' : World} {mb base : Nat} {No T : Nat → Prop} {E : List En} (h : GrAt w mb base No E) (hK : Kept T w w') (hT : T mb) (hN : ∀ g, ¬ T g → No g ∨ ¬ (base ≤ g ∧ g < w.heap.size ∧ ∃ c, w.heap[g]? = some (.cells c 3 (0, 0)))) : GrAt w' mb base No E := by
  have hl := h.lt
  obtain ⟨D, h1, h2, h3⟩ := h
  refine ⟨D, groups_keep h1 hK hT ?_, shuns_keep h2 hK hl.1 hT, h3⟩
  intro es clock hb x hx g hg ht
  rcases hN g ht with hn | hn
  · exact h2 es clock hb x hx g hg hn
  · exact groups_row h1 es clock hb x hx g hg hn
theorem GrAt.reno {w : World} {mb base : Nat} {No No' : Nat → Prop} {E : List En} (h : GrAt w mb base No E) (hn : ∀ g, No' g → No g ∨ w.heap.size ≤ g) : GrAt w mb base No' E := by
  obtain ⟨D, h1, h2, h3⟩ := h
  exact ⟨D, h1, h2.reno h1 hn, h3⟩
theorem GrAt.nil (w : World) (No : Nat → Prop) : GrAt (w.alloc (.map #[] 0)) w.heap.size (w.heap.size + 1) No [] :=
  ⟨_, World.ownsGroups_made _ _ _ _ _, World.Shuns_made _ _, GD.nil⟩
/-- a group's slice -/
def GrV (w : World) (base : Nat) (l : List Nat) (v : Value) : Prop := w.ownsInts base 3 .i64 v (l.map Int.ofNat)
theorem lits_inj {a b : List Int} (h : (lits .i64 a : List (DataW Unit)) = lits .i64 b) : a = b := by
  unfold lits at h
  exact (List.map_inj_right (fun x y hxy => by simpa using hxy)).1 h
theorem GrAt.look {w : World} {mb base : Nat} {No : Nat → Prop} {E : List En} (h : GrAt w mb base No E) (hn : E.length < maxLen) (κ : ByteArray) (hκ : κ.size ≤ maxLen) :
    ∃ v, (Instr.lookup 105 (.map (some mb)) (.string κ) false).run Tryz.prog w = .ok v w ∧ GrV w base (grp E κ) v ∧ (∀ g, v.ownBlock = some g → ¬ No g) ∧
      ∀ (w1 : World) (v' : Value) (e : En), e.k = κ → w.grownBy w1 v.ownBlock → GrV w1 base (grp E κ ++ [E.length]) v' → (v'.ownBlock = v.ownBlock ∨ ∃ g, v'.ownBlock = some g ∧ w.heap.size ≤ g) → (∀ g, v'.ownBlock = some g → ¬ No g) →
        ∃ w2, (Instr.mapUpdate 105 (.map (some mb)) (.string κ) v').run Tryz.prog w1 = .ok () w2 ∧ w1.grownBy w2 (some mb) ∧ GrAt w2 mb base No (E ++ [e]) := by
  obtain ⟨D, h1, h2, h3⟩ := h
  have K : Keyed Tryz.prog 9 := string_keyed Tryz.underlying9
  have hkey : keyOf Tryz.prog 9 (.string κ) = some (.string κ.data.toList) := by
    simp [keyOf, Tryz.underlying9, mapKey, hκ]
  have hz : (zeroValue 49).run Tryz.prog w = .ok (.slice none 0 0) w := by kernel_rfl
  obtain ⟨v, zs, hrun, hat, hoi, hzl, hback⟩ := h1.at K Tryz.underlying105 hz hn hkey
  have hzs : zs = (grp E κ).map Int.ofNat := by
    rw [h3.at' κ] at hat
    rcases hoi.datum (H := Unit) with ⟨a1, a2⟩ | a1
    · rw [a1] at hat
      unfold gdat at hat
      split at hat
      · next hg => rw [a2, hg]; rfl
      · cases hat
    · rw [a1] at hat
      unfold gdat at hat
      split at hat
      · cases hat
      · have := lits_inj (DataW.slice.inj hat).1
        exact this.symm
  have hsh : ∀ g, v.ownBlock = some g → ¬ No g := by
    obtain ⟨es, clock, hb, F, _⟩ := h1
    rcases Maps.fit_look false K Tryz.underlying105 hz hb F hkey with ⟨hrun', _, _⟩ | ⟨e0, y, hm0, _, hrun', _, _, _⟩
    · rw [hrun] at hrun'
      obtain rfl : v = .slice none 0 0 := by simpa using hrun'
      intro _ hg'
      cases hg'
    · rw [hrun] at hrun'
      obtain rfl : v = e0.val := by simpa using hrun'
      exact fun g hg' => h2 es clock hb e0 hm0 g hg'
  subst hzs
  refine ⟨v, hrun, hoi, hsh, ?_⟩
  intro w1 v' e hk hgr hv' hloc hno
  have hlen : ((grp E κ ++ [E.length]).map Int.ofNat).length ≤ E.length + 1 := by
    rw [List.length_map, List.length_append, List.length_singleton]
    rw [List.length_map] at hzl
    omega
  obtain ⟨w2, hrun2, r1, r2⟩ := hback w1 v' _ hgr hv' hlen hloc
  have r3 : w2.Shuns mb No := by
    obtain ⟨es, clock, hb, F, hs, _, hbb, _⟩ := h1
    have hblt : mb < w.heap.size := (Array.getElem?_eq_some_iff.1 hb).1
    have hb1 : w1.heap[mb]? = some (.map es clock) := (hgr.block mb hblt (fun e1 => by have := (hoi.1.lt mb e1.symm).1; omega)).trans hb
    obtain ⟨es', clock', hb2, hwho⟩ := stored_who K Tryz.underlying105 hb1 F (Nat.lt_of_le_of_lt hs hn) hkey hrun2
    intro es2 clock2 hb2' y hy g hyg
    obtain ⟨rfl, rfl⟩ : es' = es2 ∧ clock' = clock2 := by rw [hb2] at hb2'; simpa using hb2'
    rcases hwho y hy with ⟨hy0, _⟩ | ⟨_, hval⟩
    · exact h2 es clock hb y hy0 g hyg
    · exact hno g (hval ▸ hyg)
  refine ⟨w2, hrun2, r2, _, ?_, r3, hk ▸ h3.push e⟩
  rw [List.length_append, List.length_singleton]
  have hd : rowDatum (H := Unit) .i64 v' ((grp E e.k ++ [E.length]).map Int.ofNat) = .slice (lits .i64 ((grp E e.k ++ [E.length]).map Int.ofNat)) [] := by
    subst hk
    exact World.ownsInts.datum_pos hv' (by simp)
  subst hk
  rw [hd] at r1
  exact r1
/-- the keys of the groups -/
theorem GrAt.keys {w : World} {mb base : Nat} {No : Nat → Prop} {E : List En} (h : GrAt w mb base No E) : ∃ (D : DataW Unit) (R : Value → Option (DataW Unit × List MemPlace)), w.ownsMap Tryz.prog 9 R mb E.length D ∧ GD E D := by
  obtain ⟨D, ⟨es, clock, hb, F, hs, hD, _⟩, _, h3⟩ := h
  exact ⟨D, _, ⟨es, clock, hb, F, hs, hD⟩, h3⟩
end Go.Proofs.YteodfondjogmoaaGreatDoor
/- The keys of the groups, sorted. No program's text in sight. Conditions: those of each theorem. -/
namespace Go.Proofs.YteodfondjogmoaaGreatDoor
open Go Go.RowKit Go.Lib Go.Shelf Go.Maps Go.WideElems Go.MapKept
set_option linter.unusedVariables false
def baL (l : List UInt8) : ByteArray := ⟨l.toArray⟩
theorem baL_data (l : List UInt8) : (baL l).data.toList = l := by simp [baL]
theorem baL_of (s : ByteArray) : baL s.data.toList = s := by apply ba_ext; simp [baL]
theorem baL_inj {a b : List UInt8} (h : baL a = baL b) : a = b := by rw [← baL_data a, h, baL_data]
theorem keys_mem {w : World} {b n : Nat} {D : DataW Unit} {R : Value → Option (DataW Unit × List MemPlace)} (hown : w.ownsMap Tryz.prog 9 R b n D) : (strKeys D).Nodup ∧ ∀ x, x ∈ strKeys D ↔ Maps.has D (.string x) = true := by
  have K : Keyed Tryz.prog 9 := string_keyed Tryz.underlying9
  obtain ⟨es, hD, hpw, _⟩ := hown.entries K
  obtain ⟨es', hD', hko⟩ := hown.keysOf
  obtain rfl : es = es' := by rw [hD] at hD'; simpa using hD'
  subst hD
  have hs : ∀ p ∈ es, ∃ x, p.1 = .string x := fun p hp => by
    obtain ⟨v, hv⟩ := hko p hp
    obtain ⟨x, _, hx, _⟩ := Maps.keyOf_str Tryz.underlying9 hv
    exact ⟨x, hx⟩
  refine ⟨?_, fun x => ?_⟩
  · show (es.map fun p => strOf p.1).Nodup
    refine List.pairwise_map.2 (hpw.imp_of_mem fun {p q} hp' hq' hne e => hne ?_)
    obtain ⟨a, ha⟩ := hs p hp'
    obtain ⟨b, hb⟩ := hs q hq'
    rw [ha, hb] at e ⊢
    exact congrArg _ e
  · rw [has_eq, List.any_eq_true]
    show x ∈ es.map (fun p => strOf p.1) ↔ _
    rw [List.mem_map]
    constructor
    · rintro ⟨p, hp', rfl⟩
      obtain ⟨a, ha⟩ := hs p hp'
      exact ⟨p, hp', by rw [ha]; simp [Lit.sameKey, strOf]⟩
    · rintro ⟨p, hp', h⟩
      obtain ⟨a, ha⟩ := hs p hp'
      rw [ha] at h
      exact ⟨p, hp', by rw [ha]; simpa [Lit.sameKey, strOf] using h⟩
/-- the keys, rising -/
structure KsOk (E : List En) (ks : List ByteArray) : Prop where
  nd : ks.Nodup
  all : ∀ e ∈ E, e.k ∈ ks
  one : ∀ κ ∈ ks, ∃ e ∈ E, e.k = κ
  pw : ks.Pairwise fun a b => a.data.toList < b.data.toList
theorem ks_ok {w : World} {b n : Nat} {D : DataW Unit} {R : Value → Option (DataW Unit × List MemPlace)} {E : List En} (hown : w.ownsMap Tryz.prog 9 R b n D) (hG : GD E D) {ss : List (List UInt8)} (hS : ss.Perm (strKeys D)) :
    KsOk E ((ss.mergeSort (fun x y => decide (x ≤ y))).map baL) := by
  obtain ⟨h1, h2⟩ := keys_mem hown
  have hp : (ss.mergeSort (fun x y => decide (x ≤ y))).Perm (strKeys D) := (List.mergeSort_perm ss _).trans hS
  have hnd : (ss.mergeSort (fun x y => decide (x ≤ y))).Nodup := hp.nodup_iff.2 h1
  have hm : ∀ κ : ByteArray, κ.data.toList ∈ ss.mergeSort (fun x y => decide (x ≤ y)) ↔ grp E κ ≠ [] := fun κ => by
    rw [hp.mem_iff, h2, hG.has κ, decide_eq_true_iff]
  refine ⟨?_, fun e he => ?_, fun κ hκ => ?_, ?_⟩
  · exact List.pairwise_map.2 (hnd.imp fun h e => h (baL_inj e))
  · refine List.mem_map.2 ⟨e.k.data.toList, (hm e.k).2 ?_, baL_of _⟩
    intro hg
    have : (grp E e.k).length = 0 := by rw [hg]; rfl
    rw [grp_len, List.countP_eq_zero] at this
    exact this e he (by simp)
  · obtain ⟨x, hx, rfl⟩ := List.mem_map.1 hκ
    have : grp E (baL x) ≠ [] := (hm (baL x)).1 (by rw [baL_data]; exact hx)
    obtain ⟨i, hi⟩ := List.exists_mem_of_ne_nil _ this
    obtain ⟨e, he, hk⟩ := grp_mem hi
    exact ⟨e, List.mem_of_getElem? he, hk⟩
  · refine List.pairwise_map.2 ?_
    have tr : ∀ a b c : List UInt8, decide (a ≤ b) = true → decide (b ≤ c) = true → decide (a ≤ c) = true := fun a b c h1 h2 => by simp only [decide_eq_true_eq] at *; exact List.le_trans h1 h2
    have tot : ∀ a b : List UInt8, (decide (a ≤ b) || decide (b ≤ a)) = true := fun a b => by simp only [Bool.or_eq_true, decide_eq_true_eq]; exact List.le_total a b
    have hs := List.pairwise_mergeSort tr tot ss
    have := hs.and hnd
    refine this.imp ?_
    rintro a b ⟨h1, h2⟩
    rw [baL_data, baL_data]
    simp only [decide_eq_true_eq] at h1
    rcases Classical.em (b ≤ a) with h | h
    · exact absurd (List.le_antisymm h1 h) h2
    · exact List.not_le.1 h
end Go.Proofs.YteodfondjogmoaaGreatDoor
/- A concordance in memory. Conditions: those of each theorem. -/
namespace Go.Proofs.YteodfondjogmoaaGreatDoor
open Go Go.RowKit Go.Lib Go.Shelf
set_option linter.unusedVariables false
abbrev Hw.v (h : Hw) : Value := .agg #[.int .i64 h.p, .int .i64 h.l, .int .i64 h.w, .int .i64 h.n, .int .i64 h.f, .int .i64 h.t]
abbrev Hw.cells (h : Hw) : Array Value := #[.int .i64 h.p, .int .i64 h.l, .int .i64 h.w, .int .i64 h.n, .int .i64 h.f, .int .i64 h.t]
abbrev Hw.cl (h : Hw) : List Value := [.int .i64 h.p, .int .i64 h.l, .int .i64 h.w, .int .i64 h.n, .int .i64 h.f, .int .i64 h.t]
/-- rows of like width -/
theorem flat_get {α : Type} (f : α → List Value) (m : Nat) (hf : ∀ x, (f x).length = m) : ∀ (l : List α) (k j : Nat) (x : α), l[k]? = some x → j < m → (l.flatMap f)[k * m + j]? = (f x)[j]?
  | [], k, j, v, h, _ => by simp at h
  | x :: r, 0, j, v, h, hj => by
    obtain rfl : x = v := by simpa using h
    rw [List.flatMap_cons, Nat.zero_mul, Nat.zero_add, List.getElem?_append_left (by rw [hf]; exact hj)]
  | x :: r, k + 1, j, v, h, hj => by
    rw [List.flatMap_cons, List.getElem?_append_right (by rw [hf, Nat.add_mul]; omega), hf, show (k + 1) * m + j - m = k * m + j by rw [Nat.add_mul]; omega]
    exact flat_get f m hf r k j v (by simpa using h) hj
theorem flat_len {α : Type} (f : α → List Value) (m : Nat) (hf : ∀ x, (f x).length = m) : ∀ (l : List α), (l.flatMap f).length = l.length * m
  | [] => by simp
  | x :: r => by rw [List.flatMap_cons, List.length_append, hf, flat_len f m hf r, List.length_cons, Nat.add_mul]; omega
/-- what a row of one's own has in its cells -/
theorem own_at {w : World} {b : Nat} {e : TypeId} {m : Nat} {v : Value} {n : Nat} {xs : List Value} (h : w.ownsRow b e m v n xs) : (n = 0 ∧ v = .slice none 0 0) ∨ ∃ g cap, v = .slice (some ⟨g, 0, none⟩) n cap ∧ b ≤ g ∧ g < w.heap.size ∧ ∀ j u, xs[j]? = some u → w.cell? ⟨g, j, none⟩ = some u := by
  rcases h.2 with ⟨h1, h2⟩ | ⟨g, cap, cur, h1, hb, hc, h3, h4, h5, h6⟩
  · exact .inl ⟨h2, h1⟩
  · refine .inr ⟨g, cap, h1, hb, at_lt hc, fun j u hj => ?_⟩
    have hl := (List.getElem?_eq_some_iff.1 hj).1
    have e : cur[j]? = some u := by
      rw [← hj, ← h6, List.getElem?_take, if_pos (by have := h.1; omega)]; simp
    simp [World.cell?, hc, e]
def HwAt (w : World) (g k : Nat) (h : Hw) : Prop := w.cell? ⟨g, k * 6, none⟩ = some (.int .i64 h.p) ∧ w.cell? ⟨g, k * 6 + 1, none⟩ = some (.int .i64 h.l) ∧ w.cell? ⟨g, k * 6 + 2, none⟩ = some (.int .i64 h.w) ∧ w.cell? ⟨g, k * 6 + 3, none⟩ = some (.int .i64 h.n) ∧ w.cell? ⟨g, k * 6 + 4, none⟩ = some (.int .i64 h.f) ∧ w.cell? ⟨g, k * 6 + 5, none⟩ = some (.int .i64 h.t)
theorem lowc {w w' : World} {a : Addr} {v : Value} (h : w.cell? a = some v) (hb : Below w.heap.size w w') : w'.cell? a = some v := (hb.cell (World.block_lt_of_cell? w a h)).trans h
theorem HwAt.low {w w' : World} {g k : Nat} {h : Hw} (hh : HwAt w g k h) (hb : Below w.heap.size w w') : HwAt w' g k h := by
  obtain ⟨a, b, c, d, e, f⟩ := hh
  exact ⟨lowc a hb, lowc b hb, lowc c hb, lowc d hb, lowc e hb, lowc f hb⟩
/-- a slice of places -/
structure HsAt (w : World) (a : Option Addr) (g : Nat) (l : List Hw) : Prop where
  ha : l = [] ∨ a = some ⟨g, 0, none⟩
  row : ∀ k h, l[k]? = some h → HwAt w g k h
theorem HsAt.low {w w' : World} {a : Option Addr} {g : Nat} {l : List Hw} (h : HsAt w a g l) (hb : Below w.heap.size w w') : HsAt w' a g l := ⟨h.ha, fun k x hx => (h.row k x hx).low hb⟩
theorem hs_of_own {w : World} {b : Nat} {v : Value} {l : List Hw} (h : w.ownsRow b 39 6 v l.length (l.flatMap Hw.cl)) : ∃ a g cap, v = .slice a l.length cap ∧ HsAt w a g l := by
  rcases own_at h with ⟨h1, h2⟩ | ⟨g, cap, h1, h2, h3, h4⟩
  · exact ⟨none, 0, 0, by rw [h1]; exact h2, .inl (List.length_eq_zero_iff.1 h1), fun k x hx => by rw [List.length_eq_zero_iff.1 h1] at hx; cases hx⟩
  · refine ⟨_, g, cap, h1, .inr rfl, fun k x hx => ?_⟩
    have key : ∀ j u, j < 6 → x.cl[j]? = some u → w.cell? ⟨g, k * 6 + j, none⟩ = some u := fun j u hj hu =>
      h4 _ _ (by rw [flat_get Hw.cl 6 (fun _ => rfl) l k j x hx hj]; exact hu)
    exact ⟨key 0 _ (by omega) rfl, key 1 _ (by omega) rfl, key 2 _ (by omega) rfl, key 3 _ (by omega) rfl, key 4 _ (by omega) rfl, key 5 _ (by omega) rfl⟩
/-- a poem, and where it lies -/
structure PmR where
  pb : Nat
  g : Nat
  a : Option Addr
  cap : Nat
  d : Pd
structure PmOk (w : World) (r : PmR) : Prop where
  pm : PmAt w r.pb r.g r.a r.cap r.d.L
  src : w.cell? ⟨r.pb, 3, none⟩ = some (.string r.d.src)
  lt : r.pb < w.heap.size ∧ r.g < w.heap.size
  ok : r.d.Ok
theorem PmOk.low {w w' : World} {r : PmR} (h : PmOk w r) (hb : Below w.heap.size w w') : PmOk w' r := ⟨h.pm.low hb, lowc h.src hb, by have := h.lt; have := hb.size; omega, h.ok⟩
/-- a slice of poems -/
structure PsAt (w : World) (a : Option Addr) (g : Nat) (rs : List PmR) : Prop where
  ha : rs = [] ∨ a = some ⟨g, 0, none⟩
  row : ∀ k r, rs[k]? = some r → w.cell? ⟨g, k, none⟩ = some (.pointer (some ⟨r.pb, 0, none⟩)) ∧ PmOk w r
theorem PsAt.low {w w' : World} {a : Option Addr} {g : Nat} {rs : List PmR} (h : PsAt w a g rs) (hb : Below w.heap.size w w') : PsAt w' a g rs := ⟨h.ha, fun k r hr => ⟨lowc (h.row k r hr).1 hb, (h.row k r hr).2.low hb⟩⟩
/-- where a concordance lies -/
structure Cc where
  cb : Nat
  pa : Option Addr
  pg : Nat
  pc : Nat
  ha : Option Addr
  hg : Nat
  hc : Nat
  ov : Value
  ka : Option Addr
  kg : Nat
  kc : Nat
  mb : Nat
  base : Nat
structure CcAt (w : World) (c : Cc) (rs : List PmR) (E : List En) (ks : List ByteArray) : Prop where
  c0 : w.cell? ⟨c.cb, 0, none⟩ = some (.slice c.pa rs.length c.pc)
  c1 : w.cell? ⟨c.cb, 1, none⟩ = some (.slice c.ha E.length c.hc)
  c3 : w.cell? ⟨c.cb, 3, none⟩ = some (.slice c.ka ks.length c.kc)
  c4 : w.cell? ⟨c.cb, 4, none⟩ = some (.map (some c.mb))
  ps : PsAt w c.pa c.pg rs
  hs : HsAt w c.ha c.hg (E.map (·.h))
  kp : ks = [] ∨ c.ka = some ⟨c.kg, 0, none⟩
  kr : ∀ k κ, ks[k]? = some κ → w.cell? ⟨c.kg, k, none⟩ = some (.string κ)
  gr : GrAt w c.mb c.base (fun _ => False) E
  eE : E = alE 0 (rs.map (·.d))
  lE : E.length ≤ 32768
  lr : rs.length ≤ 1024
  kk : KsOk E ks
theorem CcAt.low {w w' : World} {c : Cc} {rs : List PmR} {E : List En} {ks : List ByteArray} (h : CcAt w c rs E ks) (hb : Below w.heap.size w w') : CcAt w' c rs E ks :=
  ⟨lowc h.c0 hb, lowc h.c1 hb, lowc h.c3 hb, lowc h.c4 hb, h.ps.low hb, h.hs.low hb, h.kp, fun k κ hκ => lowc (h.kr k κ hκ) hb,
    h.gr.keep (Kept.of_all hb fun k => k < w.heap.size) h.gr.lt.1 (fun g hg => .inr fun h => hg h.2.1), h.eE, h.lE, h.lr, h.kk⟩
theorem CcAt.oks {w : World} {c : Cc} {rs : List PmR} {E : List En} {ks : List ByteArray} (h : CcAt w c rs E ks) : ∀ d ∈ rs.map (·.d), d.Ok := by
  intro d hd
  obtain ⟨r, hr, rfl⟩ := List.mem_map.1 hd
  obtain ⟨k, hk⟩ := List.getElem?_of_mem hr
  exact (h.ps.row k r hk).2.ok
theorem CcAt.pw {w : World} {c : Cc} {rs : List PmR} {E : List En} {ks : List ByteArray} (h : CcAt w c rs E ks) : E.Pairwise EnLt := by
  rw [h.eE]; exact alE_pw _ _ h.oks
/-- what is known of the place with a number -/
structure KnowR (w : World) (rs : List PmR) (e : En) (r : PmR) (v : Vs) : Prop where
  hr : rs[e.h.p]? = some r
  ok : PmOk w r
  k : Known (rs.map (·.d)) e r.d v
  pp : e.h.p < 1024
  nn : e.h.n < 32768
theorem CcAt.know {w : World} {c : Cc} {rs : List PmR} {E : List En} {ks : List ByteArray} (h : CcAt w c rs E ks) {i : Nat} {e : En} (he : E[i]? = some e) : ∃ r v, KnowR w rs e r v := by
  have hm := List.mem_of_getElem? he
  rw [h.eE] at hm
  obtain ⟨d, v, hk⟩ := alE_known h.oks hm
  have h1 := hk.hd
  rw [List.getElem?_map] at h1
  cases hr : rs[e.h.p]? with
  | none => rw [hr] at h1; cases h1
  | some r =>
    rw [hr] at h1
    obtain rfl : r.d = d := by simpa using h1
    have hp := (List.getElem?_eq_some_iff.1 hr).1
    have hn := alE_num hm
    rw [← h.eE] at hn
    have := h.lr
    have := h.lE
    exact ⟨r, v, hr, (h.ps.row _ _ hr).2, hk, by omega, by omega⟩
end Go.Proofs.YteodfondjogmoaaGreatDoor
