/- Rows of one's own, kept over calls and stores; elements laid flat. Conditions: those of each theorem. -/
import Derived.Test.YtieifhfgedoiaaaGreatDoorNRdF
import Derived.Test.YtieifhfgedoiaaaGreatDoorNRdE
import Derived.OwnWalk
namespace Go.Proofs.YtieifhfgedoiaaaGreatDoor
open Go.RowKit Go.Lib
set_option linter.unusedVariables false
set_option linter.unusedSimpArgs false
theorem grownNone {W W' : World} (h : Below W.heap.size W W') : W.grownBy W' none := ⟨h.os, h.tape, h.output, h.size, fun k hk _ => h.block k hk⟩
section
variable {w w' a b c : World} {base : Nat} {e : TypeId} {size n : Nat} {v : Value} {xs : List Value} {S : List Nat}
theorem own_low (h : w.ownsRow base e size v n xs) (hb : Below w.heap.size w w') : w'.ownsRow base e size v n xs := h.kept (grownNone hb) (Classical.em _)
theorem own_but (h : w.ownsRow base e size v n xs) (hb : ButS S w w') (hS : ∀ k ∈ S, k < base) : w'.ownsRow base e size v n xs := by
 refine ⟨h.1, ?_⟩
 rcases h.2 with hh | ⟨g, cap, cur, h1, h2, h3, h4⟩
 ·exact .inl hh
 ·refine .inr ⟨g, cap, cur, h1, h2, (hb.block g (Array.getElem?_eq_some_iff.1 h3).1 fun hg => ?_).trans h3, h4⟩
  have := hS g hg
  omega
theorem own_set (h : w.ownsRow base e size v n xs) {B : Nat} (hB : B < base) (k : Nat) (u : Value) : (w.setCell ⟨B, k, none⟩ u).ownsRow base e size v n xs :=
 own_but h ((ButS.refl [B] w).set (List.mem_singleton.2 rfl) k u) (fun k hk => by rw [List.mem_singleton] at hk; omega)
theorem own_ge (h : w.ownsRow base e size v n xs) {g : Nat} (hg : v.ownBlock = some g) : base ≤ g ∧ g < w.heap.size := by
 rcases h.2 with ⟨hh, _⟩ | ⟨g', cap, cur, h1, h2, h3, h4⟩
 ·rw [hh] at hg; cases hg
 ·rw [h1] at hg; cases hg; exact ⟨h2, (Array.getElem?_eq_some_iff.1 h3).1⟩
theorem own_shape (h : w.ownsRow base e size v n xs) : ∃ p cap, v = .slice p n cap := by
 rcases h.2 with ⟨rfl, rfl⟩ | ⟨g, cap, cur, h1, _⟩
 ·exact ⟨none, 0, rfl⟩
 ·exact ⟨_, cap, h1⟩
theorem ButS.grown (h : ButS S a b) {row : Option Nat} (hg : b.grownBy c row) (hr : ∀ k, row = some k → a.heap.size ≤ k) : ButS S a c :=
 ⟨hg.os.trans h.os, hg.tape.trans h.tape, hg.output.trans h.output, Nat.le_trans h.size hg.size, fun k hk hS => (hg.block k (by have := h.size; omega) (fun e => by have := hr k e.symm; omega)).trans (h.block k hk hS)⟩
theorem ButS.below' (h : ButS S a b) (hS : ∀ k ∈ S, a.heap.size ≤ k) : Below a.heap.size a b := h.below hS (Nat.le_refl _)
theorem Rd.kept {R : Nat} {s : ByteArray} {p : Nat} {e q : Int} (h : Rd w R s p e q) {row : Option Nat} (hg : w.grownBy w' row) (hne : some R ≠ row) : Rd w' R s p e q := ⟨h.b.kept hg hne⟩
end
def flatE {α : Type} (f : α → List Value) (l : List α) : List Value := l.flatMap f
theorem flatE_snoc {α : Type} (f : α → List Value) (l : List α) (x : α) : flatE f (l ++ [x]) = flatE f l ++ f x := by unfold flatE; rw [List.flatMap_append, List.flatMap_singleton]
theorem flatE_len {α : Type} (f : α → List Value) (k : Nat) (hk : ∀ x, (f x).length = k) : ∀ l : List α, (flatE f l).length = l.length * k
 | [] => by simp [flatE]
 | x :: r => by
  have := flatE_len f k hk r
  unfold flatE at *
  rw [List.flatMap_cons, List.length_append, this, hk, List.length_cons, Nat.add_mul, Nat.one_mul, Nat.add_comm]
theorem flatE_get {α : Type} (f : α → List Value) (k : Nat) (hk : ∀ x, (f x).length = k) : ∀ (l : List α) (j : Nat) (x : α), l[j]? = some x → ∀ i u, (f x)[i]? = some u → (flatE f l)[j * k + i]? = some u
 | [], j, x, h, i, u, hu => by simp at h
 | y :: r, 0, x, h, i, u, hu => by
  simp at h
  subst h
  have hi := (List.getElem?_eq_some_iff.1 hu).1
  unfold flatE
  rw [List.flatMap_cons, Nat.zero_mul, Nat.zero_add, List.getElem?_append_left hi]
  exact hu
 | y :: r, j + 1, x, h, i, u, hu => by
  simp at h
  have := flatE_get f k hk r j x h i u hu
  unfold flatE at *
  rw [List.flatMap_cons, List.getElem?_append_right (by rw [hk, Nat.add_mul, Nat.one_mul]; omega), hk, show (j + 1) * k + i - k = j * k + i by rw [Nat.add_mul, Nat.one_mul]; omega]
  exact this
theorem cells_new3 (w : World) (a0 a1 a2 : Value) (T : TypeId) : ∀ j u, [a0, a1, a2][j]? = some u → (w.alloc (.cells #[a0, a1, a2] T)).cell? ((⟨w.heap.size, 0, none⟩ : Addr).add j) = some u := by
 intro j u hj
 match j, hj with
 | 0, hj => simp at hj; subst hj; simp [Addr.add]
 | 1, hj => simp at hj; subst hj; simp [Addr.add]
 | 2, hj => simp at hj; subst hj; simp [Addr.add]
 | j + 3, hj => simp at hj
theorem cells_new4 (w : World) (a0 a1 a2 a3 : Value) (T : TypeId) : ∀ j u, [a0, a1, a2, a3][j]? = some u → (w.alloc (.cells #[a0, a1, a2, a3] T)).cell? ((⟨w.heap.size, 0, none⟩ : Addr).add j) = some u := by
 intro j u hj
 match j, hj with
 | 0, hj => simp at hj; subst hj; simp [Addr.add]
 | 1, hj => simp at hj; subst hj; simp [Addr.add]
 | 2, hj => simp at hj; subst hj; simp [Addr.add]
 | 3, hj => simp at hj; subst hj; simp [Addr.add]
 | j + 4, hj => simp at hj
theorem info_parts {P : Program} {e : TypeId} {z : Value} {s b : Nat} (h : (P.info? e).map (fun i => (i.zero, i.size, i.bytes)) = some (some z, s, b)) : ∃ i, P.info? e = some i ∧ i.zero = some z ∧ i.size = s ∧ i.bytes = b := by
 obtain ⟨i, hi, he⟩ := Option.map_eq_some_iff.1 h
 injection he with h1 h2
 injection h2 with h2 h3
 exact ⟨i, hi, h1, h2, h3⟩
theorem info115 : (Tryz.prog.info? 110).map (fun i => (i.zero, i.size, i.bytes)) = some (some (.agg #[.int .i32 0, .bool false, .int .u8 0]), 3, 8) := by kernel_rfl
theorem info117 : (Tryz.prog.info? 146).map (fun i => (i.zero, i.size, i.bytes)) = some (some (.agg #[.int .u8 0, .int .i32 0, .bool false, .int .u8 0]), 4, 12) := by kernel_rfl
theorem dec_ascii {s : ByteArray} {p : Nat} (hp : p < s.size) (h : (s.get! p).toNat < 128) : Utf8.decode s p = ((s.get! p).toNat, 1) := by
 rw [decode_at]
 rcases decodeN_shape (s.size - p) (s.get! p).toNat (s.get! (p + 1)).toNat (s.get! (p + 2)).toNat (s.get! (p + 3)).toNat with ⟨_, e⟩ | ⟨a, _⟩ | ⟨a, _⟩ | ⟨a, _⟩ | e
 ·exact e
 ·omega
 ·omega
 ·omega
 ·unfold decodeN at e ⊢
  rw [if_pos (by omega)] at e ⊢
end Go.Proofs.YtieifhfgedoiaaaGreatDoor
