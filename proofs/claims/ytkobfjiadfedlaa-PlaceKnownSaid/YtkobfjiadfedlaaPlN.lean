/- The plain data of a map: what place.New gathers, as a Lean function on bytes. No program in sight. -/
import Derived.Test.YtkobfjiadfedlaaPlA
namespace Go.Proofs.Ytkobfjiadfedlaa
set_option linter.unusedVariables false

def unitsOf (r : Nat) : Nat := if 65536 ≤ r then 2 else 1
/-- how many bytes of a line end end with the piece at i whose rune is r: 0: no line ends there. -/
def nlw (s : ByteArray) (i r : Nat) : Nat :=
  if r = 13 then (if i + 1 < s.size ∧ s[i + 1]! = 10 then 0 else 1)
  else if r = 10 then (if 0 < i ∧ s[i - 1]! = 13 then 2 else 1)
  else 0
structure St where
  ps : List Pl
  ls : List Ln
  r : Nat
  u : Nat
  l : Nat
  c : Nat
  fr : Nat
  fi : Nat
def St.step (s : ByteArray) (i r : Nat) (t : St) : St :=
  if nlw s i r = 0 then ⟨t.ps ++ [⟨i, t.r, t.u, t.l, t.c⟩], t.ls, t.r + 1, t.u + unitsOf r, t.l, t.c + 1, t.fr, t.fi⟩
  else ⟨t.ps ++ [⟨i, t.r, t.u, t.l, t.c⟩], t.ls ++ [⟨t.fr, i + 1 - nlw s i r, nlw s i r, t.fi⟩], t.r + 1, t.u + unitsOf r, t.l + 1, 0, i + 1, t.ps.length + 1⟩
def St.start : St := ⟨[], [], 0, 0, 0, 0, 0, 0⟩
def runFrom (s : ByteArray) : Nat → Nat → St → St
  | 0, _, t => t
  | f + 1, pos, t => if pos < s.size then runFrom s f (pos + (Utf8.decode s pos).2) (t.step s pos (Utf8.decode s pos).1) else t
def fin (s : ByteArray) : St := runFrom s s.size 0 St.start
def plOf (s : ByteArray) : List Pl := (fin s).ps ++ [⟨s.size, (fin s).r, (fin s).u, (fin s).l, (fin s).c⟩]
def lnOf (s : ByteArray) : List Ln := (fin s).ls ++ [⟨(fin s).fr, s.size, 0, (fin s).fi⟩]

def flatP (l : List Pl) : List Value := l.flatMap Pl.cells
def flatL (l : List Ln) : List Value := l.flatMap Ln.cells
theorem flatP_snoc (l : List Pl) (p : Pl) : flatP (l ++ [p]) = flatP l ++ p.cells := by simp [flatP]
theorem flatL_snoc (l : List Ln) (p : Ln) : flatL (l ++ [p]) = flatL l ++ p.cells := by simp [flatL]
theorem flatP_length (l : List Pl) : (flatP l).length = l.length * 5 := by
  induction l with
  | nil => rfl
  | cons p l ih => simp [flatP, Pl.cells] at *; omega
theorem flatL_length (l : List Ln) : (flatL l).length = l.length * 4 := by
  induction l with
  | nil => rfl
  | cons p l ih => simp [flatL, Ln.cells] at *; omega

/-- what holds of a state in every round -/
structure Ok (s : ByteArray) (pos : Nat) (t : St) : Prop where
  hp : pos ≤ s.size
  r : t.r = t.ps.length
  len : t.ps.length ≤ pos
  u : t.u ≤ 2 * t.r
  l : t.l = t.ls.length
  ll : t.ls.length ≤ pos
  c : t.c ≤ t.r
  fr : t.fr ≤ pos
  fi : t.fi ≤ t.ps.length
theorem nlw_le (s : ByteArray) (i r : Nat) : nlw s i r ≤ 2 := by
  unfold nlw
  repeat' split
  all_goals omega
theorem nlw_two (s : ByteArray) (i r : Nat) (h : nlw s i r = 2) : 0 < i := by
  unfold nlw at h
  repeat' split at h
  all_goals omega
theorem unitsOf_le (r : Nat) : unitsOf r ≤ 2 := by unfold unitsOf; split <;> omega
theorem dec_pos (s : ByteArray) (pos : Nat) : 1 ≤ (Utf8.decode s pos).2 := by
  unfold Utf8.decode
  dsimp only
  repeat' split
  all_goals simp
theorem dec_le (s : ByteArray) (pos : Nat) (h : pos < s.size) : pos + (Utf8.decode s pos).2 ≤ s.size := by
  unfold Utf8.decode
  dsimp only
  repeat' split
  all_goals simp_all
  all_goals omega
theorem Ok.start (s : ByteArray) : Ok s 0 St.start := ⟨Nat.zero_le _, rfl, Nat.le_refl _, Nat.le_refl _, rfl, Nat.le_refl _, Nat.le_refl _, Nat.le_refl _, Nat.le_refl _⟩
theorem Ok.step {s : ByteArray} {pos : Nat} {t : St} (h : Ok s pos t) (hp : pos < s.size) : Ok s (pos + (Utf8.decode s pos).2) (t.step s pos (Utf8.decode s pos).1) := by
  have h1 := dec_pos s pos
  have h2 := dec_le s pos hp
  have h3 := unitsOf_le (Utf8.decode s pos).1
  obtain ⟨a, b, c, d, e, f, g, i, j⟩ := h
  unfold St.step
  split
  · exact ⟨h2, by simp; omega, by simp; omega, by dsimp only; omega, e, by dsimp only; omega, by dsimp only; omega, by dsimp only; omega, by simp; omega⟩
  · exact ⟨h2, by simp; omega, by simp; omega, by dsimp only; omega, by simp; omega, by simp; omega, by dsimp only; omega, by dsimp only; omega, by simp⟩
/-- an invariant of the rounds holds at the end -/
theorem run_ind {s : ByteArray} {I : Nat → St → Prop} (hs : ∀ pos t, pos < s.size → I pos t → I (pos + (Utf8.decode s pos).2) (t.step s pos (Utf8.decode s pos).1)) :
    ∀ f pos t, s.size ≤ pos + f → pos ≤ s.size → I pos t → I s.size (runFrom s f pos t) := by
  intro f
  induction f with
  | zero => intro pos t hf hp h; obtain rfl : pos = s.size := by omega
            exact h
  | succ f ih =>
    intro pos t hf hp h
    unfold runFrom
    split
    · rename_i hlt
      have := dec_pos s pos
      exact ih _ _ (by omega) (dec_le s pos hlt) (hs pos t hlt h)
    · obtain rfl : pos = s.size := by omega
      exact h
theorem fin_ok (s : ByteArray) : Ok s s.size (fin s) := run_ind (fun _ _ hp h => h.step hp) s.size 0 St.start (by omega) (by omega) (Ok.start s)
end Go.Proofs.Ytkobfjiadfedlaa
