/- What a text of rules says, in plain Lean: pieces, contexts, lines. No program in sight. Conditions: those of each theorem. -/
import Derived.Test.YtieifhfgedoiaaaGreatDoorNRdC
namespace Go.Proofs.YtieifhfgedoiaaaGreatDoor
open Go.RowKit Go.Lib
set_option linter.unusedVariables false
set_option linter.unusedSimpArgs false
structure One where
 r : Nat
 br : Bool
 b : Nat
deriving DecidableEq
def One.none : One := ⟨0, false, 0⟩
def One.cells (u : One) : List Value := [.int .i32 u.r, .bool u.br, .int .u8 u.b]
def One.val (u : One) : Value := .agg #[.int .i32 u.r, .bool u.br, .int .u8 u.b]
structure Item where
 name : Nat
 u : One
deriving DecidableEq
def Item.cells (i : Item) : List Value := [.int .u8 i.name, .int .i32 i.u.r, .bool i.u.br, .int .u8 i.u.b]
def Item.val (i : Item) : Value := .agg #[.int .u8 i.name, .int .i32 i.u.r, .bool i.u.br, .int .u8 i.u.b]
def wdN (s : ByteArray) (p : Nat) : Nat := (Utf8.decode s p).2
def rnN (s : ByteArray) (p : Nat) : Nat := (Utf8.decode s p).1
def isBr (s : ByteArray) (p : Nat) : Bool := brB (rnN s p) (wdN s p)
def kindOk (r : Nat) : Bool := decide ((kindI r = 1 ∨ kindI r = 2 ∨ kindI r = 3 ∨ kindI r = 6 ∨ kindI r = 7) ∧ lowI r = r)
def plB (s : ByteArray) (p : Nat) : Bool := decide (p < s.size ∧ (isBr s p = true ∨ kindOk (rnN s p) = true))
def oneAt (s : ByteArray) (p : Nat) : One := if isBr s p then ⟨0, true, (s.get! p).toNat⟩ else ⟨rnN s p, false, 0⟩
theorem wdN_pos {s : ByteArray} {p : Nat} (h : p < s.size) : 1 ≤ wdN s p ∧ wdN s p ≤ 4 ∧ p + wdN s p ≤ s.size := by
 have := dec_at s p h
 unfold wdN
 cases hd : Utf8.decode s p with
 | mk r w =>
  rw [hd] at this
  cases this with
  | rune _ _ h1 h2 h3 h4 h5 h6 h7 => exact ⟨h5, h6, h7⟩
  | lost h1 h2 => exact ⟨by simp, by simp, h1⟩
  | broken h0 h1 => exact ⟨by simp, by simp, h0⟩
theorem plB_lt {s : ByteArray} {p : Nat} (h : plB s p = true) : p < s.size := (of_decide_eq_true h).1
inductive Res (α : Type) where
 | ok (a : α) (p : Nat)
 | bad (e : Int) (p : Nat)
def piecesR (s : ByteArray) (p : Nat) (acc : List One) : Res (List One) :=
 if h : plB s p = true then
  if acc.length = 64 then .bad 3 p else piecesR s (p + wdN s p) (acc ++ [oneAt s p])
 else if acc.length = 0 then .bad 90 p else .ok acc p
termination_by s.size - p
decreasing_by
 have h1 := plB_lt h
 have h2 := wdN_pos h1
 omega
def byteN (s : ByteArray) (p : Nat) : Nat := (s.get! p).toNat
def itemsR (said : Nat → Bool) (s : ByteArray) (p : Nat) (acc : List Item) : Res (List Item) :=
 if h : nameB s p = true then
  if said (byteN s p - 65) = false then .bad 92 p
  else if acc.length = 64 then .bad 3 p else itemsR said s (p + 1) (acc ++ [⟨byteN s p, One.none⟩])
 else if h' : plB s p = true then
  if acc.length = 64 then .bad 3 p else itemsR said s (p + wdN s p) (acc ++ [⟨0, oneAt s p⟩])
 else .ok acc p
termination_by s.size - p
decreasing_by
 ·have h1 := (of_decide_eq_true h).1
  omega
 ·have h1 := plB_lt h'
  have h2 := wdN_pos h1
  omega
def mustR (s : ByteArray) (p : Nat) (c : Nat) : Res Unit := if isB s p c then .ok () (p + 1) else .bad 90 p
def Res.bind {α β : Type} (x : Res α) (f : α → Nat → Res β) : Res β :=
 match x with
 | .ok a p => f a p
 | .bad e p => .bad e p
structure Ph where
 r : Nat
 long : Bool
 glide : Nat
deriving DecidableEq
def Ph.cells (x : Ph) : List Value := [.int .i32 x.r, .bool x.long, .int .i32 x.glide]
def Ph.val (x : Ph) : Value := .agg #[.int .i32 x.r, .bool x.long, .int .i32 x.glide]
structure Rl where
 line : ByteArray
 begins : Bool
 left : List Item
 body : List One
 right : List Item
 ends : Bool
 phones : List Ph
structure Rs where
 cls : Nat → Option (ByteArray × List One)
 rules : List Rl
def Rs.said (x : Rs) (n : Nat) : Bool := (x.cls n).isSome
def Rs.empty : Rs := ⟨fun _ => none, []⟩
def classR (x : Rs) (s : ByteArray) : Res (List One) :=
 if x.said (byteN s 0 - 65) then .bad 91 0
 else (mustR s 1 32).bind fun _ p => (mustR s p 61).bind fun _ p => (mustR s p 32).bind fun _ p =>
  (piecesR s p []).bind fun l p => if p < s.size then .bad 90 p else .ok l p
end Go.Proofs.YtieifhfgedoiaaaGreatDoor
