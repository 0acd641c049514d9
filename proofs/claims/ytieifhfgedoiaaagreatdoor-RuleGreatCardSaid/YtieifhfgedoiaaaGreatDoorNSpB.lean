/- What a text of rules says, in plain Lean: phones, a rule's line, a text. No program in sight. Conditions: those of each theorem. -/
import Derived.Test.YtieifhfgedoiaaaGreatDoorNRdG
namespace Go.Proofs.YtieifhfgedoiaaaGreatDoor
open Go.RowKit Go.Lib
set_option linter.unusedVariables false
set_option linter.unusedSimpArgs false
structure Tr where
  vowel : Bool
  height : Nat
  back : Nat
  round : Bool
  place : Nat
  manner : Nat
  voiced : Bool
deriving DecidableEq
def Tr.cells (t : Tr) : List Value := [.bool t.vowel, .int .i64 t.height, .int .i64 t.back, .bool t.round, .int .i64 t.place, .int .i64 t.manner, .bool t.voiced]
def Tr.val (t : Tr) : Value := .agg #[.bool t.vowel, .int .i64 t.height, .int .i64 t.back, .bool t.round, .int .i64 t.place, .int .i64 t.manner, .bool t.voiced]
def Tr.none : Tr := ⟨false, 0, 0, false, 0, 0, false⟩
def vow (h b : Nat) (r : Bool) : Tr := ⟨true, h, b, r, 0, 0, false⟩
def con (p m : Nat) (v : Bool) : Tr := ⟨false, 0, 0, false, p, m, v⟩
structure Row where
  r : Nat
  t : Tr
deriving DecidableEq
def Row.cells (x : Row) : List Value := .int .i32 x.r :: x.t.cells
def Row.val (x : Row) : Value := .agg #[.int .i32 x.r, .bool x.t.vowel, .int .i64 x.t.height, .int .i64 x.t.back, .bool x.t.round, .int .i64 x.t.place, .int .i64 x.t.manner, .bool x.t.voiced]
def rows0 : List Row :=
  [⟨105, vow 6 0 false⟩, ⟨121, vow 6 0 true⟩, ⟨117, vow 6 2 true⟩, ⟨101, vow 4 0 false⟩, ⟨248, vow 4 0 true⟩, ⟨111, vow 4 2 true⟩,
   ⟨601, vow 3 1 false⟩, ⟨603, vow 2 0 false⟩, ⟨596, vow 2 2 true⟩, ⟨230, vow 1 0 false⟩, ⟨97, vow 0 1 false⟩, ⟨593, vow 0 2 false⟩,
   ⟨112, con 0 0 false⟩, ⟨98, con 0 0 true⟩, ⟨116, con 2 0 false⟩, ⟨100, con 2 0 true⟩, ⟨107, con 5 0 false⟩, ⟨103, con 5 0 true⟩, ⟨660, con 6 0 false⟩,
   ⟨679, con 3 1 false⟩, ⟨676, con 3 1 true⟩,
   ⟨102, con 0 2 false⟩, ⟨118, con 0 2 true⟩, ⟨952, con 1 2 false⟩, ⟨240, con 1 2 true⟩, ⟨115, con 2 2 false⟩, ⟨122, con 2 2 true⟩,
   ⟨643, con 3 2 false⟩, ⟨658, con 3 2 true⟩, ⟨120, con 5 2 false⟩, ⟨104, con 6 2 false⟩,
   ⟨109, con 0 3 true⟩, ⟨110, con 2 3 true⟩, ⟨331, con 5 3 true⟩, ⟨108, con 2 4 true⟩, ⟨114, con 3 4 true⟩, ⟨119, con 0 5 true⟩, ⟨106, con 4 5 true⟩]
def trIn (l : List Row) (r : Nat) : Option Tr := (l.find? fun x => x.r == r).map (·.t)
def trOf (r : Nat) : Option Tr := trIn rows0 r
def stB (s : ByteArray) (p : Nat) (t : List UInt8) : Bool := decide (p + t.length ≤ s.size) && ((s.extract p (p + t.length)).toList == t)
def phAt (s : ByteArray) (p : Nat) : Option (Ph × Nat) :=
  match trOf (rnN s p) with
  | none => none
  | some t =>
    let l := stB s (p + wdN s p) [203, 144]
    let n := if l then wdN s p + 2 else wdN s p
    if t.vowel = false then some (⟨rnN s p, l, 0⟩, n)
    else if stB s (p + n) [105, 204, 175] then some (⟨rnN s p, l, 105⟩, n + 3)
    else if stB s (p + n) [117, 204, 175] then some (⟨rnN s p, l, 117⟩, n + 3)
    else some (⟨rnN s p, l, 0⟩, n)
def phsR (s : ByteArray) (p : Nat) (acc : List (Ph × Nat)) : List (Ph × Nat) × Nat :=
  if h : p < s.size then
    match phAt s p with
    | none => (acc, p)
    | some (x, n) => if 0 < n then phsR s (p + n) (acc ++ [(x, p)]) else (acc, p)
  else (acc, p)
termination_by s.size - p
decreasing_by omega
def phR (s : ByteArray) (p : Nat) : Res (List Ph) :=
  let r := phsR s p []
  match r.1[128]? with
  | some x => .bad 3 x.2
  | none => if r.2 < s.size then .bad 80 r.2 else .ok (r.1.map (·.1)) r.2
def hashR (s : ByteArray) (p : Nat) : Bool × Nat := if isB s p 35 then (true, p + 1) else (false, p)
def saysR (s : ByteArray) (p : Nat) : Res (List Ph) :=
  if p = s.size then .ok [] p
  else (mustR s p 32).bind fun _ p => if p = s.size then .bad 90 p else phR s p
def partsR (said : Nat → Bool) (s : ByteArray) : Res Rl :=
  (itemsR said s (hashR s 0).2 []).bind fun l p => (bodyR s p).bind fun u p => (itemsR said s p []).bind fun r p =>
    (mustR s (hashR s p).2 32).bind fun _ q => (mustR s q 62).bind fun _ q => (saysR s q).bind fun x q =>
      .ok ⟨s, (hashR s 0).1, l, u, r, (hashR s p).1, x⟩ q
inductive Out where
  | ok (x : Rs)
  | bad (e : Int) (p : Nat)
def Rs.addC (x : Rs) (s : ByteArray) (l : List One) : Rs := ⟨fun n => if n = byteN s 0 - 65 then some (s, l) else x.cls n, x.rules⟩
def Rs.addR (x : Rs) (u : Rl) : Rs := ⟨x.cls, x.rules ++ [u]⟩
def ruleR (x : Rs) (s : ByteArray) : Out :=
  match partsR x.said s with
  | .ok u _ => if x.rules.length = 256 then .bad 3 0 else .ok (x.addR u)
  | .bad e p => if x.rules.length = 256 ∧ 0 < p then .bad 3 0 else .bad e p
def clsR (x : Rs) (s : ByteArray) : Out :=
  match classR x s with
  | .ok l _ => .ok (x.addC s l)
  | .bad e p => .bad e p
def isC (s : ByteArray) : Bool := decide (1 < s.size ∧ 65 ≤ byteN s 0 ∧ byteN s 0 ≤ 90 ∧ byteN s 1 = 32)
def lineR (x : Rs) (s : ByteArray) : Out :=
  if s.size = 0 ∨ byteN s 0 = 59 then .ok x else if isC s then clsR x s else ruleR x s
def linesR (x : Rs) (p : Nat) : List ByteArray → Out
  | [] => .ok x
  | s :: r => match lineR x s with
    | .ok y => linesR y (p + s.size + 1) r
    | .bad e q => .bad e (p + q)
end Go.Proofs.YtieifhfgedoiaaaGreatDoor
