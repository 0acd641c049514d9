/- The laws of Qt and Qf on a region that draws its order, their goals kept behind a structure: Lean brings the type of a hole to head form, and a bare `wpQuiet ..` would run the rest of the region there. Conditions: those of each theorem. -/
import Derived.Test.YtmpkfpabejpbkaaGreatDoorCQf
namespace Go.Proofs.YtmpkfpabejpbkaaGreatDoor.C
open Go Go.RowKit
set_option linter.unusedVariables false
structure Box (p : Prop) : Prop where
  out : p
section
variable {P : Program} {ops : Array Oper} {C : World → Prop} {Q : Act → Prop} {a : Act}
theorem bq_step {o : Oper} {rest : List Oper} (h : ∀ K : Act → Prop, (∀ a, Box (wpQuiet P ops C Q rest a) → K a) → Box (if Region.wanted o (yielded ops a.tmps) then o.quiet P a C K else K (a.put o.dst undef))) : Box (wpQuiet P ops C Q (o :: rest) a) :=
  ⟨wpQuiet_step fun K hK => (h K (fun a hb => hK a hb.out)).out⟩
theorem bq_nil (h : Q a) : Box (wpQuiet P ops C Q [] a) := ⟨h⟩
end
theorem ext_tailB {P : Program} {id : Nat} {Q : Exit → Act → World → Prop} {a : Act} {w : World} {l : List Oper} (n : Nat) (hm : P.follows .mixedOrders = true) (hB : Region.lexTailB .any l.toArray n = true)
    (h : Box (wpQuiet P l.toArray (fun w' => ∃ x : Ext w, w' = x.w) (fun a' => ∀ w', (∃ x : Ext w, w' = x.w) → wpList P l.toArray Q (l.drop n) a' w') (l.take n) a)) : (Code.region id l.toArray true).wp P Q a w := ext_tail n hm hB h.out
theorem ext_allB {P : Program} {id : Nat} {Q : Exit → Act → World → Prop} {a : Act} {w : World} {l : List Oper} (hm : P.follows .mixedOrders = true) (hB : Region.lexB .any l.toArray = true)
    (h : Box (wpQuiet P l.toArray (fun w' => ∃ x : Ext w, w' = x.w) (fun a' => ∀ w', (∃ x : Ext w, w' = x.w) → Q .normal a' w') l a)) : (Code.region id l.toArray true).wp P Q a w := ext_all hm hB h.out
theorem ext_tailInB {P : Program} {F : Fence} {m : Nat} {id : Nat} {Q : Exit → Act → World → Prop} {a : Act} {w : World} {l : List Oper} (n : Nat) (hm : P.follows .mixedOrders = true) (hF : WideF P F m) (hd : noDefer l = true) (hB : Region.lexTailB .any l.toArray n = true)
    (h : Box (wpQuiet P l.toArray (fun w' => ∃ x : Ext w, w' = x.w) (fun a' => ∀ w', (∃ x : Ext w, w' = x.w) → wpListIn F m P l.toArray Q (l.drop n) a' w') (l.take n) a)) : (Code.region id l.toArray true).wpIn F m P Q a w := ext_tailIn n hm hF hd hB h.out
theorem ext_allInB {P : Program} {F : Fence} {m : Nat} {id : Nat} {Q : Exit → Act → World → Prop} {a : Act} {w : World} {l : List Oper} (hm : P.follows .mixedOrders = true) (hF : WideF P F m) (hd : noDefer l = true) (hB : Region.lexB .any l.toArray = true)
    (h : Box (wpQuiet P l.toArray (fun w' => ∃ x : Ext w, w' = x.w) (fun a' => ∀ w', (∃ x : Ext w, w' = x.w) → Q .normal a' w') l a)) : (Code.region id l.toArray true).wpIn F m P Q a w := ext_allIn hm hF hd hB h.out
/-- the same over worlds that only draw -/
theorem draw_allB {P : Program} {id : Nat} {Q : Exit → Act → World → Prop} {a : Act} {w : World} {l : List Oper} (hm : P.follows .mixedOrders = true) (hB : Region.lexB .any l.toArray = true)
    (h : Box (wpQuiet P l.toArray (fun w' => ∃ n, w' = w.drewN n) (fun a' => ∀ w', (∃ n, w' = w.drewN n) → Q .normal a' w') l a)) : (Code.region id l.toArray true).wp P Q a w := wp_region_quiet_lit hm hB h.out
theorem draw_allInB {P : Program} {F : Fence} {m : Nat} {id : Nat} {Q : Exit → Act → World → Prop} {a : Act} {w : World} {l : List Oper} (hm : P.follows .mixedOrders = true) (hF : WideF P F m) (hd : noDefer l = true) (hB : Region.lexB .any l.toArray = true)
    (h : Box (wpQuiet P l.toArray (fun w' => ∃ n, w' = w.drewN n) (fun a' => ∀ w', (∃ n, w' = w.drewN n) → Q .normal a' w') l a)) : (Code.region id l.toArray true).wpIn F m P Q a w := quiet_allIn hm hF hd hB ⟨1, rfl⟩ h.out
end Go.Proofs.YtmpkfpabejpbkaaGreatDoor.C
