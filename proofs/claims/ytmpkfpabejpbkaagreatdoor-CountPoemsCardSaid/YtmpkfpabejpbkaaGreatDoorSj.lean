/- A scope, inside a fence or a round, out of which the run may jump ahead to one label. Conditions: those of each theorem. -/
import Derived.ScopeJumps
import Derived.OwnWalkIn
namespace Go.Proofs.YtmpkfpabejpbkaaGreatDoor
open Go
set_option linter.unusedVariables false
section
variable {F : Fence} {n : Nat} {P : Program} {b : Frame} {a : Act} {k : List Item} {cs : List Frame} {w : World} {Q : Exit → Act → World → Prop} {l : Nat} {J : Act → World → Prop}
theorem stepR_scope {c : Code} : step P (lone (b.atR a (.code (.scope c) :: k)) cs w) = .next (lone (b.atR a (.code c :: .inScope c :: k)) cs w) :=
  step_lone_go (by simp [stepG, stepG.exec, Frame.atR])
theorem stepR_inScope {c : Code} : step P (lone (b.atR a (.inScope c :: k)) cs w) = .next (lone (b.atR a k) cs w) :=
  step_lone_go (by simp [stepG, stepG.exec, Frame.atR])
theorem jump_normal : Exit.jump l J Q .normal a w = Q .normal a w := rfl
theorem jump_exit (id : Nat) : Exit.jump l J Q (.exit id) a w = Q (.exit id) a w := rfl
theorem jump_ret : Exit.jump l J Q .ret a w = Q .ret a w := rfl
theorem jump_panic (ch : List PanicEntry) : Exit.jump l J Q (.panic ch) a w = Q (.panic ch) a w := rfl
/-- what stands behind the label, from a frame on -/
structure AheadIn (F : Fence) (n : Nat) (P : Program) (rest : Code) (Q : Exit → Act → World → Prop) (a : Act) (w : World) : Prop where
  out : rest.wpIn F n P (Exit.noGoto Q) a w
theorem wpIn_scope_ahead {c rest : Code} (l : Nat) (hf : findLabel c l = some rest) (h : c.wpIn F n P (Exit.jump l (AheadIn F n P rest Q) Q) a w) : (Code.scope c).wpIn F n P Q a w := by
  intro b k cs hro hb hr
  have hg : gotoIn l (.inScope c :: k) = some (.code rest :: .inScope c :: k) := by simp [gotoIn, hf]
  have h0 : (lone (b.atR a (.code (.scope c) :: k)) cs w).fenced P F := fenced_calm hb hr rfl
  have close : ∀ (m : Machine) (e : Exit) (a₁ : Act) (w₁ : World), Exit.noGoto Q e a₁ w₁ → ArrivesIn (Machine.fenced P F) P m b (.inScope c :: k) cs e a₁ w₁ → ∃ e a' w', Q e a' w' ∧ ArrivesIn (Machine.fenced P F) P m b k cs e a' w' := by
    intro m e a₁ w₁ hq harr
    cases e with
    | normal => exact ⟨.normal, a₁, w₁, hq, StepsIn.trans harr (.one (fenced_calm hb hr rfl) stepR_inScope)⟩
    | exit id =>
      have hx : exitTo id (.inScope c :: k) = exitTo id k := by simp [exitTo]
      exact ⟨.exit id, a₁, w₁, hq, fun k' hk => harr.1 k' (by rw [hx]; exact hk), fun hr' hk => harr.2 hr' (by rw [hx]; exact hk)⟩
    | goto l' => exact hq.elim
    | ret => exact ⟨_, a₁, w₁, hq, harr⟩
    | panic ch => exact ⟨_, a₁, w₁, hq, harr⟩
    | outgrown => exact ⟨_, a₁, w₁, hq, harr⟩
  have front : ∀ {e : Exit} {a₁ : Act} {w₁ : World}, ArrivesIn (Machine.fenced P F) P (lone (b.atR a (.code c :: .inScope c :: k)) cs w) b k cs e a₁ w₁ → ArrivesIn (Machine.fenced P F) P (lone (b.atR a (.code (.scope c) :: k)) cs w) b k cs e a₁ w₁ :=
    fun h => .of_steps (.one h0 stepR_scope) h
  obtain ⟨e, a₁, w₁, hq, harr⟩ := h b (.inScope c :: k) cs hro hb hr
  cases e with
  | goto l' =>
    obtain ⟨rfl, hJ⟩ := hq
    obtain ⟨e₂, a₂, w₂, hq₂, harr₂⟩ := hJ.out b (.inScope c :: k) cs hro hb hr
    obtain ⟨e₃, a₃, w₃, hq₃, harr₃⟩ := close _ e₂ a₂ w₂ hq₂ harr₂
    exact ⟨e₃, a₃, w₃, hq₃, front (.of_steps (harr.1 _ hg) harr₃)⟩
  | normal => obtain ⟨e₃, a₃, w₃, hq₃, harr₃⟩ := close _ .normal a₁ w₁ hq harr; exact ⟨e₃, a₃, w₃, hq₃, front harr₃⟩
  | exit id => obtain ⟨e₃, a₃, w₃, hq₃, harr₃⟩ := close _ (.exit id) a₁ w₁ hq harr; exact ⟨e₃, a₃, w₃, hq₃, front harr₃⟩
  | ret => obtain ⟨e₃, a₃, w₃, hq₃, harr₃⟩ := close _ .ret a₁ w₁ hq harr; exact ⟨e₃, a₃, w₃, hq₃, front harr₃⟩
  | panic ch => obtain ⟨e₃, a₃, w₃, hq₃, harr₃⟩ := close _ (.panic ch) a₁ w₁ hq harr; exact ⟨e₃, a₃, w₃, hq₃, front harr₃⟩
  | outgrown => obtain ⟨e₃, a₃, w₃, hq₃, harr₃⟩ := close _ .outgrown a₁ w₁ hq harr; exact ⟨e₃, a₃, w₃, hq₃, front harr₃⟩
end
end Go.Proofs.YtmpkfpabejpbkaaGreatDoor
