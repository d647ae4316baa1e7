/-
  Labels inside a fence: a scope whose run may jump to its own labels, walked with 'wpIn'; and the two small steps of a scope.
  Conditions: none beyond those that each lemma states.
-/
import Derived.ControlIn
import Derived.ScopeJumps
import Derived.WalkMore
namespace Go.Proofs.YtfbkhendpbhfcaaDoor
open Go

section steps
variable {P : Program} {b : Frame} {a : Act} {k : List Item} {cs : List Frame} {w : World}
theorem stepR_scope {c : Code} : step P (lone (b.atR a (.code (.scope c) :: k)) cs w) = .next (lone (b.atR a (.code c :: .inScope c :: k)) cs w) :=
  step_lone_go (by simp [stepG, stepG.exec, Frame.atR])
theorem stepR_inScope {c : Code} : step P (lone (b.atR a (.inScope c :: k)) cs w) = .next (lone (b.atR a k) cs w) :=
  step_lone_go (by simp [stepG, stepG.exec, Frame.atR])
end steps

/-- As Q; a goto to label l asks J l. -/
def jumps (J : Nat → Act → World → Prop) (Q : Exit → Act → World → Prop) : Exit → Act → World → Prop
  | .goto l, a, w => J l a w
  | e, a, w => Q e a w
section
variable {J : Nat → Act → World → Prop} {Q : Exit → Act → World → Prop} {a : Act} {w : World}
theorem jumps_normal : jumps J Q .normal a w = Q .normal a w := rfl
theorem jumps_exit (id : Nat) : jumps J Q (.exit id) a w = Q (.exit id) a w := rfl
theorem jumps_ret : jumps J Q .ret a w = Q .ret a w := rfl
theorem jumps_goto (l : Nat) : jumps J Q (.goto l) a w = J l a w := rfl
theorem jumps_panic (ch : List PanicEntry) : jumps J Q (.panic ch) a w = Q (.panic ch) a w := rfl
end
attribute [go_sem] jumps_normal jumps_exit jumps_ret jumps_goto jumps_panic

section
variable {F : Fence} {n : Nat} {P : Program} {a : Act} {w : World} {Q : Exit → Act → World → Prop}

/-- A scope with its labels, inside a fence: what holds at each jump, and a measure that each pass lowers. -/
theorem wpIn_scope_labels {c : Code} (J : Nat → Act → World → Prop) (μ : Nat → Act → World → Nat)
    (first : c.wpIn F n P (jumps J Q) a w)
    (pass : ∀ l a w, J l a w → ∃ rest, findLabel c l = some rest ∧ rest.wpIn F n P (jumps (fun l' a' w' => J l' a' w' ∧ μ l' a' w' < μ l a w) Q) a w) :
    (Code.scope c).wpIn F n P Q a w := by
  intro b k cs hro hb hr
  have h0 : (lone (b.atR a (.code (.scope c) :: k)) cs w).fenced P F := fenced_calm hb hr rfl
  have hx : ∀ id, exitTo id (.inScope c :: k) = exitTo id k := fun id => by simp [exitTo]
  have leave : ∀ (e : Exit) (m : Machine) (a' : Act) (w' : World), (∀ l, e ≠ .goto l) → ArrivesIn (Machine.fenced P F) P m b (.inScope c :: k) cs e a' w' → ArrivesIn (Machine.fenced P F) P m b k cs e a' w' := by
    intro e m a' w' hg h
    cases e with
    | normal => exact StepsIn.trans h (.one (fenced_calm hb hr rfl) stepR_inScope)
    | exit id => exact ⟨fun k' hk => h.1 k' (by rw [hx]; exact hk), fun hr' hk => h.2 hr' (by rw [hx]; exact hk)⟩
    | goto l => exact absurd rfl (hg l)
    | ret => exact h
    | panic ch => exact h
    | outgrown => exact h
  have key : ∀ j l a w rest, μ l a w = j → J l a w → findLabel c l = some rest →
      ∃ e a' w', Q e a' w' ∧ ArrivesIn (Machine.fenced P F) P (lone (b.atR a (.code rest :: .inScope c :: k)) cs w) b k cs e a' w' := by
    intro j
    induction j using Nat.strongRecOn with
    | _ j ih =>
      intro l a w rest hn hJ hl
      obtain ⟨rest', hl', hp⟩ := pass l a w hJ
      rw [hl] at hl'
      cases hl'
      obtain ⟨e, a₁, w₁, hq, harr⟩ := hp b (.inScope c :: k) cs hro hb hr
      cases e with
      | goto l₁ =>
        obtain ⟨hJ₁, hlt⟩ := hq
        obtain ⟨rest₁, hl₁, -⟩ := pass l₁ a₁ w₁ hJ₁
        obtain ⟨e₂, a₂, w₂, hq₂, harr₂⟩ := ih _ (by omega) l₁ a₁ w₁ rest₁ rfl hJ₁ hl₁
        exact ⟨e₂, a₂, w₂, hq₂, .of_steps (harr.1 _ (by simp [gotoIn, hl₁])) harr₂⟩
      | normal => exact ⟨_, a₁, w₁, hq, leave _ _ _ _ (fun _ h => by cases h) harr⟩
      | exit id => exact ⟨_, a₁, w₁, hq, leave _ _ _ _ (fun _ h => by cases h) harr⟩
      | ret => exact ⟨_, a₁, w₁, hq, leave _ _ _ _ (fun _ h => by cases h) harr⟩
      | panic ch => exact ⟨_, a₁, w₁, hq, leave _ _ _ _ (fun _ h => by cases h) harr⟩
      | outgrown => exact ⟨_, a₁, w₁, hq, leave _ _ _ _ (fun _ h => by cases h) harr⟩
  obtain ⟨e, a₁, w₁, hq, harr⟩ := first b (.inScope c :: k) cs hro hb hr
  cases e with
  | goto l₁ =>
    obtain ⟨rest₁, hl₁, -⟩ := pass l₁ a₁ w₁ hq
    obtain ⟨e₂, a₂, w₂, hq₂, harr₂⟩ := key _ l₁ a₁ w₁ rest₁ rfl hq hl₁
    exact ⟨e₂, a₂, w₂, hq₂, .of_steps (.one h0 stepR_scope) (.of_steps (harr.1 _ (by simp [gotoIn, hl₁])) harr₂)⟩
  | normal => exact ⟨_, a₁, w₁, hq, .of_steps (.one h0 stepR_scope) (leave _ _ _ _ (fun _ h => by cases h) harr)⟩
  | exit id => exact ⟨_, a₁, w₁, hq, .of_steps (.one h0 stepR_scope) (leave _ _ _ _ (fun _ h => by cases h) harr)⟩
  | ret => exact ⟨_, a₁, w₁, hq, .of_steps (.one h0 stepR_scope) (leave _ _ _ _ (fun _ h => by cases h) harr)⟩
  | panic ch => exact ⟨_, a₁, w₁, hq, .of_steps (.one h0 stepR_scope) (leave _ _ _ _ (fun _ h => by cases h) harr)⟩
  | outgrown => exact ⟨_, a₁, w₁, hq, .of_steps (.one h0 stepR_scope) (leave _ _ _ _ (fun _ h => by cases h) harr)⟩

/-- The same outside of every fence. -/
theorem wp_scope_labels {c : Code} (J : Nat → Act → World → Prop) (μ : Nat → Act → World → Nat)
    (first : c.wp P (jumps J Q) a w)
    (pass : ∀ l a w, J l a w → ∃ rest, findLabel c l = some rest ∧ rest.wp P (jumps (fun l' a' w' => J l' a' w' ∧ μ l' a' w' < μ l a w) Q) a w) :
    (Code.scope c).wp P Q a w :=
  (wpIn_wide (n := 0)).1 (wpIn_scope_labels J μ ((wpIn_wide (n := 0)).2 first)
    (fun l a w h => let ⟨rest, hl, hp⟩ := pass l a w h; ⟨rest, hl, (wpIn_wide (n := 0)).2 hp⟩))
end
end Go.Proofs.YtfbkhendpbhfcaaDoor
