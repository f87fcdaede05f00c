/- A law of control: a scope with a label that is jumped back to and another one. No program. -/
import Derived.Scope
import Derived.WalkMore
import Derived.Tactics
namespace Go.Proofs.Herb
/-- as Q; by a goto to label l: J; to label r: R; by another: no way out -/
def jump2 (l r : Nat) (J R : Act → World → Prop) (Q : Exit → Act → World → Prop) : Exit → Act → World → Prop
  | .goto l', a, w => (l' = l ∧ J a w) ∨ (l' = r ∧ R a w)
  | e, a, w => Q e a w
section
variable {l r : Nat} {J R : Act → World → Prop} {Q : Exit → Act → World → Prop} {a : Act} {w : World}
@[go_sem] theorem jump2_normal : jump2 l r J R Q .normal a w = Q .normal a w := rfl
@[go_sem] theorem jump2_exit (id : Nat) : jump2 l r J R Q (.exit id) a w = Q (.exit id) a w := rfl
@[go_sem] theorem jump2_ret : jump2 l r J R Q .ret a w = Q .ret a w := rfl
@[go_sem] theorem jump2_panic (ch : List PanicEntry) : jump2 l r J R Q (.panic ch) a w = Q (.panic ch) a w := rfl
theorem jump2_mono {J' : Act → World → Prop} (h : ∀ a w, J a w → J' a w) (e : Exit) (a : Act) (w : World) (hq : jump2 l r J R Q e a w) : jump2 l r J' R Q e a w := by
  cases e with
  | goto l' => exact hq.imp (fun h1 => ⟨h1.1, h _ _ h1.2⟩) id
  | _ => exact hq
end
section
variable {P : Program} {a : Act} {w : World} {Q : Exit → Act → World → Prop}
/-- a scope in which the run jumps back to one label, and on to another one -/
theorem wp_scope_jumps2 {c B S : Code} (l r : Nat) (J R : Act → World → Prop) (μ : Act → World → Nat) (hf : findLabel c l = some (Code.skip.seq B)) (hr : findLabel c r = some (Code.skip.seq S))
    (pass0 : ∀ a w, J a w → B.wp P (jump2 l r (fun a' w' => J a' w' ∧ μ a' w' < μ a w) R Q) a w)
    (halt0 : ∀ a w, R a w → S.wp P (Exit.noGoto Q) a w)
    (first : (∀ a w, J a w → B.wp P (jump2 l r J R Q) a w) → c.wp P (jump2 l r J R Q) a w) : (Code.scope c).wp P Q a w := by
  have pass : ∀ a w, J a w → (Code.skip.seq B).wp P (jump2 l r (fun a' w' => J a' w' ∧ μ a' w' < μ a w) R Q) a w := fun a w h => wp_seq (wp_skip (pass0 a w h))
  have halt : ∀ a w, R a w → (Code.skip.seq S).wp P (Exit.noGoto Q) a w := fun a w h => wp_seq (wp_skip (halt0 a w h))
  intro b k cs
  have hg : gotoIn l (.inScope c :: k) = some (.code (Code.skip.seq B) :: .inScope c :: k) := by simp [gotoIn, hf]
  have hg2 : gotoIn r (.inScope c :: k) = some (.code (Code.skip.seq S) :: .inScope c :: k) := by simp [gotoIn, hr]
  have last : ∀ a w, R a w → ∃ e a' w', Q e a' w' ∧ Arrives P (lone (b.at a (.code (Code.skip.seq S) :: .inScope c :: k)) cs w) b k cs e a' w' := by
    intro a w hR
    obtain ⟨e, a₁, w₁, hq, harr⟩ := halt a w hR b (.inScope c :: k) cs
    cases e with
    | normal => exact ⟨.normal, a₁, w₁, hq, Steps.trans harr (.one step_inScope)⟩
    | exit id => exact ⟨.exit id, a₁, w₁, hq, fun k' hk => harr k' (by simp [exitTo, hk])⟩
    | goto l' => exact hq.elim
    | ret => exact ⟨_, a₁, w₁, hq, harr⟩
    | panic ch => exact ⟨_, a₁, w₁, hq, harr⟩
    | outgrown => exact ⟨_, a₁, w₁, hq, harr⟩
  have key : ∀ n a w, μ a w = n → J a w → ∃ e a' w', Q e a' w' ∧ Arrives P (lone (b.at a (.code (Code.skip.seq B) :: .inScope c :: k)) cs w) b k cs e a' w' := by
    intro n
    induction n using Nat.strongRecOn with
    | _ n ih =>
      intro a w hn hJ
      obtain ⟨e, a₁, w₁, hq, harr⟩ := pass a w hJ b (.inScope c :: k) cs
      cases e with
      | normal => exact ⟨.normal, a₁, w₁, hq, Steps.trans harr (.one step_inScope)⟩
      | exit id => exact ⟨.exit id, a₁, w₁, hq, fun k' hk => harr k' (by simp [exitTo, hk])⟩
      | goto l' =>
        rcases hq with ⟨rfl, hJ', hlt⟩ | ⟨rfl, hR'⟩
        · obtain ⟨e₂, a₂, w₂, hq₂, harr₂⟩ := ih _ (by omega) a₁ w₁ rfl hJ'
          exact ⟨e₂, a₂, w₂, hq₂, .of_steps (harr _ hg) harr₂⟩
        · obtain ⟨e₂, a₂, w₂, hq₂, harr₂⟩ := last a₁ w₁ hR'
          exact ⟨e₂, a₂, w₂, hq₂, .of_steps (harr _ hg2) harr₂⟩
      | ret => exact ⟨_, a₁, w₁, hq, harr⟩
      | panic ch => exact ⟨_, a₁, w₁, hq, harr⟩
      | outgrown => exact ⟨_, a₁, w₁, hq, harr⟩
  obtain ⟨e, a₁, w₁, hq, harr⟩ := first (fun a w hJ => Code.wp_mono (jump2_mono fun _ _ h => h.1) (pass0 a w hJ)) b (.inScope c :: k) cs
  cases e with
  | normal => exact ⟨.normal, a₁, w₁, hq, .head step_scope (Steps.trans harr (.one step_inScope))⟩
  | exit id => exact ⟨.exit id, a₁, w₁, hq, fun k' hk => .head step_scope (harr k' (by simp [exitTo, hk]))⟩
  | goto l' =>
    rcases hq with ⟨rfl, hJ'⟩ | ⟨rfl, hR'⟩
    · obtain ⟨e₂, a₂, w₂, hq₂, harr₂⟩ := key _ a₁ w₁ rfl hJ'
      exact ⟨e₂, a₂, w₂, hq₂, .of_steps (.head step_scope (harr _ hg)) harr₂⟩
    · obtain ⟨e₂, a₂, w₂, hq₂, harr₂⟩ := last a₁ w₁ hR'
      exact ⟨e₂, a₂, w₂, hq₂, .of_steps (.head step_scope (harr _ hg2)) harr₂⟩
  | ret => exact ⟨_, a₁, w₁, hq, .of_steps (.one step_scope) harr⟩
  | panic ch => exact ⟨_, a₁, w₁, hq, .of_steps (.one step_scope) harr⟩
  | outgrown => exact ⟨_, a₁, w₁, hq, .of_steps (.one step_scope) harr⟩
end
end Go.Proofs.Herb
