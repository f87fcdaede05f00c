/- A law of control: a scope with one label that is jumped back to. No program. -/
import Derived.Scope
import Derived.WalkMore
import Derived.Tactics
import Derived.ScopeJumps
namespace Go.Proofs.Herb
section
variable {P : Program} {a : Act} {w : World} {Q : Exit → Act → World → Prop}
/-- as Q; by a goto to label l: J; by another: no way out -/
def jump1 (l : Nat) (J : Act → World → Prop) (Q : Exit → Act → World → Prop) : Exit → Act → World → Prop
  | .goto l', a, w => l' = l ∧ J a w
  | e, a, w => Q e a w
section
variable {l : Nat} {J : Act → World → Prop}
@[go_sem] theorem jump1_normal : jump1 l J Q .normal a w = Q .normal a w := rfl
@[go_sem] theorem jump1_exit (id : Nat) : jump1 l J Q (.exit id) a w = Q (.exit id) a w := rfl
@[go_sem] theorem jump1_ret : jump1 l J Q .ret a w = Q .ret a w := rfl
@[go_sem] theorem jump1_panic (ch : List PanicEntry) : jump1 l J Q (.panic ch) a w = Q (.panic ch) a w := rfl
theorem jump1_mono {J' : Act → World → Prop} (h : ∀ a w, J a w → J' a w) (e : Exit) (a : Act) (w : World) (hq : jump1 l J Q e a w) : jump1 l J' Q e a w := by
  cases e with
  | goto l' => exact ⟨hq.1, h _ _ hq.2⟩
  | _ => exact hq
end
/-- a scope in which the run jumps back to one label; the way to the label is walked once -/
theorem wp_scope_jumps1 {c B : Code} (l : Nat) (J : Act → World → Prop) (μ : Act → World → Nat) (hf : findLabel c l = some (Code.skip.seq B))
    (pass0 : ∀ a w, J a w → B.wp P (jump1 l (fun a' w' => J a' w' ∧ μ a' w' < μ a w) Q) a w)
    (first : (∀ a w, J a w → B.wp P (jump1 l J Q) a w) → c.wp P (jump1 l J Q) a w) : (Code.scope c).wp P Q a w := by
  have pass : ∀ a w, J a w → (Code.skip.seq B).wp P (jump1 l (fun a' w' => J a' w' ∧ μ a' w' < μ a w) Q) a w := fun a w h => wp_seq (wp_skip (pass0 a w h))
  intro b k cs
  have hg : gotoIn l (.inScope c :: k) = some (.code (Code.skip.seq B) :: .inScope c :: k) := by simp [gotoIn, hf]
  have key : ∀ n a w, μ a w = n → J a w → ∃ e a' w', Q e a' w' ∧ Arrives P (lone (b.at a (.code (Code.skip.seq B) :: .inScope c :: k)) cs w) b k cs e a' w' := by
    intro n
    induction n using Nat.strongRecOn with
    | _ n ih =>
      intro a w hn hJ
      obtain ⟨e, a₁, w₁, hq, harr⟩ := pass a w hJ b (.inScope c :: k) cs
      cases e with
      | normal => exact ⟨.normal, a₁, w₁, hq, Steps.trans harr (.one step_inScope)⟩
      | exit id => exact ⟨.exit id, a₁, w₁, hq, fun k' hk => harr k' (by simp [exitTo, hk])⟩
      | goto l' =>
        obtain ⟨rfl, hJ', hlt⟩ := hq
        obtain ⟨e₂, a₂, w₂, hq₂, harr₂⟩ := ih _ (by omega) a₁ w₁ rfl hJ'
        exact ⟨e₂, a₂, w₂, hq₂, .of_steps (harr _ hg) harr₂⟩
      | ret => exact ⟨_, a₁, w₁, hq, harr⟩
      | panic ch => exact ⟨_, a₁, w₁, hq, harr⟩
      | outgrown => exact ⟨_, a₁, w₁, hq, harr⟩
  obtain ⟨e, a₁, w₁, hq, harr⟩ := first (fun a w hJ => Code.wp_mono (jump1_mono fun _ _ h => h.1) (pass0 a w hJ)) b (.inScope c :: k) cs
  cases e with
  | normal => exact ⟨.normal, a₁, w₁, hq, .head step_scope (Steps.trans harr (.one step_inScope))⟩
  | exit id => exact ⟨.exit id, a₁, w₁, hq, fun k' hk => .head step_scope (harr k' (by simp [exitTo, hk]))⟩
  | goto l' =>
    obtain ⟨rfl, hJ'⟩ := hq
    obtain ⟨e₂, a₂, w₂, hq₂, harr₂⟩ := key _ a₁ w₁ rfl hJ'
    exact ⟨e₂, a₂, w₂, hq₂, .of_steps (.head step_scope (harr _ hg)) harr₂⟩
  | ret => exact ⟨_, a₁, w₁, hq, .of_steps (.one step_scope) harr⟩
  | panic ch => exact ⟨_, a₁, w₁, hq, .of_steps (.one step_scope) harr⟩
  | outgrown => exact ⟨_, a₁, w₁, hq, .of_steps (.one step_scope) harr⟩
end
end Go.Proofs.Herb
