/- A region that defers nothing is walked in a round as outside of one. -/
import Derived.Test.YtljdlilcpcokhaaDoorSti
import Derived.RegionIn
namespace Go
section
variable {F : Fence} {n : Nat} {P : Program} {ops : Array Oper} {Q : Exit → Act → World → Prop} {md : Region.Mode}
/-- no operation of it is a defer statement -/
def Region.noDefer (ops : Array Oper) : Bool := ops.all fun o => match o.op with | .defer _ => false | _ => true
theorem uponIn_inRound (l : Nat) (o : Oper) (a : Act) (next : Act → World → Prop) (r : Result Next) (h : o.uponIn F n P a next Q r) : o.uponIn (F.inRound l) n P a next Q r := by
  cases r with
  | ok x w => cases x <;> exact h
  | halt x w => cases x <;> exact h
theorem wpOpIn_inRound (l : Nat) (hF : F.round = none) (hnd : Region.noDefer ops = true) {i : Nat} {K : Act → World → Prop} {a : Act} {w : World} (h : wpOpIn F n P ops Q i K a w) : wpOpIn (F.inRound l) n P ops Q i K a w := by
  unfold wpOpIn at *
  cases ho : ops[i]? with
  | none => simp only [ho] at h ⊢; exact h
  | some o =>
    simp only [ho] at h ⊢
    by_cases hw : Region.wanted o (yielded ops a.tmps) = true
    · rw [if_pos hw] at h ⊢
      refine ⟨h.1, ?_⟩
      have h2 := h.2
      rw [hF, Oper.semAt_none] at h2
      rw [Oper.semAt_eq _ _ _ (fun c hc => by
        have := Array.all_eq_true'.1 hnd o (Array.mem_of_getElem? ho)
        simp [hc] at this)]
      exact uponIn_inRound l _ _ _ _ h2
    · rw [if_neg hw] at h ⊢
      exact h
theorem wpAnyIn_inRound (l : Nat) (hF : F.round = none) (hnd : Region.noDefer ops = true) : ∀ (fuel : Nat) (listed : Array Bool) (a : Act) (w : World), wpAnyIn F n P md ops Q fuel listed a w → wpAnyIn (F.inRound l) n P md ops Q fuel listed a w
  | 0, _, _, _, h => h
  | fuel + 1, _, _, _, h => ⟨h.1, fun i hi => wpOpIn_inRound l hF hnd (wpOpIn_mono (fun a' w' => wpAnyIn_inRound l hF hnd fuel _ a' w') (h.2 i hi))⟩
theorem wpIn_region_round {id l : Nat} {a : Act} {w : World} (hF : F.round = none) (hm : P.follows .mixedOrders = true) (hnd : Region.noDefer ops = true)
    (h : wpAnyIn F n P .any ops Q ops.size (Array.replicate ops.size false) a { w with drawn := w.drawn + 1 }) : (Code.region id ops true).wpIn (F.inRound l) n P Q a w :=
  wpIn_region_any hm (wpAnyIn_inRound l hF hnd _ _ _ _ h)
end
/-- a postcondition whose panic is out of the question: a 'take' then asks nothing of it -/
def calmQ (Q : Exit → Act → World → Prop) : Exit → Act → World → Prop := fun e a w => match e with
  | .panic _ => False
  | e => Q e a w
theorem wpIn_calm {F : Fence} {n : Nat} {P : Program} {c : Code} {Q : Exit → Act → World → Prop} {a : Act} {w : World} (h : c.wpIn F n P (calmQ Q) a w) : c.wpIn F n P Q a w :=
  Code.wpIn_mono (fun e a w h => by cases e <;> first | exact h | exact h.elim) h
end Go
