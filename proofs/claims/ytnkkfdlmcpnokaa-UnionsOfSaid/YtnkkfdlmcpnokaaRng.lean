
/- A law of control: a range over a function whose iterator hands over values that are good in the world at hand, and whose body never leaves. No program. -/
import Derived.RangeFuncNested
import Derived.RangeFuncBound
import Derived.RangeFuncCalls
import Derived.RangeFuncLeaves
import Derived.RangeFuncBox
namespace Go.Proofs.Herb
open Go.RowKit
/-- how a round's body ends: it goes on; what it keeps; where the loop stands -/
def GoesOn {α : Type} (B : Nat) (Kp : World → World → Prop) (I : List α → World → Prop) (xs : List α) (W : World) : Exit → Act → World → Prop
  | .normal, _, W' => KeepsFrom B W W' ∧ Kp W W' ∧ I xs W'
  | _, _, _ => False
/-- a property of worlds that abides whatever is laid behind it -/
def Stays (J : World → Prop) : Prop := ∀ A B, J A → Below A.heap.size A B → J B
/-- .. and a turn of a block that holds no cells, from a place on -/
def Turns (b0 : Nat) (J : World → Prop) : Prop := ∀ (W : World) (l : Nat) (o o' : Obj), J W → b0 ≤ l → W.heap[l]? = some o → o.isCells = false → J (W.putObj l o')
variable {F : Fence} {n : Nat} {P : Program}
/-- a range over a function whose iterator hands over values that are good in the world at hand, and whose body never leaves -/
theorem wpIn_range_good {α : Type} {g : Operand} {ps : Array Tmp} {assign body : Code} {Q : Exit → Act → World → Prop} {a : Act} {w : World}
    (hro : F.round = none) (h1 : 1 ≤ n) {gf : Nat} {lb : Array Value} (hg : a.eval g = .func (.func gf) #[] lb) (hFg : F.fn gf) (eg : ∀ args w, (callFunc gf args).run P w = .ok (.enter gf args) w)
    (encs : α → Array Value) (hps : ∀ x, (encs x).size = ps.size) (Gd : List α → α → World → Prop) (Kp : World → World → Prop) (S : List α → Prop)
    (hseq : ∀ (l : Nat) (J : List α → World → Prop) (W : World), Below w.heap.size w W → (∀ s, Stays (J s)) →
      (∀ pre x W1, J pre W1 → Gd pre x W1 → YieldAt F (n - 1 - 1) P l (encs x) W1 fun e W' => e = .returned (.bool true) ∧ J (pre ++ [x]) W' ∧ Kp W1 W') → J [] W →
      CallsIn F (n - 1) P gf (#[.func (.yield l) #[] #[]] ++ lb) W fun e W' => (∃ v, e = .returned v) ∧ ∃ xs, S xs ∧ J xs W')
    (hKt : ∀ A B C, Kp A B → Kp B C → Kp A C) (hKb : ∀ (W : World) (l : Nat) (o o' : Obj), w.heap.size ≤ l → W.heap[l]? = some o → o.isCells = false → Kp W (W.putObj l o'))
    (I : List α → World → Prop) (hIb : ∀ s, Stays (I s)) (hIp : ∀ s, Turns w.heap.size (I s)) (hGp : ∀ s x, Turns w.heap.size (Gd s x)) (h0 : I [] w) (a₁ : α → Act)
    (hassign : ∀ (l : Nat) (x : α) (W : World) (K : Act → World → Prop), K (a₁ x) W →
      assign.wpIn (F.inRound l) (n - 1 - 1) P (Exit.then K (fun _ _ _ => False)) { tmps := (ps.zip (encs x)).foldl (fun t (p, v) => t.setIfInBounds p v) a.tmps, defers := [] } W)
    (hbody : ∀ (l : Nat) (pre : List α) (x : α) (W : World), I pre W → Gd pre x W → body.wpIn (F.inRound l) (n - 1 - 1) P (GoesOn w.heap.size Kp I (pre ++ [x]) W) (a₁ x) W)
    (hdone : ∀ (D : Nat) (xs : List α) (W : World), w.heap.size ≤ D → S xs → I xs W → W.heap[D]? = some (.deferred (some [])) → Q .normal { a with defers := { target := .collected D, args := #[] } :: a.defers } W) :
    (Code.rangeFunc g ps assign body).wpIn F n P Q a w := by
  refine wpIn_rangeFunc fun fn hfn => ?_
  rw [hro]
  -- the two blocks that the loop lays: that of the deferred calls (D), and its record (L)
  let R : LoopState → Loop := fun st => { state := st, pending := none, fn, tmps := a.tmps, params := ps, assign, body, defers := w.heap.size }
  have hR : ∀ st, R st = { R .ready with state := st } := fun st => rfl
  let V : World := (w.alloc (.deferred (some []))).alloc (.loop (R .ready))
  have hVb : Below w.heap.size w V := ((Below.refl _ w).alloc (Nat.le_refl _) _).alloc (by simp) _
  have hVD : V.heap[w.heap.size]? = some (.deferred (some [])) := (Below.heap_alloc _ _ _ (by simp)).trans (World.alloc_heap_new w _)
  have hVL : V.heap[w.heap.size + 1]? = some (.loop (R .ready)) := by
    have h := World.alloc_heap_new (w.alloc (.deferred (some []))) (.loop (R .ready))
    rwa [World.size_alloc] at h
  let J : List α → World → Prop := fun s W => I s W ∧ W.heap[w.heap.size + 1]? = some (.loop (R .ready)) ∧ W.heap[w.heap.size]? = some (.deferred (some []))
  have lt_of : ∀ {W : World} {k : Nat} {o : Obj}, W.heap[k]? = some o → k < W.heap.size := fun h => (Array.getElem?_eq_some_iff.1 h).1
  have hJ : ∀ s, Stays (J s) := fun s A B h hb => ⟨hIb s A B h.1 hb, (hb.block _ (lt_of h.2.1)).trans h.2.1, (hb.block _ (lt_of h.2.2)).trans h.2.2⟩
  refine ⟨w.heap.size + 1, [{ target := .collected w.heap.size, args := #[] }], V, { target := .fn (.func gf) lb, args := #[.func (.yield (w.heap.size + 1)) #[] #[]] }, V, gf,
    #[.func (.yield (w.heap.size + 1)) #[] #[]] ++ lb, V, run_enterLoop_outer _ _ _ _ _, ?_, ?_, ?_, fun _ => h1, ?_⟩
  · simp only [resolve, hg]; simp [go_sem]
  · intro f' hf'; simp [Target.leads] at hf'; subst hf'; exact hFg
  · simp [invoke, go_sem, eg]
  · refine (hseq (w.heap.size + 1) J V hVb hJ ?_ ⟨hIb _ _ _ h0 hVb, hVL, hVD⟩).mono ?_
    · intro pre x W hJW hgd
      have hy := run_yield (P := P) (args := encs x) hJW.2.1 (hps x)
      refine ⟨fn, _, assign, body, hy, roundIn_of_wpIn hfn (hassign _ x W _ ⟨_, run_beginRound hJW.2.1 rfl, ?_⟩)⟩
      let W2 : World := W.putObj (w.heap.size + 1) (.loop { R .ready with state := .busy })
      have hL2 : W2.heap[w.heap.size + 1]? = some (.loop { R .ready with state := .busy }) := World.putObj_heap_same (lt_of hJW.2.1)
      have hD2 : W2.heap[w.heap.size]? = some (.deferred (some [])) := (World.putObj_heap_other (by omega)).trans hJW.2.2
      have hI2 : I pre W2 := hIp _ _ _ _ _ hJW.1 (by omega) hJW.2.1 rfl
      have hG2 : Gd pre x W2 := hGp _ _ _ _ _ _ hgd (by omega) hJW.2.1 rfl
      have hK2 : Kp W W2 := hKb _ _ _ _ (by omega) hJW.2.1 rfl
      refine wpIn_mono (hbody _ pre x W2 hI2 hG2) fun e a3 W3 hp => ?_
      cases e with
      | normal =>
        obtain ⟨hk, hkp, hi⟩ := hp
        have hL3 := hk.same _ _ (by omega) hL2 rfl
        have hD3 := hk.same _ _ (Nat.le_refl _) hD2 rfl
        refine ⟨_, _, run_endRound (P := P) none hL3, rfl, ⟨hIp _ _ _ _ _ hi (by omega) hL3 rfl, World.putObj_heap_same (lt_of hL3), (World.putObj_heap_other (by omega)).trans hD3⟩, ?_⟩
        exact hKt _ _ _ (hKt _ _ _ hK2 hkp) (hKb _ _ _ _ (by omega) hL3 rfl)
      | _ => exact hp.elim
    · rintro e W ⟨⟨v, rfl⟩, xs, hS, hi, hL, hD⟩
      exact ⟨none, _, run_endLoop (P := P) hL (by simp [R]), hdone _ xs _ (Nat.le_refl _) hS (hIp _ _ _ _ _ hi (by omega) hL rfl) ((World.putObj_heap_other (by omega)).trans hD)⟩
end Go.Proofs.Herb
