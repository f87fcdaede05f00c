
/- What a function with ranges over functions leaves behind: the marks of its deferred calls are shut. No program. -/
import Derived.Test.YtnkkfdlmcpnokaaRgs
import Derived.RangeFuncLeaves
namespace Go.Proofs.Herb
open Go.RowKit
def Marks (base : Nat) : List Deferred → World → Prop
  | [], _ => True
  | d :: ds, w => (∃ D, d = { target := .collected D, args := #[] } ∧ base ≤ D ∧ w.heap[D]? = some (.deferred (some [])) ∧ ∀ d' ∈ ds, d'.target ≠ .collected D) ∧ Marks base ds w
theorem Marks.keeps {base : Nat} : ∀ {ds : List Deferred} {A B : World}, Marks base ds A → KeepsFrom base A B → Marks base ds B
  | [], _, _, _, _ => trivial
  | _ :: _, _, _, h, k => ⟨by obtain ⟨⟨D, h1, h2, h3, h4⟩, _⟩ := h; exact ⟨D, h1, h2, k.same _ _ h2 h3 rfl, h4⟩, Marks.keeps h.2 k⟩
theorem Marks.putObj {base : Nat} : ∀ {ds : List Deferred} {A : World} {l : Nat} (o : Obj), Marks base ds A → (∀ d ∈ ds, d.target ≠ .collected l) → Marks base ds (A.putObj l o)
  | [], _, _, _, _, _ => trivial
  | d :: ds, A, l, o, h, k => ⟨by
      obtain ⟨⟨D, h1, h2, h3, h4⟩, _⟩ := h
      refine ⟨D, h1, h2, (World.putObj_heap_other (fun e => ?_)).trans h3, h4⟩
      subst e
      exact k d (by simp) (by rw [h1]), Marks.putObj o h.2 (fun d' hd => k d' (by simp [hd]))⟩
theorem Marks.lt {base : Nat} : ∀ {ds : List Deferred} {A : World}, Marks base ds A → ∀ d ∈ ds, ∀ l, d.target = .collected l → l < A.heap.size
  | [], _, _, d, hd, _, _ => by cases hd
  | d0 :: ds, A, h, d, hd, l, hl => by
    rcases List.mem_cons.1 hd with rfl | hd
    · obtain ⟨⟨D, h1, _, h3, _⟩, _⟩ := h
      rw [h1] at hl
      cases hl
      exact (Array.getElem?_eq_some_iff.1 h3).1
    · exact Marks.lt h.2 d hd l hl
/-- what shutting the marks leaves: all cells, and what stands below -/
structure Shut (base : Nat) (A B : World) : Prop where
  cells : ∀ (g : Nat) (cs : Array Value) (t : TypeId) (fr : Nat × Nat), A.heap[g]? = some (.cells cs t fr) → B.heap[g]? = some (.cells cs t fr)
  below : ∀ b, b ≤ base → Below b A B
theorem Shut.refl (base : Nat) (A : World) : Shut base A A := ⟨fun _ _ _ _ h => h, fun _ _ => Below.refl _ _⟩
theorem leaves_marks {F : Fence} {n : Nat} {P : Program} {fn : Func} {tmps : Array Value} {R : Ending → World → Prop} {base : Nat} : ∀ (ds : List Deferred) (w : World), Marks base ds w →
    (∀ w', Shut base w w' → LeavesInM F n P fn tmps R [] .returning w') → LeavesInM F n P fn tmps R ds .returning w
  | [], w, _, h => h w (Shut.refl _ _)
  | d :: ds, w, hm, h => by
    obtain ⟨⟨D, h1, h2, h3, h4⟩, hm2⟩ := hm
    refine ⟨by simp, .inl ⟨D, _, by rw [h1], run_takeDeferred h3, ?_⟩⟩
    refine leaves_marks ds _ (hm2.putObj _ h4) (fun w' hs => h w' ⟨fun g cs t fr hg => hs.cells g cs t fr ((World.putObj_heap_other (fun e => by subst e; rw [h3] at hg; cases hg)).trans hg), fun b hb => ?_⟩)
    exact (below_putObj (Below.refl b w) (Nat.le_trans hb h2) _ h3).trans (hs.below b hb)
theorem own_shut {A W : World} {b0 base : Nat} {e : TypeId} {k n : Nat} {v : Value} {xs : List Value} (h : A.ownsRow base e k v n xs) (hs : Shut b0 A W) : W.ownsRow base e k v n xs := by
  obtain ⟨h1, h2⟩ := h
  refine ⟨h1, ?_⟩
  rcases h2 with h2 | ⟨g, cap, cur, hv, hg, hh, r⟩
  · exact .inl h2
  · exact .inr ⟨g, cap, cur, hv, hg, hs.cells _ _ _ _ hh, r⟩
end Go.Proofs.Herb
