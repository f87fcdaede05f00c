/- What a call turned, of a disk that is new: plain. No condition. -/
import Derived.Test.YtancpdhinocbnaaGreatDoorDskX
namespace Go.Proofs.Herb
open Go.RowKit
theorem Mod.fresh {fp fp' : List Nat} {w w' : World} {B : Nat} (h : Mod fp fp' w w') (hB : B ≤ w.heap.size) (hf : ∀ k, k ∈ fp → B ≤ k) : (∀ k, k ∈ fp' → B ≤ k) ∧ Below B w w' :=
  ⟨fun k hk => by rcases h.grow k hk with g | g; exact hf k g; omega, h.below hB hf⟩
theorem newM_fresh (n : Nat) : ∀ k, k ∈ (newM n).fp → n ≤ k := by
  intro k hk
  simp [DM.fp, newM, Value.ownBlock] at hk
  omega
end Go.Proofs.Herb
