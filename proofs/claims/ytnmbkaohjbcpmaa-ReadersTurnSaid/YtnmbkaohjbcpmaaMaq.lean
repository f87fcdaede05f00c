/- Facts, a part of them; which may be a table, one by one: plain. -/
import Derived.Test.YtnmbkaohjbcpmaaBle
namespace Go.Proofs.Herb
open Go.RowKit
theorem facts_sub {w : World} {b off : Nat} {l : List Fact} (h : Rd w (some ⟨b, off, none⟩) (fCells l)) (i m : Nat) : Rd w (some ⟨b, off + i * 6, none⟩) (fCells ((l.drop i).take m)) := by
  rw [fCells_take, fCells_drop]
  exact (h.drop (i * 6)).take (m * 6)
/-- each of the first, and each two neighbours of them -/
def MayK (line : Nat) (l : List Fact) (k : Nat) : Prop := 0 < l.length ∧ ∀ i, i < k → buildE line ((l.drop i).take 1) = 0 ∧ (0 < i → buildE line ((l.drop (i - 1)).take 2) = 0)
theorem MayK.step {line : Nat} {l : List Fact} {k : Nat} : MayK line l (k + 1) ↔ MayK line l k ∧ buildE line ((l.drop k).take 1) = 0 ∧ (0 < k → buildE line ((l.drop (k - 1)).take 2) = 0) := by
  constructor
  · rintro ⟨h0, h⟩
    exact ⟨⟨h0, fun i hi => h i (by omega)⟩, h k (by omega)⟩
  · rintro ⟨⟨h0, h⟩, h1⟩
    refine ⟨h0, fun i hi => ?_⟩
    by_cases e : i = k
    · subst e; exact h1
    · exact h i (by omega)
end Go.Proofs.Herb
