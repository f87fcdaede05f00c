/- When two facts are other ones, as the program compares them. No condition. -/
import Derived.Test.YtljdlilcpcokhaaDoorSlc
import Derived.Test.YtljdlilcpcokhaaDoorFct
import Derived.Laws.StructEq
namespace Go.Proofs.Herb
open Go.RowKit
theorem toList_inj {a b : ByteArray} : a.toList = b.toList ↔ a = b := by
  rw [ByteArray.toList_eq, ByteArray.toList_eq]
  exact ⟨fun h => by cases a; cases b; simp only [ByteArray.mk.injEq]; exact Array.toList_inj.1 h, fun h => by rw [h]⟩
theorem neq_same (f : Fact) (w : World) : (binOp .neq 43 (.agg f.cells.toArray) (.agg f.cells.toArray)).run Tryd.prog w = .ok (.bool false) w := by
  unfold Fact.cells
  go_simp
theorem neq_other {f g : Fact} (h : f ≠ g) (w : World) : (binOp .neq 43 (.agg f.cells.toArray) (.agg g.cells.toArray)).run Tryd.prog w = .ok (.bool true) w := by
  obtain ⟨a0, a1, a2, a3, a4, a5⟩ := f
  obtain ⟨b0, b1, b2, b3, b4, b5⟩ := g
  unfold Fact.cells
  dsimp only
  go_simp
  simp only [toList_inj, Int.natCast_inj]
  by_cases h0 : a0 = b0
  · by_cases h1 : a1 = b1
    · by_cases h2 : a2 = b2
      · by_cases h3 : a3 = b3
        · by_cases h4 : a4 = b4
          · by_cases h5 : a5 = b5
            · exact absurd (by rw [h0, h1, h2, h3, h4, h5]) h
            · simp [h0, h1, h2, h3, h4, h5]
          · simp [h0, h1, h2, h3, h4]
        · simp [h0, h1, h2, h3]
      · simp [h0, h1, h2]
    · simp [h0, h1]
  · simp [h0]
end Go.Proofs.Herb
