/- tables.Build for those who call it: what it answers. For facts that can be read. -/
import Derived.Test.YtbeaehhdglhihaaGreatDoorQd18
namespace Go.Proofs.Herb
open Go.RowKit
theorem build_no (line : Nat) (q : Option Addr) (n c : Nat) (fs : List Fact) (w : World) (hn : fs.length = n) (hm : n ≤ 6000) (hr : Rd w q (fCells fs)) (ho : ∀ f ∈ fs, f.Ok) (h : ¬ (GoodF line fs ∧ 0 < fs.length)) :
    Calls Tryz.prog 83 #[.int .u64 (line : Int), .slice q n c] w fun e w' => e = .returned (.tuple #[.slice none 0 0, .agg zProps, .int .i64 1]) ∧ Below w.heap.size w w' :=
  (build_any line q n c fs w hn hm hr ho).mono fun e w' h' => by
    obtain ⟨hb, h1 | h1 | h1⟩ := h'
    · exact ⟨h1.2, hb⟩
    · exact absurd ⟨h1.1, h1.2.1⟩ h
    · exact absurd ⟨h1.1, h1.2.1⟩ h
theorem build_big (line : Nat) (q : Option Addr) (n c : Nat) (fs : List Fact) (w : World) (hn : fs.length = n) (hm : n ≤ 6000) (hr : Rd w q (fCells fs)) (ho : ∀ f ∈ fs, f.Ok) (h : GoodF line fs ∧ 0 < fs.length) (hl : 65536 < (tabB line fs).length) :
    Calls Tryz.prog 83 #[.int .u64 (line : Int), .slice q n c] w fun e w' => e = .returned (.tuple #[.slice none 0 0, .agg zProps, .int .i64 3]) ∧ Below w.heap.size w w' :=
  (build_any line q n c fs w hn hm hr ho).mono fun e w' h' => by
    obtain ⟨hb, h1 | h1 | h1⟩ := h'
    · exact absurd h h1.1
    · exact ⟨h1.2.2.2, hb⟩
    · have := h1.2.2.1.2.2; omega
theorem build_ok (line : Nat) (q : Option Addr) (n c : Nat) (fs : List Fact) (w : World) (hn : fs.length = n) (hm : n ≤ 6000) (hr : Rd w q (fCells fs)) (ho : ∀ f ∈ fs, f.Ok) (h : GoodF line fs ∧ 0 < fs.length) (hl : (tabB line fs).length ≤ 65536) :
    Calls Tryz.prog 83 #[.int .u64 (line : Int), .slice q n c] w fun e w' => ∃ p, e = .returned (.tuple #[.slice p (tabB line fs).length (tabB line fs).length, .agg (propsF line fs).cells.toArray, .int .i64 0]) ∧
      Fr w' w.heap.size 5 1 (.slice p (tabB line fs).length (tabB line fs).length) (tabB line fs).length ((tabB line fs).map bv) ∧ Below w.heap.size w w' :=
  (build_any line q n c fs w hn hm hr ho).mono fun e w' h' => by
    obtain ⟨hb, h1 | h1 | h1⟩ := h'
    · exact absurd h h1.1
    · exact absurd ((fits_iff h.1 h.2 ho).2 hl) h1.2.2.1
    · obtain ⟨_, _, _, p, h2, h3⟩ := h1
      exact ⟨p, h2, h3, hb⟩
/-- what it answers: whether -/
noncomputable def buildE (line : Nat) (fs : List Fact) : Int := open Classical in if GoodF line fs ∧ 0 < fs.length then (if (tabB line fs).length ≤ 65536 then 0 else 3) else 1
theorem buildE_zero {line : Nat} {fs : List Fact} : buildE line fs = 0 ↔ (GoodF line fs ∧ 0 < fs.length) ∧ (tabB line fs).length ≤ 65536 := by
  by_cases h : GoodF line fs ∧ 0 < fs.length
  · by_cases hl : (tabB line fs).length ≤ 65536
    · exact ⟨fun _ => ⟨h, hl⟩, fun _ => by unfold buildE; rw [if_pos h, if_pos hl]⟩
    · exact ⟨fun e => by unfold buildE at e; rw [if_pos h, if_neg hl] at e; omega, fun e => absurd e.2 hl⟩
  · exact ⟨fun e => by unfold buildE at e; rw [if_neg h] at e; omega, fun e => absurd e.1 h⟩
theorem buildE_one {line : Nat} {fs : List Fact} : buildE line fs = 1 ↔ ¬ (GoodF line fs ∧ 0 < fs.length) := by
  by_cases h : GoodF line fs ∧ 0 < fs.length
  · by_cases hl : (tabB line fs).length ≤ 65536
    · exact ⟨fun e => by unfold buildE at e; rw [if_pos h, if_pos hl] at e; omega, fun e => absurd h e⟩
    · exact ⟨fun e => by unfold buildE at e; rw [if_pos h, if_neg hl] at e; omega, fun e => absurd h e⟩
  · exact ⟨fun _ => h, fun _ => by unfold buildE; rw [if_neg h]⟩
theorem props_cells8 (p : Props) : p.cells.toArray.size = 8 ∧ ∀ v ∈ p.cells.toArray.toList, v.oneCell' = true := by simp [Props.cells, Value.oneCell']
end Go.Proofs.Herb
