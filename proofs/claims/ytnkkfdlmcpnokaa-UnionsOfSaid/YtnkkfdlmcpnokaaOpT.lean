
/- Three lists of facts (chapter 19's Three) that came in: read off the data. No condition. -/
import Derived.Test.YtnkkfdlmcpnokaaOpF
namespace Go.Proofs.Herb
open Go.RowKit Go.ChangeShapes Go.WideShapes Go.Deep
theorem list3c {α : Type} {cs : List α} (h : cs.length = 3) : ∃ a b c, cs = [a, b, c] := by
  match cs, h with
  | [a, b, c], _ => exact ⟨a, b, c, rfl⟩
section
variable {H : Type} {enc : TypeId × Value → H} {w : World}
theorem open_three {fuel : Nat} {cs : List Value} {x : DataW H × List MemPlace} (h : DataW.trod enc Try.prog w 0 (fun _ => true) true fuel 24 cs = some x) :
    ∃ (q : Nat → Option Addr) (n c : Nat → Nat) (Ls : Nat → List Fact), cs = [.slice (q 0) (n 0) (c 0), .slice (q 1) (n 1) (c 1), .slice (q 2) (n 2) (c 2)] ∧ (∀ i, i < 3 → n i ≤ c i ∧ c i ≤ maxLen) ∧ ∀ i, i < 3 → FactsAt w (q i) (n i) (Ls i) := by
  obtain ⟨xs, n, _, hx, hl, hxs, hf⟩ := DataW.trod_struct Try.underlying24 h
  have hC : Try.prog.cellsOf 24 = 3 := by kernel_rfl
  have kF : Try.prog.cellsOf 22 = 1 := by kernel_rfl
  rw [hC] at hl
  obtain ⟨c0, c1, c2, rfl⟩ := list3c hl
  obtain ⟨y0, y1, y2, rfl⟩ := list3c hxs
  have h0 : DataW.trod enc Try.prog w 0 (fun _ => true) true n 22 (([c0, c1, c2].drop 0).take (Try.prog.cellsOf 22)) = some y0 := hf 0 _ rfl
  have h1 : DataW.trod enc Try.prog w 0 (fun _ => true) true n 22 (([c0, c1, c2].drop 1).take (Try.prog.cellsOf 22)) = some y1 := hf 1 _ rfl
  have h2 : DataW.trod enc Try.prog w 0 (fun _ => true) true n 22 (([c0, c1, c2].drop 2).take (Try.prog.cellsOf 22)) = some y2 := hf 2 _ rfl
  rw [kF] at h0 h1 h2
  obtain ⟨a0, n0, p0, l0, e0, r01, r02, r03, _⟩ := open_factsR (x := y0) (c := c0) h0
  obtain ⟨a1, n1, p1, l1, e1, r11, r12, r13, _⟩ := open_factsR (x := y1) (c := c1) h1
  obtain ⟨a2, n2, p2, l2, e2, r21, r22, r23, _⟩ := open_factsR (x := y2) (c := c2) h2
  subst e0; subst e1; subst e2
  refine ⟨fun | 0 => a0 | 1 => a1 | _ => a2, fun | 0 => n0 | 1 => n1 | _ => n2, fun | 0 => p0 | 1 => p1 | _ => p2, fun | 0 => l0 | 1 => l1 | _ => l2, rfl, fun i hi => ?_, fun i hi => ?_⟩
  · rcases (show i = 0 ∨ i = 1 ∨ i = 2 by omega) with rfl | rfl | rfl
    · exact ⟨r01, r02⟩
    · exact ⟨r11, r12⟩
    · exact ⟨r21, r22⟩
  · rcases (show i = 0 ∨ i = 1 ∨ i = 2 by omega) with rfl | rfl | rfl
    · exact r03
    · exact r13
    · exact r23
end
end Go.Proofs.Herb
