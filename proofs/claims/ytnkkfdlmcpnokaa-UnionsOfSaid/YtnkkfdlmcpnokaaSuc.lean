
/- slices.Sort's family at uint32, the third part: the pivot's choice. (filled by gen_su.py out of XSuc.src) -/
import Derived.Test.YtnkkfdlmcpnokaaSub
import Derived.RangeFuncRecord
namespace Go.Proofs.Herb
open Go.RowKit Go.Sort
theorem Sw.same {u : World} {sb s : Nat} {W : World} (h : Sw u sb s W) : Sw W sb s W := ⟨rfl, rfl, rfl, rfl, fun _ _ => rfl, h.row⟩
theorem Sw.below {w u : World} {s : Nat} {W : World} (hb : RowKit.Below w.heap.size w u) (k : Sw u w.heap.size s W) : RowKit.Below w.heap.size w W :=
  ⟨k.os.trans hb.os, k.tape.trans hb.tape, k.output.trans hb.output, by have := hb.size; have := k.size; omega, fun j hj => (k.block j (by omega)).trans (hb.block j hj)⟩
set_option maxHeartbeats 8000000 in
set_option maxRecDepth 1000000 in
theorem piv_u (g off N cap a b : Nat) (w : World) (h : Rn w g off N) (hg : g < w.heap.size) (hab : a + 12 < b) (hb : b ≤ N) (hsz : N < 4611686018427387904) :
    Calls Try.prog 72 #[.slice (some ⟨g, off, none⟩) N cap, .int .i64 a, .int .i64 b] w fun e w' =>
      ∃ p t : Nat, e = .returned (.tuple #[.int .i64 (p : Nat), .int .i64 (t : Nat)]) ∧ a ≤ p ∧ p < b ∧ t ≤ 2 ∧ RowKit.Below w.heap.size w w' := by
  have hb1 : RowKit.Below w.heap.size w (w.alloc (.cells #[.int .i64 0] 3)) := (RowKit.Below.refl _ _).alloc (Nat.le_refl _) _
  have hS1 : Sw (w.alloc (.cells #[.int .i64 0] 3)) w.heap.size 0 (w.alloc (.cells #[.int .i64 0] 3)) := ⟨rfl, rfl, rfl, rfl, fun _ _ => rfl, World.alloc_heap_new _ _⟩
  have hR1 : Rn (w.alloc (.cells #[.int .i64 0] 3)) g off N := by
    obtain ⟨G, hG⟩ := h
    exact ⟨G, fun t ht => by rw [hb1.cell (by exact hg)]; exact hG t ht⟩
  have hne : w.heap.size ≠ g := by omega
  obtain ⟨L, hL⟩ : ∃ L, L = (b - a) / 4 := ⟨_, rfl⟩
  have l1 : 3 ≤ L := by omega
  have l2 : a + 4 * L ≤ b := by omega
  have l3 : (((b : Int) - (a : Int)) / 4) = (L : Int) := by omega
  have HS := hid hS1
  have HR := hid hR1
  have HB := hid hb1
  have hLL := hid hL
  clear hS1 hR1 hb1 h hL
  have n2 : ((a + L * 2 : Nat) : Int) = (a : Int) + (L : Int) * 2 := by omega
  have n3 : ((a + L * 3 : Nat) : Int) = (a : Int) + (L : Int) * 3 := by omega
  have n1 : ((a + L : Nat) : Int) = (a : Int) + (L : Int) := by omega
  have c1 := meda_u g off N cap (a + L) w.heap.size 0 _ HR.out hne HS.out (by omega) (by omega) (by omega) hsz
  have d1 := med_u g off N cap (a + L) (a + L * 2) (a + L * 3) w.heap.size 0 _ HR.out hne HS.out (by omega) (by omega) (by omega) (by omega) hsz
  rw [n1] at c1 d1
  rw [n2, n3] at d1
  have N2 := hid n2
  have N3 := hid n3
  clear n1 n2 n3
  go_enter Try.func72, Try.ntmps72
  go_wp2_with (first | (go_at_call 80; with_reducible refine c1.mono ?_; rintro e w1 ⟨x1, s1, rfl, h1, hs1, hw1⟩) | (go_at_call 81; with_reducible refine d1.mono ?_; rintro e w1 ⟨x1, s1, rfl, h1, hs1, hw1⟩; have hcell := hw1.cell.1; have HB4 := hid hw1; clear hw1))
  · have HB1 := hid hw1
    have c2 := meda_u g off N cap (a + L * 2) w.heap.size s1 w1 (HR.out.sw hne hw1) hne hw1.same (by omega) (by omega) (by omega) hsz
    rw [N2.out] at c2
    clear hw1 c1 d1
    go_wp2_with (go_at_call 80; with_reducible refine c2.mono ?_; rintro e w2 ⟨x2, s2, rfl, h2, hs2, hw2⟩)
    have HB2 := hid (HB1.out.trans hw2)
    have c3 := meda_u g off N cap (a + L * 3) w.heap.size s2 w2 (HR.out.sw hne HB2.out) hne hw2.same (by omega) (by omega) (by omega) hsz
    rw [N3.out] at c3
    clear hw2 c2
    go_wp2_with (go_at_call 80; with_reducible refine c3.mono ?_; rintro e w3 ⟨x3, s3, rfl, h3, hs3, hw3⟩)
    have HB3 := hid (HB2.out.trans hw3)
    have d4 := med_u g off N cap x1 x2 x3 w.heap.size s3 w3 (HR.out.sw hne HB3.out) hne hw3.same (by omega) (by omega) (by omega) (by omega) hsz
    clear hw3 c3
    go_wp2_with (go_at_call 81; with_reducible refine d4.mono ?_; rintro e w4 ⟨x4, s4, rfl, h4, hs4, hw4⟩; have hcell := hw4.cell.1; have HB4 := hid (HB3.out.trans hw4); clear hw4)
    all_goals go_ret2
    · exact ⟨x4, 1, rfl, by omega, by omega, by omega, Sw.below HB.out HB4.out⟩
    · exact ⟨x4, 2, rfl, by omega, by omega, by omega, Sw.below HB.out HB4.out⟩
    · exact ⟨x4, 0, rfl, by omega, by omega, by omega, Sw.below HB.out HB4.out⟩
  all_goals go_ret2
  · exact ⟨x1, 1, rfl, by omega, by omega, by omega, Sw.below HB.out HB4.out⟩
  · exact ⟨x1, 0, rfl, by omega, by omega, by omega, Sw.below HB.out HB4.out⟩
end Go.Proofs.Herb
