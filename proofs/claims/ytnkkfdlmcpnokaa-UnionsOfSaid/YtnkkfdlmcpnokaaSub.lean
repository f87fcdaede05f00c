
/- slices.Sort's family at uint32, the second part: the reversal, the pivot's choice. (filled by gen_su.py out of XSub.src) -/
import Derived.Test.YtnkkfdlmcpnokaaSua
namespace Go.Proofs.Herb
open Go.RowKit Go.Sort
theorem revLoop_go {α : Type} [Inhabited α] (i j : Nat) (d : Array α) (h : i < j) : reverseLoop i j d = reverseLoop (i + 1) (j - 1) (swp d i j) := by rw [reverseLoop, if_pos h]
theorem revLoop_end {α : Type} [Inhabited α] (i j : Nat) (d : Array α) (h : ¬ i < j) : reverseLoop i j d = d := by rw [reverseLoop, if_neg h]
set_option maxHeartbeats 8000000 in
set_option maxRecDepth 1000000 in
theorem rev_u (w0 : World) (g off C N cap a b : Nat) (d : Array Int) (w : World) (h : Rw w0 g off C d w) (hN : d.size = N) (hab : a < b) (hb : b ≤ N) (hsz : N < 4611686018427387904) :
    Calls Try.prog 73 #[.slice (some ⟨g, off, none⟩) N cap, .int .i64 a, .int .i64 b] w fun e w' =>
      e = .returned (.tuple #[]) ∧ Rw w0 g off C (reverseRange d a b) w' := by
  have HN := hid hN
  have H0 := hid h
  clear hN h
  go_enter Try.func73, Try.ntmps73
  go_wp2
  go_loopw [6, 7] (fun vi vj wr => ∃ (i j : Nat) (dk : Array Int), vi = .int .i64 i ∧ vj = .int .i64 j ∧ a ≤ i ∧ i ≤ b ∧ j < b ∧ Hid (dk.size = N) ∧ Hid (Rw w0 g off C dk wr) ∧
      Hid (reverseLoop i j dk = reverseRange d a b)) (fun vi vj _ => (intOf vj).toNat - (intOf vi).toNat)
  case atStart => exact ⟨a, b - 1, d, rfl, by go_num, by omega, by omega, by omega, HN, H0, rfl⟩
  case round =>
    obtain ⟨i, j, dk, rfl, rfl, hai, hib, hjb, HSK, HRK, HO⟩ := hrel
    clear H0
    obtain ⟨G, HG, hcw, hfw⟩ := HRK.out.fam HSK.out
    go_wp2
    · have hlt : i < j := by assumption
      go_region
      all_goals go_wp2
      go_roundw
      case rel =>
        refine ⟨i + 1, j - 1, swp dk i j, by go_num, by congr 1; omega, by omega, by omega, by omega, by show _ = _; rw [size_swp]; exact HSK.out, ?_, ?_⟩
        · have := (HRK.out.drewN 1).swap (i := i) (j := j) (by have := HSK.out; omega) (by have := HSK.out; omega) (HG.out j) (HG.out i)
          exact this
        · show _ = _
          rw [← HO.out, revLoop_go i j dk hlt]
      case measure => simp [intOf]; omega
    · have hge : ¬ i < j := by assumption
      go_end0
      refine ⟨rfl, ?_⟩
      rw [← HO.out, revLoop_end _ _ _ hge]
      exact HRK.out
/-- the count of swaps, in a cell of its own; all else is as it was -/
structure Sw (w : World) (sb s : Nat) (W : World) : Prop where
  os : W.os = w.os
  tape : W.tape = w.tape
  output : W.output = w.output
  size : W.heap.size = w.heap.size
  block : ∀ k, k ≠ sb → W.heap[k]? = w.heap[k]?
  row : W.heap[sb]? = some (.cells #[.int .i64 (s : Int)] 3 (0, 0))
theorem Sw.trans {w : World} {sb s s' : Nat} {W W' : World} (h : Sw w sb s W) (k : Sw W sb s' W') : Sw w sb s' W' :=
  ⟨k.os.trans h.os, k.tape.trans h.tape, k.output.trans h.output, k.size.trans h.size, fun j hj => (k.block j hj).trans (h.block j hj), k.row⟩
theorem Sw.drewN {w : World} {sb s : Nat} {W : World} (h : Sw w sb s W) (q : Nat) : Sw w sb s (W.drewN q) := ⟨h.os, h.tape, h.output, h.size, h.block, h.row⟩
theorem Sw.set {w : World} {sb s : Nat} {W : World} (h : Sw w sb s W) (t : Nat) : Sw w sb t (W.setCell ⟨sb, 0, none⟩ (.int .i64 (t : Int))) :=
  ⟨h.os, h.tape, h.output, by rw [World.size_setCell]; exact h.size, fun k hk => by rw [heap_setCell_other _ _ _ _ (by simpa using hk)]; exact h.block k hk, heap_setCell_same W sb 0 _ _ _ h.row⟩
theorem Sw.cell {w : World} {sb s : Nat} {W : World} (h : Sw w sb s W) : W.cell? ⟨sb, 0, none⟩ = some (.int .i64 (s : Int)) ∧ W.frozen? ⟨sb, 0, none⟩ = false := by
  refine ⟨?_, ?_⟩
  · rw [cell_of_row _ _ _ _ _ _ h.row]; rfl
  · simp [World.frozen?, h.row]
/-- numbers that can be read -/
def Rn (w : World) (g off N : Nat) : Prop := ∃ G : Nat → Int, ∀ t, t < N → w.cell? ⟨g, off + t, none⟩ = some (.int .u32 (G t))
theorem Rn.sw {w : World} {g off N sb s : Nat} {W : World} (h : Rn w g off N) (hne : sb ≠ g) (k : Sw w sb s W) : Rn W g off N := by
  obtain ⟨G, hG⟩ := h
  exact ⟨G, fun t ht => by rw [← hG t ht]; exact World.cell?_of_block (k.block g (fun e => hne e.symm))⟩
set_option maxHeartbeats 8000000 in
set_option maxRecDepth 1000000 in
theorem ord2_u (g off N cap a b sb s : Nat) (w : World) (h : Rn w g off N) (hs : Sw w sb s w) (hs1 : s ≤ 1000) (ha : a < N) (hb : b < N) (_hsz : N < 4611686018427387904) :
    Calls Try.prog 83 #[.slice (some ⟨g, off, none⟩) N cap, .int .i64 a, .int .i64 b, .pointer (some ⟨sb, 0, none⟩)] w fun e w' =>
      ∃ x y s', e = .returned (.tuple #[.int .i64 (x : Nat), .int .i64 (y : Nat)]) ∧ ((x = a ∧ y = b) ∨ (x = b ∧ y = a)) ∧ s' ≤ s + 1 ∧ Sw w sb s' w' := by
  obtain ⟨G, hcw⟩ := h
  have HS := hid hs
  obtain ⟨hc0, hf0⟩ := hs.cell
  clear hs
  go_enter Try.func83, Try.ntmps83
  go_wp2
  go_big_quiet (first | (go_at_call 75; refine Calls.quiet_of_same (less_u _ _ _)))
  go_wp2
  · go_ret2
    exact ⟨b, a, s + 1, rfl, .inr ⟨rfl, rfl⟩, Nat.le_refl _, by
      have := (HS.out.drewN nq).set (s + 1)
      simpa using this⟩
  · go_ret2
    exact ⟨a, b, s, rfl, .inl ⟨rfl, rfl⟩, by omega, HS.out.drewN nq⟩
set_option maxHeartbeats 8000000 in
set_option maxRecDepth 1000000 in
theorem med_u (g off N cap a b c sb s : Nat) (w : World) (h : Rn w g off N) (hne : sb ≠ g) (hs : Sw w sb s w) (hs1 : s ≤ 100) (ha : a < N) (hb : b < N) (hc : c < N) (hsz : N < 4611686018427387904) :
    Calls Try.prog 81 #[.slice (some ⟨g, off, none⟩) N cap, .int .i64 a, .int .i64 b, .int .i64 c, .pointer (some ⟨sb, 0, none⟩)] w fun e w' =>
      ∃ x s', e = .returned (.int .i64 (x : Nat)) ∧ (x = a ∨ x = b ∨ x = c) ∧ s' ≤ s + 3 ∧ Sw w sb s' w' := by
  have HH := hid h
  have HS := hid hs
  clear h hs
  go_enter Try.func81, Try.ntmps81
  have c1 := ord2_u g off N cap a b sb s w HH.out HS.out (by omega) ha hb hsz
  go_wp2_with (go_at_call 83; with_reducible refine c1.mono ?_; rintro e w1 ⟨x1, y1, s1, rfl, h1, hs1', hw1⟩)
  have HS1 : Sw w1 sb s1 w1 := ⟨rfl, rfl, rfl, rfl, fun _ _ => rfl, hw1.row⟩
  have c2 := ord2_u g off N cap y1 c sb s1 w1 (HH.out.sw hne hw1) HS1 (by omega) (by omega) hc hsz
  go_wp2_with (go_at_call 83; with_reducible refine c2.mono ?_; rintro e w2 ⟨x2, y2, s2, rfl, h2, hs2', hw2⟩)
  have HS2 : Sw w2 sb s2 w2 := ⟨rfl, rfl, rfl, rfl, fun _ _ => rfl, hw2.row⟩
  have c3 := ord2_u g off N cap x1 x2 sb s2 w2 ((HH.out.sw hne hw1).sw hne hw2) HS2 (by omega) (by omega) (by omega) hsz
  go_wp2_with (go_at_call 83; with_reducible refine c3.mono ?_; rintro e w3 ⟨x3, y3, s3, rfl, h3, hs3', hw3⟩)
  go_ret
  exact ⟨y3, s3, rfl, by omega, by omega, (hw1.trans hw2).trans hw3⟩
set_option maxHeartbeats 8000000 in
set_option maxRecDepth 1000000 in
theorem meda_u (g off N cap a sb s : Nat) (w : World) (h : Rn w g off N) (hne : sb ≠ g) (hs : Sw w sb s w) (hs1 : s ≤ 100) (ha : 1 ≤ a) (hc : a + 1 < N) (hsz : N < 4611686018427387904) :
    Calls Try.prog 80 #[.slice (some ⟨g, off, none⟩) N cap, .int .i64 a, .pointer (some ⟨sb, 0, none⟩)] w fun e w' =>
      ∃ x s', e = .returned (.int .i64 (x : Nat)) ∧ (x = a - 1 ∨ x = a ∨ x = a + 1) ∧ s' ≤ s + 3 ∧ Sw w sb s' w' := by
  have HH := hid h
  have HS := hid hs
  clear h hs
  have hm := med_u g off N cap (a - 1) a (a + 1) sb s w HH.out hne HS.out hs1 (by omega) (by omega) hc hsz
  have e1 : ((a - 1 : Nat) : Int) = (a : Int) - 1 := by omega
  rw [e1, show (((a + 1 : Nat)) : Int) = (a : Int) + 1 by omega] at hm
  go_enter Try.func80, Try.ntmps80
  go_wp2_with (go_at_call 81; refine hm.mono ?_; rintro e w1 ⟨x1, s1, rfl, h1, hs1', hw1⟩)
  go_ret
  exact ⟨x1, s1, rfl, h1, hs1', hw1⟩
end Go.Proofs.Herb
