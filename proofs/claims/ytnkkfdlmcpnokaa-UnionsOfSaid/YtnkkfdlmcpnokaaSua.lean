
/- slices.Sort's family at uint32, the first part: what a row of the sort's is, cmp.Less, the insertion sort, the reversal. (filled by gen_su.py out of XSua.src) -/
import Derived.Test.YtnkkfdlmcpnokaaBase2
import Derived.Test.YtnkkfdlmcpnokaaProg
import Derived.Sort.AssemblyPlain
import Derived.Sort.WalkA
import Derived.Sort.WalkC
import Derived.RegionTactic
import Derived.Deep.Draws
import Derived.Deep.QuietTactic
import Derived.BigCall
import Derived.BigGuard
import Derived.BigQuiet
import Derived.CellFam
namespace Go.Proofs.Herb
open Go.RowKit Go.Sort
/-- the row of numbers that a sort turns: all else is as it was, but for what is new -/
structure Rw (w : World) (g off C : Nat) (d : Array Int) (W : World) : Prop where
  os : W.os = w.os
  tape : W.tape = w.tape
  output : W.output = w.output
  size : w.heap.size ≤ W.heap.size
  block : ∀ k, k < w.heap.size → k ≠ g → W.heap[k]? = w.heap[k]?
  row : ∃ cur, W.heap[g]? = some (.cells cur 38 (0, 0)) ∧ cur.size = C ∧ ∀ j, j < d.size → cur[off + j]? = some (.int .u32 d[j]!)
theorem Rw.lt {w : World} {g off C : Nat} {d : Array Int} {W : World} (h : Rw w g off C d W) : g < W.heap.size := by
  obtain ⟨cur, hg, _⟩ := h.row
  exact lt_of_block hg
theorem Rw.cell {w : World} {g off C : Nat} {d : Array Int} {W : World} (h : Rw w g off C d W) {t : Nat} (ht : t < d.size) : W.cell? ⟨g, off + t, none⟩ = some (.int .u32 d[t]!) := by
  obtain ⟨cur, hg, _, hc⟩ := h.row
  rw [cell_of_row _ _ _ _ _ _ hg]; exact hc t ht
theorem Rw.froz {w : World} {g off C : Nat} {d : Array Int} {W : World} (h : Rw w g off C d W) (t : Nat) : W.frozen? ⟨g, t, none⟩ = false := by
  obtain ⟨cur, hg, _, _⟩ := h.row
  simp [World.frozen?, hg]
theorem Rw.fam {w : World} {g off C : Nat} {d : Array Int} {W : World} (h : Rw w g off C d W) {N : Nat} (hN : d.size = N) :
    ∃ G : Nat → Int, Hid (∀ t, G t = d[t]!) ∧ (∀ t, t < N → W.cell? ⟨g, off + t, none⟩ = some (.int .u32 (G t))) ∧ ∀ t, t < N → W.frozen? ⟨g, off + t, none⟩ = false :=
  ⟨fun t => d[t]!, hid fun _ => rfl, fun t ht => h.cell (by omega), fun t _ => h.froz _⟩
theorem Rw.drewN {w : World} {g off C : Nat} {d : Array Int} {W : World} (h : Rw w g off C d W) (q : Nat) : Rw w g off C d (W.drewN q) := ⟨h.os, h.tape, h.output, h.size, h.block, h.row⟩
theorem Rw.below {w : World} {g off C : Nat} {d : Array Int} {W W' : World} (h : Rw w g off C d W) (hb : Below W.heap.size W W') : Rw w g off C d W' := by
  obtain ⟨cur, hg, hs, hc⟩ := h.row
  exact ⟨hb.os.trans h.os, hb.tape.trans h.tape, hb.output.trans h.output, Nat.le_trans h.size hb.size, fun k hk hne => (hb.block k (Nat.lt_of_lt_of_le hk h.size)).trans (h.block k hk hne), cur, (hb.block g (lt_of_block hg)).trans hg, hs, hc⟩
theorem Rw.trans {w : World} {g off C : Nat} {d d' : Array Int} {W W' : World} (h : Rw w g off C d W) (k : Rw W g off C d' W') : Rw w g off C d' W' :=
  ⟨k.os.trans h.os, k.tape.trans h.tape, k.output.trans h.output, Nat.le_trans h.size k.size, fun j hj hne => (k.block j (Nat.lt_of_lt_of_le hj h.size) hne).trans (h.block j hj hne), k.row⟩
theorem Rw.set {w : World} {g off C : Nat} {d : Array Int} {W : World} (h : Rw w g off C d W) {i : Nat} (hi : i < d.size) (x : Int) : Rw w g off C (d.setIfInBounds i x) (W.setCell ⟨g, off + i, none⟩ (.int .u32 x)) := by
  obtain ⟨cur, hg, hs, hc⟩ := h.row
  have hgl := lt_of_block hg
  refine ⟨h.os, h.tape, h.output, by rw [World.size_setCell]; exact h.size, fun k hk hne => ?_, cur.setIfInBounds (off + i) (.int .u32 x), ?_, by simpa using hs, fun j hj => ?_⟩
  · rw [heap_setCell_other _ _ _ _ (by simpa using hne)]
    exact h.block k hk hne
  · exact heap_setCell_same W g (off + i) cur _ _ hg
  · have hj' : j < d.size := by simpa using hj
    rw [Array.getElem?_setIfInBounds]
    by_cases e : i = j
    · subst e
      have hlt : off + i < cur.size := by
        have := hc i hi
        exact (Array.getElem?_eq_some_iff.1 this).1
      rw [if_pos rfl, if_pos hlt, getElem!_set_same d i x hi]
    · rw [if_neg (by omega), getElem!_set_other d i j x (fun e' => e e'.symm)]
      exact hc j hj'
theorem Rw.swap {w : World} {g off C : Nat} {d : Array Int} {W : World} (h : Rw w g off C d W) {i j : Nat} (hi : i < d.size) (hj : j < d.size) {x y : Int} (hx : x = d[j]!) (hy : y = d[i]!) :
    Rw w g off C (swp d i j) ((W.setCell ⟨g, off + i, none⟩ (.int .u32 x)).setCell ⟨g, off + j, none⟩ (.int .u32 y)) := by
  subst hx; subst hy
  exact (h.set hi _).set (by simpa using hj) _
set_option maxHeartbeats 1000000 in
theorem nan_u (x : Int) (w : World) : Calls Try.prog 82 #[.int .u32 x] w fun e w' => e = .returned (.bool false) ∧ w' = w := by
  go_enter Try.func82, Try.ntmps82
  go_wp2
  go_ret
  exact ⟨by simp, rfl⟩
set_option maxHeartbeats 1000000 in
theorem less_u (x y : Int) (w : World) : Calls Try.prog 75 #[.int .u32 x, .int .u32 y] w fun e w' => e = .returned (.bool (ltInt x y)) ∧ w' = w := by
  go_enter Try.func75, Try.ntmps75
  go_wp2_with (go_at_call 82; refine (nan_u _ _).mono ?_; rintro e w' ⟨rfl, rfl⟩)
  go_ret
  exact ⟨rfl, rfl⟩
set_option maxHeartbeats 8000000 in
set_option maxRecDepth 1000000 in
theorem ins_u (w0 : World) (g off C N cap a b : Nat) (d : Array Int) (w : World) (h : Rw w0 g off C d w) (hN : d.size = N) (hab : a ≤ b) (hb : b ≤ N) (hsz : N < 4611686018427387904) :
    Calls Try.prog 69 #[.slice (some ⟨g, off, none⟩) N cap, .int .i64 a, .int .i64 b] w fun e w' =>
      e = .returned (.tuple #[]) ∧ Rw w0 g off C (insertionSort ltInt d a b) w' := by
  have HN := hid hN
  have H0 := hid h
  clear hN h
  go_enter Try.func69, Try.ntmps69
  go_wp2
  go_loopw [6] (fun vi wr => ∃ (i : Nat) (dk : Array Int), vi = .int .i64 i ∧ a < i ∧ i ≤ b + 1 ∧ Hid (dk.size = N) ∧ Hid (Rw w0 g off C dk wr) ∧
      Hid (insOuter ltInt a b i dk = insertionSort ltInt d a b)) (fun vi _ => b + 1 - (intOf vi).toNat)
  case atStart => exact ⟨a + 1, d, by go_num, by omega, by omega, HN, H0, rfl⟩
  case round =>
    obtain ⟨i, dk, rfl, hai, hib, HSK, HRK, HO⟩ := hrel
    clear H0
    go_wp2
    · go_loopw [7] (fun vj wr2 => ∃ (j : Nat) (dj : Array Int), vj = .int .i64 j ∧ a ≤ j ∧ j ≤ i ∧ Hid (dj.size = N) ∧ Hid (Rw w0 g off C dj wr2) ∧
          Hid (insInner ltInt a j dj = insInner ltInt a i dk)) (fun vj _ => (intOf vj).toNat)
      case atStart => exact ⟨i, dk, rfl, by omega, Nat.le_refl _, HSK, HRK, rfl⟩
      case round =>
        obtain ⟨j, dj, rfl, haj, hji, HSJ, HRJ, HI⟩ := hrel
        have hlt : i < b := by assumption
        obtain ⟨G, HG, hcw, hfw⟩ := HRJ.out.fam HSJ.out
        have OUT : Hid ((j ≤ a ∨ ltInt dj[j]! dj[j - 1]! = false) → ∀ q, ∃ i' dk', Value.int .i64 ((i : Int) + 1) = .int .i64 (i' : Nat) ∧ a < i' ∧ i' ≤ b + 1 ∧ Hid (dk'.size = N) ∧
            Hid (Rw w0 g off C dk' (wr.drewN q)) ∧ Hid (insOuter ltInt a b i' dk' = insertionSort ltInt d a b)) := fun hs q =>
          ⟨i + 1, dj, by go_num, by omega, by omega, HSJ, HRJ.out.drewN q, by show _ = _; rw [← HO.out, insOuter_go _ _ _ _ _ hlt, ← HI.out, insInner_stop _ _ _ _ hs]⟩
        go_wp2
        by_cases hja : a < j
        · go_big_quiet (first | (go_at_call 75; refine Calls.quiet_of_same (less_u _ _ _)))
          go_wp2
          · have hl : ltInt (G j) (G (j - 1)) = true := by assumption
            go_region
            all_goals go_wp2
            go_roundw
            case rel =>
              refine ⟨j - 1, swp dj j (j - 1), by congr 1; omega, by omega, by omega, by show _ = _; rw [size_swp]; exact HSJ.out, ?_, ?_⟩
              · have := (HRJ.out.drewN (nq + 1)).swap (i := j) (j := j - 1) (by have := HSJ.out; omega) (by have := HSJ.out; omega) (HG.out (j - 1)) (HG.out j)
                exact this
              · show _ = _
                rw [← HI.out, insInner_go ltInt a j dj hja (by rw [← HG.out, ← HG.out]; exact hl)]
            case measure => simp [intOf]; omega
          · have hl : ltInt (G j) (G (j - 1)) = false := by assumption
            go_roundw
            case rel => exact OUT.out (Or.inr (by rw [← HG.out, ← HG.out]; exact hl)) nq
            case measure => simp [intOf]; omega
        · go_big_quiet (first | (go_at_call 75; refine Calls.quiet_of_same (less_u _ _ _)))
          go_wp2
          go_roundw
          case rel => exact OUT.out (Or.inl (by omega)) nq
          case measure => simp [intOf]; omega
    · have hge : ¬ i < b := by assumption
      go_end0
      refine ⟨rfl, ?_⟩
      rw [← HO.out, insOuter_stop _ _ _ _ _ hge]
      exact HRK.out
end Go.Proofs.Herb
