
/- slices.Sort's family at uint32, the seventh part: bits.Len (the shelf's contract, laid in plain words), the next power of two, a number more of the row of numbers, breakPatterns. (filled by gen_su.py out of XSug.src) -/
import Derived.Test.YtnkkfdlmcpnokaaSub
import Derived.Sort.Walk7a
import Derived.Shelf.Small.Bits
import Derived.Sort.WalkA14
import Derived.RangeFuncRecord
namespace Go.Proofs.Herb
open Go.RowKit Go.Sort
def lenLay_ren : Go.Shelf.Ren := ⟨fun | 125 => 47 | 128 => 60 | 129 => 61 | n => n, fun | 46 => 77 | 51 => 38 | 53 => 39 | n => n, fun | n => n⟩
theorem lenLay : Go.Proofs.Lays.n125 Try.prog lenLay_ren := {
  mixed := by kernel_rfl
  f125 := Try.func47.trans (congrArg some (by kernel_rfl))
  f128 := Try.func60.trans (congrArg some (by kernel_rfl))
  f129 := Try.func61.trans (congrArg some (by kernel_rfl))
  t3 := Try.underlying3
  a3 := Try.isAgg3
  z3 := Try.sizeOf3
  v3 := Try.zeroValue3
  t4 := Try.underlying4
  a4 := Try.isAgg4
  z4 := Try.sizeOf4
  v4 := Try.zeroValue4
  t5 := Try.underlying5
  a5 := Try.isAgg5
  z5 := Try.sizeOf5
  v5 := Try.zeroValue5
  t9 := Try.underlying9
  a9 := Try.isAgg9
  z9 := Try.sizeOf9
  v9 := Try.zeroValue9
  t46 := Try.underlying77
  a46 := Try.isAgg77
  z46 := Try.sizeOf77
  v46 := Try.zeroValue77
  t51 := Try.underlying38
  a51 := Try.isAgg38
  z51 := Try.sizeOf38
  v51 := Try.zeroValue38
  t53 := Try.underlying39
  a53 := Try.isAgg39
  z53 := Try.sizeOf39
  v53 := Try.zeroValue39 }
theorem len_u (n : Nat) (hn : n < 4611686018427387904) (w : World) : Calls Try.prog 47 #[.int .u64 (n : Int)] w fun e w' => e = .returned (.int .i64 (bitsLen n : Nat)) ∧ w' = w := by
  have h := Any.bits_Len lenLay (n : Int) w (by omega) (by omega)
  rwa [Int.toNat_natCast, bitLen_eq _ (by omega)] at h
theorem pow_u (n : Nat) (hn : n < 4611686018427387904) (w : World) :
    Calls Try.prog 65 #[.int .i64 n] w fun e w' => e = .returned (.int .u64 ((1 <<< bitsLen n : Nat) : Int)) ∧ w' = w := by
  have hk : bitsLen n ≤ 62 := (bitsLen_le_iff n 62).2 (by omega)
  have hp := wrap_two_pow (bitsLen n) hk
  have hL := len_u n hn
  go_enter Try.func65, Try.ntmps65
  go_wp2_with (go_at_call 47; refine (hL _).mono ?_; rintro e w' ⟨rfl, rfl⟩)
  go_ret
  exact ⟨rfl, rfl⟩
/-- a number in a cell of its own; all else is as it was -/
structure Cw (w : World) (sb : Nat) (v : Value) (W : World) : Prop where
  os : W.os = w.os
  tape : W.tape = w.tape
  output : W.output = w.output
  size : W.heap.size = w.heap.size
  block : ∀ k, k ≠ sb → W.heap[k]? = w.heap[k]?
  row : W.heap[sb]? = some (.cells #[v] 106 (0, 0))
theorem Cw.set {w : World} {sb : Nat} {v : Value} {W : World} (h : Cw w sb v W) (t : Value) : Cw w sb t (W.setCell ⟨sb, 0, none⟩ t) :=
  ⟨h.os, h.tape, h.output, by rw [World.size_setCell]; exact h.size, fun k hk => by rw [heap_setCell_other _ _ _ _ (by simpa using hk)]; exact h.block k hk, heap_setCell_same W sb 0 _ _ _ h.row⟩
theorem Cw.drewN {w : World} {sb : Nat} {v : Value} {W : World} (h : Cw w sb v W) (q : Nat) : Cw w sb v (W.drewN q) := ⟨h.os, h.tape, h.output, h.size, h.block, h.row⟩
theorem Cw.cell {w : World} {sb : Nat} {v : Value} {W : World} (h : Cw w sb v W) : W.cell? ⟨sb, 0, none⟩ = some v ∧ W.frozen? ⟨sb, 0, none⟩ = false := by
  refine ⟨?_, ?_⟩
  · rw [cell_of_row _ _ _ _ _ _ h.row]; rfl
  · simp [World.frozen?, h.row]
theorem bits_u64_nat (x : Nat) (b : Int) : ∃ y : Nat, bits .xor .u64 (x : Int) b = (y : Int) ∧ y < 18446744073709551616 := by
  refine ⟨(bits .xor .u64 (x : Int) b).toNat, ?_, ?_⟩ <;> simp only [bits, IntKind.wrap_u64] <;> omega
set_option maxHeartbeats 2000000 in
theorem next_u (sb x : Nat) (w : World) (h : Cw w sb (.int .u64 (x : Int)) w) :
    Calls Try.prog 66 #[.pointer (some ⟨sb, 0, none⟩)] w fun e w' => ∃ y : Nat, y < 18446744073709551616 ∧ e = .returned (.int .u64 (y : Int)) ∧ Cw w sb (.int .u64 (y : Int)) w' := by
  obtain ⟨hc, hf⟩ := h.cell
  have H := hid h
  clear h
  go_enter Try.func66, Try.ntmps66
  go_wp2
  go_region
  go_wp2
  obtain ⟨y1, e1, hy1⟩ := bits_u64_nat x (IntKind.u64.wrap ((x : Int) * 8192))
  rw [e1]
  have H1 := hid ((H.out.set (.int .u64 (y1 : Int))).drewN 1)
  generalize hW1 : (World.setCell _ _ _).drew = W1
  replace H1 : Hid (Cw w sb (.int .u64 (y1 : Int)) W1) := hid (by rw [← hW1]; exact H1.out)
  obtain ⟨hc1, hf1⟩ := H1.out.cell
  clear hW1 e1
  go_region
  go_wp2
  obtain ⟨y2, e2, hy2⟩ := bits_u64_nat y1 ((y1 : Int) / 128)
  rw [e2]
  have H2 := hid ((H1.out.set (.int .u64 (y2 : Int))).drewN 1)
  generalize hW2 : (World.setCell _ _ _).drew = W2
  replace H2 : Hid (Cw w sb (.int .u64 (y2 : Int)) W2) := hid (by rw [← hW2]; exact H2.out)
  obtain ⟨hc2, hf2⟩ := H2.out.cell
  clear hW2 e2
  go_region
  go_wp2
  obtain ⟨y3, e3, hy3⟩ := bits_u64_nat y2 (IntKind.u64.wrap ((y2 : Int) * 131072))
  rw [e3]
  have H3 := hid ((H2.out.set (.int .u64 (y3 : Int))).drewN 1)
  generalize hW3 : (World.setCell _ _ _).drew = W3
  replace H3 : Hid (Cw w sb (.int .u64 (y3 : Int)) W3) := hid (by rw [← hW3]; exact H3.out)
  obtain ⟨hc3, hf3⟩ := H3.out.cell
  clear hW3 e3
  go_wp2
  go_ret
  exact ⟨y3, hy3, rfl, H3.out⟩
theorem Rw.cw {w : World} {g off C sb : Nat} {d : Array Int} {v : Value} {W W' : World} (h : Rw w g off C d W) (k : Cw W sb v W') (hne : sb ≠ g) (hb : w.heap.size ≤ sb) : Rw w g off C d W' := by
  obtain ⟨cur, hg, hs, hc⟩ := h.row
  exact ⟨k.os.trans h.os, k.tape.trans h.tape, k.output.trans h.output, by have := h.size; have := k.size; omega, fun j hj hn => (k.block j (by omega)).trans (h.block j hj hn), cur, (k.block g (fun e => hne e.symm)).trans hg, hs, hc⟩
theorem and_lt (y M1 : Nat) (hy : y < 18446744073709551616) (hM : M1 < 18446744073709551616) : ∃ o : Nat, bits .and .u64 (y : Int) (M1 : Int) = (o : Int) ∧ o ≤ M1 :=
  ⟨y &&& M1, u64_and_nat y M1 hy hM, Nat.and_le_right⟩
set_option maxHeartbeats 8000000 in
set_option maxRecDepth 1000000 in
theorem brk_u (w0 : World) (g off C N cap a b : Nat) (d : Array Int) (w : World) (h : Rw w0 g off C d w) (hN : d.size = N) (hab : a + 12 < b) (hb : b ≤ N) (hsz : N < 4611686018427387904) :
    Calls Try.prog 71 #[.slice (some ⟨g, off, none⟩) N cap, .int .i64 a, .int .i64 b] w fun e w' =>
      e = .returned (.tuple #[]) ∧ ∃ d', PermIn a b d d' ∧ Rw w0 g off C d' w' := by
  have hgl := h.lt
  have hw0 := h.size
  have HN := hid hN
  obtain ⟨L, hL⟩ : ∃ L, L = b - a := ⟨_, rfl⟩
  have l1 : 12 < L := by omega
  have l2 : ((b : Int) - (a : Int)) = (L : Int) := by omega
  obtain ⟨Q, hQ⟩ : ∃ Q, Q = L / 4 := ⟨_, rfl⟩
  have q1 : ((L : Int) / 4) = (Q : Int) := by omega
  have q2 : 4 * Q ≤ L := by omega
  have q3 : 3 ≤ Q := by omega
  have lN : L ≤ N := by omega
  have lab : a + L = b := by omega
  obtain ⟨M1, hM1⟩ : ∃ M1, M1 = (1 <<< bitsLen L) - 1 := ⟨_, rfl⟩
  have hpow : 1 <<< bitsLen L ≤ 2 * L := by rw [Nat.one_shiftLeft]; exact two_pow_bitsLen_le (by omega)
  have hpow1 : 1 ≤ 1 <<< bitsLen L := by rw [Nat.one_shiftLeft]; exact Nat.one_le_two_pow
  have hm0 : ((1 <<< bitsLen L : Nat) : Int) = (M1 : Int) + 1 := by omega
  have hm1 : M1 + 1 ≤ 2 * L := by omega
  have HP := hid (pow_u L (by omega))
  have hcv : IntKind.u64.wrap (L : Int) = (L : Int) := by rw [IntKind.wrap_u64]; omega
  clear hQ hL hM1 hpow hpow1
  obtain ⟨W1, hW1⟩ : ∃ W1, (w.alloc (.cells #[.int .u64 0] 106)).setCell ⟨w.heap.size, 0, none⟩ (.int .u64 (L : Int)) = W1 := ⟨_, rfl⟩
  have hC0 : Cw (w.alloc (.cells #[.int .u64 0] 106)) w.heap.size (.int .u64 0) (w.alloc (.cells #[.int .u64 0] 106)) := ⟨rfl, rfl, rfl, rfl, fun _ _ => rfl, by rw [World.alloc_heap_new]⟩
  have hC1 := hC0.set (.int .u64 (L : Int))
  have hR1 : Rw w0 g off C d W1 := by
    rw [← hW1]
    exact (h.below ((RowKit.Below.refl _ w).alloc (Nat.le_refl _) _)).cw hC1 (by omega) hw0
  rw [hW1] at hC1
  have hX1 : W1.heap[w.heap.size]? = some (.cells #[.int .u64 (L : Int)] 106 (0, 0)) := hC1.row
  have HX1 := hid hX1
  have HR1 := hid hR1
  have HW1 := hid hW1
  clear hC0 hC1 hR1 hX1 h hN
  have hpc := HP.out W1
  rw [hm0] at hpc
  go_enter Try.func71, Try.ntmps71
  go_wp2_with (go_at_call 65; with_reducible refine hpc.mono ?_; rintro e w2 ⟨rfl, rfl⟩)
  clear hpc HP hW1
  obtain ⟨i0, hi0⟩ : ∃ i0, i0 = a + Q * 2 - 1 := ⟨_, rfl⟩
  go_loopw [9] (fun vi wr => ∃ (i x : Nat) (dk : Array Int), vi = .int .i64 i ∧ i0 ≤ i ∧ i ≤ i0 + 3 ∧ Hid (dk.size = N) ∧ Hid (PermIn a b d dk) ∧ Hid (Rw w0 g off C dk wr) ∧
      Hid (wr.heap[w.heap.size]? = some (.cells #[.int .u64 (x : Int)] 106 (0, 0)))) (fun vi _ => i0 + 4 - (intOf vi).toNat)
  case atStart => exact ⟨i0, L, d, by congr 1; omega, Nat.le_refl _, by omega, HN, permIn_refl d a b, HR1, HX1⟩
  case round =>
    obtain ⟨i, x, dk, rfl, hii, hi3, HSK, HPK, HRK, HXK⟩ := hrel
    clear HR1 HX1 HW1
    by_cases hi : i ≤ a + Q * 2 + 1
    · have hi' : (i : Int) ≤ (a : Int) + (Q : Int) * 2 + 1 := by omega
      have hn := next_u w.heap.size x wr ⟨rfl, rfl, rfl, rfl, fun _ _ => rfl, HXK.out⟩
      go_wp2_with (go_at_call 66; with_reducible refine hn.mono ?_; rintro e w3 ⟨y, hy, rfl, hw3⟩; obtain ⟨o, ho, ho1⟩ := and_lt y M1 hy (by omega); have HR4 := hid (HRK.out.cw hw3 (by omega) hw0); have HX4 := hid hw3.row; clear hw3 hy hn)
      · have hoL : L ≤ o := by omega
        obtain ⟨p, hp⟩ : ∃ p : Nat, (o : Int) - (L : Int) = (p : Int) := ⟨o - L, by omega⟩
        rw [hp]
        have ho2 : p < L := by omega
        obtain ⟨G, HG, hcw, hfw⟩ := HR4.out.fam HSK.out
        obtain ⟨v3, hy3⟩ := cell?_setCell_some (w := w3) (p := ⟨g, off + i, none⟩) (x := .int .u32 (G (a + p))) (q := ⟨g, off + (a + p), none⟩) (hcw (a + p) (by omega))
        have HR5 := hid ((HR4.out.drewN 1).swap (i := i) (j := a + p) (by have := HSK.out; omega) (by have := HSK.out; omega) (HG.out (a + p)) (HG.out i))
        have HX5 : Hid (((((w3.drewN 1).setCell ⟨g, off + i, none⟩ (.int .u32 (G (a + p)))).setCell ⟨g, off + (a + p), none⟩ (.int .u32 (G i)))).heap[w.heap.size]? = some (.cells #[.int .u64 (y : Int)] 106 (0, 0))) := by
          show _ = _
          rw [heap_setCell_other _ _ _ _ (by show w.heap.size ≠ g; omega), heap_setCell_other _ _ _ _ (by show w.heap.size ≠ g; omega)]
          exact HX4.out
        go_region
        all_goals go_wp2
        go_roundw
        case rel => exact ⟨i + 1, y, swp dk i (a + p), by go_num, by omega, by omega, hid ((size_swp _ _ _).trans HSK.out), hid (permIn_trans _ _ _ a b HPK.out (swp_permIn dk a b i (a + p) (by omega) (by omega) (by omega) (by omega) (by have := HSK.out; omega))), HR5, HX5⟩
        case measure => simp [intOf]; omega
      · have hoL : o < L := by omega
        have ho2 : o < L := by omega
        obtain ⟨G, HG, hcw, hfw⟩ := HR4.out.fam HSK.out
        obtain ⟨v3, hy3⟩ := cell?_setCell_some (w := w3) (p := ⟨g, off + i, none⟩) (x := .int .u32 (G (a + o))) (q := ⟨g, off + (a + o), none⟩) (hcw (a + o) (by omega))
        have HR5 := hid ((HR4.out.drewN 1).swap (i := i) (j := a + o) (by have := HSK.out; omega) (by have := HSK.out; omega) (HG.out (a + o)) (HG.out i))
        have HX5 : Hid (((((w3.drewN 1).setCell ⟨g, off + i, none⟩ (.int .u32 (G (a + o)))).setCell ⟨g, off + (a + o), none⟩ (.int .u32 (G i)))).heap[w.heap.size]? = some (.cells #[.int .u64 (y : Int)] 106 (0, 0))) := by
          show _ = _
          rw [heap_setCell_other _ _ _ _ (by show w.heap.size ≠ g; omega), heap_setCell_other _ _ _ _ (by show w.heap.size ≠ g; omega)]
          exact HX4.out
        go_region
        all_goals go_wp2
        go_roundw
        case rel => exact ⟨i + 1, y, swp dk i (a + o), by go_num, by omega, by omega, hid ((size_swp _ _ _).trans HSK.out), hid (permIn_trans _ _ _ a b HPK.out (swp_permIn dk a b i (a + o) (by omega) (by omega) (by omega) (by omega) (by have := HSK.out; omega))), HR5, HX5⟩
        case measure => simp [intOf]; omega
    · have hi' : ¬ (i : Int) ≤ (a : Int) + (Q : Int) * 2 + 1 := by omega
      go_wp2
      go_end0
      exact ⟨rfl, dk, HPK.out, HRK.out⟩
end Go.Proofs.Herb
