/- The contract of CurrentsFull: it answers true. No condition. -/
import Derived.Test.YteopiecmaihjeaaCurL
namespace Go.Proofs.Herb
open Go.RowKit Go.Sort
/-- two numbers in memory -/
theorem pair_cells {w : World} {B x y : Nat} (h : w.heap[B]? = some (.cells #[.int .u64 (x : Int), .int .u64 (y : Int)] 23 (0, 0))) : w.cell? ⟨B, 0, none⟩ = some (.int .u64 (x : Int)) ∧ w.cell? ⟨B, 1, none⟩ = some (.int .u64 (y : Int)) :=
  ⟨cell_of_row w B 0 _ _ _ h, cell_of_row w B 1 _ _ _ h⟩
set_option maxRecDepth 100000 in
set_option maxHeartbeats 1600000 in
theorem currentsFull_any (x y r : Nat) (hx : x < 18446744073709551616) (hy : y < 18446744073709551616) (hr : r < 256) (w : World) :
    Calls Try.prog 3 #[.agg #[.int .u64 (x : Int), .int .u64 (y : Int)], .int .u8 (r : Int)] w fun e w' => e = .returned (.bool true) ∧ Below w.heap.size w w' := by
  obtain ⟨w0, hw0, hL, hA⟩ : ∃ w0, w0 = w.alloc (.cells #[.int .u64 (x : Int), .int .u64 (y : Int)] 23) ∧ w0.heap[w.heap.size]? = some (.cells #[.int .u64 (x : Int), .int .u64 (y : Int)] 23 (0, 0)) ∧ Below w.heap.size w w0 := ⟨_, rfl, heap_alloc_new _ _, (Below.refl w.heap.size w).alloc (Nat.le_refl _) _⟩
  have hbL := lt_of_block hL
  have HL := hid hL
  have HA := hid hA
  have HW := hid hw0
  clear hL hA hw0
  go_enter Try.func3, Try.ntmps3
  go_wp2_with fail
  rw [← HW.out]
  (with_reducible refine (new100 w0).mono ?_)
  rintro e w1 ⟨m, rfl, hD, hB, hF⟩
  have HD := hid hD
  have HB := hid hB
  have HF := hid (show ∀ k, k ∈ m.fp → w.heap.size + 1 ≤ k from fun k hk => Nat.le_trans hbL (hF k hk))
  have HB := hid (HB.out.mono (B' := w.heap.size + 1) hbL)
  clear hD hB hF
  obtain ⟨c0, c1⟩ := pair_cells ((HB.out.block _ (Nat.lt_succ_self _)).trans HL.out)
  go_wp2_with fail
  (with_reducible refine (set_any m (newS 100) 0 x hx w1 HD.out new100_ok (by decide)).mono ?_)
  rintro e w3 ⟨m3, rfl, hD3, hDD, hM⟩
  rw [(set_first x).1]
  rw [(set_first x).2] at hD3
  have hfr := hM.fresh (B := w.heap.size + 1) (Nat.le_trans hbL HB.out.size) HF.out
  have HD := hid hD3
  have HB := hid (HB.out.trans hfr.2)
  have HF := hid hfr.1
  have HDD := hid hDD
  clear hD3 hM hfr hDD c0 c1
  obtain ⟨R, hR⟩ : ∃ R : Int, R = 12 + (r : Int) % 12 := ⟨_, rfl⟩
  have hR0 : 0 ≤ R := by omega
  have hR1 : R < 24 := by omega
  have HR := hid hR
  clear hR
  go_wp2_with fail
  rw [← HDD.out, ← HR.out]
  (with_reducible refine (setRoom_any m3 (curS 100 (contentL x)) R w3 HD.out).mono ?_)
  rintro e w4 ⟨rfl, hD4, hM4⟩
  rw [show setRoomE R = 0 from by unfold setRoomE; rw [if_neg (by omega)]]
  rw [show setRoomS (curS 100 (contentL x)) R = curS R (contentL x) from by unfold setRoomS; rw [if_neg (by omega)]; rfl] at hD4
  have hfr := hM4.fresh (B := w.heap.size + 1) (Nat.le_trans hbL HB.out.size) HF.out
  have HD := hid hD4
  have HB := hid (HB.out.trans hfr.2)
  clear hD4 hM4 hfr
  obtain ⟨c0, c1⟩ := pair_cells ((HB.out.block _ (Nat.lt_succ_self _)).trans HL.out)
  have o4 : DsOk (curS R (contentL x)) 1 := cur_ok hR0 (by omega) (by rw [contentL_len]; decide)
  have hsf := set_full (room := R) (b := contentL x) y hR1 (contentL_len x)
  have o5 : DsOk (fullS R (contentL x)) 12 := by
    rw [← hsf.2]
    exact o4.run (contentL y) 5
  have O4 := hid o4
  have O5 := hid o5
  have HSF := hid hsf
  clear o4 o5 hsf
  go_wp2_with fail
  (with_reducible refine (set_any m3 (curS R (contentL x)) 1 y hy w4 HD.out O4.out (by decide)).mono ?_)
  rintro e w5 ⟨m5, rfl, hD5, hDD5, hM5⟩
  rw [HSF.out.1]
  rw [HSF.out.2] at hD5
  have hfr := hM5.fresh (B := w.heap.size + 1) (Nat.le_trans hbL HB.out.size) HF.out
  have HD := hid hD5
  have HB := hid (HB.out.trans hfr.2)
  have HDD5 := hid hDD5
  clear hD5 hM5 hfr hDD5 c0 c1
  have hg := get_good (s := fullS R (contentL x)) hx (by rfl) (by rfl) (by rfl)
  have HG := hid hg
  clear hg
  go_wp2_with fail
  rw [← HDD5.out]
  (with_reducible refine (get_any m5 (fullS R (contentL x)) 12 w5 HD.out O5.out (by decide)).mono ?_)
  rintro e w6 ⟨rfl, hB6⟩
  rw [HG.out.1, HG.out.2]
  have HD := hid (HD.out.below hB6)
  have HB := hid (below_on HB.out hbL hB6)
  clear hB6
  have hl := list_any m5 (fullS R (contentL x)) w6 HD.out (keysOf O5.out (by decide))
  rw [full_sorted] at hl
  have HLi := hid hl
  clear hl
  go_wp2_with fail
  (with_reducible refine HLi.out.mono ?_)
  rintro e w7 ⟨q7, rfl, hF7, hB7⟩
  obtain ⟨b7, o7, rfl, c7⟩ := hF7.rd.cell (k := 0) (by decide)
  have c7 : w7.cell? ⟨b7, o7, none⟩ = some (.string kC) := c7
  have HB := hid (below_on HB.out hbL hB7)
  have hbb := seq (rfl : kC = kC)
  obtain ⟨c0, c1⟩ := pair_cells ((HB.out.block _ (Nat.lt_succ_self _)).trans HL.out)
  clear hF7 hB7
  go_wp2_with fail
  (with_reducible refine (livesC_any w7).mono ?_)
  rintro e w8 ⟨rfl, hB8⟩
  go_wp2_with fail
  go_ret
  exact ⟨rfl, below_on (HA.out.trans (HB.out.mono (Nat.le_succ _))) (Nat.le_refl _) hB8⟩
end Go.Proofs.Herb
