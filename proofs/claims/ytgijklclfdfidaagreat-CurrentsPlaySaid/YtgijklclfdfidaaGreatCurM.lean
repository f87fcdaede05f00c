/- The contracts of a pointer's Get at no disk, and of lives: it answers true. No condition. -/
import Derived.Test.YtgijklclfdfidaaGreatCurQ
namespace Go.Proofs.Herb
open Go.RowKit Go.Sort
theorem found_nil (k : ByteArray) (w : World) : Calls Tryz.prog 72 #[.pointer none, .string k] w fun e w' => e = .returned (.tuple #[.int .i64 0, .int .i64 2]) ∧ w = w' := by
  go_enter Tryz.func72, Tryz.ntmps72
  go_wp2_with fail
  (with_reducible refine (there_nil w).mono ?_)
  rintro e w1 ⟨rfl, rfl⟩
  go_wp2_with fail
  go_ret2
  exact ⟨rfl, rfl⟩
theorem loose_nil (k : ByteArray) (w : World) : Calls Tryz.prog 63 #[.pointer none, .string k] w fun e w' => e = .returned (.tuple #[.int .i64 0, .int .i64 2]) ∧ w = w' := by
  go_enter Tryz.func63, Tryz.ntmps63
  go_wp2_with fail
  (with_reducible refine (found_nil k w).mono ?_)
  rintro e w1 ⟨rfl, rfl⟩
  go_wp2_with fail
  go_ret2
  exact ⟨rfl, rfl⟩
theorem noneC_nil (w : World) : Calls Tryz.prog 27 #[.pointer none] w fun e w' => e = .returned (.bool true) ∧ w = w' := by
  go_enter Tryz.func27, Tryz.ntmps27
  go_wp2_with fail
  (with_reducible refine (loose_nil _ w).mono ?_)
  rintro e w1 ⟨rfl, rfl⟩
  go_wp2_with fail
  go_ret
  exact ⟨rfl, rfl⟩
theorem get_nil (w : World) : Calls Tryz.prog 22 #[.pointer none] w fun e w' => e = .returned (.tuple #[.int .u64 0, .int .i64 2]) ∧ w = w' := by
  go_enter Tryz.func22, Tryz.ntmps22
  go_wp2_with fail
  (with_reducible refine (noneC_nil w).mono ?_)
  rintro e w1 ⟨rfl, rfl⟩
  go_wp2_with fail
  go_ret2
  exact ⟨rfl, rfl⟩
/-- a new disk of room 100 -/
theorem new100 (w : World) : Calls Tryz.prog 5 #[.int .i64 100] w fun e w' => ∃ m : DM, e = .returned (.tuple #[.pointer (some ⟨m.D, 0, none⟩), .int .i64 0]) ∧ DiskAt w' m (newS 100) ∧ Below w.heap.size w w' ∧ ∀ k, k ∈ m.fp → w.heap.size ≤ k := by
  refine (new_any 100 (by decide) (by decide) w).mono ?_
  rintro e w1 ⟨rfl, h1, h2⟩
  exact ⟨newM w.heap.size, rfl, h1, h2, newM_fresh _⟩
theorem new100_ok : DsOk (newS 100) 0 := DsOk.new (by decide) (by decide)
theorem cur100_ok (N : Nat) : DsOk (curS 100 (contentL N)) 1 := cur_ok (by decide) (by decide) (by rw [contentL_len]; decide)
theorem get_new : getE (newS 100) = 7 ∧ getN (newS 100) = 0 := ⟨by rfl, by rfl⟩
theorem get_first {N : Nat} (hN : N < 18446744073709551616) (room : Int) : getE (curS room (contentL N)) = 0 ∧ getN (curS room (contentL N)) = N := get_good hN (by rfl) (by rfl) (by rfl)
set_option maxRecDepth 100000 in
set_option maxHeartbeats 800000 in
theorem livesC_any (w : World) : Calls Tryz.prog 4 #[] w fun e w' => e = .returned (.bool true) ∧ Below w.heap.size w w' := by
  go_enter Tryz.func4, Tryz.ntmps4
  go_wp2_with fail
  (with_reducible refine (new100 w).mono ?_)
  rintro e w1 ⟨m, rfl, hD, hB, hF⟩
  have HD := hid hD
  have HB := hid hB
  have HF := hid hF
  clear hD hB hF
  go_wp2_with fail
  (with_reducible refine (get_any m (newS 100) 0 w1 HD.out new100_ok (by decide)).mono ?_)
  rintro e w2 ⟨rfl, hB2⟩
  rw [get_new.1, get_new.2]
  have HD := hid (HD.out.below hB2)
  have HB := hid (below_on HB.out (Nat.le_refl _) hB2)
  clear hB2
  go_wp2_with fail
  have h7 := set_any m (newS 100) 0 7 (by decide) w2 HD.out new100_ok (by decide)
  rw [show (((7 : Nat) : Int)) = 7 from rfl] at h7
  (with_reducible refine h7.mono ?_)
  clear h7
  rintro e w3 ⟨m3, rfl, hD3, hDD, hM⟩
  rw [(set_first 7).1]
  rw [(set_first 7).2] at hD3
  have hfr := hM.fresh (B := w.heap.size) HB.out.size HF.out
  have HD := hid hD3
  have HB := hid (HB.out.trans hfr.2)
  have HDD := hid hDD
  clear hD3 hM hfr hDD
  go_wp2_with fail
  rw [← HDD.out]
  (with_reducible refine (get_any m3 (curS 100 (contentL 7)) 1 w3 HD.out (cur100_ok 7) (by decide)).mono ?_)
  rintro e w4 ⟨rfl, hB4⟩
  rw [(get_first (N := 7) (by decide) 100).1, (get_first (N := 7) (by decide) 100).2]
  have HB := hid (below_on HB.out (Nat.le_refl _) hB4)
  clear hB4
  go_wp2_with fail
  (with_reducible refine (get_nil w4).mono ?_)
  rintro e w5 ⟨rfl, rfl⟩
  go_wp2_with fail
  go_ret
  exact ⟨rfl, HB.out⟩
end Go.Proofs.Herb
