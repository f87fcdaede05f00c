/- The contracts of a pointer's Get at no disk, of lives and of CurrentsFull and CurrentsTurned: they answer true. No condition. -/
import Derived.Test.YteopiecmaihjeaaCurQ
namespace Go.Proofs.Herb
open Go.RowKit Go.Sort
theorem found_nil (k : ByteArray) (w : World) : Calls Try.prog 37 #[.pointer none, .string k] w fun e w' => e = .returned (.tuple #[.int .i64 0, .int .i64 2]) ∧ w = w' := by
  go_enter Try.func37, Try.ntmps37
  go_wp2_with fail
  (with_reducible refine (there_nil w).mono ?_)
  rintro e w1 ⟨rfl, rfl⟩
  go_wp2_with fail
  go_ret2
  exact ⟨rfl, rfl⟩
theorem loose_nil (k : ByteArray) (w : World) : Calls Try.prog 42 #[.pointer none, .string k] w fun e w' => e = .returned (.tuple #[.int .i64 0, .int .i64 2]) ∧ w = w' := by
  go_enter Try.func42, Try.ntmps42
  go_wp2_with fail
  (with_reducible refine (found_nil k w).mono ?_)
  rintro e w1 ⟨rfl, rfl⟩
  go_wp2_with fail
  go_ret2
  exact ⟨rfl, rfl⟩
theorem noneC_nil (w : World) : Calls Try.prog 16 #[.pointer none] w fun e w' => e = .returned (.bool true) ∧ w = w' := by
  go_enter Try.func16, Try.ntmps16
  go_wp2_with fail
  (with_reducible refine (loose_nil _ w).mono ?_)
  rintro e w1 ⟨rfl, rfl⟩
  go_wp2_with fail
  go_ret
  exact ⟨rfl, rfl⟩
theorem get_nil (w : World) : Calls Try.prog 9 #[.pointer none] w fun e w' => e = .returned (.tuple #[.int .u64 0, .int .i64 2]) ∧ w = w' := by
  go_enter Try.func9, Try.ntmps9
  go_wp2_with fail
  (with_reducible refine (noneC_nil w).mono ?_)
  rintro e w1 ⟨rfl, rfl⟩
  go_wp2_with fail
  go_ret2
  exact ⟨rfl, rfl⟩
/-- a new disk of room 100 -/
theorem new100 (w : World) : Calls Try.prog 6 #[.int .i64 100] w fun e w' => ∃ m : DM, e = .returned (.tuple #[.pointer (some ⟨m.D, 0, none⟩), .int .i64 0]) ∧ DiskAt w' m (newS 100) ∧ Below w.heap.size w w' ∧ ∀ k, k ∈ m.fp → w.heap.size ≤ k := by
  refine (new_any 100 (by decide) (by decide) w).mono ?_
  rintro e w1 ⟨rfl, h1, h2⟩
  exact ⟨newM w.heap.size, rfl, h1, h2, newM_fresh _⟩
theorem new100_ok : DsOk (newS 100) 0 := DsOk.new (by decide) (by decide)
theorem cur100_ok (N : Nat) : DsOk (curS 100 (contentL N)) 1 := cur_ok (by decide) (by decide) (by rw [contentL_len]; decide)
theorem get_new : getE (newS 100) = 7 ∧ getN (newS 100) = 0 := ⟨by rfl, by rfl⟩
theorem get_first {N : Nat} (hN : N < 18446744073709551616) (room : Int) : getE (curS room (contentL N)) = 0 ∧ getN (curS room (contentL N)) = N := get_good hN (by rfl) (by rfl) (by rfl)
set_option maxRecDepth 100000 in
set_option maxHeartbeats 800000 in
theorem livesC_any (w : World) : Calls Try.prog 11 #[] w fun e w' => e = .returned (.bool true) ∧ Below w.heap.size w w' := by
  go_enter Try.func11, Try.ntmps11
  go_wp2_with fail
  (with_reducible refine (new100 w).mono ?_)
  rintro e w1 ⟨m, rfl, hD, hB, hF⟩
  have HD := hid hD
  have HB := hid hB
  have HF := hid hF
  clear hD hB hF
  go_wp2_with fail
  (with_reducible refine (get_any m (newS 100) 0 w1 HD.out new100_ok (by decide)).mono ?_)
  rintro e w2 ⟨rfl, hB2⟩
  rw [get_new.1, get_new.2]
  have HD := hid (HD.out.below hB2)
  have HB := hid (below_on HB.out (Nat.le_refl _) hB2)
  clear hB2
  go_wp2_with fail
  have h7 := set_any m (newS 100) 0 7 (by decide) w2 HD.out new100_ok (by decide)
  rw [show (((7 : Nat) : Int)) = 7 from rfl] at h7
  (with_reducible refine h7.mono ?_)
  clear h7
  rintro e w3 ⟨m3, rfl, hD3, hDD, hM⟩
  rw [(set_first 7).1]
  rw [(set_first 7).2] at hD3
  have hfr := hM.fresh (B := w.heap.size) HB.out.size HF.out
  have HD := hid hD3
  have HB := hid (HB.out.trans hfr.2)
  have HDD := hid hDD
  clear hD3 hM hfr hDD
  go_wp2_with fail
  rw [← HDD.out]
  (with_reducible refine (get_any m3 (curS 100 (contentL 7)) 1 w3 HD.out (cur100_ok 7) (by decide)).mono ?_)
  rintro e w4 ⟨rfl, hB4⟩
  rw [(get_first (N := 7) (by decide) 100).1, (get_first (N := 7) (by decide) 100).2]
  have HB := hid (below_on HB.out (Nat.le_refl _) hB4)
  clear hB4
  go_wp2_with fail
  (with_reducible refine (get_nil w4).mono ?_)
  rintro e w5 ⟨rfl, rfl⟩
  go_wp2_with fail
  go_ret
  exact ⟨rfl, HB.out⟩
set_option maxRecDepth 100000 in
set_option maxHeartbeats 1600000 in
theorem currentsTurned_any (N at_ b : Nat) (hN : N < 18446744073709551616) (ha : at_ < 256) (hb : b < 256) (w : World) :
    Calls Try.prog 4 #[.int .u64 (N : Int), .int .u8 (at_ : Int), .int .u8 (b : Int)] w fun e w' => e = .returned (.bool true) ∧ Below w.heap.size w w' := by
  go_enter Try.func4, Try.ntmps4
  go_wp2_with fail
  (with_reducible refine (new100 w).mono ?_)
  rintro e w1 ⟨m, rfl, hD, hB, hF⟩
  have HD := hid hD
  have HB := hid hB
  have HF := hid hF
  clear hD hB hF
  go_wp2_with fail
  (with_reducible refine (set_any m (newS 100) 0 N hN w1 HD.out new100_ok (by decide)).mono ?_)
  rintro e w3 ⟨m3, rfl, hD3, hDD, hM⟩
  rw [(set_first N).1]
  rw [(set_first N).2] at hD3
  have hfr := hM.fresh (B := w.heap.size) HB.out.size HF.out
  have HD := hid hD3
  have HB := hid (HB.out.trans hfr.2)
  have HF := hid hfr.1
  have HDD := hid hDD
  clear hD3 hM hfr hDD
  obtain ⟨S, hS⟩ : ∃ S, S = curS 100 (contentL N) := ⟨_, rfl⟩
  rw [← hS] at HD
  have O := hid (show DsOk S 1 by rw [hS]; exact cur100_ok N)
  by_cases h0 : b = 0
  · have b0 : ((b : Int) == 0) = true := by simp [h0]
    have hu : usedN S = 12 := by rw [hS]; simp [usedN, curS, lenAt, contentL_len]
    have hk : knownE S kC = 0 := by rw [hS]; rfl
    obtain ⟨x, hx⟩ : ∃ x : UInt8, x = UInt8.ofNat at_ := ⟨_, rfl⟩
    have hxn : Value.int .u8 (at_ : Int) = bv x := by rw [hx]; unfold bv; rw [UInt8.toNat_ofNat']; congr 2; omega
    have hS2 : appendS S kC [x] = ⟨100, -1, false, [⟨contentL N ++ [x], 12⟩], [(kC, 0, 1)], 2, [(kC, 0, 1)], 2, []⟩ := by
      unfold appendS
      rw [hk, hu, if_neg (by show ¬ (_ ∨ S.room - _ < _); rw [hS]; simp [curS])]
      rw [hS]
      show _ = _
      simp [curS, letsE, letsS, look, contentL_len]
    have HS2 := hid hS2
    have O2 := hid (O.out.append kC [x])
    have hge : getE (appendS S kC [x]) = 13 := by
      refine (get_bad (b := contentL N ++ [x]) ?_ ?_ ?_ (bad_longer hN x)).1 <;> rw [hS2] <;> rfl
    have HGE := hid hge
    have HXN := hid hxn
    have HU := hid hu
    clear hS hu hk hx hxn hS2 hge h0
    go_wp2_with fail
    rw [HXN.out, ← HDD.out]
    have hrd : Rd (w3.alloc (.cells #[bv x] 5)) (some ⟨w3.heap.size, 0, none⟩) ([x].map bv) := Rd.new w3 [bv x] 5
    (with_reducible refine (append_any m3 S kC (by unfold maxLen; decide) (some ⟨w3.heap.size, 0, none⟩) 1 1 [x] (w3.alloc (.cells #[bv x] 5)) (HD.out.below ((Below.refl _ _).alloc (Nat.le_refl _) _)) O.out.good.ok (by rw [HU.out]; decide) O.out.f0 O.out.f1 O.out.r0 O.out.r1 rfl (Nat.le_refl _) (by unfold maxLen; decide) hrd (fun e => by cases e) (fun _ b' off e hb' => by cases e; exact absurd (HD.out.lt _ hb') (Nat.lt_irrefl _)) (fun f hf => Nat.le_trans (O.out.sure f hf).2 (by decide))).mono ?_)
    rintro e w4 ⟨m4, rfl, hD4, hDD4, hM4⟩
    have hfr := hM4.fresh (B := w.heap.size) (by simp; have := HB.out.size; omega) HF.out
    have HD := hid hD4
    have HB := hid ((HB.out.alloc HB.out.size _).trans hfr.2)
    have HDD4 := hid hDD4
    clear hD4 hM4 hfr hDD4
    go_wp2_with fail
    rw [← HDD4.out]
    (with_reducible refine (get_any m4 (appendS S kC [x]) 1 w4 HD.out O2.out (by decide)).mono ?_)
    rintro e w5 ⟨rfl, hB5⟩
    rw [HGE.out]
    have HB := hid (below_on HB.out (Nat.le_refl _) hB5)
    clear hB5
    go_wp2_with fail
    (with_reducible refine (livesC_any w5).mono ?_)
    rintro e w6 ⟨rfl, hB6⟩
    go_wp2_with fail
    go_ret
    exact ⟨rfl, below_on HB.out (Nat.le_refl _) hB6⟩
  · have b0 : ((b : Int) == 0) = false := by simp; omega
    obtain ⟨x, hx⟩ : ∃ x : UInt8, x = UInt8.ofNat b := ⟨_, rfl⟩
    have hxn : (b : Int) = (x.toNat : Int) := by rw [hx, UInt8.toNat_ofNat']; omega
    have hx0 : x ≠ 0 := by intro e; rw [e] at hxn; simp at hxn; omega
    obtain ⟨A, hA⟩ : ∃ A, A = at_ % 12 := ⟨_, rfl⟩
    have hAi : (at_ : Int) % 12 = (A : Int) := by omega
    have hf : fileL S kC = contentL N := by rw [hS]; rfl
    have hE : turnBE S kC (A : Int) = 0 := by
      unfold turnBE
      rw [show foundE S kC = 0 by rw [hS]; rfl, if_neg (by decide), hf, contentL_len, if_neg (by omega)]
    have htf := turn_file (b := x) hE
    rw [Int.toNat_natCast, hf] at htf
    have hne : (contentL N).getD A 0 ≠ (contentL N).getD A 0 ^^^ x := by
      intro e
      apply hx0
      have h1 := congrArg (fun y => (contentL N).getD A 0 ^^^ y) e
      simp only [UInt8.xor_self] at h1
      rw [← UInt8.xor_assoc, UInt8.xor_self, UInt8.zero_xor] at h1
      exact h1.symm
    have hkn : knownE (turnBS S kC (A : Int) x) kC = 0 := by rw [(turn_found kC kC _ x).2, hS]; rfl
    have hge : getE (turnBS S kC (A : Int) x) = 13 := by
      refine (get_bad (b := (contentL N).set A ((contentL N).getD A 0 ^^^ x)) ?_ hkn ?_ (bad_turned hN (by omega) hne)).1
      · rw [turn_eq hE, hS]; rfl
      · unfold readL; rw [if_pos hkn]; exact htf
    have HGE := hid hge
    have HE := hid hE
    have HXN := hid hxn
    have HAi := hid hAi
    have O2 := hid (O.out.turnB kC (A : Int) x)
    clear hS hx hxn hx0 hA hf hE htf hne hkn hge h0
    go_wp2_with fail
    rw [HAi.out, HXN.out, ← HDD.out]
    (with_reducible refine (turn_any m3 S kC (by unfold maxLen; decide) (A : Int) x w3 HD.out O.out.good.ok (fun f hf => (O.out.sure f hf).2)).mono ?_)
    rintro e w4 ⟨rfl, hD4, hM4⟩
    rw [HE.out]
    have hfr := hM4.fresh (B := w.heap.size) HB.out.size HF.out
    have HD := hid hD4
    have HB := hid (HB.out.trans hfr.2)
    clear hD4 hM4 hfr
    go_wp2_with fail
    (with_reducible refine (get_any m3 (turnBS S kC (A : Int) x) 1 w4 HD.out O2.out (by decide)).mono ?_)
    rintro e w5 ⟨rfl, hB5⟩
    rw [HGE.out]
    have HB := hid (below_on HB.out (Nat.le_refl _) hB5)
    clear hB5
    go_wp2_with fail
    (with_reducible refine (livesC_any w5).mono ?_)
    rintro e w6 ⟨rfl, hB6⟩
    go_wp2_with fail
    go_ret
    exact ⟨rfl, below_on HB.out (Nat.le_refl _) hB6⟩
end Go.Proofs.Herb
