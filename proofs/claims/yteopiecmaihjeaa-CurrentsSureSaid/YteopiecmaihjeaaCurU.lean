/- The contract of CurrentsSure: it answers true. For a loss that can be read. -/
import Derived.Test.YteopiecmaihjeaaCurF
import Derived.Test.YteopiecmaihjeaaCurX
namespace Go.Proofs.Herb
open Go.RowKit Go.Sort
theorem u64_ne (a b : Nat) : (((a : Int)) != (b : Int)) = !(decide (a = b)) := by
  rw [Bool.eq_iff_iff]; simp; omega
set_option maxRecDepth 100000 in
set_option maxHeartbeats 3200000 in
theorem currentsSure_small (x y r : Nat) (hx : x < 18446744073709551616) (hy : y < 18446744073709551616) (hr : r < 256) (dir : Int) (fa : Option Addr) (fn fc : Nat) (fl : List Int) (w : World) (hn : fl.length = fn) (hrd : Rd w fa (fl.map (Value.int .i64))) (hfn : fn ≤ 20) :
    Calls Try.prog 5 #[.agg #[.int .u64 (x : Int), .int .u64 (y : Int)], .int .u8 (r : Int), .agg #[.int .i64 dir, .slice fa fn fc]] w fun e w' => e = .returned (.bool true) ∧ Below w.heap.size w w' := by
  obtain ⟨w0, hw0, hL, hK, hA⟩ : ∃ w0, w0 = (w.alloc (.cells #[.int .u64 (x : Int), .int .u64 (y : Int)] 23)).alloc (.cells #[.int .i64 dir, .slice fa fn fc] 42) ∧ w0.heap[w.heap.size]? = some (.cells #[.int .u64 (x : Int), .int .u64 (y : Int)] 23 (0, 0)) ∧
      w0.heap[w.heap.size + 1]? = some (.cells #[.int .i64 dir, .slice fa fn fc] 42 (0, 0)) ∧ Below w.heap.size w w0 := ⟨_, rfl, (heap_alloc_old _ _ (by simp)).trans (heap_alloc_new _ _), new_at (by simp), (((Below.refl w.heap.size w).alloc (Nat.le_refl _) _).alloc (by simp) _)⟩
  have hbL : w.heap.size + 2 ≤ w0.heap.size := by rw [hw0]; simp
  have hlk : w0.cell? ⟨w.heap.size + 1, 1, none⟩ = some (.slice fa fn fc) := cell_of_row w0 _ 1 _ _ _ hK
  have b1 : decide ((20 : Int) < (fn : Int)) = false := by simp; omega
  have HL := hid hL
  have HK := hid hK
  have HA := hid hA
  have HW := hid hw0
  have Hn := hid hn
  have Hrd := hid hrd
  obtain ⟨f, hf⟩ : ∃ f, f = r % 9 := ⟨_, rfl⟩
  have hf9 : f < 9 := by omega
  have hfr9 : (r : Int) % 9 = (f : Int) := by omega
  have HF9 := hid hfr9
  obtain ⟨E, S, hE, hS, hSU⟩ := sure_case (x := x) (y := y) hf9
  have HE := hid hE
  have HSt := hid hS
  have HSU := hid hSU
  obtain ⟨Y, hY⟩ : ∃ Y, Y = (x + 1) % 18446744073709551616 := ⟨_, rfl⟩
  have hYl : Y < 18446744073709551616 := by rw [hY]; exact Nat.mod_lt _ (by decide)
  obtain ⟨M, g1, g2, g3, g4, g5, g6⟩ := hSU.crash hx hy dir fl Y
  have HG := hid (And.intro g1 (And.intro g2 (And.intro g5 g6)))
  have HY := hid (show IntKind.u64.wrap ((x : Int) + 1) = (Y : Int) by rw [IntKind.wrap_u64, hY]; simp)
  clear hL hK hA hn hrd hf hfr9 hE hS hSU hY g1 g2 g5 g6
  go_enter Try.func5, Try.ntmps5
  rw [HW.out] at hlk
  go_wp2_with fail
  rw [← HW.out]
  (with_reducible refine (new100 w0).mono ?_)
  rintro e w1 ⟨m, rfl, hD, hB, hF⟩
  have HD := hid hD
  have HB := hid hB
  have HF := hid (show ∀ k, k ∈ m.fp → w.heap.size + 2 ≤ k from fun k hk => Nat.le_trans hbL (hF k hk))
  have HB := hid (HB.out.mono (B' := w.heap.size + 2) hbL)
  clear hD hB hF hlk
  obtain ⟨c0, c1⟩ := pair_cells ((HB.out.block _ (show w.heap.size < w.heap.size + 2 by omega)).trans HL.out)
  go_wp2_with fail
  (with_reducible refine (set_any m (newS 100) 0 x hx w1 HD.out new100_ok (by decide)).mono ?_)
  rintro e w3 ⟨m3, rfl, hD3, hDD, hM⟩
  rw [(set_first x).1]
  rw [(set_first x).2] at hD3
  have hfr := hM.fresh (B := w.heap.size + 2) (Nat.le_trans hbL HB.out.size) HF.out
  have HD := hid hD3
  have HB := hid (HB.out.trans hfr.2)
  have HF := hid hfr.1
  have HDD := hid hDD
  clear hD3 hM hfr hDD c0 c1
  go_wp2_with fail
  rw [← HDD.out, HF9.out]
  (with_reducible refine (fuseI_any m3 (curS 100 (contentL x)) (f : Int) w3 HD.out).mono ?_)
  rintro e w4 ⟨rfl, hD4, hM4⟩
  rw [show fuseE (f : Int) = 0 from by unfold fuseE; rw [if_neg (by omega)]]
  rw [show fuseS (curS 100 (contentL x)) (f : Int) = p0 (f : Int) (contentL x) from by unfold fuseS; rw [if_neg (by omega)]; rfl] at hD4
  have hfr := hM4.fresh (B := w.heap.size + 2) (Nat.le_trans hbL HB.out.size) HF.out
  have HD := hid hD4
  have HB := hid (HB.out.trans hfr.2)
  clear hD4 hM4 hfr
  obtain ⟨c0, c1⟩ := pair_cells ((HB.out.block _ (show w.heap.size < w.heap.size + 2 by omega)).trans HL.out)
  have HO4 := hid (p0_ok (F := (f : Int)) (by omega) (by omega) (contentL_len x))
  go_wp2_with fail
  (with_reducible refine (set_any m3 (p0 (f : Int) (contentL x)) 1 y hy w4 HD.out HO4.out (by decide)).mono ?_)
  rintro e w5 ⟨m5, rfl, hD5, hDD5, hM5⟩
  rw [HE.out]
  rw [HSt.out] at hD5
  have hfr := hM5.fresh (B := w.heap.size + 2) (Nat.le_trans hbL HB.out.size) HF.out
  have HD := hid hD5
  have HB := hid (HB.out.trans hfr.2)
  have HDD5 := hid hDD5
  clear hD5 hM5 hfr hDD5 c0 c1
  have hKb := (HB.out.block (w.heap.size + 1) (by omega)).trans HK.out
  have k0 : w5.cell? ⟨w.heap.size + 1, 0, none⟩ = some (.int .i64 dir) := cell_of_row w5 _ 0 _ _ _ hKb
  have k1 : w5.cell? ⟨w.heap.size + 1, 1, none⟩ = some (.slice fa fn fc) := cell_of_row w5 _ 1 _ _ _ hKb
  have HKb := hid hKb
  clear hKb
  go_wp2_with fail
  rw [← HDD5.out]
  (with_reducible refine (crash_any m5 S dir fa fn fc fl w5 HD.out Hn.out (Hrd.out.below (HA.out.trans (HB.out.mono (by omega)))) (Nat.le_trans HSU.out.ok.changes (by decide)) (HSU.out.ok.crashOk (by decide) _ _)).mono ?_)
  rintro e w6 ⟨mc, rfl, hX, hB6, hfc⟩
  have HX := hid hX
  have HXF := hid (show ∀ k, k ∈ mc.fp → w.heap.size + 2 ≤ k from fun k hk => by have := hfc k hk; have := HB.out.size; omega)
  have HB := hid (below_on HB.out hbL hB6)
  clear hX hB6 hfc k0 k1
  obtain ⟨c0, c1⟩ := pair_cells ((HB.out.block _ (show w.heap.size < w.heap.size + 2 by omega)).trans HL.out)
  go_wp2_with fail
  (with_reducible refine (get_any mc (crashS S dir fl) 12 w6 HX.out HG.out.2.2.2 (by decide)).mono ?_)
  rintro e w7 ⟨rfl, hB7⟩
  rw [HG.out.1, HG.out.2.1]
  have HX := hid (HX.out.below hB7)
  have HB := hid (below_on HB.out hbL hB7)
  clear hB7 c0 c1
  obtain ⟨c0, c1⟩ := pair_cells ((HB.out.block _ (show w.heap.size < w.heap.size + 2 by omega)).trans HL.out)
  obtain ⟨B1, f1⟩ : ∃ B, ((M : Int) != (x : Int)) = B := ⟨_, rfl⟩
  obtain ⟨B2, f2⟩ : ∃ B, ((M : Int) != (y : Int)) = B := ⟨_, rfl⟩
  obtain ⟨B3, f3⟩ : ∃ B, (E == 0) = B := ⟨_, rfl⟩
  have f1n : (M != x) = B1 := by rw [← f1, Bool.eq_iff_iff]; simp; omega
  have f2n : (M != y) = B2 := by rw [← f2, Bool.eq_iff_iff]; simp; omega
  have hB12 : B1 = true → B2 = false := fun h => by
    rw [← f1n] at h; rw [← f2n]
    rcases g3 with g | g
    · simp [g] at h
    · simp [g]
  have hB32 : B3 = true → B2 = false := fun h => by
    rw [← f3] at h; rw [← f2n]
    simp [g4 (by simpa using h)]
  have HY2 := hid HY.out
  clear g3 g4
  cases B1 <;> cases B2 <;> cases B3
  all_goals first
    | exact absurd (hB12 rfl) (by decide)
    | exact absurd (hB32 rfl) (by decide)
    | skip
  all_goals
    clear hB12 hB32
    go_wp2_with fail
    rw [HY.out]
    (with_reducible refine (set_any mc (crashS S dir fl) 12 Y hYl w7 HX.out HG.out.2.2.2 (by decide)).mono ?_)
    rintro e w8 ⟨m8, rfl, hD8, hDD8, hM8⟩
    rw [HG.out.2.2.1]
    have hfr := hM8.fresh (B := w.heap.size + 2) (Nat.le_trans hbL HB.out.size) HXF.out
    have HB := hid (HB.out.trans hfr.2)
    clear hD8 hDD8 hM8 hfr
    go_wp2_with fail
    (with_reducible refine (livesC_any w8).mono ?_)
    rintro e w9 ⟨rfl, hB9⟩
    go_wp2_with fail
    go_ret
    exact ⟨rfl, below_on (HA.out.trans (HB.out.mono (by omega))) (Nat.le_refl _) hB9⟩
set_option maxRecDepth 100000 in
theorem currentsSure_any (x y r : Nat) (hx : x < 18446744073709551616) (hy : y < 18446744073709551616) (hr : r < 256) (dir : Int) (fa : Option Addr) (fn fc : Nat) (fl : List Int) (w : World) (hn : fl.length = fn) (hrd : Rd w fa (fl.map (Value.int .i64))) (hlen' : fn ≤ 9223372036854775807) :
    Calls Try.prog 5 #[.agg #[.int .u64 (x : Int), .int .u64 (y : Int)], .int .u8 (r : Int), .agg #[.int .i64 dir, .slice fa fn fc]] w fun e w' => e = .returned (.bool true) ∧ Below w.heap.size w w' := by
  by_cases hfn : fn ≤ 20
  · exact currentsSure_small x y r hx hy hr dir fa fn fc fl w hn hrd hfn
  · have b1 : decide ((20 : Int) < (fn : Int)) = true := by simp; omega
    have hlk : ((w.alloc (.cells #[.int .u64 (x : Int), .int .u64 (y : Int)] 23)).alloc (.cells #[.int .i64 dir, .slice fa fn fc] 42)).cell? ⟨w.heap.size + 1, 1, none⟩ = some (.slice fa fn fc) := cell_of_row _ _ 1 _ _ _ (new_at (by simp))
    clear hn hrd hfn
    go_enter Try.func5, Try.ntmps5
    go_wp2_with fail
    refine (livesC_any _).mono ?_
    rintro e w9 ⟨rfl, hB9⟩
    go_wp2_with fail
    go_ret
    exact ⟨rfl, below_on ((((Below.refl w.heap.size w).alloc (Nat.le_refl _) _).alloc (by simp) _)) (Nat.le_refl _) hB9⟩
end Go.Proofs.Herb
