
/- slices.Sort's family at uint32, the fourth part: the heap. (filled by gen_su.py out of XSud.src) -/
import Derived.Test.YtnkkfdlmcpnokaaSuc
import Derived.Sort.WalkB3
namespace Go.Proofs.Herb
open Go.RowKit Go.Sort
set_option maxHeartbeats 8000000 in
set_option maxRecDepth 1000000 in
theorem sift_u (w0 : World) (g off C N cap lo hi F : Nat) (d : Array Int) (w : World) (h : Rw w0 g off C d w) (hN : d.size = N) (hF : F + hi ≤ N) (hlo : lo ≤ N) (hsz : N < 4611686018427387904) :
    Calls Try.prog 79 #[.slice (some ⟨g, off, none⟩) N cap, .int .i64 lo, .int .i64 hi, .int .i64 F] w fun e w' =>
      e = .returned (.tuple #[]) ∧ Rw w0 g off C (siftDown ltInt hi F lo d) w' := by
  have HN := hid hN
  have H0 := hid h
  clear hN h
  go_enter Try.func79, Try.ntmps79
  go_wp2
  go_loopw [8] (fun vi wr => ∃ (root : Nat) (dk : Array Int), vi = .int .i64 root ∧ root ≤ N ∧ Hid (dk.size = N) ∧ Hid (Rw w0 g off C dk wr) ∧
      Hid (siftDown ltInt hi F root dk = siftDown ltInt hi F lo d)) (fun vi _ => N + 1 - (intOf vi).toNat)
  case atStart => exact ⟨lo, d, rfl, hlo, HN, H0, rfl⟩
  case round =>
    obtain ⟨root, dk, rfl, hr, HSK, HRK, HO⟩ := hrel
    clear H0 hlo
    obtain ⟨G, HG, hcw, hfw⟩ := HRK.out.fam HSK.out
    by_cases hge : hi ≤ 2 * root + 1
    · go_wp2
      go_end0
      refine ⟨rfl, ?_⟩
      rw [← HO.out, sd_end ltInt dk hge]
      exact HRK.out
    · by_cases h2 : 2 * root + 2 < hi
      · have h2i : decide (2 * (root : Int) + 1 + 1 < (hi : Int)) = true := decide_eq_true (by omega)
        go_wp2_with fail
        go_big_quiet (first | (go_at_call 75; refine Calls.quiet_of_same (less_u _ _ _)))
        have HR2 := hid (HRK.out.drewN nq)
        clear hcw hfw
        generalize wr.drewN nq = wr2 at HR2 ⊢
        clear nq
        have hcw : ∀ t, t < N → wr2.cell? ⟨g, off + t, none⟩ = some (.int .u32 (G t)) := fun t ht => by rw [HG.out]; exact HR2.out.cell (by have := HSK.out; omega)
        have hfw : ∀ t, t < N → wr2.frozen? ⟨g, off + t, none⟩ = false := fun t _ => HR2.out.froz _
        go_wp2_with fail
        · have hl : ltInt (G (F + (2 * root + 1))) (G (F + (2 * root + 2))) = true := by assumption
          clear h2i
          go_big_quiet (first | (go_at_call 75; refine Calls.quiet_of_same (less_u _ _ _)))
          go_wp2_with fail
          · have h3' : (!ltInt (G (F + root)) (G (F + (2 * root + 2)))) = true := by assumption
            have h3 : ltInt (G (F + root)) (G (F + (2 * root + 2))) = false := by simpa using h3'
            refine bodyPost_ret (results_none rfl _ _ _) rfl ⟨rfl, ?_⟩
            rw [← HO.out, sd_right_stop ltInt dk h2 (by rw [← HG.out, ← HG.out]; exact hl) (by rw [← HG.out, ← HG.out]; exact h3)]
            exact HR2.out.drewN nq
          · have h3' : (!ltInt (G (F + root)) (G (F + (2 * root + 2)))) = false := by assumption
            have h3 : ltInt (G (F + root)) (G (F + (2 * root + 2))) = true := by simpa using h3'
            go_region
            all_goals go_wp2
            go_roundw
            case rel =>
              refine ⟨2 * root + 2, swp dk (F + root) (F + (2 * root + 2)), by go_num, by omega, by show _ = _; rw [size_swp]; exact HSK.out, ?_, ?_⟩
              · have := (HR2.out.drewN (nq + 1)).swap (i := F + root) (j := F + (2 * root + 2)) (by have := HSK.out; omega) (by have := HSK.out; omega) (HG.out _) (HG.out _)
                exact this
              · show _ = _
                rw [← HO.out, sd_right_go ltInt dk h2 (by rw [← HG.out, ← HG.out]; exact hl) (by rw [← HG.out, ← HG.out]; exact h3)]
            case measure => simp [intOf]; omega
        · have hl : ltInt (G (F + (2 * root + 1))) (G (F + (2 * root + 2))) = false := by assumption
          clear h2i
          go_big_quiet (first | (go_at_call 75; refine Calls.quiet_of_same (less_u _ _ _)))
          go_wp2_with fail
          · have h3' : (!ltInt (G (F + root)) (G (F + (2 * root + 1)))) = true := by assumption
            have h3 : ltInt (G (F + root)) (G (F + (2 * root + 1))) = false := by simpa using h3'
            refine bodyPost_ret (results_none rfl _ _ _) rfl ⟨rfl, ?_⟩
            rw [← HO.out, sd_left_stop ltInt dk (by omega) (fun _ => by rw [← HG.out, ← HG.out]; exact hl) (by rw [← HG.out, ← HG.out]; exact h3)]
            exact HR2.out.drewN nq
          · have h3' : (!ltInt (G (F + root)) (G (F + (2 * root + 1)))) = false := by assumption
            have h3 : ltInt (G (F + root)) (G (F + (2 * root + 1))) = true := by simpa using h3'
            go_region
            all_goals go_wp2
            go_roundw
            case rel =>
              refine ⟨2 * root + 1, swp dk (F + root) (F + (2 * root + 1)), by go_num, by omega, by show _ = _; rw [size_swp]; exact HSK.out, ?_, ?_⟩
              · have := (HR2.out.drewN (nq + 1)).swap (i := F + root) (j := F + (2 * root + 1)) (by have := HSK.out; omega) (by have := HSK.out; omega) (HG.out _) (HG.out _)
                exact this
              · show _ = _
                rw [← HO.out, sd_left_go ltInt dk (by omega) (fun _ => by rw [← HG.out, ← HG.out]; exact hl) (by rw [← HG.out, ← HG.out]; exact h3)]
            case measure => simp [intOf]; omega
      · have h2i : decide (2 * (root : Int) + 1 + 1 < (hi : Int)) = false := decide_eq_false (by omega)
        go_wp2_with fail
        go_big_quiet (first | (go_at_call 75; refine Calls.quiet_of_same (less_u _ _ _)))
        have HR2 := hid (HRK.out.drewN nq)
        clear hcw hfw
        generalize wr.drewN nq = wr2 at HR2 ⊢
        clear nq
        have hcw : ∀ t, t < N → wr2.cell? ⟨g, off + t, none⟩ = some (.int .u32 (G t)) := fun t ht => by rw [HG.out]; exact HR2.out.cell (by have := HSK.out; omega)
        have hfw : ∀ t, t < N → wr2.frozen? ⟨g, off + t, none⟩ = false := fun t _ => HR2.out.froz _
        clear h2i
        go_wp2_with fail
        go_big_quiet (first | (go_at_call 75; refine Calls.quiet_of_same (less_u _ _ _)))
        go_wp2_with fail
        · have h3' : (!ltInt (G (F + root)) (G (F + (2 * root + 1)))) = true := by assumption
          have h3 : ltInt (G (F + root)) (G (F + (2 * root + 1))) = false := by simpa using h3'
          refine bodyPost_ret (results_none rfl _ _ _) rfl ⟨rfl, ?_⟩
          rw [← HO.out, sd_left_stop ltInt dk (by omega) (fun e => absurd e h2) (by rw [← HG.out, ← HG.out]; exact h3)]
          exact HR2.out.drewN nq
        · have h3' : (!ltInt (G (F + root)) (G (F + (2 * root + 1)))) = false := by assumption
          have h3 : ltInt (G (F + root)) (G (F + (2 * root + 1))) = true := by simpa using h3'
          go_region
          all_goals go_wp2
          go_roundw
          case rel =>
            refine ⟨2 * root + 1, swp dk (F + root) (F + (2 * root + 1)), by go_num, by omega, by show _ = _; rw [size_swp]; exact HSK.out, ?_, ?_⟩
            · have := (HR2.out.drewN (nq + 1)).swap (i := F + root) (j := F + (2 * root + 1)) (by have := HSK.out; omega) (by have := HSK.out; omega) (HG.out _) (HG.out _)
              exact this
            · show _ = _
              rw [← HO.out, sd_left_go ltInt dk (by omega) (fun e => absurd e h2) (by rw [← HG.out, ← HG.out]; exact h3)]
          case measure => simp [intOf]; omega
set_option maxHeartbeats 8000000 in
set_option maxRecDepth 1000000 in
theorem heap_u (w0 : World) (g off C N cap a b : Nat) (d : Array Int) (w : World) (h : Rw w0 g off C d w) (hN : d.size = N) (hab : a + 12 < b) (hb : b ≤ N) (hsz : N < 4611686018427387904) :
    Calls Try.prog 70 #[.slice (some ⟨g, off, none⟩) N cap, .int .i64 a, .int .i64 b] w fun e w' =>
      e = .returned (.tuple #[]) ∧ Rw w0 g off C (heapSort ltInt d a b) w' := by
  have HN := hid hN
  have H0 := hid h
  clear hN h
  obtain ⟨M, hM⟩ : ∃ M, b - a = M := ⟨_, rfl⟩
  have hM1 : 12 < M := by omega
  have hM2 : a + M ≤ N := by omega
  obtain ⟨K, hK⟩ : ∃ K, (M - 1) / 2 = K := ⟨_, rfl⟩
  have k1 : 2 * K + 1 ≤ M := by omega
  have k2 : ((M : Int) - 1).tdiv 2 = (K : Int) := by rw [Int.tdiv_eq_ediv_of_nonneg (by omega)]; omega
  have k3 : ((M : Int) - 1) / 2 = (K : Int) := by omega
  have k4 : ((b : Int) - (a : Int)) = (M : Int) := by omega
  have HE : Hid (heapSort ltInt d a b = heapPop ltInt a M (heapBuild ltInt M a (K + 1) d)) := by
    show _ = _
    unfold heapSort
    rw [hM, hK]
  have HKK := hid hK
  clear hK hM
  go_enter Try.func70, Try.ntmps70
  go_wp2
  go_loopw [9] (fun vi wr => ∃ (k : Nat) (dk : Array Int), vi = .int .i64 ((k : Int) - 1) ∧ k ≤ K + 1 ∧ Hid (dk.size = N) ∧ Hid (Rw w0 g off C dk wr) ∧
      Hid (heapBuild ltInt M a k dk = heapBuild ltInt M a (K + 1) d)) (fun vi _ => (intOf vi + 1).toNat)
  case atStart => exact ⟨K + 1, d, by congr 1; omega, Nat.le_refl _, HN, H0, rfl⟩
  case round =>
    obtain ⟨k, dk, rfl, hk, HSK, HRK, HO⟩ := hrel
    clear H0
    cases k with
    | zero =>
      rw [show (((0 : Nat) : Int) - 1) = -1 from rfl]
      go_wp2
      have HB : Hid (dk = heapBuild ltInt M a (K + 1) d) := by show _ = _; rw [← HO.out]; rfl
      clear HO
      go_loopw [10] (fun vi wr2 => ∃ (k : Nat) (dj : Array Int), vi = .int .i64 ((k : Int) - 1) ∧ k ≤ M ∧ Hid (dj.size = N) ∧ Hid (Rw w0 g off C dj wr2) ∧
          Hid (heapPop ltInt a k dj = heapSort ltInt d a b)) (fun vi _ => (intOf vi + 1).toNat)
      case atStart => exact ⟨M, dk, rfl, Nat.le_refl _, HSK, HRK, by show _ = _; rw [HE.out, HB.out]⟩
      case round =>
        obtain ⟨k, dj, rfl, hk, HSJ, HRJ, HP⟩ := hrel
        clear HRK HSK HB
        cases k with
        | zero =>
          go_wp2
          go_end0
          refine ⟨rfl, ?_⟩
          rw [← HP.out]
          exact HRJ.out
        | succ k =>
          obtain ⟨G, HG, hcw, hfw⟩ := HRJ.out.fam HSJ.out
          obtain ⟨v3, hy3⟩ := cell?_setCell_some (w := wr) (p := ⟨g, off + a, none⟩) (x := .int .u32 (G (a + k))) (q := ⟨g, off + (a + k), none⟩) (hcw (a + k) (by omega))
          have hrs : Rw w0 g off C (swp dj a (a + k)) (((wr.setCell ⟨g, off + a, none⟩ (.int .u32 (G (a + k)))).setCell ⟨g, off + (a + k), none⟩ (.int .u32 (G a))).drew) := (HRJ.out.swap (i := a) (j := a + k) (by have := HSJ.out; omega) (by have := HSJ.out; omega) (HG.out (a + k)) (HG.out a)).drewN 1
          have hc := sift_u w0 g off C N cap 0 k a (swp dj a (a + k)) _ hrs (by rw [size_swp]; exact HSJ.out) (by omega) (by omega) hsz
          rw [show ((0 : Nat) : Int) = 0 from rfl] at hc
          clear hrs
          go_wp2_with fail
          go_region
          all_goals go_wp2_with (go_at_call 79; with_reducible refine hc.mono ?_; rintro e w1 ⟨rfl, hw1⟩)
          go_roundw
          case rel =>
            refine ⟨k, _, rfl, by omega, ?_, hid hw1, ?_⟩
            · show _ = _
              rw [size_siftDown ltInt k a _ 0 _ (Nat.le_refl _), size_swp]; exact HSJ.out
            · show _ = _
              rw [← HP.out]; rfl
          case measure => simp [intOf]
    | succ k =>
      have hc := sift_u w0 g off C N cap k M a dk wr HRK.out HSK.out (by omega) (by omega) hsz
      go_wp2_with (go_at_call 79; with_reducible refine hc.mono ?_; rintro e w1 ⟨rfl, hw1⟩)
      go_roundw
      case rel =>
        refine ⟨k, _, rfl, by omega, ?_, hid hw1, ?_⟩
        · show _ = _
          rw [size_siftDown ltInt M a _ k dk (Nat.le_refl _)]; exact HSK.out
        · show _ = _
          rw [← HO.out]; rfl
      case measure => simp [intOf]
end Go.Proofs.Herb
