
/- slices.Sort's family at uint32, the sixth part: the partial insertion sort. (printed by gen_spi.py, filled by gen_su.py) -/
import Derived.Test.YtnkkfdlmcpnokaaSue
import Derived.Sort.WalkA6
namespace Go.Proofs.Herb
open Go.RowKit Go.Sort
theorem fixUp_pos {lt : Int → Int → Bool} {b i : Nat} {d : Array Int} (h : 2 ≤ b - i) : fixUp lt b i d = shiftUp lt b (i + 1) d := if_pos h
theorem fixUp_neg {lt : Int → Int → Bool} {b i : Nat} {d : Array Int} (h : ¬ 2 ≤ b - i) : fixUp lt b i d = d := if_neg h
theorem fixDown_pos {lt : Int → Int → Bool} {a i : Nat} {d : Array Int} (h : 2 ≤ i - a) : fixDown lt a i d = shiftDown lt (i - 1) d := if_pos h
theorem fixDown_neg {lt : Int → Int → Bool} {a i : Nat} {d : Array Int} (h : ¬ 2 ≤ i - a) : fixDown lt a i d = d := if_neg h
set_option maxHeartbeats 16000000 in
set_option maxRecDepth 1000000 in
theorem pin_u (w0 : World) (g off C N cap a b : Nat) (d : Array Int) (w : World) (h : Rw w0 g off C d w) (hN : d.size = N) (hab : a < b) (hb : b ≤ N) (hsz : N < 4611686018427387904) :
    Calls Try.prog 74 #[.slice (some ⟨g, off, none⟩) N cap, .int .i64 a, .int .i64 b] w fun e w' =>
      e = .returned (.bool (partialInsertionSort ltInt d a b).2) ∧ Rw w0 g off C (partialInsertionSort ltInt d a b).1 w' := by
  have HN := hid hN
  have H0 := hid h
  clear hN h
  go_enter Try.func74, Try.ntmps74
  go_wp2
  go_loopw [7, 8] (fun vi vs wr => ∃ (i s : Nat) (dk : Array Int), vi = .int .i64 i ∧ vs = .int .i64 s ∧ s ≤ 5 ∧ a < i ∧ i ≤ b ∧ Hid (dk.size = N) ∧ Hid (Rw w0 g off C dk wr) ∧
      Hid (partialIns ltInt a b (5 - s) i dk = partialInsertionSort ltInt d a b)) (fun _ vs _ => 5 - (intOf vs).toNat)
  case atStart => exact ⟨a + 1, 0, d, by go_num, rfl, by omega, by omega, by omega, HN, H0, rfl⟩
  case round =>
    obtain ⟨i, s, dk, rfl, rfl, hs5, hai, hib, HSK, HRK, HO⟩ := hrel
    clear H0 HN
    obtain ⟨G, HG, hcw, hfw⟩ := HRK.out.fam HSK.out
    clear hcw hfw
    by_cases hs : s < 5
    · go_wp2
      go_loopw [7] (fun vi w1 => ∃ k : Nat, vi = .int .i64 k ∧ i ≤ k ∧ k ≤ b ∧ Hid (Rw w0 g off C dk w1) ∧ Hid (scanSorted ltInt dk b k = scanSorted ltInt dk b i)) (fun vi _ => b - (intOf vi).toNat)
      case atStart => exact ⟨i, rfl, Nat.le_refl _, hib, HRK, rfl⟩
      case round =>
        obtain ⟨k, rfl, hik, hkb, HR1, HS⟩ := hrel
        clear HRK
        obtain ⟨hcw, hfw⟩ := HR1.out.famG HSK.out HG.out
        by_cases hk : k < b
        · go_wp2_with fail
          go_big_quiet (first | (go_at_call 75; refine Calls.quiet_of_same (less_u _ _ _)))
          have HR2 := hid (HR1.out.drewN nq)
          clear hcw hfw HR1
          generalize wr.drewN nq = W2 at HR2 ⊢
          clear nq
          obtain ⟨hcw, hfw⟩ := HR2.out.famG HSK.out HG.out
          by_cases h50 : b - a < 50
          · have h50i : (b : Int) - (a : Int) < 50 := by omega
            go_wp2_with fail
            all_goals try (exfalso; omega)
            · have ht : (!ltInt (G k) (G (k - 1))) = true := by assumption
              go_wp2
              go_roundw
              case rel => exact ⟨k + 1, by go_num, by omega, by omega, HR2, hid ((scanSorted_go ltInt dk b k hk (by have := ht; simp only [HG.out] at this; simpa using this)).symm.trans HS.out)⟩
              case measure => simp [intOf]; omega
            · have ht : (!ltInt (G k) (G (k - 1))) = false := by assumption
              have HK := hid (HS.out.symm.trans (scanSorted_stop ltInt dk b k (Or.inr (by have := ht; simp only [HG.out] at this; simpa using this))))
              clear ht HS
              go_wp2
              go_ret
              rw [← HO.out, pi_short ltInt a b s i dk hs (by rw [HK.out]; omega) h50]
              exact ⟨rfl, HR2.out⟩
          · have h50i : (50 : Int) ≤ (b : Int) - (a : Int) := by omega
            go_wp2_with fail
            all_goals try (exfalso; omega)
            · have ht : (!ltInt (G k) (G (k - 1))) = true := by assumption
              go_wp2
              go_roundw
              case rel => exact ⟨k + 1, by go_num, by omega, by omega, HR2, hid ((scanSorted_go ltInt dk b k hk (by have := ht; simp only [HG.out] at this; simpa using this)).symm.trans HS.out)⟩
              case measure => simp [intOf]; omega
            · have ht : (!ltInt (G k) (G (k - 1))) = false := by assumption
              have HK := hid (HS.out.symm.trans (scanSorted_stop ltInt dk b k (Or.inr (by have := ht; simp only [HG.out] at this; simpa using this))))
              clear ht HS
              have HR3 := hid ((HR2.out.drewN 1).swap (i := k) (j := k - 1) (by have := HSK.out; omega) (by have := HSK.out; omega) (HG.out (k - 1)) (HG.out k))
              have HGO := hid ((pi_go ltInt a b s i k dk hs HK.out (by omega) h50).symm.trans HO.out)
              obtain ⟨v3, hy3⟩ := cell?_setCell_some (w := W2) (p := ⟨g, off + k, none⟩) (x := .int .u32 (G (k - 1))) (q := ⟨g, off + (k - 1), none⟩) (hcw (k - 1) (by omega))
              have hkb' : k ≠ b := by omega
              go_region
              all_goals clear hcw hfw hy3 v3 HK HO HG HR2 h50i
              all_goals obtain ⟨dS, hdS⟩ : ∃ dS, dS = swp dk k (k - 1) := ⟨_, rfl⟩
              all_goals have HSS : Hid (dS.size = N) := hid (by rw [hdS, size_swp]; exact HSK.out)
              all_goals rw [← hdS] at HR3 HGO
              all_goals clear hdS HSK
              all_goals generalize hW5 : ((W2.setCell _ _).setCell _ _).drew = W5
              all_goals have HR5 : Hid (Rw w0 g off C dS W5) := by rw [← hW5]; exact HR3
              all_goals clear hW5 HR3
              all_goals skip
              by_cases h3 : 2 ≤ b - k
              · have h3i : decide ((2 : Int) ≤ (b : Int) - (k : Int)) = true := decide_eq_true (by omega)
                by_cases h2 : 2 ≤ k - a
                · have h2i : decide ((2 : Int) ≤ (k : Int) - (a : Int)) = true := decide_eq_true (by omega)
                  go_wp2
                  go_loopw [9] (fun vj w2 => ∃ (j : Nat) (dj : Array Int), vj = .int .i64 j ∧ j < k ∧ Hid (dj.size = N) ∧ Hid (Rw w0 g off C dj w2) ∧ Hid (shiftDown ltInt j dj = shiftDown ltInt (k - 1) dS)) (fun vj _ => (intOf vj).toNat)
                  case atStart => exact ⟨k - 1, dS, by go_num, by omega, HSS, HR5, rfl⟩
                  case round =>
                    obtain ⟨j1, d1, rfl, hj1, HS1, HR1, HD1⟩ := hrel
                    clear HR5
                    obtain ⟨G, HG, hcw, hfw⟩ := HR1.out.fam HS1.out
                    by_cases hj : 1 ≤ j1
                    · go_wp2_with fail
                      go_big_quiet (first | (go_at_call 75; refine Calls.quiet_of_same (less_u _ _ _)))
                      have HR6 := hid (HR1.out.drewN nq)
                      clear hcw hfw HR1
                      generalize wr.drewN nq = W6 at HR6 ⊢
                      clear nq
                      obtain ⟨hcw, hfw⟩ := HR6.out.famG HS1.out HG.out
                      go_wp2_with fail
                      · have ht : (!ltInt (G j1) (G (j1 - 1))) = true := by assumption
                        have HE1 := hid ((shiftDown_stop ltInt j1 d1 (Or.inr (by have := ht; simp only [HG.out] at this; simpa using this))).symm.trans HD1.out)
                        clear ht hcw hfw HG
                        go_wp2
                        go_loopw [10] (fun vj w2 => ∃ (j : Nat) (dj : Array Int), vj = .int .i64 j ∧ k < j ∧ j ≤ b ∧ Hid (dj.size = N) ∧ Hid (Rw w0 g off C dj w2) ∧ Hid (shiftUp ltInt b j dj = shiftUp ltInt b (k + 1) d1)) (fun vj _ => b - (intOf vj).toNat)
                        case atStart => exact ⟨k + 1, d1, by go_num, by omega, by omega, HS1, HR6, rfl⟩
                        case round =>
                          obtain ⟨j, dj, rfl, hkj, hjb, HSJ, HRJ, HJ⟩ := hrel
                          obtain ⟨G, HG, hcw, hfw⟩ := HRJ.out.fam HSJ.out
                          by_cases hj : j < b
                          · go_wp2_with fail
                            go_big_quiet (first | (go_at_call 75; refine Calls.quiet_of_same (less_u _ _ _)))
                            have HR6 := hid (HRJ.out.drewN nq)
                            clear hcw hfw HRJ
                            generalize wr.drewN nq = W6 at HR6 ⊢
                            clear nq
                            obtain ⟨hcw, hfw⟩ := HR6.out.famG HSJ.out HG.out
                            go_wp2_with fail
                            · have ht : (!ltInt (G j) (G (j - 1))) = true := by assumption
                              have HE := hid ((shiftUp_stop ltInt b j dj (Or.inr (by have := ht; simp only [HG.out] at this; simpa using this))).symm.trans HJ.out)
                              clear ht
                              go_wp2
                              go_roundw
                              case rel =>
                                exact ⟨k, s + 1, dj, rfl, by go_num, by omega, by omega, by omega, HSJ, HR6, hid (by show _ = _; rw [← HGO.out, fixDown_pos h2, ← HE1.out, fixUp_pos h3, ← HE.out])⟩
                              case measure => simp [intOf]; omega
                            · have ht : (!ltInt (G j) (G (j - 1))) = false := by assumption
                              have HE := hid ((shiftUp_go ltInt b j dj hj (by have := ht; simp only [HG.out] at this; simpa using this)).symm.trans HJ.out)
                              clear ht
                              obtain ⟨v3, hy3⟩ := cell?_setCell_some (w := W6) (p := ⟨g, off + j, none⟩) (x := .int .u32 (G (j - 1))) (q := ⟨g, off + (j - 1), none⟩) (hcw (j - 1) (by omega))
                              have HR7 := hid ((HR6.out.drewN 1).swap (i := j) (j := j - 1) (by have := HSJ.out; omega) (by have := HSJ.out; omega) (HG.out (j - 1)) (HG.out j))
                              go_region
                              all_goals go_wp2
                              go_roundw
                              case rel => exact ⟨j + 1, swp dj j (j - 1), by go_num, by omega, by omega, hid ((size_swp _ _ _).trans HSJ.out), HR7, HE⟩
                              case measure => simp [intOf]; omega
                          · have HE := hid ((shiftUp_stop ltInt b j dj (Or.inl hj)).symm.trans HJ.out)
                            go_wp2
                            go_roundw
                            case rel =>
                              exact ⟨k, s + 1, dj, rfl, by go_num, by omega, by omega, by omega, HSJ, HRJ, hid (by show _ = _; rw [← HGO.out, fixDown_pos h2, ← HE1.out, fixUp_pos h3, ← HE.out])⟩
                            case measure => simp [intOf]; omega
                      · have ht : (!ltInt (G j1) (G (j1 - 1))) = false := by assumption
                        have HE1 := hid ((shiftDown_go ltInt j1 d1 hj (by have := ht; simp only [HG.out] at this; simpa using this)).symm.trans HD1.out)
                        clear ht
                        obtain ⟨v3, hy3⟩ := cell?_setCell_some (w := W6) (p := ⟨g, off + j1, none⟩) (x := .int .u32 (G (j1 - 1))) (q := ⟨g, off + (j1 - 1), none⟩) (hcw (j1 - 1) (by omega))
                        have HR7 := hid ((HR6.out.drewN 1).swap (i := j1) (j := j1 - 1) (by have := HS1.out; omega) (by have := HS1.out; omega) (HG.out (j1 - 1)) (HG.out j1))
                        go_region
                        all_goals go_wp2
                        go_roundw
                        case rel => exact ⟨j1 - 1, swp d1 j1 (j1 - 1), by go_num, by omega, hid ((size_swp _ _ _).trans HS1.out), HR7, HE1⟩
                        case measure => simp [intOf]; omega
                    · have HE1 := hid ((shiftDown_stop ltInt j1 d1 (Or.inl (by omega))).symm.trans HD1.out)
                      clear hcw hfw HG
                      go_wp2
                      go_loopw [10] (fun vj w2 => ∃ (j : Nat) (dj : Array Int), vj = .int .i64 j ∧ k < j ∧ j ≤ b ∧ Hid (dj.size = N) ∧ Hid (Rw w0 g off C dj w2) ∧ Hid (shiftUp ltInt b j dj = shiftUp ltInt b (k + 1) d1)) (fun vj _ => b - (intOf vj).toNat)
                      case atStart => exact ⟨k + 1, d1, by go_num, by omega, by omega, HS1, HR1, rfl⟩
                      case round =>
                        obtain ⟨j, dj, rfl, hkj, hjb, HSJ, HRJ, HJ⟩ := hrel
                        obtain ⟨G, HG, hcw, hfw⟩ := HRJ.out.fam HSJ.out
                        by_cases hj : j < b
                        · go_wp2_with fail
                          go_big_quiet (first | (go_at_call 75; refine Calls.quiet_of_same (less_u _ _ _)))
                          have HR6 := hid (HRJ.out.drewN nq)
                          clear hcw hfw HRJ
                          generalize wr.drewN nq = W6 at HR6 ⊢
                          clear nq
                          obtain ⟨hcw, hfw⟩ := HR6.out.famG HSJ.out HG.out
                          go_wp2_with fail
                          · have ht : (!ltInt (G j) (G (j - 1))) = true := by assumption
                            have HE := hid ((shiftUp_stop ltInt b j dj (Or.inr (by have := ht; simp only [HG.out] at this; simpa using this))).symm.trans HJ.out)
                            clear ht
                            go_wp2
                            go_roundw
                            case rel =>
                              exact ⟨k, s + 1, dj, rfl, by go_num, by omega, by omega, by omega, HSJ, HR6, hid (by show _ = _; rw [← HGO.out, fixDown_pos h2, ← HE1.out, fixUp_pos h3, ← HE.out])⟩
                            case measure => simp [intOf]; omega
                          · have ht : (!ltInt (G j) (G (j - 1))) = false := by assumption
                            have HE := hid ((shiftUp_go ltInt b j dj hj (by have := ht; simp only [HG.out] at this; simpa using this)).symm.trans HJ.out)
                            clear ht
                            obtain ⟨v3, hy3⟩ := cell?_setCell_some (w := W6) (p := ⟨g, off + j, none⟩) (x := .int .u32 (G (j - 1))) (q := ⟨g, off + (j - 1), none⟩) (hcw (j - 1) (by omega))
                            have HR7 := hid ((HR6.out.drewN 1).swap (i := j) (j := j - 1) (by have := HSJ.out; omega) (by have := HSJ.out; omega) (HG.out (j - 1)) (HG.out j))
                            go_region
                            all_goals go_wp2
                            go_roundw
                            case rel => exact ⟨j + 1, swp dj j (j - 1), by go_num, by omega, by omega, hid ((size_swp _ _ _).trans HSJ.out), HR7, HE⟩
                            case measure => simp [intOf]; omega
                        · have HE := hid ((shiftUp_stop ltInt b j dj (Or.inl hj)).symm.trans HJ.out)
                          go_wp2
                          go_roundw
                          case rel =>
                            exact ⟨k, s + 1, dj, rfl, by go_num, by omega, by omega, by omega, HSJ, HRJ, hid (by show _ = _; rw [← HGO.out, fixDown_pos h2, ← HE1.out, fixUp_pos h3, ← HE.out])⟩
                          case measure => simp [intOf]; omega
                · have h2i : decide ((2 : Int) ≤ (k : Int) - (a : Int)) = false := decide_eq_false (by omega)
                  go_wp2
                  go_loopw [10] (fun vj w2 => ∃ (j : Nat) (dj : Array Int), vj = .int .i64 j ∧ k < j ∧ j ≤ b ∧ Hid (dj.size = N) ∧ Hid (Rw w0 g off C dj w2) ∧ Hid (shiftUp ltInt b j dj = shiftUp ltInt b (k + 1) dS)) (fun vj _ => b - (intOf vj).toNat)
                  case atStart => exact ⟨k + 1, dS, by go_num, by omega, by omega, HSS, HR5, rfl⟩
                  case round =>
                    obtain ⟨j, dj, rfl, hkj, hjb, HSJ, HRJ, HJ⟩ := hrel
                    obtain ⟨G, HG, hcw, hfw⟩ := HRJ.out.fam HSJ.out
                    by_cases hj : j < b
                    · go_wp2_with fail
                      go_big_quiet (first | (go_at_call 75; refine Calls.quiet_of_same (less_u _ _ _)))
                      have HR6 := hid (HRJ.out.drewN nq)
                      clear hcw hfw HRJ
                      generalize wr.drewN nq = W6 at HR6 ⊢
                      clear nq
                      obtain ⟨hcw, hfw⟩ := HR6.out.famG HSJ.out HG.out
                      go_wp2_with fail
                      · have ht : (!ltInt (G j) (G (j - 1))) = true := by assumption
                        have HE := hid ((shiftUp_stop ltInt b j dj (Or.inr (by have := ht; simp only [HG.out] at this; simpa using this))).symm.trans HJ.out)
                        clear ht
                        go_wp2
                        go_roundw
                        case rel =>
                          exact ⟨k, s + 1, dj, rfl, by go_num, by omega, by omega, by omega, HSJ, HR6, hid (by show _ = _; rw [← HGO.out, fixDown_neg h2, fixUp_pos h3, ← HE.out])⟩
                        case measure => simp [intOf]; omega
                      · have ht : (!ltInt (G j) (G (j - 1))) = false := by assumption
                        have HE := hid ((shiftUp_go ltInt b j dj hj (by have := ht; simp only [HG.out] at this; simpa using this)).symm.trans HJ.out)
                        clear ht
                        obtain ⟨v3, hy3⟩ := cell?_setCell_some (w := W6) (p := ⟨g, off + j, none⟩) (x := .int .u32 (G (j - 1))) (q := ⟨g, off + (j - 1), none⟩) (hcw (j - 1) (by omega))
                        have HR7 := hid ((HR6.out.drewN 1).swap (i := j) (j := j - 1) (by have := HSJ.out; omega) (by have := HSJ.out; omega) (HG.out (j - 1)) (HG.out j))
                        go_region
                        all_goals go_wp2
                        go_roundw
                        case rel => exact ⟨j + 1, swp dj j (j - 1), by go_num, by omega, by omega, hid ((size_swp _ _ _).trans HSJ.out), HR7, HE⟩
                        case measure => simp [intOf]; omega
                    · have HE := hid ((shiftUp_stop ltInt b j dj (Or.inl hj)).symm.trans HJ.out)
                      go_wp2
                      go_roundw
                      case rel =>
                        exact ⟨k, s + 1, dj, rfl, by go_num, by omega, by omega, by omega, HSJ, HRJ, hid (by show _ = _; rw [← HGO.out, fixDown_neg h2, fixUp_pos h3, ← HE.out])⟩
                      case measure => simp [intOf]; omega
              · have h3i : decide ((2 : Int) ≤ (b : Int) - (k : Int)) = false := decide_eq_false (by omega)
                by_cases h2 : 2 ≤ k - a
                · have h2i : decide ((2 : Int) ≤ (k : Int) - (a : Int)) = true := decide_eq_true (by omega)
                  go_wp2
                  go_loopw [9] (fun vj w2 => ∃ (j : Nat) (dj : Array Int), vj = .int .i64 j ∧ j < k ∧ Hid (dj.size = N) ∧ Hid (Rw w0 g off C dj w2) ∧ Hid (shiftDown ltInt j dj = shiftDown ltInt (k - 1) dS)) (fun vj _ => (intOf vj).toNat)
                  case atStart => exact ⟨k - 1, dS, by go_num, by omega, HSS, HR5, rfl⟩
                  case round =>
                    obtain ⟨j1, d1, rfl, hj1, HS1, HR1, HD1⟩ := hrel
                    clear HR5
                    obtain ⟨G, HG, hcw, hfw⟩ := HR1.out.fam HS1.out
                    by_cases hj : 1 ≤ j1
                    · go_wp2_with fail
                      go_big_quiet (first | (go_at_call 75; refine Calls.quiet_of_same (less_u _ _ _)))
                      have HR6 := hid (HR1.out.drewN nq)
                      clear hcw hfw HR1
                      generalize wr.drewN nq = W6 at HR6 ⊢
                      clear nq
                      obtain ⟨hcw, hfw⟩ := HR6.out.famG HS1.out HG.out
                      go_wp2_with fail
                      · have ht : (!ltInt (G j1) (G (j1 - 1))) = true := by assumption
                        have HE1 := hid ((shiftDown_stop ltInt j1 d1 (Or.inr (by have := ht; simp only [HG.out] at this; simpa using this))).symm.trans HD1.out)
                        clear ht hcw hfw HG
                        go_wp2
                        go_roundw
                        case rel =>
                          exact ⟨k, s + 1, d1, rfl, by go_num, by omega, by omega, by omega, HS1, HR6, hid (by show _ = _; rw [← HGO.out, fixDown_pos h2, ← HE1.out, fixUp_neg h3])⟩
                        case measure => simp [intOf]; omega
                      · have ht : (!ltInt (G j1) (G (j1 - 1))) = false := by assumption
                        have HE1 := hid ((shiftDown_go ltInt j1 d1 hj (by have := ht; simp only [HG.out] at this; simpa using this)).symm.trans HD1.out)
                        clear ht
                        obtain ⟨v3, hy3⟩ := cell?_setCell_some (w := W6) (p := ⟨g, off + j1, none⟩) (x := .int .u32 (G (j1 - 1))) (q := ⟨g, off + (j1 - 1), none⟩) (hcw (j1 - 1) (by omega))
                        have HR7 := hid ((HR6.out.drewN 1).swap (i := j1) (j := j1 - 1) (by have := HS1.out; omega) (by have := HS1.out; omega) (HG.out (j1 - 1)) (HG.out j1))
                        go_region
                        all_goals go_wp2
                        go_roundw
                        case rel => exact ⟨j1 - 1, swp d1 j1 (j1 - 1), by go_num, by omega, hid ((size_swp _ _ _).trans HS1.out), HR7, HE1⟩
                        case measure => simp [intOf]; omega
                    · have HE1 := hid ((shiftDown_stop ltInt j1 d1 (Or.inl (by omega))).symm.trans HD1.out)
                      clear hcw hfw HG
                      go_wp2
                      go_roundw
                      case rel =>
                        exact ⟨k, s + 1, d1, rfl, by go_num, by omega, by omega, by omega, HS1, HR1, hid (by show _ = _; rw [← HGO.out, fixDown_pos h2, ← HE1.out, fixUp_neg h3])⟩
                      case measure => simp [intOf]; omega
                · have h2i : decide ((2 : Int) ≤ (k : Int) - (a : Int)) = false := decide_eq_false (by omega)
                  go_wp2
                  go_roundw
                  case rel =>
                    exact ⟨k, s + 1, dS, rfl, by go_num, by omega, by omega, by omega, HSS, HR5, hid (by show _ = _; rw [← HGO.out, fixDown_neg h2, fixUp_neg h3])⟩
                  case measure => simp [intOf]; omega
        · have HK := hid (HS.out.symm.trans (scanSorted_stop ltInt dk b k (Or.inl hk)))
          have hkb' : k = b := by omega
          subst hkb'
          go_wp2_with fail
          go_big_quiet (first | (go_at_call 75; refine Calls.quiet_of_same (less_u _ _ _)))
          have HR2 := hid (HR1.out.drewN nq)
          go_wp2
          go_ret
          rw [← HO.out, pi_true ltInt a k s i dk hs HK.out]
          exact ⟨rfl, HR2.out⟩
    · have hs' : s = 5 := by omega
      subst hs'
      go_wp2
      go_ret
      rw [← HO.out, pi_end]
      exact ⟨rfl, HRK.out⟩
end Go.Proofs.Herb
