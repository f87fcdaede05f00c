
/- slices.Sort's family at uint32, the fifth part: the partitions. (printed by gen_spt.py, filled by gen_su.py) -/
import Derived.Test.YtnkkfdlmcpnokaaSua
import Derived.Sort.WalkC
import Derived.Sort.WalkC4
namespace Go.Proofs.Herb
open Go.RowKit Go.Sort
theorem Rw.famG {w : World} {g off C N : Nat} {d : Array Int} {W : World} (h : Rw w g off C d W) (hN : d.size = N) {G : Nat → Int} (hG : ∀ t, G t = d[t]!) :
    (∀ t, t < N → W.cell? ⟨g, off + t, none⟩ = some (.int .u32 (G t))) ∧ ∀ t, t < N → W.frozen? ⟨g, off + t, none⟩ = false :=
  ⟨fun t ht => by rw [hG]; exact h.cell (by omega), fun t _ => h.froz _⟩
set_option maxHeartbeats 16000000 in
set_option maxRecDepth 1000000 in
theorem peq_u (w0 : World) (g off C N cap a b pivot : Nat) (d : Array Int) (w : World) (h : Rw w0 g off C d w) (hN : d.size = N) (hap : a ≤ pivot) (hpb : pivot < b) (hb : b ≤ N) (hsz : N < 4611686018427387904) :
    Calls Try.prog 76 #[.slice (some ⟨g, off, none⟩) N cap, .int .i64 a, .int .i64 b, .int .i64 pivot] w fun e w' =>
      e = .returned (.int .i64 ((partitionEqual ltInt d a b pivot).1 : Nat)) ∧ Rw w0 g off C (partitionEqual ltInt d a b pivot).2 w' := by
  have HN := hid hN
  have H0 := hid h
  obtain ⟨G, HG0, ca, fa⟩ := h.fam hN
  clear hN h
  obtain ⟨v', hy'⟩ := cell?_setCell_some (w := w) (p := ⟨g, off + a, none⟩) (x := .int .u32 (G pivot)) (q := ⟨g, off + pivot, none⟩) (ca pivot (by omega))
  have HS := hid ((H0.out.drewN 1).swap (i := a) (j := pivot) (by have := HN.out; omega) (by have := HN.out; omega) (HG0.out pivot) (HG0.out a))
  go_enter Try.func76, Try.ntmps76
  go_wp2
  go_region
  go_wp2
  clear ca fa hy' v'
  go_loopw [9, 10] (fun vi vj wr => ∃ (i j : Nat) (dk : Array Int), vi = .int .i64 i ∧ vj = .int .i64 j ∧ a < i ∧ i ≤ j + 1 ∧ j < b ∧ Hid (dk.size = N) ∧ Hid (Rw w0 g off C dk wr) ∧
      Hid (partEqLoop ltInt a i j dk = partEqLoop ltInt a (a + 1) (b - 1) (swp d a pivot))) (fun vi vj _ => (intOf vj).toNat + 1 - (intOf vi).toNat)
  case atStart => exact ⟨a + 1, b - 1, swp d a pivot, by go_num, by go_num, by omega, by omega, by omega, hid ((size_swp _ _ _).trans HN.out), HS, rfl⟩
  case round =>
    obtain ⟨i, j, dk, rfl, rfl, hai, hij, hjb, HSK, HR, HO⟩ := hrel
    clear HS H0 HG0 HN
    obtain ⟨G, HG, hcw0, hfw0⟩ := HR.out.fam HSK.out
    clear hcw0 hfw0
    go_wp2
    go_loopw [9] (fun vi w1 => ∃ i' : Nat, vi = .int .i64 i' ∧ i ≤ i' ∧ i' ≤ j + 1 ∧ Hid (Rw w0 g off C dk w1) ∧
        Hid (scanUp (fun x => !ltInt dk[a]! x) dk j i' = scanUp (fun x => !ltInt dk[a]! x) dk j i)) (fun vi _ => j + 1 - (intOf vi).toNat)
    case atStart => exact ⟨i, rfl, Nat.le_refl _, hij, HR, rfl⟩
    case round =>
      obtain ⟨i', rfl, hii, hij', HR1, HU⟩ := hrel
      clear HR
      obtain ⟨hcw, hfw⟩ := HR1.out.famG HSK.out HG.out
      by_cases hle : i' ≤ j
      · go_wp2_with fail
        go_big_quiet (first | (go_at_call 75; refine Calls.quiet_of_same (less_u _ _ _)))
        go_wp2
        · have ht : (!ltInt (G a) (G i')) = true := by assumption
          go_roundw
          case rel => exact ⟨i' + 1, by go_num, by omega, by omega, hid (HR1.out.drewN nq), hid ((scanUp_go (fun x => !ltInt dk[a]! x) dk j i' hle (by simp only [← HG.out]; exact ht)).symm.trans HU.out)⟩
          case measure => simp [intOf]; omega
        · have ht : (!ltInt (G a) (G i')) = false := by assumption
          have HI2 : Hid (i' = scanUp (fun x => !ltInt dk[a]! x) dk j i) := hid ((scanUp_end (fun x => !ltInt dk[a]! x) dk j i' (Or.inr (by simp only [← HG.out]; exact ht))).symm.trans HU.out)
          have HR2 := hid (HR1.out.drewN nq)
          clear hcw hfw HU HR1 ht
          generalize wr.drewN nq = W3 at HR2 ⊢
          clear nq
          go_loopw [10] (fun vj w2 => ∃ j' : Nat, vj = .int .i64 j' ∧ j' ≤ j ∧ i' ≤ j' + 1 ∧ Hid (Rw w0 g off C dk w2) ∧
              Hid (scanDown (fun x => ltInt dk[a]! x) dk i' j' = scanDown (fun x => ltInt dk[a]! x) dk i' j)) (fun vj _ => (intOf vj).toNat)
          case atStart => exact ⟨j, rfl, Nat.le_refl _, hij', HR2, rfl⟩
          case round =>
            obtain ⟨j', rfl, hjj, hij2, HR3, HD⟩ := hrel
            clear HR2
            obtain ⟨hcw, hfw⟩ := HR3.out.famG HSK.out HG.out
            by_cases hle2 : i' ≤ j'
            · go_wp2_with fail
              go_big_quiet (first | (go_at_call 75; refine Calls.quiet_of_same (less_u _ _ _)))
              go_wp2
              · have ht : ltInt (G a) (G j') = true := by assumption
                go_roundw
                case rel => exact ⟨j' - 1, by go_num, by omega, by omega, hid (HR3.out.drewN nq), hid ((scanDown_go (fun x => ltInt dk[a]! x) dk i' j' hle2 (by omega) (by simp only [← HG.out]; exact ht)).symm.trans HD.out)⟩
                case measure => simp [intOf]; omega
              · have ht : ltInt (G a) (G j') = false := by assumption
                have HJ2 : Hid (j' = scanDown (fun x => ltInt dk[a]! x) dk i' j) := hid ((scanDown_end (fun x => ltInt dk[a]! x) dk i' j' (Or.inr (by simp only [← HG.out]; exact ht))).symm.trans HD.out)
                have HR4 := hid (HR3.out.drewN nq)
                clear hcw hfw HD HR3 ht
                generalize wr.drewN nq = W4 at HR4 ⊢
                clear nq
                obtain ⟨hcw, hfw⟩ := HR4.out.famG HSK.out HG.out
                have hlt3 := scans_lt ltInt a i j dk (by omega) HI2.out HJ2.out hle2
                obtain ⟨v3, hy3⟩ := cell?_setCell_some (w := W4) (p := ⟨g, off + i', none⟩) (x := .int .u32 (G j')) (q := ⟨g, off + j', none⟩) (hcw j' (by omega))
                have HR5 := hid ((HR4.out.drewN 1).swap (i := i') (j := j') (by have := HSK.out; omega) (by have := HSK.out; omega) (HG.out j') (HG.out i'))
                go_wp2
                go_region
                all_goals go_wp2
                go_roundw
                case rel =>
                  exact ⟨i' + 1, j' - 1, swp dk i' j', by go_num, by go_num, by omega, by omega, by omega, hid ((size_swp _ _ _).trans HSK.out), HR5, hid ((partEq_go ltInt a i j dk HI2.out HJ2.out (by omega)).symm.trans HO.out)⟩
                case measure => simp [intOf]; omega
            · go_wp2_with fail
              go_big_quiet (first | (go_at_call 75; refine Calls.quiet_of_same (less_u _ _ _)))
              have HJ2 : Hid (j' = scanDown (fun x => ltInt dk[a]! x) dk i' j) := hid ((scanDown_end (fun x => ltInt dk[a]! x) dk i' j' (Or.inl hle2)).symm.trans HD.out)
              have HR4 := hid (HR3.out.drewN nq)
              clear hcw hfw HD HR3
              generalize wr.drewN nq = W4 at HR4 ⊢
              clear nq
              obtain ⟨hcw, hfw⟩ := HR4.out.famG HSK.out HG.out
              go_wp2
              go_ret
              have e := (partEq_break ltInt a i j dk HI2.out HJ2.out (by omega)).symm.trans HO.out
              unfold partitionEqual
              rw [← e]
              exact ⟨rfl, HR4.out⟩
      · go_wp2_with fail
        go_big_quiet (first | (go_at_call 75; refine Calls.quiet_of_same (less_u _ _ _)))
        go_wp2
        have HI2 : Hid (i' = scanUp (fun x => !ltInt dk[a]! x) dk j i) := hid ((scanUp_end (fun x => !ltInt dk[a]! x) dk j i' (Or.inl hle)).symm.trans HU.out)
        have HR2 := hid (HR1.out.drewN nq)
        clear hcw hfw HU HR1
        generalize wr.drewN nq = W3 at HR2 ⊢
        clear nq
        go_loopw [10] (fun vj w2 => ∃ j' : Nat, vj = .int .i64 j' ∧ j' ≤ j ∧ i' ≤ j' + 1 ∧ Hid (Rw w0 g off C dk w2) ∧
            Hid (scanDown (fun x => ltInt dk[a]! x) dk i' j' = scanDown (fun x => ltInt dk[a]! x) dk i' j)) (fun vj _ => (intOf vj).toNat)
        case atStart => exact ⟨j, rfl, Nat.le_refl _, hij', HR2, rfl⟩
        case round =>
          obtain ⟨j', rfl, hjj, hij2, HR3, HD⟩ := hrel
          clear HR2
          obtain ⟨hcw, hfw⟩ := HR3.out.famG HSK.out HG.out
          by_cases hle2 : i' ≤ j'
          · exfalso; omega
          · go_wp2_with fail
            go_big_quiet (first | (go_at_call 75; refine Calls.quiet_of_same (less_u _ _ _)))
            have HJ2 : Hid (j' = scanDown (fun x => ltInt dk[a]! x) dk i' j) := hid ((scanDown_end (fun x => ltInt dk[a]! x) dk i' j' (Or.inl hle2)).symm.trans HD.out)
            have HR4 := hid (HR3.out.drewN nq)
            clear hcw hfw HD HR3
            generalize wr.drewN nq = W4 at HR4 ⊢
            clear nq
            obtain ⟨hcw, hfw⟩ := HR4.out.famG HSK.out HG.out
            go_wp2
            go_ret
            have e := (partEq_break ltInt a i j dk HI2.out HJ2.out (by omega)).symm.trans HO.out
            unfold partitionEqual
            rw [← e]
            exact ⟨rfl, HR4.out⟩
set_option maxHeartbeats 16000000 in
set_option maxRecDepth 1000000 in
theorem part_u (w0 : World) (g off C N cap a b pivot : Nat) (d : Array Int) (w : World) (h : Rw w0 g off C d w) (hN : d.size = N) (hap : a ≤ pivot) (hpb : pivot < b) (hb : b ≤ N) (hsz : N < 4611686018427387904) :
    Calls Try.prog 77 #[.slice (some ⟨g, off, none⟩) N cap, .int .i64 a, .int .i64 b, .int .i64 pivot] w fun e w' =>
      e = .returned (.tuple #[.int .i64 ((partition ltInt d a b pivot).1 : Nat), .bool (partition ltInt d a b pivot).2.1]) ∧ Rw w0 g off C (partition ltInt d a b pivot).2.2 w' := by
  have HN := hid hN
  have H0 := hid h
  obtain ⟨G, HG0, ca, fa⟩ := h.fam hN
  clear hN h
  obtain ⟨v', hy'⟩ := cell?_setCell_some (w := w) (p := ⟨g, off + a, none⟩) (x := .int .u32 (G pivot)) (q := ⟨g, off + pivot, none⟩) (ca pivot (by omega))
  have HS := hid ((H0.out.drewN 1).swap (i := a) (j := pivot) (by have := HN.out; omega) (by have := HN.out; omega) (HG0.out pivot) (HG0.out a))
  go_enter Try.func77, Try.ntmps77
  go_wp2
  go_region
  go_wp2
  clear ca fa hy' v'
  obtain ⟨i, HI⟩ : ∃ i, Hid (i = a + 1) := ⟨_, rfl⟩
  obtain ⟨j, HJ⟩ : ∃ j, Hid (j = b - 1) := ⟨_, rfl⟩
  obtain ⟨dk, HDK⟩ : ∃ dk, Hid (dk = swp d a pivot) := ⟨_, rfl⟩
  have hai : a < i := by have := HI.out; omega
  have hij : i ≤ j + 1 := by have := HI.out; have := HJ.out; omega
  have hjb : j < b := by have := HJ.out; omega
  have HSK : Hid (dk.size = N) := by show _ = _; rw [HDK.out, size_swp]; exact HN.out
  have HR := HS
  rw [← HDK.out] at HR
  rw [show ((a : Int) + 1) = (i : Int) by have := HI.out; omega, show ((b : Int) - 1) = (j : Int) by have := HJ.out; omega]
  clear HS H0 HG0 HN
  obtain ⟨G, HG, hcw0, hfw0⟩ := HR.out.fam HSK.out
  clear hcw0 hfw0
  go_loopw [10] (fun vi w1 => ∃ i' : Nat, vi = .int .i64 i' ∧ i ≤ i' ∧ i' ≤ j + 1 ∧ Hid (Rw w0 g off C dk w1) ∧
      Hid (scanUp (fun x => ltInt x dk[a]!) dk j i' = scanUp (fun x => ltInt x dk[a]!) dk j i)) (fun vi _ => j + 1 - (intOf vi).toNat)
  case atStart => exact ⟨i, rfl, Nat.le_refl _, hij, HR, rfl⟩
  case round =>
    obtain ⟨i', rfl, hii, hij', HR1, HU⟩ := hrel
    clear HR
    obtain ⟨hcw, hfw⟩ := HR1.out.famG HSK.out HG.out
    by_cases hle : i' ≤ j
    · go_wp2_with fail
      go_big_quiet (first | (go_at_call 75; refine Calls.quiet_of_same (less_u _ _ _)))
      go_wp2
      · have ht : ltInt (G i') (G a) = true := by assumption
        go_roundw
        case rel => exact ⟨i' + 1, by go_num, by omega, by omega, hid (HR1.out.drewN nq), hid ((scanUp_go (fun x => ltInt x dk[a]!) dk j i' hle (by simp only [← HG.out]; exact ht)).symm.trans HU.out)⟩
        case measure => simp [intOf]; omega
      · have ht : ltInt (G i') (G a) = false := by assumption
        have HI2 : Hid (i' = scanUp (fun x => ltInt x dk[a]!) dk j i) := hid ((scanUp_end (fun x => ltInt x dk[a]!) dk j i' (Or.inr (by simp only [← HG.out]; exact ht))).symm.trans HU.out)
        have HR2 := hid (HR1.out.drewN nq)
        clear hcw hfw HU HR1 ht
        generalize wr.drewN nq = W3 at HR2 ⊢
        clear nq
        go_loopw [11] (fun vj w2 => ∃ j' : Nat, vj = .int .i64 j' ∧ j' ≤ j ∧ i' ≤ j' + 1 ∧ Hid (Rw w0 g off C dk w2) ∧
            Hid (scanDown (fun x => !ltInt x dk[a]!) dk i' j' = scanDown (fun x => !ltInt x dk[a]!) dk i' j)) (fun vj _ => (intOf vj).toNat)
        case atStart => exact ⟨j, rfl, Nat.le_refl _, hij', HR2, rfl⟩
        case round =>
          obtain ⟨j', rfl, hjj, hij2, HR3, HD⟩ := hrel
          clear HR2
          obtain ⟨hcw, hfw⟩ := HR3.out.famG HSK.out HG.out
          by_cases hle2 : i' ≤ j'
          · go_wp2_with fail
            go_big_quiet (first | (go_at_call 75; refine Calls.quiet_of_same (less_u _ _ _)))
            go_wp2
            · have ht : (!ltInt (G j') (G a)) = true := by assumption
              go_roundw
              case rel => exact ⟨j' - 1, by go_num, by omega, by omega, hid (HR3.out.drewN nq), hid ((scanDown_go (fun x => !ltInt x dk[a]!) dk i' j' hle2 (by omega) (by simp only [← HG.out]; exact ht)).symm.trans HD.out)⟩
              case measure => simp [intOf]; omega
            · have ht : (!ltInt (G j') (G a)) = false := by assumption
              have HJ2 : Hid (j' = scanDown (fun x => !ltInt x dk[a]!) dk i' j) := hid ((scanDown_end (fun x => !ltInt x dk[a]!) dk i' j' (Or.inr (by simp only [← HG.out]; exact ht))).symm.trans HD.out)
              have HR4 := hid (HR3.out.drewN nq)
              clear hcw hfw HD HR3 ht
              generalize wr.drewN nq = W4 at HR4 ⊢
              clear nq
              obtain ⟨hcw, hfw⟩ := HR4.out.famG HSK.out HG.out
              have hlt3 := part_scans_lt ltInt a i j dk (by omega) HI2.out HJ2.out hle2
              obtain ⟨v3, hy3⟩ := cell?_setCell_some (w := W4) (p := ⟨g, off + i', none⟩) (x := .int .u32 (G j')) (q := ⟨g, off + j', none⟩) (hcw j' (by omega))
              have HR5 := hid ((HR4.out.drewN 1).swap (i := i') (j := j') (by have := HSK.out; omega) (by have := HSK.out; omega) (HG.out j') (HG.out i'))
              have HP := hid (part_first_go ltInt d a b pivot HI.out HJ.out HDK.out HI2.out HJ2.out (by omega))
              have HS1 : Hid ((swp dk i' j').size = N) := hid ((size_swp _ _ _).trans HSK.out)
              go_wp2
              go_region
              all_goals go_wp2
              obtain ⟨i1, hi1⟩ : ∃ i1, i1 = i' + 1 := ⟨_, rfl⟩
              obtain ⟨j1, hj1⟩ : ∃ j1, j1 = j' - 1 := ⟨_, rfl⟩
              obtain ⟨d1, hd1⟩ : ∃ d1, d1 = swp dk i' j' := ⟨_, rfl⟩
              rw [← hi1, ← hj1, ← hd1] at HP
              rw [← hd1] at HS1 HR5
              have HI1 : Hid (Value.int .i64 ((i' : Int) + 1) = .int .i64 (i1 : Nat)) := by show _ = _; rw [hi1]; go_num
              have HJ1 : Hid (Value.int .i64 ((j' : Int) - 1) = .int .i64 (j1 : Nat)) := by show _ = _; congr 1; omega
              have b1 : a < i1 := by omega
              have b2 : i1 ≤ j1 + 1 := by omega
              have b3 : j1 < b := by omega
              have HR6 := HR5
              clear hi1 hj1 hd1 hcw hfw hy3 v3 HR4 HR5 HI2 HJ2 HG HSK HI HJ HDK hlt3 hle2 hle hii hij hij' hjj hij2 hai hjb
              go_loopw [10, 11] (fun vi vj wr => ∃ (i j : Nat) (dk : Array Int), vi = .int .i64 i ∧ vj = .int .i64 j ∧ a < i ∧ i ≤ j + 1 ∧ j < b ∧ Hid (dk.size = N) ∧ Hid (Rw w0 g off C dk wr) ∧
                  Hid (partLoop ltInt a i j dk = partLoop ltInt a i1 j1 d1)) (fun vi vj _ => (intOf vj).toNat + 1 - (intOf vi).toNat)
              case atStart => exact ⟨i1, j1, d1, HI1.out, HJ1.out, by omega, by omega, by omega, HS1, HR6, rfl⟩
              case round =>
                clear HR6 HS1 HI1 HJ1
                obtain ⟨i, j, dk, rfl, rfl, hai, hij, hjb, HSK, HR, HO⟩ := hrel
                obtain ⟨G, HG, hcw0, hfw0⟩ := HR.out.fam HSK.out
                clear hcw0 hfw0
                go_wp2
                go_loopw [10] (fun vi w1 => ∃ i' : Nat, vi = .int .i64 i' ∧ i ≤ i' ∧ i' ≤ j + 1 ∧ Hid (Rw w0 g off C dk w1) ∧
                    Hid (scanUp (fun x => ltInt x dk[a]!) dk j i' = scanUp (fun x => ltInt x dk[a]!) dk j i)) (fun vi _ => j + 1 - (intOf vi).toNat)
                case atStart => exact ⟨i, rfl, Nat.le_refl _, hij, HR, rfl⟩
                case round =>
                  obtain ⟨i', rfl, hii, hij', HR1, HU⟩ := hrel
                  clear HR
                  obtain ⟨hcw, hfw⟩ := HR1.out.famG HSK.out HG.out
                  by_cases hle : i' ≤ j
                  · go_wp2_with fail
                    go_big_quiet (first | (go_at_call 75; refine Calls.quiet_of_same (less_u _ _ _)))
                    go_wp2
                    · have ht : ltInt (G i') (G a) = true := by assumption
                      go_roundw
                      case rel => exact ⟨i' + 1, by go_num, by omega, by omega, hid (HR1.out.drewN nq), hid ((scanUp_go (fun x => ltInt x dk[a]!) dk j i' hle (by simp only [← HG.out]; exact ht)).symm.trans HU.out)⟩
                      case measure => simp [intOf]; omega
                    · have ht : ltInt (G i') (G a) = false := by assumption
                      have HI2 : Hid (i' = scanUp (fun x => ltInt x dk[a]!) dk j i) := hid ((scanUp_end (fun x => ltInt x dk[a]!) dk j i' (Or.inr (by simp only [← HG.out]; exact ht))).symm.trans HU.out)
                      have HR2 := hid (HR1.out.drewN nq)
                      clear hcw hfw HU HR1 ht
                      generalize wr.drewN nq = W3 at HR2 ⊢
                      clear nq
                      go_loopw [11] (fun vj w2 => ∃ j' : Nat, vj = .int .i64 j' ∧ j' ≤ j ∧ i' ≤ j' + 1 ∧ Hid (Rw w0 g off C dk w2) ∧
                          Hid (scanDown (fun x => !ltInt x dk[a]!) dk i' j' = scanDown (fun x => !ltInt x dk[a]!) dk i' j)) (fun vj _ => (intOf vj).toNat)
                      case atStart => exact ⟨j, rfl, Nat.le_refl _, hij', HR2, rfl⟩
                      case round =>
                        obtain ⟨j', rfl, hjj, hij2, HR3, HD⟩ := hrel
                        clear HR2
                        obtain ⟨hcw, hfw⟩ := HR3.out.famG HSK.out HG.out
                        by_cases hle2 : i' ≤ j'
                        · go_wp2_with fail
                          go_big_quiet (first | (go_at_call 75; refine Calls.quiet_of_same (less_u _ _ _)))
                          go_wp2
                          · have ht : (!ltInt (G j') (G a)) = true := by assumption
                            go_roundw
                            case rel => exact ⟨j' - 1, by go_num, by omega, by omega, hid (HR3.out.drewN nq), hid ((scanDown_go (fun x => !ltInt x dk[a]!) dk i' j' hle2 (by omega) (by simp only [← HG.out]; exact ht)).symm.trans HD.out)⟩
                            case measure => simp [intOf]; omega
                          · have ht : (!ltInt (G j') (G a)) = false := by assumption
                            have HJ2 : Hid (j' = scanDown (fun x => !ltInt x dk[a]!) dk i' j) := hid ((scanDown_end (fun x => !ltInt x dk[a]!) dk i' j' (Or.inr (by simp only [← HG.out]; exact ht))).symm.trans HD.out)
                            have HR4 := hid (HR3.out.drewN nq)
                            clear hcw hfw HD HR3 ht
                            generalize wr.drewN nq = W4 at HR4 ⊢
                            clear nq
                            obtain ⟨hcw, hfw⟩ := HR4.out.famG HSK.out HG.out
                            have hlt3 := part_scans_lt ltInt a i j dk (by omega) HI2.out HJ2.out hle2
                            obtain ⟨v3, hy3⟩ := cell?_setCell_some (w := W4) (p := ⟨g, off + i', none⟩) (x := .int .u32 (G j')) (q := ⟨g, off + j', none⟩) (hcw j' (by omega))
                            have HR5 := hid ((HR4.out.drewN 1).swap (i := i') (j := j') (by have := HSK.out; omega) (by have := HSK.out; omega) (HG.out j') (HG.out i'))
                            go_wp2
                            go_region
                            all_goals go_wp2
                            go_roundw
                            case rel =>
                              exact ⟨i' + 1, j' - 1, swp dk i' j', by go_num, by go_num, by omega, by omega, by omega, hid ((size_swp _ _ _).trans HSK.out), HR5, hid ((part_go ltInt a i j dk HI2.out HJ2.out (by omega)).symm.trans HO.out)⟩
                            case measure => simp [intOf]; omega
                        · go_wp2_with fail
                          go_big_quiet (first | (go_at_call 75; refine Calls.quiet_of_same (less_u _ _ _)))
                          have HJ2 : Hid (j' = scanDown (fun x => !ltInt x dk[a]!) dk i' j) := hid ((scanDown_end (fun x => !ltInt x dk[a]!) dk i' j' (Or.inl hle2)).symm.trans HD.out)
                          have HR4 := hid (HR3.out.drewN nq)
                          clear hcw hfw HD HR3
                          generalize wr.drewN nq = W4 at HR4 ⊢
                          clear nq
                          obtain ⟨hcw, hfw⟩ := HR4.out.famG HSK.out HG.out
                          obtain ⟨v3, hy3⟩ := cell?_setCell_some (w := W4) (p := ⟨g, off + j', none⟩) (x := .int .u32 (G a)) (q := ⟨g, off + a, none⟩) (hcw a (by omega))
                          have HR5 := hid ((HR4.out.drewN 1).swap (i := j') (j := a) (by have := HSK.out; omega) (by have := HSK.out; omega) (HG.out a) (HG.out j'))
                          go_wp2
                          go_region
                          all_goals go_wp2
                          go_ret2
                          have e := (part_break ltInt a i j dk HI2.out HJ2.out (by omega)).symm.trans HO.out
                          rw [HP.out, ← e]
                          exact ⟨rfl, HR5.out⟩
                  · go_wp2_with fail
                    go_big_quiet (first | (go_at_call 75; refine Calls.quiet_of_same (less_u _ _ _)))
                    go_wp2
                    have HI2 : Hid (i' = scanUp (fun x => ltInt x dk[a]!) dk j i) := hid ((scanUp_end (fun x => ltInt x dk[a]!) dk j i' (Or.inl hle)).symm.trans HU.out)
                    have HR2 := hid (HR1.out.drewN nq)
                    clear hcw hfw HU HR1
                    generalize wr.drewN nq = W3 at HR2 ⊢
                    clear nq
                    go_loopw [11] (fun vj w2 => ∃ j' : Nat, vj = .int .i64 j' ∧ j' ≤ j ∧ i' ≤ j' + 1 ∧ Hid (Rw w0 g off C dk w2) ∧
                        Hid (scanDown (fun x => !ltInt x dk[a]!) dk i' j' = scanDown (fun x => !ltInt x dk[a]!) dk i' j)) (fun vj _ => (intOf vj).toNat)
                    case atStart => exact ⟨j, rfl, Nat.le_refl _, hij', HR2, rfl⟩
                    case round =>
                      obtain ⟨j', rfl, hjj, hij2, HR3, HD⟩ := hrel
                      clear HR2
                      obtain ⟨hcw, hfw⟩ := HR3.out.famG HSK.out HG.out
                      by_cases hle2 : i' ≤ j'
                      · exfalso; omega
                      · go_wp2_with fail
                        go_big_quiet (first | (go_at_call 75; refine Calls.quiet_of_same (less_u _ _ _)))
                        have HJ2 : Hid (j' = scanDown (fun x => !ltInt x dk[a]!) dk i' j) := hid ((scanDown_end (fun x => !ltInt x dk[a]!) dk i' j' (Or.inl hle2)).symm.trans HD.out)
                        have HR4 := hid (HR3.out.drewN nq)
                        clear hcw hfw HD HR3
                        generalize wr.drewN nq = W4 at HR4 ⊢
                        clear nq
                        obtain ⟨hcw, hfw⟩ := HR4.out.famG HSK.out HG.out
                        obtain ⟨v3, hy3⟩ := cell?_setCell_some (w := W4) (p := ⟨g, off + j', none⟩) (x := .int .u32 (G a)) (q := ⟨g, off + a, none⟩) (hcw a (by omega))
                        have HR5 := hid ((HR4.out.drewN 1).swap (i := j') (j := a) (by have := HSK.out; omega) (by have := HSK.out; omega) (HG.out a) (HG.out j'))
                        go_wp2
                        go_region
                        all_goals go_wp2
                        go_ret2
                        have e := (part_break ltInt a i j dk HI2.out HJ2.out (by omega)).symm.trans HO.out
                        rw [HP.out, ← e]
                        exact ⟨rfl, HR5.out⟩
          · go_wp2_with fail
            go_big_quiet (first | (go_at_call 75; refine Calls.quiet_of_same (less_u _ _ _)))
            have HJ2 : Hid (j' = scanDown (fun x => !ltInt x dk[a]!) dk i' j) := hid ((scanDown_end (fun x => !ltInt x dk[a]!) dk i' j' (Or.inl hle2)).symm.trans HD.out)
            have HR4 := hid (HR3.out.drewN nq)
            clear hcw hfw HD HR3
            generalize wr.drewN nq = W4 at HR4 ⊢
            clear nq
            obtain ⟨hcw, hfw⟩ := HR4.out.famG HSK.out HG.out
            obtain ⟨v3, hy3⟩ := cell?_setCell_some (w := W4) (p := ⟨g, off + j', none⟩) (x := .int .u32 (G a)) (q := ⟨g, off + a, none⟩) (hcw a (by omega))
            have HR5 := hid ((HR4.out.drewN 1).swap (i := j') (j := a) (by have := HSK.out; omega) (by have := HSK.out; omega) (HG.out a) (HG.out j'))
            go_wp2
            go_region
            all_goals go_wp2
            go_ret2
            rw [part_first_break ltInt d a b pivot HI.out HJ.out HDK.out HI2.out HJ2.out (by omega)]
            exact ⟨rfl, HR5.out⟩
    · go_wp2_with fail
      go_big_quiet (first | (go_at_call 75; refine Calls.quiet_of_same (less_u _ _ _)))
      go_wp2
      have HI2 : Hid (i' = scanUp (fun x => ltInt x dk[a]!) dk j i) := hid ((scanUp_end (fun x => ltInt x dk[a]!) dk j i' (Or.inl hle)).symm.trans HU.out)
      have HR2 := hid (HR1.out.drewN nq)
      clear hcw hfw HU HR1
      generalize wr.drewN nq = W3 at HR2 ⊢
      clear nq
      go_loopw [11] (fun vj w2 => ∃ j' : Nat, vj = .int .i64 j' ∧ j' ≤ j ∧ i' ≤ j' + 1 ∧ Hid (Rw w0 g off C dk w2) ∧
          Hid (scanDown (fun x => !ltInt x dk[a]!) dk i' j' = scanDown (fun x => !ltInt x dk[a]!) dk i' j)) (fun vj _ => (intOf vj).toNat)
      case atStart => exact ⟨j, rfl, Nat.le_refl _, hij', HR2, rfl⟩
      case round =>
        obtain ⟨j', rfl, hjj, hij2, HR3, HD⟩ := hrel
        clear HR2
        obtain ⟨hcw, hfw⟩ := HR3.out.famG HSK.out HG.out
        by_cases hle2 : i' ≤ j'
        · exfalso; omega
        · go_wp2_with fail
          go_big_quiet (first | (go_at_call 75; refine Calls.quiet_of_same (less_u _ _ _)))
          have HJ2 : Hid (j' = scanDown (fun x => !ltInt x dk[a]!) dk i' j) := hid ((scanDown_end (fun x => !ltInt x dk[a]!) dk i' j' (Or.inl hle2)).symm.trans HD.out)
          have HR4 := hid (HR3.out.drewN nq)
          clear hcw hfw HD HR3
          generalize wr.drewN nq = W4 at HR4 ⊢
          clear nq
          obtain ⟨hcw, hfw⟩ := HR4.out.famG HSK.out HG.out
          obtain ⟨v3, hy3⟩ := cell?_setCell_some (w := W4) (p := ⟨g, off + j', none⟩) (x := .int .u32 (G a)) (q := ⟨g, off + a, none⟩) (hcw a (by omega))
          have HR5 := hid ((HR4.out.drewN 1).swap (i := j') (j := a) (by have := HSK.out; omega) (by have := HSK.out; omega) (HG.out a) (HG.out j'))
          go_wp2
          go_region
          all_goals go_wp2
          go_ret2
          rw [part_first_break ltInt d a b pivot HI.out HJ.out HDK.out HI2.out HJ2.out (by omega)]
          exact ⟨rfl, HR5.out⟩
end Go.Proofs.Herb
