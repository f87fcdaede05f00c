/- UnionsTaken: the walk. -/
import Derived.Test.YtnkkfdlmcpnokaaUpl
import Derived.Deep.RegionWith
namespace Go.Proofs.Herb
open Go.RowKit
theorem of_drew {A B : World} (h : Below A.drew.heap.size A.drew B) : Below A.heap.size A B := ⟨h.os, h.tape, h.output, h.size, h.block⟩
theorem uChg_none {base a b : List Fact} (h : uClash base a b ≠ []) : uChg base a b = [] := by unfold uChg; rw [if_neg h]
theorem ofK_len (l : List Fact) (k : ByteArray) : (ofK l k).length ≤ l.length := List.length_filter_le _ _
set_option maxRecDepth 100000 in
set_option maxHeartbeats 8000000 in
theorem taken_any (q : Nat → Option Addr) (n c : Nat → Nat) (Ls : Nat → List Fact) (w : World) (hn : ∀ i, i < 3 → (Ls i).length = n i) (hm : ∀ i, i < 3 → n i ≤ maxLen) (hr : ∀ i, i < 3 → Rd w (q i) (fCells (Ls i))) (hks : ∀ i, i < 3 → ∀ f ∈ Ls i, f.key.size ≤ maxLen) :
    Calls Try.prog 4 #[.agg #[.slice (q 0) (n 0) (c 0), .slice (q 1) (n 1) (c 1), .slice (q 2) (n 2) (c 2)]] w fun e w' => e = .returned (.bool true) ∧ Below w.heap.size w w' := by
  obtain ⟨X, hX⟩ : ∃ X, w.heap.size = X := ⟨_, rfl⟩
  have kg := fun W => great_any q n c W hm
  have HN := hid hn
  have HKS := hid hks
  obtain ⟨w1, hw1⟩ : ∃ w1, w.alloc (.cells #[.slice (q 0) (n 0) (c 0), .slice (q 1) (n 1) (c 1), .slice (q 2) (n 2) (c 2)] 24) = w1 := ⟨_, rfl⟩
  have HT1 : Hid (ThreeAt w1 X q n c Ls) := by
    show ThreeAt _ _ _ _ _ _
    rw [← hw1, ← hX]; exact ThreeAt.new hr
  have HB1 : Hid (Below w.heap.size w w1) := by
    show Below _ _ _
    rw [← hw1]; exact (Below.refl _ _).alloc (Nat.le_refl _) _
  obtain ⟨d0, d1, d2⟩ := HT1.out.cells
  clear hn hr hks hm
  go_enter Try.func4, Try.ntmps4
  go_upto_region 1 with fail
  clear hw1
  have HXX := hid hX
  have kl := fun W => lives_any W
  go_cut [11] (fun v wd => ∃ b, v = .bool b ∧ (b = false → ∀ i, i < 3 → n i ≤ 120) ∧ Hid (Below w1.heap.size w1 wd))
  case first =>
    go_wp2_with (go_at_call 7; with_reducible refine (kg _).mono ?_; rintro e w2 ⟨b, rfl, h1, h2⟩)
    go_meet
    exact ⟨b, rfl, h1, h2⟩
  case rest =>
    obtain ⟨b, rfl, hb, HB2⟩ := hcut
    rename_i hK
    refine hK _ _ ?_
    clear hK d0 d1 d2
    have HT2 := hid (HT1.out.below HB2.out)
    have HW2 := hid (HB1.out.trans (HB2.out.mono HB1.out.size))
    have hXl := lt_of_block HT2.out.row
    clear HT1 HB1 HB2 kg
    cases b with
    | true =>
      go_wp2_with (go_at_call 8; with_reducible refine (kl _).mono ?_; rintro e w3 ⟨rfl, h3⟩)
      go_ret
      exact ⟨rfl, HW2.out.trans (h3.mono HW2.out.size)⟩
    | false =>
      have hb2 := hb rfl
      have n0 := hb2 0 (by omega)
      have n1 := hb2 1 (by omega)
      have n2 := hb2 2 (by omega)
      clear hb hb2
      have k1 := of_any q n c Ls wc HN.out (fun i hi => by rcases three hi with rfl | rfl | rfl <;> omega) HT2.out.rd HKS.out
      obtain ⟨CE, hCE⟩ : ∃ C, uChg (Ls 0) (Ls 1) (Ls 2) = C := ⟨_, rfl⟩
      obtain ⟨CL, hCL⟩ : ∃ C, uClash (Ls 0) (Ls 1) (Ls 2) = C := ⟨_, rfl⟩
      have hE := uChg_len (Ls 0) (Ls 1) (Ls 2)
      have hE2 : ((Ls 0).length + (Ls 1).length + (Ls 2).length) * (Ls 2).length ≤ 360 * 120 := Nat.mul_le_mul (by rw [HN.out 0 (by omega), HN.out 1 (by omega), HN.out 2 (by omega)]; omega) (by rw [HN.out 2 (by omega)]; omega)
      have hL : CL.length ≤ 360 := by
        rw [← hCL]
        have h1 := uCl_len (Ls 0) (Ls 1) (Ls 2) (uKeys (Ls 0) (Ls 1) (Ls 2))
        have h2 := uKeys_len (Ls 0) (Ls 1) (Ls 2)
        rw [HN.out 0 (by omega), HN.out 1 (by omega), HN.out 2 (by omega)] at h2
        have h3 : (uClash (Ls 0) (Ls 1) (Ls 2)).length = (uCl (Ls 0) (Ls 1) (Ls 2) (uKeys (Ls 0) (Ls 1) (Ls 2))).length := rfl
        omega
      rw [hCE] at hE
      obtain ⟨NE, hNE⟩ : ∃ N, CE.length = N := ⟨_, rfl⟩
      obtain ⟨NL, hNL⟩ : ∃ N, CL.length = N := ⟨_, rfl⟩
      rw [hNE] at hE
      rw [hNL] at hL
      have bNE : NE ≤ 43200 := by omega
      simp only [hCE, hCL, hNE, hNL] at k1
      have HCE := hid hCE
      have HCL := hid hCL
      have HNE := hid hNE
      have HNL := hid hNL
      clear hCE hCL hNE hNL hE hE2
      obtain ⟨d0, d1, d2⟩ := HT2.out.cells
      go_upto_region 4 with (go_at_call 9; with_reducible refine k1.mono ?_; rintro e w5 ⟨qe, qz, rfl, re, _, b5⟩; have RE := hid re; have B5 := hid b5; clear re b5 k1)
      have HT5 := hid (HT2.out.below B5.out)
      have HW5 := hid (HW2.out.trans (B5.out.mono HW2.out.size))
      clear HT2 HW2 B5 hXl d0 d1 d2
      by_cases hz : NL = 0
      · subst hz
        have h0 : Hid (uClash (Ls 0) (Ls 1) (Ls 2) = []) := by show _ = _; rw [HCL.out]; exact List.eq_nil_of_length_eq_zero HNL.out
        have k2 := over_any (q 1) qe (n 1) (c 1) NE NE (Ls 1) CE w5 (HN.out 1 (by omega)) HNE.out (by omega) (by omega) (HT5.out.rd 1 (by omega)) RE.out
        have hk3 : ∀ W, Below w5.heap.size w5 W → _ := fun W hW => diff_any (q 0) (q 2) (n 0) (c 0) (n 2) (c 2) (Ls 0) (Ls 2) W (HN.out 0 (by omega)) (HN.out 2 (by omega)) (by omega) (by omega) ((HT5.out.rd 0 (by omega)).below hW) ((HT5.out.rd 2 (by omega)).below hW)
        obtain ⟨U, hU⟩ : ∃ U, overF (Ls 1) CE = U := ⟨_, rfl⟩
        obtain ⟨D, hD⟩ : ∃ D, diffS (Ls 0) (Ls 2) = D := ⟨_, rfl⟩
        have hlD := diffS_len (Ls 0) (Ls 2)
        rw [HN.out 0 (by omega), HN.out 2 (by omega), hD] at hlD
        have HUL : Hid (U.length = NE + n 1) := by show _ = _; rw [← hU]; unfold overF; rw [List.length_append, List.length_map, HNE.out, HN.out 1 (by omega)]
        have ht1 : ∀ k, k ∈ D → diffS (ofK U k) (ofK (Ls 2) k) = [] := fun k hk => by
          have := taken_b h0.out (k := k) (by rw [hD]; exact hk)
          rwa [HCE.out, hU] at this
        have ht2 : ∀ k, k ∈ diffS U (Ls 1) → k ∈ D := fun k hk => by
          have := taken_a h0.out (k := k) (by rw [HCE.out, hU]; exact hk)
          rwa [hD] at this
        obtain ⟨ND, hND⟩ : ∃ N, D.length = N := ⟨_, rfl⟩
        rw [hU] at k2
        simp only [hD, hND] at hk3
        rw [hND] at hlD
        have HND := hid hND
        have H3 := hid hk3
        have HT1 := hid ht1
        have HT2 := hid ht2
        clear hk3 hU hD hND ht1 ht2
        obtain ⟨d0, d1, d2⟩ := HT5.out.cells
        go_upto_region 8 with (first
          | (go_at_call 13; with_reducible refine k2.mono ?_; rintro e w6 ⟨qu, cu, rfl, ru, b6⟩; have RU := hid ru; have B6 := hid b6; obtain ⟨y0, y1, y2⟩ := (HT5.out.below b6).cells; have k3 := H3.out w6 b6; clear b6 ru k2)
          | (go_at_call 14; with_reducible refine k3.mono ?_; rintro e w7 ⟨qd, rfl, _, rd, b7⟩; have RD := hid rd; have B67 := hid b7; have B7 := hid (B6.out.trans (b7.mono B6.out.size)); clear b7 rd k3))
        have HT7 := hid (HT5.out.below B7.out)
        have HW7 := hid (HW5.out.trans (B7.out.mono HW5.out.size))
        have RU7 := hid (RU.out.below B67.out)
        clear HT5 HW5 RU B6 B7 B67 d0 d1 d2 y0 y1 y2 H3 RE
        go_wp2
        go_loopw [7] (fun i wr => ∃ j : Nat, j ≤ ND ∧ i = .int .i64 (j : Int) ∧ Hid (Below w7.heap.size w7 wr)) (fun i _ => ND - (intOf i).toNat)
        case atStart => exact ⟨0, Nat.zero_le _, rfl, Below.refl _ _⟩
        case round =>
          obtain ⟨j, hj, rfl, HB⟩ := hrel
          by_cases hlt : j < ND
          · have hjl : j < D.length := by rw [HND.out]; exact hlt
            obtain ⟨bd, od, rfl, g9⟩ := rd_text (RD.out.below HB.out) (j := j) hjl
            obtain ⟨k, hk⟩ : ∃ k, D[j] = k := ⟨_, rfl⟩
            rw [hk] at g9
            have hkD : k ∈ D := by rw [← hk]; exact List.getElem_mem _
            have HE := hid (HT1.out k hkD)
            have HT := hid (HT7.out.below HB.out)
            obtain ⟨d0, d1, d2⟩ := HT.out.cells
            have hbl := World.block_lt_of_cell? wr _ g9
            have hXl := lt_of_block HT.out.row
            have hk1 : ∀ W, Below wr.heap.size wr W → _ := fun W hW => ofK_any qu (NE + n 1) cu U k W HUL.out (by omega) ((RU7.out.below HB.out).below hW)
            have hk2 : ∀ W, Below wr.heap.size wr W → _ := fun W hW => ofK_any (q 2) (n 2) (c 2) (Ls 2) k W (HN.out 2 (by omega)) (by omega) ((HT.out.rd 2 (by omega)).below hW)
            have hu := ofK_len U k
            have hv := ofK_len (Ls 2) k
            rw [HUL.out] at hu
            rw [HN.out 2 (by omega)] at hv
            have hk3 : ∀ W q' c' q'' c'', Rd W q' (fCells (ofK U k)) → Rd W q'' (fCells (ofK (Ls 2) k)) → _ := fun W q' c' q'' c'' h1 h2 => diff_any q' q'' _ c' _ c'' (ofK U k) (ofK (Ls 2) k) W rfl rfl (by omega) (by omega) h1 h2
            simp only [HE.out, List.length_nil] at hk3
            have H1 := hid hk1
            have H2 := hid hk2
            have H3 := hid hk3
            have G9 := hid g9
            have D2 := hid d2
            have i0 : (0 : Int) ≤ (j : Int) := by omega
            have i1 : (j : Int) < (ND : Int) := by omega
            clear hk hkD hk1 hk2 hk3 hu hv hjl
            go_upto_region 11 with fail
            go_cut [62] (fun v wd => v = .bool false ∧ Hid (Below wr.heap.size wr wd))
            case first =>
              go_region_with (first
                | (go_at_call 15; with_reducible refine (H1.out _ (below_drew (Below.refl _ _))).mono ?_; rintro e wA ⟨qA, cA, rfl, rA, bA⟩; have RA := hid rA; have BA := hid (of_drew bA); have g9' := (BA.out.cell (p := ⟨bd, od + j, none⟩) hbl).trans G9.out; have d2' := (BA.out.cell (p := ⟨X, 2, none⟩) hXl).trans D2.out; have kB := H2.out wA BA.out; clear rA bA)
                | (go_at_call 15; with_reducible refine kB.mono ?_; rintro e wB ⟨qB, cB, rfl, rB, bB⟩; have BB := hid (BA.out.trans (bB.mono BA.out.size)); have kC := H3.out wB qA cA qB cB (RA.out.below bB) rB; clear rB bB)
                | (go_at_call 14; with_reducible refine kC.mono ?_; rintro e wC ⟨qC, rfl, _, _, bC⟩; have BC := hid (BB.out.trans (bC.mono BB.out.size)); clear bC))
              all_goals
                go_wp2
                go_meet
                exact ⟨rfl, BC.out⟩
            obtain ⟨rfl, HBc⟩ := hcut
            rename_i hK
            refine hK _ _ ?_
            clear hK
            go_wp2
            go_roundw
            case rel => exact ⟨j + 1, by omega, by go_num, HB.out.trans (HBc.out.mono HB.out.size)⟩
            case measure => simp [intOf]; omega
          · obtain rfl : j = ND := by omega
            have HT8 := hid (HT7.out.below HB.out)
            have HW8 := hid (HW7.out.trans (HB.out.mono HW7.out.size))
            obtain ⟨d0, d1, d2⟩ := HT8.out.cells
            have RU8 := hid (RU7.out.below HB.out)
            have RD8 := hid (RD.out.below HB.out)
            have k1 := diff_any qu (q 1) (NE + n 1) cu (n 1) (c 1) U (Ls 1) wr HUL.out (HN.out 1 (by omega)) (by omega) (by omega) RU8.out (HT8.out.rd 1 (by omega))
            obtain ⟨O, hO⟩ : ∃ O, diffS U (Ls 1) = O := ⟨_, rfl⟩
            obtain ⟨NO, hNO⟩ : ∃ N, O.length = N := ⟨_, rfl⟩
            have hlO := diffS_len U (Ls 1)
            rw [HUL.out, HN.out 1 (by omega), hO, hNO] at hlO
            have hin : ∀ k, k ∈ O → inS k D = true := fun k hk => inS_iff.2 (HT2.out k (by rw [hO]; exact hk))
            rw [hO, hNO] at k1
            have HIN := hid hin
            have HNO := hid hNO
            clear hO hNO hin HT1 HT2
            go_upto_region 14 with (go_at_call 14; with_reducible refine k1.mono ?_; rintro e w9 ⟨qo, rfl, _, ro, b9⟩; have RO := hid ro; have B9 := hid b9; clear ro b9 k1)
            have RD9 := hid (RD8.out.below B9.out)
            have HW9 := hid (HW8.out.trans (B9.out.mono HW8.out.size))
            clear HT7 HT8 HW7 HW8 RU7 RU8 RD RD8 B9 HB d0 d1 d2
            go_wp2
            go_loopw [9] (fun i wr => ∃ j : Nat, j ≤ NO ∧ i = .int .i64 (j : Int) ∧ wr = w9) (fun i _ => NO - (intOf i).toNat)
            case atStart => exact ⟨0, Nat.zero_le _, rfl, rfl⟩
            case round =>
              obtain ⟨i, hi, rfl, rfl⟩ := hrel
              by_cases hlt2 : i < NO
              · have hil : i < O.length := by rw [HNO.out]; exact hlt2
                obtain ⟨bo, oo, rfl, g9⟩ := rd_text RO.out (j := i) hil
                obtain ⟨k, hk⟩ : ∃ k, O[i] = k := ⟨_, rfl⟩
                rw [hk] at g9
                have hkO := HIN.out k (by rw [← hk]; exact List.getElem_mem _)
                have k2 := in_any qd j j D k wr HND.out (by omega) RD9.out
                rw [hkO] at k2
                have i0 : (0 : Int) ≤ (i : Int) := by omega
                have i1 : (i : Int) < (NO : Int) := by omega
                clear hk hkO hil
                go_wp2_with (go_at_call 16; with_reducible refine k2.mono ?_; rintro e w' ⟨rfl, rfl⟩)
                go_roundw
                case rel => exact ⟨i + 1, by omega, by go_num, trivial⟩
                case measure => simp [intOf]; omega
              · obtain rfl : i = NO := by omega
                go_wp2_with (go_at_call 8; with_reducible refine (kl _).mono ?_; rintro e wz ⟨rfl, bZ⟩)
                go_ret
                exact ⟨rfl, HW9.out.trans (bZ.mono HW9.out.size)⟩
      · have hz2 : (0 : Int) < (NL : Int) := by omega
        have h0 : uClash (Ls 0) (Ls 1) (Ls 2) ≠ [] := fun e => hz (by rw [← HNL.out, ← HCL.out, e]; rfl)
        have hne : NE = 0 := by rw [← HNE.out, ← HCE.out, uChg_none h0]; rfl
        subst hne
        clear h0 hz
        go_wp2_with (go_at_call 8; with_reducible refine (kl _).mono ?_; rintro e wz ⟨rfl, bZ⟩)
        go_ret
        exact ⟨rfl, HW5.out.trans (bZ.mono HW5.out.size)⟩
end Go.Proofs.Herb
