
/- The reference of chapter 19: Of. For lists that can be read. -/
import Derived.Test.YtnkkfdlmcpnokaaUrk
import Derived.Test.YtnkkfdlmcpnokaaUrt
namespace Go.Proofs.Herb
open Go.RowKit
set_option maxRecDepth 100000 in
set_option maxHeartbeats 8000000 in
theorem ref_of (q : Nat → Option Addr) (n c : Nat → Nat) (Ls : Nat → List Fact) (w : World) (hn : ∀ i, i < 3 → (Ls i).length = n i) (hm : ∀ i, i < 3 → n i ≤ 1000) (hr : ∀ i, i < 3 → Rd w (q i) (fCells (Ls i))) :
    Calls Try.prog 10 #[.slice (q 0) (n 0) (c 0), .slice (q 1) (n 1) (c 1), .slice (q 2) (n 2) (c 2)] w fun e w' => ∃ q1 c1 q2 c2,
      e = .returned (.tuple #[.slice q1 (uChg (Ls 0) (Ls 1) (Ls 2)).length c1, .slice q2 (uClash (Ls 0) (Ls 1) (Ls 2)).length c2]) ∧
        Rd w' q1 (cgCells (uChg (Ls 0) (Ls 1) (Ls 2))) ∧ Rd w' q2 (strs (uClash (Ls 0) (Ls 1) (Ls 2))) ∧ Below w.heap.size w w' := by
  have hb1 : Below w.heap.size w (w.alloc (.cells #[.slice (q 0) (n 0) (c 0), .slice (q 1) (n 1) (c 1), .slice (q 2) (n 2) (c 2)] 22)) := (Below.refl _ _).alloc (Nat.le_refl _) _
  have kk := keys_ref w.heap.size q n c Ls (w.alloc (.cells #[.slice (q 0) (n 0) (c 0), .slice (q 1) (n 1) (c 1), .slice (q 2) (n 2) (c 2)] 22)) (th3 (by rw [cell_of_row _ _ _ _ _ _ (World.alloc_heap_new _ _)]; rfl) (by rw [cell_of_row _ _ _ _ _ _ (World.alloc_heap_new _ _)]; rfl) (by rw [cell_of_row _ _ _ _ _ _ (World.alloc_heap_new _ _)]; rfl)) hn hm (fun i hi => (hr i hi).below hb1)
  have HB1 := hid hb1
  have HN := hid hn
  have HR := hid hr
  have hm0 := hm 0 (by omega)
  have hm1 := hm 1 (by omega)
  have hm2 := hm 2 (by omega)
  have hKl := uKeys_len (Ls 0) (Ls 1) (Ls 2)
  rw [HN.out 0 (by omega), HN.out 1 (by omega), HN.out 2 (by omega)] at hKl
  obtain ⟨KK, hKK⟩ : ∃ KK, uKeys (Ls 0) (Ls 1) (Ls 2) = KK := ⟨_, rfl⟩
  obtain ⟨nk, hnk⟩ : ∃ nk, KK.length = nk := ⟨_, rfl⟩
  simp only [hKK, hnk] at kk hKl
  have HKK := hid hKK
  have HNK := hid hnk
  clear hn hr hm hb1 hKK hnk
  go_enter Try.func10, Try.ntmps10
  go_upto_region 4 with (go_at_call 27; with_reducible refine kk.mono ?_; rintro e w5 ⟨qk, ck, rfl, rk, b5⟩; have RK := hid rk; have HB5 := hid (HB1.out.trans (b5.mono HB1.out.size)); clear rk b5 kk)
  go_wp2
  go_loopw [8, 9, 11] (fun v8 v9 i wr => ∃ (j : Nat), j ≤ nk ∧ i = .int .i64 (j : Int) ∧ Hid (wr.ownsRow w5.heap.size 44 4 v8 (uCh (Ls 0) (Ls 1) (Ls 2) (KK.take j)).length (cgCells (uCh (Ls 0) (Ls 1) (Ls 2) (KK.take j)))) ∧ Hid (wr.ownsRow w5.heap.size 9 1 v9 (uCl (Ls 0) (Ls 1) (Ls 2) (KK.take j)).length (strs (uCl (Ls 0) (Ls 1) (Ls 2) (KK.take j)))) ∧ Hid (Below w5.heap.size w5 wr)) (fun _ _ i _ => nk - (intOf i).toNat)
  case atStart => exact ⟨0, Nat.zero_le _, rfl, World.ownsRow_nil _ _ _ _, World.ownsRow_nil _ _ _ _, Below.refl _ _⟩
  case round =>
    obtain ⟨j, hjn, rfl, HC, HK, HB⟩ := hrel
    by_cases hlt : j < nk
    · have hjl : j < KK.length := by rw [HNK.out]; exact hlt
      obtain ⟨bk, ok, rfl, ck1⟩ := rd_text (RK.out.below HB.out) (j := j) hjl
      obtain ⟨k, hk⟩ : ∃ k, KK[j]'hjl = k := ⟨_, rfl⟩
      rw [hk] at ck1
      have HT : Hid (KK.take (j + 1) = KK.take j ++ [k]) := by show _ = _; rw [← hk, List.take_succ_eq_append_getElem hjl]
      have hlC := uCh_len (Ls 0) (Ls 1) (Ls 2) (KK.take j)
      have hlL := uCl_len (Ls 0) (Ls 1) (Ls 2) (KK.take j)
      have htk : (KK.take j).length ≤ j := by rw [List.length_take]; omega
      have hl2 := HN.out 2 (by omega)
      have hlC2 : (KK.take j).length * (Ls 2).length ≤ 3000 * 1000 := Nat.mul_le_mul (by omega) (by omega)
      have hbr := brS_len (Ls 1) (Ls 2) k
      obtain ⟨nC, hnC⟩ : ∃ x, (uCh (Ls 0) (Ls 1) (Ls 2) (KK.take j)).length = x := ⟨_, rfl⟩
      obtain ⟨nL, hnL⟩ : ∃ x, (uCl (Ls 0) (Ls 1) (Ls 2) (KK.take j)).length = x := ⟨_, rfl⟩
      obtain ⟨nm, hnm⟩ : ∃ x, (brS (Ls 1) (Ls 2) k).length = x := ⟨_, rfl⟩
      rw [hnC] at HC hlC
      rw [hnL] at HK hlL
      rw [hnm] at hbr
      have HNC := hid hnC
      have HNL := hid hnL
      have HNM := hid hnm
      have hnC1 : nC ≤ 3000000 := by omega
      have hnL1 : nL ≤ 3000 := by omega
      have hnm1 : nm ≤ 1000 := by omega
      obtain ⟨qa, ca, rfl, ha1, ha2, _⟩ := own_shape HC.out
      obtain ⟨qb, cb, rfl, hb1, hb2, _⟩ := own_shape HK.out
      have hrd : ∀ i, i < 3 → Rd wr (q i) (fCells (Ls i)) := fun i hi => ((HR.out i hi).below HB5.out).below HB.out
      have HRD := hid hrd
      have ks1 := same_any (q 1) (q 2) (n 1) (c 1) (n 2) (c 2) (Ls 1) (Ls 2) k wr (HN.out 1 (by omega)) (HN.out 2 (by omega)) (by omega) (by omega) (hrd 1 (by omega)) (hrd 2 (by omega))
      have hk2 : ∀ W, Below wr.heap.size wr W → _ := fun W hW => same_any (q 2) (q 0) (n 2) (c 2) (n 0) (c 0) (Ls 2) (Ls 0) k W (HN.out 2 (by omega)) (HN.out 0 (by omega)) (by omega) (by omega) ((hrd 2 (by omega)).below hW) ((hrd 0 (by omega)).below hW)
      have hk3 : ∀ W, Below wr.heap.size wr W → _ := fun W hW => same_any (q 1) (q 0) (n 1) (c 1) (n 0) (c 0) (Ls 1) (Ls 0) k W (HN.out 1 (by omega)) (HN.out 0 (by omega)) (by omega) (by omega) ((hrd 1 (by omega)).below hW) ((hrd 0 (by omega)).below hW)
      have hk4 : ∀ W, Below wr.heap.size wr W → _ := fun W hW => has_ref (q 1) (q 2) (n 1) (c 1) (n 2) (c 2) (Ls 1) (Ls 2) k W (HN.out 1 (by omega)) (HN.out 2 (by omega)) (by omega) (by omega) ((hrd 1 (by omega)).below hW) ((hrd 2 (by omega)).below hW)
      have hk5 : ∀ W, Below wr.heap.size wr W → _ := fun W hW => brought_ref (q 1) (q 2) (n 1) (c 1) (n 2) (c 2) (Ls 1) (Ls 2) k W (HN.out 1 (by omega)) (HN.out 2 (by omega)) (by omega) (by omega) ((hrd 1 (by omega)).below hW) ((hrd 2 (by omega)).below hW)
      simp only [hnm] at hk5
      have i0 : (0 : Int) ≤ (j : Int) := by omega
      have i1 : (j : Int) < (nk : Int) := by omega
      clear hk hjl htk hl2 hlC hlL hlC2 hbr hnC hnL hnm hrd
      have H5 := hid hk5
      clear hk5
      cases h1 : sameB (Ls 1) (Ls 2) k with
      | true =>
        rw [h1] at ks1
        have H2 := hid hk2
        clear hk2 hk3 hk4
        have hC2 : uCh (Ls 0) (Ls 1) (Ls 2) (KK.take (j + 1)) = uCh (Ls 0) (Ls 1) (Ls 2) (KK.take j) := by rw [HT.out, uCh_snoc, show comesB (Ls 0) (Ls 1) (Ls 2) k = false from by unfold comesB; simp [h1], if_neg (by decide), List.append_nil]
        have hK2 : uCl (Ls 0) (Ls 1) (Ls 2) (KK.take (j + 1)) = uCl (Ls 0) (Ls 1) (Ls 2) (KK.take j) := by rw [HT.out, uCl_snoc, show clashB (Ls 0) (Ls 1) (Ls 2) k = false from by unfold clashB; simp [h1], if_neg (by decide), List.append_nil]
        have HC2 := hid hC2
        have HK2 := hid hK2
        clear hC2 hK2 h1
        go_wp2_with (first | (go_at_call 28; with_reducible refine ks1.mono ?_; rintro e x1 ⟨rfl, b1⟩; have ks2 := H2.out x1 b1; have B1 := hid b1; clear b1 ks1) | (go_at_call 28; with_reducible refine ks2.mono ?_; rintro e x2 ⟨rfl, b2⟩; have B2 := hid (B1.out.trans (b2.mono B1.out.size)); clear b2 ks2))
        go_roundw
        case rel => exact ⟨j + 1, by omega, by go_num, by rw [HC2.out, HNC.out]; exact own_below HC.out B1.out, by rw [HK2.out, HNL.out]; exact own_below HK.out B1.out, HB.out.trans (B1.out.mono HB.out.size)⟩
        case measure => simp [intOf]; omega
      | false =>
        rw [h1] at ks1
        cases h2 : sameB (Ls 2) (Ls 0) k with
        | true =>
          simp only [h2] at hk2
          have H2 := hid hk2
          clear hk2 hk3 hk4
          have hC2 : uCh (Ls 0) (Ls 1) (Ls 2) (KK.take (j + 1)) = uCh (Ls 0) (Ls 1) (Ls 2) (KK.take j) := by rw [HT.out, uCh_snoc, show comesB (Ls 0) (Ls 1) (Ls 2) k = false from by unfold comesB; simp [h2], if_neg (by decide), List.append_nil]
          have hK2 : uCl (Ls 0) (Ls 1) (Ls 2) (KK.take (j + 1)) = uCl (Ls 0) (Ls 1) (Ls 2) (KK.take j) := by rw [HT.out, uCl_snoc, show clashB (Ls 0) (Ls 1) (Ls 2) k = false from by unfold clashB; simp [h2], if_neg (by decide), List.append_nil]
          have HC2 := hid hC2
          have HK2 := hid hK2
          clear hC2 hK2 h1 h2
          go_wp2_with (first | (go_at_call 28; with_reducible refine ks1.mono ?_; rintro e x1 ⟨rfl, b1⟩; have ks2 := H2.out x1 b1; have B1 := hid b1; clear b1 ks1) | (go_at_call 28; with_reducible refine ks2.mono ?_; rintro e x2 ⟨rfl, b2⟩; have B2 := hid (B1.out.trans (b2.mono B1.out.size)); clear b2 ks2))
          go_roundw
          case rel => exact ⟨j + 1, by omega, by go_num, by rw [HC2.out, HNC.out]; exact own_below HC.out B2.out, by rw [HK2.out, HNL.out]; exact own_below HK.out B2.out, HB.out.trans (B2.out.mono HB.out.size)⟩
          case measure => simp [intOf]; omega
        | false =>
          simp only [h2] at hk2
          have H2 := hid hk2
          clear hk2
          replace h1 := hid h1
          replace h2 := hid h2
          have H3a := hid hk3
          have H4a := hid hk4
          clear hk3 hk4
          go_upto_region 9 with (first | (go_at_call 28; with_reducible refine ks1.mono ?_; rintro e x1 ⟨rfl, b1⟩; have ks2 := H2.out x1 b1; have B1 := hid b1; clear b1 ks1) | (go_at_call 28; with_reducible refine ks2.mono ?_; rintro e x2 ⟨rfl, b2⟩; have B2 := hid (B1.out.trans (b2.mono B1.out.size)); clear b2 ks2))
          have ks3 := H3a.out x2 B2.out
          have hk4 := H4a.out
          clear H3a H4a
          cases h3 : sameB (Ls 1) (Ls 0) k with
          | false =>
            rw [h3] at ks3
            clear hk4
            have hC2 : uCh (Ls 0) (Ls 1) (Ls 2) (KK.take (j + 1)) = uCh (Ls 0) (Ls 1) (Ls 2) (KK.take j) := by rw [HT.out, uCh_snoc, show comesB (Ls 0) (Ls 1) (Ls 2) k = false from by unfold comesB; simp [h1.out, h2.out, h3], if_neg (by decide), List.append_nil]
            have hK2 : uCl (Ls 0) (Ls 1) (Ls 2) (KK.take (j + 1)) = uCl (Ls 0) (Ls 1) (Ls 2) (KK.take j) ++ [k] := by rw [HT.out, uCl_snoc, show clashB (Ls 0) (Ls 1) (Ls 2) k = true from by unfold clashB; simp [h1.out, h2.out, h3], if_pos rfl]
            have HC2 := hid hC2
            have HK2 := hid hK2
            clear hC2 hK2 h3
            go_upto_region 11 with (go_at_call 28; with_reducible refine ks3.mono ?_; rintro e x3 ⟨rfl, b3⟩; have B3 := hid (B2.out.trans (b3.mono B2.out.size)); clear b3 ks3)
            have HC7 := hid (own_below HC.out B3.out)
            have HK7 := hid (own_below HK.out B3.out)
            have HB7 := hid (HB.out.trans (B3.out.mono HB.out.size))
            have hs7 := HB7.out.size
            obtain ⟨i0, hi, hz0, hz1, hz2⟩ := info_parts infoStr
            go_wp2_with (at_builtin; refine wpList_append_own _ rfl _ _ 28 rfl w5.heap.size 9 i0 (.string ⟨#[]⟩) 1 16 Try.underlying28 hi hz0 hz1 hz2 rfl (by decide) _ _ _ rfl (HK7.out.alloc _) _ 1 1 [.string k] rfl rfl (cell_one_new _ _ _) (by simp [Value.oneCell']) (by unfold maxLen; omega) (by omega) (by simp; omega) ?_; intro v' w8 hown' hgrow _; have HOW := hid hown'; have HGR := hid hgrow; clear hown' hgrow)
            have HB8 : Hid (Below w5.heap.size w5 w8) := Below.grown' (HB7.out.alloc (by omega) _) (HK7.out.alloc _) HGR.out (by simp; omega)
            have HC8 := hid (own_kinds2 (HC7.out.alloc _) (HK7.out.alloc _) (by decide) HGR.out)
            go_roundw
            case rel =>
              refine ⟨j + 1, by omega, by go_num, by rw [HC2.out, HNC.out]; exact HC8, ?_, HB8⟩
              rw [HK2.out]
              show w8.ownsRow _ _ _ _ _ _
              have e1 : (uCl (Ls 0) (Ls 1) (Ls 2) (KK.take j) ++ [k]).length = nL + 1 := by rw [List.length_append, HNL.out]; rfl
              have e2 : strs (uCl (Ls 0) (Ls 1) (Ls 2) (KK.take j) ++ [k]) = strs (uCl (Ls 0) (Ls 1) (Ls 2) (KK.take j)) ++ [.string k] := by simp [strs]
              rw [e1, e2]
              exact HOW.out
            case measure => simp [intOf]; omega
          | true =>
            rw [h3] at ks3
            cases h4 : hasT (Ls 1) (Ls 2) k with
            | false =>
              simp only [h4] at hk4
              have H4 := hid hk4
              clear hk4
              have hC2 : uCh (Ls 0) (Ls 1) (Ls 2) (KK.take (j + 1)) = uCh (Ls 0) (Ls 1) (Ls 2) (KK.take j) := by rw [HT.out, uCh_snoc, show comesB (Ls 0) (Ls 1) (Ls 2) k = false from by unfold comesB; simp [h1.out, h2.out, h3, h4], if_neg (by decide), List.append_nil]
              have hK2 : uCl (Ls 0) (Ls 1) (Ls 2) (KK.take (j + 1)) = uCl (Ls 0) (Ls 1) (Ls 2) (KK.take j) ++ [k] := by rw [HT.out, uCl_snoc, show clashB (Ls 0) (Ls 1) (Ls 2) k = true from by unfold clashB; simp [h1.out, h2.out, h3, h4], if_pos rfl]
              have HC2 := hid hC2
              have HK2 := hid hK2
              clear hC2 hK2 h3 h4
              go_upto_region 11 with (first | (go_at_call 28; with_reducible refine ks3.mono ?_; rintro e x3 ⟨rfl, b3⟩; have kh := H4.out x3 (B2.out.trans (b3.mono B2.out.size)); have B3 := hid (B2.out.trans (b3.mono B2.out.size)); clear b3 ks3) | (go_at_call 29; with_reducible refine kh.mono ?_; rintro e x4 ⟨rfl, b4⟩; have B4 := hid (B3.out.trans (b4.mono B3.out.size)); clear b4 kh))
              have HC7 := hid (own_below HC.out B4.out)
              have HK7 := hid (own_below HK.out B4.out)
              have HB7 := hid (HB.out.trans (B4.out.mono HB.out.size))
              have hs7 := HB7.out.size
              obtain ⟨i0, hi, hz0, hz1, hz2⟩ := info_parts infoStr
              go_wp2_with (at_builtin; refine wpList_append_own _ rfl _ _ 28 rfl w5.heap.size 9 i0 (.string ⟨#[]⟩) 1 16 Try.underlying28 hi hz0 hz1 hz2 rfl (by decide) _ _ _ rfl (HK7.out.alloc _) _ 1 1 [.string k] rfl rfl (cell_one_new _ _ _) (by simp [Value.oneCell']) (by unfold maxLen; omega) (by omega) (by simp; omega) ?_; intro v' w8 hown' hgrow _; have HOW := hid hown'; have HGR := hid hgrow; clear hown' hgrow)
              have HB8 : Hid (Below w5.heap.size w5 w8) := Below.grown' (HB7.out.alloc (by omega) _) (HK7.out.alloc _) HGR.out (by simp; omega)
              have HC8 := hid (own_kinds2 (HC7.out.alloc _) (HK7.out.alloc _) (by decide) HGR.out)
              go_roundw
              case rel =>
                refine ⟨j + 1, by omega, by go_num, by rw [HC2.out, HNC.out]; exact HC8, ?_, HB8⟩
                rw [HK2.out]
                show w8.ownsRow _ _ _ _ _ _
                have e1 : (uCl (Ls 0) (Ls 1) (Ls 2) (KK.take j) ++ [k]).length = nL + 1 := by rw [List.length_append, HNL.out]; rfl
                have e2 : strs (uCl (Ls 0) (Ls 1) (Ls 2) (KK.take j) ++ [k]) = strs (uCl (Ls 0) (Ls 1) (Ls 2) (KK.take j)) ++ [.string k] := by simp [strs]
                rw [e1, e2]
                exact HOW.out
              case measure => simp [intOf]; omega
            | true =>
              simp only [h4] at hk4
              have H4 := hid hk4
              clear hk4
              have hC2 : uCh (Ls 0) (Ls 1) (Ls 2) (KK.take (j + 1)) = uCh (Ls 0) (Ls 1) (Ls 2) (KK.take j) ++ brS (Ls 1) (Ls 2) k := by rw [HT.out, uCh_snoc, show comesB (Ls 0) (Ls 1) (Ls 2) k = true from by unfold comesB; simp [h1.out, h2.out, h3, h4], if_pos rfl]
              have hK2 : uCl (Ls 0) (Ls 1) (Ls 2) (KK.take (j + 1)) = uCl (Ls 0) (Ls 1) (Ls 2) (KK.take j) := by rw [HT.out, uCl_snoc, show clashB (Ls 0) (Ls 1) (Ls 2) k = false from by unfold clashB; simp [h1.out, h2.out, h3, h4], if_neg (by decide), List.append_nil]
              have HC2 := hid hC2
              have HK2 := hid hK2
              clear hC2 hK2 h3 h4
              go_upto_region 10 with (first | (go_at_call 28; with_reducible refine ks3.mono ?_; rintro e x3 ⟨rfl, b3⟩; have kh := H4.out x3 (B2.out.trans (b3.mono B2.out.size)); have B3 := hid (B2.out.trans (b3.mono B2.out.size)); clear b3 ks3) | (go_at_call 29; with_reducible refine kh.mono ?_; rintro e x4 ⟨rfl, b4⟩; have kb := H5.out x4 (B3.out.trans (b4.mono B3.out.size)); have B4 := hid (B3.out.trans (b4.mono B3.out.size)); clear b4 kh))
              go_wp2_with (first | (go_at_call 30; with_reducible refine kb.mono ?_; rintro e w7 ⟨vm, rfl, hvm, hb7⟩; obtain ⟨qm, cm, rfl, hm1, hm2, hm3⟩ := own_shape hvm; have HRM := hid (Fr.of_own hvm).rd; have B7 := hid (B4.out.trans (hb7.mono B4.out.size)); have HC7 := hid (own_below HC.out B7.out); have HK7 := hid (own_below HK.out B7.out); have HB7 := hid (HB.out.trans (B7.out.mono HB.out.size)); have hs7 := HB7.out.size; clear hvm hb7 kb) | (at_builtin; refine wpList_append_rd rfl _ _ 27 rfl w5.heap.size 44 (.agg #[.string ⟨#[]⟩, .int .u32 0, .int .u8 0, .string ⟨#[]⟩]) 4 40 Try.underlying27 infoCg rfl (by decide) _ _ _ rfl HC7.out qm nm cm (cgCells (brS (Ls 1) (Ls 2) k)) rfl hm3 (by rw [cgCells_len, HNM.out]) HRM.out (cgCells_one _) (by unfold maxLen; omega) (by omega) (by omega) ?_; intro v' w8 hown' hgrow _; have HOW := hid hown'; have HGR := hid hgrow; clear hown' hgrow))
              have HB8 : Hid (Below w5.heap.size w5 w8) := Below.grown' HB7.out HC7.out HGR.out (by omega)
              have HK8 := hid (own_kinds2 HK7.out HC7.out (by decide) HGR.out)
              go_roundw
              case rel =>
                refine ⟨j + 1, by omega, by go_num, ?_, by rw [HK2.out, HNL.out]; exact HK8, HB8⟩
                rw [HC2.out]
                show w8.ownsRow _ _ _ _ _ _
                rw [List.length_append, HNC.out, HNM.out, cgCells_append]
                exact HOW.out
              case measure => simp [intOf]; omega
    · obtain rfl : j = nk := by omega
      have et : KK.take j = KK := by rw [← HNK.out]; exact List.take_length
      rw [et, ← HKK.out] at HC HK
      have eC : uCh (Ls 0) (Ls 1) (Ls 2) (uKeys (Ls 0) (Ls 1) (Ls 2)) = uAll (Ls 0) (Ls 1) (Ls 2) := rfl
      have eL : uCl (Ls 0) (Ls 1) (Ls 2) (uKeys (Ls 0) (Ls 1) (Ls 2)) = uClash (Ls 0) (Ls 1) (Ls 2) := rfl
      rw [eC] at HC
      rw [eL] at HK
      have hnL := uCl_len (Ls 0) (Ls 1) (Ls 2) (uKeys (Ls 0) (Ls 1) (Ls 2))
      rw [eL, HKK.out, HNK.out] at hnL
      obtain ⟨nA, hnA⟩ : ∃ x, (uAll (Ls 0) (Ls 1) (Ls 2)).length = x := ⟨_, rfl⟩
      obtain ⟨nB, hnB⟩ : ∃ x, (uClash (Ls 0) (Ls 1) (Ls 2)).length = x := ⟨_, rfl⟩
      rw [hnA] at HC
      rw [hnB] at HK hnL
      obtain ⟨qa, ca, rfl, ha1, ha2, _⟩ := own_shape HC.out
      obtain ⟨qb, cb, rfl, hb1, hb2, _⟩ := own_shape HK.out
      have HRA := hid (Fr.of_own HC.out).rd
      have HRB := hid (Fr.of_own HK.out).rd
      have HBW := hid (HB5.out.trans (HB.out.mono HB5.out.size))
      have HNA := hid hnA
      have HNB := hid hnB
      clear hnA hnB HC HK et eC eL
      by_cases hz : nB = 0
      · subst hz
        have h0 : Hid (uClash (Ls 0) (Ls 1) (Ls 2) = []) := List.eq_nil_of_length_eq_zero HNB.out
        go_wp2
        go_ret2
        have e1 : uChg (Ls 0) (Ls 1) (Ls 2) = uAll (Ls 0) (Ls 1) (Ls 2) := by unfold uChg; rw [if_pos h0.out]
        refine ⟨qa, ca, none, 0, ?_, ?_, ?_, HBW.out⟩
        · rw [e1, HNA.out, h0.out]; rfl
        · rw [e1]; exact HRA.out
        · rw [h0.out]; exact .inl rfl
      · have hz2 : (0 : Int) < (nB : Int) := by omega
        have h0 : Hid (uClash (Ls 0) (Ls 1) (Ls 2) ≠ []) := fun e => hz (by rw [← HNB.out, e]; rfl)
        go_wp2
        go_ret2
        have e1 : uChg (Ls 0) (Ls 1) (Ls 2) = [] := by unfold uChg; rw [if_neg h0.out]
        refine ⟨none, 0, qb, cb, ?_, ?_, ?_, HBW.out⟩
        · rw [e1, HNB.out]; rfl
        · rw [e1]; exact .inl rfl
        · exact HRB.out
end Go.Proofs.Herb
