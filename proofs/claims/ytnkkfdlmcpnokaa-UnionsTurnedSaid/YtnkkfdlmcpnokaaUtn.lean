/- UnionsTurned: the walk. -/
import Derived.Test.YtnkkfdlmcpnokaaUap
namespace Go.Proofs.Herb
open Go.RowKit
set_option maxRecDepth 100000 in
set_option maxHeartbeats 8000000 in
theorem turned_any (q : Nat → Option Addr) (n c : Nat → Nat) (Ls : Nat → List Fact) (w : World) (hn : ∀ i, i < 3 → (Ls i).length = n i) (hm : ∀ i, i < 3 → n i ≤ maxLen) (hr : ∀ i, i < 3 → Rd w (q i) (fCells (Ls i))) (hks : ∀ i, i < 3 → ∀ f ∈ Ls i, f.key.size ≤ maxLen) :
    Calls Try.prog 5 #[.agg #[.slice (q 0) (n 0) (c 0), .slice (q 1) (n 1) (c 1), .slice (q 2) (n 2) (c 2)]] w fun e w' => e = .returned (.bool true) ∧ Below w.heap.size w w' := by
  obtain ⟨X, hX⟩ : ∃ X, w.heap.size = X := ⟨_, rfl⟩
  have kg := fun W => great_any q n c W hm
  have HN := hid hn
  have HKS := hid hks
  obtain ⟨w1, hw1⟩ : ∃ w1, w.alloc (.cells #[.slice (q 0) (n 0) (c 0), .slice (q 1) (n 1) (c 1), .slice (q 2) (n 2) (c 2)] 24) = w1 := ⟨_, rfl⟩
  have HT1 : Hid (ThreeAt w1 X q n c Ls) := by
    show ThreeAt _ _ _ _ _ _
    rw [← hw1, ← hX]; exact ThreeAt.new hr
  have HB1 : Hid (Below w.heap.size w w1) := by
    show Below _ _ _
    rw [← hw1]; exact (Below.refl _ _).alloc (Nat.le_refl _) _
  obtain ⟨d0, d1, d2⟩ := HT1.out.cells
  clear hn hr hks hm
  go_enter Try.func5, Try.ntmps5
  go_upto_region 1 with fail
  clear hw1
  have HXX := hid hX
  have kl := fun W => lives_any W
  go_cut [15] (fun v wd => ∃ b, v = .bool b ∧ (b = false → ∀ i, i < 3 → n i ≤ 120) ∧ Hid (Below w1.heap.size w1 wd))
  case first =>
    go_wp2_with (go_at_call 7; with_reducible refine (kg _).mono ?_; rintro e w2 ⟨b, rfl, h1, h2⟩)
    go_meet
    exact ⟨b, rfl, h1, h2⟩
  case rest =>
    obtain ⟨b, rfl, hb, HB2⟩ := hcut
    rename_i hK
    refine hK _ _ ?_
    clear hK d0 d1 d2
    have HT2 := hid (HT1.out.below HB2.out)
    have HW2 := hid (HB1.out.trans (HB2.out.mono HB1.out.size))
    have hXl := lt_of_block HT2.out.row
    clear HT1 HB1 HB2 kg
    cases b with
    | true =>
      go_wp2_with (go_at_call 8; with_reducible refine (kl _).mono ?_; rintro e w3 ⟨rfl, h3⟩)
      go_ret
      exact ⟨rfl, HW2.out.trans (h3.mono HW2.out.size)⟩
    | false =>
      have hb2 := hb rfl
      have n0 := hb2 0 (by omega)
      have n1 := hb2 1 (by omega)
      have n2 := hb2 2 (by omega)
      clear hb hb2
      go_upto_region 3 with fail
      obtain ⟨d0, d1, d2⟩ := HT2.out.cells
      go_cut [3] (fun v wd => ∃ q' c', v = .slice q' (n 1 + n 0) c' ∧ Hid (Rd wd q' (fCells (Ls 1 ++ Ls 0))) ∧ Hid (Below wc.heap.size wc wd))
      case first =>
        go_region_law (first
          | (refine stepF rfl (.const (.slice none 0 0)) (.tmp 18) rfl wc.heap.size none 0 0 [] rfl (World.ownsRow_nil _ _ _ _) (q 1) (n 1) (c 1) (Ls 1) rfl (HN.out 1 (by omega)) ((HT2.out.rd 1 (by omega)).below (below_drew (Below.refl _ _))) (by omega) (Nat.le_refl _) ?_; intro q5 c5 w5 hown5 hb5; rw [Nat.zero_add, List.nil_append] at hown5; have HO5 := hid hown5; have HB5 := hid ((below_drew (Below.refl _ _)).trans hb5 : Below wc.heap.size wc w5); have f0 := (HB5.out.cell (p := ⟨X, 0, none⟩) (lt_of_block HT2.out.row)).trans d0; clear hown5 hb5)
          | (refine stepF rfl (.tmp 19) (.tmp 21) rfl wc.heap.size q5 (n 1) c5 (Ls 1) rfl HO5.out (q 0) (n 0) (c 0) (Ls 0) rfl (HN.out 0 (by omega)) ((HT2.out.rd 0 (by omega)).below HB5.out) (by omega) HB5.out.size ?_; intro q6 c6 w6 hown6 hb6; have HO6 := hid hown6; have HB6 := hid (HB5.out.trans (hb6.mono (by have := HB5.out.size; omega))); clear hown6 hb6))
        all_goals
          go_wp2
          go_meet
          exact ⟨q6, c6, rfl, (Fr.of_own HO6.out).rd, HB6.out⟩
      obtain ⟨q3, c3, rfl, R3, B3⟩ := hcut
      rename_i hK
      refine hK _ _ ?_
      clear hK d0 d1 d2
      have HT3 := hid (HT2.out.below B3.out)
      have HW3 := hid (HW2.out.trans (B3.out.mono HW2.out.size))
      clear HT2 HW2 B3 hXl
      have hXl := lt_of_block HT3.out.row
      go_upto_region 4 with fail
      obtain ⟨d0, d1, d2⟩ := HT3.out.cells
      go_cut [4] (fun v wd => ∃ q' c', v = .slice q' (n 2 + n 0) c' ∧ Hid (Rd wd q' (fCells (Ls 2 ++ Ls 0))) ∧ Hid (Below wc.heap.size wc wd))
      case first =>
        go_region_law (first
          | (refine stepF rfl (.const (.slice none 0 0)) (.tmp 24) rfl wc.heap.size none 0 0 [] rfl (World.ownsRow_nil _ _ _ _) (q 2) (n 2) (c 2) (Ls 2) rfl (HN.out 2 (by omega)) ((HT3.out.rd 2 (by omega)).below (below_drew (Below.refl _ _))) (by omega) (Nat.le_refl _) ?_; intro q5 c5 w5 hown5 hb5; rw [Nat.zero_add, List.nil_append] at hown5; have HO5 := hid hown5; have HB5 := hid ((below_drew (Below.refl _ _)).trans hb5 : Below wc.heap.size wc w5); have f0 := (HB5.out.cell (p := ⟨X, 0, none⟩) (lt_of_block HT3.out.row)).trans d0; clear hown5 hb5)
          | (refine stepF rfl (.tmp 25) (.tmp 27) rfl wc.heap.size q5 (n 2) c5 (Ls 2) rfl HO5.out (q 0) (n 0) (c 0) (Ls 0) rfl (HN.out 0 (by omega)) ((HT3.out.rd 0 (by omega)).below HB5.out) (by omega) HB5.out.size ?_; intro q6 c6 w6 hown6 hb6; have HO6 := hid hown6; have HB6 := hid (HB5.out.trans (hb6.mono (by have := HB5.out.size; omega))); clear hown6 hb6))
        all_goals
          go_wp2
          go_meet
          exact ⟨q6, c6, rfl, (Fr.of_own HO6.out).rd, HB6.out⟩
      obtain ⟨q4, c4, rfl, R4, B4⟩ := hcut
      rename_i hK
      refine hK _ _ ?_
      clear hK d0 d1 d2
      have HT4 := hid (HT3.out.below B4.out)
      have HW4 := hid (HW3.out.trans (B4.out.mono HW3.out.size))
      have RA := hid (R3.out.below B4.out)
      have RB := R4
      clear HT3 HW3 B4 R3 hXl
      obtain ⟨LA, hLA⟩ : ∃ LA, LA = Ls 1 ++ Ls 0 := ⟨_, rfl⟩
      obtain ⟨LB, hLB⟩ : ∃ LB, LB = Ls 2 ++ Ls 0 := ⟨_, rfl⟩
      obtain ⟨NA, hNA⟩ : ∃ NA, NA = n 1 + n 0 := ⟨_, rfl⟩
      obtain ⟨NB, hNB⟩ : ∃ NB, NB = n 2 + n 0 := ⟨_, rfl⟩
      rw [← hLA] at RA
      rw [← hLB] at RB
      rw [← hNA, ← hNB]
      have HLA : Hid (LA.length = NA) := by show _ = _; rw [hLA, hNA, List.length_append, HN.out 1 (by omega), HN.out 0 (by omega)]
      have HLB : Hid (LB.length = NB) := by show _ = _; rw [hLB, hNB, List.length_append, HN.out 2 (by omega), HN.out 0 (by omega)]
      have bNA : NA ≤ 240 := by omega
      have bNB : NB ≤ 240 := by omega
      have hkA : ∀ f ∈ LA, f.key.size ≤ maxLen := fun f hf => by
        rw [hLA, List.mem_append] at hf
        rcases hf with hf | hf
        · exact HKS.out 1 (by omega) f hf
        · exact HKS.out 0 (by omega) f hf
      have hkB : ∀ f ∈ LB, f.key.size ≤ maxLen := fun f hf => by
        rw [hLB, List.mem_append] at hf
        rcases hf with hf | hf
        · exact HKS.out 2 (by omega) f hf
        · exact HKS.out 0 (by omega) f hf
      have HkA := hid hkA
      have HkB := hid hkB
      have ecl : Hid (uClash (Ls 0) LA LB = (diffS LA LB).filter (fun k => inS k (diffS (Ls 0) LA) && inS k (diffS (Ls 0) LB)) ∧ uClash (Ls 0) LB LA = uClash (Ls 0) LA LB) := by
        refine ⟨?_, ?_⟩
        · rw [hLA, hLB]; exact turned_one _ _ _
        · rw [hLA, hLB]; exact clash_symm_app _ _ _
      clear hLA hLB hNA hNB hkA hkB
      obtain ⟨CL, hCL⟩ : ∃ CL, uClash (Ls 0) LA LB = CL := ⟨_, rfl⟩
      rw [hCL] at ecl
      have x4 := HT4.out.cells.1
      have k1 := of_any (th (q 0) q3 q4) (th (n 0) NA NB) (th (c 0) c3 c4) (th (Ls 0) LA LB) wc (th3 (HN.out 0 (by omega)) HLA.out HLB.out) (th3 (by show n 0 ≤ 1000; omega) (by show NA ≤ 1000; omega) (by show NB ≤ 1000; omega)) (th3 (HT4.out.rd 0 (by omega)) RA.out RB.out) (th3 (HKS.out 0 (by omega)) HkA.out HkB.out)
      simp only [th, hCL] at k1
      have hk2 : ∀ W, Below wc.heap.size wc W → _ := fun W hW => of_any (th (q 0) q4 q3) (th (n 0) NB NA) (th (c 0) c4 c3) (th (Ls 0) LB LA) W (th3 (HN.out 0 (by omega)) HLB.out HLA.out) (th3 (by show n 0 ≤ 1000; omega) (by show NB ≤ 1000; omega) (by show NA ≤ 1000; omega)) (th3 ((HT4.out.rd 0 (by omega)).below hW) (RB.out.below hW) (RA.out.below hW)) (th3 (HKS.out 0 (by omega)) HkB.out HkA.out)
      simp only [th, ecl.out.2] at hk2
      have hk3 : ∀ W, Below wc.heap.size wc W → _ := fun W hW => diff_any (q 0) q3 (n 0) (c 0) NA c3 (Ls 0) LA W (HN.out 0 (by omega)) HLA.out (by omega) (by omega) ((HT4.out.rd 0 (by omega)).below hW) (RA.out.below hW)
      have hk4 : ∀ W, Below wc.heap.size wc W → _ := fun W hW => diff_any (q 0) q4 (n 0) (c 0) NB c4 (Ls 0) LB W (HN.out 0 (by omega)) HLB.out (by omega) (by omega) ((HT4.out.rd 0 (by omega)).below hW) (RB.out.below hW)
      have hk5 : ∀ W, Below wc.heap.size wc W → _ := fun W hW => diff_any q3 q4 NA c3 NB c4 LA LB W HLA.out HLB.out (by omega) (by omega) (RA.out.below hW) (RB.out.below hW)
      obtain ⟨DA, hDA⟩ : ∃ D, diffS (Ls 0) LA = D := ⟨_, rfl⟩
      obtain ⟨DB, hDB⟩ : ∃ D, diffS (Ls 0) LB = D := ⟨_, rfl⟩
      obtain ⟨DC, hDC⟩ : ∃ D, diffS LA LB = D := ⟨_, rfl⟩
      have hlDA := diffS_len (Ls 0) LA
      have hlDB := diffS_len (Ls 0) LB
      have hlDC := diffS_len LA LB
      rw [HN.out 0 (by omega), HLA.out] at hlDA
      rw [HN.out 0 (by omega), HLB.out] at hlDB
      rw [HLA.out, HLB.out] at hlDC
      simp only [hDA] at hk3 hlDA ecl
      simp only [hDB] at hk4 hlDB ecl
      simp only [hDC] at hk5 hlDC ecl
      have H2 := hid hk2
      have H3 := hid hk3
      have H4 := hid hk4
      have H5 := hid hk5
      have hlCL : CL.length ≤ 480 := by rw [ecl.out.1]; have := List.length_filter_le (fun k => inS k DA && inS k DB) DC; omega
      clear hk2 hk3 hk4 hk5 hDA hDB hDC hCL
      go_upto_region 10 with (first
        | (go_at_call 9; with_reducible refine k1.mono ?_; rintro e w5 ⟨qx1, qc1, rfl, _, rc1, b5⟩; have RC1 := hid rc1; have B5 := hid b5; have x5 := (HT4.out.below b5).cells.1; have k2 := H2.out w5 b5; clear rc1 b5 k1)
        | (go_at_call 9; with_reducible refine k2.mono ?_; rintro e w6 ⟨qx2, qc2, rfl, _, rc2, b6⟩; have RC2 := hid rc2; have B56 := hid b6; have B6 := hid (B5.out.trans (b6.mono B5.out.size)); have x6 := (HT4.out.below B6.out).cells.1; have k3 := H3.out w6 B6.out; clear rc2 b6 k2)
        | (go_at_call 14; with_reducible refine k3.mono ?_; rintro e w7 ⟨qd1, rfl, _, rd1, b7⟩; have RD1 := hid rd1; have B67 := hid b7; have B7 := hid (B6.out.trans (b7.mono B6.out.size)); have x7 := (HT4.out.below B7.out).cells.1; have k4 := H4.out w7 B7.out; clear rd1 b7 k3)
        | (go_at_call 14; with_reducible refine k4.mono ?_; rintro e w8 ⟨qd2, rfl, _, rd2, b8⟩; have RD2 := hid rd2; have B78 := hid b8; have B8 := hid (B7.out.trans (b8.mono B7.out.size)); have x8 := (HT4.out.below B8.out).cells.1; have k5 := H5.out w8 B8.out; clear rd2 b8 k4)
        | (go_at_call 14; with_reducible refine k5.mono ?_; rintro e w9 ⟨qd3, rfl, _, rd3, b9⟩; have RD3 := hid rd3; have B89 := hid b9; have B9 := hid (B8.out.trans (b9.mono B8.out.size)); clear rd3 b9 k5))
      have HW9 := hid (HW4.out.trans (B9.out.mono HW4.out.size))
      have S1 := hid ((((RC1.out.below B56.out).below B67.out).below B78.out).below B89.out)
      have S2 := hid (((RC2.out.below B67.out).below B78.out).below B89.out)
      have S3 := hid ((RD1.out.below B78.out).below B89.out)
      have S4 := hid (RD2.out.below B89.out)
      have S5 := RD3
      clear RC1 RC2 RD1 RD2 RD3 B56 B67 B78 B89 B5 B6 B7 B8 B9 HT4 HW4 RA RB HkA HkB HLA HLB H2 H3 H4 H5 HKS HN x4 x5 x6 x7 x8
      obtain ⟨NL, hNL⟩ : ∃ N, CL.length = N := ⟨_, rfl⟩
      obtain ⟨mA, hmA⟩ : ∃ N, DA.length = N := ⟨_, rfl⟩
      obtain ⟨mB, hmB⟩ : ∃ N, DB.length = N := ⟨_, rfl⟩
      obtain ⟨mC, hmC⟩ : ∃ N, DC.length = N := ⟨_, rfl⟩
      rw [hNL, hmA, hmB, hmC]
      rw [hNL] at hlCL
      rw [hmA] at hlDA
      rw [hmB] at hlDB
      rw [hmC] at hlDC
      have HNL := hid hNL
      have HmA := hid hmA
      have HmB := hid hmB
      have HmC := hid hmC
      clear hNL hmA hmB hmC
      go_wp2
      go_loopw [12, 13] (fun v i wr => ∃ j : Nat, j ≤ mC ∧ i = .int .i64 (j : Int) ∧ Hid (wr.ownsRow w9.heap.size 9 1 v ((DC.take j).filter (fun k => inS k DA && inS k DB)).length (strs ((DC.take j).filter (fun k => inS k DA && inS k DB)))) ∧ Hid (Below w9.heap.size w9 wr)) (fun _ i _ => mC - (intOf i).toNat)
      case atStart => exact ⟨0, Nat.zero_le _, rfl, World.ownsRow_nil _ _ _ _, Below.refl _ _⟩
      case round =>
        obtain ⟨j, hj, rfl, HO, HB⟩ := hrel
        have hsw := HB.out.size
        obtain ⟨N, hNN⟩ : ∃ N, ((DC.take j).filter (fun k => inS k DA && inS k DB)).length = N := ⟨_, rfl⟩
        have hN1 : N ≤ 480 := by
          have h1 : ((DC.take j).filter (fun k => inS k DA && inS k DB)).length ≤ (DC.take j).length := List.length_filter_le _ _
          rw [List.length_take] at h1
          omega
        rw [hNN] at HO
        have HNN := hid hNN
        obtain ⟨qa, ca, rfl, ha1, ha2, ha3⟩ := own_shape HO.out
        clear hNN
        by_cases hlt : j < mC
        · have hjl : j < DC.length := by rw [HmC.out]; exact hlt
          obtain ⟨b9, o9, rfl, g9⟩ := rd_text (S5.out.below HB.out) (j := j) hjl
          have ht : DC.take (j + 1) = DC.take j ++ [DC[j]] := List.take_succ_eq_append_getElem hjl
          obtain ⟨k, hk⟩ : ∃ k, DC[j] = k := ⟨_, rfl⟩
          rw [hk] at g9 ht
          have HTK : Hid ((DC.take (j + 1)).filter (fun k => inS k DA && inS k DB) = (DC.take j).filter (fun k => inS k DA && inS k DB) ++ if (inS k DA && inS k DB) = true then [k] else []) := by
            show _ = _
            rw [ht, List.filter_append]
            congr 1
            by_cases h : (inS k DA && inS k DB) = true <;> simp [h]
          have k1 := in_any qd1 mA mA DA k wr HmA.out (by omega) (S3.out.below HB.out)
          have k2 := in_any qd2 mB mB DB k wr HmB.out (by omega) (S4.out.below HB.out)
          have i0 : (0 : Int) ≤ (j : Int) := by omega
          have i1 : (j : Int) < (mC : Int) := by omega
          clear ht hk hjl
          cases e1 : inS k DA with
          | false =>
            rw [e1] at k1 HTK
            simp only [Bool.false_and, Bool.false_eq_true, if_false, List.append_nil] at HTK
            clear k2 e1
            go_wp2_with (go_at_call 16; with_reducible refine k1.mono ?_; rintro e w' ⟨rfl, rfl⟩)
            go_roundw
            case rel => exact ⟨j + 1, by omega, by go_num, by rw [HTK.out, HNN.out]; exact HO, HB⟩
            case measure => simp [intOf]; omega
          | true =>
            rw [e1] at k1 HTK
            cases e2 : inS k DB with
            | false =>
              rw [e2] at k2 HTK
              simp only [Bool.and_false, Bool.false_eq_true, if_false, List.append_nil] at HTK
              clear e1 e2
              go_wp2_with (first | (go_at_call 16; with_reducible refine k1.mono ?_; rintro e w' ⟨rfl, rfl⟩) | (go_at_call 16; with_reducible refine k2.mono ?_; rintro e w' ⟨rfl, rfl⟩))
              go_roundw
              case rel => exact ⟨j + 1, by omega, by go_num, by rw [HTK.out, HNN.out]; exact HO, HB⟩
              case measure => simp [intOf]; omega
            | true =>
              rw [e2] at k2 HTK
              simp only [Bool.and_self, if_true] at HTK
              clear e1 e2
              obtain ⟨i9, hi9, hz0, hz1, hz2⟩ := info_parts infoStr
              go_wp2_with (first | (go_at_call 16; with_reducible refine k1.mono ?_; rintro e w' ⟨rfl, rfl⟩) | (go_at_call 16; with_reducible refine k2.mono ?_; rintro e w' ⟨rfl, rfl⟩) | (at_builtin; refine wpList_append_own _ rfl _ _ 28 rfl w9.heap.size 9 i9 (.string ⟨#[]⟩) 1 16 Try.underlying28 hi9 hz0 hz1 hz2 rfl (by decide) _ _ _ rfl (HO.out.alloc _) _ 1 1 [.string k] rfl rfl (cell_one_new _ _ _) (by simp [Value.oneCell']) (by unfold maxLen; omega) (by omega) (by simp; omega) ?_; intro v' w8 hown' hgrow _; have HOW := hid hown'; have HGR := hid hgrow; clear hown' hgrow))
              have HB8 : Hid (Below w9.heap.size w9 w8) := Below.grown' (HB.out.alloc hsw _) (HO.out.alloc _) HGR.out (by simp; omega)
              go_roundw
              case rel =>
                refine ⟨j + 1, by omega, by go_num, ?_, HB8⟩
                rw [HTK.out]
                show w8.ownsRow _ _ _ _ _ _
                have e1 : ((DC.take j).filter (fun k => inS k DA && inS k DB) ++ [k]).length = N + 1 := by rw [List.length_append, HNN.out]; rfl
                have e2 : strs ((DC.take j).filter (fun k => inS k DA && inS k DB) ++ [k]) = strs ((DC.take j).filter (fun k => inS k DA && inS k DB)) ++ [.string k] := by simp [strs]
                rw [e1, e2]
                exact HOW.out
              case measure => simp [intOf]; omega
        · obtain rfl : j = mC := by omega
          have e1 : DC.take j = DC := by rw [← HmC.out]; exact List.take_length
          rw [e1, ← ecl.out.1, HNL.out] at HNN
          have hNe : NL = N := HNN.out
          subst hNe
          have hro := (Fr.of_own HO.out).rd
          rw [e1, ← ecl.out.1] at hro
          have k1 := texts_same qc1 qa NL NL ca CL wr HNL.out (by omega) (S1.out.below HB.out) hro
          have hk2 : ∀ W, Below wr.heap.size wr W → _ := fun W hW => texts_same qc2 qa NL NL ca CL W HNL.out (by omega) ((S2.out.below HB.out).below hW) (hro.below hW)
          have H2 := hid hk2
          have HWr := hid (HW9.out.trans (HB.out.mono HW9.out.size))
          clear hk2 hro e1
          go_wp2_with (first
            | (go_at_call 12; with_reducible refine k1.mono ?_; rintro e wx ⟨rfl, bx⟩; have k2 := H2.out wx bx; have BX := hid bx; clear bx k1)
            | (go_at_call 12; with_reducible refine k2.mono ?_; rintro e wy ⟨rfl, bY⟩; have BY := hid bY; clear bY k2)
            | (go_at_call 8; with_reducible refine (kl _).mono ?_; rintro e wz ⟨rfl, bZ⟩; have BZ := hid bZ; clear bZ))
          go_ret
          refine ⟨rfl, ?_⟩
          have z1 := HWr.out.trans (BX.out.mono HWr.out.size)
          have z2 := z1.trans (BY.out.mono z1.size)
          exact z2.trans (BZ.out.mono z2.size)
end Go.Proofs.Herb
