
/- UnionsPlain: the walk. -/
import Derived.Test.YtnkkfdlmcpnokaaUov
namespace Go.Proofs.Herb
open Go.RowKit
theorem uChg_len (base a b : List Fact) : (uChg base a b).length ≤ (base.length + a.length + b.length) * b.length := by
  have h1 := uCh_len base a b (uKeys base a b)
  have h2 := uKeys_len base a b
  have h3 : (uKeys base a b).length * b.length ≤ (base.length + a.length + b.length) * b.length := Nat.mul_le_mul_right _ h2
  unfold uChg
  split
  · exact Nat.le_trans h1 h3
  · simp
set_option maxRecDepth 100000 in
set_option maxHeartbeats 8000000 in
theorem plain_any (q : Nat → Option Addr) (n c : Nat → Nat) (Ls : Nat → List Fact) (w : World) (hn : ∀ i, i < 3 → (Ls i).length = n i) (hm : ∀ i, i < 3 → n i ≤ maxLen) (hr : ∀ i, i < 3 → Rd w (q i) (fCells (Ls i))) (hks : ∀ i, i < 3 → ∀ f ∈ Ls i, f.key.size ≤ maxLen) :
    Calls Try.prog 6 #[.agg #[.slice (q 0) (n 0) (c 0), .slice (q 1) (n 1) (c 1), .slice (q 2) (n 2) (c 2)]] w fun e w' => e = .returned (.bool true) ∧ Below w.heap.size w w' := by
  obtain ⟨X, hX⟩ : ∃ X, w.heap.size = X := ⟨_, rfl⟩
  have kg := fun W => great_any q n c W hm
  have HN := hid hn
  have HKS := hid hks
  obtain ⟨w1, hw1⟩ : ∃ w1, w.alloc (.cells #[.slice (q 0) (n 0) (c 0), .slice (q 1) (n 1) (c 1), .slice (q 2) (n 2) (c 2)] 24) = w1 := ⟨_, rfl⟩
  have HT1 : Hid (ThreeAt w1 X q n c Ls) := by
    show ThreeAt _ _ _ _ _ _
    rw [← hw1, ← hX]; exact ThreeAt.new hr
  have HB1 : Hid (Below w.heap.size w w1) := by
    show Below _ _ _
    rw [← hw1]; exact (Below.refl _ _).alloc (Nat.le_refl _) _
  obtain ⟨d0, d1, d2⟩ := HT1.out.cells
  clear hn hr hks hm
  go_enter Try.func6, Try.ntmps6
  go_upto_region 1 with fail
  clear hw1
  have HXX := hid hX
  have kl := fun W => lives_any W
  go_cut [11] (fun v wd => ∃ b, v = .bool b ∧ (b = false → ∀ i, i < 3 → n i ≤ 120) ∧ Hid (Below w1.heap.size w1 wd))
  case first =>
    go_wp2_with (go_at_call 7; with_reducible refine (kg _).mono ?_; rintro e w2 ⟨b, rfl, h1, h2⟩)
    go_meet
    exact ⟨b, rfl, h1, h2⟩
  case rest =>
    obtain ⟨b, rfl, hb, HB2⟩ := hcut
    rename_i hK
    refine hK _ _ ?_
    clear hK d0 d1 d2
    have HT2 := hid (HT1.out.below HB2.out)
    have HW2 := hid (HB1.out.trans (HB2.out.mono HB1.out.size))
    have hXl := lt_of_block HT2.out.row
    clear HT1 HB1 HB2 kg
    cases b with
    | true =>
      go_wp2_with (go_at_call 8; with_reducible refine (kl _).mono ?_; rintro e w3 ⟨rfl, h3⟩)
      go_ret
      exact ⟨rfl, HW2.out.trans (h3.mono HW2.out.size)⟩
    | false =>
      have hb2 := hb rfl
      have n0 := hb2 0 (by omega)
      have n1 := hb2 1 (by omega)
      have n2 := hb2 2 (by omega)
      clear hb hb2
      have k1 := of_any (th (q 2) (q 1) (q 2)) (th (n 2) (n 1) (n 2)) (th (c 2) (c 1) (c 2)) (th (Ls 2) (Ls 1) (Ls 2)) wc (th3 (HN.out 2 (by omega)) (HN.out 1 (by omega)) (HN.out 2 (by omega))) (th3 (by show n 2 ≤ 1000; omega) (by show n 1 ≤ 1000; omega) (by show n 2 ≤ 1000; omega)) (th3 (HT2.out.rd 2 (by omega)) (HT2.out.rd 1 (by omega)) (HT2.out.rd 2 (by omega))) (th3 (HKS.out 2 (by omega)) (HKS.out 1 (by omega)) (HKS.out 2 (by omega)))
      simp only [th, (plain_b _ _).1, (plain_b _ _).2, List.length_nil] at k1
      have hk2 : ∀ W, Below wc.heap.size wc W → _ := fun W hW => of_any (th (q 0) (q 1) (q 1)) (th (n 0) (n 1) (n 1)) (th (c 0) (c 1) (c 1)) (th (Ls 0) (Ls 1) (Ls 1)) W (th3 (HN.out 0 (by omega)) (HN.out 1 (by omega)) (HN.out 1 (by omega))) (th3 (by show n 0 ≤ 1000; omega) (by show n 1 ≤ 1000; omega) (by show n 1 ≤ 1000; omega)) (th3 ((HT2.out.rd 0 (by omega)).below hW) ((HT2.out.rd 1 (by omega)).below hW) ((HT2.out.rd 1 (by omega)).below hW)) (th3 (HKS.out 0 (by omega)) (HKS.out 1 (by omega)) (HKS.out 1 (by omega)))
      simp only [th, (plain_a _ _).1, (plain_a _ _).2, List.length_nil] at hk2
      have H2 := hid hk2
      clear hk2
      obtain ⟨d0, d1, d2⟩ := HT2.out.cells
      go_upto_region 5 with (first
        | (go_at_call 9; with_reducible refine k1.mono ?_; rintro e w5 ⟨qx1, qc1, rfl, _, _, b5⟩; have B5 := hid b5; obtain ⟨y0, y1, y2⟩ := (HT2.out.below b5).cells; have k2 := H2.out w5 b5; clear b5 k1)
        | (go_at_call 9; with_reducible refine k2.mono ?_; rintro e w6 ⟨qx2, qc2, rfl, _, _, b6⟩; have B6 := hid (B5.out.trans (b6.mono B5.out.size)); clear b6 k2))
      have HT3 := hid (HT2.out.below B6.out)
      have HW3 := hid (HW2.out.trans (B6.out.mono HW2.out.size))
      clear HT2 HW2 B5 B6 hXl d0 d1 d2 y0 y1 y2 H2
      have hXl := lt_of_block HT3.out.row
      obtain ⟨d0, d1, d2⟩ := HT3.out.cells
      go_cut [7] (fun v wd => ∃ q' c', v = .slice q' (n 2 + n 1) c' ∧ Hid (Rd wd q' (fCells (Ls 2 ++ Ls 1))) ∧ Hid (Below w6.heap.size w6 wd))
      case first =>
        go_region_law (first
          | (refine stepF rfl (.const (.slice none 0 0)) (.tmp 34) rfl w6.heap.size none 0 0 [] rfl (World.ownsRow_nil _ _ _ _) (q 2) (n 2) (c 2) (Ls 2) rfl (HN.out 2 (by omega)) ((HT3.out.rd 2 (by omega)).below (below_drew (Below.refl _ _))) (by omega) (Nat.le_refl _) ?_; intro q5 c5 w5 hown5 hb5; rw [Nat.zero_add, List.nil_append] at hown5; have HO5 := hid hown5; have HB5 := hid ((below_drew (Below.refl _ _)).trans hb5 : Below w6.heap.size w6 w5); have f0 := (HB5.out.cell (p := ⟨X, 1, none⟩) (lt_of_block HT3.out.row)).trans d1; clear hown5 hb5)
          | (refine stepF rfl (.tmp 35) (.tmp 37) rfl w6.heap.size q5 (n 2) c5 (Ls 2) rfl HO5.out (q 1) (n 1) (c 1) (Ls 1) rfl (HN.out 1 (by omega)) ((HT3.out.rd 1 (by omega)).below HB5.out) (by omega) HB5.out.size ?_; intro q6 c6 w6 hown6 hb6; have HO6 := hid hown6; have HB6 := hid (HB5.out.trans (hb6.mono (by have := HB5.out.size; omega))); clear hown6 hb6))
        all_goals
          go_wp2
          go_meet
          exact ⟨q6, c6, rfl, (Fr.of_own HO6.out).rd, HB6.out⟩
      obtain ⟨q4, c4, rfl, R4, B4⟩ := hcut
      rename_i hK
      refine hK _ _ ?_
      clear hK d0 d1 d2
      have HT4 := hid (HT3.out.below B4.out)
      have HW4 := hid (HW3.out.trans (B4.out.mono HW3.out.size))
      have RB := R4
      clear HT3 HW3 B4 R4 hXl
      obtain ⟨LB, hLB⟩ : ∃ LB, LB = Ls 2 ++ Ls 1 := ⟨_, rfl⟩
      obtain ⟨NB, hNB⟩ : ∃ NB, NB = n 2 + n 1 := ⟨_, rfl⟩
      rw [← hLB] at RB
      rw [← hNB]
      have HLB : Hid (LB.length = NB) := by show _ = _; rw [hLB, hNB, List.length_append, HN.out 2 (by omega), HN.out 1 (by omega)]
      have bNB : NB ≤ 240 := by omega
      have hkB : ∀ f ∈ LB, f.key.size ≤ maxLen := fun f hf => by
        rw [hLB, List.mem_append] at hf
        rcases hf with hf | hf
        · exact HKS.out 2 (by omega) f hf
        · exact HKS.out 1 (by omega) f hf
      have HkB := hid hkB
      have ecl : Hid (uClash (Ls 1) (Ls 1) LB = [] ∧ diffS (overF (Ls 1) (uChg (Ls 1) (Ls 1) LB)) LB = []) := by
        show _ ∧ _
        rw [hLB]; exact plain_c _ _
      have hE := uChg_len (Ls 1) (Ls 1) LB
      have hE2 : ((Ls 1).length + (Ls 1).length + LB.length) * LB.length ≤ 480 * 240 := Nat.mul_le_mul (by rw [HN.out 1 (by omega), HLB.out]; omega) (by rw [HLB.out]; omega)
      obtain ⟨CE, hCE⟩ : ∃ C, uChg (Ls 1) (Ls 1) LB = C := ⟨_, rfl⟩
      obtain ⟨NE, hNE⟩ : ∃ N, CE.length = N := ⟨_, rfl⟩
      rw [hCE] at ecl hE
      rw [hNE] at hE
      have bNE : NE ≤ 115200 := by omega
      have HNE := hid hNE
      have hOL : Hid ((overF (Ls 1) CE).length = NE + n 1) := by show _ = _; unfold overF; rw [List.length_append, List.length_map, hNE, HN.out 1 (by omega)]
      clear hLB hNB hkB hE hE2
      have k1 := of_any (th (q 1) (q 1) q4) (th (n 1) (n 1) NB) (th (c 1) (c 1) c4) (th (Ls 1) (Ls 1) LB) wc (th3 (HN.out 1 (by omega)) (HN.out 1 (by omega)) HLB.out) (th3 (by show n 1 ≤ 1000; omega) (by show n 1 ≤ 1000; omega) (by show NB ≤ 1000; omega)) (th3 (HT4.out.rd 1 (by omega)) (HT4.out.rd 1 (by omega)) RB.out) (th3 (HKS.out 1 (by omega)) (HKS.out 1 (by omega)) HkB.out)
      simp only [th, hCE, hNE, ecl.out.1, List.length_nil] at k1
      clear hCE hNE
      obtain ⟨d0, d1, d2⟩ := HT4.out.cells
      go_upto_region 7 with (go_at_call 9; with_reducible refine k1.mono ?_; rintro e w7 ⟨qe, qz, rfl, re, _, b7⟩; have RE := hid re; have B7 := hid b7; clear re b7 k1)
      have HT7 := hid (HT4.out.below B7.out)
      have HW7 := hid (HW4.out.trans (B7.out.mono HW4.out.size))
      obtain ⟨y0, y1, y2⟩ := HT7.out.cells
      have k2 := over_any (q 1) qe (n 1) (c 1) NE NE (Ls 1) CE w7 (HN.out 1 (by omega)) HNE.out (by omega) (by omega) (HT7.out.rd 1 (by omega)) RE.out
      have hk3 : ∀ W q' c', Below w7.heap.size w7 W → Rd W q' (fCells (overF (Ls 1) CE)) → _ := fun W q' c' hW hR => diff_any q' q4 (NE + n 1) c' NB c4 (overF (Ls 1) CE) LB W hOL.out HLB.out (by omega) (by omega) hR ((RB.out.below B7.out).below hW)
      simp only [ecl.out.2, List.length_nil] at hk3
      have H3 := hid hk3
      clear hk3 d0 d1 d2
      go_wp2_with (first
        | (go_at_call 13; with_reducible refine k2.mono ?_; rintro e w8 ⟨q8, c8, rfl, r8, b8⟩; have k3 := H3.out w8 q8 c8 b8 r8; have B8 := hid b8; clear b8 r8 k2)
        | (go_at_call 14; with_reducible refine k3.mono ?_; rintro e w9 ⟨q9, rfl, _, _, b9⟩; have B9 := hid b9; clear b9 k3)
        | (go_at_call 8; with_reducible refine (kl _).mono ?_; rintro e wz ⟨rfl, bZ⟩; have BZ := hid bZ; clear bZ))
      go_ret
      refine ⟨rfl, ?_⟩
      have z1 := HW7.out.trans (B8.out.mono HW7.out.size)
      have z2 := z1.trans (B9.out.mono z1.size)
      exact z2.trans (BZ.out.mono z2.size)
end Go.Proofs.Herb
