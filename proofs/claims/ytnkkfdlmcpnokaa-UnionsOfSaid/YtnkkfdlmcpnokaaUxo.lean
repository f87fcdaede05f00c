
/- UnionsOf: the walk. -/
import Derived.Test.YtnkkfdlmcpnokaaUpl
import Derived.Test.YtnkkfdlmcpnokaaUro
namespace Go.Proofs.Herb
open Go.RowKit
set_option maxRecDepth 100000 in
set_option maxHeartbeats 8000000 in
theorem unionsOf_any (q : Nat → Option Addr) (n c : Nat → Nat) (Ls : Nat → List Fact) (w : World) (hn : ∀ i, i < 3 → (Ls i).length = n i) (hm : ∀ i, i < 3 → n i ≤ maxLen) (hr : ∀ i, i < 3 → Rd w (q i) (fCells (Ls i))) (hks : ∀ i, i < 3 → ∀ f ∈ Ls i, f.key.size ≤ maxLen) :
    Calls Try.prog 3 #[.agg #[.slice (q 0) (n 0) (c 0), .slice (q 1) (n 1) (c 1), .slice (q 2) (n 2) (c 2)]] w fun e w' => e = .returned (.bool true) ∧ Below w.heap.size w w' := by
  obtain ⟨X, hX⟩ : ∃ X, w.heap.size = X := ⟨_, rfl⟩
  have kg := fun W => great_any q n c W hm
  have HN := hid hn
  have HKS := hid hks
  obtain ⟨w1, hw1⟩ : ∃ w1, w.alloc (.cells #[.slice (q 0) (n 0) (c 0), .slice (q 1) (n 1) (c 1), .slice (q 2) (n 2) (c 2)] 24) = w1 := ⟨_, rfl⟩
  have HT1 : Hid (ThreeAt w1 X q n c Ls) := by
    show ThreeAt _ _ _ _ _ _
    rw [← hw1, ← hX]; exact ThreeAt.new hr
  have HB1 : Hid (Below w.heap.size w w1) := by
    show Below _ _ _
    rw [← hw1]; exact (Below.refl _ _).alloc (Nat.le_refl _) _
  obtain ⟨d0, d1, d2⟩ := HT1.out.cells
  clear hn hr hks hm
  go_enter Try.func3, Try.ntmps3
  go_upto_region 1 with fail
  clear hw1
  have HXX := hid hX
  have kl := fun W => lives_any W
  go_cut [8] (fun v wd => ∃ b, v = .bool b ∧ (b = false → ∀ i, i < 3 → n i ≤ 120) ∧ Hid (Below w1.heap.size w1 wd))
  case first =>
    go_wp2_with (go_at_call 7; with_reducible refine (kg _).mono ?_; rintro e w2 ⟨b, rfl, h1, h2⟩)
    go_meet
    exact ⟨b, rfl, h1, h2⟩
  case rest =>
    obtain ⟨b, rfl, hb, HB2⟩ := hcut
    rename_i hK
    refine hK _ _ ?_
    clear hK d0 d1 d2
    have HT2 := hid (HT1.out.below HB2.out)
    have HW2 := hid (HB1.out.trans (HB2.out.mono HB1.out.size))
    have hXl := lt_of_block HT2.out.row
    clear HT1 HB1 HB2 kg
    cases b with
    | true =>
      go_wp2_with (go_at_call 8; with_reducible refine (kl _).mono ?_; rintro e w3 ⟨rfl, h3⟩)
      go_ret
      exact ⟨rfl, HW2.out.trans (h3.mono HW2.out.size)⟩
    | false =>
      have hb2 := hb rfl
      have n0 := hb2 0 (by omega)
      have n1 := hb2 1 (by omega)
      have n2 := hb2 2 (by omega)
      clear hb hb2
      have k1 := of_any q n c Ls wc HN.out (fun i hi => by rcases three hi with rfl | rfl | rfl <;> omega) HT2.out.rd HKS.out
      obtain ⟨CE, hCE⟩ : ∃ C, uChg (Ls 0) (Ls 1) (Ls 2) = C := ⟨_, rfl⟩
      obtain ⟨CL, hCL⟩ : ∃ C, uClash (Ls 0) (Ls 1) (Ls 2) = C := ⟨_, rfl⟩
      have hE := uChg_len (Ls 0) (Ls 1) (Ls 2)
      have hE2 : ((Ls 0).length + (Ls 1).length + (Ls 2).length) * (Ls 2).length ≤ 360 * 120 := Nat.mul_le_mul (by rw [HN.out 0 (by omega), HN.out 1 (by omega), HN.out 2 (by omega)]; omega) (by rw [HN.out 2 (by omega)]; omega)
      have hL : CL.length ≤ 360 := by
        rw [← hCL]
        have h1 := uCl_len (Ls 0) (Ls 1) (Ls 2) (uKeys (Ls 0) (Ls 1) (Ls 2))
        have h2 := uKeys_len (Ls 0) (Ls 1) (Ls 2)
        rw [HN.out 0 (by omega), HN.out 1 (by omega), HN.out 2 (by omega)] at h2
        have h3 : (uClash (Ls 0) (Ls 1) (Ls 2)).length = (uCl (Ls 0) (Ls 1) (Ls 2) (uKeys (Ls 0) (Ls 1) (Ls 2))).length := rfl
        omega
      rw [hCE] at hE
      obtain ⟨NE, hNE⟩ : ∃ N, CE.length = N := ⟨_, rfl⟩
      obtain ⟨NL, hNL⟩ : ∃ N, CL.length = N := ⟨_, rfl⟩
      rw [hNE] at hE
      rw [hNL] at hL
      have bNE : NE ≤ 43200 := by omega
      simp only [hCE, hCL, hNE, hNL] at k1
      have HCE := hid hCE
      have HCL := hid hCL
      have HNE := hid hNE
      have HNL := hid hNL
      clear hCE hCL hNE hNL hE hE2
      have hk2 : ∀ W, Below wc.heap.size wc W → _ := fun W hW => ref_of q n c Ls W HN.out (fun i hi => by rcases three hi with rfl | rfl | rfl <;> omega) (fun i hi => (HT2.out.rd i hi).below hW)
      simp only [HCE.out, HCL.out, HNE.out, HNL.out] at hk2
      have H2 := hid hk2
      clear hk2
      obtain ⟨d0, d1, d2⟩ := HT2.out.cells
      go_upto_region 5 with (first
        | (go_at_call 9; with_reducible refine k1.mono ?_; rintro e w5 ⟨qe, qz, rfl, re, rz, b5⟩; have RE := hid re; have RZ := hid rz; have B5 := hid b5; obtain ⟨y0, y1, y2⟩ := (HT2.out.below b5).cells; have k2 := H2.out w5 b5; clear re rz b5 k1)
        | (go_at_call 10; with_reducible refine k2.mono ?_; rintro e w6 ⟨q1, c1, q2, c2, rfl, r1, r2, b6⟩; have R1 := hid r1; have R2 := hid r2; have B56 := hid b6; have B6 := hid (B5.out.trans (b6.mono B5.out.size)); clear r1 r2 b6 k2))
      have HW6 := hid (HW2.out.trans (B6.out.mono HW2.out.size))
      have k3 := chgs_same qe q1 NE NE c1 CE w6 HNE.out (by omega) (RE.out.below B56.out) R1.out
      have hk4 : ∀ W, Below w6.heap.size w6 W → _ := fun W hW => texts_same qz q2 NL NL c2 CL W HNL.out (by omega) ((RZ.out.below B56.out).below hW) (R2.out.below hW)
      have H4 := hid hk4
      clear hk4
      go_wp2_with (first
        | (go_at_call 11; with_reducible refine k3.mono ?_; rintro e w7 ⟨rfl, b7⟩; have k4 := H4.out w7 b7; have B7 := hid b7; clear b7 k3)
        | (go_at_call 12; with_reducible refine k4.mono ?_; rintro e w8 ⟨rfl, b8⟩; have B8 := hid b8; clear b8 k4)
        | (go_at_call 8; with_reducible refine (kl _).mono ?_; rintro e wz ⟨rfl, bZ⟩; have BZ := hid bZ; clear bZ))
      go_ret
      refine ⟨rfl, ?_⟩
      have z1 := HW6.out.trans (B7.out.mono HW6.out.size)
      have z2 := z1.trans (B8.out.mono z1.size)
      exact z2.trans (BZ.out.mono z2.size)
end Go.Proofs.Herb
