/- The contract of the reference's One (frames). For slices that can be read. -/
import Derived.Test.YtklhnncjgkbelaaDoorRfp
namespace Go.Proofs.Herb
open Go.RowKit
set_option maxRecDepth 100000 in
set_option maxHeartbeats 4000000 in
theorem ref_one (B o n cb at_ had : Nat) (begun : Bool) (l : List UInt8) (w : World) (hn : l.length = n) (hcb : n ≤ cb) (hm : n ≤ 1000000000) (hat : at_ ≤ n) (hh : had ≤ 1000000000) (hb0 : begun = false → had = 0) (hr : Rd w (some ⟨B, o, none⟩) (l.map bv)) :
    Calls Tryd.prog 32 #[.slice (some ⟨B, o, none⟩) n cb, .int .i64 (at_ : Int), .bool begun, .int .i64 (had : Int)] w fun e w' => (∃ q c, e = .returned (.tuple #[.int .u8 ((oneR l at_ begun had).1.toNat : Int), .slice q (oneR l at_ begun had).2.1.length c, .int .i64 ((oneR l at_ begun had).2.2.1 : Int), .int .i64 (oneR l at_ begun had).2.2.2]) ∧
      ((oneR l at_ begun had).2.2.2 = 0 → (∃ b' o', q = some ⟨b', o', none⟩) ∧ Rd w' q ((oneR l at_ begun had).2.1.map bv) ∧ (oneR l at_ begun had).2.1.length ≤ c)) ∧ Below w.heap.size w w' := by
  have Hn := hid hn
  have Hr := hid hr
  have Hb0 := hid hb0
  obtain ⟨F, hF⟩ : ∃ F, F = oneR l at_ begun had := ⟨_, rfl⟩
  rw [← hF]
  have HF := hid hF
  obtain ⟨g, hg⟩ : ∃ g, g = gapN at_ := ⟨_, rfl⟩
  have hg6 : g ≤ 6 := by rw [hg]; exact gap_le _
  obtain ⟨E, hE⟩ : ∃ E, E = at_ + g := ⟨_, rfl⟩
  have i0 : IntKind.i64.wrap ((at_ : Int) + (g : Int)) = (E : Int) := by rw [IntWalk.i64_in _ (by omega)]; omega
  have HG := hid hg
  have HE := hid hE
  have hEa : at_ ≤ E := by omega
  have hE6 : E ≤ at_ + 6 := by omega
  have HGap := hid (ref_gap at_ (by omega) w)
  rw [← hg] at HGap
  obtain ⟨E7, hE7⟩ : ∃ x, x = E + 7 := ⟨_, rfl⟩
  have i5 : IntKind.i64.wrap ((E : Int) + 7) = (E7 : Int) := by rw [IntWalk.i64_in _ (by omega)]; omega
  have HE7 := hid hE7
  have HFin := hid (show ∀ e : Int, F = (0, [], 0, e) → e ≠ 0 → ∀ w', Below w.heap.size w w' → (∃ q c, Ending.returned (.tuple #[.int .u8 0, .slice none 0 0, .int .i64 0, .int .i64 e]) = .returned (.tuple #[.int .u8 (F.1.toNat : Int), .slice q F.2.1.length c, .int .i64 (F.2.2.1 : Int), .int .i64 F.2.2.2]) ∧
      (F.2.2.2 = 0 → (∃ b' o', q = some ⟨b', o', none⟩) ∧ Rd w' q (F.2.1.map bv) ∧ F.2.1.length ≤ c)) ∧ Below w.heap.size w w' from fun e he hne w' hb => ⟨⟨none, 0, by rw [he]; rfl, fun h => absurd (by rw [he] at h; exact h) hne⟩, hb⟩)
  clear hn hr hb0 hF hg hE hE7
  have hdl : (l.drop at_).length = n - at_ := by rw [List.length_drop, Hn.out]
  have HD := hid hdl
  clear hdl
  have HMb := hid hm
  have HHb := hid hh
  clear hm hh
  have i6 : (0 : Int) ≤ (at_ : Int) := by omega
  have i7 : (at_ : Int) ≤ (E : Int) := by omega
  by_cases hAn : at_ = n
  · have HX := hid (show F = (0, [], 0, 5) by
      rw [HF.out]
      unfold oneR
      rw [← HG.out, if_neg (by rw [List.drop_eq_nil_of_le (by rw [Hn.out, hAn]; exact Nat.le_refl _), List.take_nil, zeros_nil]; exact Bool.noConfusion), if_pos (by rw [Hn.out]; omega)])
    have HN0 := hid (show ∀ (q : Option Addr) (c : Nat), Calls Tryd.prog 31 #[.slice q 0 c] w fun e w' => e = .returned (.bool true) ∧ w = w' from fun q c => ref_none q 0 c [] w rfl (by decide) (.inl rfl))
    by_cases hEn : E ≤ n
    · obtain rfl : E = n := by omega
      subst hAn
      have d7 : decide (at_ < E7) = true := by have := HE7.out; simp; omega
      go_enter Tryd.func32, Tryd.ntmps32
      go_wp2_with fail
      refine HGap.out.mono ?_
      rintro e w1 ⟨rfl, rfl⟩
      clear HGap
      go_wp2_with (go_at_call 31; refine (HN0.out _ _).mono ?_; rintro e w1 ⟨rfl, rfl⟩)
      all_goals
        refine bodyPost_ret (results_tmp4 rfl _ _ _) rfl ?_
        exact HFin.out 5 HX.out (by decide) w (Below.refl _ _)
    · subst hAn
      have d7 : decide (at_ < E7) = true := by have := HE7.out; simp; omega
      go_enter Tryd.func32, Tryd.ntmps32
      go_wp2_with fail
      refine HGap.out.mono ?_
      rintro e w1 ⟨rfl, rfl⟩
      clear HGap
      go_wp2_with (go_at_call 31; refine (HN0.out _ _).mono ?_; rintro e w1 ⟨rfl, rfl⟩)
      all_goals
        refine bodyPost_ret (results_tmp4 rfl _ _ _) rfl ?_
        exact HFin.out 5 HX.out (by decide) w (Below.refl _ _)
  · obtain ⟨m0, hm0⟩ : ∃ x, x = min E n - at_ := ⟨_, rfl⟩
    obtain ⟨Z, hZ⟩ : ∃ Z, Z = zeros ((l.drop at_).take g) := ⟨_, rfl⟩
    have HNone := hid (show ∀ (m c : Nat) , m = min E n - at_ → Calls Tryd.prog 31 #[.slice (some ⟨B, o + at_, none⟩) m c] w fun e w' => e = .returned (.bool Z) ∧ w = w' from fun m c hm' => by
      have h1 := ref_none (some ⟨B, o + at_, none⟩) m c ((l.drop at_).take m) w (by rw [List.length_take, HD.out]; omega) (by have := HMb.out; omega) (by have h := ((Hr.out.drop at_)).take m; rw [← List.map_drop, ← List.map_take] at h; exact h)
      rw [take_min (g := g) (by rw [HD.out]; have := HE.out; omega), ← hZ] at h1
      exact h1)
    have HZ := hid hZ
    have i9 : cb ≠ at_ := by omega
    clear hZ hm0
    by_cases hEn : E ≤ n
    · have i8 : (E : Int) ≤ (cb : Int) := by omega
      go_enter Tryd.func32, Tryd.ntmps32
      go_wp2_with fail
      refine HGap.out.mono ?_
      rintro e w1 ⟨rfl, rfl⟩
      clear HGap
      go_wp2_with fail
      refine (HNone.out _ _ (by omega)).mono ?_
      rintro e w1 ⟨rfl, rfl⟩
      have HX4 := hid (show Z = false → F = (0, [], 0, 4) from fun h => by
        rw [HF.out]; unfold oneR; rw [← HG.out, ← HZ.out, if_pos h])
      have HX5 := hid (show Z = true → n < E7 → F = (0, [], 0, 5) from fun h h2 => by
        rw [HF.out]; unfold oneR; rw [← HG.out, ← HZ.out, if_neg (by rw [h]; exact Bool.noConfusion), if_pos (by rw [Hn.out]; have := HE.out; have := HE7.out; omega)])
      cases Z with
      | false =>
        go_wp2_with fail
        refine bodyPost_ret (results_tmp4 rfl _ _ _) rfl ?_
        exact HFin.out 4 (HX4.out (by simp)) (by decide) w (Below.refl _ _)
      | true =>
      by_cases h7 : n < E7
      · have d7 : decide (n < E7) = true := by simp; omega
        go_wp2_with fail
        refine bodyPost_ret (results_tmp4 rfl _ _ _) rfl ?_
        exact HFin.out 5 (HX5.out (by simp) h7) (by decide) w (Below.refl _ _)
      · have d7 : decide (n < E7) = false := by simp; omega
        obtain ⟨E4, hE4⟩ : ∃ x, x = E + 4 := ⟨_, rfl⟩
        obtain ⟨E5, hE5⟩ : ∃ x, x = E + 5 := ⟨_, rfl⟩
        obtain ⟨E6, hE6'⟩ : ∃ x, x = E + 6 := ⟨_, rfl⟩
        have j4 : IntKind.i64.wrap ((E : Int) + 4) = (E4 : Int) := by rw [IntWalk.i64_in _ (by have := HMb.out; omega)]; omega
        have j5 : IntKind.i64.wrap ((E : Int) + 5) = (E5 : Int) := by rw [IntWalk.i64_in _ (by have := HMb.out; omega)]; omega
        have j6 : IntKind.i64.wrap ((E : Int) + 6) = (E6 : Int) := by rw [IntWalk.i64_in _ (by have := HMb.out; omega)]; omega
        have k40 : (0 : Int) ≤ (E4 : Int) := by have := HE7.out; omega
        have k41 : (E4 : Int) < (n : Int) := by have := HE7.out; omega
        have k50 : (0 : Int) ≤ (E5 : Int) := by have := HE7.out; omega
        have k51 : (E5 : Int) < (n : Int) := by have := HE7.out; omega
        have k60 : (0 : Int) ≤ (E6 : Int) := by have := HE7.out; omega
        have k61 : (E6 : Int) < (n : Int) := by have := HE7.out; omega
        have l4 : E4 < l.length := by rw [Hn.out]; have := HE7.out; omega
        obtain ⟨x4, hx4⟩ : ∃ x, x = l[E4]'l4 := ⟨_, rfl⟩
        have l5 : E5 < l.length := by rw [Hn.out]; have := HE7.out; omega
        obtain ⟨x5, hx5⟩ : ∃ x, x = l[E5]'l5 := ⟨_, rfl⟩
        have l6 : E6 < l.length := by rw [Hn.out]; have := HE7.out; omega
        obtain ⟨x6, hx6⟩ : ∃ x, x = l[E6]'l6 := ⟨_, rfl⟩
        have cell : ∀ (i : Nat) (hi : i < l.length), w.cell? ⟨B, o + i, none⟩ = some (.int .u8 (l[i].toNat : Int)) := fun i hi => by
          obtain ⟨b', o', e', hc⟩ := Hr.out.cell (k := i) (by rw [List.length_map]; exact hi)
          cases e'
          rw [hc, List.getElem_map]
          rfl
        have c4 := cell E4 l4
        have c5 := cell E5 l5
        have c6 := cell E6 l6
        rw [← hx4] at c4
        rw [← hx5] at c5
        rw [← hx6] at c6
        obtain ⟨V4, hV4⟩ : ∃ v, v = x4.toNat := ⟨_, rfl⟩
        obtain ⟨V5, hV5⟩ : ∃ v, v = x5.toNat := ⟨_, rfl⟩
        obtain ⟨K, hK⟩ : ∃ v, v = x6.toNat := ⟨_, rfl⟩
        rw [← hV4] at c4
        rw [← hV5] at c5
        rw [← hK] at c6
        have b4 : V4 < 256 := by rw [hV4]; exact x4.toNat_lt
        have b5 : V5 < 256 := by rw [hV5]; exact x5.toNat_lt
        have b6 : K < 256 := by rw [hK]; exact x6.toNat_lt
        obtain ⟨NN, hNN⟩ : ∃ v, v = V4 + 256 * V5 := ⟨_, rfl⟩
        obtain ⟨RM, hRM⟩ : ∃ v, v = roomN at_ := ⟨_, rfl⟩
        have Hcell := hid cell
        have HX4' := hid hx4
        have HX5' := hid hx5
        have HX6' := hid hx6
        have HV4 := hid hV4
        have HV5 := hid hV5
        have HK := hid hK
        have HNN := hid hNN
        have HRM := hid hRM
        clear cell hx4 hx5 hx6 hV4 hV5 hK hNN hRM
        have HE4 := hid hE4
        have HE5 := hid hE5
        have HE6 := hid hE6'
        clear hE4 hE5 hE6'
        go_upto_region 6 with (fail)
        go_quiet (fail)
        go_upto_region 9 with (fail)
        obtain ⟨w1, hw1⟩ : ∃ x, x = w.drewN nq := ⟨_, rfl⟩
        rw [← hw1, show ((V4 : Int) + 256 * (V5 : Int)) = (NN : Int) by have := HNN.out; omega, show (256 - (E : Int) % 256 - 7) = (RM : Int) by
          have h1 := gap_room at_
          have h2 := HRM.out
          unfold roomN at h2
          rw [← HG.out, ← HE.out] at h1 h2
          omega]
        have HB1 := hid (show Below w.heap.size w w1 by rw [hw1]; exact below_drewN (Below.refl _ _) nq)
        have HR1 := hid (Hr.out.below HB1.out)
        obtain ⟨CO, hCO⟩ : ∃ b, b = comesB begun K := ⟨_, rfl⟩
        have HCO := hid hCO
        clear hw1 hCO c4 c5 c6
        obtain ⟨C1, hC1⟩ : ∃ b, b = (K == 1 || K == 2) := ⟨_, rfl⟩
        have HC1 := hid hC1
        obtain ⟨BAD, hBAD⟩ : ∃ b, b = badB CO K NN RM had := ⟨_, rfl⟩
        have HBAD := hid hBAD
        clear hC1 hBAD
        go_cut [14, 16] (fun k v wc => k = .int .u8 (K : Int) ∧ v = .bool C1 ∧ w1 = wc)
        case first =>
          go_wp2
          all_goals go_meet
          all_goals (case rel =>
            refine ⟨congrArg (Value.int .u8) (by omega), congrArg Value.bool ?_, rfl⟩
            rw [HC1.out, Bool.eq_iff_iff]
            simp
            try omega)
        case rest =>
          obtain ⟨rfl, rfl, rfl⟩ := hcut
          go_upto_if 67 with (fail)
          go_cut [2, 14, 16] (fun b k v wc => b = .bool begun ∧ k = .int .u8 (K : Int) ∧ v = .bool CO ∧ w1 = wc)
          case first =>
            go_wp2
            all_goals go_meet
            all_goals (case rel =>
              refine ⟨congrArg Value.bool (by first | rfl | (symm; assumption)), congrArg (Value.int .u8) (by omega), congrArg Value.bool ?_, rfl⟩
              rw [HCO.out]
              try rw [HC1.out]
              unfold comesB
              first
                | (rw [if_pos (by assumption), Bool.eq_iff_iff]; simp; try omega)
                | (rw [if_neg (by simp [*])]))
          case rest =>
            obtain ⟨rfl, rfl, rfl, rfl⟩ := hcut
            go_upto_region 12 with (fail)
            have hh := HHb.out
            have hNN := HNN.out
            have hNN2 : NN ≤ 65535 := by omega
            clear hNN
            go_cut [13, 14, 16, 107] (fun n k b v wc => n = .int .i64 (NN : Int) ∧ k = .int .u8 (K : Int) ∧ b = .bool CO ∧ v = .bool BAD ∧ w1 = wc)
            case first =>
              go_wp2
              all_goals go_meet
              all_goals (case rel =>
                refine ⟨congrArg (Value.int .i64) (by omega), congrArg (Value.int .u8) (by omega), congrArg Value.bool (by cases hq : CO <;> first | rfl | (exfalso; simp_all)), congrArg Value.bool ?_, rfl⟩
                rw [HBAD.out]
                unfold badB
                cases hq : CO <;> first | (exfalso; simp_all; done) | (rw [Bool.eq_iff_iff]; simp; done) | (rw [Bool.eq_iff_iff]; simp; omega))
            case rest =>
              obtain ⟨rfl, rfl, rfl, rfl, rfl⟩ := hcut
              obtain ⟨X, hX⟩ : ∃ X, X = (l.drop E7).take NN := ⟨_, rfl⟩
              obtain ⟨EN, hEN⟩ : ∃ x, x = E7 + NN := ⟨_, rfl⟩
              have hlen : E + 7 ≤ l.length := by rw [Hn.out]; have := HE7.out; omega
              have hX2 : X.length ≤ NN := by rw [hX, List.length_take]; omega
              have HFo := hid (show (BAD = true → F = (0, [], 0, 4)) ∧ (BAD = false → n < EN → F = (0, [], 0, 5)) ∧ (BAD = false → ¬ n < EN → (¬ ∀ i, i < 4 → (partB x6 X)[i]? = l[E + i]?) → F = (0, [], 0, 6)) ∧ (BAD = false → ¬ n < EN → (∀ i, i < 4 → (partB x6 X)[i]? = l[E + i]?) → F = (x6, X, EN, 0)) by
                have q4 : l[E + 4]'(by omega) = x4 := by have := HX4'.out; simp only [HE4.out] at this; exact this.symm
                have q5 : l[E + 5]'(by omega) = x5 := by have := HX5'.out; simp only [HE5.out] at this; exact this.symm
                have q6 : l[E + 6]'(by omega) = x6 := by have := HX6'.out; simp only [HE6.out] at this; exact this.symm
                have hn' : x4.toNat + 256 * x5.toNat = NN := by have := HNN.out; have := HV4.out; have := HV5.out; omega
                have hfit := fits_bad (K := K) (N := NN) (RM := RM) Hb0.out (by have := HRM.out; unfold roomN at this; omega)
                rw [← HCO.out, ← HBAD.out] at hfit
                have hone : F = if (!BAD) = false then (0, [], 0, 4) else if n < EN then (0, [], 0, 5) else if (l.drop E).take 7 ≠ headList x6 X then (0, [], 0, 6) else (x6, X, EN, 0) := by
                  rw [HF.out]
                  unfold oneR
                  rw [← HG.out, ← HE.out, ← HZ.out, if_neg (by decide), if_neg (by rw [Hn.out]; have := HE7.out; omega)]
                  dsimp only
                  rw [head_getD (by decide) (by omega : E + 6 < l.length), head_getD (by decide) (by omega : E + 4 < l.length), head_getD (by decide) (by omega : E + 5 < l.length), q4, q5, q6, hn', ← HK.out, ← HRM.out, hfit, ← HE7.out, ← hEN, ← hX, Hn.out]
                have he : ¬ n < EN → ((l.drop E).take 7 = headList x6 X ↔ ∀ i, i < 4 → (partB x6 X)[i]? = l[E + i]?) := fun h1 =>
                  head_eq (l := l) (x := X) (E := E) (k := x6) hlen q6.symm (by rw [q4, q5, hn', hX, List.length_take, List.length_drop, Hn.out]; omega)
                refine ⟨fun h => ?_, fun h h1 => ?_, fun h h1 h2 => ?_, fun h h1 h2 => ?_⟩
                · rw [hone, h]; rfl
                · rw [hone, h, if_neg (fun h => by cases h), if_pos h1]
                · rw [hone, h, if_neg (fun h => by cases h), if_neg h1, if_pos (fun h => h2 ((he h1).1 h))]
                · rw [hone, h, if_neg (fun h => by cases h), if_neg h1, if_neg (fun h => h ((he h1).2 h2))])
              clear hlen hX2
              have i9' : IntKind.i64.wrap ((E7 : Int) + (NN : Int)) = (EN : Int) := by rw [IntWalk.i64_in _ (by have := HMb.out; omega)]; omega
              have HEN := hid hEN
              have HX := hid hX
              clear hEN hX
              cases BAD with
              | true =>
                go_wp2_with fail
                refine bodyPost_ret (results_tmp4 rfl _ _ _) rfl ?_
                exact HFin.out 4 (HFo.out.1 (by simp)) (by decide) w1 HB1.out
              | false =>
              by_cases hEn : n < EN
              · have d8 : decide (n < EN) = true := by simpa using hEn
                go_wp2_with fail
                refine bodyPost_ret (results_tmp4 rfl _ _ _) rfl ?_
                exact HFin.out 5 (HFo.out.2.1 (by simp) hEn) (by decide) w1 HB1.out
              · have d8 : decide (n < EN) = false := by simpa using hEn
                have e0 : (0 : Int) ≤ (E7 : Int) := by omega
                have e1 : (E7 : Int) ≤ (EN : Int) := by have := HEN.out; omega
                have e2 : (EN : Int) ≤ (cb : Int) := by omega
                have e3 : EN - E7 = NN := by have := HEN.out; omega
                have hXl : X.length = NN := by rw [HX.out, List.length_take, List.length_drop, Hn.out]; have := HEN.out; omega
                have HXl := hid hXl
                have HXr := hid (show Rd w1 (some ⟨B, o + E7, none⟩) (X.map bv) by
                  have h := (HR1.out.drop E7).take NN
                  rw [← List.map_drop, ← List.map_take, ← HX.out] at h
                  exact h)
                clear hXl
                go_upto_region 16 with (fail)
                go_cut [0, 17] (fun s v wc => s = .slice (some ⟨B, o, none⟩) n cb ∧ ∃ q c, v = .slice q NN c ∧ (∃ b' o', q = some ⟨b', o', none⟩) ∧ Rd w1 q (X.map bv) ∧ NN ≤ c ∧ w1 = wc)
                case first =>
                  by_cases hcap : cb = E7
                  · have hN0 : NN = 0 := by have := HEN.out; omega
                    have hEE : EN = E7 := by have := HEN.out; omega
                    have hX0 : X = [] := List.eq_nil_of_length_eq_zero (by rw [HXl.out]; exact hN0)
                    have HN0 := hid hN0
                    have HX0 := hid hX0
                    have hcap' : cb - E7 = 0 := by omega
                    clear hN0 hEE hX0
                    go_wp2
                    all_goals go_meet
                    all_goals (case rel => exact ⟨by rw [hcap], some ⟨B, o, none⟩, 0, rfl, ⟨B, o, rfl⟩, by rw [HX0.out]; exact .inl rfl, Nat.le_of_eq HN0.out, rfl⟩)
                  · have hcap2 : cb ≠ E7 := hcap
                    go_wp2
                    all_goals go_meet
                    all_goals (case rel => exact ⟨rfl, some ⟨B, o + E7, none⟩, cb - E7, rfl, ⟨B, o + E7, rfl⟩, HXr.out, by omega, rfl⟩)
                case rest =>
                  obtain ⟨rfl, q, c, rfl, ⟨b', o', rfl⟩, hrd, hcc, rfl⟩ := hcut
                  have HRdX := hid hrd
                  clear hrd
                  have hK8 : (K : Int) = ((x6.toNat : Nat) : Int) := by rw [HK.out]
                  have HPart := hid (ref_part' (K : Int) x6 hK8 (some ⟨b', o', none⟩) NN c X w1 HXl.out (by have := HNN.out; omega) HRdX.out (fun h => by cases h))
                  clear hK8
                  go_wp2_with fail
                  refine HPart.out.mono ?_
                  rintro e w2 ⟨v, rfl, hfr, hb2⟩
                  obtain ⟨qv, cv, rfl, -, -, hrv, -⟩ := hfr.shape
                  have HB2 := hid (HB1.out.trans (hb2.mono HB1.out.size))
                  have HR2 := hid (HR1.out.below hb2)
                  have HX2 := hid (HRdX.out.below hb2)
                  have HRv := hid hrv
                  have hPl : (partB x6 X).length = NN + 7 := by unfold partB; rw [List.length_append, HXl.out]; show 7 + NN = NN + 7; omega
                  have HPl := hid hPl
                  clear hfr hb2 hrv HPart hPl
                  go_wp2_with fail
                  go_loopw [19] (fun i wr => ∃ k : Nat, k ≤ 4 ∧ i = .int .i64 (k : Int) ∧ (∀ i, i < k → (partB x6 X)[i]? = l[E + i]?) ∧ Below w2.heap.size w2 wr) (fun i _ => 4 - (intOf i).toNat)
                  case atStart => exact ⟨0, by omega, rfl, fun i hi => absurd hi (Nat.not_lt_zero _), Below.refl _ _⟩
                  case round =>
                    obtain ⟨k, hk, rfl, heq, hbr⟩ := hrel
                    have HEq := hid heq
                    have HBr := hid hbr
                    clear heq hbr
                    by_cases hlt : k < 4
                    · have hkl : E + k < l.length := by rw [Hn.out]; have := HE7.out; omega
                      obtain ⟨Ek, hEk⟩ : ∃ x, Hid (x = E + k) := ⟨_, hid rfl⟩
                      obtain ⟨y, hy⟩ : ∃ y, Hid (y = l[E + k]) := ⟨_, hid rfl⟩
                      obtain ⟨z, hz⟩ : ∃ z, Hid (z = (partB x6 X)[k]'(by rw [HPl.out]; omega)) := ⟨_, hid rfl⟩
                      obtain ⟨bv', ov', ev', hcv⟩ := (HRv.out.below HBr.out).cell (k := k) (by rw [List.length_map, HPl.out]; omega)
                      subst ev'
                      obtain ⟨bl', ol', el', hcl⟩ := (HR2.out.below HBr.out).cell (k := E + k) (by rw [List.length_map]; exact hkl)
                      cases el'
                      rw [List.getElem_map, ← hz.out] at hcv
                      rw [List.getElem_map, ← hy.out, ← hEk.out] at hcl
                      unfold bv at hcv hcl
                      have HY := hid (show l[E + k]? = some y by rw [List.getElem?_eq_getElem hkl, hy.out])
                      have HZz := hid (show (partB x6 X)[k]? = some z by rw [List.getElem?_eq_getElem (by rw [HPl.out]; omega), hz.out])
                      have f0 : IntKind.i64.wrap ((E : Int) + (k : Int)) = (Ek : Int) := by rw [IntWalk.i64_in _ (by have := HMb.out; have := hEk.out; omega)]; have := hEk.out; omega
                      have f1 : (0 : Int) ≤ (Ek : Int) := by omega
                      have f2 : (Ek : Int) < (n : Int) := by have := HE7.out; have := hEk.out; omega
                      have f3 : (0 : Int) ≤ (k : Int) := by omega
                      have f4 : (k : Int) < ((NN + 7 : Nat) : Int) := by omega
                      obtain ⟨Z7, HZ7⟩ : ∃ x, Hid (x = z.toNat) := ⟨_, hid rfl⟩
                      obtain ⟨Y7, HY7⟩ : ∃ x, Hid (x = y.toNat) := ⟨_, hid rfl⟩
                      rw [← HZ7.out] at hcv
                      rw [← HY7.out] at hcl
                      rcases Classical.em (z = y) with hzy | hzy
                      · have hd : Z7 = Y7 := by rw [HZ7.out, HY7.out, hzy]
                        rw [hd] at hcv
                        have HZY := hid hzy
                        clear hd hzy
                        go_upto_region 21 with (fail)
                        go_quiet (fail)
                        have HBr2 := hid (show Below w2.heap.size w2 (wr.drewN nq) from below_drewN HBr.out nq)
                        go_wp2
                        go_roundw
                        case rel => exact ⟨k + 1, by omega, by go_num, fun i hi => (by
                          rcases (show i < k ∨ i = k by omega) with h | h
                          · exact HEq.out i h
                          · rw [h, HZz.out, HY.out, HZY.out]), HBr2.out⟩
                        case measure => simp [intOf]; omega
                      · have hd : ((Z7 : Int) != (Y7 : Int)) = true := by
                          have h1 : z.toNat ≠ y.toNat := fun h => hzy (UInt8.toNat_inj.1 h)
                          rw [← HZ7.out, ← HY7.out] at h1
                          simp; omega
                        have HNe := hid hzy
                        clear hzy
                        go_upto_region 21 with (fail)
                        go_quiet (fail)
                        have HBr2 := hid (show Below w2.heap.size w2 (wr.drewN nq) from below_drewN HBr.out nq)
                        go_wp2
                        refine bodyPost_ret (results_tmp4 rfl _ _ _) rfl ?_
                        exact HFin.out 6 (HFo.out.2.2.1 (by simp) hEn (fun h => HNe.out (by
                          have h1 := h k hlt
                          rw [HZz.out, HY.out] at h1
                          exact Option.some.inj h1))) (by decide) _ (HB2.out.trans (HBr2.out.mono HB2.out.size))
                    · obtain rfl : k = 4 := by omega
                      have HFv := hid (HFo.out.2.2.2 (by simp) hEn HEq.out)
                      have HXw := hid (HX2.out.below HBr.out)
                      have HBw := hid (HB2.out.trans (HBr.out.mono HB2.out.size))
                      have f5 : IntKind.i64.wrap ((E : Int) + 7) = (E7 : Int) := i5
                      go_wp2
                      refine bodyPost_ret (results_tmp4 rfl _ _ _) rfl ?_
                      refine ⟨⟨some ⟨b', o', none⟩, c, ?_, fun _ => ⟨⟨_, _, rfl⟩, ?_, ?_⟩⟩, HBw.out⟩
                      · rw [HFv.out]
                        show Ending.returned (.tuple #[.int .u8 (K : Int), .slice (some ⟨b', o', none⟩) NN c, .int .i64 (EN : Int), .int .i64 0]) = Ending.returned (.tuple #[.int .u8 (x6.toNat : Int), .slice (some ⟨b', o', none⟩) X.length c, .int .i64 (EN : Int), .int .i64 0])
                        rw [HXl.out, HK.out]
                      · rw [HFv.out]; exact HXw.out
                      · rw [HFv.out]; show X.length ≤ c; rw [HXl.out]; exact hcc
    · have HX4 := hid (show Z = false → F = (0, [], 0, 4) from fun h => by
        rw [HF.out]; unfold oneR; rw [← HG.out, ← HZ.out, if_pos h])
      have HX5 := hid (show Z = true → F = (0, [], 0, 5) from fun h => by
        rw [HF.out]; unfold oneR; rw [← HG.out, ← HZ.out, if_neg (by rw [h]; exact Bool.noConfusion), if_pos (by rw [Hn.out]; have := HE.out; omega)])
      have d7 : decide (n < E7) = true := by have := HE7.out; simp; omega
      go_enter Tryd.func32, Tryd.ntmps32
      go_wp2_with fail
      refine HGap.out.mono ?_
      rintro e w1 ⟨rfl, rfl⟩
      clear HGap
      go_wp2_with fail
      refine (HNone.out _ _ (by omega)).mono ?_
      rintro e w1 ⟨rfl, rfl⟩
      cases Z with
      | true =>
        go_wp2_with fail
        refine bodyPost_ret (results_tmp4 rfl _ _ _) rfl ?_
        exact HFin.out 5 (HX5.out (by simp)) (by decide) w (Below.refl _ _)
      | false =>
        go_wp2_with fail
        refine bodyPost_ret (results_tmp4 rfl _ _ _) rfl ?_
        exact HFin.out 4 (HX4.out (by simp)) (by decide) w (Below.refl _ _)
end Go.Proofs.Herb
