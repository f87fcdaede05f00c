/- The contract of the pointer reference's Get. For a disk and the reference's as Two says. -/
import Derived.Test.YtgijklclfdfidaaGreatRdh
namespace Go.Proofs.Herb
open Go.RowKit
theorem str_ne (l k : List UInt8) : (ByteArray.toList ⟨l.toArray⟩ == ByteArray.toList ⟨k.toArray⟩) = (l == k) := by
  by_cases h : l = k
  · subst h; rw [seq rfl]; simp
  · rw [sne (fun e => h (by simpa using congrArg (fun b => b.data.toList) e))]; simp [h]
set_option maxRecDepth 100000 in
set_option maxHeartbeats 1600000 in
theorem Two.getR {I : Nat → Prop} {w0 w : World} {md : DM} {s t : DS} {mr : RM} {n : Nat} (T : Two I w0 w md s mr t n) (hn : n ≤ 900000) :
    Calls Tryz.prog 23 #[.pointer (some ⟨mr.D, 0, none⟩)] w fun e w' => e = .returned (.tuple #[.int .u64 (getN t : Int), .int .i64 (getE t)]) ∧ Below w.heap.size w w' := by
  have hE : getE t = if (look t.names kC).isSome = false then 7 else if knownE t kC ≠ 0 then knownE t kC else if goodL (readL t kC) = true then 0 else 13 := rfl
  have hN : getN t = if getE t = 0 then valL ((readL t kC).take 8) else 0 := rfl
  obtain ⟨b, hb⟩ : ∃ b, b = (look t.names kC).isSome := ⟨_, rfl⟩
  rw [← hb] at hE
  have HB := hid hb
  have HT := hid T
  clear T hb
  cases b with
  | false =>
    rw [if_pos rfl] at hE
    rw [hE, if_neg (by decide)] at hN
    have HE := hid hE
    have HN := hid hN
    clear hE hN
    go_enter Tryz.func23, Tryz.ntmps23
    go_wp2_with fail
    (with_reducible refine (HT.out.thereR hn kC).mono ?_)
    rintro e w2 ⟨rfl, hB2⟩
    rw [← HB.out]
    have HB2 := hid hB2
    clear hB2
    go_wp2_with fail
    go_ret2
    exact ⟨by rw [HE.out, HN.out]; rfl, HB2.out⟩
  | true =>
    rw [if_neg (by decide)] at hE
    by_cases q : knownE t kC = 0
    · rw [if_neg (fun h => h q)] at hE
      obtain ⟨R, hR⟩ : ∃ R, R = readL t kC := ⟨_, rfl⟩
      obtain ⟨L, hL⟩ : ∃ L, L = R.length := ⟨_, rfl⟩
      have hLl : L ≤ 4194304 := by
        rw [hL, hR]; unfold readL
        rw [if_pos q, fileAt_b]; exact (fileAt_ok HT.out.okr kC).2
      rw [← hR] at hE hN
      obtain ⟨V, hV⟩ : ∃ V, V = valL (R.take 8) := ⟨_, rfl⟩
      rw [← hV] at hN
      have hVl : V < 18446744073709551616 := by rw [hV]; exact valL_lt _
      have hg : goodL R = (contentL V == R) := by unfold goodL; rw [hV]
      obtain ⟨G, hG⟩ : ∃ G, G = (contentL V == R) := ⟨_, rfl⟩
      rw [hg, ← hG] at hE
      have HE := hid hE
      have HN := hid hN
      have HR := hid hR
      have HL := hid hL
      have HV := hid hV
      have HG := hid hG
      have HQ := hid q
      clear hE hN hR hL hV hG hg q
      go_enter Tryz.func23, Tryz.ntmps23
      go_wp2_with fail
      (with_reducible refine (HT.out.thereR hn kC).mono ?_)
      rintro e w2 ⟨rfl, hB2⟩
      rw [← HB.out]
      have T2 := hid (HT.out.below' hB2)
      have HB2 := hid hB2
      clear hB2
      go_wp2_with fail
      (with_reducible refine (T2.out.readR hn kC (by decide)).mono ?_)
      rintro e w3 ⟨v3, rfl, ho3, hB3⟩
      rw [HQ.out]
      rw [← HR.out, ← HL.out] at ho3
      obtain ⟨q3, c3, rfl, hc3, _, _⟩ := own_shape ho3
      have HO3 := hid (Fr.of_own ho3).rd
      have HB3 := hid (HB2.out.trans (hB3.mono HB2.out.size))
      clear ho3 hB3
      go_wp2_with fail
      go_loop [6, 7] (fun a i => ∃ j : Nat, i = .int .i64 j ∧ j ≤ 8 ∧ j ≤ L ∧ a = .int .u64 (valL (R.take j) : Int)) (fun _ i => 8 - (intOf i).toNat)
      case atStart => exact ⟨0, rfl, Nat.zero_le _, Nat.zero_le _, rfl⟩
      case round =>
        obtain ⟨j, rfl, hj, hjL, rfl⟩ := hrel
        have hvl := valL_lt (R.take j)
        by_cases hlt : j < 8 ∧ j < L
        · obtain ⟨h1, h2⟩ := hlt
          have hjl : j < R.length := by rw [← HL.out]; exact h2
          obtain ⟨bb, off, rfl, c0⟩ := HO3.out.cell (k := j) (by simpa using hjl)
          obtain ⟨x, hx⟩ : ∃ x, x = R[j] := ⟨_, rfl⟩
          have c1 : w3.cell? ⟨bb, off + j, none⟩ = some (bv x) := by rw [c0, hx]; simp
          have hst : valL (R.take (j + 1)) = (valL (R.take j) * 256 + x.toNat) % 18446744073709551616 := by
            rw [List.take_succ_eq_append_getElem hjl, valL_snoc, hx]
          obtain ⟨v, hv⟩ : ∃ v, v = valL (R.take j) := ⟨_, rfl⟩
          rw [← hv] at hst hvl ⊢
          have HST := hid hst
          have i0 : (0 : Int) ≤ (j : Int) := by omega
          have i1 : (j : Int) < (L : Int) := by omega
          have i8 : (j : Int) < 8 := by omega
          have hx256 := x.toNat_lt
          unfold bv at c1
          clear c0 hx hst hv
          go_wp2_with fail
          go_round
          case rel => exact ⟨j + 1, by go_num, by omega, by omega, by rw [HST.out]; congr 1; simp only [IntKind.wrap_u64]; omega⟩
          case measure => simp [intOf]; omega
        · have hM : R.take j = R.take 8 := by
            rcases Nat.lt_or_ge j 8 with h | h
            · rw [List.take_of_length_le (by rw [← HL.out]; omega), List.take_of_length_le (by rw [← HL.out]; omega)]
            · rw [show j = 8 by omega]
          rw [hM, ← HV.out]
          have hjx : (j = 8) ∨ (j < 8 ∧ j = L) := by omega
          clear hM hlt hvl
          have hcv : Hid (∀ (w' : World), Below w3.heap.size w3 w' → (convert 32 9 (.slice q3 L c3)).run Tryz.prog w' = .ok (.string ⟨R.toArray⟩) w') := hid (fun w' hb => conv_any w' q3 L c3 R HL.out.symm (HO3.out.below hb))
          rcases hjx with hj8 | ⟨hj8, hjL2⟩
          · subst hj8
            go_upto_region 11 with fail
            have hs : (ByteArray.toList ⟨(contentL V).toArray⟩ == ByteArray.toList ⟨R.toArray⟩) = G := by rw [str_ne, HG.out]
            have h0 := hcv.out w3.drew (Below.refl _ _).drew
            go_cut [42] (fun s42 wc => s42 = .bool (!G) ∧ Below w3.heap.size w3 wc)
            case first =>
              go_region_with (go_at_call 38; refine (bytesR_any V hVl w3.drew).mono ?_; rintro e w5 ⟨v5, rfl, ho5, hb5⟩; have hb5 : Below w3.heap.size w3 w5 := (Below.refl _ _).drew.trans hb5; obtain ⟨q5, c5, rfl, _, _, _⟩ := own_shape ho5; have h5 := conv_any w5 q5 12 c5 (contentL V) (contentL_len V) (Fr.of_own ho5).rd; have h6 := hcv.out w5 hb5; have hb5 := hid hb5; clear ho5)
              all_goals
                go_wp2_with fail
                go_meet
                exact ⟨by rw [HG.out], hb5.out⟩
            obtain ⟨rfl, hb⟩ := hcut
            have HBf := hid (HB3.out.trans (hb.mono HB3.out.size))
            clear hb hs h0
            cases G
            · have HE := hid (show getE t = 13 from HE.out)
              go_wp2_with fail
              go_ret2
              exact ⟨by rw [HN.out, HE.out]; rfl, HBf.out⟩
            · have HE := hid (show getE t = 0 from HE.out)
              go_wp2_with fail
              go_ret2
              exact ⟨by rw [HN.out, HE.out]; rfl, HBf.out⟩
          · have b1 : decide ((j : Int) < (L : Int)) = false := by simp; omega
            have i8 : (j : Int) < 8 := by omega
            go_upto_region 11 with fail
            have hs : (ByteArray.toList ⟨(contentL V).toArray⟩ == ByteArray.toList ⟨R.toArray⟩) = G := by rw [str_ne, HG.out]
            have h0 := hcv.out w3.drew (Below.refl _ _).drew
            go_cut [42] (fun s42 wc => s42 = .bool (!G) ∧ Below w3.heap.size w3 wc)
            case first =>
              go_region_with (go_at_call 38; refine (bytesR_any V hVl w3.drew).mono ?_; rintro e w5 ⟨v5, rfl, ho5, hb5⟩; have hb5 : Below w3.heap.size w3 w5 := (Below.refl _ _).drew.trans hb5; obtain ⟨q5, c5, rfl, _, _, _⟩ := own_shape ho5; have h5 := conv_any w5 q5 12 c5 (contentL V) (contentL_len V) (Fr.of_own ho5).rd; have h6 := hcv.out w5 hb5; have hb5 := hid hb5; clear ho5)
              all_goals
                go_wp2_with fail
                go_meet
                exact ⟨by rw [HG.out], hb5.out⟩
            obtain ⟨rfl, hb⟩ := hcut
            have HBf := hid (HB3.out.trans (hb.mono HB3.out.size))
            clear hb hs h0
            cases G
            · have HE := hid (show getE t = 13 from HE.out)
              go_wp2_with fail
              go_ret2
              exact ⟨by rw [HN.out, HE.out]; rfl, HBf.out⟩
            · have HE := hid (show getE t = 0 from HE.out)
              go_wp2_with fail
              go_ret2
              exact ⟨by rw [HN.out, HE.out]; rfl, HBf.out⟩
    · rw [if_pos q] at hE
      rw [hE, if_neg q] at hN
      have HE := hid hE
      have HN := hid hN
      have b1 : (knownE t kC != 0) = true := by simpa using q
      clear hE hN q
      go_enter Tryz.func23, Tryz.ntmps23
      go_wp2_with fail
      (with_reducible refine (HT.out.thereR hn kC).mono ?_)
      rintro e w2 ⟨rfl, hB2⟩
      rw [← HB.out]
      have T2 := hid (HT.out.below' hB2)
      have HB2 := hid hB2
      clear hB2
      go_wp2_with fail
      (with_reducible refine (T2.out.readR hn kC (by decide)).mono ?_)
      rintro e w3 ⟨v3, rfl, _, hB3⟩
      have HB3 := hid (HB2.out.trans (hB3.mono HB2.out.size))
      clear hB3
      go_wp2_with fail
      go_ret2
      exact ⟨by rw [HE.out, HN.out]; rfl, HB3.out⟩
end Go.Proofs.Herb
