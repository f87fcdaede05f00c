/- The contracts of the pointer's reference: bytes, there, Set, Get. For a disk and the reference's as Two says. The contracts of the pointer reference's Set. For a disk and the reference's as Two says. (printed by gen_rst.py) -/
import Derived.Test.YtgijklclfdfidaaGreatTwo
import Derived.Test.YtgijklclfdfidaaGreatRsu
import Derived.Test.YtgijklclfdfidaaGreatCurS
import Derived.Test.YtgijklclfdfidaaGreatCurG
namespace Go.Proofs.Herb
open Go.RowKit
set_option maxRecDepth 100000 in
set_option maxHeartbeats 3200000 in
theorem bytesR_any (n : Nat) (_hn : n < 18446744073709551616) (w : World) :
    Calls Tryz.prog 38 #[.int .u64 (n : Int)] w fun e w' => ∃ v, e = .returned v ∧ w'.ownsRow w.heap.size 5 1 v 12 ((contentL n).map bv) ∧ Below w.heap.size w w' := by
  go_enter Tryz.func38, Tryz.ntmps38
  go_wp2_with fail
  go_loopw [3, 4] (fun v i wr => ∃ j : Nat, i = .int .i64 j ∧ j ≤ 8 ∧ wr.ownsRow w.heap.size 5 1 v j (((bigL n 8).take j).map bv) ∧ Below w.heap.size w wr) (fun _ i _ => 8 - (intOf i).toNat)
  case atStart => exact ⟨0, rfl, Nat.zero_le _, World.ownsRow_nil _ _ _ _, Below.refl _ _⟩
  case round =>
    obtain ⟨j, rfl, hj, hown, hb⟩ := hrel
    have HO := hid hown
    have HB := hid hb
    obtain ⟨q, c, rfl, hqc, hcm, hqn⟩ := own_shape hown
    clear hown hb
    by_cases hlt : j < 8
    · have i0 : (0 : Int) ≤ 56 - 8 * (j : Int) := by omega
      go_wp2_with (refine wpList_append_rd rfl (.tmp 11) (.tmp 19) 32 rfl w.heap.size 5 _ 1 1 Tryz.underlying32 infoU8 rfl (by decide) (.slice q _ c) _ _ rfl (own_below HO.out ((Below.refl wr.heap.size wr).alloc (Nat.le_refl _) _)) (some ⟨wr.heap.size, 0, none⟩) 1 1 _ rfl (fun h => by cases h) rfl (Rd.new _ _ _) (by simp [Value.oneCell']) (by unfold maxLen; omega) (by omega) (by simp; have := HB.out.size; omega) ?_; intro v3 w3 hown3 hg3 _)
      have HG := hid hg3
      have HW := hid hown3
      clear hg3 hown3
      go_roundw
      case rel => exact ⟨j + 1, by go_num, by omega, own_congr HW.out rfl (by rw [big_step hlt, show 56 - 8 * j = 8 * (8 - 1 - j) by omega]), (HB.out.alloc HB.out.size _).grown HG.out (by simp; have := HB.out.size; omega) (fun k hk => (HO.out.lt k hk).1)⟩
      case measure => simp [intOf]; omega
    · have hjN : j = 8 := by omega
      subst hjN
      have ho := HO.out
      rw [List.take_of_length_le (by rw [bigL_len]; exact Nat.le_refl _)] at ho
      have HO := hid ho
      obtain ⟨C, hC⟩ : ∃ C, C = (crcMore 0#32 (bigL n 8)).toNat := ⟨_, rfl⟩
      have hCl : C < 4294967296 := by rw [hC]; exact (crcMore 0 (bigL n 8)).isLt
      have HCe := hid hC
      clear ho
      go_wp2_with (go_at_call 70; refine (ref_of q 8 c (bigL n 8) wr (bigL_len n 8) (by omega) (Fr.of_own HO.out).rd).mono ?_; rintro e w1 ⟨rfl, rfl⟩)
      clear hC
      rename_i hx
      obtain ⟨w5, hw5⟩ : ∃ w5 : World, w5 = wr := ⟨_, rfl⟩
      have HO5 := hid HO.out
      have HB5 := hid HB.out
      rw [← hw5] at HO5 HB5 ⊢
      clear hw5 HO HB
      go_loopw [3, 6] (fun v i wr => ∃ j : Nat, i = .int .i64 j ∧ j ≤ 4 ∧ wr.ownsRow w.heap.size 5 1 v (8 + j) ((bigL n 8).map bv ++ ((bigL C 4).take j).map bv) ∧ Below w.heap.size w wr) (fun _ i _ => 4 - (intOf i).toNat)
      case atStart => exact ⟨0, rfl, Nat.zero_le _, by simpa using HO5.out, HB5.out⟩
      case round =>
        obtain ⟨j, rfl, hj, hown, hb⟩ := hrel
        have HO := hid hown
        have HB := hid hb
        obtain ⟨q, c, rfl, hqc, hcm, hqn⟩ := own_shape hown
        clear hown hb
        by_cases hlt : j < 4
        · have i0 : (0 : Int) ≤ 24 - 8 * (j : Int) := by omega
          go_wp2_with (refine wpList_append_rd rfl (.tmp 27) (.tmp 35) 32 rfl w.heap.size 5 _ 1 1 Tryz.underlying32 infoU8 rfl (by decide) (.slice q _ c) _ _ rfl (own_below HO.out ((Below.refl wr.heap.size wr).alloc (Nat.le_refl _) _)) (some ⟨wr.heap.size, 0, none⟩) 1 1 _ rfl (fun h => by cases h) rfl (Rd.new _ _ _) (by simp [Value.oneCell']) (by unfold maxLen; omega) (by omega) (by simp; have := HB.out.size; omega) ?_; intro v3 w3 hown3 hg3 _)
          have HG := hid hg3
          have HW := hid hown3
          clear hg3 hown3
          go_roundw
          case rel => exact ⟨j + 1, by go_num, by omega, own_congr HW.out rfl (by rw [big_step hlt, show 24 - 8 * j = 8 * (4 - 1 - j) by omega, List.append_assoc, ← HCe.out]), (HB.out.alloc HB.out.size _).grown HG.out (by simp; have := HB.out.size; omega) (fun k hk => (HO.out.lt k hk).1)⟩
          case measure => simp [intOf]; omega
        · have hjN : j = 4 := by omega
          subst hjN
          go_wp2_with fail
          go_ret
          refine ⟨_, rfl, own_congr HO.out rfl ?_, HB.out⟩
          rw [List.take_of_length_le (by rw [bigL_len]; exact Nat.le_refl _), contentL, List.map_append, HCe.out]
          rfl
theorem ents_none {d : Dir} {k : ByteArray} (h : ∀ e ∈ entsOf d, e.1 ≠ k) : look d k = none := by
  cases hl : look d k with
  | none => rfl
  | some v => exact absurd rfl (h (k, v) (mem_entsOf.2 hl))
set_option maxRecDepth 100000 in
set_option maxHeartbeats 800000 in
theorem Two.thereR {I : Nat → Prop} {w0 w : World} {md : DM} {s t : DS} {mr : RM} {n : Nat} (T : Two I w0 w md s mr t n) (hn : n ≤ 900000) (k : ByteArray) :
    Calls Tryz.prog 37 #[.pointer (some ⟨mr.D, 0, none⟩), .string k] w fun e w' => e = .returned (.bool (look t.names k).isSome) ∧ Below w.heap.size w w' := by
  obtain ⟨l, hl⟩ : ∃ l, l = entsOf t.names := ⟨_, rfl⟩
  obtain ⟨N, hN⟩ : ∃ N, N = t.names.length := ⟨_, rfl⟩
  have hln : l.length = N := by rw [hl, hN, entsOf_len]
  have hNb : N ≤ 1000000 := by have := T.okr.good.many; omega
  have Hl := hid hl
  have HN := hid hN
  have Hln := hid hln
  have HT := hid T
  clear hl hN hln T
  go_enter Tryz.func37, Tryz.ntmps37
  go_wp2_with (go_at_call 69; refine (HT.out.listR hn).mono ?_; rintro e w2 ⟨v, rfl, ho, hB⟩; rw [← Hl.out, ← HN.out] at ho; obtain ⟨q, c, rfl, _, _, _⟩ := own_shape ho; have ho := hid ho; have hB := hid hB)
  go_loop [6] (fun i => ∃ j : Nat, j ≤ N ∧ i = .int .i64 j ∧ ∀ e ∈ l.take j, e.1 ≠ k) (fun i => N - (intOf i).toNat)
  case atStart => exact ⟨0, Nat.zero_le _, rfl, by simp⟩
  case round =>
    obtain ⟨j, hj, rfl, hk⟩ := hrel
    have HK := hid hk
    clear hk
    by_cases hlt : j < N
    · have hjl : j < l.length := by rw [Hln.out]; exact hlt
      obtain ⟨b, off, rfl, c0⟩ := (Fr.of_own ho.out).rd.cell (k := j) (by simpa [textE] using hjl)
      obtain ⟨p, hp⟩ : ∃ p, p = l[j].1 := ⟨_, rfl⟩
      have c1 : w2.cell? ⟨b, off + j, none⟩ = some (.string p) := by rw [c0, hp]; simp [textE]
      have i0 : (0 : Int) ≤ (j : Int) := by omega
      have i1 : (j : Int) < (N : Int) := by omega
      have HP := hid hp
      clear c0 hp
      by_cases hpk : p = k
      · have hbb := seq hpk
        have hsome : (look t.names k).isSome = true := by
          have hm : l[j] ∈ entsOf t.names := by rw [← Hl.out]; exact List.getElem_mem hjl
          have h2 := mem_entsOf.1 hm
          rw [← HP.out, hpk] at h2
          rw [h2]; rfl
        have HS := hid hsome
        clear hpk hsome
        go_wp2_with fail
        go_ret
        exact ⟨by rw [HS.out]; rfl, hB.out⟩
      · have hbb := sne hpk
        have hnx : ∀ e ∈ l.take (j + 1), e.1 ≠ k := by
          intro e he
          rw [List.take_succ_eq_append_getElem hjl, List.mem_append] at he
          rcases he with he | he
          · exact HK.out e he
          · rcases List.mem_singleton.1 he with rfl
            rw [← HP.out]; exact hpk
        have HX := hid hnx
        clear hnx hpk
        go_wp2_with fail
        go_round
        case rel => exact ⟨j + 1, by omega, by go_num, HX.out⟩
        case measure => simp [intOf]; omega
    · have hno : look t.names k = none := by
        refine ents_none fun e he => ?_
        have := HK.out
        rw [List.take_of_length_le (by rw [Hln.out]; omega), Hl.out] at this
        exact this e he
      have HX := hid hno
      clear hno
      go_wp2_with fail
      go_ret
      exact ⟨by rw [HX.out]; rfl, hB.out⟩
end Go.Proofs.Herb
namespace Go.Proofs.Herb
open Go.RowKit
theorem known9 (s : DS) (k : ByteArray) : knownE s k ≠ 9 := by
  rcases known_cases s k with ⟨_, e⟩ | ⟨_, _, e⟩ | ⟨_, _, _, e⟩ | ⟨_, _, _, e⟩ <;> rw [e] <;> decide
theorem lets9 (s : DS) : letsE s ≠ 9 := by unfold letsE; split <;> decide
theorem step9 (b : List UInt8) (j : Nat) (s : DS) (hj : j ≠ 4) : stepE b j s ≠ 9 := by
  unfold stepE
  split
  · unfold removeE; split; exact known9 _ _; exact lets9 _
  · unfold createE; split; decide; split; exact known9 _ _; split; decide; exact lets9 _
  · exact absurd rfl hj
  · unfold syncE; split; exact known9 _ _; exact lets9 _
  · unfold renameE; split
    · unfold renE; split; decide; exact known9 _ _
    · exact lets9 _
  · unfold syncDirE; split
    · unfold aliveE; split <;> decide
    · exact lets9 _
  · decide
theorem run_bad {b : List UInt8} {j : Nat} {S : DS} (hj : j + 1 ≠ 4) (h : stepE b (j + 1) S ≠ 0) : runE b (j + 1) S = stepE b (j + 1) S ∧ runS b (j + 1) S = stepS b (j + 1) S := by
  have := run_no h
  rwa [if_neg (step9 b (j + 1) S hj)] at this
set_option maxRecDepth 100000 in
set_option maxHeartbeats 1600000 in
theorem Two.setR {I : Nat → Prop} {w0 w : World} {md : DM} {s t : DS} {mr : RM} {n : Nat} (T : Two I w0 w md s mr t n) (hn : n ≤ 800000) (N : Nat) (hN : N < 18446744073709551616) :
    Calls Tryz.prog 8 #[.pointer (some ⟨mr.D, 0, none⟩), .int .u64 (N : Int)] w fun e w' => ∃ mr', e = .returned (.int .i64 (setE t N)) ∧ mr'.D = mr.D ∧ Two I w0 w' md s mr' (setS t N) (n + 13) := by
  obtain ⟨b, hb⟩ : ∃ b, b = contentL N := ⟨_, rfl⟩
  have hb12 : b.length = 12 := by rw [hb]; exact contentL_len N
  have hE : setE t N = runE b (if (look t.names kD).isSome then 6 else 5) t := by rw [hb]; rfl
  have hS : setS t N = runS b (if (look t.names kD).isSome then 6 else 5) t := by rw [hb]; rfl
  have HT := hid T
  have HBb := hid hb
  clear T hb
  cases hi : (look t.names kD).isSome
  · rw [hi, if_neg (show ¬ (false = true) by decide)] at hE hS
    have HE := hid hE
    have HS := hid hS
    have Hi := hid hi
    clear hE hS hi
    go_enter Tryz.func8, Tryz.ntmps8
    go_wp2_with fail
    (with_reducible refine (HT.out.thereR (by omega) kD).mono ?_)
    rintro e w6 ⟨rfl, hB⟩
    rw [Hi.out]
    obtain ⟨t6, ht6⟩ : ∃ t6, t6 = t := ⟨_, rfl⟩
    have HE := hid (show setE t N = runE b 5 t6 by rw [ht6]; exact HE.out)
    have HS := hid (show setS t N = runS b 5 t6 by rw [ht6]; exact HS.out)
    have T6 := hid (show Two I w0 w6 md s mr t6 (n + 1) by rw [ht6]; exact (HT.out.below' hB).mono (by omega))
    obtain ⟨mr6, hm6⟩ : ∃ mr6, mr6 = mr := ⟨_, rfl⟩
    rw [← hm6] at T6
    have D6 : Hid (mr6.D = mr.D) := hid (by rw [hm6])
    have E6 := D6
    clear ht6 hB hm6
    go_wp2_with fail
    rw [← D6.out]
    (with_reducible refine (T6.out.createR (by omega) kD (by decide)).mono ?_)
    rintro e w5 ⟨mr5, rfl, hd, ht⟩
    have D5 := hid hd
    have E5 := hid (hd.trans E6.out)
    have T5 := hid ht
    clear hd ht
    by_cases q5 : createE t6 kD = 0
    · have hr := run_ok (b := b) (j := 4) (S := t6) q5
      have hE2 := HE.out.trans hr.1
      have hS2 := HS.out.trans hr.2
      rw [q5]
      obtain ⟨t5, ht5⟩ : ∃ t5, t5 = createS t6 kD := ⟨_, rfl⟩
      have h5 : stepS b (4 + 1) t6 = t5 := ht5.symm
      rw [h5] at hE2 hS2
      rw [← ht5] at T5
      have HE := hid hE2
      have HS := hid hS2
      clear q5 hr h5 ht5 hE2 hS2
      go_wp2_with fail
      (with_reducible refine (bytesR_any N hN w5).mono ?_)
      rintro e w8 ⟨v8, rfl, ho8, hb8⟩
      rw [← HBb.out] at ho8
      have Ho8 := hid ho8
      have Hb8 := hid hb8
      clear ho8 hb8
      go_wp2_with fail
      rw [← D5.out]
      (with_reducible refine (T5.out.appendR' Hb8.out (by omega) kD (by decide) v8 b 12 hb12 Ho8.out (by decide)).mono ?_)
      rintro e w4 ⟨mr4, rfl, hd, ht⟩
      have D4 := hid hd
      have E4 := hid (hd.trans E5.out)
      have T4 := hid ht
      clear hd ht
      by_cases q4 : appendE t5 kD b = 0
      · have hr := run_ok (b := b) (j := 3) (S := t5) q4
        have hE2 := HE.out.trans hr.1
        have hS2 := HS.out.trans hr.2
        rw [q4]
        obtain ⟨t4, ht4⟩ : ∃ t4, t4 = appendS t5 kD b := ⟨_, rfl⟩
        have h4 : stepS b (3 + 1) t5 = t4 := ht4.symm
        rw [h4] at hE2 hS2
        rw [← ht4] at T4
        have HE := hid hE2
        have HS := hid hS2
        clear q4 hr h4 ht4 hE2 hS2
        go_wp2_with fail
        rw [← D4.out]
        (with_reducible refine (T4.out.syncR (by omega) kD (by decide)).mono ?_)
        rintro e w3 ⟨mr3, rfl, hd, ht⟩
        have D3 := hid hd
        have E3 := hid (hd.trans E4.out)
        have T3 := hid ht
        clear hd ht
        by_cases q3 : syncE t4 kD = 0
        · have hr := run_ok (b := b) (j := 2) (S := t4) q3
          have hE2 := HE.out.trans hr.1
          have hS2 := HS.out.trans hr.2
          rw [q3]
          obtain ⟨t3, ht3⟩ : ∃ t3, t3 = syncS t4 kD := ⟨_, rfl⟩
          have h3 : stepS b (2 + 1) t4 = t3 := ht3.symm
          rw [h3] at hE2 hS2
          rw [← ht3] at T3
          have HE := hid hE2
          have HS := hid hS2
          clear q3 hr h3 ht3 hE2 hS2
          go_wp2_with fail
          rw [← D3.out]
          (with_reducible refine (T3.out.renameR (by omega) kD kC (by decide) (by decide)).mono ?_)
          rintro e w2 ⟨mr2, rfl, hd, ht⟩
          have D2 := hid hd
          have E2 := hid (hd.trans E3.out)
          have T2 := hid ht
          clear hd ht
          by_cases q2 : renameE t3 kD kC = 0
          · have hr := run_ok (b := b) (j := 1) (S := t3) q2
            have hE2 := HE.out.trans hr.1
            have hS2 := HS.out.trans hr.2
            rw [q2]
            obtain ⟨t2, ht2⟩ : ∃ t2, t2 = renameS t3 kD kC := ⟨_, rfl⟩
            have h2 : stepS b (1 + 1) t3 = t2 := ht2.symm
            rw [h2] at hE2 hS2
            rw [← ht2] at T2
            have HE := hid hE2
            have HS := hid hS2
            clear q2 hr h2 ht2 hE2 hS2
            go_wp2_with fail
            rw [← D2.out]
            (with_reducible refine (T2.out.syncDirR (by omega)).mono ?_)
            rintro e w1 ⟨mr1, rfl, hd, ht⟩
            have D1 := hid hd
            have E1 := hid (hd.trans E2.out)
            have T1 := hid ht
            clear hd ht
            have hfin : setE t N = syncDirE t2 ∧ setS t N = syncDirT t2 := by
              by_cases q1 : syncDirE t2 = 0
              · have hr := run_ok (b := b) (j := 0) (S := t2) q1
                exact ⟨(HE.out.trans hr.1).trans q1.symm, HS.out.trans hr.2⟩
              · have hr := run_bad (b := b) (j := 0) (S := t2) (by decide) q1
                exact ⟨HE.out.trans hr.1, HS.out.trans hr.2⟩
            have Hfin := hid hfin
            clear hfin
            go_wp2_with fail
            go_ret
            exact ⟨mr1, by rw [Hfin.out.1]; rfl, E1.out, by rw [Hfin.out.2]; exact T1.out.mono (by omega)⟩
          · have hr := run_bad (b := b) (j := 1) (S := t3) (by decide) q2
            have hE2 : setE t N = renameE t3 kD kC := HE.out.trans hr.1
            have hS2 : setS t N = stepS b 2 t3 := HS.out.trans hr.2
            have b2 : (renameE t3 kD kC != 0) = true := by simpa using q2
            have HE2 := hid hE2
            have HS2 := hid hS2
            clear q2 hr hE2 hS2
            go_wp2_with fail
            go_ret
            exact ⟨mr2, by rw [HE2.out]; rfl, E2.out, by rw [HS2.out]; exact T2.out.mono (by omega)⟩
        · have hr := run_bad (b := b) (j := 2) (S := t4) (by decide) q3
          have hE2 : setE t N = syncE t4 kD := HE.out.trans hr.1
          have hS2 : setS t N = stepS b 3 t4 := HS.out.trans hr.2
          have b3 : (syncE t4 kD != 0) = true := by simpa using q3
          have HE2 := hid hE2
          have HS2 := hid hS2
          clear q3 hr hE2 hS2
          go_wp2_with fail
          go_ret
          exact ⟨mr3, by rw [HE2.out]; rfl, E3.out, by rw [HS2.out]; exact T3.out.mono (by omega)⟩
      · have hr := run_no (b := b) (j := 3) (S := t5) q4
        have hE2 : setE t N = appendE t5 kD b := HE.out.trans hr.1
        have hS2 : setS t N = if appendE t5 kD b = 9 then removeS (appendS t5 kD b) kD else appendS t5 kD b := HS.out.trans hr.2
        have b4 : (appendE t5 kD b != 0) = true := by simpa using q4
        have HE2 := hid hE2
        clear hr hE2
        by_cases q9 : appendE t5 kD b = 9
        · rw [if_pos q9] at hS2
          have HS2 := hid hS2
          have Q9 := hid q9
          rw [q9]
          clear q4 q9 b4 hS2
          go_wp2_with fail
          rw [← D4.out]
          (with_reducible refine (T4.out.removeR (by omega) kD (by decide)).mono ?_)
          rintro e w3 ⟨mr3, rfl, hd, ht⟩
          have D3 := hid hd
          have E3 := hid (hd.trans E4.out)
          have T3 := hid ht
          clear hd ht
          go_wp2_with fail
          go_ret
          exact ⟨mr3, by rw [HE2.out, Q9.out]; rfl, E3.out, by rw [HS2.out]; exact T3.out.mono (by omega)⟩
        · rw [if_neg q9] at hS2
          have HS2 := hid hS2
          have b9 : (appendE t5 kD b == 9) = false := by simpa using q9
          clear q4 q9 hS2
          go_wp2_with fail
          go_ret
          exact ⟨mr4, by rw [HE2.out]; rfl, E4.out, by rw [HS2.out]; exact T4.out.mono (by omega)⟩
    · have hr := run_bad (b := b) (j := 4) (S := t6) (by decide) q5
      have hE2 : setE t N = createE t6 kD := HE.out.trans hr.1
      have hS2 : setS t N = stepS b 5 t6 := HS.out.trans hr.2
      have b5 : (createE t6 kD != 0) = true := by simpa using q5
      have HE2 := hid hE2
      have HS2 := hid hS2
      clear q5 hr hE2 hS2
      go_wp2_with fail
      go_ret
      exact ⟨mr5, by rw [HE2.out]; rfl, E5.out, by rw [HS2.out]; exact T5.out.mono (by omega)⟩
  · rw [hi, if_pos (show (true = true) by rfl)] at hE hS
    have Hi := hid hi
    clear hi
    go_enter Tryz.func8, Tryz.ntmps8
    go_wp2_with fail
    (with_reducible refine (HT.out.thereR (by omega) kD).mono ?_)
    rintro e w7 ⟨rfl, hB⟩
    rw [Hi.out]
    have T7 := hid (HT.out.below' hB)
    clear hB
    go_wp2_with fail
    (with_reducible refine (T7.out.removeR (by omega) kD (by decide)).mono ?_)
    rintro e w6 ⟨mr6, rfl, hd, ht⟩
    have D6 := hid hd
    have E6 := D6
    by_cases q6 : removeE t kD = 0
    · have hr := run_ok (b := b) (j := 5) (S := t) q6
      rw [hr.1] at hE
      rw [hr.2] at hS
      rw [q6]
      obtain ⟨t6, ht6⟩ : ∃ t6, t6 = removeS t kD := ⟨_, rfl⟩
      have h6 : stepS b (5 + 1) t = t6 := ht6.symm
      rw [h6] at hE hS
      rw [← ht6] at ht
      have T6 := hid ht
      have HE := hid hE
      have HS := hid hS
      clear hE hS ht hd q6 hr h6 ht6
      go_wp2_with fail
      rw [← D6.out]
      (with_reducible refine (T6.out.createR (by omega) kD (by decide)).mono ?_)
      rintro e w5 ⟨mr5, rfl, hd, ht⟩
      have D5 := hid hd
      have E5 := hid (hd.trans E6.out)
      have T5 := hid ht
      clear hd ht
      by_cases q5 : createE t6 kD = 0
      · have hr := run_ok (b := b) (j := 4) (S := t6) q5
        have hE2 := HE.out.trans hr.1
        have hS2 := HS.out.trans hr.2
        rw [q5]
        obtain ⟨t5, ht5⟩ : ∃ t5, t5 = createS t6 kD := ⟨_, rfl⟩
        have h5 : stepS b (4 + 1) t6 = t5 := ht5.symm
        rw [h5] at hE2 hS2
        rw [← ht5] at T5
        have HE := hid hE2
        have HS := hid hS2
        clear q5 hr h5 ht5 hE2 hS2
        go_wp2_with fail
        (with_reducible refine (bytesR_any N hN w5).mono ?_)
        rintro e w8 ⟨v8, rfl, ho8, hb8⟩
        rw [← HBb.out] at ho8
        have Ho8 := hid ho8
        have Hb8 := hid hb8
        clear ho8 hb8
        go_wp2_with fail
        rw [← D5.out]
        (with_reducible refine (T5.out.appendR' Hb8.out (by omega) kD (by decide) v8 b 12 hb12 Ho8.out (by decide)).mono ?_)
        rintro e w4 ⟨mr4, rfl, hd, ht⟩
        have D4 := hid hd
        have E4 := hid (hd.trans E5.out)
        have T4 := hid ht
        clear hd ht
        by_cases q4 : appendE t5 kD b = 0
        · have hr := run_ok (b := b) (j := 3) (S := t5) q4
          have hE2 := HE.out.trans hr.1
          have hS2 := HS.out.trans hr.2
          rw [q4]
          obtain ⟨t4, ht4⟩ : ∃ t4, t4 = appendS t5 kD b := ⟨_, rfl⟩
          have h4 : stepS b (3 + 1) t5 = t4 := ht4.symm
          rw [h4] at hE2 hS2
          rw [← ht4] at T4
          have HE := hid hE2
          have HS := hid hS2
          clear q4 hr h4 ht4 hE2 hS2
          go_wp2_with fail
          rw [← D4.out]
          (with_reducible refine (T4.out.syncR (by omega) kD (by decide)).mono ?_)
          rintro e w3 ⟨mr3, rfl, hd, ht⟩
          have D3 := hid hd
          have E3 := hid (hd.trans E4.out)
          have T3 := hid ht
          clear hd ht
          by_cases q3 : syncE t4 kD = 0
          · have hr := run_ok (b := b) (j := 2) (S := t4) q3
            have hE2 := HE.out.trans hr.1
            have hS2 := HS.out.trans hr.2
            rw [q3]
            obtain ⟨t3, ht3⟩ : ∃ t3, t3 = syncS t4 kD := ⟨_, rfl⟩
            have h3 : stepS b (2 + 1) t4 = t3 := ht3.symm
            rw [h3] at hE2 hS2
            rw [← ht3] at T3
            have HE := hid hE2
            have HS := hid hS2
            clear q3 hr h3 ht3 hE2 hS2
            go_wp2_with fail
            rw [← D3.out]
            (with_reducible refine (T3.out.renameR (by omega) kD kC (by decide) (by decide)).mono ?_)
            rintro e w2 ⟨mr2, rfl, hd, ht⟩
            have D2 := hid hd
            have E2 := hid (hd.trans E3.out)
            have T2 := hid ht
            clear hd ht
            by_cases q2 : renameE t3 kD kC = 0
            · have hr := run_ok (b := b) (j := 1) (S := t3) q2
              have hE2 := HE.out.trans hr.1
              have hS2 := HS.out.trans hr.2
              rw [q2]
              obtain ⟨t2, ht2⟩ : ∃ t2, t2 = renameS t3 kD kC := ⟨_, rfl⟩
              have h2 : stepS b (1 + 1) t3 = t2 := ht2.symm
              rw [h2] at hE2 hS2
              rw [← ht2] at T2
              have HE := hid hE2
              have HS := hid hS2
              clear q2 hr h2 ht2 hE2 hS2
              go_wp2_with fail
              rw [← D2.out]
              (with_reducible refine (T2.out.syncDirR (by omega)).mono ?_)
              rintro e w1 ⟨mr1, rfl, hd, ht⟩
              have D1 := hid hd
              have E1 := hid (hd.trans E2.out)
              have T1 := hid ht
              clear hd ht
              have hfin : setE t N = syncDirE t2 ∧ setS t N = syncDirT t2 := by
                by_cases q1 : syncDirE t2 = 0
                · have hr := run_ok (b := b) (j := 0) (S := t2) q1
                  exact ⟨(HE.out.trans hr.1).trans q1.symm, HS.out.trans hr.2⟩
                · have hr := run_bad (b := b) (j := 0) (S := t2) (by decide) q1
                  exact ⟨HE.out.trans hr.1, HS.out.trans hr.2⟩
              have Hfin := hid hfin
              clear hfin
              go_wp2_with fail
              go_ret
              exact ⟨mr1, by rw [Hfin.out.1]; rfl, E1.out, by rw [Hfin.out.2]; exact T1.out.mono (by omega)⟩
            · have hr := run_bad (b := b) (j := 1) (S := t3) (by decide) q2
              have hE2 : setE t N = renameE t3 kD kC := HE.out.trans hr.1
              have hS2 : setS t N = stepS b 2 t3 := HS.out.trans hr.2
              have b2 : (renameE t3 kD kC != 0) = true := by simpa using q2
              have HE2 := hid hE2
              have HS2 := hid hS2
              clear q2 hr hE2 hS2
              go_wp2_with fail
              go_ret
              exact ⟨mr2, by rw [HE2.out]; rfl, E2.out, by rw [HS2.out]; exact T2.out.mono (by omega)⟩
          · have hr := run_bad (b := b) (j := 2) (S := t4) (by decide) q3
            have hE2 : setE t N = syncE t4 kD := HE.out.trans hr.1
            have hS2 : setS t N = stepS b 3 t4 := HS.out.trans hr.2
            have b3 : (syncE t4 kD != 0) = true := by simpa using q3
            have HE2 := hid hE2
            have HS2 := hid hS2
            clear q3 hr hE2 hS2
            go_wp2_with fail
            go_ret
            exact ⟨mr3, by rw [HE2.out]; rfl, E3.out, by rw [HS2.out]; exact T3.out.mono (by omega)⟩
        · have hr := run_no (b := b) (j := 3) (S := t5) q4
          have hE2 : setE t N = appendE t5 kD b := HE.out.trans hr.1
          have hS2 : setS t N = if appendE t5 kD b = 9 then removeS (appendS t5 kD b) kD else appendS t5 kD b := HS.out.trans hr.2
          have b4 : (appendE t5 kD b != 0) = true := by simpa using q4
          have HE2 := hid hE2
          clear hr hE2
          by_cases q9 : appendE t5 kD b = 9
          · rw [if_pos q9] at hS2
            have HS2 := hid hS2
            have Q9 := hid q9
            rw [q9]
            clear q4 q9 b4 hS2
            go_wp2_with fail
            rw [← D4.out]
            (with_reducible refine (T4.out.removeR (by omega) kD (by decide)).mono ?_)
            rintro e w3 ⟨mr3, rfl, hd, ht⟩
            have D3 := hid hd
            have E3 := hid (hd.trans E4.out)
            have T3 := hid ht
            clear hd ht
            go_wp2_with fail
            go_ret
            exact ⟨mr3, by rw [HE2.out, Q9.out]; rfl, E3.out, by rw [HS2.out]; exact T3.out.mono (by omega)⟩
          · rw [if_neg q9] at hS2
            have HS2 := hid hS2
            have b9 : (appendE t5 kD b == 9) = false := by simpa using q9
            clear q4 q9 hS2
            go_wp2_with fail
            go_ret
            exact ⟨mr4, by rw [HE2.out]; rfl, E4.out, by rw [HS2.out]; exact T4.out.mono (by omega)⟩
      · have hr := run_bad (b := b) (j := 4) (S := t6) (by decide) q5
        have hE2 : setE t N = createE t6 kD := HE.out.trans hr.1
        have hS2 : setS t N = stepS b 5 t6 := HS.out.trans hr.2
        have b5 : (createE t6 kD != 0) = true := by simpa using q5
        have HE2 := hid hE2
        have HS2 := hid hS2
        clear q5 hr hE2 hS2
        go_wp2_with fail
        go_ret
        exact ⟨mr5, by rw [HE2.out]; rfl, E5.out, by rw [HS2.out]; exact T5.out.mono (by omega)⟩
    · have hr := run_bad (b := b) (j := 5) (S := t) (by decide) q6
      have hE2 : setE t N = removeE t kD := hE.trans hr.1
      have hS2 : setS t N = removeS t kD := hS.trans hr.2
      have b6 : (removeE t kD != 0) = true := by simpa using q6
      have T6 := hid ht
      have HE := hid hE2
      have HS := hid hS2
      clear hE hS ht hd q6 hr hE2 hS2
      go_wp2_with fail
      go_ret
      exact ⟨mr6, by rw [HE.out]; rfl, E6.out, by rw [HS.out]; exact T6.out.mono (by omega)⟩
end Go.Proofs.Herb
