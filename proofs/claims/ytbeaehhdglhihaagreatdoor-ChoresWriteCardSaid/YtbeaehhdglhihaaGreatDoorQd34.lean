/- The contracts of the reference's Sync and Append. For a disk as RefAt says. (printed by gen_rap.py) The contract of the reference's Rename. For a disk as RefAt says. (printed by gen_rrn.py) What the reference's crash builds, step by step: what holds behind each. No program's step. -/
import Derived.Test.YtbeaehhdglhihaaGreatDoorQd32
namespace Go.Proofs.Herb
open Go.RowKit
theorem setFc_fin (U : Nat → Prop) (m : RM) (r : RS) (j : Nat) (u : Value) (g c : Nat) (bs' : List Value) (files' : List DF) (w1 : World) (D : RefAt w1 U m r)
    (hfv : m.fv = .slice (some ⟨g, 0, none⟩) r.files.length c) (hl : files'.length = r.files.length) (hbl : bs'.length = files'.length) (hc : dfCells bs' files' = (dfCells m.bs r.files).set j u)
    (hx : ∀ (i : Nat) v f, bs'[i]? = some v → files'[i]? = some f → SlU w1 U m.fp v f.b.length (f.b.map bv)) :
    RefAt (w1.setCell ⟨g, j, none⟩ u) U { m with bs := bs' } { r with files := files' } ∧ RMod U w1 (w1.setCell ⟨g, j, none⟩ u) := by
  have hgo : m.fv.ownBlock = some g := by rw [hfv]; rfl
  have hgD : g ≠ m.D := fun e => by
    have := D.nodup; rw [RM.fp, hgo, e] at this; simp at this
  have hgp : ∀ k, m.pv.ownBlock = some k → k ≠ g := fun k hk e => by
    have := D.nodup; rw [RM.fp, hgo, hk, e] at this; simp at this
  have hgf : g ∈ m.fp := by simp [RM.fp, hgo]
  have hk : ∀ k, k ≠ g → (w1.setCell ⟨g, j, none⟩ u).heap[k]? = w1.heap[k]? := fun k h => heap_setCell_other _ _ _ _ h
  have hks : ∀ k, U k → k ∉ m.fp → (w1.setCell ⟨g, j, none⟩ u).heap[k]? = w1.heap[k]? := fun k _ hn => hk k fun e => hn (e ▸ hgf)
  refine ⟨⟨(hk _ (Ne.symm hgD)).trans D.disk, ?_, hbl, fun i v f h1 h2 => (hx i v f h1 h2).keep (fun _ h => h) hks (fun _ _ h => h), own_keep D.past (fun k h => hk k (hgp k h)), D.elen,
    fun i v l h1 h2 => (D.ents i v l h1 h2).keep (fun _ h => h) hks (fun _ _ h => h), D.nodup, D.us, fun k h => by have := D.low k h; simpa using this⟩, ⟨rfl, rfl, rfl, by simp, fun k _ hn => hk k fun e => hn (e ▸ D.us g hgf)⟩⟩
  dsimp only
  rw [hl, hc, hfv]
  refine own_setCell ?_ _ _
  rw [← hfv]
  exact D.files
theorem Rd.rmod {w w' : World} {a : Option Addr} {xs : List Value} {U : Nat → Prop} (h : Rd w a xs) (hm : RMod U w w') (ha : xs ≠ [] → ∀ b off, a = some ⟨b, off, Option.none⟩ → ¬ U b) : Rd w' a xs := by
  by_cases hx : xs = []
  · exact .inl hx
  · rcases h with h | ⟨b, off, rfl, h⟩
    · exact .inl h
    · refine .inr ⟨b, off, rfl, fun j u hu => ?_⟩
      have hc := h j u hu
      rw [← hc]
      exact World.cell?_of_block (hm.block b (World.block_lt_of_cell? w _ hc) (ha hx b off rfl))
theorem RMod.up {U U' : Nat → Prop} {w w' : World} (h : RMod U w w') (hu : ∀ k, U k → U' k) : RMod U' w w' := ⟨h.os, h.tape, h.output, h.size, fun k hk hn => h.block k hk fun e => hn (hu k e)⟩
set_option maxRecDepth 100000 in
set_option maxHeartbeats 1600000 in
theorem syncR_any (U : Nat → Prop) (m : RM) (r : RS) (k : ByteArray) (hk : k.size ≤ maxLen) (w : World) (h : RefAt w U m r) (hg : RGood r) :
    Calls Tryz.prog 45 #[.pointer (some ⟨m.D, 0, none⟩), .string k] w fun e w' => ∃ m', e = .returned (.int .i64 (syncRE r k)) ∧ RefAt w' (upU U w w') m' (syncR r k) ∧ m'.D = m.D ∧ RMod U w w' := by
  have hE : syncRE r k = if knownRE r k ≠ 0 then knownRE r k else burnE r := rfl
  have hS : syncR r k = if knownRE r k ≠ 0 then r else if burnE r ≠ 0 then burnS r else { burnS r with files := r.files.modify (atR r k) fun f => ⟨f.b, f.b.length⟩ } := rfl
  have H := hid h
  have HG := hid hg
  clear h hg
  rcases knownR_cases r k with ⟨q1, hK⟩ | ⟨q1, q2, hK⟩ | ⟨q1, q2, hK⟩
  · rw [if_pos (show knownRE r k ≠ 0 by rw [hK]; exact q1)] at hE hS
    rw [hK] at hE
    have b1 : (callR r k != 0) = true := by simpa using q1
    have hE := hid hE
    have hS := hid hS
    clear hK q1
    go_enter Tryz.func45, Tryz.ntmps45
    go_wp2_with (go_at_call 98; refine (callR_any U m r k hk w H.out).mono ?_; rintro e w1 ⟨rfl, rfl⟩)
    go_ret
    exact ⟨m, by rw [hE.out]; rfl, by rw [hS.out]; exact H.out.upSame, rfl, RMod.refl _ _⟩
  · rw [if_pos (show knownRE r k ≠ 0 by rw [hK]; decide)] at hE hS
    rw [hK] at hE
    have b2 : decide (lookI (nowR r) k < 0) = true := by simpa using q2
    have Q1 := hid q1
    have hE := hid hE
    have hS := hid hS
    clear hK q1 q2
    go_enter Tryz.func45, Tryz.ntmps45
    go_wp2_with (first | (go_at_call 98; refine (callR_any U m r k hk w H.out).mono ?_; rintro e w1 ⟨rfl, rfl⟩; rw [Q1.out]) | (go_at_call 100; with_reducible refine (nowR_any U m r w H.out HG.out.p0).mono ?_; rintro e w2 ⟨v, rfl, _, hs, hB⟩; obtain ⟨q, c, rfl, _, _, _, hrd⟩ := hs.rd; have hrd := hid hrd; have hB := hid hB; have hD2 := hid (H.out.below hB.out); clear hs) | (go_at_call 99; refine (lookR_any q _ c (nowR r) k _ rfl (by have := HG.out.n1; omega) hrd.out).mono ?_; rintro e w3 ⟨rfl, rfl⟩))
    go_ret
    exact ⟨m, by rw [hE.out]; rfl, by rw [hS.out]; exact hD2.out.upSame, rfl, RMod.of_below U hB.out⟩
  · rw [if_neg (show ¬ (knownRE r k ≠ 0) by rw [hK]; decide)] at hE hS
    obtain ⟨i, hL, hat, hi⟩ := look_at HG.out q2
    have HL := hid hL
    have Q1 := hid q1
    have b2 : decide ((i : Int) < 0) = false := by simp
    rw [hat] at hS
    clear hK q1 q2 hL hat
    by_cases q3 : burnE r = 0
    · rw [if_neg (show ¬ (burnE r ≠ 0) from fun h => h q3)] at hS
      rw [q3] at hE
      have hE := hid hE
      have hS := hid hS
      have Q3 := hid q3
      clear q3
      go_enter Tryz.func45, Tryz.ntmps45
      go_upto_region 10 with (first | (go_at_call 98; refine (callR_any U m r k hk w H.out).mono ?_; rintro e w1 ⟨rfl, rfl⟩; rw [Q1.out]) | (go_at_call 100; with_reducible refine (nowR_any U m r w H.out HG.out.p0).mono ?_; rintro e w2 ⟨v, rfl, _, hs, hB⟩; obtain ⟨q, c, rfl, _, _, _, hrd⟩ := hs.rd; have hrd := hid hrd; have hB := hid hB; have hD2 := hid (H.out.below hB.out); clear hs) | (go_at_call 99; refine (lookR_any q _ c (nowR r) k _ rfl (by have := HG.out.n1; omega) hrd.out).mono ?_; rintro e w3 ⟨rfl, rfl⟩; rw [HL.out]) | (go_at_call 101; refine (burnR_any U m r _ hD2.out HG.out.l1 HG.out.l2).mono ?_; rintro e w4 ⟨rfl, hD4, hM4, hz4⟩; rw [Q3.out]; have hD4 := hid hD4; have hM4 := hid hM4; have hz4 := hid hz4))
      refine wp_region_still_tail 14 (by kernel_rfl) (by kernel_rfl) ?_
      simp only [List.take_succ_cons, List.take_zero, List.drop_succ_cons, List.drop_zero]
      change wpStill Tryz.prog _ w4.drew (fun a' => wpList _ _ _ _ a' w4.drew) _ _
      obtain ⟨w6, hw6, hB6⟩ : ∃ w6, w4.drew = w6 ∧ Below w4.heap.size w4 w6 := ⟨_, rfl, (Below.refl _ _).drew⟩
      rw [hw6]
      have hD6 := hD4.out.below hB6
      have HM6 := hid (((RMod.of_below U hB.out).seq hM4.out).seq (RMod.of_below U hB6))
      have hi6 : i < (burnS r).files.length := by rw [burnS_files]; exact hi
      clear hw6 hB6
      obtain ⟨g, cf, q0, k0, cs, hfv, hf1, hf2, hbi, hk1, hk2, hq0, hce, hsu, hsl, hrb, hfr, hgh⟩ := hD6.file hi6
      have d3 := hD6.cells.2.2.2.1
      rw [hfv] at d3
      have f3 := hfr (i * 2 + 1)
      obtain ⟨nb, hnb⟩ : ∃ nb, nb = ((burnS r).files[i]).b.length := ⟨_, rfl⟩
      rw [← hnb] at hce hk1
      obtain ⟨P, hP⟩ : ∃ P, P = (burnS r).files.length := ⟨_, rfl⟩
      rw [← hP] at d3 hf1
      have i0 : (0 : Int) ≤ (i : Int) := by omega
      have i1 : (i : Int) < (P : Int) := by omega
      have HD6 := hid hD6
      have HFv := hid hfv
      have HNb := hid hnb
      clear hfv hbi hrb hsl hgh hD6 hnb hfr hP
      still_step
      still_step
      still_step
      still_step
      still_step
      still_step
      still_step
      still_step
      still_step
      still_step
      still_step
      still_step
      still_step
      still_step
      refine wpStill_nil ?_
      go_wp2
      go_ret
      have hF := setFc_fin U m (burnS r) (i * 2 + 1) (.int .i64 (nb : Int)) g cf m.bs ((burnS r).files.set i ⟨((burnS r).files[i]).b, nb⟩) w6 HD6.out HFv.out (by simp) (by simp [HD6.out.flen]) (by rw [fCells_sure _ _ _ _ HD6.out.flen]) (fun j v f h1 h2 => by
        by_cases hj : i = j
        · subst hj
          rw [List.getElem?_set_self hi6] at h2
          cases h2
          exact HD6.out.bytes i v ((burnS r).files[i]) h1 (List.getElem?_eq_getElem hi6)
        · rw [List.getElem?_set_ne hj] at h2
          exact HD6.out.bytes j v f h1 h2)
      refine ⟨m, by rw [hE.out]; rfl, ?_, rfl, HM6.out.seq hF.2⟩
      rw [hS.out, modify_set hi]
      have h0 := hF.1
      rw [HNb.out] at h0 ⊢
      simp only [burnS_files] at h0 ⊢
      exact h0.upSame
    · have hBo := burnE_or q3
      rw [if_pos (show burnE r ≠ 0 from q3)] at hS
      rw [hBo] at hE
      have hE := hid hE
      have hS := hid hS
      have Q3 := hid hBo
      clear q3
      go_enter Tryz.func45, Tryz.ntmps45
      go_wp2_with (first | (go_at_call 98; refine (callR_any U m r k hk w H.out).mono ?_; rintro e w1 ⟨rfl, rfl⟩; rw [Q1.out]) | (go_at_call 100; with_reducible refine (nowR_any U m r w H.out HG.out.p0).mono ?_; rintro e w2 ⟨v, rfl, _, hs, hB⟩; obtain ⟨q, c, rfl, _, _, _, hrd⟩ := hs.rd; have hrd := hid hrd; have hB := hid hB; have hD2 := hid (H.out.below hB.out); clear hs) | (go_at_call 99; refine (lookR_any q _ c (nowR r) k _ rfl (by have := HG.out.n1; omega) hrd.out).mono ?_; rintro e w3 ⟨rfl, rfl⟩; rw [HL.out]) | (go_at_call 101; refine (burnR_any U m r _ hD2.out HG.out.l1 HG.out.l2).mono ?_; rintro e w4 ⟨rfl, hD4, hM4, hz4⟩; rw [Q3.out]; have hD4 := hid hD4; have hM4 := hid hM4; have hz4 := hid hz4))
      go_ret
      exact ⟨m, by rw [hE.out]; rfl, by rw [hS.out]; exact hD4.out.upSame, rfl, (RMod.of_below U hB.out).seq hM4.out⟩
set_option maxRecDepth 100000 in
set_option maxHeartbeats 3200000 in
theorem appendR_any (U : Nat → Prop) (m : RM) (r : RS) (k : ByteArray) (hk : k.size ≤ maxLen) (a : Option Addr) (n c0 : Nat) (l : List UInt8) (w : World) (h : RefAt w U m r) (hg : RGood r)
    (hn : l.length = n) (_hc : n ≤ c0) (_hcm : c0 ≤ maxLen) (hr : Rd w a (l.map bv)) (ha : a = none → c0 = 0) (hU : l ≠ [] → ∀ b off, a = some ⟨b, off, none⟩ → ¬ U b) (hn2 : n ≤ 4611686018427387904) :
    Calls Tryz.prog 44 #[.pointer (some ⟨m.D, 0, none⟩), .string k, .slice a n c0] w fun e w' => ∃ m', e = .returned (.int .i64 (appendRE r k l)) ∧ RefAt w' (upU U w w') m' (appendR r k l) ∧ m'.D = m.D ∧ RMod U w w' := by
  have hE : appendRE r k l = if knownRE r k ≠ 0 then knownRE r k else if r.room < (usedR r : Int) + (l.length : Int) then 9 else burnE r := rfl
  have hS : appendR r k l = if knownRE r k ≠ 0 then r else if r.room < (usedR r : Int) + (l.length : Int) then r else if burnE r ≠ 0 then burnS r else { burnS r with files := r.files.modify (atR r k) fun f => ⟨f.b ++ l, f.sure⟩ } := rfl
  rw [hn] at hE hS
  have H := hid h
  have HG := hid hg
  have Hn := hid hn
  have Hr := hid hr
  have Ha := hid ha
  have Hu := hid hU
  have hnm : n ≤ 9223372036854775807 := by omega
  have hub : usedR r ≤ 1000000 * 4194304 := Nat.le_trans (usedL_le (fs := r.files) (fun f hf => (hg.sure f hf).2) _) (Nat.mul_le_mul_right _ hg.n1)
  clear h hg hn hr ha hU _hcm
  rcases knownR_cases r k with ⟨q1, hK⟩ | ⟨q1, q2, hK⟩ | ⟨q1, q2, hK⟩
  · rw [if_pos (show knownRE r k ≠ 0 by rw [hK]; exact q1)] at hE hS
    rw [hK] at hE
    have b1 : (callR r k != 0) = true := by simpa using q1
    replace hE := hid hE
    replace hS := hid hS
    clear hK q1
    go_enter Tryz.func44, Tryz.ntmps44
    go_wp2_with (go_at_call 98; refine (callR_any U m r k hk w H.out).mono ?_; rintro e w1 ⟨rfl, rfl⟩)
    go_ret
    exact ⟨m, by rw [hE.out]; rfl, by rw [hS.out]; exact H.out.upSame, rfl, RMod.refl _ _⟩
  · rw [if_pos (show knownRE r k ≠ 0 by rw [hK]; decide)] at hE hS
    rw [hK] at hE
    have b2 : decide (lookI (nowR r) k < 0) = true := by simpa using q2
    have Q1 := hid q1
    replace hE := hid hE
    replace hS := hid hS
    clear hK q1 q2
    go_enter Tryz.func44, Tryz.ntmps44
    go_wp2_with (first | (go_at_call 98; refine (callR_any U m r k hk w H.out).mono ?_; rintro e w1 ⟨rfl, rfl⟩; rw [Q1.out]) | (go_at_call 100; with_reducible refine (nowR_any U m r w H.out HG.out.p0).mono ?_; rintro e w2 ⟨v, rfl, _, hs, hB⟩; obtain ⟨q, c, rfl, _, _, _, hrd⟩ := hs.rd; have hrd := hid hrd; have hB := hid hB; have hD2 := hid (H.out.below hB.out); clear hs) | (go_at_call 99; refine (lookR_any q _ c (nowR r) k _ rfl (by have := HG.out.n1; omega) hrd.out).mono ?_; rintro e w3 ⟨rfl, rfl⟩))
    go_ret
    exact ⟨m, by rw [hE.out]; rfl, by rw [hS.out]; exact hD2.out.upSame, rfl, RMod.of_below U hB.out⟩
  · rw [if_neg (show ¬ (knownRE r k ≠ 0) by rw [hK]; decide)] at hE hS
    obtain ⟨i, hL, hat, hi⟩ := look_at HG.out q2
    have HL := hid hL
    have Q1 := hid q1
    have b2 : decide ((i : Int) < 0) = false := by simp
    rw [hat] at hS
    clear hK q1 q2 hL hat
    obtain ⟨full, hfl⟩ : ∃ f, f = decide (r.room < (usedR r : Int) + (n : Int)) := ⟨_, rfl⟩
    have hw : IntKind.i64.wrap ((usedR r : Int) + (n : Int)) = (usedR r : Int) + (n : Int) := by rw [IntKind.wrap_i64]; omega
    go_enter Tryz.func44, Tryz.ntmps44
    go_upto_region 7 with (first | (go_at_call 98; refine (callR_any U m r k hk w H.out).mono ?_; rintro e w1 ⟨rfl, rfl⟩; rw [Q1.out]) | (go_at_call 100; with_reducible refine (nowR_any U m r w H.out HG.out.p0).mono ?_; rintro e w2 ⟨v, rfl, _, hs, hB⟩; obtain ⟨q, c, rfl, _, _, _, hrd⟩ := hs.rd; have hrd := hid hrd; have hB := hid hB; have hD2 := hid (H.out.below hB.out); clear hs) | (go_at_call 99; refine (lookR_any q _ c (nowR r) k _ rfl (by have := HG.out.n1; omega) hrd.out).mono ?_; rintro e w3 ⟨rfl, rfl⟩; rw [HL.out]))
    have c0 := hD2.out.cells.1
    go_cut [30] (fun s30 wc => s30 = .bool full ∧ Below w2.heap.size w2 wc)
    case first =>
      go_region_with (go_at_call 103; refine (usedR_any U m r w2.drew (hD2.out.below (Below.refl _ _).drew) HG.out).mono ?_; rintro e w5 ⟨rfl, hb5⟩; have c0' := (hD2.out.below (Below.trans (Below.refl _ _).drew hb5)).cells.1; have hb5 := hid hb5; dsimp only)
      all_goals
        go_wp2_with fail
        go_meet
        exact ⟨by rw [hfl], (Below.refl _ _).drew.trans hb5.out⟩
    case rest =>
      obtain ⟨rfl, hb⟩ := hcut
      have hD3 := hid (hD2.out.below hb)
      have hB3 := hid hb
      clear hb c0 hw
      cases full
      · have hf : ¬ (r.room < (usedR r : Int) + (n : Int)) := by simpa using hfl.symm
        rw [if_neg hf] at hE hS
        have hnb : n ≤ 4194304 := by have := HG.out.r1; omega
        clear hf hfl
        by_cases q3 : burnE r = 0
        · rw [if_neg (show ¬ (burnE r ≠ 0) from fun h => h q3)] at hS
          rw [q3] at hE
          replace hE := hid hE
          replace hS := hid hS
          have Q3 := hid q3
          clear q3
          go_upto_region 12 with (go_at_call 101; refine (burnR_any U m r _ hD3.out HG.out.l1 HG.out.l2).mono ?_; rintro e w4 ⟨rfl, hD4, hM4, hz4⟩; rw [Q3.out]; have hD4 := hid hD4; have hM4 := hid hM4; have hz4 := hid hz4)
          have hi6 : i < (burnS r).files.length := by rw [burnS_files]; exact hi
          have hbl : ((burnS r).files[i]).b.length ≤ 4194304 := by
            refine (HG.out.sure _ ?_).2
            have e := burnS_files r
            rw [← e]
            exact List.getElem_mem hi6
          obtain ⟨g, cf, q0, k0, cs, hfv, hf1, hf2, hbi, hk1, hk2, hq0, hce, hsu, hsl, hrb, hfr, hgh⟩ := hD4.out.file hi6
          have d3 := hD4.out.cells.2.2.2.1
          rw [hfv] at d3
          have hM := hid (((RMod.of_below U hB.out).seq (RMod.of_below U hB3.out)).seq hM4.out)
          have hrl := Hr.out.rmod hM.out (fun hx => Hu.out (fun e => hx (by rw [e]; rfl)))
          obtain ⟨fb, hfb⟩ : ∃ fb, fb = ((burnS r).files[i]).b := ⟨_, rfl⟩
          obtain ⟨nf, hnf⟩ : ∃ nf, nf = fb.length := ⟨_, rfl⟩
          rw [← hfb, ← hnf] at hce hk1
          rw [← hfb] at hrb hbl
          rw [← hnf] at hbl
          obtain ⟨P, hP⟩ : ∃ P, P = (burnS r).files.length := ⟨_, rfl⟩
          have hfv2 := hfv
          rw [← hP] at d3 hf1 hfv2
          have Hfv2 := hid hfv2
          clear hfv2
          have i0 : (0 : Int) ≤ (i : Int) := by omega
          have i1 : (i : Int) < (P : Int) := by omega
          have hgl := lt_of_block hgh
          have hcs : cs[i * 2]? = some (.slice q0 nf k0) := by rw [← hce]; exact (cell_of_row w4 g (i * 2) _ _ _ hgh).symm
          have Hrb := hid hrb
          have Hrl := hid hrl
          have Hq0 := hid hq0
          have Hfb := hid hfb
          have Hnf := hid hnf
          have Hfv := hid hfv
          have Hgh := hid hgh
          clear hrb hrl hq0 hfb hnf hfv hgh hsl hbi hP hfr
          go_region_law (first
            | (refine step_append_rd rfl (.const (.slice none 0 0)) (.tmp 48) 75 rfl w4.heap.size 5 (.int .u8 0) 1 1 Tryz.underlying75 infoU8 rfl (by decide) (.slice none 0 0) 0 [] rfl (World.ownsRow_nil _ _ _ _) q0 nf k0 (fb.map bv) rfl Hq0.out (by simp [Hnf.out]) (Hrb.out.below (Below.refl _ _).drew) bv_one (by unfold maxLen; omega) (by omega) (Nat.le_refl _) ?_; intro v5 w5 hown5 hg5 _; rw [Nat.zero_add, List.nil_append] at hown5; obtain ⟨q5, k5, rfl, _, _, _⟩ := own_shape hown5; have hb5 := hid (((Below.refl w4.heap.size w4).drew).grown hg5 (Nat.le_refl _) (fun k hk => nomatch hk)); have hown5 := hid hown5; have dd5 := (hD4.out.below hb5.out).cells.2.2.2.1; rw [Hfv2.out] at dd5; clear hg5)
            | (refine step_append_rd rfl (.tmp 49) (.tmp 50) 75 rfl w4.heap.size 5 (.int .u8 0) 1 1 Tryz.underlying75 infoU8 rfl (by decide) (.slice q5 nf k5) nf (fb.map bv) rfl hown5.out a n _ (l.map bv) rfl Ha.out (by simp [Hn.out]) (Hrl.out.below hb5.out) bv_one (by unfold maxLen; omega) (by omega) hb5.out.size ?_; intro v6 w6 hown6 hg6 _; obtain ⟨q6, k6, rfl, _, _, _⟩ := own_shape hown6; have hb6 := hid (hb5.out.grown hg6 hb5.out.size (fun k hk => (hown5.out.lt k hk).1)); have hy6 := (hb6.out.block g hgl).trans Hgh.out; have gg := (cell_of_row w6 g (i * 2) _ _ _ hy6).trans hcs; have gf := frozen_of_row w6 g (i * 2) _ _ hy6; have dd6 := (hD4.out.below hb6.out).cells.2.2.2.1; rw [Hfv2.out] at dd6; clear hy6 hg6; have hown6 := hid hown6))
          all_goals
            go_wp2
            go_ret
            have D6 := (hD4.out.below hb6.out).up (U' := upU U w w6) (fun _ h => .inl h) (fun k hk => by
              rcases hk with hk | hk
              · exact (hD4.out.below hb6.out).low k hk
              · exact hk.2)
            have hsz : w.heap.size ≤ w4.heap.size := hM.out.size
            have hF := setFc_fin (upU U w w6) m (burnS r) (i * 2) (.slice q6 (nf + n) k6) g cf (m.bs.set i (.slice q6 (nf + n) k6)) ((burnS r).files.set i ⟨fb ++ l, ((burnS r).files[i]).sure⟩) w6 D6 Hfv.out (by simp) (by simp [D6.flen]) (by rw [fCells_set _ _ _ _ _ D6.flen (fun f0 h0 => by rw [List.getElem?_eq_getElem hi6] at h0; cases h0; rfl)]) (fun j v f h1 h2 => by
              by_cases hj : i = j
              · subst hj
                rw [List.getElem?_set_self hi6] at h2
                rw [List.getElem?_set_self (by rw [D6.flen]; exact hi6)] at h1
                cases h1; cases h2
                have ho : w6.ownsRow w4.heap.size 5 1 (.slice q6 (nf + n) k6) (fb ++ l).length ((fb ++ l).map bv) := by
                  rw [List.length_append, ← Hnf.out, Hn.out, List.map_append]; exact hown6.out
                exact slU_own ho (fun g h1 h2 => .inr ⟨by omega, h2⟩) (fun g hg => hD4.out.low g (hD4.out.us g hg))
              · rw [List.getElem?_set_ne hj] at h1 h2
                exact D6.bytes j v f h1 h2)
            refine ⟨by rw [hE.out]; rfl, { m with bs := m.bs.set i (.slice q6 (nf + n) k6) }, ?_, rfl, (hM.out.seq (RMod.of_below U hb6.out)).trans hF.2⟩
            rw [hS.out, modify_set hi]
            have h0 := hF.1
            rw [Hfb.out] at h0
            simp only [burnS_files] at h0 ⊢
            exact h0.up (fun k hk => by rcases hk with hk | hk; exact .inl hk; exact .inr (by simpa using hk)) (fun k hk => by
              rcases hk with hk | hk
              · exact h0.low k (.inl hk)
              · exact hk.2)
        · have hBo := burnE_or q3
          rw [if_pos (show burnE r ≠ 0 from q3)] at hS
          rw [hBo] at hE
          replace hE := hid hE
          replace hS := hid hS
          have Q3 := hid hBo
          clear q3
          go_wp2_with (go_at_call 101; refine (burnR_any U m r _ hD3.out HG.out.l1 HG.out.l2).mono ?_; rintro e w4 ⟨rfl, hD4, hM4, hz4⟩; rw [Q3.out]; have hD4 := hid hD4; have hM4 := hid hM4; have hz4 := hid hz4)
          go_ret
          exact ⟨m, by rw [hE.out]; rfl, by rw [hS.out]; exact hD4.out.upSame, rfl, ((RMod.of_below U hB.out).seq (RMod.of_below U hB3.out)).seq hM4.out⟩
      · have hf : r.room < (usedR r : Int) + (n : Int) := by simpa using hfl.symm
        rw [if_pos hf] at hE hS
        replace hE := hid hE
        replace hS := hid hS
        clear hf hfl
        go_wp2
        go_ret
        exact ⟨m, by rw [hE.out]; rfl, by rw [hS.out]; exact hD3.out.upSame, rfl, (RMod.of_below U hB.out).seq (RMod.of_below U hB3.out)⟩
end Go.Proofs.Herb
namespace Go.Proofs.Herb
open Go.RowKit
end Go.Proofs.Herb
namespace Go.Proofs.Herb
open Go.RowKit
structure RC (w0 wr : World) (mo : RM) (t : RS) (dv : Value) (de : List Ent) : Prop where
  at_ : ∃ U, RefAt wr U mo t ∧ ∀ k, U k → w0.heap.size ≤ k ∧ dv.ownBlock ≠ some k
  below : Below w0.heap.size w0 wr
  own : wr.ownsRow w0.heap.size 154 2 dv de.length (eCells de)
theorem RC.below' {w0 wr w' : World} {mo : RM} {t : RS} {dv : Value} {de : List Ent} (C : RC w0 wr mo t dv de) (hb : Below wr.heap.size wr w') : RC w0 w' mo t dv de := by
  obtain ⟨U, hU, hk⟩ := C.at_
  exact ⟨⟨U, hU.below hb, hk⟩, C.below.trans (hb.mono C.below.size), own_below C.own hb⟩
end Go.Proofs.Herb
