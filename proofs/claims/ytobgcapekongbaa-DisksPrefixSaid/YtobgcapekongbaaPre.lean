/- The contract of DisksPrefix: it answers true. For acts, and a loss, that can be read. -/
import Derived.Test.YtobgcapekongbaaSur
namespace Go.Proofs.Herb
open Go.RowKit Go.Sort
def keepN (fl : List Int) (j : Nat) (nn : Nat) : Nat := match fl[j]? with
  | some z => (withinI z (nn : Int)).toNat
  | none => 0
theorem keepAt_keepN {fl : List Int} {j : Nat} {f : DF} (h : f.sure ≤ f.b.length) : keepAt fl j f = f.sure + keepN fl j (f.b.length - f.sure) := by
  unfold keepAt keepN
  have e : ((f.b.length : Int) - (f.sure : Int)) = ((f.b.length - f.sure : Nat) : Int) := by omega
  rw [e]
  cases fl[j]? <;> rfl
theorem keepN_le (fl : List Int) (j nn : Nat) : keepN fl j nn ≤ nn := by
  unfold keepN
  split
  · exact (withinJ _ _).2
  · exact Nat.zero_le _
theorem looseN_at {s : DS} {k : ByteArray} (h : foundE s k = 0) : looseN s k = ((fileAt s k).b.length : Int) - ((fileAt s k).sure : Int) := by
  unfold looseN fileAt
  rw [if_pos h]
  cases s.files[(look s.names k).getD 0]? <;> rfl
theorem found_of {s : DS} {k : ByteArray} (h : knownE s k = 0) : foundE s k = 0 := by
  unfold knownE at h
  split at h
  · cases h
  · exact h
set_option maxRecDepth 100000 in
set_option maxHeartbeats 6400000 in
theorem disksPrefix_small (a : Option Addr) (len cap : Nat) (l : List ActV) (dir : Int) (fa : Option Addr) (fn fc : Nat) (fl : List Int) (w : World) (h : ActsAt w a len l) (hn : fl.length = fn) (_hfm : fn ≤ 9223372036854775807) (hr : Rd w fa (fl.map (Value.int .i64))) (hlen : len ≤ 40) :
    Calls Try.prog 4 #[.slice a len cap, .agg #[.int .i64 dir, .slice fa fn fc]] w fun e w' => e = .returned (.bool true) ∧ Below w.heap.size w w' := by
  have hO := sure_ok (room := 1048576) (by decide) (by decide) (l := l) (by rw [h.1]; exact hlen)
  have hF := (Free.new 1048576).play l
  obtain ⟨S, hS⟩ : ∃ S, S = playS (newS 1048576) l := ⟨_, rfl⟩
  rw [← hS] at hO hF
  have hfd := hF.syncDirE
  obtain ⟨Z, hZ⟩ : ∃ Z, Z = syncDirS S := ⟨_, rfl⟩
  have hOZ : DsOk Z 80 := by rw [hZ]; exact hO.synced
  have hFZ : Free Z := by rw [hZ]; exact ⟨hF.dead, hF.fuse⟩
  have hcr := crashD_sure (s := Z) (by rw [hZ]; rfl) (by rw [hZ]; rfl) dir
  have hcs := crash_sorted hOZ dir fl
  rw [hcr] at hcs
  obtain ⟨C, hC⟩ : ∃ C, C = crashS Z dir fl := ⟨_, rfl⟩
  have hOC : DsOk C 80 := by rw [hC]; exact hOZ.crash dir fl
  have hread : ∀ (i : Nat) k, ((sortedK Z.names).map ofL)[i]? = some k → knownE C k = 0 ∧ readL C k = (fileAt Z k).b.take ((fileAt Z k).sure + keepN fl i ((fileAt Z k).b.length - (fileAt Z k).sure)) ∧ knownE Z k = 0 ∧ readL Z k = (fileAt Z k).b := by
    intro i k hi
    obtain ⟨h1, h2, _⟩ := crash_read hOZ dir fl (i := i) (k := k) (by unfold crashL; rw [hcr]; exact hi)
    obtain ⟨h3, h4⟩ := sorted_at hOZ hFZ.dead (List.mem_of_getElem? hi)
    rw [hC, h2, hcr, crashF_at, keepAt_keepN (fileAt_ok hOZ k).1]
    exact ⟨h1, rfl, h3, h4⟩
  rw [← hC] at hcs
  obtain ⟨N, hN⟩ : ∃ N, N = (sortedK Z.names).length := ⟨_, rfl⟩
  have hN80 : N ≤ 80 := by rw [hN]; exact sorted_many hOZ
  obtain ⟨w0, hw0, hL, hA⟩ : ∃ w0, w0 = w.alloc (.cells #[.int .i64 dir, .slice fa fn fc] 25) ∧ w0.heap[w.heap.size]? = some (.cells #[.int .i64 dir, .slice fa fn fc] 25 (0, 0)) ∧ Below w.heap.size w w0 := ⟨_, rfl, heap_alloc_new _ _, (Below.refl w.heap.size w).alloc (Nat.le_refl _) _⟩
  have H := hid (h.below hA)
  have Hn := hid hn
  have Hr := hid (hr.below hA)
  have O := hid hO
  have OZ := hid hOZ
  have OC := hid hOC
  have FD := hid hfd
  have HZ := hid hZ
  have HC := hid hC
  have HCS := hid hcs
  have HRD := hid hread
  have HS := hid hS
  have HL := hid hL
  have HA := hid hA
  have HN := hid hN
  have HW := hid hw0
  have b1 : decide ((40 : Int) < (len : Int)) = false := by simp; omega
  clear h hn hr hO hF hS hL hA hN hw0 hfd hZ hOZ hFZ hcr hcs hC hOC hread
  go_enter Try.func4, Try.ntmps4
  go_wp2_with fail
  rw [← HW.out]
  refine (played_any 1048576 (by decide) (by decide) a len cap l w0 H.out (by omega)).mono ?_
  rintro e w1 ⟨m, rfl, hD, hB, hFp⟩
  rw [← HS.out] at hD
  have HD := hid hD
  have HB := hid hB
  have HFp := hid hFp
  clear hD hB hFp
  go_wp2_with fail
  refine (syncDir_any m S w1 HD.out O.out.f0 O.out.f1).mono ?_
  rintro e w2 ⟨m1, rfl, hd, hm, hM⟩
  rw [FD.out.2, ← HZ.out] at hd
  rw [FD.out.1, ← hm]
  have HM := hid hd
  have hfr := hM.fresh (B := w0.heap.size) HB.out.size HFp.out
  have HB := hid (HB.out.trans hfr.2)
  clear hd hm hM hfr HD HFp
  obtain ⟨c0, c1⟩ := loss_cells ((HB.out.block _ (lt_of_block HL.out)).trans HL.out)
  go_wp2_with fail
  refine (crash_any m1 Z dir fa fn fc fl w2 HM.out Hn.out (Hr.out.below HB.out) (Nat.le_trans OZ.out.changes (by decide)) (OZ.out.crashOk (by decide) _ _)).mono ?_
  rintro e w3 ⟨mc, rfl, hX, hB5, _⟩
  rw [← HC.out] at hX
  have HX := hid hX
  have HM := hid (HM.out.below hB5)
  have HB := hid (below_on HB.out (Nat.le_refl _) hB5)
  clear hX hB5 c0 c1
  go_wp2_with fail
  refine (list_any m1 Z w3 HM.out (keysOf OZ.out (by decide))).mono ?_
  rintro e w4 ⟨q4, rfl, hF4, hB5⟩
  rw [← HN.out] at hF4 ⊢
  have HR4 := hid hF4.rd
  have HM := hid (HM.out.below hB5)
  have HX := hid (HX.out.below hB5)
  have HB := hid (below_on HB.out (Nat.le_refl _) hB5)
  clear hF4 hB5
  go_wp2_with fail
  refine (list_any mc C w4 HX.out (keysOf OC.out (by decide))).mono ?_
  rintro e w5 ⟨q5, rfl, hF5, hB5⟩
  rw [HCS.out, ← HN.out] at hF5 ⊢
  have HR5 := hid hF5.rd
  have HR4 := hid (HR4.out.below hB5)
  have HM := hid (HM.out.below hB5)
  have HX := hid (HX.out.below hB5)
  have HB := hid (below_on HB.out (Nat.le_refl _) hB5)
  clear hF5 hB5
  go_wp2_with fail
  refine (sameTexts_true q4 q5 N N N (sortedK Z.names) w5 HN.out.symm (by omega) HR4.out HR5.out).mono ?_
  rintro e w6 ⟨rfl, hB5⟩
  have HR4 := hid (HR4.out.below hB5)
  have HM := hid (HM.out.below hB5)
  have HX := hid (HX.out.below hB5)
  have HB := hid (below_on HB.out (Nat.le_refl _) hB5)
  clear hB5 HR5
  go_wp2_with fail
  go_loopw [9] (fun i wr => ∃ j : Nat, i = .int .i64 j ∧ j ≤ N ∧ Below w6.heap.size w6 wr) (fun i _ => N - (intOf i).toNat)
  case atStart => exact ⟨0, rfl, Nat.zero_le _, Below.refl _ _⟩
  case round =>
    obtain ⟨j, rfl, hj, hb⟩ := hrel
    have Hb := hid hb
    clear hb
    by_cases hlt : j < N
    · obtain ⟨b1, o1, k, rfl, hc1, hk⟩ := names_at (HR4.out.below Hb.out) (by rw [← HN.out]; exact hlt)
      have i1 : (0 : Int) ≤ (j : Int) := by omega
      have i2 : (j : Int) < (N : Int) := by omega
      obtain ⟨r1, r2, r3, r4⟩ := HRD.out j k hk
      have hks := knownE_size r3
      obtain ⟨f1, f2⟩ := fileAt_ok OZ.out k
      have hl := looseN_at (found_of r3)
      have hfo := found_of r3
      obtain ⟨fb, hfb⟩ : ∃ fb, fb = (fileAt Z k).b := ⟨_, rfl⟩
      obtain ⟨bn, hbn⟩ : ∃ bn, bn = fb.length := ⟨_, rfl⟩
      obtain ⟨sn, hsn⟩ : ∃ sn, sn = (fileAt Z k).sure := ⟨_, rfl⟩
      obtain ⟨nn, hnn⟩ : ∃ nn, nn = bn - sn := ⟨_, rfl⟩
      rw [← hfb] at r2 r4
      rw [← hfb, ← hbn, ← hsn] at f1 hl
      rw [← hfb, ← hbn] at f2
      rw [← hbn, ← hsn, ← hnn] at r2
      obtain ⟨D, hDd⟩ : ∃ D, D = keepN fl j nn := ⟨_, rfl⟩
      rw [← hDd] at r2
      have hD1 := keepN_le fl j nn
      rw [← hDd] at hD1
      obtain ⟨pn, hpn⟩ : ∃ pn, pn = sn + D := ⟨_, rfl⟩
      rw [← hpn] at r2
      have hplen : (fb.take pn).length = pn := by rw [List.length_take]; omega
      have hl' : looseN Z k = (nn : Int) := by rw [hl]; omega
      have R1 := hid r1
      have R2 := hid r2
      have R3 := hid r3
      have R4 := hid r4
      have HLn := hid hl'
      have HFo := hid hfo
      have Hbn := hid hbn
      have HDd := hid hDd
      have Hpl := hid hplen
      clear r1 r2 r3 r4 hl hl' hfo hfb hsn hbn hDd hplen hk
      have hp1 : pn ≤ bn := by omega
      have hz1 : (((pn : Int)) != ((bn : Int) - (nn : Int) + (D : Int))) = false := by simp; omega
      have hz2 : decide ((bn : Int) < (nn : Int)) = false := by simp; omega
      have hnb : nn ≤ bn := by omega
      clear hnn hpn
      go_wp2_with fail
      refine (read_clip m1 Z k hks wr (HM.out.below Hb.out) OZ.out.good.ok OZ.out.bytes).mono ?_
      rintro e w7 ⟨q7, rfl, hF7, hB7⟩
      rw [R3.out, R4.out, ← Hbn.out]
      rw [R4.out, ← Hbn.out] at hF7
      have HR7 := hid hF7.rd
      have hq7 : q7 = none → bn = 0 := fun e => by
        subst e
        have := hF7.rd.none
        have hb := Hbn.out
        simp at this; rw [this] at hb; simpa using hb
      have HQ7 := hid hq7
      have hc2 := (hB7.cell (World.block_lt_of_cell? wr _ hc1)).trans hc1
      have Hb7 := hid (below_on Hb.out (Nat.le_refl _) hB7)
      clear hF7 hB7 hc1 hq7
      go_wp2_with fail
      refine (loose_any m1 Z k hks w7 (HM.out.below Hb7.out) OZ.out.good.ok OZ.out.sure).mono ?_
      rintro e w8 ⟨rfl, hB8⟩
      rw [HLn.out, HFo.out]
      have hc3 := (hB8.cell (World.block_lt_of_cell? w7 _ hc2)).trans hc2
      have HR7 := hid (HR7.out.below hB8)
      have Hb8 := hid (below_on Hb7.out (Nat.le_refl _) hB8)
      clear hB8 hc2
      go_wp2_with fail
      refine (read_clip mc C k hks w8 (HX.out.below Hb8.out) OC.out.good.ok OC.out.bytes).mono ?_
      rintro e w9 ⟨q9, rfl, hF9, hB9⟩
      rw [R1.out, R2.out, Hpl.out]
      rw [R2.out, Hpl.out] at hF9
      have HR9 := hid hF9.rd
      have HR7 := hid (HR7.out.below hB9)
      have Hb9 := hid (below_on Hb8.out (Nat.le_refl _) hB9)
      clear hF9 hB9 hc3
      have HB9 := hid (below_on HB.out (Nat.le_refl _) Hb9.out)
      obtain ⟨c0, c1⟩ := loss_cells ((HB9.out.block _ (lt_of_block HL.out)).trans HL.out)
      go_upto_if 80 with fail
      go_cut [16] (fun s16 wd => s16 = .int .i64 (D : Int) ∧ w9 = wd)
      case first =>
        by_cases hjf : j < fn
        · obtain ⟨b2, o2, rfl, hb2, hcz⟩ := Hr.out.cellB HB9.out (k := j) (by simp; have := Hn.out; omega)
          rw [List.getElem_map] at hcz
          have hjl : j < fl.length := by have := Hn.out; omega
          obtain ⟨z, hz⟩ : ∃ z, z = fl[j] := ⟨_, rfl⟩
          rw [← hz] at hcz
          have hkd : D = (withinI z (nn : Int)).toNat := by
            have hx : fl[j]? = some z := by rw [List.getElem?_eq_getElem hjl, hz]
            rw [HDd.out]
            unfold keepN
            rw [hx]
          have Hkd := hid hkd
          have i3 : (j : Int) < (fn : Int) := by omega
          clear hz hkd
          go_wp2_with fail
          go_meet
          refine ⟨?_, rfl⟩
          rw [Hkd.out]
          refine congrArg _ ?_
          unfold withinI
          omega
        · have hkd : D = 0 := by
            have hx : fl[j]? = none := List.getElem?_eq_none (by have := Hn.out; omega)
            rw [HDd.out]
            unfold keepN
            rw [hx]
          have Hkd := hid hkd
          have i3 : ¬ (j : Int) < (fn : Int) := by omega
          clear hkd
          go_wp2_with fail
          go_meet
          exact ⟨by rw [Hkd.out]; rfl, rfl⟩
      case rest =>
        obtain ⟨rfl, rfl⟩ := hcut
        rename_i hK
        refine hK _ _ ?_
        clear hK c0 c1
        go_wp2_with fail
        refine (sameBytes_true q9 q7 pn pn bn (fb.take pn) w9 Hpl.out (by omega) HR9.out (by rw [List.map_take]; exact HR7.out.take pn)).mono ?_
        rintro e w10 ⟨rfl, hB10⟩
        have Hb10 := hid (below_on Hb9.out (Nat.le_refl _) hB10)
        clear hB10
        go_wp2_with fail
        go_roundw
        case rel => exact ⟨j + 1, by go_num, by omega, Hb10.out⟩
        case measure => simp [intOf]; omega
    · have hjN : j = N := by omega
      go_wp2_with fail
      refine (lives4_any wr).mono ?_
      rintro e w12 ⟨rfl, hB5⟩
      go_wp2_with fail
      go_ret
      exact ⟨rfl, HA.out.trans ((below_on HB.out (Nat.le_refl _) (below_on Hb.out (Nat.le_refl _) hB5)).mono HA.out.size)⟩
set_option maxRecDepth 100000 in
theorem disksPrefix_any (a : Option Addr) (len cap : Nat) (l : List ActV) (dir : Int) (fa : Option Addr) (fn fc : Nat) (fl : List Int) (w : World) (h : ActsAt w a len l) (hn : fl.length = fn) (_hfm : fn ≤ 9223372036854775807) (hr : Rd w fa (fl.map (Value.int .i64))) (hlen' : len ≤ 9223372036854775807) :
    Calls Try.prog 4 #[.slice a len cap, .agg #[.int .i64 dir, .slice fa fn fc]] w fun e w' => e = .returned (.bool true) ∧ Below w.heap.size w w' := by
  by_cases hlen : len ≤ 40
  · exact disksPrefix_small a len cap l dir fa fn fc fl w h hn _hfm hr hlen
  · have b1 : decide ((40 : Int) < (len : Int)) = true := by simp; omega
    clear h hn hr hlen
    go_enter Try.func4, Try.ntmps4
    go_wp2_with fail
    refine (lives4_any _).mono ?_
    rintro e w12 ⟨rfl, hB5⟩
    go_wp2_with fail
    go_ret
    exact ⟨rfl, below_on ((Below.refl w.heap.size w).alloc (Nat.le_refl _) _) (Nat.le_refl _) hB5⟩
end Go.Proofs.Herb
