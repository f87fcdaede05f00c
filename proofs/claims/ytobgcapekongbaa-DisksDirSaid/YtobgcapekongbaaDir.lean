/- The contracts of unlike, and of DisksDir: it answers true. For acts that can be read. -/
import Derived.Test.YtobgcapekongbaaDirP
import Derived.Test.YtobgcapekongbaaSur
namespace Go.Proofs.Herb
open Go.RowKit Go.Sort
theorem less_form (p q : List UInt8) (a b : ByteArray) (ha : encStr p = .string a) (hb : encStr q = .string b) : Op.bytesLess a.toList b.toList = decide (p < q) := by
  unfold encStr at ha hb
  cases ha; cases hb
  rw [bytesLess_eq, ByteArray.toList_eq, ByteArray.toList_eq]
set_option maxRecDepth 100000 in
set_option maxHeartbeats 3200000 in
theorem unlike_any (a b : Option Addr) (n m c d : Nat) (A B : Keys) (w : World) (hn : A.length = n) (hm : B.length = m) (hn' : n ≤ 1000000000) (hm' : m ≤ 1000000000) (hr : Rd w a (A.map encStr)) (hs : Rd w b (B.map encStr)) (hA : Rises A) (hB : Rises B) :
    Calls Try.prog 22 #[.slice a n c, .slice b m d] w fun e w' => e = .returned (.tuple #[.int .i64 (cntOut A B : Int), .int .i64 (cntOut B A : Int)]) ∧ Below w.heap.size w w' := by
  have Hn := hid hn
  have Hm := hid hm
  have Hr := hid hr
  have Hs := hid hs
  have HA := hid hA
  have HB := hid hB
  clear hn hm hr hs hA hB
  go_enter Try.func22, Try.ntmps22
  go_wp2_with fail
  go_loopw [6, 7, 8, 9] (fun vi vk vg vc wr => ∃ i k g c : Nat, vi = .int .i64 i ∧ vk = .int .i64 k ∧ vg = .int .i64 g ∧ vc = .int .i64 c ∧ Unl A B i k g c ∧ g ≤ i ∧ c ≤ k ∧ Below w.heap.size w wr) (fun vi vk _ _ _ => (n - (intOf vi).toNat) + (m - (intOf vk).toNat))
  case atStart => exact ⟨0, 0, 0, 0, rfl, rfl, rfl, rfl, Unl.start A B, Nat.le_refl _, Nat.le_refl _, Below.refl _ _⟩
  case round =>
    obtain ⟨i, k, g, c, rfl, rfl, rfl, rfl, hU, hgi, hck, hb⟩ := hrel
    have hi := hU.hi
    have hk := hU.hk
    rw [Hn.out] at hi
    rw [Hm.out] at hk
    have HU := hid hU
    have Hb := hid hb
    clear hU hb
    have g0 : (0 : Int) ≤ (g : Int) := by omega
    have c0 : (0 : Int) ≤ (c : Int) := by omega
    have i0 : (0 : Int) ≤ (i : Int) := by omega
    have k0 : (0 : Int) ≤ (k : Int) := by omega
    by_cases hkm : k < m
    · obtain ⟨b2, o2, rfl, hb2, hc2⟩ := Hs.out.cellB Hb.out (k := k) (by rw [List.length_map, Hm.out]; exact hkm)
      rw [List.getElem_map] at hc2
      have k1 : (k : Int) < (m : Int) := by omega
      have kb : ((k : Int) == (m : Int)) = false := by simp; omega
      by_cases hin : i < n
      · obtain ⟨b1, o1, rfl, hb1, hc1⟩ := Hr.out.cellB Hb.out (k := i) (by rw [List.length_map, Hn.out]; exact hin)
        rw [List.getElem_map] at hc1
        have i1 : (i : Int) < (n : Int) := by omega
        have ib : ((i : Int) == (n : Int)) = false := by simp; omega
        have di : decide (i < n) = true := by simp; omega
        have hiA : i < A.length := by rw [Hn.out]; exact hin
        have hkB : k < B.length := by rw [Hm.out]; exact hkm
        obtain ⟨p, hp⟩ : ∃ p : ByteArray, encStr A[i] = .string p := ⟨_, rfl⟩
        obtain ⟨q, hq⟩ : ∃ q : ByteArray, encStr B[k] = .string q := ⟨_, rfl⟩
        have hpq := less_form _ _ _ _ hp hq
        have hqp := less_form _ _ _ _ hq hp
        rw [hp] at hc1
        rw [hq] at hc2
        clear hp hq
        by_cases h1 : A[i] < B[k]
        · rw [decide_eq_true h1] at hpq
          have HU2 := hid (HU.out.stepA HA.out HB.out hiA (.inr ⟨hkB, h1⟩))
          clear h1 hqp hiA hkB
          go_wp2_with fail
          go_quiet (fail)
          go_wp2_with fail
          go_roundw
          case rel => exact ⟨i + 1, k, g + 1, c, by go_num, rfl, by go_num, rfl, HU2.out, by omega, by omega, below_drewN Hb.out _⟩
          case measure => simp [intOf]; omega
        · rw [decide_eq_false h1] at hpq
          by_cases h2 : B[k] < A[i]
          · rw [decide_eq_true h2] at hqp
            have HU2 := hid (HU.out.stepB HA.out HB.out hkB (.inr ⟨hiA, h2⟩))
            clear h1 h2 hiA hkB
            go_wp2_with fail
            go_quiet (fail)
            go_wp2_with fail
            go_quiet (fail)
            go_wp2_with fail
            go_roundw
            case rel => exact ⟨i, k + 1, g, c + 1, rfl, by go_num, rfl, by go_num, HU2.out, by omega, by omega, below_drewN Hb.out _⟩
            case measure => simp [intOf]; omega
          · rw [decide_eq_false h2] at hqp
            have HU2 := hid (HU.out.stepE HA.out HB.out hiA hkB h1 h2)
            clear h1 h2 hiA hkB
            go_wp2_with fail
            go_quiet (fail)
            go_wp2_with fail
            go_quiet (fail)
            go_wp2_with fail
            go_roundw
            case rel => exact ⟨i + 1, k + 1, g, c, by go_num, by go_num, rfl, rfl, HU2.out, by omega, by omega, below_drewN Hb.out _⟩
            case measure => simp [intOf]; omega
      · have hin' : i = n := by omega
        have ib : ((i : Int) == (n : Int)) = true := by simp; omega
        have di : decide (i < n) = false := by simp; omega
        have hkB : k < B.length := by rw [Hm.out]; exact hkm
        have HU2 := hid (HU.out.stepB HA.out HB.out hkB (.inl (by rw [Hn.out]; exact hin')))
        have HIN := hid hin'
        clear hin' hkB
        go_wp2_with fail
        go_quiet (fail)
        go_wp2_with fail
        go_quiet (fail)
        go_wp2_with fail
        go_roundw
        case rel => exact ⟨i, k + 1, g, c + 1, rfl, by go_num, rfl, by go_num, HU2.out, by omega, by omega, below_drewN Hb.out _⟩
        case measure => simp [intOf]; omega
    · have hkm' : k = m := by omega
      have kb : ((k : Int) == (m : Int)) = true := by simp; omega
      by_cases hin : i < n
      · have i1 : (i : Int) < (n : Int) := by omega
        have hiA : i < A.length := by rw [Hn.out]; exact hin
        have HU2 := hid (HU.out.stepA HA.out HB.out hiA (.inl (by rw [Hm.out]; exact hkm')))
        clear hkm' hiA
        go_wp2_with fail
        go_quiet (fail)
        go_wp2_with fail
        go_roundw
        case rel => exact ⟨i + 1, k, g + 1, c, by go_num, rfl, by go_num, rfl, HU2.out, by omega, by omega, below_drewN Hb.out _⟩
        case measure => simp [intOf]; omega
      · have hin' : i = n := by omega
        have hfin := HU.out
        rw [hin', hkm', ← Hn.out, ← Hm.out] at hfin
        have HFin := hid hfin.fin
        clear hfin hkm' hin'
        go_wp2_with fail
        go_ret2
        exact ⟨by rw [HFin.out.1, HFin.out.2]; rfl, Hb.out⟩
set_option maxRecDepth 100000 in
set_option maxHeartbeats 6400000 in
theorem disksDir_small (a : Option Addr) (len cap : Nat) (l : List ActV) (w : World) (h : ActsAt w a len l) (hlen : len ≤ 40) :
    Calls Try.prog 5 #[.slice a len cap] w fun e w' => e = .returned (.bool true) ∧ Below w.heap.size w w' := by
  have hO := sure_ok (room := 1048576) (by decide) (by decide) (l := l) (by rw [h.1]; exact hlen)
  have hF := (Free.new 1048576).play l
  have hCh : ChOk (playS (newS 1048576) l) := ChOk.play (fun x hx => by cases hx) l
  obtain ⟨S, hS⟩ : ∃ S, S = playS (newS 1048576) l := ⟨_, rfl⟩
  rw [← hS] at hO hF hCh
  obtain ⟨N, hN⟩ : ∃ N, N = S.changes.length := ⟨_, rfl⟩
  have hN80 : N ≤ 80 := by rw [hN]; exact hO.changes
  have H := hid h
  have O := hid hO
  have Ch := hid hCh
  have HS := hid hS
  have HN := hid hN
  have b1 : decide ((40 : Int) < (len : Int)) = false := by simp; omega
  clear h hO hF hS hN hCh
  go_enter Try.func5, Try.ntmps5
  go_wp2_with fail
  refine (played_any 1048576 (by decide) (by decide) a len cap l w H.out (by omega)).mono ?_
  rintro e w1 ⟨m, rfl, hD, hB, hFp⟩
  rw [← HS.out] at hD
  have HD := hid hD
  have HB := hid hB
  clear hD hB hFp
  go_wp2_with fail
  refine (crash_any m S 0 none 0 0 [] w1 HD.out rfl (.inl rfl) (Nat.le_trans O.out.changes (by decide)) (O.out.crashOk (by decide) _ _)).mono ?_
  rintro e w2 ⟨mx, rfl, hX, hB5, _⟩
  have HX := hid hX
  have HD := hid (HD.out.below hB5)
  have HB := hid (below_on HB.out (Nat.le_refl _) hB5)
  clear hX hB5
  go_wp2_with fail
  go_loopw [4, 6] (fun v i wr => ∃ (j : Nat) (ml : DM), i = .int .i64 ((j : Int) + 1) ∧ j ≤ N ∧ v = .pointer (some ⟨ml.D, 0, none⟩) ∧ DiskAt wr ml (crashS S (j : Int) []) ∧ Below w2.heap.size w2 wr) (fun _ i _ => N + 1 - (intOf i).toNat)
  case atStart => exact ⟨0, mx, rfl, Nat.zero_le _, rfl, HX.out, Below.refl _ _⟩
  case round =>
    obtain ⟨j, ml, rfl, hj, rfl, hl, hb⟩ := hrel
    have HL := hid hl
    have Hb := hid hb
    clear hl hb
    go_wp2_with fail
    refine (dir_any m S wr (HD.out.below Hb.out)).mono ?_
    rintro e w' ⟨rfl, rfl⟩
    rw [← HN.out]
    by_cases hlt : j < N
    · have i1 : (j : Int) + 1 ≤ (N : Int) := by omega
      have hst := crash_step O.out Ch.out (j := j) (by rw [← HN.out]; exact hlt) [] []
      have oj := O.out.crash (j : Int) []
      have ok := O.out.crash ((j + 1 : Nat) : Int) []
      have HSt := hid hst
      have OJ := hid oj
      have OK := hid ok
      clear hst oj ok
      go_wp2_with fail
      refine (crash_any m S ((j : Int) + 1) none 0 0 [] wr (HD.out.below Hb.out) rfl (.inl rfl) (Nat.le_trans O.out.changes (by decide)) (O.out.crashOk (by decide) _ _)).mono ?_
      rintro e w3 ⟨mc, rfl, hX, hB3, _⟩
      rw [show ((j : Int) + 1) = ((j + 1 : Nat) : Int) by omega] at hX
      have HX := hid hX
      have HL := hid (HL.out.below hB3)
      have Hb := hid (below_on Hb.out (Nat.le_refl _) hB3)
      clear hX hB3
      obtain ⟨P, hP⟩ : ∃ P, P = crashS S (j : Int) [] := ⟨_, rfl⟩
      obtain ⟨Q, hQ⟩ : ∃ Q, Q = crashS S ((j + 1 : Nat) : Int) [] := ⟨_, rfl⟩
      rw [← hP] at HL HSt OJ
      rw [← hQ] at HX HSt OK
      obtain ⟨np, hnp⟩ : ∃ np, np = (sortedK P.names).length := ⟨_, rfl⟩
      obtain ⟨nq, hnq⟩ : ∃ nq, nq = (sortedK Q.names).length := ⟨_, rfl⟩
      have hnp80 : np ≤ 80 := by rw [hnp]; exact sorted_many OJ.out
      have hnq80 : nq ≤ 80 := by rw [hnq]; exact sorted_many OK.out
      have Hnp := hid hnp
      have Hnq := hid hnq
      have HQ := hid hQ
      clear hP hQ hnp hnq
      go_wp2_with fail
      refine (list_any ml P w3 HL.out (keysOf OJ.out (by decide))).mono ?_
      rintro e w4 ⟨q4, rfl, hF4, hB4⟩
      rw [← Hnp.out] at hF4 ⊢
      have HR4 := hid hF4.rd
      have HL := hid (HL.out.below hB4)
      have HX := hid (HX.out.below hB4)
      have Hb := hid (below_on Hb.out (Nat.le_refl _) hB4)
      clear hF4 hB4
      go_wp2_with fail
      refine (list_any mc Q w4 HX.out (keysOf OK.out (by decide))).mono ?_
      rintro e w5 ⟨q5, rfl, hF5, hB5⟩
      rw [← Hnq.out] at hF5 ⊢
      have HR5 := hid hF5.rd
      have HR4 := hid (HR4.out.below hB5)
      have HL := hid (HL.out.below hB5)
      have HX := hid (HX.out.below hB5)
      have Hb := hid (below_on Hb.out (Nat.le_refl _) hB5)
      clear hF5 hB5
      go_wp2_with fail
      refine (unlike_any q4 q5 np nq np nq (sortedK P.names) (sortedK Q.names) w5 Hnp.out.symm Hnq.out.symm (by omega) (by omega) HR4.out HR5.out (sortedK_rises OJ.out.good.keys) (sortedK_rises OK.out.good.keys)).mono ?_
      rintro e w6 ⟨rfl, hB6⟩
      have HL := hid (HL.out.below hB6)
      have HX := hid (HX.out.below hB6)
      have Hb := hid (below_on Hb.out (Nat.le_refl _) hB6)
      clear hB6 HR4 HR5
      obtain ⟨g, hg⟩ : ∃ g, g = cntOut (sortedK P.names) (sortedK Q.names) := ⟨_, rfl⟩
      obtain ⟨c, hc⟩ : ∃ c, c = cntOut (sortedK Q.names) (sortedK P.names) := ⟨_, rfl⟩
      obtain ⟨s1, s2⟩ := HSt.out
      rw [← hg] at s1 ⊢
      rw [← hc] at s2 ⊢
      have Hg := hid hg
      have Hc := hid hc
      clear hg hc
      have t1 : decide ((1 : Int) < (g : Int)) = false := by simp; omega
      have t2 : decide ((1 : Int) < (c : Int)) = false := by simp; omega
      by_cases hz : g + c = 0
      · have hnn : np = nq := by
          rw [Hnp.out, Hnq.out]
          exact cntOut_len (sortedK_nodup OJ.out.good.keys) (sortedK_nodup OK.out.good.keys) (by rw [← Hg.out]; omega) (by rw [← Hc.out]; omega)
        have t3 : ((g : Int) + (c : Int) == 0) = true := by simp; omega
        have t4 : ((np : Int) != (nq : Int)) = false := by simp; omega
        have Hz := hid hz
        have Hnn := hid hnn
        clear hz hnn
        go_wp2_with fail
        refine (list_any ml P w6 HL.out (keysOf OJ.out (by decide))).mono ?_
        rintro e w7 ⟨q7, rfl, _, hB7⟩
        rw [← Hnp.out]
        have HX := hid (HX.out.below hB7)
        have Hb := hid (below_on Hb.out (Nat.le_refl _) hB7)
        clear hB7
        go_wp2_with fail
        refine (list_any mc Q w7 HX.out (keysOf OK.out (by decide))).mono ?_
        rintro e w8 ⟨q8, rfl, _, hB8⟩
        rw [← Hnq.out]
        have HX := hid (HX.out.below hB8)
        have Hb := hid (below_on Hb.out (Nat.le_refl _) hB8)
        clear hB8
        go_wp2_with fail
        go_roundw
        case rel => exact ⟨j + 1, mc, by go_num, by omega, rfl, by rw [← HQ.out]; exact HX.out, Hb.out⟩
        case measure => simp [intOf]; omega
      · have t3 : ((g : Int) + (c : Int) == 0) = false := by simp; omega
        go_wp2_with fail
        go_roundw
        case rel => exact ⟨j + 1, mc, by go_num, by omega, rfl, by rw [← HQ.out]; exact HX.out, Hb.out⟩
        case measure => simp [intOf]; omega
    · have hjN : j = N := by omega
      have i1 : ¬ (j : Int) + 1 ≤ (N : Int) := by omega
      have hcs := crash_sorted O.out (j : Int) []
      rw [crashD_all O.out (j : Int) (by rw [← HN.out]; omega)] at hcs
      have HCS := hid hcs
      have OJ := hid (O.out.crash (j : Int) [])
      obtain ⟨ns, hns⟩ : ∃ ns, ns = (sortedK S.names).length := ⟨_, rfl⟩
      have hns80 : ns ≤ 80 := by rw [hns]; exact sorted_many O.out
      have Hns := hid hns
      clear hcs hns
      go_wp2_with fail
      refine (list_any ml (crashS S (j : Int) []) wr HL.out (keysOf OJ.out (by decide))).mono ?_
      rintro e w4 ⟨q4, rfl, hF4, hB4⟩
      rw [HCS.out, ← Hns.out] at hF4 ⊢
      have HR4 := hid hF4.rd
      have Hb := hid (below_on Hb.out (Nat.le_refl _) hB4)
      clear hF4 hB4
      go_wp2_with fail
      refine (list_any m S w4 (HD.out.below Hb.out) (keysOf O.out (by decide))).mono ?_
      rintro e w5 ⟨q5, rfl, hF5, hB5⟩
      rw [← Hns.out] at hF5 ⊢
      have HR5 := hid hF5.rd
      have HR4 := hid (HR4.out.below hB5)
      have Hb := hid (below_on Hb.out (Nat.le_refl _) hB5)
      clear hF5 hB5
      go_wp2_with fail
      refine (sameTexts_true q4 q5 ns ns ns (sortedK S.names) w5 Hns.out.symm (by omega) HR4.out HR5.out).mono ?_
      rintro e w6 ⟨rfl, hB6⟩
      have Hb := hid (below_on Hb.out (Nat.le_refl _) hB6)
      clear hB6
      go_wp2_with fail
      refine (lives4_any w6).mono ?_
      rintro e w12 ⟨rfl, hB9⟩
      go_wp2_with fail
      go_ret
      exact ⟨rfl, below_on HB.out (Nat.le_refl _) (below_on Hb.out (Nat.le_refl _) hB9)⟩
set_option maxRecDepth 100000 in
theorem disksDir_any (a : Option Addr) (len cap : Nat) (l : List ActV) (w : World) (h : ActsAt w a len l) (hlen' : len ≤ 9223372036854775807) :
    Calls Try.prog 5 #[.slice a len cap] w fun e w' => e = .returned (.bool true) ∧ Below w.heap.size w w' := by
  by_cases hlen : len ≤ 40
  · exact disksDir_small a len cap l w h hlen
  · have b1 : decide ((40 : Int) < (len : Int)) = true := by simp; omega
    clear h hlen
    go_enter Try.func5, Try.ntmps5
    go_wp2_with fail
    refine (lives4_any _).mono ?_
    rintro e w12 ⟨rfl, hB5⟩
    go_wp2_with fail
    go_ret
    exact ⟨rfl, hB5⟩
end Go.Proofs.Herb
