/- ChoresAgain's walk. -/
import Derived.Test.YtcmiillgniglaaaGreatDoorQf30
import Derived.Test.YtcmiillgniglaaaGreatDoorQf36
import Derived.Test.YtcmiillgniglaaaGreatDoorQf37
namespace Go.Proofs.Herb
open Go.RowKit Go.Sort
theorem fr_blk {w : World} {base : Nat} {e : TypeId} {k : Nat} {q : Option Addr} {n c : Nat} {xs : List Value} {P : Nat → Prop} (h : Fr w base e k (.slice q n c) n xs) (hn : ∀ b off, q = some ⟨b, off, none⟩ → P b) : ∀ x, q = some x → x.block < w.heap.size ∧ P x.block := by
  intro x hx
  rcases h.2 with ⟨h, _⟩ | ⟨g, cap, cur, hv, _, hh, _⟩
  · cases h; cases hx
  · cases hv; cases hx; exact ⟨lt_of_block hh, hn _ _ rfl⟩
set_option maxRecDepth 100000 in
set_option maxHeartbeats 6400000 in
theorem choresAgain_any (room fuse : Int) (next : Nat) (q : Option Addr) (n c : Nat) (l : List Fact) (w : World) (hn64 : next < 18446744073709551616) (hl : l.length = n) (hc : n ≤ c) (hr : Rd w q (fCells l)) (ho : ∀ f ∈ l, f.Ok) (hz : ∀ f ∈ l, f.key.size ≤ 140737488355328 ∧ f.val.size ≤ 140737488355328) (ht : Pow10 w) :
    Calls Tryz.prog 3 #[.agg #[.int .i64 room, .int .i64 fuse, .int .u64 (next : Int), .slice q n c]] w fun e w' => e = .returned (.bool true) ∧ Below w.heap.size w w' := by
  obtain ⟨w0, hw0, hbk, hb0⟩ : ∃ w0, w0 = w.alloc (.cells #[.int .i64 room, .int .i64 fuse, .int .u64 (next : Int), .slice q n c] 25) ∧ w0.heap[w.heap.size]? = some (.cells #[.int .i64 room, .int .i64 fuse, .int .u64 (next : Int), .slice q n c] 25 (0, 0)) ∧ Below w.heap.size w w0 := ⟨_, rfl, heap_alloc_new _ _, (Below.refl _ _).alloc (Nat.le_refl _) _⟩
  have y0 := cell_of_row w0 w.heap.size 0 _ _ _ hbk
  have y1 := cell_of_row w0 w.heap.size 1 _ _ _ hbk
  have y2 := cell_of_row w0 w.heap.size 2 _ _ _ hbk
  have y3 := cell_of_row w0 w.heap.size 3 _ _ _ hbk
  have HW0 := hid hw0
  have HB0 := hid hb0
  have HBk := hid hbk
  have HL := hid hl
  have HR := hid hr
  have Ho := hid ho
  have Hz := hid hz
  have HT := hid ht
  clear hw0 hbk hb0 hl hr ho hz ht
  go_enter Tryz.func3, Tryz.ntmps3
  go_upto_region 1 with fail
  rw [← HW0.out]
  go_wp2_with fail
  refine (written_any room fuse next q n c l w0 HL.out hc (HR.out.below HB0.out) Ho.out Hz.out (HT.out.below HB0.out (Nat.le_refl _))).mono ?_
  clear y0 y1 y2 y3
  rintro e w1 ⟨hb1, ⟨_, rfl⟩ | ⟨hn120, hnx, md, hd, hfp, ⟨_, rfl⟩ | ⟨hE, a, rfl, hfr, hnt⟩⟩⟩
  · have HB1 := hid (HB0.out.trans (hb1.mono HB0.out.size))
    clear hb1
    go_wp2_with fail
    refine (lives24_any w1 (HT.out.below HB1.out (Nat.le_refl _))).mono ?_
    rintro e w2 ⟨rfl, hb2⟩
    have HB2 := hid (HB1.out.trans (hb2.mono HB1.out.size))
    clear hb2
    go_wp2
    go_ret
    exact ⟨rfl, HB2.out⟩
  · have HB1 := hid (HB0.out.trans (hb1.mono HB0.out.size))
    clear hb1 hd hfp
    go_wp2_with fail
    refine (lives24_any w1 (HT.out.below HB1.out (Nat.le_refl _))).mono ?_
    rintro e w2 ⟨rfl, hb2⟩
    have HB2 := hid (HB1.out.trans (hb2.mono HB1.out.size))
    clear hb2
    go_wp2
    go_ret
    exact ⟨rfl, HB2.out⟩
  have hP := back_ok (next := next) (l := l) (by have := HL.out; omega) Ho.out hE
  have hA := again_ok (next := next) (l := l) (by rw [HL.out]; exact hn120) hnx Ho.out hE
  obtain ⟨hA1, hA2, -, ⟨m1, hm1, ok1⟩, ⟨m2, hm2, ok2⟩, hr1, hr2, hr3, hmay⟩ := hA
  obtain ⟨S, hS⟩ : ∃ S, Hid (S = cwS (newS 1048576) next l) := ⟨_, hid rfl⟩
  obtain ⟨ps, hps⟩ : ∃ ps, Hid (ps = partsL l) := ⟨_, hid rfl⟩
  have hpl := partsL_len l
  rw [← hS.out] at hP hd hA2 ok1 ok2 hr1 hr2 hr3
  rw [← hps.out] at hfr hpl hA1 hA2 ok2 hr1 hr2 hr3
  obtain ⟨TS, hTS⟩ : ∃ TS, Hid (TS = tabsF next ps) := ⟨_, hid rfl⟩
  rw [← hTS.out] at hfr hr1 hr2
  obtain ⟨N, hN⟩ : ∃ N, N = ps.length := ⟨_, rfl⟩
  rw [← hN] at hfr hpl hA1 hA2 ok2 hr2 hr3
  rw [← hps.out, ← hN]
  obtain ⟨NX, hNX⟩ : ∃ X, X = next + N := ⟨_, rfl⟩
  rw [← hNX] at hA2 ok2 hr2 hr3
  obtain ⟨S2, hS2⟩ : ∃ S2, Hid (S2 = cwS S NX l) := ⟨_, hid rfl⟩
  rw [← hS2.out] at ok2 hr2 hr3
  obtain ⟨TS2, hTS2⟩ : ∃ TS, Hid (TS = tabsF NX ps) := ⟨_, hid rfl⟩
  rw [← hTS2.out] at hr3
  have hOr := ordF_of hP.rise hmay Ho.out
  have hjoin : ps.flatten = l := by rw [hps.out]; exact hP.join
  have HB1 := hid hb1
  have bk1 := (hb1.block _ (lt_of_block HBk.out)).trans HBk.out
  have HBk1 := hid bk1
  have HP := hid hP
  have HD := hid hd
  have HFp := hid hfp
  have HRa := hid hfr.rd
  have HQa := hid (frq_none hfr)
  have HNt := hid hnt
  have HN := hid hN
  have HFl := hid hjoin
  have HE2 := hid hA2
  have Hok1 := hid ok1
  have Hok2 := hid ok2
  have Hr1 := hid hr1
  have Hr2 := hid hr2
  have Hr3 := hid hr3
  have HOr := hid hOr
  have hsz1 := HB1.out.size
  have y3 := cell_of_row w1 w.heap.size 3 _ _ _ bk1
  have HTb := hid (fr_blk hfr (P := fun b => b ∉ md.fp) hnt)
  have hp0 : 0 < w0.heap.size := by have := HT.out.lt; have := HB0.out.size; omega
  clear hb1 hd hfp hE hfr hnt hP bk1 hN hjoin hA2 ok1 ok2 hr1 hr2 hr3 hOr hmay
  go_wp2_with fail
  refine (lawalike_any q n c l w1 HL.out (by omega) (HR.out.below (HB0.out.trans (HB1.out.mono HB0.out.size)))).mono ?_
  rintro e w2 ⟨b, rfl, hal, hb2⟩
  have HB2 := hid (HB1.out.trans (hb2.mono HB1.out.size))
  have Hb2 := hid hb2
  have HAl := hid hal
  clear hb2 hal y3
  cases b
  case true =>
    go_wp2_with fail
    refine (lives24_any w2 (HT.out.below (HB0.out.trans (HB2.out.mono HB0.out.size)) (Nat.le_refl _))).mono ?_
    rintro e w3 ⟨rfl, hb3⟩
    have HB3 := hid (HB2.out.trans (hb3.mono HB2.out.size))
    clear hb3
    go_wp2
    go_ret
    exact ⟨rfl, HB0.out.trans (HB3.out.mono HB0.out.size)⟩
  have HAl2 := hid (HAl.out rfl)
  clear HAl
  have bk2 := (HB2.out.block _ (lt_of_block HBk.out)).trans HBk.out
  have HBk2 := hid bk2
  have y2 := cell_of_row w2 w.heap.size 2 _ _ _ bk2
  have wN : IntKind.u64.wrap (N : Int) = (N : Int) := by rw [IntKind.wrap_u64]; omega
  have HeX := hid (show (next : Int) + (N : Int) = (NX : Int) by omega)
  obtain ⟨NY, hNY⟩ : ∃ X, X = NX + N := ⟨_, rfl⟩
  have hNYb : NY < 18446744073709551616 := by omega
  have hNXb : NX + 6001 < 18446744073709551616 := by omega
  have hNYc : NY + 6001 < 18446744073709551616 := by omega
  have HeY := hid (show (next : Int) + (N : Int) + (N : Int) = (NY : Int) by omega)
  have hcw : Calls Tryz.prog 7 #[.pointer (some ⟨md.D, 0, none⟩), .int .u64 (NX : Int), .agg #[.int .i64 0, .int .i64 0, .slice a N N, .slice none 0 0], .slice none 0 0] w2 (WriteC md S NX l w2) := rewrite_any md S m1 NX 0 0 a N N TS ps l none 0 0 [] false w2 (HD.out.below Hb2.out) Hok1.out (by omega) hNXb (by rw [hTS.out, tabsF_len, HN.out]) (by omega) HQa.out (HRa.out.below Hb2.out) Hr1.out HFl.out (by rw [HL.out]; omega) HP.out.rise HOr.out HAl2.out Ho.out Hz.out rfl (by omega) (.inl rfl) (fun _ _ => rfl) (HT.out.below (HB0.out.trans (HB2.out.mono HB0.out.size)) (Nat.le_refl _)) (fun e => by have := HFp.out _ e; omega)
  have HCw := hid hcw
  clear hcw bk2
  go_wp2_with fail
  rw [HeX.out]
  refine HCw.out.mono ?_
  rintro e w4 ⟨md2, hd4, hD4, hM4, ⟨hE4, rfl⟩ | ⟨_, a2, rfl, hf4, hn4⟩⟩
  · exact absurd HE2.out hE4
  rw [← hS2.out] at hd4
  rw [← hps.out, ← hTS2.out, ← HN.out] at hf4
  rw [← hps.out, ← HN.out, ← hNY]
  have hm4 := hM4.belowB (B := w0.heap.size) HFp.out HB2.out.size
  have HB4 := hid (HB2.out.trans hm4.1)
  have HFp4 := hid hm4.2
  have HD4 := hid hd4
  have HDD4 := hid hD4
  have HRa4 := hid (show Rd w4 a (tbCells TS) from rd_far (HRa.out.below Hb2.out) fun x hx => by
    obtain ⟨h1, h2⟩ := HTb.out x hx
    exact hM4.block x.block (by have := Hb2.out.size; omega) h2)
  have HRb4 := hid hf4.rd
  have HTb4 := hid (fr_blk hf4 (P := fun b => b ∉ md2.fp) hn4)
  have bk4 := (HB4.out.block _ (lt_of_block HBk.out)).trans HBk.out
  have y3 := cell_of_row w4 w.heap.size 3 _ _ _ bk4
  have cE : cwE S2 NY [] = 0 := by
    unfold cwE
    rw [if_neg (by rw [riseB_yes (fun i h => absurd h (by simp))]; decide), if_neg (fun h => h rfl)]
    rfl
  have cS : cwS S2 NY [] = S2 := by
    unfold cwS
    rw [if_neg (by rw [riseB_yes (fun i h => absurd h (by simp))]; decide), if_neg (fun h => h rfl)]
    rfl
  have HcE := hid cE
  have HcS := hid cS
  have hcw : Calls Tryz.prog 7 #[.pointer (some ⟨md2.D, 0, none⟩), .int .u64 (NY : Int), .agg #[.int .i64 0, .int .i64 0, .slice a N N, .slice none 0 0], .slice q n c] w4 (WriteC md2 S2 NY [] w4) := rewrite_any md2 S2 m2 NY 0 0 a N N TS ps l q n c l true w4 HD4.out Hok2.out (by omega) hNYc (by rw [hTS.out, tabsF_len, HN.out]) (by omega) HQa.out HRa4.out Hr2.out HFl.out (by rw [HL.out]; omega) HP.out.rise HOr.out HAl2.out Ho.out Hz.out HL.out (by omega) (HR.out.below (HB0.out.trans (HB4.out.mono HB0.out.size))) (fun f hf => List.any_eq_true.2 ⟨f, hf, alikeF_self f⟩) (HT.out.below (HB0.out.trans (HB4.out.mono HB0.out.size)) (Nat.le_refl _)) (fun e => by have := HFp4.out _ e; omega)
  rw [HDD4.out] at hcw
  have HCw2 := hid hcw
  clear hcw hd4 hD4 hM4 hf4 hn4 hm4 bk4 cE cS
  go_wp2_with fail
  rw [HeY.out]
  refine HCw2.out.mono ?_
  rintro e w6 ⟨md3, hd6, hD6, hM6, ⟨hE6, rfl⟩ | ⟨_, a3, rfl, _, _⟩⟩
  · exact absurd HcE.out hE6
  rw [HcS.out] at hd6
  have ePL : (partsL []).length = 0 := rfl
  rw [ePL, Nat.add_zero]
  have hm6 := hM6.belowB (B := w0.heap.size) HFp4.out HB4.out.size
  have HB6 := hid (HB4.out.trans hm6.1)
  have HD6 := hid hd6
  have HDD6 := hid (hD6.trans HDD4.out)
  have HRb6 := hid (show Rd w6 a2 (tbCells TS2) from rd_far HRb4.out fun x hx => by
    obtain ⟨h1, h2⟩ := HTb4.out x hx
    exact hM6.block x.block h1 h2)
  clear hd6 hD6 hM6 hm6 y2 y3
  have HI0 := hid (show w6.ownsRow w6.heap.size 50 6 (.slice none 0 0) (((ps.take 0).flatten).length) (fCells ((ps.take 0).flatten)) from World.ownsRow_nil _ _ _ _)
  have hbl6 : w.heap.size < w6.heap.size := by have := lt_of_block HBk.out; have := HB6.out.size; omega
  go_wp2_with fail
  go_loopw [13, 14] (fun o i wr => ∃ k : Nat, i = .int .i64 (k : Int) ∧ k ≤ N ∧ wr.ownsRow w6.heap.size 50 6 o (((ps.take k).flatten).length) (fCells ((ps.take k).flatten)) ∧ Below w6.heap.size w6 wr) (fun _ i _ => N - (intOf i).toNat)
  case atStart => exact ⟨0, rfl, Nat.zero_le _, HI0.out, Below.refl _ _⟩
  case round =>
    obtain ⟨k, rfl, hk, hown, hbr⟩ := hrel
    obtain ⟨qo, co, rfl, hco1, hco2, hco3⟩ := own_shape hown
    have HOwn := hid hown
    have HBr := hid hbr
    have hszr := hbr.size
    obtain ⟨DL, hDL⟩ : ∃ DL, Hid (DL = ((ps.take k).flatten).length) := ⟨_, hid rfl⟩
    have hDL6 : DL ≤ 120 := by
      have h := HFl.out
      rw [← List.take_append_drop k ps, List.flatten_append] at h
      have h2 := HL.out
      rw [← h, List.length_append] at h2
      have := hDL.out
      omega
    rw [← hDL.out] at HOwn hco1 ⊢
    have HBw := hid (HB6.out.trans (hbr.mono HB6.out.size))
    clear hown hbr
    by_cases hlt : k < N
    · have hkp : k < ps.length := by rw [← HN.out]; exact hlt
      obtain ⟨p, hp⟩ : ∃ p, p = ps[k] := ⟨_, rfl⟩
      have hpk : ps[k]? = some p := by rw [List.getElem?_eq_getElem hkp, hp]
      obtain ⟨t, ht⟩ : ∃ t, Hid (t = tabOf (NX + k) p) := ⟨_, hid rfl⟩
      have htk : TS2[k]? = some t := by rw [hTS2.out, tabsF_get, hpk, ht.out]; rfl
      obtain ⟨e1, e2, -, -, -, -, -, -⟩ := HP.out.each k p (by rw [← hps.out]; exact hpk)
      obtain ⟨p', hp', h64, h32, hkn, htab, hfit⟩ := Hr3.out.each k t htk
      obtain rfl : p' = p := by rw [hpk] at hp'; exact (Option.some.inj hp').symm
      obtain ⟨tb, to_, ea, htl, c0, c1, c2, c3⟩ := tabRd_at (HRb6.out.below HBr.out) htk
      have i0 : (0 : Int) ≤ (k : Int) := by omega
      have i1 : (k : Int) < (N : Int) := by omega
      have HRbr := hid (HRb6.out.below HBr.out)
      have hcr := chread_any md3 S2 m2 t wr (HD6.out.below HBr.out) Hok2.out h64 h32 hfit (HT.out.below (HB0.out.trans (HBw.out.mono HB0.out.size)) (Nat.le_refl _))
      rw [HDD6.out] at hcr
      have HCr := hid hcr
      have HKn := hid hkn
      have HTab := hid htab
      have HPk := hid hpk
      have HTk := hid htk
      obtain ⟨M, hM⟩ : ∃ M, Hid (M = p'.length) := ⟨_, hid rfl⟩
      rw [← hM.out] at e1 e2
      have hM120 : M ≤ 120 := by have := HL.out; omega
      subst ea
      clear hcr hkn htab hpk htk hp hp' hkp hfit
      go_wp2_with fail
      refine HCr.out.mono ?_
      rintro e w7 ⟨hb7, hcase⟩
      obtain ⟨qp, rfl, hF7⟩ : ∃ qp, e = .returned (.tuple #[.slice qp M M, .int .i64 0]) ∧ Fr w7 wr.heap.size 50 6 (.slice qp M M) M (fCells p') := by
        rcases hcase with ⟨h, _⟩ | ⟨_, h, _⟩ | ⟨fs, _, h, qp, h2, h3⟩
        · rw [HKn.out] at h; cases h
        · exact absurd ⟨p', HKn.out, HTab.out⟩ h
        · obtain rfl := h.one HTab.out
          exact ⟨qp, by rw [hM.out]; exact h2, by rw [hM.out]; exact h3⟩
      clear hcase
      have HB7 := hid (HBr.out.trans (hb7.mono HBr.out.size))
      have HF7 := hid hF7
      have HQ7 := hid (frq_none hF7)
      have HMl := hid (show M = p'.length from hM.out)
      have Hb7 := hid hb7
      have hmv : ∀ j, w7.cell? ⟨tb, j, none⟩ = wr.cell? ⟨tb, j, none⟩ := fun j => hb7.cell (p := ⟨tb, j, none⟩) htl
      rw [← hmv] at c0 c1 c2 c3
      have hTk1 : (ps.take (k + 1)).flatten = (ps.take k).flatten ++ p' := by
        obtain ⟨h1, h2⟩ := List.getElem?_eq_some_iff.1 HPk.out
        rw [List.take_succ_eq_append_getElem h1, h2, List.flatten_append, List.flatten_cons, List.flatten_nil, List.append_nil]
      have hTl : DL + M = ((ps.take (k + 1)).flatten).length := by rw [hTk1, List.length_append, ← hDL.out, ← HMl.out]
      have HTk1 := hid hTk1
      have HTl := hid hTl
      clear hTk1 hTl hmv hF7 hb7
      by_cases hk0 : k = 0
      · have bK : decide ((0 : Int) < (k : Int)) = false := by simp; omega
        have bK2 : decide (0 < k) = false := by simp; omega
        clear hk0
        go_upto_region 14 with fail
        go_quiet (fail)
        have HB8 := hid (below_drewN HB7.out nq)
        have HF8 := hid (show Fr (w7.drewN nq) wr.heap.size 50 6 (.slice qp M M) M (fCells p') from HF7.out)
        have HOw8 := hid (own_below HOwn.out (below_drewN Hb7.out nq))
        obtain ⟨w8, hw8⟩ : ∃ x, x = w7.drewN nq := ⟨_, rfl⟩
        rw [← hw8] at HB8 HF8 HOw8 ⊢
        clear hw8 c0 c1 c2 c3
        go_wp2_with (refine wpList_append_rd rfl (.tmp 108) (.tmp 109) 23 rfl w6.heap.size 50 _ 6 64 Tryz.underlying23 infoFact6 rfl (by decide) (.slice qo DL co) DL (fCells ((ps.take k).flatten)) rfl HOw8.out qp M M (fCells p') rfl HQ7.out (by rw [fCells_len, ← HMl.out]) HF8.out.rd (fCells_one p') (by unfold maxLen; omega) (by omega) HB8.out.size ?_; intro v9 w9 hown9 hg9 _; have HO9 := hid hown9; have HG9 := hid hg9; clear hown9 hg9)
        have hown9 := HO9.out
        have HB9 := hid (HB8.out.grown HG9.out HB8.out.size (fun b hb => (bown_lt HOw8.out b hb).1))
        rw [← fCells_append, ← HTk1.out, HTl.out] at hown9
        obtain ⟨q9, c9, rfl, _, _, _⟩ := own_shape hown9
        have HOx := hid hown9
        clear hown9 HO9
        go_roundw
        case rel => exact ⟨k + 1, by go_num, by omega, HOx.out, HB9.out⟩
        case measure => simp [intOf]; omega
      · have bK : (0 : Int) < (k : Int) := by omega
        have bK2 : 0 < k := by omega
        obtain ⟨j, hj⟩ : ∃ j, Hid (j + 1 = k) := ⟨k - 1, hid (by omega)⟩
        have hjp : j < ps.length := by rw [← HN.out]; have := hj.out; omega
        obtain ⟨p2, hp2⟩ : ∃ p, ps[j]? = some p := ⟨_, List.getElem?_eq_getElem hjp⟩
        obtain ⟨t2, ht2⟩ : ∃ t, t = tabOf (NX + j) p2 := ⟨_, rfl⟩
        have htk2 : TS2[j]? = some t2 := by rw [hTS2.out, tabsF_get, hp2, ht2]; rfl
        obtain ⟨tb', to', ea', _, _, _, _, c4⟩ := tabRd_at (HRbr.out.below Hb7.out) htk2
        cases ea'
        have hbd := HP.out.border j p2 p' (by rw [← hps.out]; exact hp2) (by rw [← hps.out, hj.out]; exact HPk.out)
        have hbd' : Op.bytesLess t2.high.toList t.low.toList = true := by rw [ht2, ht.out]; exact hbd
        have wj : IntKind.i64.wrap ((k : Int) - 1) = (j : Int) := by have := hj.out; rw [IntKind.wrap_i64]; omega
        have j3 : (0 : Int) ≤ (j : Int) := by omega
        have j4 : (j : Int) < (N : Int) := by have := hj.out; omega
        clear hk0 hjp hp2 ht2 htk2 hbd
        go_upto_region 14 with fail
        go_quiet (fail)
        have HB8 := hid (below_drewN HB7.out nq)
        have HF8 := hid (show Fr (w7.drewN nq) wr.heap.size 50 6 (.slice qp M M) M (fCells p') from HF7.out)
        have HOw8 := hid (own_below HOwn.out (below_drewN Hb7.out nq))
        obtain ⟨w8, hw8⟩ : ∃ x, x = w7.drewN nq := ⟨_, rfl⟩
        rw [← hw8] at HB8 HF8 HOw8 ⊢
        clear hw8 c0 c1 c2 c3 wj c4 hbd'
        go_wp2_with (refine wpList_append_rd rfl (.tmp 108) (.tmp 109) 23 rfl w6.heap.size 50 _ 6 64 Tryz.underlying23 infoFact6 rfl (by decide) (.slice qo DL co) DL (fCells ((ps.take k).flatten)) rfl HOw8.out qp M M (fCells p') rfl HQ7.out (by rw [fCells_len, ← HMl.out]) HF8.out.rd (fCells_one p') (by unfold maxLen; omega) (by omega) HB8.out.size ?_; intro v9 w9 hown9 hg9 _; have HO9 := hid hown9; have HG9 := hid hg9; clear hown9 hg9)
        have hown9 := HO9.out
        have HB9 := hid (HB8.out.grown HG9.out HB8.out.size (fun b hb => (bown_lt HOw8.out b hb).1))
        rw [← fCells_append, ← HTk1.out, HTl.out] at hown9
        obtain ⟨q9, c9, rfl, _, _, _⟩ := own_shape hown9
        have HOx := hid hown9
        clear hown9 HO9
        go_roundw
        case rel => exact ⟨k + 1, by go_num, by omega, HOx.out, HB9.out⟩
        case measure => simp [intOf]; omega
    · obtain rfl : k = N := by omega
      have hall : (ps.take k).flatten = l := by rw [List.take_of_length_le (by rw [← HN.out]; exact Nat.le_refl _)]; exact HFl.out
      rw [hall] at HOwn hDL
      have hDn : DL = n := hDL.out.trans HL.out
      subst hDn
      have y3 := cell_of_row wr w.heap.size 3 _ _ _ ((HBw.out.block _ (lt_of_block HBk.out)).trans HBk.out)
      have hsf := same_facts qo q DL co DL c l l wr HL.out HL.out (by omega) (by omega) (Fr.of_own HOwn.out).rd (HR.out.below (HB0.out.trans (HBw.out.mono HB0.out.size)))
      have HSf := hid hsf
      clear hall hsf
      go_wp2_with fail
      refine HSf.out.mono ?_
      rintro e wa ⟨x, rfl, hx, hba⟩
      obtain rfl : x = true := by simpa using hx
      have HBa := hid (HBw.out.trans (hba.mono HBw.out.size))
      have Hba := hid hba
      clear hba hx y3
      have hso := sorted23_any qo DL co l wa HL.out (by omega) HOr.out ((Fr.of_own HOwn.out).rd.below Hba.out)
      have HSo := hid hso
      clear hso
      go_wp2_with fail
      refine HSo.out.mono ?_
      rintro e wb ⟨q8, c8, rfl, hown8, hbb⟩
      have HBb := hid (HBa.out.trans (hbb.mono HBa.out.size))
      have hsf := same_facts q8 qo DL c8 DL co l l wb HL.out HL.out (by omega) (by omega) (Fr.of_own hown8).rd (((Fr.of_own HOwn.out).rd.below Hba.out).below hbb)
      have HSf2 := hid hsf
      clear hsf hown8 hbb
      go_wp2_with fail
      refine HSf2.out.mono ?_
      rintro e wc ⟨x, rfl, hx, hbc⟩
      obtain rfl : x = true := by simpa using hx
      have HBc := hid (HBb.out.trans (hbc.mono HBb.out.size))
      clear hbc hx
      go_wp2_with fail
      refine (lives24_any wc (HT.out.below (HB0.out.trans (HBc.out.mono HB0.out.size)) (Nat.le_refl _))).mono ?_
      rintro e wd ⟨rfl, hbd⟩
      have HBd := hid (HBc.out.trans (hbd.mono HBc.out.size))
      clear hbd
      go_wp2
      go_ret
      exact ⟨rfl, HB0.out.trans (HBd.out.mono HB0.out.size)⟩
end Go.Proofs.Herb
