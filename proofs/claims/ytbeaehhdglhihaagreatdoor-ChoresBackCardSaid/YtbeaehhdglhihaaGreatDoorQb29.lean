/- ChoresBack's walk. -/
import Derived.Test.YtbeaehhdglhihaaGreatDoorQb20
import Derived.Test.YtbeaehhdglhihaaGreatDoorQb27
import Derived.Test.YtbeaehhdglhihaaGreatDoorQb28
namespace Go.Proofs.Herb
open Go.RowKit Go.Sort
theorem tbCells_at {ts : List Tab} {k : Nat} {t : Tab} (h : ts[k]? = some t) (j : Nat) (hj : j < 4) : (tbCells ts)[k * 4 + j]? = t.cells[j]? := by
  induction ts generalizing k with
  | nil => simp at h
  | cons x r ih =>
    have e : tbCells (x :: r) = x.cells ++ tbCells r := rfl
    cases k with
    | zero =>
      rw [List.getElem?_cons_zero] at h
      cases h
      rw [e, List.getElem?_append_left (by simp [Tab.cells]; omega), Nat.zero_mul, Nat.zero_add]
    | succ k =>
      rw [List.getElem?_cons_succ] at h
      rw [e, List.getElem?_append_right (by simp [Tab.cells]; omega), show (k + 1) * 4 + j - x.cells.length = k * 4 + j by simp [Tab.cells]; omega]
      exact ih h
/-- a slice of tables, read: its cells -/
theorem tab_at {w : World} {b0 : Nat} {a : Option Addr} {N : Nat} {ts : List Tab} (hF : Fr w b0 54 4 (.slice a N N) N (tbCells ts)) (hN : 0 < N) :
    ∃ tb : Nat, a = some ⟨tb, 0, none⟩ ∧ b0 ≤ tb ∧ tb < w.heap.size ∧ ∀ k t, ts[k]? = some t → k < N → w.cell? ⟨tb, k * 4, none⟩ = some (.int .u64 (t.file : Int)) ∧ w.cell? ⟨tb, k * 4 + 1, none⟩ = some (.int .u32 (t.bytes : Int)) ∧ w.cell? ⟨tb, k * 4 + 2, none⟩ = some (.string t.low) ∧ w.cell? ⟨tb, k * 4 + 3, none⟩ = some (.string t.high) := by
  rcases hF.2 with ⟨e, h0⟩ | ⟨g, cap, cur, e, hge, hh, _, _, _, hcur⟩
  · cases e; omega
  · cases e
    refine ⟨g, rfl, hge, lt_of_block hh, fun k t hk hN => ?_⟩
    have h1 : ∀ j u, j < 4 → t.cells[j]? = some u → w.cell? ⟨g, k * 4 + j, none⟩ = some u := fun j u hj hu => by
      have h2 := tbCells_at hk j hj
      rw [hu] at h2
      rw [cell_of_row w g _ _ _ _ hh]
      rw [← hcur, List.getElem?_take_of_lt (by omega)] at h2
      simpa using h2
    exact ⟨h1 0 _ (by omega) rfl, h1 1 _ (by omega) rfl, h1 2 _ (by omega) rfl, h1 3 _ (by omega) rfl⟩
set_option maxRecDepth 100000 in
set_option maxHeartbeats 6400000 in
theorem choresBack_any (room fuse : Int) (next : Nat) (q : Option Addr) (n c : Nat) (l : List Fact) (w : World) (hn64 : next < 18446744073709551616) (hl : l.length = n) (hc : n ≤ c) (hr : Rd w q (fCells l)) (ho : ∀ f ∈ l, f.Ok) (hz : ∀ f ∈ l, f.key.size ≤ 140737488355328 ∧ f.val.size ≤ 140737488355328) (ht : Pow10 w) :
    Calls Tryz.prog 6 #[.agg #[.int .i64 room, .int .i64 fuse, .int .u64 (next : Int), .slice q n c]] w fun e w' => e = .returned (.bool true) ∧ Below w.heap.size w w' := by
  obtain ⟨w0, hw0, hbk, hb0⟩ : ∃ w0, w0 = w.alloc (.cells #[.int .i64 room, .int .i64 fuse, .int .u64 (next : Int), .slice q n c] 25) ∧ w0.heap[w.heap.size]? = some (.cells #[.int .i64 room, .int .i64 fuse, .int .u64 (next : Int), .slice q n c] 25 (0, 0)) ∧ Below w.heap.size w w0 := ⟨_, rfl, heap_alloc_new _ _, (Below.refl _ _).alloc (Nat.le_refl _) _⟩
  have y0 := cell_of_row w0 w.heap.size 0 _ _ _ hbk
  have y1 := cell_of_row w0 w.heap.size 1 _ _ _ hbk
  have y2 := cell_of_row w0 w.heap.size 2 _ _ _ hbk
  have y3 := cell_of_row w0 w.heap.size 3 _ _ _ hbk
  have HW0 := hid hw0
  have HB0 := hid hb0
  have HBk := hid hbk
  have HL := hid hl
  have HR := hid hr
  have Ho := hid ho
  have Hz := hid hz
  have HT := hid ht
  clear hw0 hbk hb0 hl hr ho hz ht
  go_enter Tryz.func6, Tryz.ntmps6
  go_upto_region 1 with fail
  rw [← HW0.out]
  go_wp2_with fail
  refine (written_any room fuse next q n c l w0 HL.out hc (HR.out.below HB0.out) Ho.out Hz.out (HT.out.below HB0.out (Nat.le_refl _))).mono ?_
  clear y0 y1 y2 y3
  rintro e w1 ⟨hb1, ⟨_, rfl⟩ | ⟨hn120, hnx, md, hd, hfp, ⟨_, rfl⟩ | ⟨hE, a, rfl, hfr, _⟩⟩⟩
  · have HB1 := hid (HB0.out.trans (hb1.mono HB0.out.size))
    clear hb1
    go_wp2_with fail
    refine (lives24_any w1 (HT.out.below HB1.out (Nat.le_refl _))).mono ?_
    rintro e w2 ⟨rfl, hb2⟩
    have HB2 := hid (HB1.out.trans (hb2.mono HB1.out.size))
    clear hb2
    go_wp2
    go_ret
    exact ⟨rfl, HB2.out⟩
  · have HB1 := hid (HB0.out.trans (hb1.mono HB0.out.size))
    clear hb1 hd hfp
    go_wp2_with fail
    refine (lives24_any w1 (HT.out.below HB1.out (Nat.le_refl _))).mono ?_
    rintro e w2 ⟨rfl, hb2⟩
    have HB2 := hid (HB1.out.trans (hb2.mono HB1.out.size))
    clear hb2
    go_wp2
    go_ret
    exact ⟨rfl, HB2.out⟩
  have hP := back_ok (next := next) (l := l) (by have := HL.out; omega) Ho.out hE
  obtain ⟨S, hS⟩ : ∃ S, Hid (S = cwS (newS 1048576) next l) := ⟨_, hid rfl⟩
  obtain ⟨ps, hps⟩ : ∃ ps, Hid (ps = partsL l) := ⟨_, hid rfl⟩
  have hpl := partsL_len l
  rw [← hS.out] at hP hd
  rw [← hps.out] at hfr hpl
  obtain ⟨TS, hTS⟩ : ∃ TS, Hid (TS = tabsF next ps) := ⟨_, hid rfl⟩
  rw [← hTS.out] at hfr
  obtain ⟨N, hN⟩ : ∃ N, N = ps.length := ⟨_, rfl⟩
  rw [← hN] at hfr hpl
  rw [← hps.out, ← hN]
  have hN6 : N ≤ 120 := by have := HL.out; omega
  obtain ⟨NO, hNO6, hOk⟩ := hP.ok
  have hks : (sortedK S.names).length = N := by rw [sortedK_len, hP.many, ← hps.out, hN]
  have HB1 := hid (HB0.out.trans (hb1.mono HB0.out.size))
  have bk1 := (hb1.block _ (lt_of_block HBk.out)).trans HBk.out
  have HBk1 := hid bk1
  have HP := hid hP
  have HD := hid hd
  have HOk := hid hOk
  have HKs := hid hks
  have HFr := hid (fr_mono hfr HB0.out.size)
  have HN := hid hN
  have HFl := hid (show ps.flatten = l by rw [hps.out]; exact hP.join)
  have hsz1 := HB1.out.size
  have bkl := lt_of_block bk1
  clear hb1 hd hfp hE hfr hP hOk hks hN bk1
  have HI0 := hid (show w1.ownsRow w1.heap.size 65 6 (.slice none 0 0) (((ps.take 0).flatten).length) (fCells ((ps.take 0).flatten)) from World.ownsRow_nil _ _ _ _)
  go_wp2_with fail
  go_loopw [6, 7] (fun o i wr => ∃ k : Nat, i = .int .i64 (k : Int) ∧ k ≤ N ∧ wr.ownsRow w1.heap.size 65 6 o (((ps.take k).flatten).length) (fCells ((ps.take k).flatten)) ∧ Below w1.heap.size w1 wr) (fun _ i _ => N - (intOf i).toNat)
  case atStart => exact ⟨0, rfl, Nat.zero_le _, HI0.out, Below.refl _ _⟩
  case round =>
    obtain ⟨k, rfl, hk, hown, hbr⟩ := hrel
    obtain ⟨qo, co, rfl, hco1, hco2, hco3⟩ := own_shape hown
    have HOwn := hid hown
    have HBr := hid hbr
    have hszr := hbr.size
    obtain ⟨DL, hDL⟩ : ∃ DL, Hid (DL = ((ps.take k).flatten).length) := ⟨_, hid rfl⟩
    have hDL6 : DL ≤ 120 := by
      have h := HFl.out
      rw [← List.take_append_drop k ps, List.flatten_append] at h
      have h2 := HL.out
      rw [← h, List.length_append] at h2
      have := hDL.out
      omega
    rw [← hDL.out] at HOwn ⊢
    clear hown hbr
    by_cases hlt : k < N
    · have hkp : k < ps.length := by rw [← HN.out]; exact hlt
      obtain ⟨p, hp⟩ : ∃ p, p = ps[k] := ⟨_, rfl⟩
      have hpk : ps[k]? = some p := by rw [List.getElem?_eq_getElem hkp, hp]
      obtain ⟨t, ht⟩ : ∃ t, Hid (t = tabOf (next + k) p) := ⟨_, hid rfl⟩
      have htk : TS[k]? = some t := by rw [hTS.out, tabsF_get, hpk, ht.out]; rfl
      have hE := HP.out.each k p (by rw [← hps.out]; exact hpk)
      obtain ⟨f, g, hf, hg, hfk, hgk⟩ := HP.out.ends k p (by rw [← hps.out]; exact hpk)
      obtain ⟨e1, e2, e3, e4, e5, e6, e7, e8⟩ := hE
      have htb : t.bytes ≤ 65536 := by rw [ht.out]; exact (buildE_zero.1 e3).2
      have htf : t.file = next + k := by rw [ht.out]; rfl
      rw [← ht.out] at e6 hfk hgk
      obtain ⟨tb, ea, hge, htl, hcells⟩ := tab_at HFr.out (show 0 < N by omega)
      subst ea
      have hrow : ∀ k t, TS[k]? = some t → k < N → wr.cell? ⟨tb, k * 4, none⟩ = some (.int .u64 (t.file : Int)) ∧ wr.cell? ⟨tb, k * 4 + 1, none⟩ = some (.int .u32 (t.bytes : Int)) ∧ wr.cell? ⟨tb, k * 4 + 2, none⟩ = some (.string t.low) ∧ wr.cell? ⟨tb, k * 4 + 3, none⟩ = some (.string t.high) := fun k t h1 h2 => by
        obtain ⟨g1, g2, g3, g4⟩ := hcells k t h1 h2
        exact ⟨(HBr.out.cell (p := ⟨tb, _, none⟩) htl).trans g1, (HBr.out.cell (p := ⟨tb, _, none⟩) htl).trans g2, (HBr.out.cell (p := ⟨tb, _, none⟩) htl).trans g3, (HBr.out.cell (p := ⟨tb, _, none⟩) htl).trans g4⟩
      obtain ⟨c0, c1, c2, c3⟩ := hrow k t htk hlt
      have i0 : (0 : Int) ≤ (k : Int) := by omega
      have i1 : (k : Int) < (N : Int) := by omega
      have HCells := hid hcells
      have HTk := hid htk
      have HPk := hid hpk
      have HF0 := hid hf
      have HG0 := hid hg
      have htlr : tb < wr.heap.size := by omega
      have hcr := chread_any md S NO t wr (HD.out.below HBr.out) HOk.out (by omega) (by omega) (by rw [htf]; exact e7) (HT.out.below (HB1.out.trans (HBr.out.mono HB1.out.size)) (Nat.le_refl _))
      rw [htf] at hcr
      have HCr := hid hcr
      have HFk := hid hfk
      have HGk := hid hgk
      have HE5 := hid e5
      have HE6 := hid e6
      obtain ⟨M, hM⟩ : ∃ M, Hid (M = p.length) := ⟨_, hid rfl⟩
      rw [← hM.out] at e1 e2
      have hM120 : M ≤ 120 := by have := HL.out; omega
      obtain ⟨NX, hNX⟩ : ∃ NX, NX = next + k := ⟨_, rfl⟩
      have HNX := hid hNX
      rw [htf, ← hNX] at c0
      rw [← hNX] at hcr
      clear e2 e3 e4 e5 e6 e7 e8 hcells htk hpk hp hkp hf hg hfk hgk hcr hrow htb
      go_wp2_with fail
      refine HCr.out.mono ?_
      rintro e w5 ⟨hb5, hcase⟩
      obtain ⟨qp, rfl, hF5⟩ : ∃ qp, e = .returned (.tuple #[.slice qp M M, .int .i64 0]) ∧ Fr w5 wr.heap.size 65 6 (.slice qp M M) M (fCells p) := by
        rw [htf] at hcase
        rcases hcase with ⟨h, _⟩ | ⟨_, h, _⟩ | ⟨fs, _, h, qp, h2, h3⟩
        · rw [HE5.out] at h; cases h
        · exact absurd ⟨p, HE5.out, HE6.out⟩ h
        · obtain rfl := h.one HE6.out
          exact ⟨qp, by rw [hM.out]; exact h2, by rw [hM.out]; exact h3⟩
      clear hcase
      have HB5 := hid (HBr.out.trans (hb5.mono HBr.out.size))
      have HF5 := hid hF5
      have hM0 : 0 < p.length := by rw [← hM.out]; exact e1
      have hM1 : M - 1 < p.length := by rw [← hM.out]; omega
      obtain ⟨b4, o4, ea, hb4, hf0⟩ := fact_at hF5.rd hM0
      obtain ⟨b5, o5, eb, _, hf1⟩ := fact_at hF5.rd hM1
      rw [ea] at eb
      cases eb
      subst ea
      have ef : p[0] = f := by have := HF0.out; rw [List.getElem?_eq_getElem hM0] at this; exact Option.some.inj this
      have eg : p[M - 1] = g := by have := HG0.out; rw [← hM.out, List.getElem?_eq_getElem hM1] at this; exact Option.some.inj this
      rw [ef, Nat.zero_mul, Nat.add_zero] at hf0
      rw [eg] at hf1
      obtain ⟨M1, hM1d⟩ : ∃ M1, M1 = M - 1 := ⟨_, rfl⟩
      rw [← hM1d] at hf1
      have k0 := hf0.c0
      have k1 := hf1.c0
      rw [HFk.out] at k0
      rw [HGk.out] at k1
      have z0 : ((M : Int) == 0) = false := by simp; omega
      have j0 : (0 : Int) < (M : Int) := by omega
      have j1 : (0 : Int) ≤ (M1 : Int) := by omega
      have j2 : (M1 : Int) < (M : Int) := by omega
      have wM : IntKind.i64.wrap ((M : Int) - 1) = (M1 : Int) := by rw [IntKind.wrap_i64]; omega
      have hmv : ∀ j, w5.cell? ⟨tb, j, none⟩ = wr.cell? ⟨tb, j, none⟩ := fun j => hb5.cell (p := ⟨tb, j, none⟩) htlr
      rw [← hmv] at c0 c1 c2 c3
      have y2 := cell_of_row w5 w.heap.size 2 _ _ _ (((HBr.out.trans (hb5.mono HBr.out.size)).block _ (by omega)).trans HBk1.out)
      have wk : IntKind.u64.wrap (k : Int) = (k : Int) := by rw [IntKind.wrap_u64]; omega
      have wn : IntKind.u64.wrap ((next : Int) + (k : Int)) = (NX : Int) := by rw [IntKind.wrap_u64]; omega
      have HM1 := hid hM1d
      have HMl := hid (show M = p.length from hM.out)
      have hb5' := hb5
      clear hb5 hF5 hM0 hM1 hb4 hf0 hf1 ef eg hmv hM1d
      have hTk1 : (ps.take (k + 1)).flatten = (ps.take k).flatten ++ p := by
        have h := HPk.out
        obtain ⟨h1, h2⟩ := List.getElem?_eq_some_iff.1 h
        rw [List.take_succ_eq_append_getElem h1, h2, List.flatten_append, List.flatten_cons, List.flatten_nil, List.append_nil]
      have hTl : DL + M = ((ps.take (k + 1)).flatten).length := by rw [hTk1, List.length_append, ← hDL.out, ← HMl.out]
      have HTk1 := hid hTk1
      have HTl := hid hTl
      have Hb5 := hid hb5'
      clear hTk1 hTl hb5'
      by_cases hk0 : k = 0
      · have bK : decide ((0 : Int) < (k : Int)) = false := by simp; omega
        have bK2 : decide (0 < k) = false := by simp; omega
        clear hk0 hNX
        go_upto_region 9 with fail
        try simp only [List.append_eq, List.cons_append, List.nil_append]
        go_quiet (fail)
        have HB6 := hid (below_drewN HB5.out nq)
        have HF6 := hid (show Fr (w5.drewN nq) wr.heap.size 65 6 (.slice (some ⟨b4, o4, none⟩) M M) M (fCells p) from HF5.out)
        have HOw6 := hid (own_below HOwn.out (below_drewN Hb5.out nq))
        obtain ⟨w6, hw6⟩ : ∃ w6, w6 = w5.drewN nq := ⟨_, rfl⟩
        rw [← hw6] at HB6 HF6 HOw6 ⊢
        clear hw6 c0 c1 c2 c3 k0 k1 y2 z0 wM wk wn bK bK2
        go_wp2_with (refine wpList_append_rd rfl (.tmp 99) (.tmp 100) 23 rfl w1.heap.size 65 _ 6 64 Tryz.underlying23 infoFact6 rfl (by decide) (.slice qo DL co) DL (fCells ((ps.take k).flatten)) rfl HOw6.out (some ⟨b4, o4, none⟩) M M (fCells p) rfl (fun h => by cases h) (by rw [fCells_len, ← HMl.out]) HF6.out.rd (fCells_one p) (by unfold maxLen; omega) (by omega) HB6.out.size ?_; intro v7 w7 hown7 hg7 _; have HO7 := hid hown7; have HG7 := hid hg7; clear hown7 hg7)
        have hown7 := HO7.out
        have hs7 : w1.heap.size ≤ w6.heap.size := HB6.out.size
        have HB7 := hid (HB6.out.grown HG7.out HB6.out.size (fun b hb => (bown_lt HOw6.out b hb).1))
        rw [← fCells_append, ← HTk1.out, HTl.out] at hown7
        obtain ⟨q7, c7, rfl, _, _, _⟩ := own_shape hown7
        have HO8 := hid hown7
        clear hown7 HO7
        go_roundw
        case rel => exact ⟨k + 1, by go_num, by omega, HO8.out, HB7.out⟩
        case measure => simp [intOf]; omega
      · have bK : decide ((0 : Int) < (k : Int)) = true := by simp; omega
        have bK2 : decide (0 < k) = true := by simp; omega
        obtain ⟨j, hj⟩ : ∃ j, j = k - 1 := ⟨_, rfl⟩
        have hjk : j + 1 = k := by omega
        have hjp : j < ps.length := by rw [← HN.out]; omega
        obtain ⟨p2, hp2⟩ : ∃ p, ps[j]? = some p := ⟨_, List.getElem?_eq_getElem hjp⟩
        obtain ⟨t2, ht2⟩ : ∃ t, t = tabOf (next + j) p2 := ⟨_, rfl⟩
        have htk2 : TS[j]? = some t2 := by rw [hTS.out, tabsF_get, hp2, ht2]; rfl
        have c4 := (HCells.out j t2 htk2 (by omega)).2.2.2
        rw [← HBr.out.cell (p := ⟨tb, _, none⟩) (by omega), ← Hb5.out.cell (p := ⟨tb, _, none⟩) htlr] at c4
        have hbd := HP.out.border j p2 p (by rw [← hps.out]; exact hp2) (by rw [← hps.out, hjk]; exact HPk.out)
        rw [hjk, ← ht2, ← ht.out] at hbd
        have wj : IntKind.i64.wrap ((k : Int) - 1) = (j : Int) := by rw [IntKind.wrap_i64]; omega
        have j3 : (0 : Int) ≤ (j : Int) := by omega
        have j4 : (j : Int) < (N : Int) := by omega
        clear hk0 hNX hj hjk hjp hp2 ht2 htk2
        go_upto_region 9 with fail
        try simp only [List.append_eq, List.cons_append, List.nil_append]
        go_quiet (fail)
        have HB6 := hid (below_drewN HB5.out nq)
        have HF6 := hid (show Fr (w5.drewN nq) wr.heap.size 65 6 (.slice (some ⟨b4, o4, none⟩) M M) M (fCells p) from HF5.out)
        have HOw6 := hid (own_below HOwn.out (below_drewN Hb5.out nq))
        obtain ⟨w6, hw6⟩ : ∃ w6, w6 = w5.drewN nq := ⟨_, rfl⟩
        rw [← hw6] at HB6 HF6 HOw6 ⊢
        clear hw6 c0 c1 c2 c3 k0 k1 y2 z0 wM wk wn bK bK2 wj c4 hbd
        go_wp2_with (refine wpList_append_rd rfl (.tmp 99) (.tmp 100) 23 rfl w1.heap.size 65 _ 6 64 Tryz.underlying23 infoFact6 rfl (by decide) (.slice qo DL co) DL (fCells ((ps.take k).flatten)) rfl HOw6.out (some ⟨b4, o4, none⟩) M M (fCells p) rfl (fun h => by cases h) (by rw [fCells_len, ← HMl.out]) HF6.out.rd (fCells_one p) (by unfold maxLen; omega) (by omega) HB6.out.size ?_; intro v7 w7 hown7 hg7 _; have HO7 := hid hown7; have HG7 := hid hg7; clear hown7 hg7)
        have hown7 := HO7.out
        have hs7 : w1.heap.size ≤ w6.heap.size := HB6.out.size
        have HB7 := hid (HB6.out.grown HG7.out HB6.out.size (fun b hb => (bown_lt HOw6.out b hb).1))
        rw [← fCells_append, ← HTk1.out, HTl.out] at hown7
        obtain ⟨q7, c7, rfl, _, _, _⟩ := own_shape hown7
        have HO8 := hid hown7
        clear hown7 HO7
        go_roundw
        case rel => exact ⟨k + 1, by go_num, by omega, HO8.out, HB7.out⟩
        case measure => simp [intOf]; omega
    · obtain rfl : k = N := by omega
      have hall : (ps.take k).flatten = l := by rw [List.take_of_length_le (by rw [← HN.out]; exact Nat.le_refl _)]; exact HFl.out
      rw [hall] at HOwn hDL
      have hDn : DL = n := hDL.out.trans HL.out
      subst hDn
      have HB2 := hid (HB1.out.trans (HBr.out.mono HB1.out.size))
      have y3 := cell_of_row wr w.heap.size 3 _ _ _ ((HBr.out.block _ (by omega)).trans HBk1.out)
      have bk := (HBr.out.block _ (show w.heap.size < w1.heap.size by omega)).trans HBk1.out
      have hsf := same_facts qo q DL co DL c l l wr HL.out HL.out (by omega) (by omega) (Fr.of_own HOwn.out).rd (HR.out.below HB2.out)
      have HSf := hid hsf
      clear hall bk hsf
      go_wp2_with fail
      refine HSf.out.mono ?_
      rintro e w5 ⟨x, rfl, hx, hb5⟩
      obtain rfl : x = true := by simpa using hx
      have HB5 := hid (HB2.out.trans (hb5.mono HB2.out.size))
      have HB5r := hid (HBr.out.trans (hb5.mono HBr.out.size))
      clear hb5 hx y3
      go_wp2_with fail
      refine (list_any md S w5 (HD.out.below HB5r.out) (HOk.out.good.keysOk (by have := HOk.out.files; omega) (by omega))).mono ?_
      rintro e w6 ⟨q6, rfl, _, hb6⟩
      rw [HKs.out]
      have HB6 := hid (HB5.out.trans (hb6.mono HB5.out.size))
      clear hb6
      go_wp2_with fail
      refine (lives24_any w6 (HT.out.below HB6.out (Nat.le_refl _))).mono ?_
      rintro e w7 ⟨rfl, hb7⟩
      have HB7 := hid (HB6.out.trans (hb7.mono HB6.out.size))
      clear hb7
      go_wp2
      go_ret
      exact ⟨rfl, HB7.out⟩
end Go.Proofs.Herb
