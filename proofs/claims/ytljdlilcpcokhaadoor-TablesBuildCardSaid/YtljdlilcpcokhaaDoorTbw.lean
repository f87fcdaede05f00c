/- The law TablesBuild: it answers true. For facts that can be read, in worlds where strconv's table of powers of ten reads as it was laid. -/
import Derived.Test.YtljdlilcpcokhaaDoorR2x
import Derived.Test.YtljdlilcpcokhaaDoorTwf
import Derived.Test.YtljdlilcpcokhaaDoorLwT
import Derived.Test.YtljdlilcpcokhaaDoorSft
import Derived.Test.YtljdlilcpcokhaaDoorBkx
namespace Go.Proofs.Herb
open Go.RowKit
/-- what a table's Build answers: bytes, props, whether -/
def BldC (w : World) (b0 : Nat) (T : List UInt8) (p : Props) (er : Int) (e : Ending) (w' : World) : Prop :=
  ∃ q c, e = .returned (.tuple #[.slice q T.length c, .agg p.cells.toArray, .int .i64 er]) ∧ Fr w' b0 5 1 (.slice q T.length c) T.length (T.map bv) ∧ Below b0 w w'
theorem nil_fr (w : World) (b0 : Nat) : Fr w b0 5 1 (.slice none 0 0) 0 (([] : List UInt8).map bv) := Fr.of_own (World.ownsRow_nil w b0 5 1)
/-- both builds answer alike -/
theorem builds_alike (line : Nat) (fs : List Fact) (hm : fs.length ≤ 6000) (ho : ∀ f ∈ fs, f.Ok) : ∃ (T : List UInt8) (p : Props) (er : Int),
    (∀ (q : Option Addr) (c : Nat) (w : World), Rd w q (fCells fs) → Calls Tryd.prog 7 #[.int .u64 (line : Int), .slice q fs.length c] w (BldC w w.heap.size T p er)) ∧
    (∀ (q : Option Addr) (c : Nat) (w : World), Rd w q (fCells fs) → Calls Tryd.prog 8 #[.int .u64 (line : Int), .slice q fs.length c] w (BldC w w.heap.size T p er)) ∧ T.length ≤ 65536 := by
  by_cases h : GoodF line fs ∧ 0 < fs.length
  · by_cases hl : (tabB line fs).length ≤ 65536
    · refine ⟨tabB line fs, propsF line fs, 0, fun q c w hr => ?_, fun q c w hr => ?_, hl⟩
      · exact (build_ok line q _ c fs w rfl hm hr ho h hl).mono fun e w' ⟨p, h1, h2, h3⟩ => ⟨p, _, h1, h2, h3⟩
      · refine (ref_build line q _ c fs w rfl hm hr ho).mono fun e w' ⟨hb, hc⟩ => ?_
        rcases hc with hc | hc | hc
        · exact absurd h hc.1
        · have := hc.2.2.1; omega
        · obtain ⟨_, _, _, q', c', h1, h2⟩ := hc
          exact ⟨q', c', h1, h2, hb⟩
    · refine ⟨[], ⟨0, 0, ⟨#[]⟩, ⟨#[]⟩, 0, 0, 0, 0⟩, 3, fun q c w hr => ?_, fun q c w hr => ?_, by simp⟩
      · exact (build_big line q _ c fs w rfl hm hr ho h (by omega)).mono fun e w' ⟨h1, h3⟩ => ⟨none, 0, h1, nil_fr _ _, h3⟩
      · refine (ref_build line q _ c fs w rfl hm hr ho).mono fun e w' ⟨hb, hc⟩ => ?_
        rcases hc with hc | hc | hc
        · exact absurd h hc.1
        · exact ⟨none, 0, hc.2.2.2, nil_fr _ _, hb⟩
        · exact absurd hc.2.2.1 hl
  · refine ⟨[], ⟨0, 0, ⟨#[]⟩, ⟨#[]⟩, 0, 0, 0, 0⟩, 1, fun q c w hr => ?_, fun q c w hr => ?_, by simp⟩
    · exact (build_no line q _ c fs w rfl hm hr ho h).mono fun e w' ⟨h1, h3⟩ => ⟨none, 0, h1, nil_fr _ _, h3⟩
    · refine (ref_build line q _ c fs w rfl hm hr ho).mono fun e w' ⟨hb, hc⟩ => ?_
      rcases hc with hc | hc | hc
      · exact ⟨none, 0, hc.2, nil_fr _ _, hb⟩
      · exact absurd ⟨hc.1, hc.2.1⟩ h
      · exact absurd ⟨hc.1, hc.2.1⟩ h
theorem neqProps (w : World) (p : Props) : (binOp .neq 30 (.agg p.cells.toArray) (.agg p.cells.toArray)).run Tryd.prog w = .ok (.bool false) w := by
  unfold Props.cells
  go_simp
theorem infoBook : (Tryd.prog.info? 36).map (·.size) = some 1 := by kernel_rfl
theorem shs_one {w : World} {lo hi : Nat} {s : Sh} {n : Nat} {xs : List Value} (h : Fr w lo 5 1 s.sl n xs) (hm : s.m < 256) (hh : ∀ g, s.blk = some g → g < hi) : ShsOk w lo hi [s] := by
  obtain ⟨h1, h2⟩ := ShRow.of_fr h hm
  refine ⟨fun t ht => ?_, fun t ht => ?_, fun t ht => ?_, List.pairwise_singleton _ _⟩
  all_goals
    rw [List.mem_singleton] at ht
    subst ht
  · exact h1
  · exact fun g hg => (h2 g hg).1
  · exact hh
theorem props8 (p : Props) : p.cells.toArray.size = 8 := rfl
set_option maxRecDepth 100000 in
set_option maxHeartbeats 4000000 in
theorem tblLaw_any (line : Nat) (q : Option Addr) (n c : Nat) (fs : List Fact) (w : World) (hn : fs.length = n) (hm : n ≤ 9223372036854775807) (hr : Rd w q (fCells fs)) (ho : ∀ f ∈ fs, f.Ok) (hsz : ∀ f ∈ fs, f.key.size ≤ 140737488355328 ∧ f.val.size ≤ 140737488355328) (ht : Pow10 w) :
    Calls Tryd.prog 3 #[.int .u64 (line : Int), .slice q n c] w fun e w' => e = .returned (.bool true) ∧ Below w.heap.size w w' := by
  have HGr := hid (great_any q n c fs w hn hm hr hsz)
  have Hn := hid hn
  have Hr := hid hr
  have Ho := hid ho
  have HT := hid ht
  clear hn hr ho ht hsz
  go_enter Tryd.func3, Tryd.ntmps3
  go_wp2_with fail
  (with_reducible refine HGr.out.mono ?_)
  rintro e w0 ⟨gb, rfl, hgb, hb0⟩
  have HB0 := hid hb0
  have hs0 := hb0.size
  clear hb0 HGr
  by_cases hg : gb = true
  · subst hg
    clear hgb
    go_wp2_with fail
    refine (lives_any _).mono ?_
    rintro e w2 ⟨rfl, hb2⟩
    have HB2 := hid (HB0.out.trans (hb2.mono hs0))
    clear hb2
    go_wp2
    go_ret
    exact ⟨rfl, HB2.out⟩
  · obtain rfl : gb = false := by simpa using hg
    have hgr : greatF fs ≤ 120000 := by
      rcases Nat.lt_or_ge 120000 (greatF fs) with h | h
      · exact absurd (hgb.2 h) (by decide)
      · exact h
    have hn6 : n ≤ 6000 := by
      have := (great_len fs 0 hgr).1
      have := Hn.out
      omega
    obtain ⟨T, p, er, hp1, hp2, hTl⟩ := builds_alike line fs (by rw [Hn.out]; exact hn6) Ho.out
    rw [Hn.out] at hp1 hp2
    obtain ⟨TN, hTN⟩ : ∃ x, Hid (x = T.length) := ⟨_, hid rfl⟩
    obtain ⟨PV, hPV⟩ : ∃ x, Hid (x = p.cells.toArray) := ⟨_, hid rfl⟩
    unfold BldC at hp1 hp2
    rw [← hTN.out] at hp1 hp2 hTl
    rw [← hPV.out] at hp1 hp2
    have HPVs := hid (show PV.size = 8 by rw [hPV.out]; rfl)
    have HPV1 := hid (show ∀ v ∈ PV.toList, v.oneCell' = true by rw [hPV.out]; exact (props_cells8 _).2)
    have HP1 := hid hp1
    have HP2 := hid hp2
    have HTw := hid (twin_facts q n c fs w0 Hn.out (by omega) (Hr.out.below HB0.out))
    clear hg hgb hgr hp1 hp2
    go_wp2_with fail
    (with_reducible refine HTw.out.mono ?_)
    rintro e w1 ⟨g, rfl, hg1, hrd1, hb1⟩
    have HB1 := hid (HB0.out.trans (hb1.mono hs0))
    have HRd1 := hid hrd1
    have hs1 := HB1.out.size
    have HRdP := hid (show ∀ W, Below w1.heap.size w1 W → Rd W (some ⟨g, 0, none⟩) (fCells fs) from fun W hb => by
      have h := (hrd1.below hb).takeN (fs.length * 6)
      rw [← fCells_take, List.take_left] at h
      exact h)
    have HRdQ := hid (show ∀ W, Below w1.heap.size w1 W → Rd W q (fCells fs) from fun W hb => Hr.out.below (HB1.out.trans (hb.mono hs1)))
    have HA1 := hid (Below.refl w1.heap.size w1)
    clear hrd1 hb1 HTw
    go_wp2_with fail
    (with_reducible refine (HP1.out _ _ _ (HRdP.out _ HA1.out)).mono ?_)
    rintro e w2 ⟨q1, c1, rfl, hf1, hb2⟩
    have HF1 := hid hf1
    have HAy1 := hid (HA1.out.trans (hb2.mono HA1.out.size))
    have hx1 := heap_alloc_new w2 (.cells zProps 30)
    obtain ⟨w3, hw3⟩ : ∃ x, (w2.alloc (.cells zProps 30)).setRow w2.heap.size PV = x := ⟨_, rfl⟩
    have hbz3 : Below w2.heap.size w2 w3 := hw3 ▸ below_setRow ((Below.refl _ _).alloc (Nat.le_refl _) _) (Nat.le_refl _) _
    have HRow1 := hid (show w3.heap[w2.heap.size]? = some (.cells PV 30 (0, 0)) from hw3 ▸ setRow_heap _ _ _ _ _ _ hx1)
    have HX1 := hid hx1
    have HA3 := hid (HAy1.out.trans (hbz3.mono HAy1.out.size))
    have HN1 := hid (hb2.trans (hbz3.mono hb2.size))
    have HZ1 := hid hbz3
    have hXY1 : w1.heap.size ≤ w2.heap.size := hb2.size
    unfold zProps at hw3
    clear hf1 hb2 hx1 hbz3
    go_upto_region 5 with (refine wpList_store_block rfl 30 _ _ rfl _ _ _ _ rfl rfl HX1.out HPVs.out.symm (by rw [HPVs.out]; exact infoProps) HPV1.out ?_)
    clear hw3
    go_wp2_with fail
    (with_reducible refine (HP2.out _ _ _ (HRdQ.out _ HA3.out)).mono ?_)
    rintro e w4 ⟨q2, c2, rfl, hf2, hb4⟩
    have HF2 := hid hf2
    have HAy2 := hid (HA3.out.trans (hb4.mono HA3.out.size))
    have hx2 := heap_alloc_new w4 (.cells zProps 30)
    obtain ⟨w5, hw5⟩ : ∃ x, (w4.alloc (.cells zProps 30)).setRow w4.heap.size PV = x := ⟨_, rfl⟩
    have hbz5 : Below w4.heap.size w4 w5 := hw5 ▸ below_setRow ((Below.refl _ _).alloc (Nat.le_refl _) _) (Nat.le_refl _) _
    have HRow2 := hid (show w5.heap[w4.heap.size]? = some (.cells PV 30 (0, 0)) from hw5 ▸ setRow_heap _ _ _ _ _ _ hx2)
    have HX2 := hid hx2
    have HA5 := hid (HAy2.out.trans (hbz5.mono HAy2.out.size))
    have HN2 := hid (hb4.trans (hbz5.mono hb4.size))
    have HZ2 := hid hbz5
    have hXY2 : w3.heap.size ≤ w4.heap.size := hb4.size
    unfold zProps at hw5
    clear hf2 hb4 hx2 hbz5
    go_upto_region 6 with (refine wpList_store_block rfl 30 _ _ rfl _ _ _ _ rfl rfl HX2.out HPVs.out.symm (by rw [HPVs.out]; exact infoProps) HPV1.out ?_)
    clear hw5
    go_wp2_with fail
    (with_reducible refine (HP1.out _ _ _ (HRdP.out _ HA5.out)).mono ?_)
    rintro e w6 ⟨q3, c3, rfl, hf3, hb6⟩
    have HF3 := hid hf3
    have HAy3 := hid (HA5.out.trans (hb6.mono HA5.out.size))
    have hx3 := heap_alloc_new w6 (.cells zProps 30)
    obtain ⟨w7, hw7⟩ : ∃ x, (w6.alloc (.cells zProps 30)).setRow w6.heap.size PV = x := ⟨_, rfl⟩
    have hbz7 : Below w6.heap.size w6 w7 := hw7 ▸ below_setRow ((Below.refl _ _).alloc (Nat.le_refl _) _) (Nat.le_refl _) _
    have HRow3 := hid (show w7.heap[w6.heap.size]? = some (.cells PV 30 (0, 0)) from hw7 ▸ setRow_heap _ _ _ _ _ _ hx3)
    have HX3 := hid hx3
    have HA7 := hid (HAy3.out.trans (hbz7.mono HAy3.out.size))
    have HN3 := hid (hb6.trans (hbz7.mono hb6.size))
    have HZ3 := hid hbz7
    have hXY3 : w5.heap.size ≤ w6.heap.size := hb6.size
    unfold zProps at hw7
    clear hf3 hb6 hx3 hbz7
    go_upto_region 7 with (refine wpList_store_block rfl 30 _ _ rfl _ _ _ _ rfl rfl HX3.out HPVs.out.symm (by rw [HPVs.out]; exact infoProps) HPV1.out ?_)
    clear hw7
    have hpv : PV = #[.int .u64 (p.line : Int), .int .u64 (p.many : Int), .string p.low, .string p.high, .int .u64 (p.least : Int), .int .u64 (p.greatest : Int), .int .u32 (p.early : Int), .int .u32 (p.late : Int)] := by rw [hPV.out]; rfl
    subst hpv
    obtain ⟨Kb, hKb⟩ : ∃ x, x = w7.heap.size := ⟨_, rfl⟩
    obtain ⟨w8, hw8⟩ : ∃ x, x = (w7.alloc (.cells #[.slice none 0 0] 36)).setRow w7.heap.size #[.slice none 0 0] := ⟨_, rfl⟩
    have hb8 : Below w7.heap.size w7 w8 := by rw [hw8]; exact below_setRow ((Below.refl _ _).alloc (Nat.le_refl _) _) (Nat.le_refl _) _
    have hk8 : w8.heap[Kb]? = some (.cells #[.slice none 0 0] 36 (0, 0)) := by rw [hw8, hKb]; exact setRow_heap _ _ _ _ _ _ (heap_alloc_new _ _)
    have HBk8 := hid (show BookAt w8 Kb w1.heap.size [] from ⟨none, 0, hk8, World.ownsRow_nil _ _ _ _⟩)
    have HW8 := hid hw8
    have HKb := hid hKb
    have HA8 := hid (HA7.out.trans (hb8.mono HA7.out.size))
    have hKl : w1.heap.size ≤ Kb := by have := HA7.out.size; omega
    have HN38 := hid (HN2.out.trans ((HN3.out.trans (hb8.mono HN3.out.size)).mono HN2.out.size))
    have HN58 := hid (HN3.out.trans (hb8.mono HN3.out.size))
    have HN78 := hid hb8
    have HM1 := hid (HZ1.out.trans (HN38.out.mono HZ1.out.size))
    have HM2 := hid (HZ2.out.trans (HN58.out.mono HZ2.out.size))
    have HM3 := hid (HZ3.out.trans (hb8.mono HZ3.out.size))
    clear hb8 hk8 hw8 hKb
    go_upto_region 8 with (refine wpList_store_block rfl 36 _ _ rfl _ _ _ _ rfl rfl (heap_alloc_new _ _) rfl infoBook (by simp [Value.oneCell']) ?_)
    rw [← HW8.out, ← HKb.out]
    have hz := (HN38.out.block _ (lt_of_block HRow1.out)).trans HRow1.out
    have hy := (HN58.out.block _ (lt_of_block HRow2.out)).trans HRow2.out
    have z0 := (cell_of_row w8 _ 0 _ _ _ hz).trans rfl
    have y0 := (cell_of_row w8 _ 0 _ _ _ hy).trans rfl
    have z1 := (cell_of_row w8 _ 1 _ _ _ hz).trans rfl
    have y1 := (cell_of_row w8 _ 1 _ _ _ hy).trans rfl
    have z2 := (cell_of_row w8 _ 2 _ _ _ hz).trans rfl
    have y2 := (cell_of_row w8 _ 2 _ _ _ hy).trans rfl
    have z3 := (cell_of_row w8 _ 3 _ _ _ hz).trans rfl
    have y3 := (cell_of_row w8 _ 3 _ _ _ hy).trans rfl
    have z4 := (cell_of_row w8 _ 4 _ _ _ hz).trans rfl
    have y4 := (cell_of_row w8 _ 4 _ _ _ hy).trans rfl
    have z5 := (cell_of_row w8 _ 5 _ _ _ hz).trans rfl
    have y5 := (cell_of_row w8 _ 5 _ _ _ hy).trans rfl
    have z6 := (cell_of_row w8 _ 6 _ _ _ hz).trans rfl
    have y6 := (cell_of_row w8 _ 6 _ _ _ hy).trans rfl
    have z7 := (cell_of_row w8 _ 7 _ _ _ hz).trans rfl
    have y7 := (cell_of_row w8 _ 7 _ _ _ hy).trans rfl
    have hneq := fun w => neqProps w p
    unfold Props.cells at hneq
    have hee : (er != er) = false := by simp
    have HSB := hid (same_bytes q1 q2 TN c1 TN c2 T T w8 hTN.out.symm hTN.out.symm (by omega) (by omega) (HF1.out.below HM1.out).rd (HF2.out.below HM2.out).rd)
    rw [show (T == T) = true from beq_self_eq_true T] at HSB
    clear hz hy
    go_wp2_with fail
    (with_reducible refine HSB.out.mono ?_)
    rintro e w8b ⟨rfl, hbb⟩
    have HN8b := hid hbb
    have HA8b := hid (HA8.out.trans (hbb.mono HA8.out.size))
    have HLF := hid (left_facts q g n c fs w8b Hn.out (by omega) (HRdQ.out _ HA8b.out) (HRd1.out.below HA8b.out))
    clear hbb HSB z0 y0 z1 y1 z2 y2 z3 y3 z4 y4 z5 y5 z6 y6 z7 y7
    go_wp2_with fail
    (with_reducible refine HLF.out.mono ?_)
    rintro e w9 ⟨rfl, hb9⟩
    have HN89 := hid (HN8b.out.trans (hb9.mono HN8b.out.size))
    clear hb9 HLF hneq hee
    have HA9 := hid (HA8.out.trans (HN89.out.mono HA8.out.size))
    have HBk9 := hid (HBk8.out.below HN89.out)
    have hs9 := HA9.out.size
    have HT9 := hid (HT.out.below (HB1.out.trans (HA9.out.mono hs1)) (Nat.le_refl _))
    have hg1' : 0 < w1.heap.size := Nat.lt_of_lt_of_le HT.out.lt (by have := HB1.out.size; omega)
    have HBy1 := hid (bytes_any Kb w1.heap.size [] q1 TN c1 w9 HBk9.out (by simp) hKl hs9 HT9.out)
    have HK29 := hid (KpB.of_below (HM1.out.trans (HN89.out.mono HM1.out.size)))
    have HK69 := hid (KpB.of_below (HM3.out.trans (HN89.out.mono HM3.out.size)))
    have hlo1 := fr_lo HF1.out
    have hlo3 := fr_lo HF3.out
    have h25 : w2.heap.size ≤ w5.heap.size := Nat.le_trans HZ1.out.size HN2.out.size
    have h15 : w1.heap.size ≤ w5.heap.size := HA5.out.size
    have HLo1 := hid hlo1
    have HLo3 := hid hlo3
    clear hlo1 hlo3
    go_wp2_with fail
    (with_reducible refine HBy1.out.mono ?_)
    rintro e w10 ⟨rfl, m1, hm1, hbk10, hkp10, hb10⟩
    have HB10 := hid (HA9.out.trans hb10)
    have HBk10 := hid hbk10
    have HK210 := hid (HK29.out.trans hkp10)
    have HK610 := hid (HK69.out.trans hkp10)
    have hs10 := HB10.out.size
    have HT10 := hid (HT9.out.on hb10 hg1')
    have HBy2 := hid (bytes_any Kb w1.heap.size _ q3 TN c3 w10 HBk10.out (by simp) hKl hs10 HT10.out)
    clear hbk10 hkp10 hb10 HBy1
    go_wp2_with fail
    (with_reducible refine HBy2.out.mono ?_)
    rintro e w11 ⟨rfl, m3, hm3, hbk11, hkp11, hb11⟩
    have HB11 := hid (HB10.out.trans hb11)
    have HBk11 := hid hbk11
    have hs11 := HB11.out.size
    have HSh := hid (show ShsOk w11 w1.heap.size w6.heap.size ([] ++ [⟨q1, TN, c1, m1⟩] ++ [⟨q3, TN, c3, m3⟩]) from by
      rw [List.nil_append]
      refine ShsOk.append (mid := w5.heap.size) (shs_one ((HF1.out).kpB (HK210.out.trans hkp11) (by decide) (by decide)) hm1 fun g hg => ?_) (shs_one ((HF3.out).kpB (HK610.out.trans hkp11) (by decide) (by decide)) hm3 fun g hg => ?_) hXY3 h15
      · unfold Sh.blk at hg
        rw [Option.map_eq_some_iff] at hg
        obtain ⟨x, hx, rfl⟩ := hg
        have := (HLo1.out x hx).2
        omega
      · unfold Sh.blk at hg
        rw [Option.map_eq_some_iff] at hg
        obtain ⟨x, hx, rfl⟩ := hg
        exact (HLo3.out x hx).2)
    clear hbk11 hkp11 hb11 HBy2
    go_wp2_with fail
    refine (apart_any Kb w1.heap.size _ w1.heap.size w6.heap.size w11 HBk11.out HSh.out (Nat.le_refl _) hs11 (by simp)).mono ?_
    rintro e w12 ⟨rfl, hb12⟩
    have HB12 := hid (HB11.out.trans hb12)
    have hs12 := HB12.out.size
    clear hb12
    go_wp2_with fail
    refine (lives_any w12).mono ?_
    rintro e w13 ⟨rfl, hb13⟩
    have HB13 := hid (HB12.out.trans (hb13.mono hs12))
    clear hb13
    go_wp2
    go_ret
    exact ⟨rfl, HB1.out.trans (HB13.out.mono hs1)⟩
end Go.Proofs.Herb
