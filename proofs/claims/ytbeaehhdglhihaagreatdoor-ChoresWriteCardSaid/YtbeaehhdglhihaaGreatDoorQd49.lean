/- ChoresWrite's walk. -/
import Derived.Test.YtbeaehhdglhihaaGreatDoorQd46
import Derived.Test.YtbeaehhdglhihaaGreatDoorQd47
import Derived.Test.YtbeaehhdglhihaaGreatDoorQd48
namespace Go.Proofs.Herb
open Go.RowKit Go.Sort
theorem found_nil24 (k : ByteArray) (w : World) : Calls Tryz.prog 70 #[.pointer none, .string k] w fun e w' => e = .returned (.tuple #[.int .i64 0, .int .i64 2]) ∧ w = w' := by
  go_enter Tryz.func70, Tryz.ntmps70
  go_wp2_with fail
  (with_reducible refine (there_nil w).mono ?_)
  rintro e w1 ⟨rfl, rfl⟩
  go_wp2_with fail
  go_ret2
  exact ⟨rfl, rfl⟩
theorem loose_nil24 (k : ByteArray) (w : World) : Calls Tryz.prog 53 #[.pointer none, .string k] w fun e w' => e = .returned (.tuple #[.int .i64 0, .int .i64 2]) ∧ w = w' := by
  go_enter Tryz.func53, Tryz.ntmps53
  go_wp2_with fail
  (with_reducible refine (found_nil24 k w).mono ?_)
  rintro e w1 ⟨rfl, rfl⟩
  go_wp2_with fail
  go_ret2
  exact ⟨rfl, rfl⟩
theorem cthere_nil (w : World) (ht : Pow10 w) : Calls Tryz.prog 31 #[.pointer none] w fun e w' => e = .returned (.bool false) ∧ Below w.heap.size w w' := by
  have hn := name_any 0 (by decide) w ht
  rw [show ((0 : Nat) : Int) = 0 from rfl] at hn
  have HN := hid hn
  clear ht hn
  go_enter Tryz.func31, Tryz.ntmps31
  go_wp2_with fail
  (with_reducible refine HN.out.mono ?_)
  rintro e w1 ⟨rfl, hb1⟩
  have HB1 := hid hb1
  clear hb1
  go_wp2_with fail
  (with_reducible refine (loose_nil24 _ w1).mono ?_)
  rintro e w2 ⟨rfl, rfl⟩
  go_wp2_with fail
  go_ret
  exact ⟨rfl, HB1.out⟩
theorem chw_nil (next : Nat) (v : Value) (w : World) (ht : Pow10 w) : Calls Tryz.prog 11 #[.pointer none, .int .u64 (next : Int), v] w fun e w' => e = .returned (.tuple #[.slice none 0 0, .int .u64 0, .int .i64 2]) ∧ Below w.heap.size w w' := by
  have HN := hid (cthere_nil w ht)
  clear ht
  go_enter Tryz.func11, Tryz.ntmps11
  go_wp2_with fail
  (with_reducible refine HN.out.mono ?_)
  rintro e w1 ⟨rfl, hb1⟩
  have HB1 := hid hb1
  clear hb1
  go_wp2_with fail
  go_ret3
  exact ⟨rfl, HB1.out⟩
theorem cwS_ok {s : DS} {n : Nat} (h : DsOk s n) (next : Nat) (l : List Fact) : DsOk (cwS s next l) (n + 2 * (partsL l).length) := by
  unfold cwS
  split
  · exact h.mono (by omega)
  · split
    · exact h.mono (by omega)
    · have := h.put (filesF next (partsL l))
      rw [filesF_len] at this
      exact this
theorem Two.belI24 {w0 w : World} {md : DM} {s t : DS} {mr : RM} {n : Nat} (T : Two (fun _ => False) w0 w md s mr t n) : Below w0.heap.size w0 w :=
  ⟨T.mod.os, T.mod.tape, T.mod.output, T.mod.size, fun k hk => T.mod.block k hk id⟩
/-- behind a call of the disk: the disks' blocks, and no others -/
theorem Two.rebaseD {I : Nat → Prop} {w0 w w' : World} {md md' : DM} {s s' t : DS} {mr : RM} {n n' : Nat} (T : Two I w0 w md s mr t n) (hd : DiskAt w' md' s') (hm : Mod md.fp md'.fp w w') (ok : DsOk s' n') (hn : n ≤ n') :
    ∃ I' : Nat → Prop, Two I' w' w' md' s' mr t n' ∧ ∀ k, I' k → k ∈ md'.fp ∨ (k < w.heap.size ∧ (I k ∨ w0.heap.size ≤ k)) := by
  obtain ⟨U, r, hr, hs, hu⟩ := T.ref
  refine ⟨fun k => k ∈ md'.fp ∨ U k, ⟨hd, ⟨U, r, hr.keep fun k hk => hm.block k (hr.low k hk) (hu k hk).2, hs, fun k hk => ⟨.inl (.inr hk), fun e => ?_⟩⟩, ok, T.okr.mono hn, fun k hk => .inl (.inl hk), RMod.refl _ _⟩, fun k hk => ?_⟩
  · rcases hm.grow k e with h | h
    · exact (hu k hk).2 h
    · have := hr.low k hk; omega
  · rcases hk with h | h
    · exact .inl h
    · exact .inr ⟨hr.low k h, (hu k h).1⟩
set_option maxRecDepth 100000 in
set_option maxHeartbeats 6400000 in
theorem choresWrite_any (room fuse : Int) (next : Nat) (q : Option Addr) (n c : Nat) (l : List Fact) (w : World) (hf0 : -9223372036854775808 ≤ fuse) (hf1 : fuse ≤ 9223372036854775807) (hl : l.length = n) (hr : Rd w q (fCells l)) (ho : ∀ f ∈ l, f.Ok) (hz : ∀ f ∈ l, f.key.size ≤ 140737488355328 ∧ f.val.size ≤ 140737488355328) (ht : Pow10 w) :
    Calls Tryz.prog 3 #[.agg #[.int .i64 room, .int .i64 fuse, .int .u64 (next : Int), .slice q n c]] w fun e w' => e = .returned (.bool true) ∧ Below w.heap.size w w' := by
  obtain ⟨w0, hw0, hbk, hb0⟩ : ∃ w0, w0 = w.alloc (.cells #[.int .i64 room, .int .i64 fuse, .int .u64 (next : Int), .slice q n c] 25) ∧ w0.heap[w.heap.size]? = some (.cells #[.int .i64 room, .int .i64 fuse, .int .u64 (next : Int), .slice q n c] 25 (0, 0)) ∧ Below w.heap.size w w0 := ⟨_, rfl, heap_alloc_new _ _, (Below.refl _ _).alloc (Nat.le_refl _) _⟩
  have y0 := cell_of_row w0 w.heap.size 0 _ _ _ hbk
  have y1 := cell_of_row w0 w.heap.size 1 _ _ _ hbk
  have y2 := cell_of_row w0 w.heap.size 2 _ _ _ hbk
  have y3 := cell_of_row w0 w.heap.size 3 _ _ _ hbk
  have HW0 := hid hw0
  have HBk := hid hbk
  have HB0 := hid hb0
  have HL := hid hl
  have HR := hid hr
  have Ho := hid ho
  have Hz := hid hz
  have HT := hid ht
  have hbl := lt_of_block hbk
  clear hw0 hbk hb0 hl hr ho hz ht
  by_cases hgr : 120 < n ∨ 1099511627776 < next
  · have hgb : (decide (120 < n) || decide (1099511627776 < next)) = true := by simpa using hgr
    clear hgr
    go_enter Tryz.func3, Tryz.ntmps3
    go_upto_region 1 with fail
    rw [← HW0.out]
    go_wp2_with fail
    refine (greatC_any room fuse next q n c w0).mono ?_
    rintro e w1 ⟨rfl, hb1⟩
    rw [hgb]
    have HB1 := hid (HB0.out.trans (hb1.mono HB0.out.size))
    clear hb1 y0 y1 y2 y3
    go_wp2_with fail
    refine (lives24c_any w1 (HT.out.below HB1.out (Nat.le_refl _))).mono ?_
    rintro e w2 ⟨rfl, hb2⟩
    have HB2 := hid (HB1.out.trans (hb2.mono HB1.out.size))
    clear hb2
    go_wp2
    go_ret
    exact ⟨rfl, HB2.out⟩
  have hgb : (decide (120 < n) || decide (1099511627776 < next)) = false := by simp; omega
  have hn120 : n ≤ 120 := by omega
  have hnx : next ≤ 1099511627776 := by omega
  clear hgr
  go_enter Tryz.func3, Tryz.ntmps3
  go_upto_region 1 with fail
  rw [← HW0.out]
  go_wp2_with fail
  refine (greatC_any room fuse next q n c w0).mono ?_
  rintro e w1 ⟨rfl, hb1⟩
  rw [hgb]
  have HB1 := hid (HB0.out.trans (hb1.mono HB0.out.size))
  have bk1 := (hb1.block _ hbl).trans HBk.out
  have HBk1 := hid bk1
  clear hb1 y0 y1 y2 y3
  have y0 := cell_of_row w1 w.heap.size 0 _ _ _ bk1
  have y1 := cell_of_row w1 w.heap.size 1 _ _ _ bk1
  have y2 := cell_of_row w1 w.heap.size 2 _ _ _ bk1
  have y3 := cell_of_row w1 w.heap.size 3 _ _ _ bk1
  have HP1 := hid (HT.out.below HB1.out (Nat.le_refl _))
  have HR1 := hid (HR.out.below HB1.out)
  have hTwo := two_any room fuse next q n c w1 hf0 hf1
  unfold giv at hTwo
  have HTwo := hid hTwo
  clear bk1 hTwo
  go_wp2_with fail
  refine HTwo.out.mono ?_
  rintro e w2 ⟨md, mr, s, rfl, hT2⟩
  have HT2 := hid hT2
  have z3 := cell_of_row w2 w.heap.size 3 _ _ _ (hT2.keepAt HBk1.out id)
  have HB12 := hid hT2.belI24
  clear hT2 y0 y1 y2 y3 HTwo
  go_wp2_with fail
  refine (twin_facts q n c l w2 HL.out (by omega) (HR1.out.below HB12.out)).mono ?_
  rintro e w3 ⟨g, rfl, hgl, hrg, hb3⟩
  have HB3 := hid hb3
  have HB13 := hid (HB12.out.trans (hb3.mono HB12.out.size))
  have HRg := hid hrg
  have hglt : g < w3.heap.size := by
    obtain ⟨_, _, e, h⟩ := hrg.cell (k := 0) (by rw [fCells_append]; simp [fCells, Fact.cells])
    cases e
    exact World.block_lt_of_cell? _ _ h
  have HRk := hid (show ∀ W : World, W.heap[g]? = w3.heap[g]? → Rd W (some ⟨g, 0, none⟩) (fCells (l ++ [mkF, mkF])) ∧ Rd W (some ⟨g, 0, none⟩) (fCells l) from fun W hW => by
    have h : Rd W (some ⟨g, 0, none⟩) (fCells (l ++ [mkF, mkF])) := rd_same hrg fun x e _ => by cases e; exact hW
    refine ⟨h, ?_⟩
    have h2 := h.takeN (l.length * 6)
    rw [← fCells_take, List.take_left] at h2
    exact h2)
  obtain ⟨I1, hT3, hI1⟩ := HT2.out.rebase' (w1 := w3) HB3.out
  have HT3 := hid hT3
  have HI1 := hid hI1
  have hgp : 0 ∉ md.fp := fun h => by
    have h1 := HP1.out.lt
    rcases hT3.fpb _ h with q | q
    · rcases (hI1 _ q).1 with q | q
      · exact q
      · omega
    · have := HB13.out.size; omega
  have hgmd : g ∉ md.fp := fun h => by
    rcases hT3.fpb _ h with q | q
    · have := (hI1 _ q).2; omega
    · omega
  have HGp := hid hgp
  have HGm := hid hgmd
  have hs1 := HB12.out.size
  have hs3 := HB3.out.size
  have z2 := cell_of_row w3 w.heap.size 2 _ _ _ ((HB13.out.block _ (lt_of_block HBk1.out)).trans HBk1.out)
  have hcw := chw_any md s 0 next (some ⟨g, 0, none⟩) n (n + 2) l w3 hT3.disk hT3.okd (by omega) (by omega) HL.out (by omega) (by omega) (HRk.out w3 rfl).2 Ho.out Hz.out (HP1.out.below HB13.out (Nat.le_refl _)) hgp
  have HCw := hid hcw
  clear hT3 hI1 hgp hgmd hrg hb3 hcw z3
  go_wp2_with fail
  refine HCw.out.mono ?_
  rintro e w4 ⟨md', hd4, hD4, hM4, hcase⟩
  obtain ⟨E, hE⟩ : ∃ E : Int, Hid (E = cwE s next l) := ⟨_, hid rfl⟩
  obtain ⟨S, hS⟩ : ∃ S, Hid (S = cwS s next l) := ⟨_, hid rfl⟩
  rw [← hE.out] at hcase
  obtain ⟨a, ts, NXT, rfl, hra, hab, hEn, hEz⟩ : ∃ (a : Option Addr) (ts : List Tab) (NXT : Nat), e = .returned (.tuple #[.slice a ts.length ts.length, .int .u64 (NXT : Int), .int .i64 E]) ∧ Rd w4 a (tbCells ts) ∧ (∀ x, a = some x → w3.heap.size ≤ x.block ∧ x.block < w4.heap.size ∧ x.block ∉ md'.fp) ∧ (E ≠ 0 → ts = [] ∧ NXT = 0) ∧ (E = 0 → ts = tabsF next (partsL l) ∧ NXT = next + (partsL l).length) := by
    rcases hcase with ⟨h, rfl⟩ | ⟨h, a, rfl, hfr, hnt⟩
    · exact ⟨none, [], 0, rfl, .inl rfl, fun x e => (by cases e), fun _ => ⟨rfl, rfl⟩, fun h2 => absurd h2 h⟩
    · refine ⟨a, tabsF next (partsL l), next + (partsL l).length, by rw [tabsF_len, h], hfr.rd, fun x e => ?_, fun h2 => absurd h h2, fun _ => ⟨rfl, rfl⟩⟩
      have h1 := fr_lo hfr x e
      refine ⟨h1.1, h1.2, ?_⟩
      rcases hfr.2 with ⟨hh, _⟩ | ⟨g', cap, cur, hv, _⟩
      · injection hh with h3 _ _; rw [h3] at e; cases e
      · injection hv with h3 _ _; have h4 := h3; rw [e] at h4; cases h4; exact hnt _ _ h3
  obtain ⟨M, hM⟩ : ∃ M, Hid (M = ts.length) := ⟨_, hid rfl⟩
  rw [← hM.out]
  obtain ⟨I2, hT4, hI2⟩ := HT3.out.rebaseD hd4 hM4 (cwS_ok HT3.out.okd next l) (Nat.le_add_right _ _)
  rw [← hS.out] at hT4
  have hB14 := hM4.belowB (B := w1.heap.size) (fun k hk => by
    rcases HT3.out.fpb _ hk with q | q
    · rcases (HI1.out _ q).1 with q | q
      · exact q.elim
      · exact q
    · omega) (by omega)
  have HB14 := hid (HB13.out.trans hB14.1)
  have hgI2 : ¬ I2 g := fun h => by
    rcases hI2 g h with h | ⟨_, h⟩
    · rcases hM4.grow g h with h | h
      · exact HGm.out h
      · omega
    · rcases h with h | h
      · have := (HI1.out g h).2; omega
      · omega
  have hpI2 : ¬ I2 0 := fun h => by
    have h1 := HP1.out.lt
    rcases hI2 _ h with h | ⟨_, h⟩
    · rcases hM4.grow _ h with h | h
      · exact HGp.out h
      · omega
    · rcases h with h | h
      · rcases (HI1.out _ h).1 with q | q
        · exact q
        · omega
      · omega
  have hg4 : w4.heap[g]? = w3.heap[g]? := hM4.block g hglt HGm.out
  have HAK := hid (show ∀ x, a = some x → x.block < w4.heap.size ∧ ¬ I2 x.block from fun x e => ⟨(hab x e).2.1, fun h => by
    rcases hI2 _ h with h | ⟨h, _⟩
    · exact (hab x e).2.2 h
    · have := (hab x e).1; omega⟩)
  have HI2 := hid (show ∀ k, I2 k → False ∨ w1.heap.size ≤ k from fun k h => by
    rcases hI2 k h with h | ⟨_, h⟩
    · exact .inr (hB14.2 k h)
    · rcases h with h | h
      · exact (HI1.out k h).1
      · exact .inr (by omega))
  have HT4 := hid hT4
  have HG4 := hid hg4
  have HGI := hid hgI2
  have HPI := hid hpI2
  have HRa := hid hra
  have HD4 := hid hD4
  have HEn := hid hEn
  have HEz := hid hEz
  have hpn : (partsL l).length ≤ 120 := by have := partsL_len l; have := HL.out; omega
  have hs4 := HB14.out.size
  have z2' := cell_of_row w4 w.heap.size 2 _ _ _ ((HB14.out.block _ (lt_of_block HBk1.out)).trans HBk1.out)
  have z3' := cell_of_row w4 w.heap.size 3 _ _ _ ((HB14.out.block _ (lt_of_block HBk1.out)).trans HBk1.out)
  have hrw := refWrite_any hT4 (by omega) next (by omega) q n c l HL.out (by omega) (HR1.out.below HB14.out) Ho.out Hz.out (HP1.out.below HB14.out (Nat.le_refl _)) hpI2
  unfold RWriteC at hrw
  rw [← hE.out, ← hS.out] at hrw
  have HRw := hid hrw
  have hlt4 : g < w4.heap.size := by have := hM4.size; omega
  clear hd4 hM4 hD4 hcase hra hab hEn hEz hT4 hI2 hB14 hgI2 hpI2 hg4 hrw z2 HCw
  go_wp2_with fail
  refine HRw.out.mono ?_
  rintro e w5 ⟨mr', hD5, hT5, hcase⟩
  obtain ⟨b, cb, rfl, hrb⟩ : ∃ (b : Option Addr) (cb : Nat), e = .returned (.tuple #[.slice b M cb, .int .u64 (NXT : Int), .int .i64 E]) ∧ Rd w5 b (tbCells ts) := by
    rcases hcase with ⟨h, rfl⟩ | ⟨h, b, cb, rfl, hfr⟩
    · obtain ⟨h1, h2⟩ := HEn.out h
      refine ⟨none, 0, ?_, ?_⟩
      · rw [hM.out, h1, h2]; rfl
      · rw [h1]; exact .inl rfl
    · obtain ⟨h1, h2⟩ := HEz.out h
      refine ⟨b, cb, ?_, ?_⟩
      · rw [hM.out, h1, h2, tabsF_len, h]
      · rw [h1]; exact hfr.rd
  have HB15 := hid ((hT5.back (I := fun _ => False) (w0 := w1) (RMod.of_below _ HB14.out) HI2.out).belI24)
  have hra5 : Rd w5 a (tbCells ts) := rd_same HRa.out fun x e _ => hT5.mod.block _ (HAK.out x e).1 (HAK.out x e).2
  have hg5 : w5.heap[g]? = w3.heap[g]? := (hT5.mod.block g hlt4 HGI.out).trans HG4.out
  have HT5 := hid hT5
  have HRb := hid hrb
  have HRa5 := hid hra5
  have HG5 := hid hg5
  have HD5 := hid hD5
  have z2 := cell_of_row w5 w.heap.size 2 _ _ _ ((HB15.out.block _ (lt_of_block HBk1.out)).trans HBk1.out)
  clear hT5 hcase hrb hra5 hg5 hD5 z2' z3'
  go_wp2_with fail
  refine (chw_nil next _ w5 (HP1.out.below HB15.out (Nat.le_refl _))).mono ?_
  rintro e w6 ⟨rfl, hb6⟩
  have HB16 := hid (HB15.out.trans (hb6.mono HB15.out.size))
  have HB56 := hid hb6
  have HSt := hid (sameTables_true a b M M cb ts w6 hM.out.symm (by
    have h1 : ts.length ≤ 120 := by
      by_cases h : E = 0
      · rw [(HEz.out h).1, tabsF_len]; exact hpn
      · rw [(HEn.out h).1]; simp
    have := hM.out
    omega) (HRa5.out.below hb6) (HRb.out.below hb6))
  clear hb6 z2
  have e1 : ((NXT : Int) == (NXT : Int)) = true := by simp
  have e2 : (E == E) = true := by simp
  go_wp2_with fail
  refine HSt.out.mono ?_
  rintro e w7 ⟨rfl, hb7⟩
  have HB17 := hid (HB16.out.trans (hb7.mono HB16.out.size))
  have HB57 := hid (HB56.out.trans (hb7.mono HB56.out.size))
  have hsd := sameDisk_true (HT5.out.below' HB57.out) (by omega)
  rw [HD4.out, HD5.out] at hsd
  have HSd := hid hsd
  clear hb7 hsd HSt
  go_wp2_with fail
  refine HSd.out.mono ?_
  rintro e w8 ⟨rfl, hb8⟩
  have HB18 := hid (HB17.out.trans (hb8.mono HB17.out.size))
  have HB58 := hid (HB57.out.trans (hb8.mono HB57.out.size))
  have z3 := cell_of_row w8 w.heap.size 3 _ _ _ ((HB18.out.block _ (lt_of_block HBk1.out)).trans HBk1.out)
  have hg8 : w8.heap[g]? = w3.heap[g]? := (HB58.out.block g (by have := HT5.out.mod.size; omega)).trans HG5.out
  have HLf := hid (left_facts q g n c l w8 HL.out (by omega) (HR1.out.below HB18.out) (HRk.out w8 hg8).1)
  clear hb8 HSd hg8
  go_wp2_with fail
  refine HLf.out.mono ?_
  rintro e w9 ⟨rfl, hb9⟩
  have HB19 := hid (HB18.out.trans (hb9.mono HB18.out.size))
  have HBw9 := hid (HB1.out.trans (HB19.out.mono HB1.out.size))
  clear hb9 z3 HLf
  go_wp2_with fail
  refine (lives24c_any w9 (HT.out.below HBw9.out (Nat.le_refl _))).mono ?_
  rintro e w10 ⟨rfl, hb10⟩
  have HB10 := hid (HBw9.out.trans (hb10.mono HBw9.out.size))
  clear hb10
  go_wp2
  go_ret
  exact ⟨rfl, HB10.out⟩
end Go.Proofs.Herb
