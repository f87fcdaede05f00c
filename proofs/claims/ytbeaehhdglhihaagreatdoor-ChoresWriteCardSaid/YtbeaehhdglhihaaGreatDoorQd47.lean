/- The contracts of the laws' TwinFacts and LeftFacts. For facts that can be read. -/
import Derived.Deep.MidRow
import Derived.Deep.QuietTactic
import Derived.BigQuiet
import Derived.Test.YtbeaehhdglhihaaGreatDoorQd01
import Derived.Test.YtbeaehhdglhihaaGreatDoorQd13
import Derived.Test.YtbeaehhdglhihaaGreatDoorQd14
import Derived.Test.YtbeaehhdglhihaaGreatDoorQd44
namespace Go.Proofs.Herb
open Go.RowKit
/-- the mark behind a copy's facts -/
def mkF : Fact := ⟨⟨#[63, 33]⟩, 0, 0, 0, 0, ⟨#[]⟩⟩
theorem infoFactZ : (Tryz.prog.info? 65).map (fun i => (i.zero, i.size, i.bytes)) = some (some (.agg #[.string ⟨#[]⟩, .int .u32 0, .int .u64 0, .int .u64 0, .int .u8 0, .string ⟨#[]⟩]), 6, 64) := by kernel_rfl
theorem infoFact6t : (Tryz.prog.info? 65).map (·.size) = some 6 := by kernel_rfl
theorem range_step {w : World} {G o : Nat} {xs ys : List Value} (h : w.rangeAt G 0 xs) (hl : xs.length = o) (ht : w.there G o ys.length) : (w.setCells G o ys).rangeAt G 0 (xs ++ ys) := by
  intro j v hv
  by_cases hj : j < xs.length
  · rw [List.getElem?_append_left hj] at hv
    exact World.rangeAt_setCells_apart h G o ys (.inr (.inl (by omega))) j v hv
  · rw [List.getElem?_append_right (by omega)] at hv
    have h2 := World.rangeAt_setCells_same w G o ys ht (j - xs.length) v hv
    rw [show o + (j - xs.length) = 0 + j by omega] at h2
    exact h2
theorem range_redo {w : World} {G o : Nat} {xs ys : List Value} (h : w.rangeAt G 0 xs) (hl : xs.length = o) : (w.setCells G o ys).rangeAt G 0 xs := World.rangeAt_setCells_apart h G o ys (.inr (.inl (by omega)))
theorem there_part {w : World} {G n o m : Nat} (h : w.there G 0 n) (hm : o + m ≤ n) : w.there G o m := fun j hj => by
  have := h (o + j) (by omega)
  rw [Nat.zero_add] at this
  exact this
theorem there_made (w : World) (cs : Array Value) (t : TypeId) (n : Nat) (hn : n ≤ cs.size) : (w.alloc (.cells cs t)).there w.heap.size 0 n := fun j hj => by
  have h := heap_alloc_new w (.cells cs t)
  refine ⟨?_, frozen_of_row _ _ _ _ _ h⟩
  rw [cell_of_row _ _ _ _ _ _ h, Nat.zero_add, Array.getElem?_eq_getElem (by omega)]
  rfl
theorem setCells_other : ∀ (vs : List Value) (w : World) (b o k : Nat), k ≠ b → (w.setCells b o vs).heap[k]? = w.heap[k]?
  | [], _, _, _, _, _ => rfl
  | v :: r, w, b, o, k, h => (setCells_other r _ b (o + 1) k h).trans (heap_setCell_other w ⟨b, o, none⟩ k v h)
theorem rd_range {w : World} {G : Nat} {xs : List Value} (h : w.rangeAt G 0 xs) : Rd w (some ⟨G, 0, none⟩) xs := .inr ⟨G, 0, rfl, h⟩
set_option maxRecDepth 100000 in
set_option maxHeartbeats 2000000 in
theorem copied_facts (a : Option Addr) (n c : Nat) (l : List Fact) (w : World) (hn : l.length = n) (hm : n ≤ 4194304) (hr : Rd w a (fCells l)) :
    Calls Tryz.prog 30 #[.slice a n c, .agg #[.string ⟨#[63, 33]⟩, .int .u32 0, .int .u64 0, .int .u64 0, .int .u8 0, .string ⟨#[]⟩]] w fun e w' => ∃ g, e = .returned (.slice (some ⟨g, 0, none⟩) n (n + 2)) ∧ w.heap.size ≤ g ∧ Rd w' (some ⟨g, 0, none⟩) (fCells (l ++ [mkF, mkF])) ∧ Below w.heap.size w w' := by
  have Hn := hid hn
  have Hr := hid hr
  clear hn hr
  obtain ⟨LL, hLL⟩ : ∃ x, Hid (x = l ++ [mkF, mkF]) := ⟨_, hid rfl⟩
  rw [← hLL.out]
  have hLLl : LL.length = n + 2 := by rw [hLL.out, List.length_append, Hn.out]; rfl
  have HLl := hid hLLl
  have hmk := run_make_len (P := Tryz.prog) 23 65 (.agg #[.string ⟨#[]⟩, .int .u32 0, .int .u64 0, .int .u64 0, .int .u8 0, .string ⟨#[]⟩]) 6 64 Tryz.underlying23 infoFactZ ((n : Int) + 2) (n + 2) (by omega) (by omega) (by omega)
  obtain ⟨w1, hw1⟩ : ∃ x, w.alloc (.cells #[.string ⟨#[63, 33]⟩, .int .u32 0, .int .u64 0, .int .u64 0, .int .u8 0, .string ⟨#[]⟩] 65) = x := ⟨_, rfl⟩
  have hB1 : Below w.heap.size w w1 := hw1 ▸ (Below.refl _ _).alloc (Nat.le_refl _) _
  have hx1 : w1.heap[w.heap.size]? = some (.cells #[.string ⟨#[63, 33]⟩, .int .u32 0, .int .u64 0, .int .u64 0, .int .u8 0, .string ⟨#[]⟩] 65 (0, 0)) := hw1 ▸ heap_alloc_new _ _
  have hs1 : w1.heap.size = w.heap.size + 1 := by rw [← hw1, World.size_alloc]
  have HX1 := hid hx1
  have HB1 := hid hB1
  have HS1 := hid hs1
  clear hLLl hx1 hB1 hs1
  go_enter Tryz.func30, Tryz.ntmps30
  go_wp2_with fail
  clear hmk hw1
  obtain ⟨G, hG⟩ : ∃ x, Hid (x = w1.heap.size) := ⟨_, hid rfl⟩
  rw [← hG.out]
  obtain ⟨w2, hw2⟩ : ∃ x, x = w1.alloc (.cells (madeCells #[.string ⟨#[]⟩, .int .u32 0, .int .u64 0, .int .u64 0, .int .u8 0, .string ⟨#[]⟩] ((n + 2) * 6)) 65) := ⟨_, rfl⟩
  have HT2 := hid (show w2.there G 0 ((n + 2) * 6) by
    rw [hw2, hG.out]
    exact there_made _ _ _ _ (by rw [size_madeCells]; exact Nat.le_refl _))
  have HB2 := hid (show Below w.heap.size w w2 from hw2 ▸ HB1.out.alloc (HB1.out.size) _)
  have HX2 := hid (show w2.heap[w.heap.size]? = some (.cells #[.string ⟨#[63, 33]⟩, .int .u32 0, .int .u64 0, .int .u64 0, .int .u8 0, .string ⟨#[]⟩] 65 (0, 0)) from hw2 ▸ (Below.heap_alloc _ _ _ (lt_of_block HX1.out)).trans HX1.out)
  rw [← hw2]
  clear hw2
  have hwG : w.heap.size < G := by rw [hG.out, HS1.out]; omega
  go_loopw [6] (fun i wr => ∃ k : Nat, k ≤ n + 2 ∧ i = .int .i64 (k : Int) ∧ wr.rangeAt G 0 (fCells (LL.take k)) ∧ wr.there G 0 ((n + 2) * 6) ∧ wr.heap[w.heap.size]? = some (.cells #[.string ⟨#[63, 33]⟩, .int .u32 0, .int .u64 0, .int .u64 0, .int .u8 0, .string ⟨#[]⟩] 65 (0, 0)) ∧ Below w.heap.size w wr) (fun i _ => n + 2 - (intOf i).toNat)
  case atStart => exact ⟨0, Nat.zero_le _, rfl, fun j v h => by (rw [List.take_zero] at h; cases h), HT2.out, HX2.out, HB2.out⟩
  case round =>
    obtain ⟨k, hk, rfl, hra, hth, hx, hb⟩ := hrel
    have HRa := hid hra
    have HTh := hid hth
    have HX := hid hx
    have HB := hid hb
    clear hra hth hx hb
    by_cases hlt : k < n + 2
    · have hkL : k < LL.length := by rw [HLl.out]; exact hlt
      have x0 : wr.cell? ⟨w.heap.size, 0, none⟩ = some (.string ⟨#[63, 33]⟩) := (cell_of_row _ _ 0 _ _ _ HX.out).trans rfl
      have x1 : wr.cell? ⟨w.heap.size, 1, none⟩ = some (.int .u32 0) := (cell_of_row _ _ 1 _ _ _ HX.out).trans rfl
      have x2 : wr.cell? ⟨w.heap.size, 2, none⟩ = some (.int .u64 0) := (cell_of_row _ _ 2 _ _ _ HX.out).trans rfl
      have x3 : wr.cell? ⟨w.heap.size, 3, none⟩ = some (.int .u64 0) := (cell_of_row _ _ 3 _ _ _ HX.out).trans rfl
      have x4 : wr.cell? ⟨w.heap.size, 4, none⟩ = some (.int .u8 0) := (cell_of_row _ _ 4 _ _ _ HX.out).trans rfl
      have x5 : wr.cell? ⟨w.heap.size, 5, none⟩ = some (.string ⟨#[]⟩) := (cell_of_row _ _ 5 _ _ _ HX.out).trans rfl
      have HTk := hid (there_part HTh.out (show k * 6 + 6 ≤ (n + 2) * 6 by omega))
      have i0 : (0 : Int) ≤ (k : Int) := by omega
      have i1 : (k : Int) < (n : Int) + 2 := by omega
      have hlk : (fCells (LL.take k)).length = k * 6 := by rw [fCells_len, List.length_take, Nat.min_eq_left (by omega)]
      obtain ⟨w3, hw3⟩ : ∃ x, wr.setCells G (k * 6) [.string ⟨#[63, 33]⟩, .int .u32 0, .int .u64 0, .int .u64 0, .int .u8 0, .string ⟨#[]⟩] = x := ⟨_, rfl⟩
      have HB3 := hid (show Below w.heap.size w w3 from hw3 ▸ below_setCells (by omega) _ _ _ HB.out)
      have HX3 := hid (show w3.heap[w.heap.size]? = some (.cells #[.string ⟨#[63, 33]⟩, .int .u32 0, .int .u64 0, .int .u64 0, .int .u8 0, .string ⟨#[]⟩] 65 (0, 0)) from hw3 ▸ (setCells_other _ _ _ _ _ (by omega)).trans HX.out)
      have HT3 := hid (show w3.there G 0 ((n + 2) * 6) from hw3 ▸ World.there_setCells HTh.out _ _ _)
      have HTk3 := hid (there_part HT3.out (show k * 6 + 6 ≤ (n + 2) * 6 by omega))
      have HR3 := hid (show w3.rangeAt G 0 (fCells (LL.take k)) from hw3 ▸ range_redo HRa.out hlk)
      have HR3m := hid (show w3.rangeAt G 0 (fCells (LL.take k) ++ mkF.cells) from hw3 ▸ range_step HRa.out hlk HTk.out)
      have Hlk := hid hlk
      have HTake := hid (show fCells (LL.take (k + 1)) = fCells (LL.take k) ++ (LL[k]).cells by rw [List.take_succ_eq_append_getElem hkL, fCells_append]; simp [fCells])
      clear hlk
      go_upto_region 6 with (refine wpList_store_mid rfl 65 _ _ rfl G (k * 6) #[.string ⟨#[63, 33]⟩, .int .u32 0, .int .u64 0, .int .u64 0, .int .u8 0, .string ⟨#[]⟩] rfl rfl HTk.out infoFact6t (by simp [Value.oneCell']) ?_)
      rw [hw3]
      clear hw3 x0 x1 x2 x3 x4 x5
      by_cases hkn : k < n
      · have hkl : k < l.length := by rw [Hn.out]; exact hkn
        obtain ⟨bq, off, rfl, -, hfa⟩ := fact_at (Hr.out.below HB3.out) hkl
        obtain ⟨f, hf⟩ : ∃ f, f = l[k] := ⟨_, rfl⟩
        rw [← hf] at hfa
        have HLk := hid (show LL[k] = f by simp only [hLL.out]; rw [List.getElem_append_left hkl, hf])
        clear hf
        obtain ⟨key, valid, seq, fl, kind, val⟩ := f
        obtain ⟨y0, y1, y2, y3, y4, y5⟩ := hfa
        dsimp only at y0 y1 y2 y3 y4 y5
        have i2 : (k : Int) < (n : Int) := by omega
        have hstep := range_step (ys := [.string key, .int .u32 (valid : Int), .int .u64 (seq : Int), .int .u64 (fl : Int), .int .u8 (kind : Int), .string val]) HR3.out Hlk.out HTk3.out
        have hthere := World.there_setCells HT3.out G (k * 6) [.string key, .int .u32 (valid : Int), .int .u64 (seq : Int), .int .u64 (fl : Int), .int .u8 (kind : Int), .string val]
        have hxx := (setCells_other [.string key, .int .u32 (valid : Int), .int .u64 (seq : Int), .int .u64 (fl : Int), .int .u8 (kind : Int), .string val] w3 G (k * 6) w.heap.size (by omega)).trans HX3.out
        have hbb := below_setCells (show w.heap.size ≤ G by omega) [.string key, .int .u32 (valid : Int), .int .u64 (seq : Int), .int .u64 (fl : Int), .int .u8 (kind : Int), .string val] (k * 6) _ HB3.out
        have HStep := hid hstep
        have HThere := hid hthere
        have HXX := hid hxx
        have HBB := hid hbb
        clear hstep hthere hxx hbb
        go_upto_region 7 with (fail)
        go_upto_region 4 with (refine wpList_store_mid rfl 65 _ _ rfl G (k * 6) #[.string key, .int .u32 (valid : Int), .int .u64 (seq : Int), .int .u64 (fl : Int), .int .u8 (kind : Int), .string val] ?_ ?_ HTk3.out infoFact6t (by simp [Value.oneCell']) ?_; rfl; rfl)
        go_wp2
        go_roundw
        case rel =>
          refine ⟨k + 1, by omega, by go_num, ?_, HThere.out, HXX.out, HBB.out⟩
          rw [HTake.out, HLk.out]
          exact HStep.out
        case measure => simp [intOf]; omega
      · have i2 : ¬ ((k : Int) < (n : Int)) := by omega
        have HLk := hid (show LL[k] = mkF by
          simp only [hLL.out]
          rw [List.getElem_append_right (by rw [Hn.out]; omega)]
          rcases (show k - l.length = 0 ∨ k - l.length = 1 by rw [Hn.out]; omega) with h | h <;> simp only [h] <;> rfl)
        go_wp2_with fail
        go_roundw
        case rel =>
          refine ⟨k + 1, by omega, by go_num, ?_, HT3.out, HX3.out, HB3.out⟩
          rw [HTake.out, HLk.out]
          exact HR3m.out
        case measure => simp [intOf]; omega
    · obtain rfl : k = n + 2 := by omega
      go_wp2_with fail
      go_ret
      refine ⟨G, rfl, by omega, ?_, HB.out⟩
      have h := HRa.out
      rw [List.take_of_length_le (by rw [HLl.out]; exact Nat.le_refl _)] at h
      exact rd_range h
theorem twin_facts (a : Option Addr) (n c : Nat) (l : List Fact) (w : World) (hn : l.length = n) (hm : n ≤ 4194304) (hr : Rd w a (fCells l)) :
    Calls Tryz.prog 10 #[.slice a n c] w fun e w' => ∃ g, e = .returned (.slice (some ⟨g, 0, none⟩) n (n + 2)) ∧ w.heap.size ≤ g ∧ Rd w' (some ⟨g, 0, none⟩) (fCells (l ++ [mkF, mkF])) ∧ Below w.heap.size w w' := by
  have H := hid (copied_facts a n c l w hn hm hr)
  clear hn hr
  go_enter Tryz.func10, Tryz.ntmps10
  go_wp2_with fail
  (with_reducible refine H.out.mono ?_)
  rintro e w1 ⟨g, rfl, hg, hh, hb⟩
  have HH := hid hh
  have HB := hid hb
  clear hh hb
  go_wp2
  go_ret
  exact ⟨g, rfl, hg, HH.out, HB.out⟩
set_option maxRecDepth 100000 in
set_option maxHeartbeats 2000000 in
theorem kept_facts (a : Option Addr) (g n c : Nat) (l : List Fact) (w : World) (hn : l.length = n) (_hm : n ≤ 4194304) (hr : Rd w a (fCells l)) (hg : Rd w (some ⟨g, 0, none⟩) (fCells (l ++ [mkF, mkF]))) :
    Calls Tryz.prog 56 #[.slice (some ⟨g, 0, none⟩) n (n + 2), .slice a n c, .agg #[.string ⟨#[63, 33]⟩, .int .u32 0, .int .u64 0, .int .u64 0, .int .u8 0, .string ⟨#[]⟩]] w fun e w' => e = .returned (.bool true) ∧ Below w.heap.size w w' := by
  have Hn := hid hn
  have Hr := hid hr
  have Hg := hid hg
  clear hn hr hg
  obtain ⟨LL, hLL⟩ : ∃ x, Hid (x = l ++ [mkF, mkF]) := ⟨_, hid rfl⟩
  rw [← hLL.out] at Hg
  have HLl := hid (show LL.length = n + 2 by rw [hLL.out, List.length_append, Hn.out]; rfl)
  have hnn : (((n : Int)) != (n : Int)) = false := by simp
  have hnn2 : (((n : Int) + 2) != ((n : Int) + 2)) = false := by simp
  have hB1 : Below w.heap.size w (w.alloc (.cells #[.string ⟨#[63, 33]⟩, .int .u32 0, .int .u64 0, .int .u64 0, .int .u8 0, .string ⟨#[]⟩] 65)) := (Below.refl _ _).alloc (Nat.le_refl _) _
  have HB1 := hid hB1
  have HX1 := hid (heap_alloc_new w (.cells #[.string ⟨#[63, 33]⟩, .int .u32 0, .int .u64 0, .int .u64 0, .int .u8 0, .string ⟨#[]⟩] 65))
  clear hB1
  go_enter Tryz.func56, Tryz.ntmps56
  go_wp2
  go_loopw [8] (fun i wr => ∃ j : Nat, j ≤ n + 2 ∧ i = .int .i64 (j : Int) ∧ wr.heap[w.heap.size]? = some (.cells #[.string ⟨#[63, 33]⟩, .int .u32 0, .int .u64 0, .int .u64 0, .int .u8 0, .string ⟨#[]⟩] 65 (0, 0)) ∧ Below w.heap.size w wr) (fun i _ => n + 2 - (intOf i).toNat)
  case atStart => exact ⟨0, Nat.zero_le _, rfl, HX1.out, HB1.out⟩
  case round =>
    obtain ⟨j, hj1, rfl, hx, hb⟩ := hrel
    have HX := hid hx
    have HB := hid hb
    clear hx hb
    by_cases hjn : j < n + 2
    · have i1 : (0 : Int) ≤ (j : Int) := by omega
      have i2 : (j : Int) < (n : Int) + 2 := by omega
      have hjL : j < LL.length := by rw [HLl.out]; exact hjn
      obtain ⟨b', o', e, -, hfa⟩ := fact_at (Hg.out.below HB.out) hjL
      cases e
      by_cases hjm : j < n
      · have hjl : j < l.length := by rw [Hn.out]; exact hjm
        obtain ⟨bq, off, rfl, -, hfb⟩ := fact_at (Hr.out.below HB.out) hjl
        obtain ⟨f, hf⟩ : ∃ f, f = l[j] := ⟨_, rfl⟩
        have hLj : LL[j] = f := by simp only [hLL.out]; rw [List.getElem_append_left hjl, hf]
        rw [hLj] at hfa
        rw [← hf] at hfb
        have hbb := neq_same f
        clear hf hLj
        obtain ⟨key, valid, seq, fl, kind, val⟩ := f
        unfold Fact.cells at hbb
        obtain ⟨y0, y1, y2, y3, y4, y5⟩ := hfa
        obtain ⟨z0, z1, z2, z3, z4, z5⟩ := hfb
        dsimp only at y0 y1 y2 y3 y4 y5 z0 z1 z2 z3 z4 z5 hbb
        rw [Nat.zero_add] at y0 y1 y2 y3 y4 y5
        have i3 : (j : Int) < (n : Int) := by omega
        have hd1 : decide (j < n) = true := by simp; omega
        have hd2 : decide (n ≤ j) = false := by simp; omega
        go_upto_region 7 with (fail)
        go_quiet (fail)
        go_wp2
        go_roundw
        case rel => exact ⟨j + 1, by omega, by go_num, HX.out, below_drewN HB.out _⟩
        case measure => simp [intOf]; omega
      · have hLj : LL[j] = mkF := by
          simp only [hLL.out]
          rw [List.getElem_append_right (by rw [Hn.out]; omega)]
          rcases (show j - l.length = 0 ∨ j - l.length = 1 by rw [Hn.out]; omega) with h | h <;> simp only [h] <;> rfl
        rw [hLj] at hfa
        have hbb : ∀ w, (binOp .neq 65 (.agg #[.string ⟨#[63, 33]⟩, .int .u32 0, .int .u64 0, .int .u64 0, .int .u8 0, .string ⟨#[]⟩]) (.agg #[.string ⟨#[63, 33]⟩, .int .u32 0, .int .u64 0, .int .u64 0, .int .u8 0, .string ⟨#[]⟩])).run Tryz.prog w = .ok (.bool false) w := fun w => neq_same mkF w
        obtain ⟨y0, y1, y2, y3, y4, y5⟩ := hfa
        unfold mkF at y0 y1 y2 y3 y4 y5
        dsimp only at y0 y1 y2 y3 y4 y5
        rw [Nat.zero_add] at y0 y1 y2 y3 y4 y5
        have x0 : wr.cell? ⟨w.heap.size, 0, none⟩ = some (.string ⟨#[63, 33]⟩) := (cell_of_row _ _ 0 _ _ _ HX.out).trans rfl
        have x1 : wr.cell? ⟨w.heap.size, 1, none⟩ = some (.int .u32 0) := (cell_of_row _ _ 1 _ _ _ HX.out).trans rfl
        have x2 : wr.cell? ⟨w.heap.size, 2, none⟩ = some (.int .u64 0) := (cell_of_row _ _ 2 _ _ _ HX.out).trans rfl
        have x3 : wr.cell? ⟨w.heap.size, 3, none⟩ = some (.int .u64 0) := (cell_of_row _ _ 3 _ _ _ HX.out).trans rfl
        have x4 : wr.cell? ⟨w.heap.size, 4, none⟩ = some (.int .u8 0) := (cell_of_row _ _ 4 _ _ _ HX.out).trans rfl
        have x5 : wr.cell? ⟨w.heap.size, 5, none⟩ = some (.string ⟨#[]⟩) := (cell_of_row _ _ 5 _ _ _ HX.out).trans rfl
        have hd1 : decide (j < n) = false := by simp; omega
        have hd2 : decide (n ≤ j) = true := by simp; omega
        go_upto_region 7 with (fail)
        go_quiet (fail)
        go_wp2
        go_roundw
        case rel => exact ⟨j + 1, by omega, by go_num, HX.out, below_drewN HB.out _⟩
        case measure => simp [intOf]; omega
    · go_wp2
      go_ret
      exact ⟨rfl, HB.out⟩
theorem left_facts (a : Option Addr) (g n c : Nat) (l : List Fact) (w : World) (hn : l.length = n) (hm : n ≤ 4194304) (hr : Rd w a (fCells l)) (hg : Rd w (some ⟨g, 0, none⟩) (fCells (l ++ [mkF, mkF]))) :
    Calls Tryz.prog 15 #[.slice (some ⟨g, 0, none⟩) n (n + 2), .slice a n c] w fun e w' => e = .returned (.bool true) ∧ Below w.heap.size w w' := by
  have H := hid (kept_facts a g n c l w hn hm hr hg)
  clear hn hr hg
  go_enter Tryz.func15, Tryz.ntmps15
  go_wp2_with fail
  (with_reducible refine H.out.mono ?_)
  rintro e w1 ⟨rfl, hb⟩
  have HB := hid hb
  clear hb
  go_wp2
  go_ret
  exact ⟨rfl, HB.out⟩
end Go.Proofs.Herb
