/- ReadersBack's walk. -/
import Derived.Test.YtnmbkaohjbcpmaaLwv
namespace Go.Proofs.Herb
open Go.RowKit
def aheadF (key : ByteArray) (valid : Nat) (f : Fact) : Prop := bL f.key.data.toList key.data.toList = true ∨ (f.key = key ∧ valid < f.valid)
theorem back_drop {line : Nat} {l : List Fact} (hg : GoodF line l) (ho : ∀ f ∈ l, f.Ok) (key : ByteArray) (valid : Nat) (hv : valid < 4294967296) {k : Nat} (hk : k ≤ l.length) (h1 : ∀ (i : Nat) (hi : i < k), aheadF key valid (l[i]'(by omega))) (h2 : ∀ h : k < l.length, ¬ aheadF key valid l[k]) :
    keepS ⟨(seekB key.data.toList valid).toArray⟩ l = (l.drop k).map fun f => (f, 0) := by
  have hs : ∀ f ∈ l, (bL (kput f) (seekB key.data.toList valid) = true ↔ aheadF key valid f) := fun f hf => seek_order (ho f hf) key valid hv
  conv => lhs; rw [← List.take_append_drop k l]
  rw [keepS_append, keepS_none (fs := l.take k), List.nil_append]
  · unfold keepS
    rw [List.filter_eq_self.2]
    intro f hf
    obtain ⟨j, hj, rfl⟩ := List.getElem_of_mem hf
    rw [List.length_drop] at hj
    rw [List.getElem_drop]
    have h3 := h2 (by omega)
    cases h4 : bL (kput (l[k + j]'(by omega))) (seekB key.data.toList valid) with
    | false => rfl
    | true =>
      exfalso
      refine h3 ((hs _ (List.getElem_mem _)).1 ?_)
      by_cases hj0 : j = 0
      · subst hj0; exact h4
      · exact bl_trans (kput_rise hg ho (by omega) (by omega)) h4
  · intro f hf
    obtain ⟨j, hj, rfl⟩ := List.getElem_of_mem hf
    rw [List.length_take] at hj
    rw [List.getElem_take]
    exact (hs _ (List.getElem_mem _)).2 (h1 j (by omega))
theorem has_tab {line : Nat} {l : List Fact} (hg : GoodF line l ∧ 0 < l.length) (hn : 0 < (chksF l).length) : ∀ f ∈ l, hasR (rdrF line l) f.key = true := by
  intro f hf
  obtain ⟨e1, e2, -⟩ := (props_good hg.1 hg.2).each f hf
  have e3 := fil_has f hf
  unfold hasR
  show ((decide (0 < (chksF l).length) && !bL f.key.data.toList (propsF line l).low.data.toList && !bL (propsF line l).high.data.toList f.key.data.toList) && hasF (filB l) f.key.data.toList) = true
  rw [e1, e2, e3]
  simpa using hn
theorem has_tab_no {r : Rdr} {k : ByteArray} (h : bL r.props.high.data.toList k.data.toList = true) : hasR r k = false := by
  unfold hasR
  rw [h]
  simp
theorem bl_more (a b : List UInt8) (h : b ≠ []) : bL a (a ++ b) = true := by
  have := bl_prefix a [] b
  rw [List.append_nil] at this
  rw [this]
  cases b with
  | nil => exact absurd rfl h
  | cons x b => rfl
theorem cat_zero (w : World) (hi : ByteArray) (h : hi.size ≤ 8388608) : (Op.stringOp .add hi ⟨#[0]⟩).run Try.prog w = .ok (.string (hi ++ ⟨#[0]⟩)) w := by
  unfold Op.stringOp
  have hs : (⟨#[0]⟩ : ByteArray).size = 1 := rfl
  simp only [hs]
  rw [if_neg (by rw [show IntKind.i64.max = 9223372036854775807 from rfl]; omega)]
  rfl
theorem fil_len (l : List Fact) (h : l.length ≤ 6000) : (filB l).length ≤ 100000 := by
  unfold filB
  rw [ofF_len]
  have h2 : (namesF l).length ≤ l.length := names_len l
  unfold blN
  omega
theorem slice_facts (b o m c T : Nat) (w : World) (hT : T ≤ m) (hc : m ≤ c) :
    (Instr.slice 33 (.slice (some ⟨b, o, none⟩) m c) (some (.int .i64 (T : Int))) none none).run Try.prog w = .ok (.slice (some ⟨b, if c = T then o else o + T * 6, none⟩) (m - T) (c - T)) w := by
  have i0 : (0 : Int) ≤ (T : Int) := by omega
  have i1 : (T : Int) ≤ (m : Int) := by omega
  by_cases h : c = T
  · rw [if_pos h]
    subst h
    have : m = c := by omega
    subst this
    go_simp
  · rw [if_neg h]
    go_simp
theorem told_few {l : List Fact} {m : Nat} (h : l.length < m) : toldA l false m = (l, 0) := by
  unfold toldA
  rw [if_neg (by omega)]
  rfl
theorem key_small {line : Nat} {l : List Fact} (hg : GoodF line l) {j : Nat} (hj : j < l.length) : l[j].key.size ≤ 32 := by
  obtain ⟨h, h1, -⟩ := hg j hj
  unfold mayF at h1
  rw [decide_eq_true_eq] at h1
  exact h1.2.1
theorem high_small {line : Nat} {l : List Fact} (hg : GoodF line l ∧ 0 < l.length) : (propsF line l).high.size ≤ 32 := by
  rw [(props_good hg.1 hg.2).high hg.2]
  exact key_small hg.1 (by omega)
theorem less_of {a b : ByteArray} {x : Bool} (h : bL a.data.toList b.data.toList = x) : Op.bytesLess a.toList b.toList = x := by
  rw [ByteArray.toList_eq, ByteArray.toList_eq]
  exact h
/-- more facts than a table of them may be asked for: not -/
theorem great_few {fs : List Fact} (h : ¬ 120000 < greatF fs) : fs.length ≤ 6000 := by
  have h2 := (great_len fs 0 (by unfold greatF at h; omega)).1
  omega
set_option maxRecDepth 100000 in
set_option maxHeartbeats 4000000 in
theorem back_any (line : Nat) (q : Option Addr) (n c : Nat) (l : List Fact) (fr : Fact) (w : World) (hn : l.length = n) (hnc : n ≤ c) (hm : c ≤ 9223372036854775807) (hr : Rd w q (fCells l)) (ho : ∀ f ∈ l, f.Ok) (hs : ∀ f ∈ l, f.key.size ≤ 140737488355328 ∧ f.val.size ≤ 140737488355328) (hfr : fr.Ok) :
    Calls Try.prog 4 #[.int .u64 (line : Int), .slice q n c, .agg fr.cells.toArray] w fun e w' => e = .returned (.bool true) ∧ Below w.heap.size w w' := by
  obtain ⟨w1, hw1⟩ : ∃ W, W = w.alloc (.cells #[.string fr.key, .int .u32 (fr.valid : Int), .int .u64 (fr.seq : Int), .int .u64 (fr.line : Int), .int .u8 (fr.kind : Int), .string fr.val] 45) := ⟨_, rfl⟩
  obtain ⟨F5, hF5⟩ : ∃ n, n = w.heap.size := ⟨_, rfl⟩
  have hb1 : Below w.heap.size w w1 := by rw [hw1]; exact (Below.refl _ _).alloc (Nat.le_refl _) _
  have hx1 : w1.heap[F5]? = some (.cells #[.string fr.key, .int .u32 (fr.valid : Int), .int .u64 (fr.seq : Int), .int .u64 (fr.line : Int), .int .u8 (fr.kind : Int), .string fr.val] 45 (0, 0)) := by rw [hw1, hF5]; exact heap_alloc_new w _
  have HW1 := hid hw1
  have HF5 := hid hF5
  have HB1 := hid hb1
  have HX1 := hid hx1
  have HR1 := hid (hr.below hb1)
  have Hn := hid hn
  have Ho := hid ho
  have Hs := hid hs
  have hfv := hfr.valid
  clear hw1 hF5 hb1 hx1 hr hn ho hs
  unfold Fact.cells
  go_enter Try.func4, Try.ntmps4
  go_upto_region 1 with (fail)
  rw [← HW1.out, ← HF5.out]
  have k0 : w1.cell? ⟨F5, 0, none⟩ = some (.string fr.key) := by rw [cell_of_row _ _ _ _ _ _ HX1.out]; rfl
  go_wp2_with fail
  refine (great_any q n c l w1 Hn.out (by omega) HR1.out Hs.out).mono ?_
  rintro e w2 ⟨g, rfl, hgr, hb2⟩
  have HB2 := hid (HB1.out.trans (hb2.mono HB1.out.size))
  have HX2 := hid ((hb2.block _ (lt_of_block HX1.out)).trans HX1.out)
  have HR2 := hid (HR1.out.below hb2)
  have k0 : w2.cell? ⟨F5, 0, none⟩ = some (.string fr.key) := by rw [cell_of_row _ _ _ _ _ _ HX2.out]; rfl
  clear hb2
  cases g with
  | true =>
    clear hgr
    go_wp2_with (go_at_call 7; refine (lives_any _).mono ?_; rintro e w3 ⟨rfl, hb3⟩)
    go_ret
    exact ⟨rfl, HB2.out.trans (hb3.mono HB2.out.size)⟩
  | false =>
    have hfew := great_few (fs := l) (fun h => by have := hgr.2 h; cases this)
    rw [Hn.out] at hfew
    have HGr := hid hgr
    clear hgr
    by_cases hk : fr.key.size ≤ 1000
    · have hkb : decide ((1000 : Int) < (fr.key.size : Int)) = false := by simp; omega
      go_upto_region 3 with (fail)
      clear k0
      by_cases hgd : (GoodF line l ∧ 0 < l.length) ∧ (tabB line l).length ≤ 65536
      · have HGd := hid hgd
        have HBd := hid (build_ok line q n c l w2 Hn.out hfew HR2.out Ho.out hgd.1 hgd.2)
        have hOp := opens_tab hgd.1 Ho.out (by rw [Hn.out]; exact hfew) hgd.2
        have HOp := hid hOp
        have HAl := hid (show AllR (rdrF line l) l from by
          have hpl : (rdrF line l).props.line = line := (props_good hgd.1.1 hgd.1.2).line
          exact ⟨all_tab hgd.1 Ho.out hgd.2, by rw [hpl]; exact hgd.1, by rw [hpl]; exact hgd.2, by rw [hpl]; rfl⟩)
        have HFit := hid (show (rdrF line l).Fit from fit_of hOp (by have := hgd.2; omega) fun fs h => by rw [h.one HAl.out.1, Hn.out]; exact hfew)
        obtain ⟨C, hC⟩ : ∃ C, Hid (C = (propsF line l).cells.toArray) := ⟨_, hid rfl⟩
        rw [← hC.out] at HBd
        have hst : ∀ W : World, (storeCells ⟨W.heap.size, 0, none⟩ C.toList).run Try.prog (W.alloc (.cells #[Value.int IntKind.u64 0, Value.int IntKind.u64 0, Value.string { data := #[] }, Value.string { data := #[] }, Value.int IntKind.u64 0, Value.int IntKind.u64 0, Value.int IntKind.u32 0, Value.int IntKind.u32 0] 27)) = .ok () (W.alloc (.cells C 27)) := fun W =>
          run_storeCells_new (P := Try.prog) W 27 _ C (by rw [hC.out]; exact infoProps8) (by rw [hC.out]; rfl) (by rw [hC.out]; simp [Props.cells, Value.oneCell'])
        have hCs : C.size = 8 := by rw [hC.out]; rfl
        clear hgd hOp
        go_wp2_with fail
        refine HBd.out.mono ?_
        rintro e w3 ⟨p, rfl, hf3, hb3⟩
        obtain ⟨TL, hTL⟩ : ∃ n, Hid (n = (tabB line l).length) := ⟨_, hid rfl⟩
        rw [← hTL.out] at hf3 ⊢
        have HF3 := hid hf3
        have HB3 := hid (HB2.out.trans (hb3.mono HB2.out.size))
        have HX3 := hid ((hb3.block _ (lt_of_block HX2.out)).trans HX2.out)
        have HR3 := hid (HR2.out.below hb3)
        clear hf3 hb3 HBd
        go_upto_region 6 with (fail)
        obtain ⟨w4, hw4⟩ : ∃ x, x = w3.alloc (.cells C 27) := ⟨_, rfl⟩
        obtain ⟨P8, hP8⟩ : ∃ n, n = w3.heap.size := ⟨_, rfl⟩
        have hb4 : Below w3.heap.size w3 w4 := by rw [hw4]; exact (Below.refl _ _).alloc (Nat.le_refl _) _
        have hx4 : w4.heap[P8]? = some (.cells C 27 (0, 0)) := by rw [hw4, hP8]; exact heap_alloc_new w3 _
        rw [← hw4, ← hP8]
        have HF4 := hid (HF3.out.below hb4)
        have HB4 := hid (HB3.out.trans (hb4.mono HB3.out.size))
        have HX4 := hid ((hb4.block _ (lt_of_block HX3.out)).trans HX3.out)
        have HR4 := hid (HR3.out.below hb4)
        have HP4 := hid hx4
        clear hw4 hP8 hb4 hx4 hst hCs
        have hTLb : TL ≤ 65536 := by rw [hTL.out]; exact HGd.out.2
        go_wp2_with fail
        refine (opn_any p TL TL (tabB line l) w4 hTL.out.symm (Nat.le_refl _) (by omega) (fun e => by
          have h := HF4.out.rd
          rw [e] at h
          have h2 := congrArg List.length h.none
          rw [List.length_map, ← hTL.out] at h2
          simpa using h2) HF4.out.rd).mono ?_
        rintro e w5 ⟨hb5, hcase⟩
        rcases hcase with ⟨hno, -⟩ | ⟨r, R, hr5, rfl, hat⟩
        · exact absurd ⟨_, HOp.out⟩ hno
        obtain rfl : r = rdrF line l := HOp.out.one hr5
        have HAt := hid hat
        have HB5 := hid (HB4.out.trans (hb5.mono HB4.out.size))
        have HX5 := hid ((hb5.block _ (lt_of_block HX4.out)).trans HX4.out)
        have HR5 := hid (HR4.out.below hb5)
        have hp5 := (hb5.block _ (lt_of_block HP4.out)).trans HP4.out
        have HP5 := hid hp5
        clear hr5 hat hb5
        go_upto_region 7 with (fail)
        obtain ⟨TD, D, hD1, hD2⟩ := class_d w5
        have hcall : ∀ {f : Nat} {vs : Array Value} {v : Value}, (∀ w', Below w5.heap.size w5 w' → Calls Try.prog f vs w' fun e w'' => e = .returned v ∧ Below w'.heap.size w' w'') → ∀ x, Calls Try.prog f vs (D x) fun e w'' => e = .returned v ∧ ∃ y, w'' = D y := fun hf x => calls_d hD1 hD2 hf x
        have h0 : 0 < (rdrF line l).chunks.length := HFit.out.n0
        have h1 : (rdrF line l).chunks.length ≤ 4611686018427387904 := by have := HFit.out.n1; omega
        have HH0 := hid h0
        have HH1 := hid h1
        have HCp := hid (hcall fun w' hb => props_yes (HAt.out.below hb) h0 h1)
        obtain ⟨pp, hpp⟩ : ∃ p, Hid (p = propsF line l) := ⟨_, hid rfl⟩
        rw [show (rdrF line l).props = pp from hpp.out.symm] at HCp
        rw [hC.out, ← hpp.out] at hp5
        unfold Props.cells at HCp hp5
        have yy : ∀ (x : TD) (j : Nat), (D x).cell? ⟨P8, j, none⟩ = ([.int .u64 (pp.line : Int), .int .u64 (pp.many : Int), .string pp.low, .string pp.high, .int .u64 (pp.least : Int), .int .u64 (pp.greatest : Int), .int .u32 (pp.early : Int), .int .u32 (pp.late : Int)].toArray : Array Value)[j]? := fun x j => cell_of_row _ _ _ _ _ _ (((hD1 x).block _ (lt_of_block hp5)).trans hp5)
        have y0 : ∀ x, (D x).cell? ⟨P8, 0, none⟩ = some (.int .u64 (pp.line : Int)) := fun x => yy x 0
        have y1 : ∀ x, (D x).cell? ⟨P8, 1, none⟩ = some (.int .u64 (pp.many : Int)) := fun x => yy x 1
        have y2 : ∀ x, (D x).cell? ⟨P8, 2, none⟩ = some (.string pp.low) := fun x => yy x 2
        have y3 : ∀ x, (D x).cell? ⟨P8, 3, none⟩ = some (.string pp.high) := fun x => yy x 3
        have y4 : ∀ x, (D x).cell? ⟨P8, 4, none⟩ = some (.int .u64 (pp.least : Int)) := fun x => yy x 4
        have y5 : ∀ x, (D x).cell? ⟨P8, 5, none⟩ = some (.int .u64 (pp.greatest : Int)) := fun x => yy x 5
        have y6 : ∀ x, (D x).cell? ⟨P8, 6, none⟩ = some (.int .u32 (pp.early : Int)) := fun x => yy x 6
        have y7 : ∀ x, (D x).cell? ⟨P8, 7, none⟩ = some (.int .u32 (pp.late : Int)) := fun x => yy x 7
        have hne : ∀ W : World, (binOp .neq 27 (.agg #[.int .u64 (pp.line : Int), .int .u64 (pp.many : Int), .string pp.low, .string pp.high, .int .u64 (pp.least : Int), .int .u64 (pp.greatest : Int), .int .u32 (pp.early : Int), .int .u32 (pp.late : Int)]) (.agg #[.int .u64 (pp.line : Int), .int .u64 (pp.many : Int), .string pp.low, .string pp.high, .int .u64 (pp.least : Int), .int .u64 (pp.greatest : Int), .int .u32 (pp.early : Int), .int .u32 (pp.late : Int)])).run Try.prog W = .ok (.bool false) W := fun W => neqProps W _ _ rfl ⟨pp, rfl⟩
        obtain ⟨x0, hx0⟩ := hD2 { w5 with drawn := w5.drawn + 1 } (Below.refl _ _).drew
        haveI : Nonempty TD := ⟨x0⟩
        have HD1 := hid hD1
        clear hcall hD1 hD2 yy hp5 h0 h1
        refine region_quiet_d (D := D) (by kernel_rfl) (by kernel_rfl) x0 hx0 ?_
        repeat (go_big_quiet_step ((go_at_call 10; with_reducible exact HCp.out _)))
        refine wpQuiet_nil ?_
        intro x
        obtain ⟨w6, hw6⟩ : ∃ y, y = D x := ⟨_, rfl⟩
        have HB56 := hid (show Below w5.heap.size w5 w6 from hw6 ▸ HD1.out x)
        rw [← hw6]
        have HB6 := hid (HB5.out.trans (HB56.out.mono HB5.out.size))
        have HX6 := hid ((HB56.out.block _ (lt_of_block HX5.out)).trans HX5.out)
        have HP6 := hid ((HB56.out.block _ (lt_of_block HP5.out)).trans HP5.out)
        have HR6 := hid (HR5.out.below HB56.out)
        have HAt6 := hid (HAt.out.below HB56.out)
        clear hw6 y0 y1 y2 y3 y4 y5 y6 y7 hne hx0 HCp HD1
        go_wp2_with fail
        refine (allr_any R (rdrF line l) w6 HAt6.out HFit.out).mono ?_
        rintro e w7 ⟨hb7, hcase⟩
        rcases hcase with ⟨hno, -⟩ | ⟨fs, hfs, q7, rfl, hf7⟩
        · exact absurd ⟨_, HAl.out⟩ hno
        obtain rfl : l = fs := HAl.out.1.one hfs.1
        rw [Hn.out] at hf7 ⊢
        have HB7 := hid (HB6.out.trans (hb7.mono HB6.out.size))
        have HX7 := hid ((hb7.block _ (lt_of_block HX6.out)).trans HX6.out)
        have HP7 := hid ((hb7.block _ (lt_of_block HP6.out)).trans HP6.out)
        have HR7 := hid (HR6.out.below hb7)
        have HAt7 := hid (HAt6.out.below hb7)
        have HL7 := hid hf7
        clear hfs hf7 hb7
        have k0 : w7.cell? ⟨F5, 0, none⟩ = some (.string fr.key) := by rw [cell_of_row _ _ _ _ _ _ HX7.out]; rfl
        have k1 : w7.cell? ⟨F5, 1, none⟩ = some (.int .u32 (fr.valid : Int)) := by rw [cell_of_row _ _ _ _ _ _ HX7.out]; rfl
        obtain ⟨S, hS⟩ : ∃ S : ByteArray, Hid (S = ⟨(seekB fr.key.data.toList fr.valid).toArray⟩) := ⟨_, hid rfl⟩
        obtain ⟨fl, hfl⟩ : ∃ x : List Fact, Hid (x = l.filter fun f => !bL (kput f) S.data.toList) := ⟨_, hid rfl⟩
        have HFrm := hid (show FromR (rdrF line l) S ((rdrF line l).chunks.drop (seekI (rdrF line l).chunks S)) (fl.map (fun f => (f, (0 : Int))) ++ (if false = true then [(zFact, 13)] else [])) from by
          rw [if_neg (by decide), List.append_nil, hfl.out]
          exact told_tab HGd.out.1 Ho.out HGd.out.2 S)
        have hfle : fl.length ≤ n := by rw [hfl.out, ← Hn.out]; exact List.length_filter_le _ _
        have HT := hid (told_few (l := fl) (m := 1048576) (by omega))
        go_wp2_with fail
        refine (told_any R (rdrF line l) w7 HAt7.out (fit0_of HOp.out (by have := HGd.out.2; omega)) fr.key fr.valid 1048576 (by omega) (by omega) (by decide) (by decide) S hS.out fl false HFrm.out).mono ?_
        rintro e w8 ⟨hb8, q8, c8, rfl, hf8⟩
        rw [HT.out] at hf8 ⊢
        have hf8' : Fr w8 w7.heap.size 45 6 (.slice q8 fl.length c8) fl.length (fCells fl) := hf8
        have HB8 := hid (HB7.out.trans (hb8.mono HB7.out.size))
        have HX8 := hid ((hb8.block _ (lt_of_block HX7.out)).trans HX7.out)
        have HP8 := hid ((hb8.block _ (lt_of_block HP7.out)).trans HP7.out)
        have HR8 := hid (HR7.out.below hb8)
        have HAt8 := hid (HAt7.out.below hb8)
        have HL8 := hid (HL7.out.rd.below hb8)
        have HM8 := hid hf8'.rd
        clear hf8 hf8' hb8 k0 k1
        dsimp only
        obtain ⟨fn, hfn⟩ : ∃ x, Hid (x = fl.length) := ⟨_, hid rfl⟩
        rw [← hfn.out] at hfle ⊢
        go_wp2_with fail
        go_loopw [16] (fun i wr => ∃ k : Nat, k ≤ n ∧ i = .int .i64 (k : Int) ∧ (∀ (j : Nat) (hj : j < k) (hl : j < l.length), aheadF fr.key fr.valid (l[j]'hl)) ∧ Below w8.heap.size w8 wr) (fun i _ => n - (intOf i).toNat)
        case atStart => exact ⟨0, Nat.zero_le _, rfl, fun j hj _ => absurd hj (Nat.not_lt_zero _), Below.refl _ _⟩
        case round =>
          obtain ⟨k, hk, rfl, hah, hb⟩ := hrel
          have HAh := hid hah
          have HB := hid hb
          clear hah hb
          go_upto_region 12 with (fail)
          obtain ⟨E, hE⟩ : ∃ E : Bool, Hid (E = true ↔ ∃ h : k < l.length, aheadF fr.key fr.valid (l[k]'h)) := by
            by_cases h : ∃ h : k < l.length, aheadF fr.key fr.valid (l[k]'h)
            · exact ⟨true, hid ⟨fun _ => h, fun _ => rfl⟩⟩
            · exact ⟨false, hid ⟨fun h2 => (by cases h2), fun h2 => absurd h2 h⟩⟩
          go_cut [16, 97] (fun v16 v97 wc => v16 = .int .i64 (k : Int) ∧ v97 = .bool E ∧ Below w8.heap.size w8 wc)
          case first =>
            by_cases hlt : k < n
            · have d0 : decide ((k : Int) < (n : Int)) = true := by simpa using hlt
              have hkl : k < l.length := by rw [Hn.out]; exact hlt
              obtain ⟨b, off, rfl, _, hfa⟩ := fact_at (HR8.out.below HB.out) hkl
              obtain ⟨f, hf⟩ : ∃ f, f = l[k] := ⟨_, rfl⟩
              rw [← hf] at hfa
              have hE2 : E = true ↔ aheadF fr.key fr.valid f := by
                rw [hE.out, hf]
                exact ⟨fun ⟨_, h⟩ => h, fun h => ⟨hkl, h⟩⟩
              have HE2 := hid hE2
              have c0 := hfa.c0
              have c1 := hfa.c1
              have i0 : (0 : Int) ≤ (k : Int) := by omega
              have i1 : (k : Int) < (n : Int) := by omega
              have hx := (HB.out.block _ (lt_of_block HX8.out)).trans HX8.out
              have g0 : wr.cell? ⟨F5, 0, none⟩ = some (.string fr.key) := by rw [cell_of_row _ _ _ _ _ _ hx]; rfl
              have g1 : wr.cell? ⟨F5, 1, none⟩ = some (.int .u32 (fr.valid : Int)) := by rw [cell_of_row _ _ _ _ _ _ hx]; rfl
              clear hf hfa hE2 hx
              by_cases h1 : bL f.key.data.toList fr.key.data.toList = true
              · have hl1 := less_of h1
                obtain rfl : E = true := HE2.out.2 (.inl h1)
                clear h1
                go_quiet (fail)
                go_wp2
                go_meet
                case rel => exact ⟨rfl, rfl, below_drewN HB.out _⟩
              · have h1' : bL f.key.data.toList fr.key.data.toList = false := by simpa using h1
                have hl1 := less_of h1'
                by_cases h2 : f.key = fr.key
                · have he : (f.key.toList == fr.key.toList) = true := by rw [h2]; simp
                  by_cases h3 : fr.valid < f.valid
                  · have hv : decide ((fr.valid : Int) < (f.valid : Int)) = true := by simpa using h3
                    obtain rfl : E = true := HE2.out.2 (.inr ⟨h2, h3⟩)
                    have h3' := h3
                    clear h1 h2 h1' h3
                    go_quiet (fail)
                    go_wp2
                    go_meet
                    case rel => exact ⟨rfl, rfl, below_drewN HB.out _⟩
                  · have hv : decide ((fr.valid : Int) < (f.valid : Int)) = false := by simp; omega
                    obtain rfl : E = false := by
                      cases hEE : E with
                      | false => rfl
                      | true =>
                        rcases HE2.out.1 hEE with h | h
                        · exact absurd h h1
                        · exact absurd h.2 h3
                    have h3' := h3
                    clear h1 h2 h1' h3
                    go_quiet (fail)
                    go_wp2
                    go_meet
                    case rel => exact ⟨rfl, rfl, below_drewN HB.out _⟩
                · have he : (f.key.toList == fr.key.toList) = false := beq_eq_false_iff_ne.2 fun e => h2 (toList_inj.1 e)
                  obtain rfl : E = false := by
                    cases hEE : E with
                    | false => rfl
                    | true =>
                      rcases HE2.out.1 hEE with h | h
                      · exact absurd h h1
                      · exact absurd h.1 h2
                  clear h1 h2 h1'
                  go_quiet (fail)
                  go_wp2
                  go_meet
                  case rel => exact ⟨rfl, rfl, below_drewN HB.out _⟩
            · have d0 : decide ((k : Int) < (n : Int)) = false := by simp; omega
              obtain rfl : E = false := by
                cases hEE : E with
                | false => rfl
                | true =>
                  obtain ⟨h, -⟩ := hE.out.1 hEE
                  rw [Hn.out] at h
                  omega
              go_quiet (fail)
              go_wp2
              go_meet
              case rel => exact ⟨rfl, rfl, below_drewN HB.out _⟩
          case rest =>
            obtain ⟨rfl, rfl, hbc⟩ := hcut
            have HBc := hid hbc
            clear hbc
            cases E with
            | true =>
              obtain ⟨hkl, hka⟩ := hE.out.1 rfl
              have hkn : k < n := by rw [← Hn.out]; exact hkl
              have HKa := hid hka
              clear hka
              go_wp2
              go_roundw
              case rel => exact ⟨k + 1, by omega, by go_num, fun j hj hl => by
                by_cases h : j < k
                · exact HAh.out j h hl
                · obtain rfl : j = k := by omega
                  exact HKa.out, HBc.out⟩
              case measure => simp [intOf]; omega
            | false =>
              have hkeep := back_drop HGd.out.1.1 Ho.out fr.key fr.valid (by omega) (k := k) (by rw [Hn.out]; exact hk) (fun i hi => HAh.out i hi (by rw [Hn.out]; omega)) (fun h h2 => by
                have := hE.out.2 ⟨h, h2⟩
                cases this)
              obtain rfl : fl = l.drop k := by
                have h := congrArg okF hkeep
                rw [← hS.out] at h
                unfold keepS at h
                rw [okF_zero, okF_zero, ← hfl.out] at h
                exact h
              have hfnk : fn = n - k := by rw [hfn.out, List.length_drop, Hn.out]
              subst hfnk
              obtain ⟨b, off, rfl, _, _⟩ := fact_at HR8.out HGd.out.1.2
              have hsl := fun W => slice_facts b off n c k W hk hnc
              obtain ⟨qs, hqs⟩ : ∃ x : Addr, x = ⟨b, if c = k then off else off + k * 6, none⟩ := ⟨_, rfl⟩
              rw [← hqs] at hsl
              have hrs : Rd w8 (some qs) (fCells (l.drop k)) := by
                by_cases hck : c = k
                · refine .inl ?_
                  rw [List.drop_of_length_le (by rw [Hn.out]; omega)]
                  rfl
                · rw [hqs, if_neg hck, fCells_drop]
                  exact HR8.out.drop _
              have HRs := hid hrs
              have HHn := hid (show (l.drop k).length = n - k from hfn.out.symm)
              clear hqs hrs hkeep
              go_wp2_with fail
              refine (same_facts q7 _ n n n c l l wc Hn.out Hn.out (by omega) (by omega) (HL8.out.below HBc.out) (HR8.out.below HBc.out)).mono ?_
              rintro e w9 ⟨x9, rfl, hx9, hb9⟩
              obtain rfl : x9 = true := hx9.2 rfl
              have HB9 := hid (HBc.out.trans (hb9.mono HBc.out.size))
              clear hb9 hx9
              go_wp2_with fail
              refine (same_facts q8 (some qs) (n - k) c8 (n - k) (c - k) (l.drop k) (l.drop k) w9 HHn.out HHn.out (by omega) (by omega) (HM8.out.below HB9.out) (HRs.out.below HB9.out)).mono ?_
              rintro e w10 ⟨x10, rfl, hx10, hb10⟩
              obtain rfl : x10 = true := hx10.2 rfl
              have HB10 := hid (HB9.out.trans (hb10.mono HB9.out.size))
              clear hb10 hx10 hsl
              go_wp2_with fail
              go_loopw [17] (fun i wr => ∃ k : Nat, k ≤ n ∧ i = .int .i64 (k : Int) ∧ Below w8.heap.size w8 wr) (fun i _ => n - (intOf i).toNat)
              case atStart => exact ⟨0, Nat.zero_le _, rfl, HB10.out⟩
              case round =>
                obtain ⟨m, hm, rfl, hb⟩ := hrel
                have HB := hid hb
                clear hb
                by_cases hlt : m < n
                · have d0 : decide ((m : Int) < (n : Int)) = true := by simpa using hlt
                  have hml : m < l.length := by rw [Hn.out]; exact hlt
                  obtain ⟨b2, off2, hbo, _, hfa⟩ := fact_at (HR8.out.below HB.out) hml
                  cases hbo
                  have hks := key_small HGd.out.1.1 hml
                  have hhas := has_tab HGd.out.1 HFit.out.n0 _ (List.getElem_mem hml)
                  obtain ⟨f, hf⟩ : ∃ f, f = l[m] := ⟨_, rfl⟩
                  rw [← hf] at hfa hks hhas
                  have c0 := hfa.c0
                  have i0 : (0 : Int) ≤ (m : Int) := by omega
                  have i1 : (m : Int) < (n : Int) := by omega
                  have HCh := hid (has_yes f.key (by omega) (HAt8.out.below HB.out) HH0.out HH1.out (fil_len l (by rw [Hn.out]; exact hfew)))
                  rw [hhas] at HCh
                  clear hf hfa hks hhas
                  go_wp2_with (go_at_call 9; refine HCh.out.mono ?_; rintro e w11 ⟨rfl, hb11⟩)
                  go_roundw
                  case rel => exact ⟨m + 1, by omega, by go_num, HB.out.trans (hb11.mono HB.out.size)⟩
                  case measure => simp [intOf]; omega
                · have d0 : decide ((m : Int) < (n : Int)) = false := by simp; omega
                  have hp3 : wr.cell? ⟨P8, 3, none⟩ = some (.string (propsF line l).high) := by
                    rw [cell_of_row _ _ _ _ _ _ ((HB.out.block _ (lt_of_block HP8.out)).trans HP8.out), hC.out]
                    rfl
                  have hhs := high_small HGd.out.1
                  obtain ⟨hi, hhi⟩ : ∃ x, Hid (x = (propsF line l).high) := ⟨_, hid rfl⟩
                  rw [← hhi.out] at hp3 hhs
                  have hcat := fun W => cat_zero W hi (by omega)
                  obtain ⟨hz, hhz⟩ : ∃ x : ByteArray, Hid (x = hi ++ ⟨#[0]⟩) := ⟨_, hid rfl⟩
                  have hsz : hz.size ≤ 1000000 := by rw [hhz.out, ByteArray.size_append]; show hi.size + 1 ≤ _; omega
                  have hno : hasR (rdrF line l) hz = false := has_tab_no (by
                    show bL (propsF line l).high.data.toList hz.data.toList = true
                    rw [← hhi.out, hhz.out]
                    have := bl_more hi.data.toList [0] (by simp)
                    simpa using this)
                  rw [← hhz.out] at hcat
                  have HCh := hid (has_yes hz hsz (HAt8.out.below HB.out) HH0.out HH1.out (fil_len l (by rw [Hn.out]; exact hfew)))
                  rw [hno] at HCh
                  clear hno hsz
                  go_wp2_with fail
                  refine HCh.out.mono ?_
                  rintro e w11 ⟨rfl, hb11⟩
                  have HB11 := hid (HB.out.trans (hb11.mono HB.out.size))
                  clear hb11
                  go_wp2_with (go_at_call 7; refine (lives_any _).mono ?_; rintro e w12 ⟨rfl, hb12⟩)
                  go_ret
                  exact ⟨rfl, HB8.out.trans ((HB11.out.trans (hb12.mono HB11.out.size)).mono HB8.out.size)⟩
      · have HBd := hid (build_e line q n c l w2 Hn.out hfew HR2.out Ho.out)
        have hE : buildE line l ≠ 0 := fun h => hgd (buildE_zero.1 h)
        obtain ⟨E, hEe⟩ : ∃ e, e = buildE line l := ⟨_, rfl⟩
        rw [← hEe] at hE HBd
        have he : (E != 0) = true := by rw [bne_iff_ne]; exact hE
        clear hgd hE hEe
        go_wp2_with fail
        refine HBd.out.mono ?_
        rintro e w4 ⟨p, mm, dd, C, rfl, hCs, hC1, hb4⟩
        have HB4 := hid (HB2.out.trans (hb4.mono HB2.out.size))
        have hst : ∀ W : World, (storeCells ⟨W.heap.size, 0, none⟩ C.toList).run Try.prog (W.alloc (.cells #[Value.int IntKind.u64 0, Value.int IntKind.u64 0, Value.string { data := #[] }, Value.string { data := #[] }, Value.int IntKind.u64 0, Value.int IntKind.u64 0, Value.int IntKind.u32 0, Value.int IntKind.u32 0] 27)) = .ok () (W.alloc (.cells C 27)) := fun W =>
          run_storeCells_new (P := Try.prog) W 27 _ C (by rw [hCs]; exact infoProps8) (by rw [hCs]; rfl) (by rw [Array.all_eq_true_iff_forall_mem]; intro v hv; exact hC1 v (by simpa using hv))
        clear hb4 HBd hC1
        go_wp2_with (go_at_call 7; refine (lives_any _).mono ?_; rintro e w5 ⟨rfl, hb5⟩)
        go_ret
        exact ⟨rfl, HB4.out.trans ((((Below.refl w4.heap.size w4).alloc (Nat.le_refl _) _).trans (hb5.mono (by rw [World.size_alloc]; omega))).mono HB4.out.size)⟩
    · have hkb : decide ((1000 : Int) < (fr.key.size : Int)) = true := by simp; omega
      go_wp2_with (go_at_call 7; refine (lives_any _).mono ?_; rintro e w3 ⟨rfl, hb3⟩)
      go_ret
      exact ⟨rfl, HB2.out.trans (hb3.mono HB2.out.size)⟩
end Go.Proofs.Herb
