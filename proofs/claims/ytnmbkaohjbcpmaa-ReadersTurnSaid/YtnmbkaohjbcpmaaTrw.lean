/- ReadersTurn's walk. -/
import Derived.Test.YtnmbkaohjbcpmaaLwv
import Derived.Test.YtnmbkaohjbcpmaaTrd
namespace Go.Proofs.Herb
open Go.RowKit
theorem great_few {fs : List Fact} (h : ¬ 120000 < greatF fs) : fs.length ≤ 6000 := by
  have h2 := (great_len fs 0 (by unfold greatF at h; omega)).1
  omega
theorem xor8_form (x y : UInt8) : bits BinOp.xor IntKind.u8 (x.toNat : Int) (y.toNat : Int) = ((x ^^^ y).toNat : Int) := by
  rw [u8_xor_nat _ _ x.toNat_lt y.toNat_lt, UInt8.toNat_xor]
theorem xor_ne {x y : UInt8} (h : y ≠ 0) : x ≠ x ^^^ y := fun e => h (by
  have h1 : x ^^^ x = x ^^^ (x ^^^ y) := congrArg (x ^^^ ·) e
  rw [UInt8.xor_self, ← UInt8.xor_assoc, UInt8.xor_self, UInt8.zero_xor] at h1
  exact h1.symm)
theorem facts_upto (b o m c T : Nat) (w : World) (hT : T ≤ c) :
    (Instr.slice 33 (.slice (some ⟨b, o, none⟩) m c) none (some (.int .i64 (T : Int))) none).run Try.prog w = .ok (.slice (some ⟨b, o, none⟩) T c) w := by
  have i0 : (0 : Int) ≤ (T : Int) := by omega
  have i1 : (T : Int) ≤ (c : Int) := by omega
  go_simp
theorem told_cut {l : List Fact} {m : Nat} (h : l.length < m) : toldA l true m = (l, 13) := by
  unfold toldA
  rw [if_neg (by omega)]
  rfl
set_option maxRecDepth 100000 in
set_option maxHeartbeats 4000000 in
theorem turn_any (line : Nat) (q : Option Addr) (n c : Nat) (l : List Fact) (A B : Nat) (w : World) (hn : l.length = n) (hnc : n ≤ c) (hm : c ≤ 9223372036854775807) (hr : Rd w q (fCells l)) (ho : ∀ f ∈ l, f.Ok) (hs : ∀ f ∈ l, f.key.size ≤ 140737488355328 ∧ f.val.size ≤ 140737488355328) (hA : A < 65536) (hB : B < 65536) :
    Calls Try.prog 5 #[.int .u64 (line : Int), .slice q n c, .agg #[.int .u16 (A : Int), .int .u16 (B : Int)]] w fun e w' => e = .returned (.bool true) ∧ Below w.heap.size w w' := by
  obtain ⟨w1, hw1⟩ : ∃ W, W = w.alloc (.cells #[.int .u16 (A : Int), .int .u16 (B : Int)] 55) := ⟨_, rfl⟩
  obtain ⟨F5, hF5⟩ : ∃ n, n = w.heap.size := ⟨_, rfl⟩
  have hb1 : Below w.heap.size w w1 := by rw [hw1]; exact (Below.refl _ _).alloc (Nat.le_refl _) _
  have hx1 : w1.heap[F5]? = some (.cells #[.int .u16 (A : Int), .int .u16 (B : Int)] 55 (0, 0)) := by rw [hw1, hF5]; exact heap_alloc_new w _
  have HW1 := hid hw1
  have HF5 := hid hF5
  have HB1 := hid hb1
  have HX1 := hid hx1
  have HR1 := hid (hr.below hb1)
  have Hn := hid hn
  have Ho := hid ho
  have Hs := hid hs
  clear hw1 hF5 hb1 hx1 hr hn ho hs
  go_enter Try.func5, Try.ntmps5
  go_upto_region 1 with (fail)
  rw [← HW1.out, ← HF5.out]
  go_wp2_with fail
  refine (great_any q n c l w1 Hn.out (by omega) HR1.out Hs.out).mono ?_
  rintro e w2 ⟨g, rfl, hgr, hb2⟩
  have HB2 := hid (HB1.out.trans (hb2.mono HB1.out.size))
  have HX2 := hid ((hb2.block _ (lt_of_block HX1.out)).trans HX1.out)
  have HR2 := hid (HR1.out.below hb2)
  clear hb2
  cases g with
  | true =>
    clear hgr
    go_wp2_with (go_at_call 7; refine (lives_any _).mono ?_; rintro e w3 ⟨rfl, hb3⟩)
    go_ret
    exact ⟨rfl, HB2.out.trans (hb3.mono HB2.out.size)⟩
  | false =>
    have hfew := great_few (fs := l) (fun h => by have := hgr.2 h; cases this)
    rw [Hn.out] at hfew
    have HGr := hid hgr
    clear hgr
    go_upto_region 3 with (fail)
    by_cases hgd : (GoodF line l ∧ 0 < l.length) ∧ (tabB line l).length ≤ 65536
    · have HGd := hid hgd
      have HBd := hid (build_ok line q n c l w2 Hn.out hfew HR2.out Ho.out hgd.1 hgd.2)
      have hOp := opens_tab hgd.1 Ho.out (by rw [Hn.out]; exact hfew) hgd.2
      have HOp := hid hOp
      obtain ⟨C, hC⟩ : ∃ C, Hid (C = (propsF line l).cells.toArray) := ⟨_, hid rfl⟩
      rw [← hC.out] at HBd
      have hst : ∀ W : World, (storeCells ⟨W.heap.size, 0, none⟩ C.toList).run Try.prog (W.alloc (.cells #[Value.int IntKind.u64 0, Value.int IntKind.u64 0, Value.string { data := #[] }, Value.string { data := #[] }, Value.int IntKind.u64 0, Value.int IntKind.u64 0, Value.int IntKind.u32 0, Value.int IntKind.u32 0] 27)) = .ok () (W.alloc (.cells C 27)) := fun W =>
        run_storeCells_new (P := Try.prog) W 27 _ C (by rw [hC.out]; exact infoProps8) (by rw [hC.out]; rfl) (by rw [hC.out]; simp [Props.cells, Value.oneCell'])
      have hCs : C.size = 8 := by rw [hC.out]; rfl
      have hTLl := hOp.len
      clear hgd hOp
      go_wp2_with fail
      refine HBd.out.mono ?_
      rintro e w3 ⟨p, rfl, hf3, hb3⟩
      obtain ⟨TL, hTL⟩ : ∃ n, Hid (n = (tabB line l).length) := ⟨_, hid rfl⟩
      rw [← hTL.out] at hf3 hTLl ⊢
      have HF3 := hid hf3
      have HB23 := hid hb3
      have HB3 := hid (HB2.out.trans (hb3.mono HB2.out.size))
      have HX3 := hid ((hb3.block _ (lt_of_block HX2.out)).trans HX2.out)
      have HR3 := hid (HR2.out.below hb3)
      clear hf3 hb3 HBd
      have hTLb : TL ≤ 65536 := by rw [hTL.out]; exact HGd.out.2
      go_upto_region 4 with (fail)
      obtain ⟨w4, hw4⟩ : ∃ x, x = w3.alloc (.cells C 27) := ⟨_, rfl⟩
      have hb4 : Below w3.heap.size w3 w4 := by rw [hw4]; exact (Below.refl _ _).alloc (Nat.le_refl _) _
      rw [← hw4]
      have HF4 := hid (HF3.out.below hb4)
      have HB24 := hid (HB23.out.trans (hb4.mono HB23.out.size))
      have HB4 := hid (HB3.out.trans (hb4.mono HB3.out.size))
      have HX4 := hid ((hb4.block _ (lt_of_block HX3.out)).trans HX3.out)
      have HR4 := hid (HR3.out.below hb4)
      clear hw4 hb4 hst hCs
      have k0 : w4.cell? ⟨F5, 0, none⟩ = some (.int .u16 (A : Int)) := by rw [cell_of_row _ _ _ _ _ _ HX4.out]; rfl
      have k1 : w4.cell? ⟨F5, 1, none⟩ = some (.int .u16 (B : Int)) := by rw [cell_of_row _ _ _ _ _ _ HX4.out]; rfl
      by_cases hB0 : B % 256 = 0
      · have hz : ((B : Int) % 256 == 0) = true := by rw [beq_iff_eq]; omega
        have hz2 : (B : Int) % 256 = 0 := by omega
        go_wp2_with (go_at_call 7; refine (lives_any _).mono ?_; rintro e w5 ⟨rfl, hb5⟩)
        go_ret
        exact ⟨rfl, HB4.out.trans (hb5.mono HB4.out.size)⟩
      · have hz : ((B : Int) % 256 == 0) = false := by rw [beq_eq_false_iff_ne]; omega
        have hz2 : ¬ (B : Int) % 256 = 0 := by omega
        go_upto_region 8 with (fail)
        obtain ⟨bp, cap, cur, hpv, hbp, hpc, -, -, hps, hpt⟩ : ∃ g cap cur, Value.slice p TL TL = .slice (some ⟨g, 0, none⟩) TL cap ∧ w2.heap.size ≤ g ∧ w4.heap[g]? = some (.cells cur 5 (0, 0)) ∧ TL ≤ cap ∧ cap ≤ maxLen ∧ cap * 1 ≤ cur.size ∧ cur.toList.take (TL * 1) = (tabB line l).map bv := by
          obtain ⟨-, h2 | h2⟩ := HF4.out
          · exact absurd h2.2 (by omega)
          · exact h2
        obtain ⟨rfl⟩ : p = some ⟨bp, 0, none⟩ := by cases hpv; rfl
        obtain rfl : cap = TL := by cases hpv; rfl
        have hps' : cap ≤ cur.size := by omega
        rw [Nat.mul_one] at hpt
        have hat_ : ∀ j, j < cap → cur[j]? = ((tabB line l).map bv)[j]? := fun j hj => by
          rw [← hpt, List.getElem?_take_of_lt hj]
          simp
        obtain ⟨I, hI⟩ : ∃ I, I = A % cap := ⟨_, rfl⟩
        have hIl : I < cap := by rw [hI]; exact Nat.mod_lt _ (by omega)
        have hIt : I < (tabB line l).length := by rw [← hTL.out]; exact hIl
        obtain ⟨x, hx⟩ : ∃ x, x = (tabB line l)[I] := ⟨_, rfl⟩
        obtain ⟨y, hy⟩ : ∃ y, y = UInt8.ofNat (B % 256) := ⟨_, rfl⟩
        have hyn : y.toNat = B % 256 := by rw [hy]; simp
        have hy0 : y ≠ 0 := fun e => by rw [e] at hyn; simp at hyn; omega
        have hmod : (A : Int) % (cap : Int) = (I : Int) := by rw [hI]; omega
        have hmodt : (A : Int).tmod (cap : Int) = (I : Int) := by rw [Int.tmod_eq_emod_of_nonneg (by omega)]; exact hmod
        have hBm : (B : Int) % 256 = (y.toNat : Int) := by rw [hyn]; omega
        have hxor := xor8_form x y
        have i0 : (0 : Int) ≤ (I : Int) := by omega
        have i1 : (I : Int) < (cap : Int) := by omega
        obtain ⟨TD, D, hD1, hD2⟩ := class_d w4
        have zp : ∀ d, (D d).heap[bp]? = some (.cells cur 5 (0, 0)) := fun d => ((hD1 d).block _ (lt_of_block hpc)).trans hpc
        have z0 : ∀ d, (D d).cell? ⟨F5, 0, none⟩ = some (.int .u16 (A : Int)) := fun d => by rw [cell_of_row _ _ _ _ _ _ (((hD1 d).block _ (lt_of_block HX4.out)).trans HX4.out)]; rfl
        have z1 : ∀ d, (D d).cell? ⟨F5, 1, none⟩ = some (.int .u16 (B : Int)) := fun d => by rw [cell_of_row _ _ _ _ _ _ (((hD1 d).block _ (lt_of_block HX4.out)).trans HX4.out)]; rfl
        have zc : ∀ d, (D d).cell? ⟨bp, I, none⟩ = some (.int .u8 (x.toNat : Int)) := fun d => by
          rw [cell_of_row _ _ _ _ _ _ (zp d), hat_ I hIl, List.getElem?_map, List.getElem?_eq_getElem hIt, hx]
          rfl
        have Hyy := hid hy0
        have HI := hid hI
        have Hx := hid hx
        have HZp := hid zp
        have HAt_ := hid hat_
        have HPc := hid hpc
        obtain ⟨x0, hx0⟩ := hD2 { w4 with drawn := w4.drawn + 1 } (Below.refl _ _).drew
        haveI : Nonempty TD := ⟨x0⟩
        have HD1 := hid hD1
        clear hpv hy hyn hI hx hy0 hz2 zp hat_ hpc k0 k1 hD1 hD2
        refine region_last_d (D := D) 21 (by kernel_rfl) (by kernel_rfl) (by kernel_rfl) x0 hx0 ?_
        simp only [List.take_succ_cons, List.take_zero, List.drop_succ_cons, List.drop_zero]
        repeat (go_big_quiet_step (fail))
        refine wpQuiet_nil ?_
        intro d
        have hfI : ∀ d, (D d).frozen? ⟨bp, I, none⟩ = false := fun d => frozen_of_row _ _ _ _ _ (HZp.out d)
        go_upto_region 9 with (fail)
        obtain ⟨w5, hw5⟩ : ∃ W, W = D d := ⟨_, rfl⟩
        have hb5 : Below w4.heap.size w4 w5 := hw5 ▸ HD1.out d
        have hp5 : w5.heap[bp]? = some (.cells cur 5 (0, 0)) := hw5 ▸ HZp.out d
        rw [← hw5]
        obtain ⟨w6, hw6⟩ : ∃ W, W = w5.setCell ⟨bp, I, none⟩ (.int .u8 ((x.toNat ^^^ y.toNat : Nat) : Int)) := ⟨_, rfl⟩
        rw [← hw6]
        have hp6 : w6.heap[bp]? = some (.cells (cur.setIfInBounds I (.int .u8 ((x.toNat ^^^ y.toNat : Nat) : Int))) 5 (0, 0)) := by rw [hw6]; exact Go.heap_setCell_same _ _ I _ _ _ hp5
        obtain ⟨TB, hTB⟩ : ∃ L, Hid (L = (tabB line l).set I (x ^^^ y)) := ⟨_, hid rfl⟩
        have hTBl : TB.length = cap := by rw [hTB.out, List.length_set, ← hTL.out]
        have hrd6 : Rd w6 (some ⟨bp, 0, none⟩) (TB.map bv) := Rd.block hp6 fun j u hu => by
          have hj : j < cap := by
            have := (List.getElem?_eq_some_iff.1 hu).1
            rw [List.length_map, hTBl] at this
            exact this
          rw [Nat.zero_add, Array.getElem?_setIfInBounds]
          rw [hTB.out, List.getElem?_map, List.getElem?_set, ← hTL.out] at hu
          by_cases hj3 : I = j
          · subst hj3
            rw [if_pos rfl, if_pos hIl] at hu
            rw [if_pos rfl, if_pos (by omega)]
            rw [← hu]
            show _ = some (bv (x ^^^ y))
            unfold bv
            rw [UInt8.toNat_xor]
          · rw [if_neg hj3] at hu ⊢
            rw [HAt_.out j hj, List.getElem?_map]
            exact hu
        have HB26 := hid (show Below w2.heap.size w2 w6 by
          rw [hw6]
          exact (HB24.out.trans (hb5.mono HB24.out.size)).setCell (p := ⟨bp, I, none⟩) hbp _)
        have HB6 := hid (HB2.out.trans (HB26.out.mono HB2.out.size))
        have HR6 := hid (HR2.out.below HB26.out)
        have HRd6 := hid hrd6
        have HTl := hid hTBl
        have hcx : (tabB line l).getD I 0 ≠ x ^^^ y := by
          rw [List.getD_eq_getElem?_getD, List.getElem?_eq_getElem hIt, Option.getD_some, ← Hx.out]
          exact xor_ne Hyy.out
        have HCx := hid hcx
        clear hw5 hb5 hp5 hw6 hp6 hTBl hrd6 hcx z0 z1 zc hfI hxor hx0 hmod hmodt hBm hpt
        go_wp2_with fail
        refine (opn_any (some ⟨bp, 0, none⟩) cap cap TB w6 HTl.out (Nat.le_refl _) (by omega) (fun h => by cases h) HRd6.out).mono ?_
        rintro e w7 ⟨hb7, hcase⟩
        have HB7 := hid (HB6.out.trans (hb7.mono HB6.out.size))
        have HR7 := hid (HR6.out.below hb7)
        clear hb7
        rcases hcase with ⟨-, rfl⟩ | ⟨r, R, hr, rfl, hat⟩
        · go_wp2_with (go_at_call 7; refine (lives_any _).mono ?_; rintro e w8 ⟨rfl, hb8⟩)
          go_ret
          exact ⟨rfl, HB7.out.trans (hb8.mono HB7.out.size)⟩
        · have HAt := hid hat
          have HOr := hid hr
          obtain ⟨hno, m, hm, hfrom, hfw⟩ := turn_tab HGd.out.1 Ho.out (by rw [Hn.out]; exact hfew) HGd.out.2 hIt HCx.out (by rw [← hTB.out]; exact hr)
          have HNo := hid hno
          have HFrm := hid hfrom
          have HFit := hid (fit_of hr (by rw [HTl.out]; omega) hfw)
          have HFit0 := hid (fit0_of hr (by rw [HTl.out]; omega))
          have hlm : (l.take m).length = m := by rw [List.length_take]; omega
          have HLm := hid hlm
          have hmn : m < n := by rw [← Hn.out]; exact hm
          have HT := hid (told_cut (l := l.take m) (m := 1048576) (by rw [hlm]; omega))
          clear hat hr hno hfrom hfw hlm hm
          go_wp2_with fail
          refine (allr_any R r w7 HAt.out HFit.out).mono ?_
          rintro e w8 ⟨hb8, hcase⟩
          rcases hcase with ⟨-, rfl⟩ | ⟨fs, hfs, -⟩
          rotate_left
          · exact absurd ⟨fs, hfs⟩ HNo.out
          have HB8 := hid (HB7.out.trans (hb8.mono HB7.out.size))
          have HR8 := hid (HR7.out.below hb8)
          have HAt8 := hid (HAt.out.below hb8)
          clear hb8
          go_wp2_with fail
          refine (told_any R r w8 HAt8.out HFit0.out ⟨#[]⟩ 4294967295 1048576 (by decide) (by decide) (by decide) (by decide) _ rfl (l.take m) true (by rw [if_pos rfl]; exact HFrm.out)).mono ?_
          rintro e w9 ⟨hb9, q9, c9, rfl, hf9⟩
          rw [HT.out] at hf9 ⊢
          have hf9' : Fr w9 w8.heap.size 45 6 (.slice q9 (l.take m).length c9) (l.take m).length (fCells (l.take m)) := hf9
          have HL9 := hid hf9'.rd
          have HB9 := hid (HB8.out.trans (hb9.mono HB8.out.size))
          have HR9 := hid (HR8.out.below hb9)
          clear hf9 hf9' hb9
          dsimp only
          rw [HLm.out]
          obtain ⟨b, off, rfl, _, _⟩ := fact_at HR9.out HGd.out.1.2
          have hsl := fun W => facts_upto b off n c m W (by omega)
          have hlt : decide ((m : Int) < (n : Int)) = true := by simpa using hmn
          go_wp2_with fail
          refine (same_facts q9 (some ⟨b, off, none⟩) m c9 m c (l.take m) (l.take m) w9 HLm.out HLm.out (by omega) (by omega) HL9.out (by rw [fCells_take]; exact HR9.out.take _)).mono ?_
          rintro e w10 ⟨x10, rfl, hx10, hb10⟩
          obtain rfl : x10 = true := hx10.2 rfl
          have HB10 := hid (HB9.out.trans (hb10.mono HB9.out.size))
          clear hb10 hx10 hsl
          go_wp2_with (go_at_call 7; refine (lives_any _).mono ?_; rintro e w11 ⟨rfl, hb11⟩)
          go_ret
          exact ⟨rfl, HB10.out.trans (hb11.mono HB10.out.size)⟩
    · have HBd := hid (build_e line q n c l w2 Hn.out hfew HR2.out Ho.out)
      have hE : buildE line l ≠ 0 := fun h => hgd (buildE_zero.1 h)
      obtain ⟨E, hEe⟩ : ∃ e, e = buildE line l := ⟨_, rfl⟩
      rw [← hEe] at hE HBd
      have he : (E != 0) = true := by rw [bne_iff_ne]; exact hE
      clear hgd hE hEe
      go_wp2_with fail
      refine HBd.out.mono ?_
      rintro e w4 ⟨p, mm, dd, C, rfl, hCs, hC1, hb4⟩
      have HB4 := hid (HB2.out.trans (hb4.mono HB2.out.size))
      have hst : ∀ W : World, (storeCells ⟨W.heap.size, 0, none⟩ C.toList).run Try.prog (W.alloc (.cells #[Value.int IntKind.u64 0, Value.int IntKind.u64 0, Value.string { data := #[] }, Value.string { data := #[] }, Value.int IntKind.u64 0, Value.int IntKind.u64 0, Value.int IntKind.u32 0, Value.int IntKind.u32 0] 27)) = .ok () (W.alloc (.cells C 27)) := fun W =>
        run_storeCells_new (P := Try.prog) W 27 _ C (by rw [hCs]; exact infoProps8) (by rw [hCs]; rfl) (by rw [Array.all_eq_true_iff_forall_mem]; intro v hv; exact hC1 v (by simpa using hv))
      clear hb4 HBd hC1
      go_wp2_with (go_at_call 7; refine (lives_any _).mono ?_; rintro e w5 ⟨rfl, hb5⟩)
      go_ret
      exact ⟨rfl, HB4.out.trans ((((Below.refl w4.heap.size w4).alloc (Nat.le_refl _) _).trans (hb5.mono (by rw [World.size_alloc]; omega))).mono HB4.out.size)⟩
end Go.Proofs.Herb
