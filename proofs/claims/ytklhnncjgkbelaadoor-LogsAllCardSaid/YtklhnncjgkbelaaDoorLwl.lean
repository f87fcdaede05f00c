/- The law LogsAll: it answers true. For bytes that can be read, in worlds where strconv's table of powers of ten reads as it was laid. -/
import Derived.Test.YtklhnncjgkbelaaDoorSame
import Derived.Test.YtklhnncjgkbelaaDoorRfo
import Derived.Test.YtklhnncjgkbelaaDoorBkd
namespace Go.Proofs.Herb
open Go.RowKit
theorem same_bytes_l (a b : Option Addr) (n c m d : Nat) (l k : List UInt8) (w : World) (hn : l.length = n) (hm : k.length = m) (hn' : n ≤ 4611686018427387904) (hm' : m ≤ 4611686018427387904) (hr : Rd w a (l.map bv)) (hs : Rd w b (k.map bv)) :
    Calls Tryd.prog 11 #[.slice a n c, .slice b m d] w fun e w' => e = .returned (.bool (l == k)) ∧ Below w.heap.size w w' := by
  have HE := hid (equal_bytes a b n c m d l k w hn hm hn' hm' hr hs)
  clear hn hm hr hs
  go_enter Tryd.func11, Tryd.ntmps11
  go_wp2_with fail
  refine HE.out.mono ?_
  rintro e w1 ⟨rfl, hb⟩
  have HB := hid hb
  clear hb
  go_wp2
  go_ret
  exact ⟨rfl, HB.out⟩
theorem RowsA.below {w w' : World} {base : Nat} {v : Value} {ls : List (List UInt8)} (h : RowsA w base v ls) (hb : Below w.heap.size w w') : RowsA w' base v ls := by
  obtain ⟨vs, h1, h2, h3, h4⟩ := h
  exact ⟨vs, h1, h2.below hb, fun i x l hx hl => (h3 i x l hx hl).below hb, h4⟩
theorem recs_small : ∀ (f : Nat) (b : List UInt8) (at_ : Nat), ∀ x ∈ recsF f b at_, x.1.length ≤ b.length
  | 0, _, _, x, h => by cases h
  | f + 1, b, at_, x, h => by
    by_cases h0 : (getOne b at_).2.2 = 0
    · have ho := getOne_ok h0
      unfold recsF at h
      rw [if_pos h0] at h
      rcases List.mem_cons.1 h with rfl | h
      · show (getOne b at_).1.length ≤ _; omega
      · exact recs_small f b _ x h
    · rw [recsF_end h0] at h
      cases h
theorem RowsA.kpB {w w' : World} {base : Nat} {v : Value} {ls : List (List UInt8)} (h : RowsA w base v ls) (hk : KpB w w') : RowsA w' base v ls := by
  obtain ⟨vs, h1, h2, h3, h4⟩ := h
  exact ⟨vs, h1, h2.kpB hk (by decide) (by decide), fun i x l hx hl => (h3 i x l hx hl).kpB hk (by decide) (by decide), h4⟩
theorem infoBook : (Tryd.prog.info? 34).map (·.size) = some 1 := by kernel_rfl
set_option maxRecDepth 100000 in
set_option maxHeartbeats 4000000 in
theorem allLaw_any (a : Option Addr) (n c : Nat) (l : List UInt8) (w : World) (hn : l.length = n) (hc : n ≤ c) (hcm : c ≤ maxLen) (hr : Rd w a (l.map bv)) (ha : a = none → c = 0) (ht : Pow10 w) :
    Calls Tryd.prog 3 #[.slice a n c] w fun e w' => e = .returned (.bool true) ∧ Below w.heap.size w w' := by
  have Hn := hid hn
  have Hr := hid hr
  have Ha := hid ha
  have HT := hid ht
  have Hcm := hid hcm
  clear hn hr ha ht hcm
  by_cases hbig : 20000 < n
  · have d0 : decide ((20000 : Int) < (n : Int)) = true := by simp; omega
    go_enter Tryd.func3, Tryd.ntmps3
    go_wp2_with fail
    refine (lives_any w).mono ?_
    rintro e w2 ⟨rfl, hb2⟩
    have HB2 := hid hb2
    clear hb2
    go_wp2
    go_ret
    exact ⟨rfl, HB2.out⟩
  · have d0 : decide ((20000 : Int) < (n : Int)) = false := by simp; omega
    go_enter Tryd.func3, Tryd.ntmps3
    go_wp2_with fail
    refine (mk_any 1048576 a n c l w Hn.out hc Hcm.out Hr.out Ha.out (by omega) (by omega)).mono ?_
    rintro e w1 ⟨m, rfl, hD1, hfp, hb1⟩
    have HD1 := hid hD1
    have HB1 := hid hb1
    have hs1 := hb1.size
    obtain ⟨LS, hLS⟩ : ∃ L, Hid (L = (recsOf l).map (·.1)) := ⟨_, hid rfl⟩
    obtain ⟨WB, hWB⟩ : ∃ b, Hid (b = decide (endOf (recsOf l) = l.length)) := ⟨_, hid rfl⟩
    have HAp := hid (show ∀ (W : World) (_ : Below w1.heap.size w1 W), Calls Tryd.prog 6 #[.pointer (some ⟨m.D, 0, none⟩), .string kA] W fun e w' => ∃ v, e = .returned (.tuple #[v, .bool WB, .int .i64 0]) ∧ RowsA w' W.heap.size v LS ∧ Below W.heap.size W w' from fun W hb => by
      have h := all_apart m (oneS 1048576 l) kA (by unfold maxLen; decide) W (HD1.out.below hb) (one_dir _ _) (by simp [oneS]; have := Hn.out; omega)
      have e1 : allL (oneS 1048576 l) kA = LS := by rw [hLS.out]; rfl
      have e2 : allW (oneS 1048576 l) kA = WB := by
        rw [hWB.out]; unfold allW
        rw [one_known, one_read]
        simp
      rw [e1, e2, one_known] at h
      exact h)
    have HRe := hid (show ∀ (W : World) (_ : Below w1.heap.size w1 W), Calls Tryd.prog 10 #[.pointer (some ⟨m.D, 0, none⟩), .string kA] W fun e w' => ∃ q, e = .returned (.tuple #[.slice q n n, .int .i64 0]) ∧ Rd w' q (l.map bv) ∧ Below W.heap.size W w' from fun W hb => by
      have h := read_clip m (oneS 1048576 l) kA (by unfold maxLen; decide) W (HD1.out.below hb) (one_dir _ _) (by simp [oneS]; have := Hn.out; omega)
      rw [one_read, one_known, Hn.out] at h
      exact h.mono fun _ _ ⟨q, h1, h2, h3⟩ => ⟨q, h1, h2.rd, h3⟩)
    have hLSl : LS.length ≤ 20000 := by rw [hLS.out, List.length_map]; have := recsOf_length l; have := Hn.out; omega
    have hLSm : ∀ x ∈ LS, x.length ≤ 4194304 := fun x hx => by
      rw [hLS.out] at hx
      obtain ⟨y, hy, rfl⟩ := List.mem_map.1 hx
      have := recs_small _ _ _ y hy
      have := Hn.out
      omega
    have HLm := hid hLSm
    clear hD1 hfp hb1 hLSm
    go_wp2_with fail
    refine (HAp.out w1 (Below.refl _ _)).mono ?_
    rintro e w2 ⟨v1, rfl, hr1, hb2⟩
    have HR1 := hid hr1
    have HB2 := hid hb2
    have hs2 := hb2.size
    clear hr1 hb2
    go_wp2_with fail
    refine (ref_logs a n c l w2 Hn.out hc (by omega) (Hr.out.below (HB1.out.trans (HB2.out.mono hs1)))).mono ?_
    rintro e w3 ⟨vm, rfl, hrm, hb3⟩
    rw [← hWB.out]
    have HRm := hid (show Rows w3 w2.heap.size vm LS by rw [hLS.out]; exact hrm)
    have HB3 := hid (HB2.out.trans (hb3.mono hs2))
    have HR13 := hid (HR1.out.below hb3)
    have HC3 := hid hb3
    have hs3 := hb3.size
    clear hrm hb3
    go_wp2_with fail
    refine (HAp.out w3 HB3.out).mono ?_
    rintro e w4 ⟨v3, rfl, hr4, hb4⟩
    have HR4 := hid hr4
    have HR14 := hid (HR13.out.below hb4)
    have HRm4 := hid (HRm.out.below hb4)
    have HB4 := hid (HB3.out.trans (hb4.mono HB3.out.size))
    have hs4 := hb4.size
    have HC4 := hid (HC3.out.trans (hb4.mono hs3))
    clear hr4 hb4
    obtain ⟨Kb, hKb⟩ : ∃ x, x = w4.heap.size := ⟨_, rfl⟩
    obtain ⟨w5, hw5⟩ : ∃ x, x = (w4.alloc (.cells #[.slice none 0 0] 34)).setRow w4.heap.size #[.slice none 0 0] := ⟨_, rfl⟩
    have hb5 : Below w4.heap.size w4 w5 := by rw [hw5]; exact below_setRow ((Below.refl _ _).alloc (Nat.le_refl _) _) (Nat.le_refl _) _
    have hk5 : w5.heap[Kb]? = some (.cells #[.slice none 0 0] 34 (0, 0)) := by rw [hw5, hKb]; exact setRow_heap _ _ _ _ _ _ (heap_alloc_new _ _)
    have HBk5 := hid (show BookAt w5 Kb w1.heap.size [] from ⟨none, 0, hk5, World.ownsRow_nil _ _ _ _⟩)
    have HW5 := hid hw5
    have HKb := hid hKb
    have HB5 := hid (HB4.out.trans (hb5.mono HB4.out.size))
    have HR5 := hid (HR14.out.below hb5)
    have HRm5 := hid (HRm4.out.below hb5)
    have HC5 := hid (HC4.out.trans (hb5.mono HC4.out.size))
    have HD5 := hid hb5
    have hKl : w1.heap.size ≤ Kb := by have := HB4.out.size; omega
    clear hb5 hk5 hw5 hKb
    go_upto_region 10 with (refine wpList_store_block rfl 34 _ _ rfl _ _ _ _ rfl rfl (heap_alloc_new _ _) rfl infoBook (by simp [Value.oneCell']) ?_)
    rw [← HW5.out, ← HKb.out]
    obtain ⟨q1, c1, rfl, -, -, -, hq1⟩ := HR5.out.rows.rd
    obtain ⟨qm, cm, rfl, -, -, -, hqm⟩ := HRm5.out.rd
    obtain ⟨ML, hML⟩ : ∃ x, Hid (x = LS.length) := ⟨_, hid rfl⟩
    have HSame := hid (same_records q1 qm ML c1 cm LS w5 hML.out.symm (by have := hML.out; omega) HLm.out hq1 hqm)
    rw [← hML.out]
    clear hq1 hqm
    go_wp2_with fail
    refine HSame.out.mono ?_
    rintro e w7 ⟨rfl, hb7⟩
    have HB57 := hid hb7
    have HB7 := hid (HB5.out.trans (hb7.mono HB5.out.size))
    have HBk7 := hid (HBk5.out.below hb7)
    have hs7 := HB7.out.size
    have HT7 := hid (HT.out.below (HB1.out.trans (HB7.out.mono HB1.out.size)) (Nat.le_refl _))
    have hg1 : 0 < w1.heap.size := Nat.lt_of_lt_of_le HT.out.lt HB1.out.size
    have HK27 := hid (KpB.of_below (HC5.out.trans (hb7.mono HC5.out.size)))
    have HK47 := hid (KpB.of_below (HD5.out.trans (hb7.mono HD5.out.size)))
    have HRec1 := hid (records_any Kb w1.heap.size w1.heap.size [] (.slice q1 ML c1) LS w2 w7 HBk7.out (by rw [hML.out]; exact HR1.out) HK27.out (by show 0 + LS.length ≤ 1000000; omega) hKl hs7 hg1 HT7.out)
    clear hb7 HSame
    go_wp2_with fail
    refine HRec1.out.mono ?_
    rintro e w8 ⟨rfl, hs, hl8, hbk8, hok8, hkp8, hb8⟩
    have HB8 := hid (HB7.out.trans hb8)
    have HBk8 := hid hbk8
    have HOk8 := hid hok8
    have HK48 := hid (HK47.out.trans hkp8)
    have hs8 := HB8.out.size
    have HT8 := hid (HT7.out.on hb8 hg1)
    have hl8' : ([] ++ hs).length + LS.length ≤ 1000000 := by rw [List.nil_append, hl8]; omega
    have HRec2 := hid (records_any Kb w1.heap.size w3.heap.size ([] ++ hs) v3 LS w4 w8 HBk8.out HR4.out HK48.out hl8' hKl hs8 hg1 HT8.out)
    clear hbk8 hok8 hkp8 hb8 HRec1
    go_wp2_with fail
    refine HRec2.out.mono ?_
    rintro e w9 ⟨rfl, hs2', hl9, hbk9, hok9, hkp9, hb9⟩
    have HB9 := hid (HB8.out.trans hb9)
    have HBk9 := hid hbk9
    have hs9 := HB9.out.size
    have HAll := hid (show ShsOk w9 w1.heap.size w4.heap.size ([] ++ hs ++ hs2') from by
      rw [List.nil_append]
      exact ShsOk.append (HOk8.out.kpB hkp9) (hok9.lower (by omega)) (by omega) (by omega))
    have hlA : ([] ++ hs ++ hs2').length ≤ 1000000 := by rw [List.nil_append, List.length_append, hl8, hl9]; omega
    clear hbk9 hok9 hkp9 hb9 HRec2
    go_wp2_with fail
    refine (HRe.out w9 HB9.out).mono ?_
    rintro e w10 ⟨qr, rfl, hrr, hb10⟩
    have HB10 := hid (HB9.out.trans (hb10.mono hs9))
    have HBk10 := hid (HBk9.out.below hb10)
    have HAll10 := hid (HAll.out.kpB (KpB.of_below hb10))
    have HRr := hid hrr
    have hs10 := HB10.out.size
    clear hrr hb10
    go_wp2_with fail
    refine (same_bytes_l a qr n c n n l l w10 Hn.out Hn.out (by omega) (by omega) (Hr.out.below (HB1.out.trans (HB10.out.mono HB1.out.size))) HRr.out).mono ?_
    rintro e w11 ⟨rfl, hb11⟩
    rw [show (l == l) = true from beq_self_eq_true l]
    have HB11 := hid (HB10.out.trans (hb11.mono hs10))
    have HBk11 := hid (HBk10.out.below hb11)
    have HAll11 := hid (HAll10.out.kpB (KpB.of_below hb11))
    have hs11 := HB11.out.size
    clear hb11
    go_wp2_with fail
    refine (apart_any Kb w1.heap.size ([] ++ hs ++ hs2') w1.heap.size w4.heap.size w11 HBk11.out HAll11.out (Nat.le_refl _) hs11 hlA).mono ?_
    rintro e w12 ⟨rfl, hb12⟩
    have HB12 := hid (HB11.out.trans hb12)
    have hs12 := HB12.out.size
    clear hb12
    go_wp2_with fail
    refine (lives_any w12).mono ?_
    rintro e w13 ⟨rfl, hb13⟩
    have HB13 := hid (HB12.out.trans (hb13.mono hs12))
    clear hb13
    go_wp2
    go_ret
    exact ⟨rfl, HB1.out.trans (HB13.out.mono HB1.out.size)⟩
end Go.Proofs.Herb
