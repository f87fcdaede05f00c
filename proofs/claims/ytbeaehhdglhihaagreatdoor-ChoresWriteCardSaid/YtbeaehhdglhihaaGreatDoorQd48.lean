/- The law's lives (chapter 24) without the readers: chores.Read of a file that is not there; lives answers true. For worlds in which the library's table of powers of ten reads as it was laid. -/
import Derived.Test.YtbeaehhdglhihaaGreatDoorQd43
namespace Go.Proofs.Herb
open Go.RowKit Go.Sort
set_option maxRecDepth 100000 in
set_option maxHeartbeats 2000000 in
theorem chread_gone (md : DM) (s : DS) (n u t : Nat) (a b : ByteArray) (w : World) (h : DiskAt w md s) (ok : DsOk s n) (hf : u < 18446744073709551616) (hk : knownE s (nmU u) = 7) (ht : Pow10 w) :
    Calls Tryz.prog 19 #[.pointer (some ⟨md.D, 0, none⟩), .agg #[.int .u64 (u : Int), .int .u32 (t : Int), .string a, .string b]] w fun e w' => e = .returned (.tuple #[.slice none 0 0, .int .i64 13]) ∧ Below w.heap.size w w' := by
  obtain ⟨w0, hw0, hbk, hb0⟩ : ∃ w0, w0 = w.alloc (.cells #[.int .u64 (u : Int), .int .u32 (t : Int), .string a, .string b] 54) ∧ w0.heap[w.heap.size]? = some (.cells #[.int .u64 (u : Int), .int .u32 (t : Int), .string a, .string b] 54 (0, 0)) ∧ Below w.heap.size w w0 := ⟨_, rfl, heap_alloc_new _ _, (Below.refl _ _).alloc (Nat.le_refl _) _⟩
  have y0 := cell_of_row w0 w.heap.size 0 _ _ _ hbk
  have HW0 := hid hw0
  have HBk := hid hbk
  have HB0 := hid hb0
  have HD := hid h
  have HO := hid ok
  have HT := hid ht
  have HK := hid hk
  have hks := nm_max u hf
  clear hw0 hbk hb0 h ok ht hk
  go_enter Tryz.func19, Tryz.ntmps19
  go_upto_region 1 with fail
  rw [← HW0.out]
  go_wp2_with fail
  (with_reducible refine (name_any u hf w0 (HT.out.below HB0.out (Nat.le_refl _))).mono ?_)
  rintro e w1 ⟨rfl, hb1⟩
  have HB1 := hid (HB0.out.trans (hb1.mono HB0.out.size))
  have bk1 := (hb1.block _ (lt_of_block HBk.out)).trans HBk.out
  have HBk1 := hid bk1
  clear hb1 bk1 y0
  go_wp2_with fail
  (with_reducible refine (read_clip md s (nmU u) hks w1 (HD.out.below HB1.out) HO.out.good.ok (fun f hf => (HO.out.sure f hf).2)).mono ?_)
  rintro e w2 ⟨q2, rfl, hF2, hB2⟩
  rw [HK.out]
  have HB2 := hid (HB1.out.trans (hB2.mono HB1.out.size))
  have bk2 := (hB2.block _ (lt_of_block HBk1.out)).trans HBk1.out
  have y1 := cell_of_row w2 w.heap.size 1 _ _ _ bk2
  obtain ⟨rn, hrn⟩ : ∃ rn, rn = (readL s (nmU u)).length := ⟨_, rfl⟩
  rw [← hrn]
  clear hF2 hB2 bk2 hrn
  go_wp2
  go_ret2
  exact ⟨rfl, HB2.out⟩
set_option maxRecDepth 100000 in
set_option maxHeartbeats 2000000 in
theorem lives24c_any (w : World) (ht : Pow10 w) : Calls Tryz.prog 8 #[] w fun e w' => e = .returned (.bool true) ∧ Below w.heap.size w w' := by
  have HT := hid ht
  have hE : cwE (newS 1000) 7 [] = 0 := by
    unfold cwE
    rw [if_neg (by rw [riseB_yes (fun i h => absurd h (by simp))]; decide), if_neg (fun h => h rfl)]
    rfl
  have hS : cwS (newS 1000) 7 [] = newS 1000 := by
    unfold cwS
    rw [if_neg (by rw [riseB_yes (fun i h => absurd h (by simp))]; decide), if_neg (fun h => h rfl)]
    rfl
  have hP : partsL [] = [] := rfl
  have HE := hid hE
  have HS := hid hS
  have hK : knownE (newS 1000) (nmU 7) = 7 := by
    unfold knownE foundE
    rw [nm_may 7 (by decide)]
    rfl
  have HK := hid hK
  clear ht hE hS hK
  go_enter Tryz.func8, Tryz.ntmps8
  go_wp2_with fail
  refine (new_any 1000 (by decide) (by decide) w).mono ?_
  rintro e w2 ⟨rfl, hd2, hb2⟩
  have HD2 := hid hd2
  have HB2 := hid hb2
  have HFr := hid (newM_fresh w.heap.size)
  clear hd2 hb2
  have hcw := chw_any (newM w.heap.size) (newS 1000) 0 7 none 0 0 [] w2 HD2.out (DsOk.new (by decide) (by decide)) (by omega) (by omega) rfl (by omega) (Nat.le_refl _) (.inl rfl) (fun f hf => by cases hf) (fun f hf => by cases hf) (HT.out.below HB2.out (Nat.le_refl _)) (fun e => by have := HFr.out _ e; have := HT.out.lt; omega)
  have HCw := hid hcw
  clear hcw
  go_wp2_with fail
  refine HCw.out.mono ?_
  rintro e w3 ⟨md', hd3, hD3, hM3, ⟨hE3, rfl⟩ | ⟨_, a, rfl, _, _⟩⟩
  · exact absurd HE.out hE3
  rw [HS.out] at hd3
  have hB := hM3.belowB (B := w.heap.size) HFr.out HB2.out.size
  have HB3 := hid (HB2.out.trans hB.1)
  have HD3 := hid hd3
  have HDD := hid hD3
  rw [hP]
  clear hd3 hD3 hM3 hB hP
  have hrd := chread_gone md' (newS 1000) 0 7 0 ⟨#[]⟩ ⟨#[]⟩ w3 HD3.out (DsOk.new (by decide) (by decide)) (by decide) HK.out (HT.out.below HB3.out (Nat.le_refl _))
  rw [HDD.out] at hrd
  have HRd := hid hrd
  clear hrd
  go_wp2_with fail
  refine HRd.out.mono ?_
  rintro e w4 ⟨rfl, hb4⟩
  have HB4 := hid (HB3.out.trans (hb4.mono HB3.out.size))
  clear hb4
  go_wp2_with fail
  refine (chread_nil 0 0 ⟨#[]⟩ ⟨#[]⟩ (by decide) w4 (HT.out.below HB4.out (Nat.le_refl _))).mono ?_
  rintro e w5 ⟨rfl, hb5⟩
  have HB5 := hid (HB4.out.trans (hb5.mono HB4.out.size))
  clear hb5
  go_wp2
  go_ret
  exact ⟨rfl, HB5.out⟩
end Go.Proofs.Herb
