
/- The reference of chapter 19: has. For lists that can be read. -/
import Derived.Test.YtnkkfdlmcpnokaaUrw
namespace Go.Proofs.Herb
open Go.RowKit
def hasP (b : List Fact) (k : ByteArray) (f : Fact) : Bool := !decide (f.key = k) || (findF b k f.valid).isSome
theorem hasT_eq (a b : List Fact) (k : ByteArray) : hasT a b k = a.all (hasP b k) := by
  unfold hasT timesF
  rw [List.all_map, List.all_filter]
  congr 1
  funext f
  unfold hasP lookF
  simp only [Function.comp, Option.isSome_map]
set_option maxRecDepth 100000 in
set_option maxHeartbeats 4000000 in
theorem has_ref (q p : Option Addr) (n c m d : Nat) (a b : List Fact) (k : ByteArray) (w : World) (hn : a.length = n) (hm : b.length = m) (bn : n ≤ 1000000) (bm : m ≤ 1000000) (hr : Rd w q (fCells a)) (hs : Rd w p (fCells b)) :
    Calls Try.prog 29 #[.slice q n c, .slice p m d, .string k] w fun e w' => e = .returned (.bool (hasT a b k)) ∧ Below w.heap.size w w' := by
  rw [hasT_eq]
  have HN := hid hn
  have HM := hid hm
  have HR := hid hr
  have HS := hid hs
  clear hn hm hr hs
  go_enter Try.func29, Try.ntmps29
  go_wp2
  go_loopw [7] (fun i wr => ∃ j : Nat, j ≤ n ∧ i = .int .i64 (j : Int) ∧ Hid ((a.take j).all (hasP b k) = true) ∧ Hid (Below w.heap.size w wr)) (fun i _ => n - (intOf i).toNat)
  case atStart => exact ⟨0, Nat.zero_le _, rfl, rfl, Below.refl _ _⟩
  case round =>
    obtain ⟨j, hj, rfl, HF, HB⟩ := hrel
    by_cases hlt : j < n
    · have hjl : j < a.length := by rw [HN.out]; exact hlt
      obtain ⟨bb, off, rfl, hb, hf⟩ := fact_at (HR.out.below HB.out) (j := j) hjl
      obtain ⟨f, hfe⟩ : ∃ f, a[j] = f := ⟨_, rfl⟩
      have hyes : hasP b k f = true → Hid ((a.take (j + 1)).all (hasP b k) = true) := fun h => all_take hjl HF.out (by rw [hfe]; exact h)
      have hno : hasP b k f = false → Hid (a.all (hasP b k) = false) := fun h => all_no hjl (by rw [hfe]; exact h)
      rw [hfe] at hf
      have HY := hid hyes
      have HNO := hid hno
      obtain ⟨c0, c1, c2, c3, c4, c5⟩ := hf
      have i0 : (0 : Int) ≤ (j : Int) := by omega
      have i1 : (j : Int) < (n : Int) := by omega
      have k1 := find_any p m d b k f.valid wr HM.out bm (HS.out.below HB.out)
      clear hfe hyes hno hjl c2 c3 c4 c5
      obtain ⟨V, hV⟩ : ∃ o, findF b k f.valid = o := ⟨_, rfl⟩
      rw [hV] at k1
      have HV := hid hV
      clear hV
      cases V with
      | none =>
        simp only [fV_none, Option.isSome_none] at k1
        go_upto_region 5 with (go_at_call 42; with_reducible refine k1.mono ?_; rintro e w2 ⟨rfl, b2⟩; have HB2 := hid b2; clear b2)
        have hb3 := HB2.out.alloc HB2.out.size (.cells #[.string ⟨#[]⟩, .int .u32 0, .int .u64 0, .int .u64 0, .int .u8 0, .string ⟨#[]⟩] 42)
        generalize (w2.alloc (.cells #[.string ⟨#[]⟩, .int .u32 0, .int .u64 0, .int .u64 0, .int .u8 0, .string ⟨#[]⟩] 42)) = W3 at hb3 ⊢
        have c0' : W3.cell? ⟨bb, off + j * 6, none⟩ = some (.string f.key) := (hb3.cell (p := ⟨bb, off + j * 6, none⟩) hb).trans c0
        have HB3 := hid (HB.out.trans (hb3.mono HB.out.size))
        clear c0 c1 hb3 HB2
        by_cases he : f.key = k
        · have hbe : (f.key.toList == k.toList) = true := by rw [he]; exact eq_text _
          have HW := hid (HNO.out (by unfold hasP; rw [decide_eq_true he, HV.out]; rfl))
          clear he
          go_wp2
          go_ret
          exact ⟨by rw [HW.out.out]; rfl, HB3.out⟩
        · have hne := ne_text he
          have HT := hid (HY.out (by unfold hasP; rw [decide_eq_false he]; rfl))
          clear he
          go_wp2
          go_roundw
          case rel => exact ⟨j + 1, by omega, by go_num, HT.out, HB3⟩
          case measure => simp [intOf]; omega
      | some y =>
        simp only [fV_some, Option.isSome_some] at k1
        have HT := hid (HY.out (by unfold hasP; rw [HV.out]; simp))
        go_upto_region 5 with (go_at_call 42; with_reducible refine k1.mono ?_; rintro e w2 ⟨rfl, b2⟩; have HB2 := hid b2; clear b2)
        have hb3 := HB2.out.alloc HB2.out.size (.cells #[.string y.key, .int .u32 (y.valid : Int), .int .u64 (y.seq : Int), .int .u64 (y.line : Int), .int .u8 (y.kind : Int), .string y.val] 42)
        generalize (w2.alloc (.cells #[.string y.key, .int .u32 (y.valid : Int), .int .u64 (y.seq : Int), .int .u64 (y.line : Int), .int .u8 (y.kind : Int), .string y.val] 42)) = W3 at hb3 ⊢
        have c0' : W3.cell? ⟨bb, off + j * 6, none⟩ = some (.string f.key) := (hb3.cell (p := ⟨bb, off + j * 6, none⟩) hb).trans c0
        have HB3 := hid (HB.out.trans (hb3.mono HB.out.size))
        clear c0 c1 hb3 HB2
        by_cases he : f.key = k
        · have hbe : (f.key.toList == k.toList) = true := by rw [he]; exact eq_text _
          clear he
          go_wp2
          go_roundw
          case rel => exact ⟨j + 1, by omega, by go_num, HT.out, HB3⟩
          case measure => simp [intOf]; omega
        · have hne := ne_text he
          clear he
          go_wp2
          go_roundw
          case rel => exact ⟨j + 1, by omega, by go_num, HT.out, HB3⟩
          case measure => simp [intOf]; omega
    · obtain rfl : j = n := by omega
      have HE : Hid (a.all (hasP b k) = true) := by
        have := HF.out
        rw [← HN.out, List.take_length] at this
        exact this
      go_wp2
      go_ret
      exact ⟨by rw [HE.out]; rfl, HB.out⟩
end Go.Proofs.Herb
