/- The contracts of frames.left, headOf and of the head's methods many, sum and fits. For slices that can be read. -/
import Derived.Test.YtklhnncjgkbelaaDoorProg
import Derived.WalkLawsBesides
import Derived.WalkSpells
import Derived.Outline
import Derived.Deep.LoopGhost
import Derived.Deep.QuietTactic
import Derived.Deep.DeepCutAuto
import Derived.BigQuiet
import Derived.Test.YtklhnncjgkbelaaDoorSums
import Derived.Test.YtklhnncjgkbelaaDoorSlc
namespace Go.Proofs.Herb
open Go.RowKit
set_option maxHeartbeats 400000 in
theorem left_any (n : Int) (h0 : 0 ≤ n) (h1 : n < 4611686018427387904) (w : World) :
    Calls Tryd.prog 37 #[.int .i64 n] w fun e w' => e = .returned (.int .i64 (256 - n % 256)) ∧ w = w' := by
  go_enter Tryd.func37, Tryd.ntmps37
  go_wp2
  go_ret
  exact ⟨rfl, rfl⟩
set_option maxHeartbeats 400000 in
theorem many_any (a0 a1 a2 a3 a6 : Value) (x y : UInt8) (w : World) :
    Calls Tryd.prog 43 #[.agg #[a0, a1, a2, a3, .int .u8 (x.toNat : Int), .int .u8 (y.toNat : Int), a6]] w fun e w' => e = .returned (.int .i64 ((x.toNat + 256 * y.toNat : Nat) : Int)) ∧ Below w.heap.size w w' := by
  have hx := x.toNat_lt
  have hy := y.toNat_lt
  go_enter Tryd.func43, Tryd.ntmps43
  go_wp2
  rw [i64_or_bytes]
  go_ret
  exact ⟨rfl, (Below.refl _ _).alloc (Nat.le_refl _) _⟩
set_option maxHeartbeats 400000 in
theorem hsum_any (a0 a1 a2 a3 : Value) (x y z : UInt8) (a : Option Addr) (n c : Nat) (l : List UInt8) (w : World) (hn : l.length = n) (hm : n ≤ 4611686018427387904) (hr : Rd w a (l.map bv)) :
    Calls Tryd.prog 44 #[.agg #[a0, a1, a2, a3, .int .u8 (x.toNat : Int), .int .u8 (y.toNat : Int), .int .u8 (z.toNat : Int)], .slice a n c] w fun e w' => e = .returned (.int .u32 ((crcMore 0 ([x, y, z] ++ l)).toNat : Int)) ∧ Below w.heap.size w w' := by
  have Hn := hid hn
  have Hr := hid hr
  clear hn hr
  go_enter Tryd.func44, Tryd.ntmps44
  have hrd : Rd (w.alloc (.cells #[a0, a1, a2, a3, .int .u8 (x.toNat : Int), .int .u8 (y.toNat : Int), .int .u8 (z.toNat : Int)] 85)) (some ⟨w.heap.size, 4, none⟩) ([x, y, z].map bv) :=
    Rd.block (heap_alloc_new _ _) (fun j u hu => by
      match j, hu with
      | 0, hu => exact hu
      | 1, hu => exact hu
      | 2, hu => exact hu)
  have Hrd := hid hrd
  clear hrd
  go_wp2_with (first | (go_at_call 52; refine (of_any _ 3 3 [x, y, z] _ rfl (by omega) Hrd.out).mono ?_; rintro e w1 ⟨rfl, hb1⟩; have hz := hb1.size; have Hb1 := hid hb1; clear hb1) | (go_at_call 51; refine (more_any _ a n c l _ Hn.out hm ((Hr.out.alloc _).below Hb1.out)).mono ?_; rintro e w2 ⟨rfl, hb2⟩; have Hb2 := hid hb2; clear hb2))
  go_ret
  refine ⟨by rw [crcMore_append]; rfl, ?_⟩
  have hz' : w.heap.size + 1 ≤ w1.heap.size := by simpa using hz
  exact (((Below.refl w.heap.size w).alloc (Nat.le_refl _) _).trans (Hb1.out.mono (by simp))).trans (Hb2.out.mono (by omega))
set_option maxRecDepth 100000 in
set_option maxHeartbeats 1600000 in
theorem fits_any (a0 a1 a2 a3 : Value) (x y z : UInt8) (begun : Bool) (room had : Nat) (_hr : room ≤ 65536) (hh : had ≤ 4611686018427387904) (w : World) :
    Calls Tryd.prog 42 #[.agg #[a0, a1, a2, a3, .int .u8 (x.toNat : Int), .int .u8 (y.toNat : Int), .int .u8 (z.toNat : Int)], .bool begun, .int .i64 (room : Int), .int .i64 (had : Int)] w
      fun e w' => e = .returned (.bool (fitsB z.toNat begun (x.toNat + 256 * y.toNat) room had)) ∧ Below w.heap.size w w' := by
  have hx := x.toNat_lt
  have hy := y.toNat_lt
  have hz := z.toNat_lt
  obtain ⟨N, hN⟩ : ∃ N, N = x.toNat + 256 * y.toNat := ⟨_, rfl⟩
  have hN1 : N < 65536 := by omega
  obtain ⟨Z, hZ⟩ : ∃ Z, Z = z.toNat := ⟨_, rfl⟩
  rw [← hN, ← hZ]
  have HN := hid hN
  clear hN
  obtain ⟨w0, hw0⟩ : ∃ w0, w.alloc (.cells #[a0, a1, a2, a3, .int .u8 (x.toNat : Int), .int .u8 (y.toNat : Int), .int .u8 (Z : Int)] 85) = w0 := ⟨_, rfl⟩
  have hB0 : Below w.heap.size w w0 := by rw [← hw0]; exact (Below.refl _ _).alloc (Nat.le_refl _) _
  have hs0 : w0.heap.size = w.heap.size + 1 := by rw [← hw0]; simp
  have hc0 : w0.cell? ⟨w.heap.size, 6, none⟩ = some (.int .u8 (Z : Int)) := by rw [← hw0]; simp
  have HB0 := hid hB0
  have Hs0 := hid hs0
  have Hc0 := hid hc0
  have HZ := hid hZ
  have HW := hid hw0
  clear hB0 hs0 hc0 hZ hw0
  have key : ∀ W1, Below w0.heap.size w0 W1 → W1.cell? ⟨w.heap.size, 6, none⟩ = some (.int .u8 (Z : Int)) ∧ Below w.heap.size w W1 := fun W1 h =>
    ⟨by rw [h.cell (p := ⟨w.heap.size, 6, none⟩) (by rw [Hs0.out]; simp)]; exact Hc0.out, HB0.out.trans (h.mono (by rw [Hs0.out]; omega))⟩
  go_enter Tryd.func42, Tryd.ntmps42
  go_wp2_with fail
  rw [HW.out]
  refine (many_any a0 a1 a2 a3 _ x y _).mono ?_
  rintro e w1 ⟨rfl, hb1⟩
  rw [← HN.out]
  have hc1 := (key w1 hb1).1
  have HB1 := hid (key w1 hb1).2
  clear hb1 key
  by_cases k1 : Z = 1
  · subst k1
    cases begun <;> by_cases q1 : N ≤ room <;> go_wp2 <;> go_ret <;> exact ⟨by simp [fitsB, q1] <;> omega, HB1.out⟩
  · by_cases k2 : Z = 2
    · subst k2
      cases begun <;> by_cases q1 : N = room <;> go_wp2 <;> go_ret <;> exact ⟨by simp [fitsB, q1] <;> omega, HB1.out⟩
    · by_cases k3 : Z = 3
      · subst k3
        cases begun <;> by_cases q1 : N = room <;> by_cases q2 : had + N ≤ 65536 <;> go_wp2 <;> go_ret <;> exact ⟨by simp [fitsB, q1, q2] <;> omega, HB1.out⟩
      · by_cases k4 : Z = 4
        · subst k4
          cases begun <;> by_cases q1 : N ≤ room <;> by_cases q3 : 0 < N <;> by_cases q2 : had + N ≤ 65536 <;> go_wp2 <;> go_ret <;> exact ⟨by simp [fitsB, q1, q2, q3] <;> omega, HB1.out⟩
        · have e1 : ((Z : Int) == 1) = false := by simp; omega
          have e2 : ((Z : Int) == 2) = false := by simp; omega
          have e3 : ((Z : Int) == 3) = false := by simp; omega
          have e4 : ((Z : Int) == 4) = false := by simp; omega
          go_wp2
          go_ret
          exact ⟨by simp [fitsB, k1, k2, k3, k4], HB1.out⟩
theorem info244 : (Tryd.prog.info? 85).map (·.size) = some 7 := by kernel_rfl
set_option maxRecDepth 100000 in
set_option maxHeartbeats 800000 in
theorem headOf_any (k : UInt8) (a : Option Addr) (n c : Nat) (l : List UInt8) (w : World) (hn : l.length = n) (hm : n ≤ 65535) (hr : Rd w a (l.map bv)) :
    Calls Tryd.prog 38 #[.int .u8 (k.toNat : Int), .slice a n c] w fun e w' => e = .returned (.agg ((headList k l).map bv).toArray) ∧ Below w.heap.size w w' := by
  have Hn := hid hn
  have Hr := hid hr
  have hk := k.toNat_lt
  clear hn hr
  go_enter Tryd.func38, Tryd.ntmps38
  go_wp2_with fail
  rw [show ((n : Int) % 256) = ((UInt8.ofNat n).toNat : Int) from by rw [UInt8.toNat_ofNat']; omega, show ((n : Int) / 256) = ((UInt8.ofNat (n / 256)).toNat : Int) from by rw [UInt8.toNat_ofNat']; omega]
  refine (hsum_any _ _ _ _ _ _ _ a n c l _ Hn.out (by omega) (Hr.out.alloc _)).mono ?_
  rintro e w1 ⟨rfl, hb1⟩
  have hps : crcMore 0 ([UInt8.ofNat n, UInt8.ofNat (n / 256), k] ++ l) = partSum k l := by unfold partSum tailOf; rw [Hn.out]
  rw [hps]
  clear hps
  have hz := hb1.size
  have hcur := heap_alloc_new w (.cells #[.int .u8 0, .int .u8 0, .int .u8 0, .int .u8 0, .int .u8 ((UInt8.ofNat n).toNat : Int), .int .u8 ((UInt8.ofNat (n / 256)).toNat : Int), .int .u8 (k.toNat : Int)] 85)
  rw [← hb1.block w.heap.size (by simp)] at hcur
  have Hcur := hid hcur
  have HB := hid (((Below.refl w.heap.size w).alloc (Nat.le_refl _) _).trans (hb1.mono (by simp)))
  clear hb1 hcur
  obtain ⟨S, hS⟩ : ∃ S, S = partSum k l := ⟨_, rfl⟩
  rw [← hS]
  have HS := hid hS
  clear hS
  have hSl := S.isLt
  go_wp2
  go_loopw [6, 21] (fun _ i wr => ∃ j : Nat, j ≤ 4 ∧ i = .int .i64 j ∧ (∃ cur, wr.heap[w.heap.size]? = some (.cells cur 85 (0, 0)) ∧ cur.size = 7 ∧ (∀ q, q < j → cur[q]? = some (bv (sumByte S (256 ^ q)))) ∧ (∀ q, 4 ≤ q → cur[q]? = ((headList k l).map bv)[q]?)) ∧ Below w.heap.size w wr)
    (fun _ i _ => 4 - (intOf i).toNat)
  case atStart => exact ⟨0, by omega, rfl, ⟨_, Hcur.out, rfl, fun q h => by omega, fun q h => by
    match q, h with
    | 4, _ => simp [headList, tailOf, bv, Hn.out]
    | 5, _ => simp [headList, tailOf, bv, Hn.out]
    | 6, _ => simp [headList, tailOf, bv]
    | q + 7, _ => simp [headList, tailOf]⟩, HB.out⟩
  case round =>
    clear Hcur HB hz
    obtain ⟨j, hj, rfl, ⟨cur, hc, hs, ht, hu⟩, hb⟩ := hrel
    have Hc := hid hc
    have Ht := hid ht
    have Hu := hid hu
    have Hb := hid hb
    have Hs := hid hs
    clear ht hu hb hs
    by_cases hlt : j < 4
    · have hcell : wr.cell? ⟨w.heap.size, j, none⟩ = some (cur[j]'(by have := Hs.out; omega)) := by rw [cell_of_row _ _ _ _ _ _ hc]; simp
      have hfr : wr.frozen? ⟨w.heap.size, j, none⟩ = false := frozen_of_row _ _ _ _ _ hc
      clear hc
      have step : ∀ u, u = bv (sumByte S (256 ^ j)) → ∃ cur', (wr.setCell ⟨w.heap.size, j, none⟩ u).heap[w.heap.size]? = some (.cells cur' 85 (0, 0)) ∧ cur'.size = 7 ∧ (∀ q, q < j + 1 → cur'[q]? = some (bv (sumByte S (256 ^ q)))) ∧ (∀ q, 4 ≤ q → cur'[q]? = ((headList k l).map bv)[q]?) := by
        rintro u rfl
        refine ⟨_, heap_setCell_same _ _ _ _ _ _ Hc.out, by simp [Hs.out], fun q hq => ?_, fun q hq => ?_⟩
        · by_cases e : q = j
          · subst e; rw [Array.getElem?_setIfInBounds_self_of_lt (by rw [Hs.out]; omega)]
          · rw [Array.getElem?_setIfInBounds_ne (by omega)]; exact Ht.out q (by omega)
        · rw [Array.getElem?_setIfInBounds_ne (by omega)]; exact Hu.out q hq
      have Hstep := hid step
      clear step
      rcases (show j = 0 ∨ j = 1 ∨ j = 2 ∨ j = 3 by omega) with rfl | rfl | rfl | rfl <;> go_wp2 <;> clear hcell hfr <;> go_roundw
      case rel => exact ⟨1, by omega, by go_num, Hstep.out _ (by unfold bv; rw [sumByte_toNat]; simp), Hb.out.setCell (Nat.le_refl _) _⟩
      case rel => exact ⟨2, by omega, by go_num, Hstep.out _ (by unfold bv; rw [sumByte_toNat]; simp), Hb.out.setCell (Nat.le_refl _) _⟩
      case rel => exact ⟨3, by omega, by go_num, Hstep.out _ (by unfold bv; rw [sumByte_toNat]; simp), Hb.out.setCell (Nat.le_refl _) _⟩
      case rel => exact ⟨4, by omega, by go_num, Hstep.out _ (by unfold bv; rw [sumByte_toNat]; simp; omega), Hb.out.setCell (Nat.le_refl _) _⟩
      all_goals simp [intOf]
    · obtain rfl : j = 4 := by omega
      have e : cur = ((headList k l).map bv).toArray := by
        apply Array.ext_getElem?
        intro q
        by_cases hq : q < 4
        · rw [Ht.out q hq]
          rcases (show q = 0 ∨ q = 1 ∨ q = 2 ∨ q = 3 by omega) with rfl | rfl | rfl | rfl <;> simp [headList, HS.out]
        · rw [Hu.out q (by omega)]; simp
      obtain rfl := e
      clear hc Hu Ht
      go_wp2_with (first | (refine wpList_load_row rfl 85 _ rfl _ rfl _ _ _ _ Hc.out Tryd.underlying85 rfl (by rw [Hs.out]; exact info244) ?_) | (refine wpList_store_block rfl 85 _ _ rfl _ _ _ _ rfl rfl Hc.out rfl (by rw [Hs.out]; exact info244) bv_one ?_; rw [setRow_self _ _ _ _ _ Hc.out]))
      exact bodyPost_ret (results_cell_row rfl _ _ _ _ _ _ _ rfl Hc.out Tryd.underlying85 rfl (by rw [Hs.out]; exact info244)) rfl ⟨rfl, Hb.out⟩
end Go.Proofs.Herb
