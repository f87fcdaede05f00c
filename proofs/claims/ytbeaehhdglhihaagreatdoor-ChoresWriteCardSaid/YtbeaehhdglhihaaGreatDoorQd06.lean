/- The contracts of the reference's More and Of (sums). For slices that can be read. -/
import Derived.WalkLawsBesides
import Derived.WalkSpells
import Derived.Outline
import Derived.Deep.LoopGhost
import Derived.Deep.QuietTactic
import Derived.Deep.DeepCutAuto
import Derived.BigQuiet
import Derived.Test.YtbeaehhdglhihaaGreatDoorProg
import Derived.Test.YtbeaehhdglhihaaGreatDoorQd01
import Derived.Test.YtbeaehhdglhihaaGreatDoorQd05
namespace Go.Proofs.Herb
open Go.RowKit
theorem crc_half (X : BitVec 32) (h : X.toNat % 2 = 0) : (X.toNat : Int) / 2 = ((crcBit X).toNat : Int) := by
  have hb : X.getLsbD 0 = false := by rw [BitVec.getLsbD, Nat.testBit_zero]; simp [h]
  unfold crcBit
  rw [hb]
  simp [BitVec.toNat_ushiftRight, Nat.shiftRight_eq_div_pow]
theorem crc_odd (X : BitVec 32) (h : X.toNat % 2 = 1) : bits BinOp.xor IntKind.u32 ((X.toNat : Int) / 2) 2197175160 = ((crcBit X).toNat : Int) := by
  have hX := X.isLt
  have hb : X.getLsbD 0 = true := by rw [BitVec.getLsbD, Nat.testBit_zero]; simp [h]
  unfold crcBit
  rw [hb, show ((X.toNat : Int) / 2) = ((X.toNat / 2 : Nat) : Int) by omega, show (2197175160 : Int) = ((2197175160 : Nat) : Int) from rfl, u32_xor_nat _ _ (by omega) (by decide)]
  simp [BitVec.toNat_ushiftRight, Nat.shiftRight_eq_div_pow]
theorem crc_in_form (X : BitVec 32) (q : UInt8) : bits BinOp.xor IntKind.u32 (X.toNat : Int) (q.toNat : Int) = ((X ^^^ q.toBitVec.setWidth 32).toNat : Int) := by
  have hX := X.isLt
  have hq : q.toNat < 256 := q.toBitVec.isLt
  rw [u32_xor_nat _ _ hX (by omega), BitVec.toNat_xor, BitVec.toNat_setWidth]
  congr 2
  show q.toNat = q.toNat % 2 ^ 32
  omega
set_option maxRecDepth 100000 in
set_option maxHeartbeats 400000 in
theorem ref_more (s : BitVec 32) (a : Option Addr) (n c : Nat) (l : List UInt8) (w : World) (hn : l.length = n) (_hm : n ≤ 4611686018427387904) (hr : Rd w a (l.map bv)) :
    Calls Tryz.prog 177 #[.int .u32 (s.toNat : Int), .slice a n c] w fun e w' => e = .returned (.int .u32 ((crcMore s l).toNat : Int)) ∧ w = w' := by
  have hs := s.isLt
  have Hn := hid hn
  have Hr := hid hr
  clear hn hr
  go_enter Tryz.func177, Tryz.ntmps177
  go_wp2
  rw [crc_not_form]
  go_loop [5, 6] (fun x i => ∃ k : Nat, k ≤ n ∧ i = .int .i64 k ∧ x = .int .u32 ((crcFold (~~~ s) (l.take k)).toNat : Int))
    (fun _ i => n - (intOf i).toNat)
  case atStart => exact ⟨0, by omega, rfl, rfl⟩
  case round =>
    obtain ⟨k, hk, rfl, rfl⟩ := hrel
    by_cases hlt : k < n
    · obtain ⟨b, off, rfl, hc⟩ := Hr.out.cell (k := k) (by simp; have := Hn.out; omega)
      rw [List.getElem_map] at hc
      obtain ⟨q, hq⟩ : ∃ q, q = l[k]'(by have := Hn.out; omega) := ⟨_, rfl⟩
      rw [← hq] at hc
      unfold bv at hc
      have hql := q.toNat_lt
      have Hq := hid hq
      clear hq
      generalize hX : crcFold (~~~ s) (l.take k) = X
      have HX := hid hX
      clear hX
      have hXl := X.isLt
      have hin := crc_in_form X q
      go_wp2
      go_loop [5, 7] (fun x i => ∃ j : Nat, j ≤ 8 ∧ i = .int .i64 j ∧ x = .int .u32 ((crcBits j (X ^^^ q.toBitVec.setWidth 32)).toNat : Int))
         (fun _ i => 8 - (intOf i).toNat)
      case atStart => exact ⟨0, by omega, rfl, rfl⟩
      case round =>
        obtain ⟨j, hj, rfl, rfl⟩ := hrel
        have e := crcBits_snoc j (X ^^^ q.toBitVec.setWidth 32)
        have E := hid e
        clear e hin
        generalize hYe : crcBits j (X ^^^ q.toBitVec.setWidth 32) = Y at E
        have HYe := hid hYe
        clear hYe
        have hY := Y.isLt
        by_cases hjl : j < 8
        · by_cases h2 : Y.toNat % 2 = 1
          · have h2i : (((Y.toNat : Int) % 2) == 1) = true := by rw [beq_iff_eq]; omega
            have ho := crc_odd Y h2
            clear h2
            go_wp2
            go_round
            case rel => exact ⟨j + 1, by omega, by go_num, by rw [E.out]⟩
            case measure => simp [intOf]; omega
          · have h2i : (((Y.toNat : Int) % 2) == 1) = false := by rw [beq_eq_false_iff_ne]; omega
            have ho := crc_half Y (by omega)
            clear h2
            go_wp2
            go_round
            case rel => exact ⟨j + 1, by omega, by go_num, by rw [E.out]⟩
            case measure => simp [intOf]; omega
        · obtain rfl : j = 8 := by omega
          go_wp2
          refine ⟨⟨k + 1, by omega, by omega, ?_⟩, by simp [intOf]; omega⟩
          rw [List.take_succ_eq_append_getElem (by have := Hn.out; omega), crcFold_snoc, HX.out, ← Hq.out, ← HYe.out]; rfl
    · go_wp2
      obtain rfl : k = n := by omega
      rw [crc_not_form]
      go_ret
      refine ⟨?_, rfl⟩
      rw [List.take_of_length_le (by have := Hn.out; omega)]; rfl
set_option maxHeartbeats 400000 in
theorem ref_of (a : Option Addr) (n c : Nat) (l : List UInt8) (w : World) (hn : l.length = n) (hm : n ≤ 4611686018427387904) (hr : Rd w a (l.map bv)) :
    Calls Tryz.prog 142 #[.slice a n c] w fun e w' => e = .returned (.int .u32 ((crcMore 0 l).toNat : Int)) ∧ w = w' := by
  have Hn := hid hn
  clear hn
  go_enter Tryz.func142, Tryz.ntmps142
  go_wp2_with (go_at_call 177; refine (ref_more 0 a n c l _ Hn.out hm hr).mono ?_; rintro e w1 ⟨rfl, rfl⟩)
  go_ret
  exact ⟨rfl, rfl⟩
end Go.Proofs.Herb
