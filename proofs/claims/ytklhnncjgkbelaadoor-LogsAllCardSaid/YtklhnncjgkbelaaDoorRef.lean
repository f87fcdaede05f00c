/- The contracts of the reference's More, Of, gap and part. For slices that can be read. -/
import Derived.Test.YtklhnncjgkbelaaDoorProg
import Derived.WalkLawsBesides
import Derived.WalkSpells
import Derived.Outline
import Derived.Deep.LoopGhost
import Derived.Deep.QuietTactic
import Derived.Deep.DeepCutAuto
import Derived.BigQuiet
import Derived.Test.YtklhnncjgkbelaaDoorApp
import Derived.Test.YtklhnncjgkbelaaDoorSums
namespace Go.Proofs.Herb
open Go.RowKit
theorem crc_half (X : BitVec 32) (h : X.toNat % 2 = 0) : (X.toNat : Int) / 2 = ((crcBit X).toNat : Int) := by
  have hb : X.getLsbD 0 = false := by rw [BitVec.getLsbD, Nat.testBit_zero]; simp [h]
  unfold crcBit
  rw [hb]
  simp [BitVec.toNat_ushiftRight, Nat.shiftRight_eq_div_pow]
theorem crc_odd (X : BitVec 32) (h : X.toNat % 2 = 1) : bits BinOp.xor IntKind.u32 ((X.toNat : Int) / 2) 2197175160 = ((crcBit X).toNat : Int) := by
  have hX := X.isLt
  have hb : X.getLsbD 0 = true := by rw [BitVec.getLsbD, Nat.testBit_zero]; simp [h]
  unfold crcBit
  rw [hb, show ((X.toNat : Int) / 2) = ((X.toNat / 2 : Nat) : Int) by omega, show (2197175160 : Int) = ((2197175160 : Nat) : Int) from rfl, u32_xor_nat _ _ (by omega) (by decide)]
  simp [BitVec.toNat_ushiftRight, Nat.shiftRight_eq_div_pow]
theorem crc_in_form (X : BitVec 32) (q : UInt8) : bits BinOp.xor IntKind.u32 (X.toNat : Int) (q.toNat : Int) = ((X ^^^ q.toBitVec.setWidth 32).toNat : Int) := by
  have hX := X.isLt
  have hq : q.toNat < 256 := q.toBitVec.isLt
  rw [u32_xor_nat _ _ hX (by omega), BitVec.toNat_xor, BitVec.toNat_setWidth]
  congr 2
  show q.toNat = q.toNat % 2 ^ 32
  omega
set_option maxRecDepth 100000 in
set_option maxHeartbeats 400000 in
theorem ref_more (s : BitVec 32) (a : Option Addr) (n c : Nat) (l : List UInt8) (w : World) (hn : l.length = n) (_hm : n ≤ 4611686018427387904) (hr : Rd w a (l.map bv)) :
    Calls Tryd.prog 57 #[.int .u32 (s.toNat : Int), .slice a n c] w fun e w' => e = .returned (.int .u32 ((crcMore s l).toNat : Int)) ∧ w = w' := by
  have hs := s.isLt
  have Hn := hid hn
  have Hr := hid hr
  clear hn hr
  go_enter Tryd.func57, Tryd.ntmps57
  go_wp2
  rw [crc_not_form]
  go_loop [5, 6] (fun x i => ∃ k : Nat, k ≤ n ∧ i = .int .i64 k ∧ x = .int .u32 ((crcFold (~~~ s) (l.take k)).toNat : Int))
    (fun _ i => n - (intOf i).toNat)
  case atStart => exact ⟨0, by omega, rfl, rfl⟩
  case round =>
    obtain ⟨k, hk, rfl, rfl⟩ := hrel
    by_cases hlt : k < n
    · obtain ⟨b, off, rfl, hc⟩ := Hr.out.cell (k := k) (by simp; have := Hn.out; omega)
      rw [List.getElem_map] at hc
      obtain ⟨q, hq⟩ : ∃ q, q = l[k]'(by have := Hn.out; omega) := ⟨_, rfl⟩
      rw [← hq] at hc
      unfold bv at hc
      have hql := q.toNat_lt
      have Hq := hid hq
      clear hq
      generalize hX : crcFold (~~~ s) (l.take k) = X
      have HX := hid hX
      clear hX
      have hXl := X.isLt
      have hin := crc_in_form X q
      go_wp2
      go_loop [5, 7] (fun x i => ∃ j : Nat, j ≤ 8 ∧ i = .int .i64 j ∧ x = .int .u32 ((crcBits j (X ^^^ q.toBitVec.setWidth 32)).toNat : Int))
         (fun _ i => 8 - (intOf i).toNat)
      case atStart => exact ⟨0, by omega, rfl, rfl⟩
      case round =>
        obtain ⟨j, hj, rfl, rfl⟩ := hrel
        have e := crcBits_snoc j (X ^^^ q.toBitVec.setWidth 32)
        have E := hid e
        clear e hin
        generalize hYe : crcBits j (X ^^^ q.toBitVec.setWidth 32) = Y at E
        have HYe := hid hYe
        clear hYe
        have hY := Y.isLt
        by_cases hjl : j < 8
        · by_cases h2 : Y.toNat % 2 = 1
          · have h2i : (((Y.toNat : Int) % 2) == 1) = true := by rw [beq_iff_eq]; omega
            have ho := crc_odd Y h2
            clear h2
            go_wp2
            go_round
            case rel => exact ⟨j + 1, by omega, by go_num, by rw [E.out]⟩
            case measure => simp [intOf]; omega
          · have h2i : (((Y.toNat : Int) % 2) == 1) = false := by rw [beq_eq_false_iff_ne]; omega
            have ho := crc_half Y (by omega)
            clear h2
            go_wp2
            go_round
            case rel => exact ⟨j + 1, by omega, by go_num, by rw [E.out]⟩
            case measure => simp [intOf]; omega
        · obtain rfl : j = 8 := by omega
          go_wp2
          refine ⟨⟨k + 1, by omega, by omega, ?_⟩, by simp [intOf]; omega⟩
          rw [List.take_succ_eq_append_getElem (by have := Hn.out; omega), crcFold_snoc, HX.out, ← Hq.out, ← HYe.out]; rfl
    · go_wp2
      obtain rfl : k = n := by omega
      rw [crc_not_form]
      go_ret
      refine ⟨?_, rfl⟩
      rw [List.take_of_length_le (by have := Hn.out; omega)]; rfl
set_option maxHeartbeats 400000 in
theorem ref_of (a : Option Addr) (n c : Nat) (l : List UInt8) (w : World) (hn : l.length = n) (hm : n ≤ 4611686018427387904) (hr : Rd w a (l.map bv)) :
    Calls Tryd.prog 53 #[.slice a n c] w fun e w' => e = .returned (.int .u32 ((crcMore 0 l).toNat : Int)) ∧ w = w' := by
  have Hn := hid hn
  clear hn
  go_enter Tryd.func53, Tryd.ntmps53
  go_wp2_with (go_at_call 57; refine (ref_more 0 a n c l _ Hn.out hm hr).mono ?_; rintro e w1 ⟨rfl, rfl⟩)
  go_ret
  exact ⟨rfl, rfl⟩
theorem ref_gap (n : Nat) (h1 : n < 4611686018427387904) (w : World) :
    Calls Tryd.prog 45 #[.int .i64 (n : Int)] w fun e w' => e = .returned (.int .i64 (gapN n : Int)) ∧ w = w' := by
  have e : ((n : Int) % 256) = ((n % 256 : Nat) : Int) := by omega
  obtain ⟨r, hr⟩ : ∃ r, r = n % 256 := ⟨_, rfl⟩
  rw [← hr] at e
  have hrl : r < 256 := by omega
  have hg : gapN n = if 256 - r < 7 then 256 - r else 0 := by rw [hr]; rfl
  rw [hg]
  clear hg hr
  by_cases h : r ≤ 249
  · rw [if_neg (by omega)]
    go_enter Tryd.func45, Tryd.ntmps45
    go_wp2
    go_ret
    exact ⟨rfl, rfl⟩
  · rw [if_pos (by omega)]
    go_enter Tryd.func45, Tryd.ntmps45
    go_wp2
    go_ret
    exact ⟨by rw [show ((256 - r : Nat) : Int) = 256 - (r : Int) by omega]; rfl, rfl⟩
theorem ref_gap' (N : Int) (n : Nat) (hN : N = (n : Int)) (h1 : n < 4611686018427387904) (w : World) :
    Calls Tryd.prog 45 #[.int .i64 N] w fun e w' => e = .returned (.int .i64 (gapN n : Int)) ∧ w = w' := by
  subst hN
  exact ref_gap n h1 w
set_option maxRecDepth 100000 in
set_option maxHeartbeats 800000 in
theorem ref_part (k : UInt8) (a : Option Addr) (n c : Nat) (l : List UInt8) (w : World) (hn : l.length = n) (hm : n ≤ 65535) (hr : Rd w a (l.map bv)) (ha : a = none → c = 0) :
    Calls Tryd.prog 46 #[.int .u8 (k.toNat : Int), .slice a n c] w fun e w' => ∃ v, e = .returned v ∧ Fr w' w.heap.size 5 1 v (n + 7) ((partB k l).map bv) ∧ Below w.heap.size w w' := by
  have Hn := hid hn
  have Hr := hid hr
  have Ha := hid ha
  have hk := k.toNat_lt
  clear hn hr ha
  obtain ⟨x, hx⟩ : ∃ x : UInt8, x = UInt8.ofNat n := ⟨_, rfl⟩
  obtain ⟨y, hy⟩ : ∃ y : UInt8, y = UInt8.ofNat (n / 256) := ⟨_, rfl⟩
  have ex : (n : Int) % 256 = (x.toNat : Int) := by rw [hx, UInt8.toNat_ofNat']; omega
  have ey : (n : Int) / 256 = (y.toNat : Int) := by rw [hy, UInt8.toNat_ofNat']; omega
  have hxl := x.toNat_lt
  have hyl := y.toNat_lt
  have HT := hid (show tailOf k l = [x, y, k] by unfold tailOf; rw [Hn.out, hx, hy])
  clear hx hy
  obtain ⟨w0, hw0⟩ : ∃ w0, w.alloc (.cells #[.int .u8 (x.toNat : Int), .int .u8 (y.toNat : Int), .int .u8 (k.toNat : Int)] 5) = w0 := ⟨_, rfl⟩
  have hs0 : w0.heap.size = w.heap.size + 1 := by rw [← hw0]; simp
  have HW := hid hw0
  have HT0 := hid (show w0.heap[w.heap.size]? = some (.cells ([x, y, k].map bv).toArray 5 (0, 0)) by rw [← hw0]; exact heap_alloc_new _ _)
  have HB0 := hid (show Below w.heap.size w w0 by rw [← hw0]; exact (Below.refl _ _).alloc (Nat.le_refl _) _)
  have Hs0 := hid hs0
  clear hw0 hs0
  have rdT : ∀ w1, Below (w.heap.size + 1) w0 w1 → Rd w1 (some ⟨w.heap.size, 0, none⟩) ([x, y, k].map bv) := fun w1 h => Rd.block ((h.block _ (by omega)).trans HT0.out) (fun j u hu => by simpa using hu)
  have rdL : ∀ w1, Below (w.heap.size + 1) w0 w1 → Rd w1 a (l.map bv) := fun w1 h => Hr.out.below (HB0.out.trans (h.mono (by omega)))
  have RdT := hid rdT
  have RdL := hid rdL
  clear rdT rdL
  go_enter Tryd.func46, Tryd.ntmps46
  go_upto_region 2 with fail
  rw [HW.out]
  go_upto_region 3 with (first
    | (refine app22 rfl (.const (.slice none 0 0)) (.tmp 18) rfl (w.heap.size + 1) none 0 0 [] rfl (own_nil22 _ _) (some ⟨w.heap.size, 0, none⟩) 3 3 [x, y, k] rfl (fun h => by cases h) rfl (RdT.out _ (Below.refl _ _)) (by omega) (by rw [Hs0.out]; omega) ?_; intro q1 c1 w1 G1; have G1 := hid G1)
    | (refine app22 rfl (.tmp 19) (.tmp 20) rfl (w.heap.size + 1) q1 (0 + 3) c1 ([] ++ [x, y, k]) rfl G1.out.own a n c l rfl Ha.out Hn.out (RdL.out _ G1.out.below) (by omega) (by have := G1.out.below.size; have := Hs0.out; omega) ?_; intro q2 c2 w2 G2; have G2 := hid G2)
    | (go_at_call 53; refine (ref_of _ _ _ ([] ++ [x, y, k] ++ l) _ (by simp; have := Hn.out; omega) (by omega) G2.out.fr.rd).mono ?_; rintro e w3 ⟨rfl, rfl⟩; dsimp only))
  have hps : crcMore 0 ([] ++ [x, y, k] ++ l) = partSum k l := by unfold partSum; rw [HT.out]; rfl
  rw [hps]
  clear hps
  obtain ⟨S, hS⟩ : ∃ S, S = partSum k l := ⟨_, rfl⟩
  rw [← hS]
  have HS := hid hS
  clear hS
  have hSl : S.toNat < 4294967296 := S.isLt
  obtain ⟨b0, hb0⟩ : ∃ b, b = sumByte S 1 := ⟨_, rfl⟩
  obtain ⟨b1, hb1⟩ : ∃ b, b = sumByte S 256 := ⟨_, rfl⟩
  obtain ⟨b2, hb2⟩ : ∃ b, b = sumByte S 65536 := ⟨_, rfl⟩
  obtain ⟨b3, hb3⟩ : ∃ b, b = sumByte S 16777216 := ⟨_, rfl⟩
  have e0 : (S.toNat : Int) % 256 = (b0.toNat : Int) := by rw [hb0, sumByte_toNat]; simp
  have e1 : (S.toNat : Int) / 256 % 256 = (b1.toNat : Int) := by rw [hb1, sumByte_toNat]; simp
  have e2 : (S.toNat : Int) / 65536 % 256 = (b2.toNat : Int) := by rw [hb2, sumByte_toNat]; simp
  have e3 : (S.toNat : Int) / 16777216 = (b3.toNat : Int) := by rw [hb3, sumByte_toNat]; simp; omega
  have HH := hid (show headList k l = [b0, b1, b2, b3] ++ [x, y, k] by unfold headList; rw [HT.out, ← HS.out, ← hb0, ← hb1, ← hb2, ← hb3])
  clear hb0 hb1 hb2 hb3
  have hl0 := b0.toNat_lt
  have hl1 := b1.toNat_lt
  have hl2 := b2.toNat_lt
  have hl3 := b3.toNat_lt
  have hB2 : Below (w.heap.size + 1) w0 w2 := G1.out.below.trans G2.out.below
  have hz2 := hB2.size
  rw [Hs0.out] at hz2
  have HB2 := hid hB2
  clear hB2
  go_upto_region 4 with fail
  obtain ⟨w5, hw5⟩ : ∃ w5, w2.alloc (.cells #[.int .u8 (b0.toNat : Int), .int .u8 (b1.toNat : Int), .int .u8 (b2.toNat : Int), .int .u8 (b3.toNat : Int)] 5) = w5 := ⟨_, rfl⟩
  have HO5 := hid (show w5.ownsRow (w.heap.size + 1) 5 1 (.slice (some ⟨w2.heap.size, 0, none⟩) 4 4) 4 ([b0, b1, b2, b3].map bv) by rw [← hw5]; exact own_lit22 w2 _ [b0, b1, b2, b3] 4 hz2 rfl (by decide))
  have HB5 := hid (show Below (w.heap.size + 1) w0 w5 by rw [← hw5]; exact HB2.out.alloc hz2 _)
  have hz5 : w5.heap.size = w2.heap.size + 1 := by rw [← hw5]; simp
  have Hz5 := hid hz5
  rw [hw5]
  clear hw5 hz5
  go_wp2_with (first
    | (refine app22 rfl (.tmp 35) (.tmp 36) rfl (w.heap.size + 1) (some ⟨w2.heap.size, 0, none⟩) 4 4 [b0, b1, b2, b3] rfl HO5.out (some ⟨w.heap.size, 0, none⟩) 3 3 [x, y, k] rfl (fun h => by cases h) rfl (RdT.out _ HB5.out) (by omega) (by rw [Hz5.out]; omega) ?_; intro q6 c6 w6 G6; have G6 := hid G6)
    | (refine app22 rfl (.tmp 37) (.tmp 38) rfl (w.heap.size + 1) q6 (4 + 3) c6 ([b0, b1, b2, b3] ++ [x, y, k]) rfl G6.out.own a n c l rfl Ha.out Hn.out (RdL.out _ (HB5.out.trans G6.out.below)) (by omega) (by have := G6.out.below.size; have := Hz5.out; omega) ?_; intro q7 c7 w7 G7; have G7 := hid G7))
  go_ret
  refine ⟨_, rfl, ?_, ?_⟩
  · have h := (G7.out.fr).mono (base' := w.heap.size) (by omega)
    unfold partB
    rw [HH.out]
    rw [show n + 7 = 4 + 3 + n by omega]
    exact h
  · exact HB0.out.trans ((HB5.out.trans (G6.out.below.trans G7.out.below)).mono (by omega))
theorem ref_part' (K : Int) (k : UInt8) (hK : K = (k.toNat : Int)) (a : Option Addr) (n c : Nat) (l : List UInt8) (w : World) (hn : l.length = n) (hm : n ≤ 65535) (hr : Rd w a (l.map bv)) (ha : a = none → c = 0) :
    Calls Tryd.prog 46 #[.int .u8 K, .slice a n c] w fun e w' => ∃ v, e = .returned v ∧ Fr w' w.heap.size 5 1 v (n + 7) ((partB k l).map bv) ∧ Below w.heap.size w w' := by
  subst hK
  exact ref_part k a n c l w hn hm hr ha
end Go.Proofs.Herb
