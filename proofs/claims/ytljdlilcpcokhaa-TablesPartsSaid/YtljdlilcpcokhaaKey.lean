/- The contracts of keys.falling, tailOf, escaped and may. No condition. -/
import Derived.Test.YtljdlilcpcokhaaFct
import Derived.RegionTactic
import Derived.StillTailTactics
import Derived.IntWalk
import Derived.Laws.ShiftsVarLaws
import Derived.Laws.BitsAllLaws
namespace Go.Proofs.Herb
open Go.RowKit
/-- byte i of so many, of a number whose bits are turned, the highest first -/
def fallB (n many i : Nat) : UInt8 := UInt8.ofNat (255 - n / 2 ^ (8 * (many - 1 - i)) % 256)
theorem fall_form (n S many k : Nat) (hS : S = 8 * (many - 1 - k)) : bits BinOp.xor IntKind.u8 (if IntKind.u8.signed = true then -1 else IntKind.u8.max) ((n : Int) / 2 ^ S % 256) = ((fallB n many k).toNat : Int) := by
  have e : ((n : Int) / 2 ^ S % 256) = ((n / 2 ^ S % 256 : Nat) : Int) := by simp
  have hlt : n / 2 ^ S % 256 < 256 := Nat.mod_lt _ (by decide)
  rw [e]
  generalize hX : n / 2 ^ S % 256 = X at hlt
  rw [show (if IntKind.u8.signed = true then (-1 : Int) else IntKind.u8.max) = ((255 : Nat) : Int) from rfl, u8_xor_nat _ _ (by decide) hlt]
  unfold fallB
  rw [← hS, hX, UInt8.toNat_ofNat', Nat.mod_eq_of_lt (by omega)]
  congr 1
  have key : ∀ x : Fin 256, 255 ^^^ x.val = 255 - x.val := by decide +kernel
  exact key ⟨X, hlt⟩
theorem infoTail : (Try.prog.info? 82).map (·.size) = some 13 := by kernel_rfl
set_option maxRecDepth 100000 in
set_option maxHeartbeats 800000 in
theorem falling_any (T from_ many n : Nat) (hfm : from_ + many ≤ 13) (h0 : 1 ≤ many) (hm8 : many ≤ 8) (cur : Array Value) (hs : cur.size = 13) (w : World) (hT : w.heap[T]? = some (.cells cur 82 (0, 0))) (b0 : Nat) (hb0 : b0 ≤ T) :
    Calls Try.prog 52 #[.pointer (some ⟨T, 0, none⟩), .int .i64 (from_ : Int), .int .i64 (many : Int), .int .u64 (n : Int)] w fun e w' => e = .returned (.tuple #[]) ∧ ∃ cur' : Array Value, w'.heap[T]? = some (.cells cur' 82 (0, 0)) ∧ cur'.size = 13 ∧ (∀ j, j < many → cur'[from_ + j]? = some (bv (fallB n many j))) ∧ (∀ j, j < from_ → cur'[j]? = cur[j]?) ∧ Below b0 w w' := by
  go_enter Try.func52, Try.ntmps52
  go_wp2
  go_loopw [10] (fun i wr => ∃ k : Nat, k ≤ many ∧ i = .int .i64 (k : Int) ∧ ∃ cur' : Array Value, wr.heap[T]? = some (.cells cur' 82 (0, 0)) ∧ cur'.size = 13 ∧ (∀ j, j < k → cur'[from_ + j]? = some (bv (fallB n many j))) ∧ (∀ j, j < from_ → cur'[j]? = cur[j]?) ∧ Below b0 w wr)
    (fun i _ => many - (intOf i).toNat)
  case atStart => exact ⟨0, Nat.zero_le _, rfl, cur, hT, hs, fun j hj => by omega, fun _ _ => rfl, Below.refl _ _⟩
  case round =>
    obtain ⟨k, hk, rfl, cur', hc, hs', hd, ho, hb⟩ := hrel
    have Hd := hid hd
    have Ho := hid ho
    have Hb := hid hb
    have Hc := hid hc
    have Hs' := hid hs'
    clear hd ho hb hs'
    by_cases hlt : k < many
    · have hcell : wr.cell? ⟨T, from_ + k, none⟩ = some (cur'[from_ + k]'(by have := Hs'.out; omega)) := by rw [cell_of_row _ _ _ _ _ _ hc]; simp
      have hfr : wr.frozen? ⟨T, from_ + k, none⟩ = false := frozen_of_row _ _ _ _ _ hc
      clear hc
      obtain ⟨S, hS⟩ : ∃ S : Nat, S = 8 * (many - 1 - k) := ⟨_, rfl⟩
      have s1 : IntKind.i64.wrap ((from_ : Int) + (k : Int)) = (from_ : Int) + (k : Int) := IntWalk.i64_in _ (by omega)
      have s2 : IntKind.i64.wrap ((many : Int) - 1) = (many : Int) - 1 := IntWalk.i64_in _ (by omega)
      have s3 : IntKind.i64.wrap ((many : Int) - 1 - (k : Int)) = (many : Int) - 1 - (k : Int) := IntWalk.i64_in _ (by omega)
      have s4 : IntKind.i64.wrap (8 * ((many : Int) - 1 - (k : Int))) = (S : Int) := by rw [IntWalk.i64_in _ (by omega)]; omega
      have hS64 : min S 64 = S := by omega
      have i0 : (0 : Int) ≤ (from_ : Int) + (k : Int) := by omega
      have i1 : (from_ : Int) + (k : Int) < 13 := by omega
      have i2 : ((from_ : Int) + (k : Int)).toNat = from_ + k := by omega
      have HS := hid hS
      clear hS
      go_wp2
      go_still_tail 14, (by kernel_rfl)
      go_wp2
      rw [fall_form n S many k HS.out]
      refine ⟨⟨k + 1, by omega, by go_num, _, heap_setCell_same _ _ _ _ _ _ Hc.out, by simp [Hs'.out], ?_, ?_, (Hb.out.setCell (p := ⟨T, from_ + k, none⟩) hb0 _).drew⟩, by simp [intOf]; omega⟩
      · intro j hj
        by_cases hjk : j = k
        · subst hjk; rw [Array.getElem?_setIfInBounds_self_of_lt (by have := Hs'.out; omega)]; rfl
        · rw [Array.getElem?_setIfInBounds_ne (by omega)]; exact Hd.out j (by omega)
      · intro j hj
        rw [Array.getElem?_setIfInBounds_ne (by omega)]; exact Ho.out j hj
    · obtain rfl : k = many := by omega
      go_wp2
      go_end0
      exact ⟨rfl, cur', Hc.out, Hs'.out, Hd.out, Ho.out, Hb.out⟩
/-- a tail's thirteen bytes -/
def tailB (valid seq kind : Nat) : List UInt8 := (List.range 4).map (fallB valid 4) ++ (List.range 8).map (fallB seq 8) ++ [UInt8.ofNat kind]
theorem tailB_len (valid seq kind : Nat) : (tailB valid seq kind).length = 13 := by simp [tailB]
theorem tail_of {cur : Array Value} {valid seq kind : Nat} (hk : kind < 256) (hs : cur.size = 13) (h1 : ∀ j, j < 4 → cur[j]? = some (bv (fallB valid 4 j))) (h2 : ∀ j, j < 8 → cur[4 + j]? = some (bv (fallB seq 8 j))) :
    cur.setIfInBounds 12 (.int .u8 (kind : Int)) = ((tailB valid seq kind).map bv).toArray := by
  apply Array.ext_getElem?
  intro i
  have hR : ((tailB valid seq kind).map bv).toArray[i]? = (tailB valid seq kind)[i]?.map bv := by rw [List.getElem?_toArray, List.getElem?_map]
  rw [hR]
  rcases Nat.lt_or_ge i 13 with hi | hi
  · by_cases h4 : i < 4
    · rw [Array.getElem?_setIfInBounds_ne (by omega), h1 i h4]
      unfold tailB
      rw [List.append_assoc, List.getElem?_append_left (by simpa using h4), List.getElem?_map, List.getElem?_range h4]; rfl
    · by_cases h12 : i < 12
      · obtain ⟨j, rfl⟩ : ∃ j, i = 4 + j := ⟨i - 4, by omega⟩
        rw [Array.getElem?_setIfInBounds_ne (by omega), h2 j (by omega)]
        unfold tailB
        rw [List.append_assoc, List.getElem?_append_right (by simp), List.getElem?_append_left (by simp; omega), List.getElem?_map, List.getElem?_range (by simp; omega)]
        simp
      · obtain rfl : i = 12 := by omega
        rw [Array.getElem?_setIfInBounds_self_of_lt (by omega)]
        unfold tailB
        rw [List.getElem?_append_right (by simp)]
        simp [bv, Nat.mod_eq_of_lt hk]
  · rw [Array.getElem?_eq_none (by simp; omega), List.getElem?_eq_none (by rw [tailB_len]; omega)]; rfl
theorem tailB_one (valid seq kind : Nat) : ∀ v ∈ (((tailB valid seq kind).map bv).toArray).toList, v.oneCell' = true := by intro v hv; exact bv_one v (by simpa using hv)
set_option maxRecDepth 100000 in
set_option maxHeartbeats 800000 in
theorem tailOf_any (valid seq kind : Nat) (hv : valid < 4294967296) (hq : seq < 18446744073709551616) (hk : kind < 256) (w : World) :
    Calls Try.prog 36 #[.int .u32 (valid : Int), .int .u64 (seq : Int), .int .u8 (kind : Int)] w fun e w' => e = .returned (.agg ((tailB valid seq kind).map bv).toArray) ∧ Below w.heap.size w w' := by
  go_enter Try.func36, Try.ntmps36
  go_wp2_with fail
  refine (falling_any w.heap.size 0 4 valid (by decide) (by decide) (by decide) _ (by first | rfl | simp) _ (heap_alloc_new w _) w.heap.size (Nat.le_refl _)).mono ?_
  rintro e w1 ⟨rfl, c1, hc1, hs1, hd1, _, hb1⟩
  have Hc1 := hid hc1
  have Hs1 := hid hs1
  have Hd1 := hid hd1
  have Hb1 := hid (((Below.refl _ w).alloc (Nat.le_refl _) _).trans hb1)
  clear hc1 hs1 hd1 hb1
  go_wp2_with fail
  refine (falling_any w.heap.size 4 8 seq (by decide) (by decide) (by decide) c1 Hs1.out w1 Hc1.out w.heap.size (Nat.le_refl _)).mono ?_
  rintro e w2 ⟨rfl, c2, hc2, hs2, hd2, ho2, hb2⟩
  obtain ⟨v12, hcell⟩ : ∃ v12, w2.cell? ⟨w.heap.size, 12, none⟩ = some v12 := ⟨c2[12]'(by omega), by rw [cell_of_row _ _ _ _ _ _ hc2]; simp⟩
  have hfr : w2.frozen? ⟨w.heap.size, 12, none⟩ = false := frozen_of_row _ _ _ _ _ hc2
  have hfin := tail_of (valid := valid) (seq := seq) hk hs2 (fun j hj => by have := Hd1.out j hj; rw [Nat.zero_add] at this; rw [ho2 j hj]; exact this) hd2
  have hc3 := heap_setCell_same _ _ 12 _ _ (.int .u8 (kind : Int)) hc2
  rw [hfin] at hc3
  have HC3 := hid hc3
  have HB := hid ((Hb1.out.trans hb2).setCell (p := ⟨w.heap.size, 12, none⟩) (Nat.le_refl _) (.int .u8 (kind : Int)))
  clear hc2 hs2 hd2 ho2 hb2 hfin hc3 Hc1 Hs1 Hd1 Hb1
  obtain ⟨L, hL⟩ : ∃ L, L = ((tailB valid seq kind).map bv).toArray := ⟨_, rfl⟩
  have hLs : L.size = 13 := by rw [hL]; simp [tailB_len]
  have hL1 : ∀ v ∈ L.toList, v.oneCell' = true := by rw [hL]; exact tailB_one valid seq kind
  rw [← hL] at HC3
  have HL := hid hL
  have HLs := hid hLs
  have HL1 := hid hL1
  clear hL hLs hL1
  go_wp2_with (first | (refine wpList_load_row rfl 82 _ rfl _ rfl _ _ _ _ HC3.out Try.underlying82 rfl (by rw [HLs.out]; exact infoTail) ?_) | (refine wpList_store_block rfl 82 _ _ rfl _ _ _ _ rfl rfl HC3.out rfl (by rw [HLs.out]; exact infoTail) HL1.out ?_; rw [setRow_self _ _ _ _ _ HC3.out]))
  refine bodyPost_ret (results_cell_row rfl _ _ _ _ _ _ _ rfl HC3.out Try.underlying82 rfl (by rw [HLs.out]; exact infoTail)) rfl ?_
  exact ⟨by rw [HL.out], HB.out⟩
end Go.Proofs.Herb
