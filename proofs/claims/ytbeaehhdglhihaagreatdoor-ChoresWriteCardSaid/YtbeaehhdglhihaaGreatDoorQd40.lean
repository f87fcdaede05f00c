/- strconv.FormatUint at base ten: the contract, out of the shelf's small, numDigits and formatBase10 (laid for this program); the table of powers of ten; a file's name: its contract; two numbers make two names. For worlds in which the library's table of powers of ten reads as it was laid. -/
import Derived.Shelf.Strconv.Itoa3
import Derived.Lib.AppendIntMem
import Derived.Lib.SmallJoins
import Derived.Test.YtbeaehhdglhihaaGreatDoorProg
import Derived.Test.YtbeaehhdglhihaaGreatDoorQd01
namespace Go.Proofs.Herb
open Go.RowKit Go.Shelf Go.Lib Go.Sort
def numLay_ren : Go.Shelf.Ren := ⟨fun | 283 => 171 | 284 => 172 | 285 => 173 | 129 => 196 | 317 => 205 | 318 => 206 | n => n, fun | 3 => 3 | 9 => 9 | 4 => 4 | 0 => 0 | 5 => 5 | 53 => 22 | 37 => 75 | 212 => 259 | 51 => 52 | 46 => 202 | n => n, fun | 17 => 0 | n => n⟩
theorem lay283 : Go.Proofs.Lays.n283 Tryz.prog numLay_ren := {
  mixed := by kernel_rfl
  f283 := Tryz.func171.trans (congrArg some (by kernel_rfl))
  t3 := Tryz.underlying3
  a3 := Tryz.isAgg3
  z3 := Tryz.sizeOf3
  v3 := Tryz.zeroValue3
  t4 := Tryz.underlying4
  a4 := Tryz.isAgg4
  z4 := Tryz.sizeOf4
  v4 := Tryz.zeroValue4
  t9 := Tryz.underlying9
  a9 := Tryz.isAgg9
  z9 := Tryz.sizeOf9
  v9 := Tryz.zeroValue9 }
theorem lay284 : Go.Proofs.LaysM.n284 Tryz.prog numLay_ren := {
  mixed := by kernel_rfl
  f129 := Tryz.func196.trans (congrArg some (by kernel_rfl))
  f284 := Tryz.func172.trans (congrArg some (by kernel_rfl))
  f317 := Tryz.func205.trans (congrArg some (by kernel_rfl))
  f318 := Tryz.func206.trans (congrArg some (by kernel_rfl))
  t0 := Tryz.underlying0
  a0 := Tryz.isAgg0
  z0 := Tryz.sizeOf0
  v0 := Tryz.zeroValue0
  t3 := Tryz.underlying3
  a3 := Tryz.isAgg3
  z3 := Tryz.sizeOf3
  v3 := Tryz.zeroValue3
  t4 := Tryz.underlying4
  a4 := Tryz.isAgg4
  z4 := Tryz.sizeOf4
  v4 := Tryz.zeroValue4
  t5 := Tryz.underlying5
  a5 := Tryz.isAgg5
  z5 := Tryz.sizeOf5
  v5 := Tryz.zeroValue5
  t9 := Tryz.underlying9
  a9 := Tryz.isAgg9
  z9 := Tryz.sizeOf9
  v9 := Tryz.zeroValue9
  t46 := Tryz.underlying202
  a46 := Tryz.isAgg202
  z46 := Tryz.sizeOf202
  v46 := Tryz.zeroValue202
  t53 := Tryz.underlying22
  a53 := Tryz.isAgg22
  z53 := Tryz.sizeOf22
  v53 := Tryz.zeroValue22
  t212 := Tryz.underlying259
  a212 := Tryz.isAgg259
  z212 := Tryz.sizeOf259
  v212 := Tryz.zeroValue259
  g17 := by kernel_rfl
  i0 := by kernel_rfl
  i3 := by kernel_rfl
  i4 := by kernel_rfl
  i5 := by kernel_rfl
  i9 := by kernel_rfl
  i46 := by kernel_rfl
  i53 := by kernel_rfl
  i212 := by kernel_rfl
  m17 := by kernel_rfl }
theorem lay285 : Go.Proofs.Lays.n285 Tryz.prog numLay_ren := {
  mixed := by kernel_rfl
  f285 := Tryz.func173.trans (congrArg some (by kernel_rfl))
  t0 := Tryz.underlying0
  a0 := Tryz.isAgg0
  z0 := Tryz.sizeOf0
  v0 := Tryz.zeroValue0
  t3 := Tryz.underlying3
  a3 := Tryz.isAgg3
  z3 := Tryz.sizeOf3
  v3 := Tryz.zeroValue3
  t4 := Tryz.underlying4
  a4 := Tryz.isAgg4
  z4 := Tryz.sizeOf4
  v4 := Tryz.zeroValue4
  t5 := Tryz.underlying5
  a5 := Tryz.isAgg5
  z5 := Tryz.sizeOf5
  v5 := Tryz.zeroValue5
  t9 := Tryz.underlying9
  a9 := Tryz.isAgg9
  z9 := Tryz.sizeOf9
  v9 := Tryz.zeroValue9
  t37 := Tryz.underlying75
  a37 := Tryz.isAgg75
  z37 := Tryz.sizeOf75
  v37 := Tryz.zeroValue75
  t51 := Tryz.underlying52
  a51 := Tryz.isAgg52
  z51 := Tryz.sizeOf52
  v51 := Tryz.zeroValue52
  t53 := Tryz.underlying22
  a53 := Tryz.isAgg22
  z53 := Tryz.sizeOf22
  v53 := Tryz.zeroValue22 }
/-- the library's table of powers of ten reads as it was laid -/
def Pow10 (w : World) : Prop := Lib.TabIs Tryz.prog w "internal/strconv.uint64pow10" .u64 Lib.pow10Tab
theorem gPow10 : Tryz.prog.globalNamed "internal/strconv.uint64pow10" = some 0 := by kernel_rfl
theorem Pow10.below {w w' : World} {B : Nat} (h : Pow10 w) (hb : Below B w w') (hB : w.heap.size ≤ B) : Pow10 w' := Go.Joins.tab_stays gPow10 h hb hB
theorem small_any (i : Nat) (h : i < 100) (w : World) : Calls Tryz.prog 171 #[.int .i64 (i : Int)] w fun e w' => e = .returned (.string ⟨(Lib.decDigits i).toArray⟩) ∧ w' = w := Any.internal_strconv_small lay283 i h w
theorem numDigits_any (u : Nat) (h1 : 1 ≤ u) (h2 : u < 18446744073709551616) (w : World) (ht : Pow10 w) : Calls Tryz.prog 172 #[.int .u64 (u : Int)] w fun e w' => e = .returned (.int .i64 ((Lib.nDigits u : Nat) : Int)) ∧ w' = w := Any.internal_strconv_numDigits lay284 u h1 h2 w ht
theorem nDigits_le (u : Nat) (h1 : 1 ≤ u) (h2 : u < 18446744073709551616) : Lib.nDigits u ≤ 20 := by have := Lib.numDigits_eq u h1 h2; split at this <;> omega
set_option maxRecDepth 100000 in
set_option maxHeartbeats 6400000 in
theorem fmtU_any (u : Nat) (hu : u < 18446744073709551616) (w : World) (ht : Pow10 w) :
    Calls Tryz.prog 137 #[.int .u64 (u : Int), .int .i64 10] w fun e w' => e = .returned (.string ⟨(Lib.decDigits u).toArray⟩) ∧ Below w.heap.size w w' := by
  by_cases h100 : u < 100
  · have b0 : decide ((u : Int) < 100) = true := by simp; omega
    go_enter Tryz.func137, Tryz.ntmps137
    go_wp2_with (go_at_call 171; refine (small_any u h100 _).mono ?_; rintro e w' ⟨rfl, rfl⟩)
    go_ret
    exact ⟨rfl, Below.refl _ _⟩
  · have b0 : decide ((u : Int) < 100) = false := by simp; omega
    have hu1 : 1 ≤ u := by omega
    have hnd := nDigits_le u hu1 hu
    have hH0 := Lib.holds_zero0 w 216 (Lib.nDigits u) (by omega)
    have hlt := Lib.lt_pow_nDigits u
    have HND := hid (decDigits_length u)
    obtain ⟨ND, hN⟩ : ∃ N, N = Lib.nDigits u := ⟨_, rfl⟩
    rw [← hN] at hnd hH0 hlt
    have hal : Tryz.prog.arrayLen 216 = 24 := by kernel_rfl
    have hfmt := Any.internal_strconv_formatBase10 lay285 w.heap.size 0 24 u (Array.replicate ND 0) (w.alloc (.cells Lib.zeros24 216)) hH0 (by rw [Array.size_replicate]; exact hlt) hu (by rw [Array.size_replicate]; omega)
    rw [Array.size_replicate] at hfmt
    have HF := hid (show Calls Tryz.prog 173 #[.slice (some ⟨w.heap.size, 0, none⟩) ND 24, .int .u64 (u : Int)] (w.alloc (.cells Lib.zeros24 216)) _ from hfmt)
    have hnu := numDigits_any u hu1 hu (w.alloc (.cells Lib.zeros24 216)) (Lib.tabIs_alloc ht _)
    rw [← hN] at hnu
    have HNu := hid hnu
    have HH0 := hid hH0
    have HN := hid hN
    clear hH0 hfmt hal ht hnu hN
    go_enter Tryz.func137, Tryz.ntmps137
    go_wp2_with fail
    refine HNu.out.mono ?_
    rintro e w' ⟨rfl, rfl⟩
    have hal : Tryz.prog.arrayLen 216 = 24 := by kernel_rfl
    have hel : Tryz.prog.elem 216 = 5 := by kernel_rfl
    have hsl1 : ∀ W, (Instr.sliceAt 216 (.pointer (some ⟨w.heap.size, 0, none⟩)) none (some (.int .i64 (ND : Int))) none).run Tryz.prog W = .ok (.slice (some ⟨w.heap.size, 0, none⟩) ND 24) W := fun W => by
      rw [run_sliceAt_array_h W 216 ⟨w.heap.size, 0, none⟩ (by kernel_rfl) .i64 (ND : Int) (by omega) (by rw [hal]; omega)]
      rw [hal, hel, Tryz.sizeOf5]
      simp [Result.andThen, slicedAt, Lib.add_plain]
    clear hal hel
    go_wp2_with fail
    refine HF.out.mono ?_
    rintro e w' ⟨rfl, k, v', dk, rfl, hFm⟩
    have hsz : dk.size = ND := by rw [hFm.size]
    have hFm' : FmtInv (Lib.nDigits u) u 0 v' dk := by rw [← HN.out]; exact hFm
    have hcv : (convert 75 9 (.slice (some ⟨w.heap.size, 0, none⟩) ND 24)).run Tryz.prog ((putRow (fun (b : UInt8) => Value.int .u8 (b.toNat : Int)) (w.alloc (.cells Lib.zeros24 216)) w.heap.size 0 dk).drewN k) = .ok (.string ⟨(Lib.decDigits u).toArray⟩) ((putRow (fun (b : UInt8) => Value.int .u8 (b.toNat : Int)) (w.alloc (.cells Lib.zeros24 216)) w.heap.size 0 dk).drewN k) := by
      have h := run_convert_bytes_back (P := Tryz.prog) ((putRow (fun (b : UInt8) => Value.int .u8 (b.toNat : Int)) (w.alloc (.cells Lib.zeros24 216)) w.heap.size 0 dk).drewN k) 75 9 5 ⟨w.heap.size, 0, none⟩ 24 (Lib.decDigits u) Tryz.underlying75 Tryz.underlying5 Tryz.underlying9 (fun j hj => by
        rw [Lib.row_is_numeral hFm' j hj, Lib.add_plain, World.cell?_drewN]
        exact cell?_putRow (fun (b : UInt8) => Value.int .u8 (b.toNat : Int)) _ w.heap.size 0 _ dk HH0.out (by rw [hsz, Array.size_replicate]) j (by rw [hsz, HN.out, ← Lib.decDigits_length]; exact hj))
      rw [Lib.decDigits_length, ← HN.out] at h
      exact h
    obtain ⟨os, eo⟩ := Lib.fin_at w (.cells Lib.zeros24 216) dk k 0
    have HB := hid (show Below w.heap.size w ((putRow (fun (b : UInt8) => Value.int .u8 (b.toNat : Int)) (w.alloc (.cells Lib.zeros24 216)) w.heap.size 0 dk).drewN k) by rw [eo]; exact Lib.below_grow _ w (Nat.le_refl _) k os)
    clear eo hFm hFm' hsz
    go_wp2
    go_ret
    exact ⟨rfl, HB.out⟩
theorem dec_len (u : Nat) (h : u < 18446744073709551616) : 1 ≤ (Lib.decDigits u).length ∧ (Lib.decDigits u).length ≤ 20 := by
  by_cases h0 : u < 10
  · rw [Lib.decDigits_one h0]; simp
  · rw [Lib.decDigits_length]
    refine ⟨?_, nDigits_le u (by omega) h⟩
    rcases Nat.eq_zero_or_pos (Lib.nDigits u) with q | q
    · have := Lib.lt_pow_nDigits u
      rw [q] at this
      omega
    · exact q
/-- a table's file -/
def nmU (u : Nat) : ByteArray := ⟨(116 :: 45 :: Lib.decDigits u).toArray⟩
theorem nm_size (u : Nat) (h : u < 18446744073709551616) : 3 ≤ (nmU u).size ∧ (nmU u).size ≤ 22 := by
  have := dec_len u h
  show 3 ≤ (116 :: 45 :: Lib.decDigits u).toArray.size ∧ (116 :: 45 :: Lib.decDigits u).toArray.size ≤ 22
  simp
  omega
theorem nm_max (u : Nat) (h : u < 18446744073709551616) : (nmU u).size ≤ maxLen := by have := (nm_size u h).2; unfold maxLen; omega
set_option maxRecDepth 100000 in
set_option maxHeartbeats 1000000 in
theorem fmtP_any (u : Nat) (hu : u < 18446744073709551616) (w : World) (ht : Pow10 w) :
    Calls Tryz.prog 86 #[.int .u64 (u : Int), .int .i64 10] w fun e w' => e = .returned (.string ⟨(Lib.decDigits u).toArray⟩) ∧ Below w.heap.size w w' := by
  have H := hid (fmtU_any u hu w ht)
  clear ht
  go_enter Tryz.func86, Tryz.ntmps86
  go_wp2_with (go_at_call 137; refine H.out.mono ?_; rintro e w1 ⟨rfl, hb⟩)
  go_ret
  exact ⟨rfl, hb⟩
set_option maxRecDepth 100000 in
set_option maxHeartbeats 1000000 in
theorem name_any (u : Nat) (hu : u < 18446744073709551616) (w : World) (ht : Pow10 w) :
    Calls Tryz.prog 35 #[.int .u64 (u : Int)] w fun e w' => e = .returned (.string (nmU u)) ∧ Below w.heap.size w w' := by
  have H := hid (fmtP_any u hu w ht)
  have hl := dec_len u hu
  obtain ⟨S, hS⟩ : ∃ S : ByteArray, S = ⟨(Lib.decDigits u).toArray⟩ := ⟨_, rfl⟩
  have hSz : S.size ≤ 20 := by rw [hS]; show (Lib.decDigits u).toArray.size ≤ 20; simp; omega
  have hN : (⟨#[116, 45]⟩ ++ S : ByteArray) = nmU u := by
    rw [hS]
    unfold nmU
    apply ByteArray.ext
    rw [ByteArray.data_append]
    simp
  have HN := hid hN
  have HS := hid hS
  clear ht hN hS
  go_enter Tryz.func35, Tryz.ntmps35
  go_wp2_with (go_at_call 86; refine H.out.mono ?_; rintro e w1 ⟨rfl, hb⟩; rw [← HS.out])
  go_ret
  exact ⟨by rw [← HN.out]; rfl, hb⟩
end Go.Proofs.Herb
