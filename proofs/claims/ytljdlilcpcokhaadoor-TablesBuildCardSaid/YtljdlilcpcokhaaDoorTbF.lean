/- The contract of tables.putProps. For props of so many bytes. -/
import Derived.Test.YtljdlilcpcokhaaDoorTbD
import Derived.Test.YtljdlilcpcokhaaDoorVpx
import Derived.Deep.RegionHeld3
namespace Go.Proofs.Herb
open Go.RowKit
/-- props in bytes -/
def ppB (p : Props) : List UInt8 := vput p.line ++ vput p.many ++ tput p.low.data.toList ++ tput p.high.data.toList ++ vput p.least ++ vput p.greatest ++ vput p.early ++ vput p.late
theorem tput_len2 (l : List UInt8) : (tput l).length = (vput l.length).length + l.length := by unfold tput; rw [List.length_append]
theorem size_toList2 (s : ByteArray) : s.data.toList.length = s.size := by rw [Array.length_toList]; rfl
theorem flat_vput (l : List Nat) : (l.flatMap vput).length ≤ 10 * l.length := by
  induction l with
  | nil => simp
  | cons a l ih => rw [List.flatMap_cons, List.length_append, List.length_cons]; have := (vput_len a).2; omega
/-- a step of Put: bytes without room behind, and a number -/
theorem vput_step (B n N : Nat) (q : Option Addr) (l : List UInt8) (w : World) (hN : N < 18446744073709551616) (hf : Fr w B 5 1 (.slice q n n) n (l.map bv)) (hm : n ≤ 4194304) (hB : B ≤ w.heap.size) :
    Calls Tryd.prog 17 #[.slice q n n, .int .u64 (N : Int)] w fun e w' => ∃ q', e = .returned (.slice q' (n + (vput N).length) (n + (vput N).length)) ∧ Fr w' B 5 1 (.slice q' (n + (vput N).length) (n + (vput N).length)) (n + (vput N).length) ((l ++ vput N).map bv) ∧ Below w.heap.size w w' := by
  have hl : l.length = n := by have := hf.1; simpa using this
  refine (vput_any q n n N l w hN hl (Nat.le_refl _) hm hf.rd ?_).mono ?_
  · obtain ⟨a, c', h1, _, _, _, h2⟩ := hf.shape
    rw [Value.slice.injEq] at h1
    obtain ⟨rfl, _, rfl⟩ := h1
    exact fun e => (h2 e).2
  · rintro e w' ⟨q', h1, h2, h3⟩
    exact ⟨q', h1, h2.mono hB, h3⟩
theorem ptext_step (B n : Nat) (q : Option Addr) (l : List UInt8) (s : ByteArray) (w : World) (hs : s.size ≤ 4194304) (hf : Fr w B 5 1 (.slice q n n) n (l.map bv)) (hm : n ≤ 4194304) (hB : B ≤ w.heap.size) :
    Calls Tryd.prog 44 #[.slice q n n, .string s] w fun e w' => ∃ q', e = .returned (.slice q' (n + (tput s.data.toList).length) (n + (tput s.data.toList).length)) ∧ Fr w' B 5 1 (.slice q' (n + (tput s.data.toList).length) (n + (tput s.data.toList).length)) (n + (tput s.data.toList).length) ((l ++ tput s.data.toList).map bv) ∧ Below w.heap.size w w' := by
  have hl : l.length = n := by have := hf.1; simpa using this
  refine (ptext_any q n n l s w hs hl (Nat.le_refl _) hm hf.rd ?_).mono ?_
  · obtain ⟨a, c', h1, _, _, _, h2⟩ := hf.shape
    rw [Value.slice.injEq] at h1
    obtain ⟨rfl, _, rfl⟩ := h1
    exact fun e => (h2 e).2
  · rintro e w' ⟨q', h1, h2, h3⟩
    exact ⟨q', h1, h2.mono hB, h3⟩
structure Props.Ok (p : Props) : Prop where
  line : p.line < 18446744073709551616
  many : p.many < 18446744073709551616
  low : p.low.size ≤ 100000
  high : p.high.size ≤ 100000
  least : p.least < 18446744073709551616
  greatest : p.greatest < 18446744073709551616
  early : p.early < 4294967296
  late : p.late < 4294967296
set_option maxRecDepth 100000 in
set_option maxHeartbeats 2000000 in
theorem pp_any (p : Props) (o : p.Ok) (w : World) :
    Calls Tryd.prog 21 #[.agg p.cells.toArray] w fun e w' => ∃ q, e = .returned (.slice q (ppB p).length (ppB p).length) ∧ Fr w' w.heap.size 5 1 (.slice q (ppB p).length (ppB p).length) (ppB p).length ((ppB p).map bv) ∧ Below w.heap.size w w' := by
  have hpp : ppB p = vput p.line ++ vput p.many ++ tput p.low.data.toList ++ tput p.high.data.toList ++ ([p.least, p.greatest, p.early, p.late].flatMap vput) := by simp [ppB]
  obtain ⟨R, hR⟩ : ∃ R, R = ppB p := ⟨_, rfl⟩
  rw [← hR] at hpp ⊢
  obtain ⟨line, many, low, high, least, greatest, early, late⟩ := p
  obtain ⟨o1, o2, o3, o4, o5, o6, o7, o8⟩ := o
  dsimp only at hpp o1 o2 o3 o4 o5 o6 o7 o8
  have HR := hid hpp
  have v1 := (vput_len line).2
  have v2 := (vput_len many).2
  have t1 : (tput low.data.toList).length ≤ 100010 := by rw [tput_len2, size_toList2]; have := (vput_len low.size).2; omega
  have t2 : (tput high.data.toList).length ≤ 100010 := by rw [tput_len2, size_toList2]; have := (vput_len high.size).2; omega
  clear hpp hR
  unfold Props.cells
  dsimp only
  go_enter Tryd.func21, Tryd.ntmps21
  go_upto_region 1 with (fail)
  obtain ⟨P, hP⟩ : ∃ P, P = w.heap.size := ⟨_, rfl⟩
  have hba : (w.alloc (.cells #[.int .u64 (line : Int), .int .u64 (many : Int), .string low, .string high, .int .u64 (least : Int), .int .u64 (greatest : Int), .int .u32 (early : Int), .int .u32 (late : Int)] 30)).heap[w.heap.size]? = some (.cells #[.int .u64 (line : Int), .int .u64 (many : Int), .string low, .string high, .int .u64 (least : Int), .int .u64 (greatest : Int), .int .u32 (early : Int), .int .u32 (late : Int)] 30 (0, 0)) := heap_alloc_new _ _
  generalize hwa : w.alloc (.cells #[.int .u64 (line : Int), .int .u64 (many : Int), .string low, .string high, .int .u64 (least : Int), .int .u64 (greatest : Int), .int .u32 (early : Int), .int .u32 (late : Int)] 30) = wa at hba
  have hBa : Below w.heap.size w wa := by rw [← hwa]; exact (Below.refl _ _).alloc (Nat.le_refl _) _
  have hPl := lt_of_block hba
  have HS : Hid (∀ w', Below wa.heap.size wa w' → w'.cell? ⟨w.heap.size, 0, none⟩ = some (.int .u64 (line : Int)) ∧ w'.cell? ⟨w.heap.size, 1, none⟩ = some (.int .u64 (many : Int)) ∧ w'.cell? ⟨w.heap.size, 2, none⟩ = some (.string low) ∧ w'.cell? ⟨w.heap.size, 3, none⟩ = some (.string high) ∧ w'.cell? ⟨w.heap.size, 4, none⟩ = some (.int .u64 (least : Int)) ∧ w'.cell? ⟨w.heap.size, 5, none⟩ = some (.int .u64 (greatest : Int)) ∧ w'.cell? ⟨w.heap.size, 6, none⟩ = some (.int .u32 (early : Int)) ∧ w'.cell? ⟨w.heap.size, 7, none⟩ = some (.int .u32 (late : Int))) := hid fun w' hb => by
    have h := (hb.block _ hPl).trans hba
    exact ⟨(cell_of_row w' _ _ _ _ _ h).trans rfl, (cell_of_row w' _ _ _ _ _ h).trans rfl, (cell_of_row w' _ _ _ _ _ h).trans rfl, (cell_of_row w' _ _ _ _ _ h).trans rfl, (cell_of_row w' _ _ _ _ _ h).trans rfl, (cell_of_row w' _ _ _ _ _ h).trans rfl, (cell_of_row w' _ _ _ _ _ h).trans rfl, (cell_of_row w' _ _ _ _ _ h).trans rfl⟩
  have HBa := hid hBa
  have hsa := hBa.size
  clear hba hwa hBa hP
  have HV1 := hid (fun w' => vput_any none 0 0 line [] w' o1 rfl (Nat.le_refl _) (by decide) (.inl rfl) (fun _ => rfl))
  simp only [Nat.zero_add, List.nil_append] at HV1
  obtain ⟨L1, hL1⟩ : ∃ L, L = (vput line).length := ⟨_, rfl⟩
  rw [← hL1] at HV1
  have hL1l : L1 ≤ 10 := by omega
  have HL1 := hid hL1
  clear hL1
  have HV2 := hid (fun (w' : World) (q : Option Addr) (hb : Below wa.heap.size wa w') (hf : Fr w' w.heap.size 5 1 (.slice q L1 L1) L1 ((vput line).map bv)) => vput_step w.heap.size L1 many q (vput line) w' o2 hf (Nat.le_trans hL1l (by decide)) (Nat.le_trans hsa hb.size))
  have HD := hid ((Below.refl wa.heap.size wa).drew)
  go_region_held3 (fun w' => w'.cell? ⟨w.heap.size, 0, none⟩ = some (.int .u64 (line : Int)) ∧ w'.cell? ⟨w.heap.size, 1, none⟩ = some (.int .u64 (many : Int))) (first | exact ⟨(HS.out _ HD.out).1, (HS.out _ HD.out).2.1⟩ | exact ⟨(HS.out _ HBx.out).1, (HS.out _ HBx.out).2.1⟩ | exact ⟨(HS.out _ HBy.out).1, (HS.out _ HBy.out).2.1⟩) ((first
    | (go_at_call 17; (with_reducible refine (HV1.out _).mono ?_); rintro e w2 ⟨q1, rfl, hf1, hb1⟩; have HBx := hid (HD.out.trans (hb1.mono (Nat.le_refl _))); have HF1 := hid (hf1.mono hsa); clear hf1 hb1)
    | (go_at_call 17; (with_reducible refine (HV2.out _ q1 HBx.out HF1.out).mono ?_); rintro e w3 ⟨q2, rfl, hf2, hb2⟩; have HBy := hid (HBx.out.trans (hb2.mono HBx.out.size)); have HF2 := hid hf2; clear hf2 hb2)))
  go_wp2_with fail
  obtain ⟨L2, hL2⟩ : ∃ L, L = L1 + (vput many).length := ⟨_, rfl⟩
  have hL2l : L2 ≤ 20 := by omega
  have hF2 := HF2.out
  rw [← hL2] at hF2 ⊢
  have HF2 := hid hF2
  clear hL2 hF2
  have hw3 : w.heap.size ≤ w3.heap.size := Nat.le_trans hsa HBy.out.size
  have HSy := hid (fun w' (hb : Below w3.heap.size w3 w') => HS.out w' (HBy.out.trans (hb.mono HBy.out.size)))
  have HDy := hid ((Below.refl w3.heap.size w3).drew)
  have HT1 := hid (fun (w' : World) (hb : Below w3.heap.size w3 w') => ptext_step w.heap.size L2 q2 (vput line ++ vput many) low w' (by omega) (HF2.out.below hb) (Nat.le_trans hL2l (by decide)) (Nat.le_trans hw3 hb.size))
  have hlow : L2 + (tput low.data.toList).length ≤ 4194304 := by omega
  have HT2 := hid (fun (w' : World) (q : Option Addr) (hb : Below w3.heap.size w3 w') (hf : Fr w' w.heap.size 5 1 (.slice q (L2 + (tput low.data.toList).length) (L2 + (tput low.data.toList).length)) (L2 + (tput low.data.toList).length) ((vput line ++ vput many ++ tput low.data.toList).map bv)) => ptext_step w.heap.size (L2 + (tput low.data.toList).length) q (vput line ++ vput many ++ tput low.data.toList) high w' (by omega) hf hlow (Nat.le_trans hw3 hb.size))
  go_region_held3 (fun w' => w'.cell? ⟨w.heap.size, 2, none⟩ = some (.string low) ∧ w'.cell? ⟨w.heap.size, 3, none⟩ = some (.string high)) (first | exact ⟨(HSy.out _ HDy.out).2.2.1, (HSy.out _ HDy.out).2.2.2.1⟩ | exact ⟨(HSy.out _ HBu.out).2.2.1, (HSy.out _ HBu.out).2.2.2.1⟩ | exact ⟨(HSy.out _ HBv.out).2.2.1, (HSy.out _ HBv.out).2.2.2.1⟩) ((first
    | (go_at_call 44; (with_reducible refine (HT1.out _ HDy.out).mono ?_); rintro e w4 ⟨q3, rfl, hf3, hb3⟩; have HBu := hid (HDy.out.trans (hb3.mono (Nat.le_refl _))); have HF3 := hid hf3; clear hf3 hb3)
    | (go_at_call 44; (with_reducible refine (HT2.out _ q3 HBu.out HF3.out).mono ?_); rintro e w5 ⟨q4, rfl, hf4, hb4⟩; have HBv := hid (HBu.out.trans (hb4.mono HBu.out.size)); have HF4 := hid hf4; clear hf4 hb4)))
  obtain ⟨L3, hL3⟩ : ∃ L, L = L2 + (tput low.data.toList).length + (tput high.data.toList).length := ⟨_, rfl⟩
  have hL3l : L3 ≤ 200040 := by omega
  have hF4 := HF4.out
  rw [← hL3] at hF4
  rw [← hL3]
  have HF4 := hid hF4
  obtain ⟨_, _, _, _, e4, e5, e6, e7⟩ := HSy.out _ HBv.out
  have HB5 := hid ((HBa.out.trans (HBy.out.mono hsa)).trans (HBv.out.mono (by have := HBy.out.size; omega)))
  have hs5 := HB5.out.size
  obtain ⟨base, hbase⟩ : ∃ l, l = vput line ++ vput many ++ tput low.data.toList ++ tput high.data.toList := ⟨_, rfl⟩
  have HR2 := HR.out
  rw [← hbase] at HR2
  have hF4 := HF4.out
  rw [← hbase] at hF4
  have hbl : base.length = L3 := by have := hF4.1; simpa using this
  obtain ⟨nums, hnums⟩ : ∃ l : List Nat, l = [least, greatest, early, late] := ⟨_, rfl⟩
  rw [← hnums] at HR2
  have hno : ∀ j, (h : j < nums.length) → nums[j] < 18446744073709551616 := by
    rw [hnums]; intro j h
    match j, h with
    | 0, _ => exact o5
    | 1, _ => exact o6
    | 2, _ => simp; omega
    | 3, _ => simp; omega
  have hnl : nums.length = 4 := by rw [hnums]; rfl
  have hnc : ∀ w', Below (w5.heap.size + 1) (w5.alloc (.cells #[.int .u64 (least : Int), .int .u64 (greatest : Int), .int .u64 (early : Int), .int .u64 (late : Int)] 22)) w' → ∀ j, (h : j < nums.length) → w'.cell? ⟨w5.heap.size, j, none⟩ = some (.int .u64 (nums[j] : Int)) := by
    intro w' hb j h
    have hh := (hb.block w5.heap.size (by omega)).trans (heap_alloc_new w5 _)
    rw [cell_of_row _ _ _ _ _ _ hh]
    subst hnums
    match j, h with
    | 0, _ => rfl
    | 1, _ => rfl
    | 2, _ => rfl
    | 3, _ => rfl
  have HFf := hid hF4
  have HRR := hid HR2
  have Hno := hid hno
  have Hnl := hid hnl
  have Hnc := hid hnc
  have Hbl := hid hbl
  have z1 : (early : Int) % 18446744073709551616 = (early : Int) := by omega
  have z2 : (late : Int) % 18446744073709551616 = (late : Int) := by omega
  clear hL3 hF4 HR2 hbase hnums hno hnl hnc hbl
  go_wp2_with fail
  clear z1 z2 e4 e5 e6 e7
  go_loopw [3, 31] (fun v i wr => ∃ (k : Nat) (q : Option Addr) (M : Nat), k ≤ 4 ∧ i = .int .i64 (k : Int) ∧ v = .slice q M M ∧ M = L3 + ((nums.take k).flatMap vput).length ∧ Fr wr w.heap.size 5 1 (.slice q M M) M ((base ++ (nums.take k).flatMap vput).map bv) ∧
      Below (w5.heap.size + 1) (w5.alloc (.cells #[.int .u64 (least : Int), .int .u64 (greatest : Int), .int .u64 (early : Int), .int .u64 (late : Int)] 22)) wr) (fun _ i _ => 4 - (intOf i).toNat)
  case atStart => exact ⟨0, q4, L3, by omega, rfl, rfl, by simp, by simpa using HFf.out.below ((Below.refl _ _).alloc (Nat.le_refl _) _), Below.refl _ _⟩
  case round =>
    obtain ⟨k, q, M, hk, rfl, rfl, hM, hf, hB⟩ := hrel
    have Hf := hid hf
    have HB := hid hB
    have hbs := hB.size
    rw [World.size_alloc] at hbs
    have hMl : M ≤ 200100 := by
      rw [hM]
      have : ((nums.take k).flatMap vput).length ≤ 40 := by
        have h1 := flat_vput (nums.take k)
        have h2 : (nums.take k).length ≤ 4 := by rw [List.length_take]; omega
        omega
      omega
    have HM := hid hM
    clear hf hB hM
    by_cases hlt : k < 4
    · have hkl : k < nums.length := by rw [Hnl.out]; exact hlt
      have hc := Hnc.out _ HB.out k hkl
      have hno := Hno.out k hkl
      obtain ⟨N, hN⟩ : ∃ N, N = nums[k] := ⟨_, rfl⟩
      rw [← hN] at hc hno
      have HN := hid hN
      have i0 : (0 : Int) ≤ (k : Int) := by omega
      have i1 : (k : Int) < 4 := by omega
      clear hN
      go_wp2_with fail
      refine (vput_step w.heap.size M N q (base ++ (nums.take k).flatMap vput) wr hno Hf.out (by omega) (by omega)).mono ?_
      rintro e w6 ⟨q6, rfl, hf6, hb6⟩
      have HF6 := hid hf6
      have HB6 := hid (HB.out.trans (hb6.mono hbs))
      clear hf6 hb6 hc
      go_wp2_with fail
      go_roundw
      case rel =>
        refine ⟨k + 1, q6, M + (vput N).length, by omega, by go_num, rfl, ?_, ?_, HB6.out⟩
        · rw [List.take_succ_eq_append_getElem hkl, ← HN.out, List.flatMap_append, List.length_append, HM.out]; simp; omega
        · rw [List.take_succ_eq_append_getElem hkl, ← HN.out, List.flatMap_append, ← List.append_assoc]; simpa using HF6.out
      case measure => simp [intOf]; omega
    · obtain rfl : k = 4 := by omega
      have htk : nums.take 4 = nums := List.take_of_length_le (by rw [Hnl.out]; exact Nat.le_refl _)
      have hf := Hf.out
      have hM := HM.out
      rw [htk] at hf hM
      rw [← HRR.out] at hf
      have hRl : R.length = M := by rw [HRR.out, List.length_append, hM, Hbl.out]
      have HRl := hid hRl
      have Hf2 := hid hf
      clear hf hM htk hRl
      go_wp2_with fail
      go_ret
      refine ⟨q, by rw [HRl.out]; rfl, by rw [HRl.out]; exact Hf2.out, (HB5.out.alloc hs5 _).trans (HB.out.mono (by omega))⟩
end Go.Proofs.Herb
