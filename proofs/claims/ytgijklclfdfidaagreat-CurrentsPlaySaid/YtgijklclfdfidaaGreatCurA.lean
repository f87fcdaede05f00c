/- The contracts of a pointer's parts: big, content, there, none. For a disk as DiskAt says. -/
import Derived.Test.YtgijklclfdfidaaGreatCurP
import Derived.Test.YtgijklclfdfidaaGreatSums
import Derived.Test.YtgijklclfdfidaaGreatDskM
import Derived.Test.YtgijklclfdfidaaGreatCrr
namespace Go.Proofs.Herb
open Go.RowKit Go.Sort
abbrev kC : ByteArray := ⟨#[99]⟩
abbrev kD : ByteArray := ⟨#[100]⟩
theorem below_on {B : Nat} {a w w' : World} (h : Below B a w) (hB : B ≤ a.heap.size) (k : Below w.heap.size w w') : Below B a w' := h.trans (k.mono (Nat.le_trans hB h.size))
theorem keysOf {s : DS} {n : Nat} (h : DsOk s n) (hn : n ≤ 1000000000) : DirKeys s.names s.nclock := h.good.keysOk (Nat.le_trans h.files hn) hn
theorem own_congr {w : World} {base : Nat} {e : TypeId} {k : Nat} {v : Value} {n n' : Nat} {xs ys : List Value} (h : w.ownsRow base e k v n xs) (hn : n = n') (hx : xs = ys) : w.ownsRow base e k v n' ys := by subst hn; subst hx; exact h
theorem sorted_many {s : DS} {n : Nat} (h : DsOk s n) : (sortedK s.names).length ≤ n := by rw [sortedK_len]; exact h.good.many
theorem big_step {n many j : Nat} (hj : j < many) : ((bigL n many).take (j + 1)).map bv = ((bigL n many).take j).map bv ++ [.int .u8 ((n : Int) / 2 ^ (8 * (many - 1 - j)) % 256)] := by
  rw [List.take_succ_eq_append_getElem (by rw [bigL_len]; exact hj), List.map_append]
  congr 1
  simp only [bigL, List.getElem_map, List.getElem_range, List.map_cons, List.map_nil, bv, UInt8.toNat_ofNat']
  rw [show 256 ^ (many - 1 - j) = 2 ^ (8 * (many - 1 - j)) from by rw [Nat.pow_mul]]
  simp
set_option maxRecDepth 100000 in
set_option maxHeartbeats 3200000 in
theorem big_any (n : Nat) (_hn : n < 18446744073709551616) (many : Nat) (hm : many = 8 ∨ many = 4) (w : World) :
    Calls Tryz.prog 64 #[.int .u64 (n : Int), .int .i64 (many : Int)] w fun e w' => ∃ v, e = .returned v ∧ w'.ownsRow w.heap.size 5 1 v many ((bigL n many).map bv) ∧ Below w.heap.size w w' := by
  go_enter Tryz.func64, Tryz.ntmps64
  go_wp2_with fail
  go_loopw [4, 7] (fun v i wr => ∃ j : Nat, i = .int .i64 j ∧ j ≤ many ∧ wr.ownsRow w.heap.size 5 1 v j (((bigL n many).take j).map bv) ∧ Below w.heap.size w wr) (fun _ i _ => many - (intOf i).toNat)
  case atStart => exact ⟨0, rfl, Nat.zero_le _, World.ownsRow_nil _ _ _ _, Below.refl _ _⟩
  case round =>
    obtain ⟨j, rfl, hj, hown, hb⟩ := hrel
    have HO := hid hown
    have HB := hid hb
    obtain ⟨q, c, rfl, hqc, hcm, hqn⟩ := own_shape hown
    clear hown hb
    by_cases hlt : j < many
    · have m8 : (many : Int) ≤ 8 := by omega
      have i0 : (0 : Int) ≤ (many : Int) - 1 - (j : Int) := by omega
      have HM := hid hm
      clear hm
      go_wp2_with (refine wpList_append_rd rfl (.tmp 10) (.tmp 19) 32 rfl w.heap.size 5 _ 1 1 Tryz.underlying32 infoU8 rfl (by decide) (.slice q _ c) _ _ rfl (own_below HO.out ((Below.refl wr.heap.size wr).alloc (Nat.le_refl _) _)) (some ⟨wr.heap.size, 0, none⟩) 1 1 _ rfl (fun h => by cases h) rfl (Rd.new _ _ _) (by simp [Value.oneCell']) (by unfold maxLen; omega) (by omega) (by simp; have := HB.out.size; omega) ?_; intro v3 w3 hown3 hg3 _)
      have HG := hid hg3
      have HW := hid hown3
      clear hg3 hown3
      go_roundw
      case rel => exact ⟨j + 1, by go_num, by omega, own_congr HW.out rfl (big_step hlt).symm, (HB.out.alloc HB.out.size _).grown HG.out (by simp; have := HB.out.size; omega) (fun k hk => (HO.out.lt k hk).1)⟩
      case measure => simp [intOf]; omega
    · have hjN : j = many := by omega
      have ho := HO.out
      rw [hjN, List.take_of_length_le (by rw [bigL_len]; exact Nat.le_refl _)] at ho
      rw [hjN]
      have HO := hid ho
      clear ho
      go_wp2_with fail
      go_ret
      exact ⟨_, rfl, HO.out, HB.out⟩
set_option maxRecDepth 100000 in
set_option maxHeartbeats 800000 in
theorem content_any (n : Nat) (hn : n < 18446744073709551616) (w : World) :
    Calls Tryz.prog 31 #[.int .u64 (n : Int)] w fun e w' => ∃ q c, e = .returned (.slice q 12 c) ∧ 12 ≤ c ∧ c ≤ maxLen ∧ Fr w' w.heap.size 5 1 (.slice q 12 c) 12 ((contentL n).map bv) ∧ Below w.heap.size w w' := by
  have hlt := (crcMore 0 (bigL n 8)).isLt
  obtain ⟨C, hC⟩ : ∃ C, C = (crcMore 0 (bigL n 8)).toNat := ⟨_, rfl⟩
  rw [← hC] at hlt
  have HC := hid hC
  clear hC
  go_enter Tryz.func31, Tryz.ntmps31
  go_wp2_with fail
  refine (big_any n hn 8 (.inl rfl) w).mono ?_
  rintro e w1 ⟨v1, rfl, hv1, hb1⟩
  obtain ⟨q1, c1, rfl, _, _, _⟩ := own_shape hv1
  have HV1 := hid hv1
  have HB1 := hid hb1
  clear hv1 hb1
  go_wp2_with fail
  refine (of_any q1 8 c1 (bigL n 8) w1 (bigL_len n 8) (by decide) (Fr.of_own HV1.out).rd).mono ?_
  rintro e w2 ⟨rfl, hb2⟩
  rw [← HC.out]
  have HV1 := hid (own_below HV1.out hb2)
  have HB1 := hid (below_on HB1.out (Nat.le_refl _) hb2)
  clear hb2
  go_wp2_with fail
  refine (big_any C (by omega) 4 (.inr rfl) w2).mono ?_
  rintro e w3 ⟨v3, rfl, hv3, hb3⟩
  obtain ⟨q3, c3, rfl, hc3, _, hq3⟩ := own_shape hv3
  have HV1 := hid (own_below HV1.out hb3)
  have HB1 := hid (below_on HB1.out (Nat.le_refl _) hb3)
  have HV3 := hid hv3
  clear hv3 hb3
  go_wp2_with (refine wpList_append_rd rfl (.tmp 6) (.tmp 10) 32 rfl w.heap.size 5 _ 1 1 Tryz.underlying32 infoU8 rfl (by decide) (.slice q1 8 c1) 8 ((bigL n 8).map bv) rfl HV1.out q3 4 c3 ((bigL C 4).map bv) rfl hq3 (by simp [bigL_len]) (Fr.of_own HV3.out).rd bv_one (by unfold maxLen; decide) (by decide) HB1.out.size ?_; intro v4 w4 hown4 hg4 _; obtain ⟨q4, c4, rfl, _, _, _⟩ := own_shape hown4; have HO4 := hid hown4; have HG4 := hid hg4; clear hown4 hg4)
  go_ret
  obtain ⟨_, _, he, hc, hcm, _⟩ := own_shape HO4.out
  cases he
  refine ⟨q4, c4, rfl, hc, hcm, ?_, HB1.out.grown HG4.out HB1.out.size (fun k hk => (HV1.out.lt k hk).1)⟩
  have h4 := HO4.out
  rw [← List.map_append, HC.out] at h4
  exact Fr.of_own h4
set_option maxRecDepth 100000 in
set_option maxHeartbeats 800000 in
theorem index_any (q : Option Addr) (n c : Nat) (ls : List (List UInt8)) (k : ByteArray) (w : World) (hn : ls.length = n) (hm : n ≤ 4611686018427387904) (hr : Rd w q (ls.map encStr)) :
    Calls Tryz.prog 78 #[.slice q n c, .string k] w fun e w' => ∃ r : Int, e = .returned (.int .i64 r) ∧ (0 ≤ r ↔ k ∈ ls.map ofL) ∧ w = w' := by
  have Hn := hid hn
  have Hr := hid hr
  clear hn hr
  go_enter Tryz.func78, Tryz.ntmps78
  go_wp2_with fail
  go_loop [8] (fun i => ∃ j : Nat, j ≤ n ∧ i = .int .i64 j ∧ k ∉ (ls.take j).map ofL) (fun i => n - (intOf i).toNat)
  case atStart => exact ⟨0, Nat.zero_le _, rfl, by simp⟩
  case round =>
    obtain ⟨j, hj, rfl, hk⟩ := hrel
    have HK := hid hk
    clear hk
    by_cases hlt : j < n
    · have hjl : j < ls.length := by rw [Hn.out]; exact hlt
      obtain ⟨b, off, rfl, hc⟩ := Hr.out.cell (k := j) (by simpa using hjl)
      rw [List.getElem_map] at hc
      obtain ⟨p, hp⟩ : ∃ p : ByteArray, p = ofL ls[j] := ⟨_, rfl⟩
      have hc' : w.cell? ⟨b, off + j, none⟩ = some (.string p) := by rw [hc, hp]; rfl
      have HP := hid hp
      have i0 : (0 : Int) ≤ (j : Int) := by omega
      have i1 : (j : Int) < (n : Int) := by omega
      clear hc hp
      by_cases hpk : k = p
      · have hbb := seq hpk
        have hin : k ∈ ls.map ofL := by
          rw [hpk, HP.out]
          exact List.mem_map.2 ⟨_, List.getElem_mem hjl, rfl⟩
        have HI := hid hin
        clear hin hpk
        go_wp2_with fail
        go_ret
        exact ⟨(j : Int), rfl, ⟨fun _ => List.mem_map.1 HI.out, fun _ => i0⟩, rfl⟩
      · have hbb := sne hpk
        have hnin : k ∉ (ls.take (j + 1)).map ofL := by
          rw [List.take_succ_eq_append_getElem hjl, List.map_append, List.mem_append, not_or]
          refine ⟨HK.out, ?_⟩
          rw [List.map_singleton, List.mem_singleton, ← HP.out]
          exact hpk
        have HI := hid hnin
        clear hnin hpk
        go_wp2_with fail
        go_round
        case rel => exact ⟨j + 1, by omega, by go_num, HI.out⟩
        case measure => simp [intOf]; omega
    · have hin : k ∉ ls.map ofL := by
        have := HK.out
        rw [List.take_of_length_le (by rw [Hn.out]; omega)] at this
        exact this
      have HI := hid hin
      clear hin
      go_wp2_with fail
      go_ret
      exact ⟨-1, rfl, ⟨fun h => absurd h (by decide), fun h => absurd (List.mem_map.2 h) HI.out⟩, rfl⟩
theorem contains_any (q : Option Addr) (n c : Nat) (ls : List (List UInt8)) (k : ByteArray) (w : World) (hn : ls.length = n) (hm : n ≤ 4611686018427387904) (hr : Rd w q (ls.map encStr)) :
    Calls Tryz.prog 68 #[.slice q n c, .string k] w fun e w' => ∃ b : Bool, e = .returned (.bool b) ∧ (b = true ↔ k ∈ ls.map ofL) ∧ w = w' := by
  have H := hid (index_any q n c ls k w hn hm hr)
  clear hn hm hr
  go_enter Tryz.func68, Tryz.ntmps68
  go_wp2_with fail
  refine H.out.mono ?_
  rintro e w' ⟨r, rfl, hr, rfl⟩
  have HR := hid hr
  clear hr
  go_wp2_with fail
  go_ret
  exact ⟨decide (0 ≤ r), rfl, by rw [decide_eq_true_iff]; exact HR.out, rfl⟩
theorem thereC_any (m : DM) (s : DS) (n : Nat) (k : ByteArray) (w : World) (h : DiskAt w m s) (o : DsOk s n) (hn : n ≤ 1000000000) :
    Calls Tryz.prog 36 #[.pointer (some ⟨m.D, 0, none⟩), .string k] w fun e w' => e = .returned (.bool (look s.names k).isSome) ∧ Below w.heap.size w w' := by
  have hl := list_any m s w h (keysOf o hn)
  have HL := hid hl
  have hm := sorted_many o
  obtain ⟨N, hN⟩ : ∃ N, N = (sortedK s.names).length := ⟨_, rfl⟩
  have HN := hid hN
  rw [← hN] at hm
  clear hl h o hN
  go_enter Tryz.func36, Tryz.ntmps36
  go_wp2_with fail
  refine HL.out.mono ?_
  rintro e w1 ⟨q, rfl, hF, hB⟩
  rw [← HN.out] at hF ⊢
  have HF := hid hF
  have HB := hid hB
  clear hF hB
  go_wp2_with fail
  refine (contains_any q N N (sortedK s.names) k w1 HN.out.symm (by omega) HF.out.rd).mono ?_
  rintro e w' ⟨B, rfl, hB2, rfl⟩
  obtain rfl : B = (look s.names k).isSome := by rw [Bool.eq_iff_iff, hB2]; exact mem_sortedK
  clear hB2
  go_wp2_with fail
  go_ret
  exact ⟨rfl, HB.out⟩
theorem foundE_two (s : DS) (k : ByteArray) : (foundE s k == 2) = false := by
  unfold foundE
  split
  · split <;> decide
  · decide
theorem noneC_any (m : DM) (s : DS) (n : Nat) (w : World) (h : DiskAt w m s) (o : DsOk s n) :
    Calls Tryz.prog 27 #[.pointer (some ⟨m.D, 0, none⟩)] w fun e w' => e = .returned (.bool false) ∧ Below w.heap.size w w' := by
  have hl := loose_any m s kC (by unfold maxLen; decide) w h o.good.ok o.sure
  have HL := hid hl
  have hz := foundE_two s kC
  clear hl h o
  go_enter Tryz.func27, Tryz.ntmps27
  go_wp2_with fail
  refine HL.out.mono ?_
  rintro e w1 ⟨rfl, hB⟩
  have HB := hid hB
  clear hB
  go_wp2_with fail
  go_ret
  exact ⟨rfl, HB.out⟩
end Go.Proofs.Herb
