
/- The reference of chapters 17 and 19: Find, Within, Same, has. For lists that can be read. -/
import Derived.Test.YtnkkfdlmcpnokaaUap
namespace Go.Proofs.Herb
open Go.RowKit
def fV : Option Fact → Value
  | some f => .agg #[.string f.key, .int .u32 (f.valid : Int), .int .u64 (f.seq : Int), .int .u64 (f.line : Int), .int .u8 (f.kind : Int), .string f.val]
  | none => .agg #[.string ⟨#[]⟩, .int .u32 0, .int .u64 0, .int .u64 0, .int .u8 0, .string ⟨#[]⟩]
theorem findF_take {l : List Fact} {k : ByteArray} {v j : Nat} (hj : j < l.length) : findF (l.take (j + 1)) k v = (findF (l.take j) k v).or (if l[j].key = k ∧ l[j].valid = v then some l[j] else none) := by
  rw [List.take_succ_eq_append_getElem hj, findF_snoc]
theorem findF_pre {l : List Fact} {k : ByteArray} {v j : Nat} {f : Fact} (h : findF (l.take j) k v = some f) : findF l k v = some f := by
  conv => lhs; rw [← List.take_append_drop j l]
  rw [findF_append, h]; rfl
theorem ne_text {a b : ByteArray} (h : a ≠ b) : (a.toList == b.toList) = false := beq_eq_false_iff_ne.2 fun e => h (ba_eq (by rw [← ByteArray.toList_eq, ← ByteArray.toList_eq]; exact e))
theorem eq_text (a : ByteArray) : (a.toList == a.toList) = true := beq_self_eq_true _
theorem infoFc2 : (Try.prog.info? 42).map (·.size) = some 6 := by kernel_rfl
theorem results_fact {fn : Func} (h : fn.results = #[.cell 6 42, .tmp 7]) (tmps : Array Value) (w : World) (X : Nat) (cs : Array Value) (hp : tmps.getD 6 undef = .pointer (some ⟨X, 0, none⟩)) (hg : w.heap[X]? = some (.cells cs 42 (0, 0))) (hs : cs.size = 6) :
    (results fn tmps).run Try.prog w = .ok (.tuple #[.agg cs, tmps.getD 7 undef]) w := by
  have hl := run_loadVar_row (P := Try.prog) w X 42 42 cs (0, 0) _ hg Try.underlying42 rfl (by rw [hs]; exact infoFc2)
  rw [results_cell_tmp h, hp]
  simp [asAddr, hl]
set_option maxRecDepth 100000 in
set_option maxHeartbeats 4000000 in
theorem find_any (q : Option Addr) (n c : Nat) (l : List Fact) (k : ByteArray) (v : Nat) (w : World) (hn : l.length = n) (hm : n ≤ 1000000) (hr : Rd w q (fCells l)) :
    Calls Try.prog 42 #[.slice q n c, .string k, .int .u32 (v : Int)] w fun e w' => e = .returned (.tuple #[fV (findF l k v), .bool (findF l k v).isSome]) ∧ Below w.heap.size w w' := by
  obtain ⟨X, hX⟩ : ∃ X, w.heap.size = X := ⟨_, rfl⟩
  obtain ⟨w1, hw1⟩ : ∃ w1, w.alloc (.cells #[.string ⟨#[]⟩, .int .u32 0, .int .u64 0, .int .u64 0, .int .u8 0, .string ⟨#[]⟩] 42) = w1 := ⟨_, rfl⟩
  have HB1 : Hid (Below w.heap.size w w1) := by show Below _ _ _; rw [← hw1]; exact (Below.refl _ _).alloc (Nat.le_refl _) _
  have HX1 : Hid (w1.heap[X]? = some (.cells #[.string ⟨#[]⟩, .int .u32 0, .int .u64 0, .int .u64 0, .int .u8 0, .string ⟨#[]⟩] 42 (0, 0))) := by show _ = _; rw [← hw1, ← hX]; exact World.alloc_heap_new _ _
  have HN := hid hn
  have HR := hid (hr.below HB1.out)
  clear hn hr
  go_enter Try.func42, Try.ntmps42
  go_wp2
  clear hw1
  have HXX := hid hX
  clear hX
  go_loopw [8] (fun i wr => ∃ j : Nat, j ≤ n ∧ i = .int .i64 (j : Int) ∧ Hid (findF (l.take j) k v = none) ∧ wr = w1) (fun i _ => n - (intOf i).toNat)
  case atStart => exact ⟨0, Nat.zero_le _, rfl, rfl, rfl⟩
  case round =>
    obtain ⟨j, hj, rfl, HF, rfl⟩ := hrel
    by_cases hlt : j < n
    · have hjl : j < l.length := by rw [HN.out]; exact hlt
      obtain ⟨b, off, rfl, hb, hf⟩ := fact_at HR.out (j := j) hjl
      have ht := findF_take (k := k) (v := v) hjl
      rw [HF.out, Option.none_or] at ht
      obtain ⟨f, hfe⟩ : ∃ f, l[j] = f := ⟨_, rfl⟩
      rw [hfe] at hf ht
      obtain ⟨c0, c1, c2, c3, c4, c5⟩ := hf
      have i0 : (0 : Int) ≤ (j : Int) := by omega
      have i1 : (j : Int) < (n : Int) := by omega
      clear hfe
      by_cases he : f.key = k
      · have hbe : (f.key.toList == k.toList) = true := by rw [he]; exact eq_text _
        by_cases hv : f.valid = v
        · rw [if_pos ⟨he, hv⟩] at ht
          have HE := hid (findF_pre ht)
          have hvi : (f.valid : Int) = (v : Int) := by omega
          have HV := hid hv
          clear ht he hv
          go_wp2_with (refine wpList_store_block rfl 42 (.tmp 6) (.tmp 34) rfl X _ _ #[.string f.key, .int .u32 (v : Int), .int .u64 (f.seq : Int), .int .u64 (f.line : Int), .int .u8 (f.kind : Int), .string f.val] rfl rfl HX1.out rfl (by kernel_rfl) (by simp [Value.oneCell']) ?_)
          refine bodyPost_ret (results_fact rfl _ _ X _ rfl (setRow_heap _ _ _ _ _ _ HX1.out) rfl) rfl ?_
          refine ⟨?_, below_setRow HB1.out (by rw [HXX.out]; exact Nat.le_refl _) _⟩
          rw [HE.out]
          show _ = Ending.returned (.tuple #[fV (some f), _])
          rw [fV, HV.out]
          rfl
        · rw [if_neg (fun h => hv h.2)] at ht
          have HT := hid ht
          have hvi : ¬ (f.valid : Int) = (v : Int) := by omega
          clear ht he hv
          go_wp2
          go_roundw
          case rel => exact ⟨j + 1, by omega, by go_num, HT, trivial⟩
          case measure => simp [intOf]; omega
      · have hne := ne_text he
        rw [if_neg (fun h => he h.1)] at ht
        have HT := hid ht
        clear ht he
        go_wp2
        go_roundw
        case rel => exact ⟨j + 1, by omega, by go_num, HT, trivial⟩
        case measure => simp [intOf]; omega
    · obtain rfl : j = n := by omega
      have HE : Hid (findF l k v = none) := by
        have := HF.out
        rw [← HN.out, List.take_length] at this
        exact this
      go_wp2_with (refine wpList_store_block rfl 42 (.tmp 6) (.tmp 35) rfl X _ _ #[.string ⟨#[]⟩, .int .u32 0, .int .u64 0, .int .u64 0, .int .u8 0, .string ⟨#[]⟩] rfl rfl HX1.out rfl (by kernel_rfl) (by simp [Value.oneCell']) ?_)
      refine bodyPost_ret (results_fact rfl _ _ X _ rfl (setRow_heap _ _ _ _ _ _ HX1.out) rfl) rfl ?_
      refine ⟨?_, below_setRow HB1.out (by rw [HXX.out]; exact Nat.le_refl _) _⟩
      rw [HE.out]
      rfl
end Go.Proofs.Herb
