
/- The law's over: a list with changes laid ahead of it. -/
import Derived.Test.YtnkkfdlmcpnokaaUap
namespace Go.Proofs.Herb
open Go.RowKit
set_option maxRecDepth 100000 in
set_option maxHeartbeats 8000000 in
theorem over_any (q p : Option Addr) (n c m d : Nat) (l : List Fact) (C : List Chg) (w : World) (hn : l.length = n) (hm : C.length = m) (bn : n ≤ 400000) (bm : m ≤ 400000) (h1 : Rd w q (fCells l)) (h2 : Rd w p (cgCells C)) :
    Calls Try.prog 13 #[.slice q n c, .slice p m d] w fun e w' => ∃ q' c', e = .returned (.slice q' (m + n) c') ∧ Rd w' q' (fCells (overF l C)) ∧ Below w.heap.size w w' := by
  have HN := hid hn
  have HM := hid hm
  have H1 := hid h1
  have H2 := hid h2
  clear hn hm h1 h2
  go_enter Try.func13, Try.ntmps13
  go_wp2
  go_loopw [5, 6] (fun v i wr => ∃ (j : Nat) (qa : Option Addr) (ca : Nat), j ≤ m ∧ i = .int .i64 (j : Int) ∧ v = .slice qa j ca ∧ Hid (wr.ownsRow w.heap.size 42 6 (.slice qa j ca) j (fCells ((C.take j).map cgF))) ∧ Hid (Below w.heap.size w wr)) (fun _ i _ => m - (intOf i).toNat)
  case atStart => exact ⟨0, none, 0, Nat.zero_le _, rfl, rfl, World.ownsRow_nil _ _ _ _, Below.refl _ _⟩
  case round =>
    obtain ⟨j, qa, ca, hj, rfl, rfl, HO, HB⟩ := hrel
    have hsw := HB.out.size
    by_cases hlt : j < m
    · have hjl : j < C.length := by rw [HM.out]; exact hlt
      obtain ⟨b2, o2, rfl, g0, g1, g2, g3⟩ := cg_at (H2.out.below HB.out) (j := j) hjl
      have ht : C.take (j + 1) = C.take j ++ [C[j]] := List.take_succ_eq_append_getElem hjl
      obtain ⟨x, hx⟩ : ∃ x, C[j] = x := ⟨_, rfl⟩
      rw [hx] at g0 g1 g2 g3 ht
      have HT : Hid ((C.take (j + 1)).map cgF = (C.take j).map cgF ++ [cgF x]) := by show _ = _; rw [ht, List.map_append]; rfl
      have i0 : (0 : Int) ≤ (j : Int) := by omega
      have i1 : (j : Int) < (m : Int) := by omega
      clear ht hx hjl
      go_upto_region 5 with fail
      have HA : Hid (Below wr.heap.size wr (wr.drew.alloc (.cells #[.string x.key, .int .u32 (x.valid : Int), .int .u64 0, .int .u64 0, .int .u8 (x.kind : Int), .string x.val] 42))) := (below_drew (Below.refl _ _)).alloc (Nat.le_refl _) _
      have HRN : Hid (Rd (wr.drew.alloc (.cells #[.string x.key, .int .u32 (x.valid : Int), .int .u64 0, .int .u64 0, .int .u8 (x.kind : Int), .string x.val] 42)) (some ⟨wr.heap.size, 0, none⟩) (fCells [cgF x])) := Rd.new wr.drew (fCells [cgF x]) _
      go_region_law (refine stepF rfl (.tmp 13) (.tmp 35) rfl w.heap.size qa j ca ((C.take j).map cgF) rfl (own_below HO.out HA.out) (some ⟨wr.heap.size, 0, none⟩) 1 1 [cgF x] rfl rfl HRN.out (by omega) (Nat.le_trans hsw HA.out.size) ?_; intro q6 c6 w6 hown6 hb6; have HO6 := hid hown6; have HB6 := hid ((HB.out.trans (HA.out.mono hsw)).trans hb6); clear hown6 hb6)
      all_goals
        go_wp2
        go_roundw
        case rel => exact ⟨j + 1, q6, c6, by omega, by go_num, rfl, by rw [HT.out]; exact HO6, HB6⟩
        case measure => simp [intOf]; omega
    · obtain rfl : j = m := by omega
      have e1 : C.take j = C := by rw [← HM.out]; exact List.take_length
      rw [e1] at HO
      have HR := hid (H1.out.below HB.out)
      clear e1
      go_wp2_with (at_builtin; refine listF rfl _ _ rfl w.heap.size qa j ca (C.map cgF) rfl HO.out q n c l rfl HN.out HR.out (by omega) hsw ?_; intro q6 c6 w6 hown6 hb6; have HO6 := hid hown6; have HB6 := hid (HB.out.trans hb6); clear hown6 hb6)
      go_ret
      exact ⟨q6, c6, rfl, (Fr.of_own HO6.out).rd, HB6.out⟩
end Go.Proofs.Herb
