/- The contracts of the laws' copied and kept at bytes, of TwinBytes and LeftBytes. For slices that can be read, of 2^47 bytes at most. -/
import Derived.Test.YtancpdhinocbnaaGreatDoorSlc
namespace Go.Proofs.Herb
open Go.RowKit
set_option maxRecDepth 100000 in
set_option maxHeartbeats 400000 in
theorem copied_bytes (a : Option Addr) (n c : Nat) (m : UInt8) (l : List UInt8) (w : World) (hn : l.length = n) (hm : n ≤ 140737488355328) (hr : Rd w a (l.map bv)) :
    Calls Tryz.prog 79 #[.slice a n c, .int .u8 (m.toNat : Int)] w fun e w' => ∃ g, e = .returned (.slice (some ⟨g, 0, none⟩) n (n + 2)) ∧ w.heap.size ≤ g ∧ w'.heap[g]? = some (.cells ((l ++ [m, m]).map bv).toArray 5 (0, 0)) ∧ Below w.heap.size w w' := by
  have Hn := hid hn
  have Hr := hid hr
  clear hn hr
  obtain ⟨i0, hi, hz0, hz1, hz2⟩ := info_parts infoU8
  go_enter Tryz.func79, Tryz.ntmps79
  go_wp2_with (at_make; refine wpList_make_full _ rfl (.tmp 9) (.tmp 9) 31 rfl w.heap.size 5 i0 (.int .u8 0) 1 Tryz.underlying31 hi hz0 hz1 _ _ _ _ (n + 2) rfl rfl (by omega) (by omega) (by rw [hz2]; omega) (by unfold maxLen; omega) (Nat.le_refl _) ?_; intro w1 hown hg)
  have hz := hg.size
  have hB : Below w.heap.size w w1 := (Below.refl _ _).grown hg (Nat.le_refl _) (fun k e => by cases e)
  have hcur : ∃ cur, w1.heap[w.heap.size]? = some (.cells cur 5 (0, 0)) ∧ cur.size = n + 2 := by
    rcases hown.2 with ⟨e, _⟩ | ⟨g, cap, cur, e, _, hh, _, _, hs, _⟩
    · cases e
    · simp at e; obtain ⟨rfl, rfl⟩ := e; exact ⟨cur, hh, by omega⟩
  clear hown hg
  have hlen : ((l ++ [m, m]).map bv).length = n + 2 := by have := Hn.out; simp; omega
  have Hlen := hid hlen
  clear hlen
  go_loopw [6] (fun i wr => ∃ k : Nat, k ≤ n + 2 ∧ i = .int .i64 k ∧ ∃ cur, wr.heap[w.heap.size]? = some (.cells cur 5 (0, 0)) ∧ cur.size = n + 2 ∧ (∀ j, j < k → cur[j]? = ((l ++ [m, m]).map bv)[j]?) ∧ Below w.heap.size w wr)
    (fun i _ => n + 2 - (intOf i).toNat)
  case atStart =>
    obtain ⟨cur, h1, h2⟩ := hcur
    exact ⟨0, by omega, rfl, cur, h1, h2, fun j hj => by omega, hB⟩
  case round =>
    clear hcur hB
    obtain ⟨k, hk, rfl, cur, hc, hs, ht, hb⟩ := hrel
    have Hb := hid hb
    have Ht := hid ht
    have Hs := hid hs
    have Hc := hid hc
    clear hb ht hs
    by_cases hlt : k < n + 2
    · have hcell : wr.cell? ⟨w.heap.size, k, none⟩ = some (cur[k]'(by have := Hs.out; omega)) := by rw [cell_of_row _ _ _ _ _ _ hc]; simp
      have hfr : wr.frozen? ⟨w.heap.size, k, none⟩ = false := frozen_of_row _ _ _ _ _ hc
      clear hc
      by_cases hkn : k < n
      · obtain ⟨b, off, rfl, hbl, hca⟩ := Hr.out.cellB Hb.out (k := k) (by simp; have := Hn.out; omega)
        rw [List.getElem_map] at hca
        unfold bv at hca
        go_wp2
        clear hcell hfr hca
        go_roundw
        case rel =>
          refine ⟨k + 1, by omega, by go_num, _, heap_setCell_same _ _ _ _ _ _ (heap_setCell_same _ _ _ _ _ _ Hc.out), by simp [Hs.out], ?_, (Hb.out.setCell (Nat.le_refl _) _).setCell (Nat.le_refl _) _⟩
          intro j hj
          by_cases hjk : j = k
          · subst hjk; have := Hs.out; have := Hn.out; rw [Array.getElem?_setIfInBounds_self_of_lt (by simp; omega), List.map_append, List.getElem?_append_left (by simp; omega), List.getElem?_eq_getElem (by simp; omega), List.getElem_map]; rfl
          · rw [Array.getElem?_setIfInBounds_ne (by omega), Array.getElem?_setIfInBounds_ne (by omega)]; exact Ht.out j (by omega)
        case measure => simp [intOf]; omega
      · go_wp2
        clear hcell hfr
        go_roundw
        case rel =>
          refine ⟨k + 1, by omega, by go_num, _, heap_setCell_same _ _ _ _ _ _ Hc.out, by simp [Hs.out], ?_, Hb.out.setCell (Nat.le_refl _) _⟩
          intro j hj
          by_cases hjk : j = k
          · subst hjk; have := Hs.out; have := Hn.out; rw [Array.getElem?_setIfInBounds_self_of_lt (by omega), List.map_append, List.getElem?_append_right (by simp; omega), List.length_map]
            rcases (show j - l.length = 0 ∨ j - l.length = 1 by omega) with h | h <;> rw [h] <;> rfl
          · rw [Array.getElem?_setIfInBounds_ne (by omega)]; exact Ht.out j (by omega)
        case measure => simp [intOf]; omega
    · obtain rfl : k = n + 2 := by omega
      go_wp2
      go_ret
      refine ⟨_, rfl, Nat.le_refl _, ?_, Hb.out⟩
      have e : cur = ((l ++ [m, m]).map bv).toArray := by
        apply Array.ext_getElem?
        intro j
        have := Hs.out; have := Hlen.out
        by_cases hj : j < n + 2
        · rw [Ht.out j hj]; simp
        · rw [Array.getElem?_eq_none (by omega), Array.getElem?_eq_none (by simp at *; omega)]
      rw [← e]; exact Hc.out
set_option maxRecDepth 100000 in
set_option maxHeartbeats 800000 in
theorem kept_bytes (a : Option Addr) (g n c : Nat) (m : UInt8) (l : List UInt8) (w : World) (hn : l.length = n) (_hm : n ≤ 140737488355328) (hr : Rd w a (l.map bv))
    (hg : w.heap[g]? = some (.cells ((l ++ [m, m]).map bv).toArray 5 (0, 0))) :
    Calls Tryz.prog 82 #[.slice (some ⟨g, 0, none⟩) n (n + 2), .slice a n c, .int .u8 (m.toNat : Int)] w fun e w' => e = .returned (.bool true) ∧ Below w.heap.size w w' := by
  have Hn := hid hn
  have Hr := hid hr
  have Hg := hid hg
  have hgl := lt_of_block hg
  clear hn hr hg
  have hnn : (((n : Int)) != (n : Int)) = false := by simp
  have hnn2 : (((n : Int) + 2) != ((n : Int) + 2)) = false := by simp
  go_enter Tryz.func82, Tryz.ntmps82
  go_wp2
  go_loopw [8] (fun i wr => ∃ j : Nat, j ≤ n + 2 ∧ i = .int .i64 j ∧ Below w.heap.size w wr)
    (fun i _ => n + 2 - (intOf i).toNat)
  case atStart => exact ⟨0, by omega, rfl, Below.refl _ _⟩
  case round =>
    obtain ⟨j, hj1, rfl, hb⟩ := hrel
    have Hb := hid hb
    clear hb
    by_cases hjn : j < n + 2
    · have i1 : (0 : Int) ≤ (j : Int) := by omega
      have i2 : (j : Int) < (n : Int) + 2 := by omega
      have hct : wr.cell? ⟨g, j, none⟩ = (((l ++ [m, m]).map bv))[j]? := by rw [Hb.out.cell (p := ⟨g, j, none⟩) hgl, cell_of_row _ _ _ _ _ _ Hg.out]; simp
      by_cases hjm : j < n
      · obtain ⟨b, off, rfl, hbl, hc⟩ := Hr.out.cellB Hb.out (k := j) (by simp; have := Hn.out; omega)
        rw [List.map_append, List.getElem?_append_left (by simp; have := Hn.out; omega), List.getElem?_eq_getElem (by simp; have := Hn.out; omega)] at hct
        rw [List.getElem_map] at hc hct
        have i3 : (j : Int) < (n : Int) := by omega
        generalize l[j]'(by have := Hn.out; omega) = p at hc hct
        have hpp : ((p.toNat : Int) != (p.toNat : Int)) = false := by simp
        have hd1 : decide (j < n) = true := by simp; omega
        have hd2 : decide (n ≤ j) = false := by simp; omega
        unfold bv at hc hct
        go_wp2
        go_quiet (fail)
        go_wp2
        go_roundw
        case rel => exact ⟨j + 1, by omega, by go_num, below_drewN Hb.out _⟩
        case measure => simp [intOf]; omega
      · have hpp : ((m.toNat : Int) != (m.toNat : Int)) = false := by simp
        have hd1 : decide (j < n) = false := by simp; omega
        have hd2 : decide (n ≤ j) = true := by simp; omega
        have hct' : wr.cell? ⟨g, j, none⟩ = some (.int .u8 (m.toNat : Int)) := by
          rw [hct, List.map_append, List.getElem?_append_right (by simp; have := Hn.out; omega), List.length_map, Hn.out]
          rcases (show j - n = 0 ∨ j - n = 1 by omega) with h | h <;> rw [h] <;> rfl
        clear hct
        go_wp2
        go_quiet (fail)
        go_wp2
        go_roundw
        case rel => exact ⟨j + 1, by omega, by go_num, below_drewN Hb.out _⟩
        case measure => simp [intOf]; omega
    · go_wp2
      go_ret
      exact ⟨rfl, Hb.out⟩
end Go.Proofs.Herb
namespace Go.Proofs.Herb
open Go.RowKit
theorem twinB_any (a : Option Addr) (n c : Nat) (l : List UInt8) (w : World) (hn : l.length = n) (hm : n ≤ 140737488355328) (hr : Rd w a (l.map bv)) :
    Calls Tryz.prog 54 #[.slice a n c] w fun e w' => ∃ g, e = .returned (.slice (some ⟨g, 0, none⟩) n (n + 2)) ∧ w.heap.size ≤ g ∧ w'.heap[g]? = some (.cells ((l ++ [90, 90]).map bv).toArray 5 (0, 0)) ∧ Below w.heap.size w w' := by
  have H := hid (copied_bytes a n c 90 l w hn hm hr)
  clear hn hr
  go_enter Tryz.func54, Tryz.ntmps54
  go_wp2_with (go_at_call 79; refine H.out.mono ?_; rintro e w1 ⟨g, rfl, hg, hh, hb⟩; have HH := hid hh; clear hh)
  go_ret
  exact ⟨g, rfl, hg, HH.out, hb⟩
theorem leftB_any (a : Option Addr) (g n c : Nat) (l : List UInt8) (w : World) (hn : l.length = n) (hm : n ≤ 140737488355328) (hr : Rd w a (l.map bv)) (hg : w.heap[g]? = some (.cells ((l ++ [90, 90]).map bv).toArray 5 (0, 0))) :
    Calls Tryz.prog 66 #[.slice (some ⟨g, 0, none⟩) n (n + 2), .slice a n c] w fun e w' => e = .returned (.bool true) ∧ Below w.heap.size w w' := by
  have H := hid (kept_bytes a g n c 90 l w hn hm hr hg)
  clear hn hr hg
  go_enter Tryz.func66, Tryz.ntmps66
  go_wp2_with (go_at_call 82; refine H.out.mono ?_; rintro e w1 ⟨rfl, hb⟩)
  go_ret
  exact ⟨rfl, hb⟩
theorem twin_rd {w : World} {g : Nat} {l : List UInt8} (h : w.heap[g]? = some (.cells ((l ++ [90, 90]).map bv).toArray 5 (0, 0))) : Rd w (some ⟨g, 0, none⟩) (l.map bv) := by
  refine .inr ⟨g, 0, rfl, fun j u hj => ?_⟩
  rw [cell_of_row w g (0 + j) _ _ _ h, Nat.zero_add]
  have hl : j < l.length := by have := (List.getElem?_eq_some_iff.1 hj).1; simpa using this
  simp only [List.map_append, List.getElem?_toArray]
  rw [List.getElem?_append_left (by simpa using hl)]
  exact hj
end Go.Proofs.Herb
