/- The contracts of slices.Clip and Clone at bytes, and of the laws' copied, equal and kept. For slices that can be read. -/
import Derived.Test.YtklhnncjgkbelaaProg
import Derived.WalkLawsBesides
import Derived.WalkSpells
import Derived.Outline
import Derived.Deep.LoopGhost
import Derived.Deep.QuietTactic
import Derived.Deep.DeepCutAuto
import Derived.BigQuiet
import Derived.Test.YtklhnncjgkbelaaBase2
namespace Go.Proofs.Herb
open Go.RowKit
theorem infoU8 : (Try.prog.info? 5).map (fun i => (i.zero, i.size, i.bytes)) = some (some (.int .u8 0), 1, 1) := by kernel_rfl
set_option maxHeartbeats 400000 in
theorem clip_bytes (a : Option Addr) (n c : Nat) (w : World) (hn : n ≤ c) (_hc : c ≤ maxLen) :
    Calls Try.prog 30 #[.slice a n c] w fun e w' => e = .returned (.slice a n n) ∧ w = w' := by
  unfold maxLen at _hc
  go_enter Try.func30, Try.ntmps30
  go_wp2
  go_ret
  exact ⟨rfl, rfl⟩
set_option maxRecDepth 100000 in
set_option maxHeartbeats 400000 in
theorem clone_bytes (a : Option Addr) (n c : Nat) (l : List UInt8) (w : World) (hn : l.length = n) (hc : n ≤ c) (hm : n ≤ 4194304) (hr : Rd w a (l.map bv)) (ha : a = none → c = 0) :
    Calls Try.prog 31 #[.slice a n c] w fun e w' => ∃ v, e = .returned v ∧ Fr w' w.heap.size 5 1 v n (l.map bv) ∧ Below w.heap.size w w' := by
  have heq := fun (w : World) (a : Option Addr) (n c : Nat) => Lib.run_eql_slice_nil (P := Try.prog) w 22 5 a n c 0 0 Try.underlying22
  cases a with
  | none =>
    have Hr := hid hr
    clear hr
    obtain rfl := ha rfl
    obtain rfl : n = 0 := by omega
    go_enter Try.func31, Try.ntmps31
    go_wp2
    go_ret
    exact ⟨_, rfl, ⟨by simp [hn], .inl ⟨rfl, rfl⟩⟩, Below.refl _ _⟩
  | some ad =>
    have Hr := hid hr
    have Hn := hid hn
    clear hr hn ha
    go_enter Try.func31, Try.ntmps31
    go_wp2_with (refine wpList_append_rd rfl (.tmp 5) (.tmp 6) 22 rfl w.heap.size 5 _ 1 1 Try.underlying22 infoU8 rfl (by decide) (.slice (some ⟨w.heap.size, 0, none⟩) 0 0) 0 [] rfl (World.ownsRow_made w #[] 0 (Nat.le_refl _) (by decide) rfl) _ n c (l.map bv) rfl (fun h => by cases h) (by have := Hn.out; simp; omega) (Hr.out.alloc _) bv_one (by unfold maxLen; omega) (by omega) (by simp) ?_; intro v' w1 hown hg hnil)
    go_ret
    refine ⟨_, rfl, Fr.of_own (by simpa using hown), ?_⟩
    exact ((Below.refl _ _).alloc (Nat.le_refl _) _).grown hg (by simp) (by simp [Value.ownBlock])
set_option maxRecDepth 100000 in
set_option maxHeartbeats 400000 in
theorem copied_bytes (a : Option Addr) (n c : Nat) (m : UInt8) (l : List UInt8) (w : World) (hn : l.length = n) (hm : n ≤ 4194304) (hr : Rd w a (l.map bv)) :
    Calls Try.prog 26 #[.slice a n c, .int .u8 (m.toNat : Int)] w fun e w' => ∃ g, e = .returned (.slice (some ⟨g, 0, none⟩) n (n + 2)) ∧ w.heap.size ≤ g ∧ w'.heap[g]? = some (.cells ((l ++ [m, m]).map bv).toArray 5 (0, 0)) ∧ Below w.heap.size w w' := by
  have Hn := hid hn
  have Hr := hid hr
  clear hn hr
  obtain ⟨i0, hi, hz0, hz1, hz2⟩ := info_parts infoU8
  go_enter Try.func26, Try.ntmps26
  go_wp2_with (at_make; refine wpList_make_full _ rfl (.tmp 9) (.tmp 9) 22 rfl w.heap.size 5 i0 (.int .u8 0) 1 Try.underlying22 hi hz0 hz1 _ _ _ _ (n + 2) rfl rfl (by omega) (by omega) (by rw [hz2]; omega) (by unfold maxLen; omega) (Nat.le_refl _) ?_; intro w1 hown hg)
  have hz := hg.size
  have hB : Below w.heap.size w w1 := (Below.refl _ _).grown hg (Nat.le_refl _) (fun k e => by cases e)
  have hcur : ∃ cur, w1.heap[w.heap.size]? = some (.cells cur 5 (0, 0)) ∧ cur.size = n + 2 := by
    rcases hown.2 with ⟨e, _⟩ | ⟨g, cap, cur, e, _, hh, _, _, hs, _⟩
    · cases e
    · simp at e; obtain ⟨rfl, rfl⟩ := e; exact ⟨cur, hh, by omega⟩
  clear hown hg
  have hlen : ((l ++ [m, m]).map bv).length = n + 2 := by have := Hn.out; simp; omega
  have Hlen := hid hlen
  clear hlen
  go_loopw [6] (fun i wr => ∃ k : Nat, k ≤ n + 2 ∧ i = .int .i64 k ∧ ∃ cur, wr.heap[w.heap.size]? = some (.cells cur 5 (0, 0)) ∧ cur.size = n + 2 ∧ (∀ j, j < k → cur[j]? = ((l ++ [m, m]).map bv)[j]?) ∧ Below w.heap.size w wr)
    (fun i _ => n + 2 - (intOf i).toNat)
  case atStart =>
    obtain ⟨cur, h1, h2⟩ := hcur
    exact ⟨0, by omega, rfl, cur, h1, h2, fun j hj => by omega, hB⟩
  case round =>
    clear hcur hB
    obtain ⟨k, hk, rfl, cur, hc, hs, ht, hb⟩ := hrel
    have Hb := hid hb
    have Ht := hid ht
    have Hs := hid hs
    have Hc := hid hc
    clear hb ht hs
    by_cases hlt : k < n + 2
    · have hcell : wr.cell? ⟨w.heap.size, k, none⟩ = some (cur[k]'(by have := Hs.out; omega)) := by rw [cell_of_row _ _ _ _ _ _ hc]; simp
      have hfr : wr.frozen? ⟨w.heap.size, k, none⟩ = false := frozen_of_row _ _ _ _ _ hc
      clear hc
      by_cases hkn : k < n
      · obtain ⟨b, off, rfl, hbl, hca⟩ := Hr.out.cellB Hb.out (k := k) (by simp; have := Hn.out; omega)
        rw [List.getElem_map] at hca
        unfold bv at hca
        go_wp2
        clear hcell hfr hca
        go_roundw
        case rel =>
          refine ⟨k + 1, by omega, by go_num, _, heap_setCell_same _ _ _ _ _ _ (heap_setCell_same _ _ _ _ _ _ Hc.out), by simp [Hs.out], ?_, (Hb.out.setCell (Nat.le_refl _) _).setCell (Nat.le_refl _) _⟩
          intro j hj
          by_cases hjk : j = k
          · subst hjk; have := Hs.out; have := Hn.out; rw [Array.getElem?_setIfInBounds_self_of_lt (by simp; omega), List.map_append, List.getElem?_append_left (by simp; omega), List.getElem?_eq_getElem (by simp; omega), List.getElem_map]; rfl
          · rw [Array.getElem?_setIfInBounds_ne (by omega), Array.getElem?_setIfInBounds_ne (by omega)]; exact Ht.out j (by omega)
        case measure => simp [intOf]; omega
      · go_wp2
        clear hcell hfr
        go_roundw
        case rel =>
          refine ⟨k + 1, by omega, by go_num, _, heap_setCell_same _ _ _ _ _ _ Hc.out, by simp [Hs.out], ?_, Hb.out.setCell (Nat.le_refl _) _⟩
          intro j hj
          by_cases hjk : j = k
          · subst hjk; have := Hs.out; have := Hn.out; rw [Array.getElem?_setIfInBounds_self_of_lt (by omega), List.map_append, List.getElem?_append_right (by simp; omega), List.length_map]
            rcases (show j - l.length = 0 ∨ j - l.length = 1 by omega) with h | h <;> rw [h] <;> rfl
          · rw [Array.getElem?_setIfInBounds_ne (by omega)]; exact Ht.out j (by omega)
        case measure => simp [intOf]; omega
    · obtain rfl : k = n + 2 := by omega
      go_wp2
      go_ret
      refine ⟨_, rfl, Nat.le_refl _, ?_, Hb.out⟩
      have e : cur = ((l ++ [m, m]).map bv).toArray := by
        apply Array.ext_getElem?
        intro j
        have := Hs.out; have := Hlen.out
        by_cases hj : j < n + 2
        · rw [Ht.out j hj]; simp
        · rw [Array.getElem?_eq_none (by omega), Array.getElem?_eq_none (by simp at *; omega)]
      rw [← e]; exact Hc.out
set_option maxRecDepth 100000 in
set_option maxHeartbeats 400000 in
theorem equal_bytes (a b : Option Addr) (n c m d : Nat) (l k : List UInt8) (w : World) (hn : l.length = n) (hm : k.length = m) (_hn' : n ≤ 4611686018427387904) (_hm' : m ≤ 4611686018427387904) (hr : Rd w a (l.map bv)) (hs : Rd w b (k.map bv)) :
    Calls Try.prog 32 #[.slice a n c, .slice b m d] w fun e w' => e = .returned (.bool (l == k)) ∧ Below w.heap.size w w' := by
  have Hn := hid hn
  have Hm := hid hm
  have Hr := hid hr
  have Hs := hid hs
  clear hn hr hm hs
  go_enter Try.func32, Try.ntmps32
  go_wp2
  go_loopw [5] (fun i wr => ∃ j : Nat, j ≤ n ∧ j ≤ m ∧ i = .int .i64 j ∧ l.take j = k.take j ∧ Below w.heap.size w wr)
    (fun i _ => n - (intOf i).toNat)
  case atStart => exact ⟨0, by omega, by omega, rfl, rfl, Below.refl _ _⟩
  case round =>
    obtain ⟨j, hj1, hj2, rfl, he, hb⟩ := hrel
    have He := hid he
    have Hb := hid hb
    clear he hb
    by_cases hjn : j < n
    · by_cases hjm : j < m
      · obtain ⟨b1, o1, rfl, hb1, hc1⟩ := Hr.out.cellB Hb.out (k := j) (by simp; have := Hn.out; omega)
        obtain ⟨b2, o2, rfl, hb2, hc2⟩ := Hs.out.cellB Hb.out (k := j) (by simp; have := Hm.out; omega)
        have i1 : (0 : Int) ≤ (j : Int) := by omega
        have i2 : (j : Int) < (n : Int) := by omega
        have i3 : (j : Int) < (m : Int) := by omega
        rw [List.getElem_map] at hc1 hc2
        obtain ⟨p, hp⟩ : ∃ p, p = l[j]'(by have := Hn.out; omega) := ⟨_, rfl⟩
        obtain ⟨q, hq⟩ : ∃ q, q = k[j]'(by have := Hm.out; omega) := ⟨_, rfl⟩
        rw [← hp] at hc1
        rw [← hq] at hc2
        unfold bv at hc1 hc2
        have Hp := hid hp
        have Hq := hid hq
        clear hp hq
        by_cases hpq : p = q
        · subst hpq
          have hbb : (((p.toNat : Int)) != (p.toNat : Int)) = false := by simp
          go_wp2
          go_quiet (fail)
          go_wp2
          go_roundw
          case rel => exact ⟨j + 1, by omega, by omega, by go_num, eq_round _ _ _ He.out (by have := Hn.out; omega) (by have := Hm.out; omega) (Hp.out.symm.trans Hq.out), below_drewN Hb.out _⟩
          case measure => simp [intOf]; omega
        · have hbb : (((p.toNat : Int)) != (q.toNat : Int)) = true := by rw [bne_iff_ne]; intro h; exact hpq (UInt8.toNat_inj.1 (by omega))
          go_wp2
          go_quiet (fail)
          go_wp2
          go_ret
          refine ⟨?_, below_drewN Hb.out _⟩
          rw [eq_not l k j (by have := Hn.out; omega) (by have := Hm.out; omega) (by rw [← Hp.out, ← Hq.out]; exact hpq)]
          rfl
      · go_wp2
        go_ret
        refine ⟨?_, Hb.out⟩
        rw [← eq_end l k j He.out (by have := Hn.out; omega) (by have := Hm.out; omega) (by have := Hm.out; omega), Hn.out, Hm.out]; rfl
    · go_wp2
      go_ret
      refine ⟨?_, Hb.out⟩
      rw [← eq_end l k j He.out (by have := Hn.out; omega) (by have := Hm.out; omega) (by have := Hn.out; omega), Hn.out, Hm.out]; rfl
set_option maxRecDepth 100000 in
set_option maxHeartbeats 800000 in
theorem kept_bytes (a : Option Addr) (g n c : Nat) (m : UInt8) (l : List UInt8) (w : World) (hn : l.length = n) (_hm : n ≤ 4194304) (hr : Rd w a (l.map bv))
    (hg : w.heap[g]? = some (.cells ((l ++ [m, m]).map bv).toArray 5 (0, 0))) :
    Calls Try.prog 33 #[.slice (some ⟨g, 0, none⟩) n (n + 2), .slice a n c, .int .u8 (m.toNat : Int)] w fun e w' => e = .returned (.bool true) ∧ Below w.heap.size w w' := by
  have Hn := hid hn
  have Hr := hid hr
  have Hg := hid hg
  have hgl := lt_of_block hg
  clear hn hr hg
  have hnn : (((n : Int)) != (n : Int)) = false := by simp
  have hnn2 : (((n : Int) + 2) != ((n : Int) + 2)) = false := by simp
  go_enter Try.func33, Try.ntmps33
  go_wp2
  go_loopw [8] (fun i wr => ∃ j : Nat, j ≤ n + 2 ∧ i = .int .i64 j ∧ Below w.heap.size w wr)
    (fun i _ => n + 2 - (intOf i).toNat)
  case atStart => exact ⟨0, by omega, rfl, Below.refl _ _⟩
  case round =>
    obtain ⟨j, hj1, rfl, hb⟩ := hrel
    have Hb := hid hb
    clear hb
    by_cases hjn : j < n + 2
    · have i1 : (0 : Int) ≤ (j : Int) := by omega
      have i2 : (j : Int) < (n : Int) + 2 := by omega
      have hct : wr.cell? ⟨g, j, none⟩ = (((l ++ [m, m]).map bv))[j]? := by rw [Hb.out.cell (p := ⟨g, j, none⟩) hgl, cell_of_row _ _ _ _ _ _ Hg.out]; simp
      by_cases hjm : j < n
      · obtain ⟨b, off, rfl, hbl, hc⟩ := Hr.out.cellB Hb.out (k := j) (by simp; have := Hn.out; omega)
        rw [List.map_append, List.getElem?_append_left (by simp; have := Hn.out; omega), List.getElem?_eq_getElem (by simp; have := Hn.out; omega)] at hct
        rw [List.getElem_map] at hc hct
        have i3 : (j : Int) < (n : Int) := by omega
        generalize l[j]'(by have := Hn.out; omega) = p at hc hct
        have hpp : ((p.toNat : Int) != (p.toNat : Int)) = false := by simp
        have hd1 : decide (j < n) = true := by simp; omega
        have hd2 : decide (n ≤ j) = false := by simp; omega
        unfold bv at hc hct
        go_wp2
        go_quiet (fail)
        go_wp2
        go_roundw
        case rel => exact ⟨j + 1, by omega, by go_num, below_drewN Hb.out _⟩
        case measure => simp [intOf]; omega
      · have hpp : ((m.toNat : Int) != (m.toNat : Int)) = false := by simp
        have hd1 : decide (j < n) = false := by simp; omega
        have hd2 : decide (n ≤ j) = true := by simp; omega
        have hct' : wr.cell? ⟨g, j, none⟩ = some (.int .u8 (m.toNat : Int)) := by
          rw [hct, List.map_append, List.getElem?_append_right (by simp; have := Hn.out; omega), List.length_map, Hn.out]
          rcases (show j - n = 0 ∨ j - n = 1 by omega) with h | h <;> rw [h] <;> rfl
        clear hct
        go_wp2
        go_quiet (fail)
        go_wp2
        go_roundw
        case rel => exact ⟨j + 1, by omega, by go_num, below_drewN Hb.out _⟩
        case measure => simp [intOf]; omega
    · go_wp2
      go_ret
      exact ⟨rfl, Hb.out⟩
end Go.Proofs.Herb
