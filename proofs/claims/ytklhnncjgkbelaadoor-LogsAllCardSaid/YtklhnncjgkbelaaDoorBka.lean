/- The Book's sheets of bytes: the contracts of their paint, spill and clean. For slices whose rows stand in memory. -/
import Derived.Test.YtklhnncjgkbelaaDoorBase2
import Derived.Deep.Cut
import Derived.BigQuiet
import Derived.Test.YtklhnncjgkbelaaDoorProg
namespace Go.Proofs.Herb
open Go.RowKit
attribute [local go_sem] Oper.semAt_some
/-- a sheet of bytes: its slice, its mark -/
structure Sh where
  q : Option Addr
  n : Nat
  c : Nat
  m : Nat
def Sh.sl (s : Sh) : Value := .slice s.q s.n s.c
def Sh.agg (s : Sh) : Value := .agg #[.slice s.q s.n s.c, .int .u8 (s.m : Int)]
def Sh.v (s : Sh) : Value := .iface 81 s.agg
def Sh.blk (s : Sh) : Option Nat := s.q.map (·.block)
/-- a sheet's row stands in memory, and so many of its first cells bear its mark -/
def ShRow (w : World) (s : Sh) (k : Nat) : Prop :=
  s.n ≤ s.c ∧ s.c ≤ maxLen ∧ s.m < 256 ∧ (s.q = none ∧ s.c = 0 ∨ ∃ g cur, s.q = some ⟨g, 0, none⟩ ∧ w.heap[g]? = some (.cells cur 5 (0, 0)) ∧ s.c ≤ cur.size ∧ ∀ i, i < k → cur[i]? = some (.int .u8 (s.m : Int)))
theorem ShRow.kept {w w' : World} {s : Sh} {k : Nat} {ex : Option Nat} (h : ShRow w s k) (hg : w.grownBy w' ex) (hne : ∀ g, s.blk = some g → ex ≠ some g) : ShRow w' s k := by
  obtain ⟨h1, h2, h3, h4⟩ := h
  refine ⟨h1, h2, h3, ?_⟩
  rcases h4 with h4 | ⟨g, cur, e1, e2, e3, e4⟩
  · exact .inl h4
  · exact .inr ⟨g, cur, e1, (hg.block g (Array.getElem?_eq_some_iff.1 e2).1 (fun e => hne g (by unfold Sh.blk; rw [e1]; rfl) e.symm)).trans e2, e3, e4⟩
theorem ShRow.less {w : World} {s : Sh} {k j : Nat} (h : ShRow w s k) (hj : j ≤ k) : ShRow w s j := by
  obtain ⟨h1, h2, h3, h4⟩ := h
  refine ⟨h1, h2, h3, ?_⟩
  rcases h4 with h4 | ⟨g, cur, e1, e2, e3, e4⟩
  · exact .inl h4
  · exact .inr ⟨g, cur, e1, e2, e3, fun i hi => e4 i (by omega)⟩
theorem grownBy_at (W : World) (b k : Nat) (v : Value) : W.grownBy (W.setCell ⟨b, k, none⟩ v) (some b) :=
  ⟨rfl, rfl, rfl, by simp [World.setCell], fun i _ hne => Below.heap_setCell _ _ _ _ (fun e => hne (by rw [e]))⟩
theorem set_marks {cur : Array Value} {v : Value} {k c : Nat} (hs : c ≤ cur.size) (hk : k < c) (h : ∀ i, i < k → cur[i]? = some v) : c ≤ (cur.setIfInBounds k v).size ∧ ∀ i, i < k + 1 → (cur.setIfInBounds k v)[i]? = some v := by
  refine ⟨by simpa using hs, fun i hi => ?_⟩
  rw [Array.getElem?_setIfInBounds]
  by_cases e : k = i
  · rw [if_pos e, if_pos (by omega)]
  · rw [if_neg e]; exact h i (by omega)
theorem store_mark {w0 wr : World} {g k c X : Nat} {cur box : Array Value} {v : Value} {t : TypeId} (hg : wr.heap[g]? = some (.cells cur 5 (0, 0))) (hs : c ≤ cur.size) (hk : k < c) (h : ∀ i, i < k → cur[i]? = some v)
    (hX : wr.heap[X]? = some (.cells box t (0, 0))) (ht : t ≠ 5) (hb : w0.grownBy wr (some g)) :
    (∃ cur', (wr.setCell ⟨g, k, none⟩ v).heap[g]? = some (.cells cur' 5 (0, 0)) ∧ c ≤ cur'.size ∧ ∀ i, i < k + 1 → cur'[i]? = some v) ∧ (wr.setCell ⟨g, k, none⟩ v).heap[X]? = some (.cells box t (0, 0)) ∧ w0.grownBy (wr.setCell ⟨g, k, none⟩ v) (some g) := by
  obtain ⟨s1, s2⟩ := set_marks (v := v) hs hk h
  exact ⟨⟨_, heap_setCell_same _ _ k _ _ _ hg, s1, s2⟩, (heap_setCell_other _ _ _ _ (fun e => by subst e; rw [hg] at hX; cases hX; exact ht rfl)).trans hX, hb.trans (grownBy_at wr g k v)⟩
set_option maxRecDepth 100000 in
set_option maxHeartbeats 1000000 in
theorem paint_none (m : Nat) (w : World) :
    Calls Tryd.prog 88 #[.agg #[.slice none 0 0, .int .u8 (m : Int)]] w fun e w' => e = .returned (.tuple #[]) ∧ w.grownBy w' none := by
  go_enter Tryd.func88, Tryd.ntmps88
  go_wp2
  go_loopw [2] (fun i wr => i = .int .i64 0 ∧ wr.heap[w.heap.size]? = some (.cells #[.slice none 0 0, .int .u8 (m : Int)] 81 (0, 0)) ∧ w.grownBy wr none) (fun _ _ => 0)
  case atStart => exact ⟨rfl, heap_alloc_new _ _, World.grownBy_alloc _ _ _⟩
  case round =>
    obtain ⟨rfl, hX, hb⟩ := hrel
    have x0 : wr.cell? ⟨w.heap.size, 0, none⟩ = some (.slice none 0 0) := (cell_of_row _ _ 0 _ _ _ hX).trans rfl
    go_wp2
    go_end0
    exact ⟨rfl, hb⟩
set_option maxRecDepth 100000 in
set_option maxHeartbeats 1000000 in
theorem paint_row (g n c m : Nat) (cur : Array Value) (w : World) (hg : w.heap[g]? = some (.cells cur 5 (0, 0))) (hs : c ≤ cur.size) (hn : n ≤ c) (hc : c ≤ maxLen) :
    Calls Tryd.prog 88 #[.agg #[.slice (some ⟨g, 0, none⟩) n c, .int .u8 (m : Int)]] w fun e w' => e = .returned (.tuple #[]) ∧ (∃ cur', w'.heap[g]? = some (.cells cur' 5 (0, 0)) ∧ c ≤ cur'.size ∧ ∀ i, i < n → cur'[i]? = some (.int .u8 (m : Int))) ∧ w.grownBy w' (some g) := by
  unfold maxLen at hc
  have HG := hid hg
  clear hg
  go_enter Tryd.func88, Tryd.ntmps88
  go_wp2
  go_loopw [2] (fun i wr => ∃ k : Nat, k ≤ n ∧ i = .int .i64 (k : Int) ∧ (∃ cur', wr.heap[g]? = some (.cells cur' 5 (0, 0)) ∧ c ≤ cur'.size ∧ ∀ i, i < k → cur'[i]? = some (.int .u8 (m : Int))) ∧ wr.heap[w.heap.size]? = some (.cells #[.slice (some ⟨g, 0, none⟩) n c, .int .u8 (m : Int)] 81 (0, 0)) ∧ w.grownBy wr (some g)) (fun i _ => n - (intOf i).toNat)
  case atStart => exact ⟨0, Nat.zero_le _, rfl, ⟨cur, (Below.heap_alloc _ _ _ (Array.getElem?_eq_some_iff.1 HG.out).1).trans HG.out, hs, fun i hi => absurd hi (Nat.not_lt_zero _)⟩, heap_alloc_new _ _, World.grownBy_alloc _ _ _⟩
  case round =>
    obtain ⟨k, hk, rfl, ⟨cur', h1, h2, h3⟩, hX, hb⟩ := hrel
    have x0 : wr.cell? ⟨w.heap.size, 0, none⟩ = some (.slice (some ⟨g, 0, none⟩) n c) := (cell_of_row _ _ 0 _ _ _ hX).trans rfl
    have x1 : wr.cell? ⟨w.heap.size, 1, none⟩ = some (.int .u8 (m : Int)) := (cell_of_row _ _ 1 _ _ _ hX).trans rfl
    by_cases hlt : k < n
    · have HS := hid (store_mark h1 h2 (show k < c by omega) h3 hX (by decide) hb)
      obtain ⟨u, hu⟩ : ∃ u, wr.cell? ⟨g, k, none⟩ = some u := ⟨_, (cell_of_row _ _ k _ _ _ h1).trans (Array.getElem?_eq_getElem (by omega))⟩
      have f0 : wr.frozen? ⟨g, k, none⟩ = false := frozen_of_row _ _ _ _ _ h1
      have i0 : (0 : Int) ≤ (k : Int) := by omega
      have i1 : (k : Int) < (n : Int) := by omega
      clear h1 h3 hX hb
      go_wp2
      obtain ⟨s1, s2, s3⟩ := HS.out
      go_roundw
      case rel => exact ⟨k + 1, by omega, by go_num, s1, s2, s3⟩
      case measure => simp [intOf]; omega
    · obtain rfl : k = n := by omega
      have H3 := hid h3
      have H1 := hid h1
      have HB := hid hb
      clear h3 h1 hb hX
      go_wp2
      go_end0
      exact ⟨rfl, ⟨cur', H1.out, h2, H3.out⟩, HB.out⟩
set_option maxRecDepth 100000 in
set_option maxHeartbeats 1000000 in
theorem spill_none (m : Nat) (w : World) :
    Calls Tryd.prog 89 #[.agg #[.slice none 0 0, .int .u8 (m : Int)]] w fun e w' => e = .returned (.tuple #[]) ∧ w.grownBy w' none := by
  go_enter Tryd.func89, Tryd.ntmps89
  have hX := heap_alloc_new w (.cells #[.slice none 0 0, .int .u8 (m : Int)] 81)
  have hb := World.grownBy_alloc w (.cells #[.slice none 0 0, .int .u8 (m : Int)] 81) none
  obtain ⟨w1, hw1⟩ : ∃ x, x = w.alloc (.cells #[.slice none 0 0, .int .u8 (m : Int)] 81) := ⟨_, rfl⟩
  rw [← hw1] at hX hb
  have x0 : w1.cell? ⟨w.heap.size, 0, none⟩ = some (.slice none 0 0) := (cell_of_row _ _ 0 _ _ _ hX).trans rfl
  have HW := hid hw1
  have HX := hid hX
  clear hX hw1
  go_upto_region 1 with (fail)
  rw [← HW.out]
  go_wp2
  go_loopw [3] (fun i wr => i = .int .i64 0 ∧ w.grownBy wr none) (fun _ _ => 0)
  case atStart => exact ⟨rfl, hb⟩
  case round =>
    obtain ⟨rfl, hb⟩ := hrel
    go_wp2
    go_end0
    exact ⟨rfl, hb⟩
set_option maxRecDepth 100000 in
set_option maxHeartbeats 1000000 in
theorem spill_row (g n c m : Nat) (cur : Array Value) (w : World) (hg : w.heap[g]? = some (.cells cur 5 (0, 0))) (hs : c ≤ cur.size) (hn : n ≤ c) (hc : c ≤ maxLen) (hm : ∀ i, i < n → cur[i]? = some (.int .u8 (m : Int))) :
    Calls Tryd.prog 89 #[.agg #[.slice (some ⟨g, 0, none⟩) n c, .int .u8 (m : Int)]] w fun e w' => e = .returned (.tuple #[]) ∧ (∃ cur', w'.heap[g]? = some (.cells cur' 5 (0, 0)) ∧ c ≤ cur'.size ∧ ∀ i, i < c → cur'[i]? = some (.int .u8 (m : Int))) ∧ w.grownBy w' (some g) := by
  unfold maxLen at hc
  have HG := hid ((Below.heap_alloc w (.cells #[.slice (some ⟨g, 0, none⟩) n c, .int .u8 (m : Int)] 81) _ (Array.getElem?_eq_some_iff.1 hg).1).trans hg)
  have hX := heap_alloc_new w (.cells #[.slice (some ⟨g, 0, none⟩) n c, .int .u8 (m : Int)] 81)
  have hb := World.grownBy_alloc w (.cells #[.slice (some ⟨g, 0, none⟩) n c, .int .u8 (m : Int)] 81) (some g)
  obtain ⟨w1, hw1⟩ : ∃ x, x = w.alloc (.cells #[.slice (some ⟨g, 0, none⟩) n c, .int .u8 (m : Int)] 81) := ⟨_, rfl⟩
  rw [← hw1] at hX hb HG
  have x0 : w1.cell? ⟨w.heap.size, 0, none⟩ = some (.slice (some ⟨g, 0, none⟩) n c) := (cell_of_row _ _ 0 _ _ _ hX).trans rfl
  have HW := hid hw1
  have HX := hid hX
  have HB := hid hb
  have HM := hid hm
  have i0 : (n : Int) ≤ (c : Int) := by omega
  clear hg hX hw1 hb hm
  go_enter Tryd.func89, Tryd.ntmps89
  go_upto_region 1 with (fail)
  rw [← HW.out]
  go_wp2
  clear x0
  go_loopw [3] (fun i wr => ∃ k : Nat, n ≤ k ∧ k ≤ c ∧ i = .int .i64 (k : Int) ∧ (∃ cur', wr.heap[g]? = some (.cells cur' 5 (0, 0)) ∧ c ≤ cur'.size ∧ ∀ i, i < k → cur'[i]? = some (.int .u8 (m : Int))) ∧ wr.heap[w.heap.size]? = some (.cells #[.slice (some ⟨g, 0, none⟩) n c, .int .u8 (m : Int)] 81 (0, 0)) ∧ w.grownBy wr (some g)) (fun i _ => c - (intOf i).toNat)
  case atStart => exact ⟨n, Nat.le_refl _, hn, rfl, ⟨cur, HG.out, hs, HM.out⟩, HX.out, HB.out⟩
  case round =>
    obtain ⟨k, hnk, hk, rfl, ⟨cur', h1, h2, h3⟩, hX, hb⟩ := hrel
    by_cases hlt : k < c
    · have x1 : wr.cell? ⟨w.heap.size, 1, none⟩ = some (.int .u8 (m : Int)) := (cell_of_row _ _ 1 _ _ _ hX).trans rfl
      have HS := hid (store_mark h1 h2 hlt h3 hX (by decide) hb)
      obtain ⟨u, hu⟩ : ∃ u, wr.cell? ⟨g, k, none⟩ = some u := ⟨_, (cell_of_row _ _ k _ _ _ h1).trans (Array.getElem?_eq_getElem (by omega))⟩
      have f0 : wr.frozen? ⟨g, k, none⟩ = false := frozen_of_row _ _ _ _ _ h1
      have i0 : (0 : Int) ≤ (k : Int) := by omega
      have i1 : (k : Int) < (c : Int) := by omega
      clear h1 h3 hX hb
      go_wp2
      obtain ⟨s1, s2, s3⟩ := HS.out
      go_roundw
      case rel => exact ⟨k + 1, by omega, by omega, by go_num, s1, s2, s3⟩
      case measure => simp [intOf]; omega
    · obtain rfl : k = c := by omega
      have H3 := hid h3
      have H1 := hid h1
      have HB := hid hb
      clear h3 h1 hb hX
      go_wp2
      go_end0
      exact ⟨rfl, ⟨cur', H1.out, h2, H3.out⟩, HB.out⟩
set_option maxRecDepth 100000 in
set_option maxHeartbeats 1000000 in
theorem clean_none (m : Nat) (w : World) :
    Calls Tryd.prog 87 #[.agg #[.slice none 0 0, .int .u8 (m : Int)]] w fun e w' => e = .returned (.bool true) ∧ w.grownBy w' none := by
  go_enter Tryd.func87, Tryd.ntmps87
  have hX := heap_alloc_new w (.cells #[.slice none 0 0, .int .u8 (m : Int)] 81)
  have hb := World.grownBy_alloc w (.cells #[.slice none 0 0, .int .u8 (m : Int)] 81) none
  obtain ⟨w1, hw1⟩ : ∃ x, x = w.alloc (.cells #[.slice none 0 0, .int .u8 (m : Int)] 81) := ⟨_, rfl⟩
  rw [← hw1] at hX hb
  have x0 : w1.cell? ⟨w.heap.size, 0, none⟩ = some (.slice none 0 0) := (cell_of_row _ _ 0 _ _ _ hX).trans rfl
  have HW := hid hw1
  have HX := hid hX
  clear hX hw1
  go_upto_region 1 with (fail)
  rw [← HW.out]
  go_wp2
  go_loopw [4] (fun i wr => i = .int .i64 0 ∧ w.grownBy wr none) (fun _ _ => 0)
  case atStart => exact ⟨rfl, hb⟩
  case round =>
    obtain ⟨rfl, hb⟩ := hrel
    go_wp2
    go_ret
    exact ⟨rfl, hb⟩
set_option maxRecDepth 100000 in
set_option maxHeartbeats 1000000 in
theorem clean_row (g n c m : Nat) (cur : Array Value) (w : World) (hg : w.heap[g]? = some (.cells cur 5 (0, 0))) (hs : c ≤ cur.size) (hn : n ≤ c) (hc : c ≤ maxLen) (hm : ∀ i, i < c → cur[i]? = some (.int .u8 (m : Int))) :
    Calls Tryd.prog 87 #[.agg #[.slice (some ⟨g, 0, none⟩) n c, .int .u8 (m : Int)]] w fun e w' => e = .returned (.bool true) ∧ w.grownBy w' none := by
  unfold maxLen at hc
  have HG := hid ((Below.heap_alloc w (.cells #[.slice (some ⟨g, 0, none⟩) n c, .int .u8 (m : Int)] 81) _ (Array.getElem?_eq_some_iff.1 hg).1).trans hg)
  have hX := heap_alloc_new w (.cells #[.slice (some ⟨g, 0, none⟩) n c, .int .u8 (m : Int)] 81)
  have hb := World.grownBy_alloc w (.cells #[.slice (some ⟨g, 0, none⟩) n c, .int .u8 (m : Int)] 81) none
  obtain ⟨w1, hw1⟩ : ∃ x, x = w.alloc (.cells #[.slice (some ⟨g, 0, none⟩) n c, .int .u8 (m : Int)] 81) := ⟨_, rfl⟩
  rw [← hw1] at hX hb HG
  have x0 : w1.cell? ⟨w.heap.size, 0, none⟩ = some (.slice (some ⟨g, 0, none⟩) n c) := (cell_of_row _ _ 0 _ _ _ hX).trans rfl
  have HW := hid hw1
  have HX := hid hX
  have HB := hid hb
  have HM := hid hm
  clear hg hX hw1 hb hm
  go_enter Tryd.func87, Tryd.ntmps87
  go_upto_region 1 with (fail)
  rw [← HW.out]
  go_wp2
  clear x0
  go_loopw [4] (fun i wr => ∃ k : Nat, k ≤ c ∧ i = .int .i64 (k : Int) ∧ wr.heap[g]? = some (.cells cur 5 (0, 0)) ∧ wr.heap[w.heap.size]? = some (.cells #[.slice (some ⟨g, 0, none⟩) n c, .int .u8 (m : Int)] 81 (0, 0)) ∧ w.grownBy wr none) (fun i _ => c - (intOf i).toNat)
  case atStart => exact ⟨0, Nat.zero_le _, rfl, HG.out, HX.out, HB.out⟩
  case round =>
    obtain ⟨k, hk, rfl, h1, hX, hb⟩ := hrel
    by_cases hlt : k < c
    · have x1 : wr.cell? ⟨w.heap.size, 1, none⟩ = some (.int .u8 (m : Int)) := (cell_of_row _ _ 1 _ _ _ hX).trans rfl
      have x2 : wr.cell? ⟨g, k, none⟩ = some (.int .u8 (m : Int)) := (cell_of_row _ _ k _ _ _ h1).trans (HM.out k hlt)
      have i0 : (0 : Int) ≤ (k : Int) := by omega
      have i1 : (k : Int) < (c : Int) := by omega
      have H1 := hid h1
      have HX2 := hid hX
      have HB2 := hid hb
      clear h1 hX hb
      go_upto_region 5 with (fail)
      go_quiet (fail)
      obtain ⟨w2, hw2⟩ : ∃ x, x = wr.drewN nq := ⟨_, rfl⟩
      rw [← hw2]
      have k1 : w2.heap[g]? = some (.cells cur 5 (0, 0)) := by rw [hw2]; exact H1.out
      have k2 : w2.heap[w.heap.size]? = some (.cells #[.slice (some ⟨g, 0, none⟩) n c, .int .u8 (m : Int)] 81 (0, 0)) := by rw [hw2]; exact HX2.out
      have k3 : w.grownBy w2 none := by rw [hw2]; exact HB2.out.trans ⟨rfl, rfl, rfl, Nat.le_refl _, fun _ _ _ => rfl⟩
      have K1 := hid k1
      have K2 := hid k2
      have K3 := hid k3
      clear k1 k2 k3 hw2
      go_wp2
      go_roundw
      case rel => exact ⟨k + 1, by omega, by go_num, K1.out, K2.out, K3.out⟩
      case measure => simp [intOf]; omega
    · obtain rfl : k = c := by omega
      have HB := hid hb
      clear h1 hb hX
      go_wp2
      go_ret
      exact ⟨rfl, HB.out⟩
end Go.Proofs.Herb
