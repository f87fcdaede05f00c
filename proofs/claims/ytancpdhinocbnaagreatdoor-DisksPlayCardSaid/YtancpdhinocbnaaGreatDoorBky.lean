/- A Book of sheets of bytes and of texts: the contracts of a sheet's paint, spill and clean, of strconv.Itoa (laid of the shelf's, in plain words), of the Book's mark, keep, Bytes, Texts and Apart: sheets that share no row: it answers true. For a Book of the call's own that lies in memory as BookAt says, in worlds where strconv's table of powers of ten reads as it was laid. -/
import Derived.Test.YtancpdhinocbnaaGreatDoorBase2
import Derived.Deep.Cut
import Derived.BigQuiet
import Derived.Test.YtancpdhinocbnaaGreatDoorProg
import Derived.Shelf.Strconv.Itoa3
import Derived.Lib.AppendIntMem
import Derived.Lib.SmallJoins
import Derived.Ground.NamesProg
import Derived.Test.YtancpdhinocbnaaGreatDoorBase
import Derived.Test.YtancpdhinocbnaaGreatDoorApp
import Derived.RangeFuncBox
import Derived.Laws.AppendOwn
import Derived.OwnWalk
import Derived.Lib.ItoaLen
import Derived.WalkLawsBesides
import Derived.WalkSpells
import Derived.Deep.QuietTactic
import Derived.Deep.DeepCutAuto
namespace Go.Proofs.Herb
open Go.RowKit
attribute [local go_sem] Oper.semAt_some
/-- a sheet: its slice, its kind, its mark -/
structure Sh where
  q : Option Addr
  n : Nat
  c : Nat
  t : TypeId
  e : TypeId
  m : Value
/-- of bytes, or of texts -/
def ShK (s : Sh) : Prop := (s.t = 106 ∧ s.e = 5 ∧ ∃ m : Nat, s.m = .int .u8 (m : Int)) ∨ (s.t = 108 ∧ s.e = 9 ∧ ∃ S : ByteArray, s.m = .string S)
def Sh.sl (s : Sh) : Value := .slice s.q s.n s.c
def Sh.agg (s : Sh) : Value := .agg #[.slice s.q s.n s.c, s.m]
def Sh.v (s : Sh) : Value := .iface s.t s.agg
def Sh.blk (s : Sh) : Option Nat := s.q.map (·.block)
/-- a sheet's row stands in memory, and so many of its first cells bear its mark -/
def ShRow (w : World) (s : Sh) (k : Nat) : Prop :=
  s.n ≤ s.c ∧ s.c ≤ maxLen ∧ ShK s ∧ (s.q = none ∧ s.c = 0 ∨ ∃ g cur, s.q = some ⟨g, 0, none⟩ ∧ w.heap[g]? = some (.cells cur s.e (0, 0)) ∧ s.c ≤ cur.size ∧ ∀ i, i < k → cur[i]? = some s.m)
theorem ShRow.kept {w w' : World} {s : Sh} {k : Nat} {ex : Option Nat} (h : ShRow w s k) (hg : w.grownBy w' ex) (hne : ∀ g, s.blk = some g → ex ≠ some g) : ShRow w' s k := by
  obtain ⟨h1, h2, h3, h4⟩ := h
  refine ⟨h1, h2, h3, ?_⟩
  rcases h4 with h4 | ⟨g, cur, e1, e2, e3, e4⟩
  · exact .inl h4
  · exact .inr ⟨g, cur, e1, (hg.block g (Array.getElem?_eq_some_iff.1 e2).1 (fun e => hne g (by unfold Sh.blk; rw [e1]; rfl) e.symm)).trans e2, e3, e4⟩
theorem ShRow.less {w : World} {s : Sh} {k j : Nat} (h : ShRow w s k) (hj : j ≤ k) : ShRow w s j := by
  obtain ⟨h1, h2, h3, h4⟩ := h
  refine ⟨h1, h2, h3, ?_⟩
  rcases h4 with h4 | ⟨g, cur, e1, e2, e3, e4⟩
  · exact .inl h4
  · exact .inr ⟨g, cur, e1, e2, e3, fun i hi => e4 i (by omega)⟩
theorem grownBy_at (W : World) (b k : Nat) (v : Value) : W.grownBy (W.setCell ⟨b, k, none⟩ v) (some b) :=
  ⟨rfl, rfl, rfl, by simp [World.setCell], fun i _ hne => Below.heap_setCell _ _ _ _ (fun e => hne (by rw [e]))⟩
theorem set_marks {cur : Array Value} {v : Value} {k c : Nat} (hs : c ≤ cur.size) (hk : k < c) (h : ∀ i, i < k → cur[i]? = some v) : c ≤ (cur.setIfInBounds k v).size ∧ ∀ i, i < k + 1 → (cur.setIfInBounds k v)[i]? = some v := by
  refine ⟨by simpa using hs, fun i hi => ?_⟩
  rw [Array.getElem?_setIfInBounds]
  by_cases e : k = i
  · rw [if_pos e, if_pos (by omega)]
  · rw [if_neg e]; exact h i (by omega)
theorem store_mark {w0 wr : World} {g k c X : Nat} {cur box : Array Value} {v : Value} {t te : TypeId} (hg : wr.heap[g]? = some (.cells cur te (0, 0))) (hs : c ≤ cur.size) (hk : k < c) (h : ∀ i, i < k → cur[i]? = some v)
    (hX : wr.heap[X]? = some (.cells box t (0, 0))) (ht : t ≠ te) (hb : w0.grownBy wr (some g)) :
    (∃ cur', (wr.setCell ⟨g, k, none⟩ v).heap[g]? = some (.cells cur' te (0, 0)) ∧ c ≤ cur'.size ∧ ∀ i, i < k + 1 → cur'[i]? = some v) ∧ (wr.setCell ⟨g, k, none⟩ v).heap[X]? = some (.cells box t (0, 0)) ∧ w0.grownBy (wr.setCell ⟨g, k, none⟩ v) (some g) := by
  obtain ⟨s1, s2⟩ := set_marks (v := v) hs hk h
  exact ⟨⟨_, heap_setCell_same _ _ k _ _ _ hg, s1, s2⟩, (heap_setCell_other _ _ _ _ (fun e => by subst e; rw [hg] at hX; cases hX; exact ht rfl)).trans hX, hb.trans (grownBy_at wr g k v)⟩
set_option maxRecDepth 100000 in
set_option maxHeartbeats 1000000 in
theorem paint_none (m : Nat) (w : World) :
    Calls Tryz.prog 137 #[.agg #[.slice none 0 0, .int .u8 (m : Int)]] w fun e w' => e = .returned (.tuple #[]) ∧ w.grownBy w' none := by
  go_enter Tryz.func137, Tryz.ntmps137
  go_wp2
  go_loopw [2] (fun i wr => i = .int .i64 0 ∧ wr.heap[w.heap.size]? = some (.cells #[.slice none 0 0, .int .u8 (m : Int)] 106 (0, 0)) ∧ w.grownBy wr none) (fun _ _ => 0)
  case atStart => exact ⟨rfl, heap_alloc_new _ _, World.grownBy_alloc _ _ _⟩
  case round =>
    obtain ⟨rfl, hX, hb⟩ := hrel
    have x0 : wr.cell? ⟨w.heap.size, 0, none⟩ = some (.slice none 0 0) := (cell_of_row _ _ 0 _ _ _ hX).trans rfl
    go_wp2
    go_end0
    exact ⟨rfl, hb⟩
set_option maxRecDepth 100000 in
set_option maxHeartbeats 1000000 in
theorem paint_row (g n c m : Nat) (cur : Array Value) (w : World) (hg : w.heap[g]? = some (.cells cur 5 (0, 0))) (hs : c ≤ cur.size) (hn : n ≤ c) (hc : c ≤ maxLen) :
    Calls Tryz.prog 137 #[.agg #[.slice (some ⟨g, 0, none⟩) n c, .int .u8 (m : Int)]] w fun e w' => e = .returned (.tuple #[]) ∧ (∃ cur', w'.heap[g]? = some (.cells cur' 5 (0, 0)) ∧ c ≤ cur'.size ∧ ∀ i, i < n → cur'[i]? = some (.int .u8 (m : Int))) ∧ w.grownBy w' (some g) := by
  unfold maxLen at hc
  have HG := hid hg
  clear hg
  go_enter Tryz.func137, Tryz.ntmps137
  go_wp2
  go_loopw [2] (fun i wr => ∃ k : Nat, k ≤ n ∧ i = .int .i64 (k : Int) ∧ (∃ cur', wr.heap[g]? = some (.cells cur' 5 (0, 0)) ∧ c ≤ cur'.size ∧ ∀ i, i < k → cur'[i]? = some (.int .u8 (m : Int))) ∧ wr.heap[w.heap.size]? = some (.cells #[.slice (some ⟨g, 0, none⟩) n c, .int .u8 (m : Int)] 106 (0, 0)) ∧ w.grownBy wr (some g)) (fun i _ => n - (intOf i).toNat)
  case atStart => exact ⟨0, Nat.zero_le _, rfl, ⟨cur, (Below.heap_alloc _ _ _ (Array.getElem?_eq_some_iff.1 HG.out).1).trans HG.out, hs, fun i hi => absurd hi (Nat.not_lt_zero _)⟩, heap_alloc_new _ _, World.grownBy_alloc _ _ _⟩
  case round =>
    obtain ⟨k, hk, rfl, ⟨cur', h1, h2, h3⟩, hX, hb⟩ := hrel
    have x0 : wr.cell? ⟨w.heap.size, 0, none⟩ = some (.slice (some ⟨g, 0, none⟩) n c) := (cell_of_row _ _ 0 _ _ _ hX).trans rfl
    have x1 : wr.cell? ⟨w.heap.size, 1, none⟩ = some (.int .u8 (m : Int)) := (cell_of_row _ _ 1 _ _ _ hX).trans rfl
    by_cases hlt : k < n
    · have HS := hid (store_mark h1 h2 (show k < c by omega) h3 hX (by decide) hb)
      obtain ⟨u, hu⟩ : ∃ u, wr.cell? ⟨g, k, none⟩ = some u := ⟨_, (cell_of_row _ _ k _ _ _ h1).trans (Array.getElem?_eq_getElem (by omega))⟩
      have f0 : wr.frozen? ⟨g, k, none⟩ = false := frozen_of_row _ _ _ _ _ h1
      have i0 : (0 : Int) ≤ (k : Int) := by omega
      have i1 : (k : Int) < (n : Int) := by omega
      clear h1 h3 hX hb
      go_wp2
      obtain ⟨s1, s2, s3⟩ := HS.out
      go_roundw
      case rel => exact ⟨k + 1, by omega, by go_num, s1, s2, s3⟩
      case measure => simp [intOf]; omega
    · obtain rfl : k = n := by omega
      have H3 := hid h3
      have H1 := hid h1
      have HB := hid hb
      clear h3 h1 hb hX
      go_wp2
      go_end0
      exact ⟨rfl, ⟨cur', H1.out, h2, H3.out⟩, HB.out⟩
set_option maxRecDepth 100000 in
set_option maxHeartbeats 1000000 in
theorem spill_none (m : Nat) (w : World) :
    Calls Tryz.prog 138 #[.agg #[.slice none 0 0, .int .u8 (m : Int)]] w fun e w' => e = .returned (.tuple #[]) ∧ w.grownBy w' none := by
  go_enter Tryz.func138, Tryz.ntmps138
  have hX := heap_alloc_new w (.cells #[.slice none 0 0, .int .u8 (m : Int)] 106)
  have hb := World.grownBy_alloc w (.cells #[.slice none 0 0, .int .u8 (m : Int)] 106) none
  obtain ⟨w1, hw1⟩ : ∃ x, x = w.alloc (.cells #[.slice none 0 0, .int .u8 (m : Int)] 106) := ⟨_, rfl⟩
  rw [← hw1] at hX hb
  have x0 : w1.cell? ⟨w.heap.size, 0, none⟩ = some (.slice none 0 0) := (cell_of_row _ _ 0 _ _ _ hX).trans rfl
  have HW := hid hw1
  have HX := hid hX
  clear hX hw1
  go_upto_region 1 with (fail)
  rw [← HW.out]
  go_wp2
  go_loopw [3] (fun i wr => i = .int .i64 0 ∧ w.grownBy wr none) (fun _ _ => 0)
  case atStart => exact ⟨rfl, hb⟩
  case round =>
    obtain ⟨rfl, hb⟩ := hrel
    go_wp2
    go_end0
    exact ⟨rfl, hb⟩
set_option maxRecDepth 100000 in
set_option maxHeartbeats 1000000 in
theorem spill_row (g n c m : Nat) (cur : Array Value) (w : World) (hg : w.heap[g]? = some (.cells cur 5 (0, 0))) (hs : c ≤ cur.size) (hn : n ≤ c) (hc : c ≤ maxLen) (hm : ∀ i, i < n → cur[i]? = some (.int .u8 (m : Int))) :
    Calls Tryz.prog 138 #[.agg #[.slice (some ⟨g, 0, none⟩) n c, .int .u8 (m : Int)]] w fun e w' => e = .returned (.tuple #[]) ∧ (∃ cur', w'.heap[g]? = some (.cells cur' 5 (0, 0)) ∧ c ≤ cur'.size ∧ ∀ i, i < c → cur'[i]? = some (.int .u8 (m : Int))) ∧ w.grownBy w' (some g) := by
  unfold maxLen at hc
  have HG := hid ((Below.heap_alloc w (.cells #[.slice (some ⟨g, 0, none⟩) n c, .int .u8 (m : Int)] 106) _ (Array.getElem?_eq_some_iff.1 hg).1).trans hg)
  have hX := heap_alloc_new w (.cells #[.slice (some ⟨g, 0, none⟩) n c, .int .u8 (m : Int)] 106)
  have hb := World.grownBy_alloc w (.cells #[.slice (some ⟨g, 0, none⟩) n c, .int .u8 (m : Int)] 106) (some g)
  obtain ⟨w1, hw1⟩ : ∃ x, x = w.alloc (.cells #[.slice (some ⟨g, 0, none⟩) n c, .int .u8 (m : Int)] 106) := ⟨_, rfl⟩
  rw [← hw1] at hX hb HG
  have x0 : w1.cell? ⟨w.heap.size, 0, none⟩ = some (.slice (some ⟨g, 0, none⟩) n c) := (cell_of_row _ _ 0 _ _ _ hX).trans rfl
  have HW := hid hw1
  have HX := hid hX
  have HB := hid hb
  have HM := hid hm
  have i0 : (n : Int) ≤ (c : Int) := by omega
  clear hg hX hw1 hb hm
  go_enter Tryz.func138, Tryz.ntmps138
  go_upto_region 1 with (fail)
  rw [← HW.out]
  go_wp2
  clear x0
  go_loopw [3] (fun i wr => ∃ k : Nat, n ≤ k ∧ k ≤ c ∧ i = .int .i64 (k : Int) ∧ (∃ cur', wr.heap[g]? = some (.cells cur' 5 (0, 0)) ∧ c ≤ cur'.size ∧ ∀ i, i < k → cur'[i]? = some (.int .u8 (m : Int))) ∧ wr.heap[w.heap.size]? = some (.cells #[.slice (some ⟨g, 0, none⟩) n c, .int .u8 (m : Int)] 106 (0, 0)) ∧ w.grownBy wr (some g)) (fun i _ => c - (intOf i).toNat)
  case atStart => exact ⟨n, Nat.le_refl _, hn, rfl, ⟨cur, HG.out, hs, HM.out⟩, HX.out, HB.out⟩
  case round =>
    obtain ⟨k, hnk, hk, rfl, ⟨cur', h1, h2, h3⟩, hX, hb⟩ := hrel
    by_cases hlt : k < c
    · have x1 : wr.cell? ⟨w.heap.size, 1, none⟩ = some (.int .u8 (m : Int)) := (cell_of_row _ _ 1 _ _ _ hX).trans rfl
      have HS := hid (store_mark h1 h2 hlt h3 hX (by decide) hb)
      obtain ⟨u, hu⟩ : ∃ u, wr.cell? ⟨g, k, none⟩ = some u := ⟨_, (cell_of_row _ _ k _ _ _ h1).trans (Array.getElem?_eq_getElem (by omega))⟩
      have f0 : wr.frozen? ⟨g, k, none⟩ = false := frozen_of_row _ _ _ _ _ h1
      have i0 : (0 : Int) ≤ (k : Int) := by omega
      have i1 : (k : Int) < (c : Int) := by omega
      clear h1 h3 hX hb
      go_wp2
      obtain ⟨s1, s2, s3⟩ := HS.out
      go_roundw
      case rel => exact ⟨k + 1, by omega, by omega, by go_num, s1, s2, s3⟩
      case measure => simp [intOf]; omega
    · obtain rfl : k = c := by omega
      have H3 := hid h3
      have H1 := hid h1
      have HB := hid hb
      clear h3 h1 hb hX
      go_wp2
      go_end0
      exact ⟨rfl, ⟨cur', H1.out, h2, H3.out⟩, HB.out⟩
set_option maxRecDepth 100000 in
set_option maxHeartbeats 1000000 in
theorem clean_none (m : Nat) (w : World) :
    Calls Tryz.prog 136 #[.agg #[.slice none 0 0, .int .u8 (m : Int)]] w fun e w' => e = .returned (.bool true) ∧ w.grownBy w' none := by
  go_enter Tryz.func136, Tryz.ntmps136
  have hX := heap_alloc_new w (.cells #[.slice none 0 0, .int .u8 (m : Int)] 106)
  have hb := World.grownBy_alloc w (.cells #[.slice none 0 0, .int .u8 (m : Int)] 106) none
  obtain ⟨w1, hw1⟩ : ∃ x, x = w.alloc (.cells #[.slice none 0 0, .int .u8 (m : Int)] 106) := ⟨_, rfl⟩
  rw [← hw1] at hX hb
  have x0 : w1.cell? ⟨w.heap.size, 0, none⟩ = some (.slice none 0 0) := (cell_of_row _ _ 0 _ _ _ hX).trans rfl
  have HW := hid hw1
  have HX := hid hX
  clear hX hw1
  go_upto_region 1 with (fail)
  rw [← HW.out]
  go_wp2
  go_loopw [4] (fun i wr => i = .int .i64 0 ∧ w.grownBy wr none) (fun _ _ => 0)
  case atStart => exact ⟨rfl, hb⟩
  case round =>
    obtain ⟨rfl, hb⟩ := hrel
    go_wp2
    go_ret
    exact ⟨rfl, hb⟩
set_option maxRecDepth 100000 in
set_option maxHeartbeats 1000000 in
theorem clean_row (g n c m : Nat) (cur : Array Value) (w : World) (hg : w.heap[g]? = some (.cells cur 5 (0, 0))) (hs : c ≤ cur.size) (hn : n ≤ c) (hc : c ≤ maxLen) (hm : ∀ i, i < c → cur[i]? = some (.int .u8 (m : Int))) :
    Calls Tryz.prog 136 #[.agg #[.slice (some ⟨g, 0, none⟩) n c, .int .u8 (m : Int)]] w fun e w' => e = .returned (.bool true) ∧ w.grownBy w' none := by
  unfold maxLen at hc
  have HG := hid ((Below.heap_alloc w (.cells #[.slice (some ⟨g, 0, none⟩) n c, .int .u8 (m : Int)] 106) _ (Array.getElem?_eq_some_iff.1 hg).1).trans hg)
  have hX := heap_alloc_new w (.cells #[.slice (some ⟨g, 0, none⟩) n c, .int .u8 (m : Int)] 106)
  have hb := World.grownBy_alloc w (.cells #[.slice (some ⟨g, 0, none⟩) n c, .int .u8 (m : Int)] 106) none
  obtain ⟨w1, hw1⟩ : ∃ x, x = w.alloc (.cells #[.slice (some ⟨g, 0, none⟩) n c, .int .u8 (m : Int)] 106) := ⟨_, rfl⟩
  rw [← hw1] at hX hb HG
  have x0 : w1.cell? ⟨w.heap.size, 0, none⟩ = some (.slice (some ⟨g, 0, none⟩) n c) := (cell_of_row _ _ 0 _ _ _ hX).trans rfl
  have HW := hid hw1
  have HX := hid hX
  have HB := hid hb
  have HM := hid hm
  clear hg hX hw1 hb hm
  go_enter Tryz.func136, Tryz.ntmps136
  go_upto_region 1 with (fail)
  rw [← HW.out]
  go_wp2
  clear x0
  go_loopw [4] (fun i wr => ∃ k : Nat, k ≤ c ∧ i = .int .i64 (k : Int) ∧ wr.heap[g]? = some (.cells cur 5 (0, 0)) ∧ wr.heap[w.heap.size]? = some (.cells #[.slice (some ⟨g, 0, none⟩) n c, .int .u8 (m : Int)] 106 (0, 0)) ∧ w.grownBy wr none) (fun i _ => c - (intOf i).toNat)
  case atStart => exact ⟨0, Nat.zero_le _, rfl, HG.out, HX.out, HB.out⟩
  case round =>
    obtain ⟨k, hk, rfl, h1, hX, hb⟩ := hrel
    by_cases hlt : k < c
    · have x1 : wr.cell? ⟨w.heap.size, 1, none⟩ = some (.int .u8 (m : Int)) := (cell_of_row _ _ 1 _ _ _ hX).trans rfl
      have x2 : wr.cell? ⟨g, k, none⟩ = some (.int .u8 (m : Int)) := (cell_of_row _ _ k _ _ _ h1).trans (HM.out k hlt)
      have i0 : (0 : Int) ≤ (k : Int) := by omega
      have i1 : (k : Int) < (c : Int) := by omega
      have H1 := hid h1
      have HX2 := hid hX
      have HB2 := hid hb
      clear h1 hX hb
      go_upto_region 5 with (fail)
      go_quiet (fail)
      obtain ⟨w2, hw2⟩ : ∃ x, x = wr.drewN nq := ⟨_, rfl⟩
      rw [← hw2]
      have k1 : w2.heap[g]? = some (.cells cur 5 (0, 0)) := by rw [hw2]; exact H1.out
      have k2 : w2.heap[w.heap.size]? = some (.cells #[.slice (some ⟨g, 0, none⟩) n c, .int .u8 (m : Int)] 106 (0, 0)) := by rw [hw2]; exact HX2.out
      have k3 : w.grownBy w2 none := by rw [hw2]; exact HB2.out.trans ⟨rfl, rfl, rfl, Nat.le_refl _, fun _ _ _ => rfl⟩
      have K1 := hid k1
      have K2 := hid k2
      have K3 := hid k3
      clear k1 k2 k3 hw2
      go_wp2
      go_roundw
      case rel => exact ⟨k + 1, by omega, by go_num, K1.out, K2.out, K3.out⟩
      case measure => simp [intOf]; omega
    · obtain rfl : k = c := by omega
      have HB := hid hb
      clear h1 hb hX
      go_wp2
      go_ret
      exact ⟨rfl, HB.out⟩
set_option maxRecDepth 100000 in
set_option maxHeartbeats 1000000 in
theorem tpaint_none (m : ByteArray) (w : World) :
    Calls Tryz.prog 140 #[.agg #[.slice none 0 0, .string m]] w fun e w' => e = .returned (.tuple #[]) ∧ w.grownBy w' none := by
  go_enter Tryz.func140, Tryz.ntmps140
  go_wp2
  go_loopw [2] (fun i wr => i = .int .i64 0 ∧ wr.heap[w.heap.size]? = some (.cells #[.slice none 0 0, .string m] 108 (0, 0)) ∧ w.grownBy wr none) (fun _ _ => 0)
  case atStart => exact ⟨rfl, heap_alloc_new _ _, World.grownBy_alloc _ _ _⟩
  case round =>
    obtain ⟨rfl, hX, hb⟩ := hrel
    have x0 : wr.cell? ⟨w.heap.size, 0, none⟩ = some (.slice none 0 0) := (cell_of_row _ _ 0 _ _ _ hX).trans rfl
    go_wp2
    go_end0
    exact ⟨rfl, hb⟩
set_option maxRecDepth 100000 in
set_option maxHeartbeats 1000000 in
theorem tpaint_row (g n c : Nat) (m : ByteArray) (cur : Array Value) (w : World) (hg : w.heap[g]? = some (.cells cur 9 (0, 0))) (hs : c ≤ cur.size) (hn : n ≤ c) (hc : c ≤ maxLen) :
    Calls Tryz.prog 140 #[.agg #[.slice (some ⟨g, 0, none⟩) n c, .string m]] w fun e w' => e = .returned (.tuple #[]) ∧ (∃ cur', w'.heap[g]? = some (.cells cur' 9 (0, 0)) ∧ c ≤ cur'.size ∧ ∀ i, i < n → cur'[i]? = some (.string m)) ∧ w.grownBy w' (some g) := by
  unfold maxLen at hc
  have HG := hid hg
  clear hg
  go_enter Tryz.func140, Tryz.ntmps140
  go_wp2
  go_loopw [2] (fun i wr => ∃ k : Nat, k ≤ n ∧ i = .int .i64 (k : Int) ∧ (∃ cur', wr.heap[g]? = some (.cells cur' 9 (0, 0)) ∧ c ≤ cur'.size ∧ ∀ i, i < k → cur'[i]? = some (.string m)) ∧ wr.heap[w.heap.size]? = some (.cells #[.slice (some ⟨g, 0, none⟩) n c, .string m] 108 (0, 0)) ∧ w.grownBy wr (some g)) (fun i _ => n - (intOf i).toNat)
  case atStart => exact ⟨0, Nat.zero_le _, rfl, ⟨cur, (Below.heap_alloc _ _ _ (Array.getElem?_eq_some_iff.1 HG.out).1).trans HG.out, hs, fun i hi => absurd hi (Nat.not_lt_zero _)⟩, heap_alloc_new _ _, World.grownBy_alloc _ _ _⟩
  case round =>
    obtain ⟨k, hk, rfl, ⟨cur', h1, h2, h3⟩, hX, hb⟩ := hrel
    have x0 : wr.cell? ⟨w.heap.size, 0, none⟩ = some (.slice (some ⟨g, 0, none⟩) n c) := (cell_of_row _ _ 0 _ _ _ hX).trans rfl
    have x1 : wr.cell? ⟨w.heap.size, 1, none⟩ = some (.string m) := (cell_of_row _ _ 1 _ _ _ hX).trans rfl
    by_cases hlt : k < n
    · have HS := hid (store_mark h1 h2 (show k < c by omega) h3 hX (by decide) hb)
      obtain ⟨u, hu⟩ : ∃ u, wr.cell? ⟨g, k, none⟩ = some u := ⟨_, (cell_of_row _ _ k _ _ _ h1).trans (Array.getElem?_eq_getElem (by omega))⟩
      have f0 : wr.frozen? ⟨g, k, none⟩ = false := frozen_of_row _ _ _ _ _ h1
      have i0 : (0 : Int) ≤ (k : Int) := by omega
      have i1 : (k : Int) < (n : Int) := by omega
      clear h1 h3 hX hb
      go_wp2
      obtain ⟨s1, s2, s3⟩ := HS.out
      go_roundw
      case rel => exact ⟨k + 1, by omega, by go_num, s1, s2, s3⟩
      case measure => simp [intOf]; omega
    · obtain rfl : k = n := by omega
      have H3 := hid h3
      have H1 := hid h1
      have HB := hid hb
      clear h3 h1 hb hX
      go_wp2
      go_end0
      exact ⟨rfl, ⟨cur', H1.out, h2, H3.out⟩, HB.out⟩
set_option maxRecDepth 100000 in
set_option maxHeartbeats 1000000 in
theorem tspill_none (m : ByteArray) (w : World) :
    Calls Tryz.prog 141 #[.agg #[.slice none 0 0, .string m]] w fun e w' => e = .returned (.tuple #[]) ∧ w.grownBy w' none := by
  go_enter Tryz.func141, Tryz.ntmps141
  have hX := heap_alloc_new w (.cells #[.slice none 0 0, .string m] 108)
  have hb := World.grownBy_alloc w (.cells #[.slice none 0 0, .string m] 108) none
  obtain ⟨w1, hw1⟩ : ∃ x, x = w.alloc (.cells #[.slice none 0 0, .string m] 108) := ⟨_, rfl⟩
  rw [← hw1] at hX hb
  have x0 : w1.cell? ⟨w.heap.size, 0, none⟩ = some (.slice none 0 0) := (cell_of_row _ _ 0 _ _ _ hX).trans rfl
  have HW := hid hw1
  have HX := hid hX
  clear hX hw1
  go_upto_region 1 with (fail)
  rw [← HW.out]
  go_wp2
  go_loopw [3] (fun i wr => i = .int .i64 0 ∧ w.grownBy wr none) (fun _ _ => 0)
  case atStart => exact ⟨rfl, hb⟩
  case round =>
    obtain ⟨rfl, hb⟩ := hrel
    go_wp2
    go_end0
    exact ⟨rfl, hb⟩
set_option maxRecDepth 100000 in
set_option maxHeartbeats 1000000 in
theorem tspill_row (g n c : Nat) (m : ByteArray) (cur : Array Value) (w : World) (hg : w.heap[g]? = some (.cells cur 9 (0, 0))) (hs : c ≤ cur.size) (hn : n ≤ c) (hc : c ≤ maxLen) (hm : ∀ i, i < n → cur[i]? = some (.string m)) :
    Calls Tryz.prog 141 #[.agg #[.slice (some ⟨g, 0, none⟩) n c, .string m]] w fun e w' => e = .returned (.tuple #[]) ∧ (∃ cur', w'.heap[g]? = some (.cells cur' 9 (0, 0)) ∧ c ≤ cur'.size ∧ ∀ i, i < c → cur'[i]? = some (.string m)) ∧ w.grownBy w' (some g) := by
  unfold maxLen at hc
  have HG := hid ((Below.heap_alloc w (.cells #[.slice (some ⟨g, 0, none⟩) n c, .string m] 108) _ (Array.getElem?_eq_some_iff.1 hg).1).trans hg)
  have hX := heap_alloc_new w (.cells #[.slice (some ⟨g, 0, none⟩) n c, .string m] 108)
  have hb := World.grownBy_alloc w (.cells #[.slice (some ⟨g, 0, none⟩) n c, .string m] 108) (some g)
  obtain ⟨w1, hw1⟩ : ∃ x, x = w.alloc (.cells #[.slice (some ⟨g, 0, none⟩) n c, .string m] 108) := ⟨_, rfl⟩
  rw [← hw1] at hX hb HG
  have x0 : w1.cell? ⟨w.heap.size, 0, none⟩ = some (.slice (some ⟨g, 0, none⟩) n c) := (cell_of_row _ _ 0 _ _ _ hX).trans rfl
  have HW := hid hw1
  have HX := hid hX
  have HB := hid hb
  have HM := hid hm
  have i0 : (n : Int) ≤ (c : Int) := by omega
  clear hg hX hw1 hb hm
  go_enter Tryz.func141, Tryz.ntmps141
  go_upto_region 1 with (fail)
  rw [← HW.out]
  go_wp2
  clear x0
  go_loopw [3] (fun i wr => ∃ k : Nat, n ≤ k ∧ k ≤ c ∧ i = .int .i64 (k : Int) ∧ (∃ cur', wr.heap[g]? = some (.cells cur' 9 (0, 0)) ∧ c ≤ cur'.size ∧ ∀ i, i < k → cur'[i]? = some (.string m)) ∧ wr.heap[w.heap.size]? = some (.cells #[.slice (some ⟨g, 0, none⟩) n c, .string m] 108 (0, 0)) ∧ w.grownBy wr (some g)) (fun i _ => c - (intOf i).toNat)
  case atStart => exact ⟨n, Nat.le_refl _, hn, rfl, ⟨cur, HG.out, hs, HM.out⟩, HX.out, HB.out⟩
  case round =>
    obtain ⟨k, hnk, hk, rfl, ⟨cur', h1, h2, h3⟩, hX, hb⟩ := hrel
    by_cases hlt : k < c
    · have x1 : wr.cell? ⟨w.heap.size, 1, none⟩ = some (.string m) := (cell_of_row _ _ 1 _ _ _ hX).trans rfl
      have HS := hid (store_mark h1 h2 hlt h3 hX (by decide) hb)
      obtain ⟨u, hu⟩ : ∃ u, wr.cell? ⟨g, k, none⟩ = some u := ⟨_, (cell_of_row _ _ k _ _ _ h1).trans (Array.getElem?_eq_getElem (by omega))⟩
      have f0 : wr.frozen? ⟨g, k, none⟩ = false := frozen_of_row _ _ _ _ _ h1
      have i0 : (0 : Int) ≤ (k : Int) := by omega
      have i1 : (k : Int) < (c : Int) := by omega
      clear h1 h3 hX hb
      go_wp2
      obtain ⟨s1, s2, s3⟩ := HS.out
      go_roundw
      case rel => exact ⟨k + 1, by omega, by omega, by go_num, s1, s2, s3⟩
      case measure => simp [intOf]; omega
    · obtain rfl : k = c := by omega
      have H3 := hid h3
      have H1 := hid h1
      have HB := hid hb
      clear h3 h1 hb hX
      go_wp2
      go_end0
      exact ⟨rfl, ⟨cur', H1.out, h2, H3.out⟩, HB.out⟩
set_option maxRecDepth 100000 in
set_option maxHeartbeats 1000000 in
theorem tclean_none (m : ByteArray) (w : World) :
    Calls Tryz.prog 139 #[.agg #[.slice none 0 0, .string m]] w fun e w' => e = .returned (.bool true) ∧ w.grownBy w' none := by
  go_enter Tryz.func139, Tryz.ntmps139
  have hX := heap_alloc_new w (.cells #[.slice none 0 0, .string m] 108)
  have hb := World.grownBy_alloc w (.cells #[.slice none 0 0, .string m] 108) none
  obtain ⟨w1, hw1⟩ : ∃ x, x = w.alloc (.cells #[.slice none 0 0, .string m] 108) := ⟨_, rfl⟩
  rw [← hw1] at hX hb
  have x0 : w1.cell? ⟨w.heap.size, 0, none⟩ = some (.slice none 0 0) := (cell_of_row _ _ 0 _ _ _ hX).trans rfl
  have HW := hid hw1
  have HX := hid hX
  clear hX hw1
  go_upto_region 1 with (fail)
  rw [← HW.out]
  go_wp2
  go_loopw [4] (fun i wr => i = .int .i64 0 ∧ w.grownBy wr none) (fun _ _ => 0)
  case atStart => exact ⟨rfl, hb⟩
  case round =>
    obtain ⟨rfl, hb⟩ := hrel
    go_wp2
    go_ret
    exact ⟨rfl, hb⟩
set_option maxRecDepth 100000 in
set_option maxHeartbeats 1000000 in
theorem tclean_row (g n c : Nat) (m : ByteArray) (cur : Array Value) (w : World) (hg : w.heap[g]? = some (.cells cur 9 (0, 0))) (hs : c ≤ cur.size) (hn : n ≤ c) (hc : c ≤ maxLen) (hm : ∀ i, i < c → cur[i]? = some (.string m)) :
    Calls Tryz.prog 139 #[.agg #[.slice (some ⟨g, 0, none⟩) n c, .string m]] w fun e w' => e = .returned (.bool true) ∧ w.grownBy w' none := by
  unfold maxLen at hc
  have HG := hid ((Below.heap_alloc w (.cells #[.slice (some ⟨g, 0, none⟩) n c, .string m] 108) _ (Array.getElem?_eq_some_iff.1 hg).1).trans hg)
  have hX := heap_alloc_new w (.cells #[.slice (some ⟨g, 0, none⟩) n c, .string m] 108)
  have hb := World.grownBy_alloc w (.cells #[.slice (some ⟨g, 0, none⟩) n c, .string m] 108) none
  obtain ⟨w1, hw1⟩ : ∃ x, x = w.alloc (.cells #[.slice (some ⟨g, 0, none⟩) n c, .string m] 108) := ⟨_, rfl⟩
  rw [← hw1] at hX hb HG
  have x0 : w1.cell? ⟨w.heap.size, 0, none⟩ = some (.slice (some ⟨g, 0, none⟩) n c) := (cell_of_row _ _ 0 _ _ _ hX).trans rfl
  have HW := hid hw1
  have HX := hid hX
  have HB := hid hb
  have HM := hid hm
  clear hg hX hw1 hb hm
  go_enter Tryz.func139, Tryz.ntmps139
  go_upto_region 1 with (fail)
  rw [← HW.out]
  go_wp2
  clear x0
  go_loopw [4] (fun i wr => ∃ k : Nat, k ≤ c ∧ i = .int .i64 (k : Int) ∧ wr.heap[g]? = some (.cells cur 9 (0, 0)) ∧ wr.heap[w.heap.size]? = some (.cells #[.slice (some ⟨g, 0, none⟩) n c, .string m] 108 (0, 0)) ∧ w.grownBy wr none) (fun i _ => c - (intOf i).toNat)
  case atStart => exact ⟨0, Nat.zero_le _, rfl, HG.out, HX.out, HB.out⟩
  case round =>
    obtain ⟨k, hk, rfl, h1, hX, hb⟩ := hrel
    by_cases hlt : k < c
    · have x1 : wr.cell? ⟨w.heap.size, 1, none⟩ = some (.string m) := (cell_of_row _ _ 1 _ _ _ hX).trans rfl
      have x2 : wr.cell? ⟨g, k, none⟩ = some (.string m) := (cell_of_row _ _ k _ _ _ h1).trans (HM.out k hlt)
      have i0 : (0 : Int) ≤ (k : Int) := by omega
      have i1 : (k : Int) < (c : Int) := by omega
      have H1 := hid h1
      have HX2 := hid hX
      have HB2 := hid hb
      clear h1 hX hb
      go_upto_region 5 with (fail)
      go_quiet (fail)
      obtain ⟨w2, hw2⟩ : ∃ x, x = wr.drewN nq := ⟨_, rfl⟩
      rw [← hw2]
      have k1 : w2.heap[g]? = some (.cells cur 9 (0, 0)) := by rw [hw2]; exact H1.out
      have k2 : w2.heap[w.heap.size]? = some (.cells #[.slice (some ⟨g, 0, none⟩) n c, .string m] 108 (0, 0)) := by rw [hw2]; exact HX2.out
      have k3 : w.grownBy w2 none := by rw [hw2]; exact HB2.out.trans ⟨rfl, rfl, rfl, Nat.le_refl _, fun _ _ _ => rfl⟩
      have K1 := hid k1
      have K2 := hid k2
      have K3 := hid k3
      clear k1 k2 k3 hw2
      go_wp2
      go_roundw
      case rel => exact ⟨k + 1, by omega, by go_num, K1.out, K2.out, K3.out⟩
      case measure => simp [intOf]; omega
    · obtain rfl : k = c := by omega
      have HB := hid hb
      clear h1 hb hX
      go_wp2
      go_ret
      exact ⟨rfl, HB.out⟩
end Go.Proofs.Herb
namespace Go.Proofs.Herb
open Go.RowKit Go.Shelf
def laysMLay_ren : Go.Shelf.Ren := ⟨fun | 171 => 86 | 243 => 90 | 246 => 102 | 283 => 109 | 284 => 110 | 285 => 111 | 286 => 112 | 129 => 101 | 317 => 114 | 318 => 115 | 319 => 116 | 320 => 117 | 337 => 118 | 338 => 119 | n => n, fun | 3 => 3 | 9 => 9 | 2 => 2 | 4 => 4 | 171 => 138 | 0 => 0 | 53 => 101 | 37 => 31 | 5 => 5 | 173 => 140 | 212 => 147 | 51 => 129 | 20 => 20 | 213 => 148 | 46 => 119 | 232 => 150 | 233 => 151 | n => n, fun | 17 => 0 | 18 => 1 | 19 => 2 | n => n⟩
theorem laysMLay : Go.Proofs.LaysM.n171 Tryz.prog laysMLay_ren := {
  mixed := by kernel_rfl
  f129 := Tryz.func101.trans (congrArg some (by kernel_rfl))
  f171 := Tryz.func86.trans (congrArg some (by kernel_rfl))
  f243 := Tryz.func90.trans (congrArg some (by kernel_rfl))
  f246 := Tryz.func102.trans (congrArg some (by kernel_rfl))
  f283 := Tryz.func109.trans (congrArg some (by kernel_rfl))
  f284 := Tryz.func110.trans (congrArg some (by kernel_rfl))
  f285 := Tryz.func111.trans (congrArg some (by kernel_rfl))
  f286 := Tryz.func112.trans (congrArg some (by kernel_rfl))
  f317 := Tryz.func114.trans (congrArg some (by kernel_rfl))
  f318 := Tryz.func115.trans (congrArg some (by kernel_rfl))
  f319 := Tryz.func116.trans (congrArg some (by kernel_rfl))
  f320 := Tryz.func117.trans (congrArg some (by kernel_rfl))
  f337 := Tryz.func118.trans (congrArg some (by kernel_rfl))
  f338 := Tryz.func119.trans (congrArg some (by kernel_rfl))
  t0 := Tryz.underlying0
  a0 := Tryz.isAgg0
  z0 := Tryz.sizeOf0
  v0 := Tryz.zeroValue0
  t2 := Tryz.underlying2
  a2 := Tryz.isAgg2
  z2 := Tryz.sizeOf2
  v2 := Tryz.zeroValue2
  t3 := Tryz.underlying3
  a3 := Tryz.isAgg3
  z3 := Tryz.sizeOf3
  v3 := Tryz.zeroValue3
  t4 := Tryz.underlying4
  a4 := Tryz.isAgg4
  z4 := Tryz.sizeOf4
  v4 := Tryz.zeroValue4
  t5 := Tryz.underlying5
  a5 := Tryz.isAgg5
  z5 := Tryz.sizeOf5
  v5 := Tryz.zeroValue5
  t9 := Tryz.underlying9
  a9 := Tryz.isAgg9
  z9 := Tryz.sizeOf9
  v9 := Tryz.zeroValue9
  t20 := Tryz.underlying20
  a20 := Tryz.isAgg20
  z20 := Tryz.sizeOf20
  v20 := Tryz.zeroValue20
  t37 := Tryz.underlying31
  a37 := Tryz.isAgg31
  z37 := Tryz.sizeOf31
  v37 := Tryz.zeroValue31
  t46 := Tryz.underlying119
  a46 := Tryz.isAgg119
  z46 := Tryz.sizeOf119
  v46 := Tryz.zeroValue119
  t51 := Tryz.underlying129
  a51 := Tryz.isAgg129
  z51 := Tryz.sizeOf129
  v51 := Tryz.zeroValue129
  t53 := Tryz.underlying101
  a53 := Tryz.isAgg101
  z53 := Tryz.sizeOf101
  v53 := Tryz.zeroValue101
  t171 := Tryz.underlying138
  a171 := Tryz.isAgg138
  z171 := Tryz.sizeOf138
  v171 := Tryz.zeroValue138
  t173 := Tryz.underlying140
  a173 := Tryz.isAgg140
  z173 := Tryz.sizeOf140
  v173 := Tryz.zeroValue140
  t212 := Tryz.underlying147
  a212 := Tryz.isAgg147
  z212 := Tryz.sizeOf147
  v212 := Tryz.zeroValue147
  t213 := Tryz.underlying148
  a213 := Tryz.isAgg148
  z213 := Tryz.sizeOf148
  t232 := Tryz.underlying150
  a232 := Tryz.isAgg150
  z232 := Tryz.sizeOf150
  v232 := Tryz.zeroValue150
  t233 := Tryz.underlying151
  a233 := Tryz.isAgg151
  z233 := Tryz.sizeOf151
  v233 := Tryz.zeroValue151
  g17 := by kernel_rfl
  g18 := by kernel_rfl
  g19 := by kernel_rfl
  i0 := by kernel_rfl
  i2 := by kernel_rfl
  i3 := by kernel_rfl
  i4 := by kernel_rfl
  i5 := by kernel_rfl
  i9 := by kernel_rfl
  i20 := by kernel_rfl
  i37 := by kernel_rfl
  i46 := by kernel_rfl
  i51 := by kernel_rfl
  i53 := by kernel_rfl
  i171 := by kernel_rfl
  i173 := by kernel_rfl
  i212 := by kernel_rfl
  i232 := by kernel_rfl
  i233 := by kernel_rfl
  m17 := by kernel_rfl
  m18 := by kernel_rfl
  m19 := by kernel_rfl }
/-- the library's table of powers of ten reads as it was laid -/
def Pow10 (w : World) : Prop := Lib.TabIs Tryz.prog w "internal/strconv.uint64pow10" .u64 Lib.pow10Tab
theorem gPow10 : Tryz.prog.globalNamed "internal/strconv.uint64pow10" = some 0 := by kernel_rfl
theorem Pow10.below {w w' : World} {B : Nat} (h : Pow10 w) (hb : Below B w w') (hB : w.heap.size ≤ B) : Pow10 w' := Go.Joins.tab_stays gPow10 h hb hB
theorem itoa_any (n : Nat) (hn : n ≤ 9223372036854775807) (w : World) (ht : Pow10 w) :
    Calls Tryz.prog 86 #[.int .i64 (n : Int)] w fun e w' => e = .returned (.string ⟨(Lib.itoa (n : Int)).toArray⟩) ∧ Below w.heap.size w w' := by
  refine (Any.strconv_Itoa laysMLay (n : Int) (by omega) (by omega) w ht).mono ?_
  rintro e w' ⟨rfl, k, os, rfl⟩
  exact ⟨rfl, Lib.below_grow _ w (Nat.le_refl _) k os⟩
end Go.Proofs.Herb
namespace Go.Proofs.Herb
open Go.RowKit
attribute [local go_sem] Oper.semAt_some
theorem Pow10.on {w w' : World} {B : Nat} (h : Pow10 w) (hb : Below B w w') (hB : 0 < B) : Pow10 w' := by
  unfold Pow10 Lib.TabIs World.var? at *
  rw [gPow10] at *
  simp only [Option.bind_some] at *
  rw [hb.block _ hB]
  exact h
theorem infoSheet : (Tryz.prog.info? 110).map (fun i => (i.zero, i.size, i.bytes)) = some (some .nilIface, 1, 16) := by kernel_rfl
/-- a Book of the call's own, and its sheets of bytes -/
structure BookAt (w : World) (K base : Nat) (ss : List Sh) : Prop where
  row : ∃ q c, w.heap[K]? = some (.cells #[.slice q ss.length c] 84 (0, 0)) ∧ w.ownsRow base 110 1 (.slice q ss.length c) ss.length (ss.map Sh.v)
/-- what keeps all blocks but a Book's -/
def KpB (w w' : World) : Prop := w.heap.size ≤ w'.heap.size ∧ ∀ (g : Nat) (cs : Array Value) (t : TypeId) (fr : Nat × Nat), w.heap[g]? = some (.cells cs t fr) → t ≠ 84 → t ≠ 110 → w'.heap[g]? = w.heap[g]?
theorem KpB.refl (w : World) : KpB w w := ⟨Nat.le_refl _, fun _ _ _ _ _ _ _ => rfl⟩
theorem KpB.trans {a b c : World} (h : KpB a b) (k : KpB b c) : KpB a c := ⟨Nat.le_trans h.1 k.1, fun g cs t fr hg h1 h2 => (k.2 g cs t fr ((h.2 g cs t fr hg h1 h2).trans hg) h1 h2).trans (h.2 g cs t fr hg h1 h2)⟩
theorem KpB.of_below {w w' : World} (h : Below w.heap.size w w') : KpB w w' := ⟨h.size, fun g _ _ _ hg _ _ => h.block g (Array.getElem?_eq_some_iff.1 hg).1⟩
theorem BookAt.below {w w' : World} {K base : Nat} {ss : List Sh} (h : BookAt w K base ss) (hb : Below w.heap.size w w') : BookAt w' K base ss := by
  obtain ⟨q, c, h1, h2⟩ := h.row
  exact ⟨q, c, (hb.block K (Array.getElem?_eq_some_iff.1 h1).1).trans h1, own_below h2 hb⟩
set_option maxRecDepth 100000 in
set_option maxHeartbeats 1000000 in
theorem mark_any (K base : Nat) (ss : List Sh) (w : World) (h : BookAt w K base ss) (hl : ss.length ≤ 1000000) (ht : Pow10 w) :
    Calls Tryz.prog 77 #[.pointer (some ⟨K, 0, none⟩)] w fun e w' => (∃ S, e = .returned (.tuple #[.int .u64 ((ss.length + 1 : Nat) : Int), .string S])) ∧ Below w.heap.size w w' := by
  obtain ⟨q, c, h1, h2⟩ := h.row
  obtain ⟨N, hN⟩ : ∃ N, N = ss.length := ⟨_, rfl⟩
  rw [← hN] at h1 h2 hl ⊢
  have k0 : w.cell? ⟨K, 0, none⟩ = some (.slice q N c) := (cell_of_row _ _ 0 _ _ _ h1).trans rfl
  have HT := hid ht
  have HI := itoa_any (N + 1) (by omega) w HT.out
  rw [show ((N + 1 : Nat) : Int) = (N : Int) + 1 by omega] at HI ⊢
  have HI2 := hid HI
  clear h h1 h2 hN ht HI
  go_enter Tryz.func77, Tryz.ntmps77
  go_wp2_with fail
  refine HI2.out.mono ?_
  rintro e w' ⟨rfl, hb⟩
  have HB := hid hb
  obtain ⟨S, hS⟩ : ∃ S : ByteArray, S = ⟨(Lib.itoa ((N : Int) + 1)).toArray⟩ := ⟨_, rfl⟩
  have hSz : S.size ≤ 21 := by
    rw [hS]
    have h := Lib.itoa_length_le ((N : Int) + 1) (by omega) (by omega)
    simpa [ByteArray.size] using h
  rw [← hS]
  clear hb hS
  go_wp2
  go_ret2
  exact ⟨⟨_, rfl⟩, HB.out⟩
theorem own_keep0 {w w' : World} {base : Nat} {e : TypeId} {k : Nat} {v : Value} {n : Nat} {xs : List Value} (h : w.ownsRow base e k v n xs) (hb : ∀ g, v.ownBlock = some g → w'.heap[g]? = w.heap[g]?) : w'.ownsRow base e k v n xs := by
  obtain ⟨h1, h2⟩ := h
  refine ⟨h1, ?_⟩
  rcases h2 with h2 | ⟨g, cap, cur, e, hl, hh, r⟩
  · exact .inl h2
  · exact .inr ⟨g, cap, cur, e, hl, (hb g (by rw [e]; rfl)).trans hh, r⟩
theorem keep_done {w W : World} {K base N c c2 : Nat} {q q2 : Option Addr} {xs ys : List Value} {tmp : Obj} (h1 : w.heap[K]? = some (.cells #[.slice q N c] 84 (0, 0))) (h2 : w.ownsRow base 110 1 (.slice q N c) N xs)
    (hown : W.ownsRow base 110 1 (.slice q2 (N + 1) c2) (N + 1) ys) (hg : (w.alloc tmp).grownBy W (Value.slice q N c).ownBlock) (hK : base ≤ K) (hbs : base ≤ w.heap.size) :
    W.heap[K]? = some (.cells #[.slice q N c] 84 (0, 0)) ∧ (W.setCell ⟨K, 0, none⟩ (.slice q2 (N + 1) c2)).heap[K]? = some (.cells #[.slice q2 (N + 1) c2] 84 (0, 0)) ∧
      (W.setCell ⟨K, 0, none⟩ (.slice q2 (N + 1) c2)).ownsRow base 110 1 (.slice q2 (N + 1) c2) (N + 1) ys ∧ KpB w (W.setCell ⟨K, 0, none⟩ (.slice q2 (N + 1) c2)) ∧ Below base w (W.setCell ⟨K, 0, none⟩ (.slice q2 (N + 1) c2)) := by
  have hKl := (Array.getElem?_eq_some_iff.1 h1).1
  have ob : ∀ g, (Value.slice q N c).ownBlock = some g → base ≤ g ∧ ∃ cur, w.heap[g]? = some (.cells cur 110 (0, 0)) := by
    intro g hg'
    rcases h2.2 with ⟨e, _⟩ | ⟨g', cap, cur, e, hb, hh, _⟩
    · rw [e] at hg'; cases hg'
    · rw [e] at hg'; cases hg'; exact ⟨hb, cur, hh⟩
  have ob2 : ∀ g, (Value.slice q2 (N + 1) c2).ownBlock = some g → ∃ cur, W.heap[g]? = some (.cells cur 110 (0, 0)) := by
    intro g hg'
    rcases hown.2 with ⟨e, _⟩ | ⟨g', cap, cur, e, hb, hh, _⟩
    · rw [e] at hg'; cases hg'
    · rw [e] at hg'; cases hg'; exact ⟨cur, hh⟩
  have hs := hg.size
  rw [World.size_alloc] at hs
  have same : ∀ g, g < w.heap.size → (Value.slice q N c).ownBlock ≠ some g → W.heap[g]? = w.heap[g]? := fun g hl hne =>
    (hg.block g (by rw [World.size_alloc]; omega) (fun e => hne e.symm)).trans (Below.heap_alloc _ _ _ hl)
  have hKW := (same K hKl (fun e => by obtain ⟨_, cur, hh⟩ := ob K e; rw [h1] at hh; cases hh)).trans h1
  refine ⟨hKW, (heap_setCell_same _ _ 0 _ _ _ hKW).trans rfl, own_keep0 hown (fun g hg' => heap_setCell_other _ _ _ _ (fun e => by subst e; obtain ⟨cur, hh⟩ := ob2 _ hg'; rw [hKW] at hh; cases hh)), ⟨by simp [World.setCell]; omega, fun g cs t fr hgc t1 t2 => ?_⟩, ?_⟩
  · have hgl := (Array.getElem?_eq_some_iff.1 hgc).1
    rw [heap_setCell_other _ _ _ _ (show g ≠ K from fun e => by subst e; rw [h1] at hgc; cases hgc; exact t1 rfl)]
    exact same g hgl (fun e => by obtain ⟨_, cur, hh⟩ := ob g e; rw [hgc] at hh; cases hh; exact t2 rfl)
  · exact ((((Below.refl base w).alloc hbs tmp).grown hg (by rw [World.size_alloc]; omega) (fun k e => (ob k e).1)).setCell (p := ⟨K, 0, none⟩) hK _)
set_option maxRecDepth 100000 in
set_option maxHeartbeats 1000000 in
theorem keep_any (K base : Nat) (ss : List Sh) (s : Sh) (w : World) (h : BookAt w K base ss) (hl : ss.length ≤ 1000000) (hK : base ≤ K) (hbs : base ≤ w.heap.size) :
    Calls Tryz.prog 78 #[.pointer (some ⟨K, 0, none⟩), s.v] w fun e w' => e = .returned (.tuple #[]) ∧ BookAt w' K base (ss ++ [s]) ∧ KpB w w' ∧ Below base w w' := by
  obtain ⟨q, c, h1, h2⟩ := h.row
  obtain ⟨N, hN⟩ : ∃ N, N = ss.length := ⟨_, rfl⟩
  rw [← hN] at h1 h2 hl
  have k0 : w.cell? ⟨K, 0, none⟩ = some (.slice q N c) := (cell_of_row _ _ 0 _ _ _ h1).trans rfl
  obtain ⟨G, hV⟩ : ∃ G, G = s.agg := ⟨_, rfl⟩
  obtain ⟨T, hT⟩ : ∃ T, T = s.t := ⟨_, rfl⟩
  show Calls _ _ #[_, .iface s.t s.agg] _ _
  rw [← hV, ← hT]
  have HT := hid hT
  obtain ⟨i0, hi, hz0, hz1, hz2⟩ := info_parts infoSheet
  have k0 : w.cell? ⟨K, 0, none⟩ = some (.slice q N c) := (cell_of_row _ _ 0 _ _ _ h1).trans rfl
  have HV := hid hV
  have H1 := hid h1
  have H2 := hid h2
  have HN := hid hN
  clear h h1 h2 hN hV hT
  go_enter Tryz.func78, Tryz.ntmps78
  go_wp2_with (at_builtin; refine wpList_append_own _ rfl (.tmp 8) (.tmp 10) 82 rfl base 110 i0 .nilIface 1 16 Tryz.underlying82 hi hz0 hz1 hz2 rfl (by decide) (.slice q N c) N (ss.map Sh.v) rfl (H2.out.alloc _) ⟨w.heap.size, 0, none⟩ 1 1 [.iface T G] rfl rfl (cell_one_new _ _ _) (by simp [Value.oneCell']) (by unfold maxLen; omega) (by omega) (by simp; omega) ?_; intro v' w1 hown hg _; obtain ⟨q2, c2, rfl⟩ : ∃ q2 c2, v' = .slice q2 (N + 1) c2 := (by obtain ⟨g2, c2, e⟩ := ownsRow_succ hown; exact ⟨_, _, e⟩); have HD := hid (keep_done H1.out H2.out hown hg hK hbs); have k1 : w1.cell? ⟨K, 0, none⟩ = some (.slice q N c) := (cell_of_row _ _ 0 _ _ _ HD.out.1).trans rfl; have f1 : w1.frozen? ⟨K, 0, none⟩ = false := frozen_of_row _ _ _ _ _ HD.out.1; clear hown hg k0)
  refine bodyPost_end (results_none rfl _ _ _) rfl ?_
  refine ⟨rfl, ⟨_, _, by rw [List.length_append, ← HN.out]; exact HD.out.2.1, by rw [List.length_append, ← HN.out, List.map_append]; simpa [HV.out, HT.out, Sh.v] using HD.out.2.2.1⟩, HD.out.2.2.2.1, HD.out.2.2.2.2⟩
end Go.Proofs.Herb
namespace Go.Proofs.Herb
open Go.RowKit
attribute [local go_sem] Oper.semAt_some
set_option maxRecDepth 100000 in
set_option maxHeartbeats 1000000 in
theorem bytes_any (K base : Nat) (ss : List Sh) (q : Option Addr) (n c : Nat) (w : World) (h : BookAt w K base ss) (hl : ss.length ≤ 1000000) (hK : base ≤ K) (hbs : base ≤ w.heap.size) (ht : Pow10 w) :
    Calls Tryz.prog 43 #[.pointer (some ⟨K, 0, none⟩), .slice q n c] w fun e w' => e = .returned (.tuple #[]) ∧ ∃ m : Nat, BookAt w' K base (ss ++ [⟨q, n, c, 106, 5, .int .u8 (m : Int)⟩]) ∧ KpB w w' ∧ Below base w w' := by
  have HM := hid (mark_any K base ss w h hl ht)
  have H := hid h
  clear h ht
  go_enter Tryz.func43, Tryz.ntmps43
  go_wp2_with fail
  refine HM.out.mono ?_
  rintro e w1 ⟨⟨S, rfl⟩, hb1⟩
  have HB1 := hid hb1
  have hs1 := hb1.size
  obtain ⟨M, hM⟩ : ∃ M, M = (ss.length + 1) % 256 := ⟨_, rfl⟩
  have i0 : (((ss.length + 1 : Nat) : Int) % 256) = (M : Int) := by omega
  obtain ⟨L, hL⟩ : ∃ L, L = ss.length + 1 := ⟨_, rfl⟩
  rw [← hL] at i0 ⊢
  have HK := hid (keep_any K base ss ⟨q, n, c, 106, 5, .int .u8 (M : Int)⟩ w1 (H.out.below hb1) hl hK (by omega))
  clear hb1 hM hL
  go_wp2_with fail
  refine HK.out.mono ?_
  rintro e w2 ⟨rfl, h1, h2, h3⟩
  have H1 := hid h1
  have H2 := hid h2
  have H3 := hid h3
  clear h1 h2 h3
  go_wp2
  go_end0
  exact ⟨rfl, M, H1.out, (KpB.of_below HB1.out).trans H2.out, (HB1.out.mono hbs).trans H3.out⟩
set_option maxRecDepth 100000 in
set_option maxHeartbeats 1000000 in
theorem texts_any (K base : Nat) (ss : List Sh) (q : Option Addr) (n c : Nat) (w : World) (h : BookAt w K base ss) (hl : ss.length ≤ 1000000) (hK : base ≤ K) (hbs : base ≤ w.heap.size) (ht : Pow10 w) :
    Calls Tryz.prog 44 #[.pointer (some ⟨K, 0, none⟩), .slice q n c] w fun e w' => e = .returned (.tuple #[]) ∧ ∃ S : ByteArray, BookAt w' K base (ss ++ [⟨q, n, c, 108, 9, .string S⟩]) ∧ KpB w w' ∧ Below base w w' := by
  have HM := hid (mark_any K base ss w h hl ht)
  have H := hid h
  clear h ht
  go_enter Tryz.func44, Tryz.ntmps44
  go_wp2_with fail
  refine HM.out.mono ?_
  rintro e w1 ⟨⟨S, rfl⟩, hb1⟩
  have HB1 := hid hb1
  have hs1 := hb1.size
  obtain ⟨L, hL⟩ : ∃ L, L = ss.length + 1 := ⟨_, rfl⟩
  rw [← hL]
  have HK := hid (keep_any K base ss ⟨q, n, c, 108, 9, .string S⟩ w1 (H.out.below hb1) hl hK (by omega))
  clear hb1 hL
  go_wp2_with fail
  refine HK.out.mono ?_
  rintro e w2 ⟨rfl, h1, h2, h3⟩
  have H1 := hid h1
  have H2 := hid h2
  have H3 := hid h3
  clear h1 h2 h3
  go_wp2
  go_end0
  exact ⟨rfl, S, H1.out, (KpB.of_below HB1.out).trans H2.out, (HB1.out.mono hbs).trans H3.out⟩
theorem Fr.kpB {w w' : World} {base : Nat} {e : TypeId} {k : Nat} {v : Value} {n : Nat} {xs : List Value} (h : Fr w base e k v n xs) (hk : KpB w w') (h1 : e ≠ 84) (h2 : e ≠ 110) : Fr w' base e k v n xs := by
  obtain ⟨f1, f2⟩ := h
  refine ⟨f1, ?_⟩
  rcases f2 with f2 | ⟨g, cap, cur, hv, hg, hh, r⟩
  · exact .inl f2
  · exact .inr ⟨g, cap, cur, hv, hg, (hk.2 g _ _ _ hh h1 h2).trans hh, r⟩
theorem ShK.e {s : Sh} (h : ShK s) : s.e ≠ 84 ∧ s.e ≠ 110 := by
  rcases h with ⟨_, e, _⟩ | ⟨_, e, _⟩ <;> rw [e] <;> exact ⟨by decide, by decide⟩
theorem ShRow.kpB {w w' : World} {s : Sh} {k : Nat} (h : ShRow w s k) (hk : KpB w w') : ShRow w' s k := by
  obtain ⟨h1, h2, h3, h4⟩ := h
  refine ⟨h1, h2, h3, ?_⟩
  rcases h4 with h4 | ⟨g, cur, e1, e2, e3, e4⟩
  · exact .inl h4
  · exact .inr ⟨g, cur, e1, (hk.2 g _ _ _ e2 h3.e.1 h3.e.2).trans e2, e3, e4⟩
theorem ShRow.of_fr {w : World} {base n : Nat} {s : Sh} {xs : List Value} (h : Fr w base s.e 1 s.sl n xs) (hm : ShK s) : ShRow w s 0 ∧ ∀ g, s.blk = some g → base ≤ g ∧ g < w.heap.size := by
  obtain ⟨q, n', c, t, e, mk⟩ := s
  rcases h.2 with ⟨e, hn⟩ | ⟨g, cap, cur, e, hg, hh, h1, h2, h3, h4⟩
  · unfold Sh.sl at e
    cases e
    exact ⟨⟨Nat.le_refl _, Nat.zero_le _, hm, .inl ⟨rfl, rfl⟩⟩, fun g hg => by cases hg⟩
  · unfold Sh.sl at e
    cases e
    refine ⟨⟨h1, h2, hm, .inr ⟨g, cur, rfl, hh, by rw [Nat.mul_one] at h3; exact h3, fun i hi => absurd hi (Nat.not_lt_zero _)⟩⟩, fun g' hg' => ?_⟩
    cases hg'
    exact ⟨hg, (Array.getElem?_eq_some_iff.1 hh).1⟩
/-- two sheets share no row -/
def AheadS (s t : Sh) : Prop := ∀ g h, s.blk = some g → t.blk = some h → g ≠ h
/-- sheets whose rows lie in these blocks and share none -/
structure ShsOk (w : World) (lo hi : Nat) (hs : List Sh) : Prop where
  row : ∀ s ∈ hs, ShRow w s 0
  lo : ∀ s ∈ hs, ∀ g, s.blk = some g → lo ≤ g
  hi : ∀ s ∈ hs, ∀ g, s.blk = some g → g < hi
  ap : hs.Pairwise AheadS
theorem ShsOk.kpB {w w' : World} {lo hi : Nat} {hs : List Sh} (h : ShsOk w lo hi hs) (hk : KpB w w') : ShsOk w' lo hi hs := ⟨fun s hs => (h.row s hs).kpB hk, h.lo, h.hi, h.ap⟩
theorem ShsOk.append {w : World} {lo mid hi : Nat} {hs ks : List Sh} (h : ShsOk w lo mid hs) (k : ShsOk w mid hi ks) (h1 : mid ≤ hi) (h2 : lo ≤ mid) : ShsOk w lo hi (hs ++ ks) := by
  refine ⟨fun s hs' => ?_, fun s hs' => ?_, fun s hs' => ?_, List.pairwise_append.2 ⟨h.ap, k.ap, fun a ha b hb g g' hg hg' => Nat.ne_of_lt (Nat.lt_of_lt_of_le (h.hi a ha g hg) (k.lo b hb g' hg'))⟩⟩
  all_goals rcases List.mem_append.1 hs' with q | q
  · exact h.row s q
  · exact k.row s q
  · exact h.lo s q
  · intro g hg; exact Nat.le_trans h2 (k.lo s q g hg)
  · intro g hg; exact Nat.lt_of_lt_of_le (h.hi s q g hg) h1
  · exact k.hi s q
theorem sl_blk (s : Sh) : s.sl.ownBlock = s.blk := by obtain ⟨q, n, c, t, e, m⟩ := s; cases q <;> rfl
/-- one sheet more, whose row lies below the others' -/
theorem ShsOk.snoc {w : World} {lo mid hi : Nat} {hs : List Sh} {s : Sh} (h : ShsOk w mid hi hs) (h1 : ShRow w s 0) (h2 : ∀ g, s.blk = some g → lo ≤ g ∧ g < mid) (h3 : lo ≤ mid) (h4 : mid ≤ hi) : ShsOk w lo hi (hs ++ [s]) := by
  refine ⟨fun x hx => ?_, fun x hx => ?_, fun x hx => ?_, List.pairwise_append.2 ⟨h.ap, List.pairwise_singleton _ _, fun a ha b hb g g' hg hg' => ?_⟩⟩
  · rcases List.mem_append.1 hx with q | q
    · exact h.row x q
    · rw [List.mem_singleton.1 q]; exact h1
  · rcases List.mem_append.1 hx with q | q
    · intro g hg; exact Nat.le_trans h3 (h.lo x q g hg)
    · rw [List.mem_singleton.1 q]; exact fun g hg => (h2 g hg).1
  · rcases List.mem_append.1 hx with q | q
    · exact h.hi x q
    · rw [List.mem_singleton.1 q]; exact fun g hg => Nat.lt_of_lt_of_le (h2 g hg).2 h4
  · rw [List.mem_singleton.1 hb] at hg'
    have := h.lo a ha g hg
    have := h2 g' hg'
    omega
theorem ShsOk.nil (w : World) (lo hi : Nat) : ShsOk w lo hi [] := ⟨fun _ h => (by cases h), fun _ h => (by cases h), fun _ h => (by cases h), List.Pairwise.nil⟩
theorem ShsOk.one {w : World} {lo hi : Nat} {s : Sh} (h1 : ShRow w s 0) (h2 : ∀ g, s.blk = some g → lo ≤ g ∧ g < hi) : ShsOk w lo hi [s] :=
  ⟨fun _ hx => List.mem_singleton.1 hx ▸ h1, fun _ hx => List.mem_singleton.1 hx ▸ fun g hg => (h2 g hg).1, fun _ hx => List.mem_singleton.1 hx ▸ fun g hg => (h2 g hg).2, List.pairwise_singleton _ _⟩
theorem ShsOk.lower {w : World} {lo lo' hi : Nat} {hs : List Sh} (h : ShsOk w lo hi hs) (hl : lo' ≤ lo) : ShsOk w lo' hi hs := ⟨h.row, fun s hs g hg => Nat.le_trans hl (h.lo s hs g hg), h.hi, h.ap⟩
theorem Pow10.lt {w : World} (h : Pow10 w) : 0 < w.heap.size := by
  unfold Pow10 Lib.TabIs World.var? at h
  rw [gPow10] at h
  simp only [Option.bind_some] at h
  rcases Nat.lt_or_ge 0 w.heap.size with q | q
  · exact q
  · rw [Array.getElem?_eq_none q] at h; cases h
end Go.Proofs.Herb
namespace Go.Proofs.Herb
open Go.RowKit
attribute [local go_sem] Oper.semAt_some
theorem sh_cases {w : World} {s : Sh} {k : Nat} (h : ShRow w s k) : (s = ⟨none, 0, 0, s.t, s.e, s.m⟩ ∧ ShK s) ∨ ∃ g cur, s = ⟨some ⟨g, 0, none⟩, s.n, s.c, s.t, s.e, s.m⟩ ∧ s.n ≤ s.c ∧ s.c ≤ maxLen ∧ ShK s ∧ w.heap[g]? = some (.cells cur s.e (0, 0)) ∧ s.c ≤ cur.size ∧ ∀ i, i < k → cur[i]? = some s.m := by
  obtain ⟨q, n, c, t, e, m⟩ := s
  obtain ⟨h1, h2, h3, h4⟩ := h
  rcases h4 with ⟨e1, e2⟩ | ⟨g, cur, e1, e2, e3, e4⟩
  · dsimp only at e1 e2 h1
    subst e1; subst e2
    exact .inl ⟨by rw [Nat.le_zero.1 h1], h3⟩
  · dsimp only at e1
    subst e1
    exact .inr ⟨g, cur, rfl, h1, h2, h3, e2, e3, e4⟩
theorem m_paint (k : Nat) (q : Option Addr) (n c : Nat) (x : Int) (w : World) : (method (k + 1) 106 (.agg #[.slice q n c, .int .u8 x]) "herbarium/herbariumlaw01.paint").run Tryz.prog w = .ok (137, .agg #[.slice q n c, .int .u8 x]) w := by kernel_rfl
theorem tm_paint (k : Nat) (q : Option Addr) (n c : Nat) (x : ByteArray) (w : World) : (method (k + 1) 108 (.agg #[.slice q n c, .string x]) "herbarium/herbariumlaw01.paint").run Tryz.prog w = .ok (140, .agg #[.slice q n c, .string x]) w := by kernel_rfl
theorem m_spill (k : Nat) (q : Option Addr) (n c : Nat) (x : Int) (w : World) : (method (k + 1) 106 (.agg #[.slice q n c, .int .u8 x]) "herbarium/herbariumlaw01.spill").run Tryz.prog w = .ok (138, .agg #[.slice q n c, .int .u8 x]) w := by kernel_rfl
theorem tm_spill (k : Nat) (q : Option Addr) (n c : Nat) (x : ByteArray) (w : World) : (method (k + 1) 108 (.agg #[.slice q n c, .string x]) "herbarium/herbariumlaw01.spill").run Tryz.prog w = .ok (141, .agg #[.slice q n c, .string x]) w := by kernel_rfl
theorem m_clean (k : Nat) (q : Option Addr) (n c : Nat) (x : Int) (w : World) : (method (k + 1) 106 (.agg #[.slice q n c, .int .u8 x]) "herbarium/herbariumlaw01.clean").run Tryz.prog w = .ok (136, .agg #[.slice q n c, .int .u8 x]) w := by kernel_rfl
theorem tm_clean (k : Nat) (q : Option Addr) (n c : Nat) (x : ByteArray) (w : World) : (method (k + 1) 108 (.agg #[.slice q n c, .string x]) "herbarium/herbariumlaw01.clean").run Tryz.prog w = .ok (139, .agg #[.slice q n c, .string x]) w := by kernel_rfl
theorem paint_any (s : Sh) (w : World) (h : ShRow w s 0) :
    ∃ fn, (∀ k W, (method (k + 1) s.t s.agg "herbarium/herbariumlaw01.paint").run Tryz.prog W = .ok (fn, s.agg) W) ∧ (∀ W, (callFunc fn #[s.agg]).run Tryz.prog W = .ok (.enter fn #[s.agg]) W) ∧ Calls Tryz.prog fn #[s.agg] w fun e w' => e = .returned (.tuple #[]) ∧ ShRow w' s s.n ∧ w.grownBy w' s.blk := by
  rcases h.2.2.1 with ⟨e1, e2, m, e3⟩ | ⟨e1, e2, m, e3⟩
  · refine ⟨137, fun k W => by unfold Sh.agg; rw [e1, e3]; exact m_paint k s.q s.n s.c m W, fun W => (by kernel_rfl), ?_⟩
    rcases sh_cases h with ⟨e, hm⟩ | ⟨g, cur, e, h1, h2, h3, h4, h5, h6⟩
    · have eq : s.q = none := congrArg Sh.q e
      have en : s.n = 0 := congrArg Sh.n e
      have ec : s.c = 0 := congrArg Sh.c e
      have ea : s.agg = .agg #[.slice none 0 0, .int .u8 (m : Int)] := by unfold Sh.agg; rw [eq, en, ec, e3]
      rw [ea]
      refine (paint_none m w).mono ?_
      exact fun _ _ ⟨a, b⟩ => ⟨a, ⟨by rw [en, ec]; exact Nat.le_refl _, by rw [ec]; exact Nat.zero_le _, h.2.2.1, .inl ⟨eq, ec⟩⟩, by unfold Sh.blk; rw [eq]; exact b⟩
    · have eq : s.q = some ⟨g, 0, none⟩ := congrArg Sh.q e
      have ea : s.agg = .agg #[.slice (some ⟨g, 0, none⟩) s.n s.c, .int .u8 (m : Int)] := by unfold Sh.agg; rw [eq, e3]
      rw [e2] at h4
      rw [ea]
      refine (paint_row g s.n s.c m cur w h4 h5 h1 h2).mono ?_
      rintro e' w' ⟨a, ⟨cur', b1, b2, b3⟩, cc⟩
      exact ⟨a, ⟨h1, h2, h3, .inr ⟨g, cur', eq, by rw [e2]; exact b1, b2, by rw [e3]; exact b3⟩⟩, by unfold Sh.blk; rw [eq]; exact cc⟩
  · refine ⟨140, fun k W => by unfold Sh.agg; rw [e1, e3]; exact tm_paint k s.q s.n s.c m W, fun W => (by kernel_rfl), ?_⟩
    rcases sh_cases h with ⟨e, hm⟩ | ⟨g, cur, e, h1, h2, h3, h4, h5, h6⟩
    · have eq : s.q = none := congrArg Sh.q e
      have en : s.n = 0 := congrArg Sh.n e
      have ec : s.c = 0 := congrArg Sh.c e
      have ea : s.agg = .agg #[.slice none 0 0, .string m] := by unfold Sh.agg; rw [eq, en, ec, e3]
      rw [ea]
      refine (tpaint_none m w).mono ?_
      exact fun _ _ ⟨a, b⟩ => ⟨a, ⟨by rw [en, ec]; exact Nat.le_refl _, by rw [ec]; exact Nat.zero_le _, h.2.2.1, .inl ⟨eq, ec⟩⟩, by unfold Sh.blk; rw [eq]; exact b⟩
    · have eq : s.q = some ⟨g, 0, none⟩ := congrArg Sh.q e
      have ea : s.agg = .agg #[.slice (some ⟨g, 0, none⟩) s.n s.c, .string m] := by unfold Sh.agg; rw [eq, e3]
      rw [e2] at h4
      rw [ea]
      refine (tpaint_row g s.n s.c m cur w h4 h5 h1 h2).mono ?_
      rintro e' w' ⟨a, ⟨cur', b1, b2, b3⟩, cc⟩
      exact ⟨a, ⟨h1, h2, h3, .inr ⟨g, cur', eq, by rw [e2]; exact b1, b2, by rw [e3]; exact b3⟩⟩, by unfold Sh.blk; rw [eq]; exact cc⟩
theorem spill_any (s : Sh) (w : World) (h : ShRow w s s.n) :
    ∃ fn, (∀ k W, (method (k + 1) s.t s.agg "herbarium/herbariumlaw01.spill").run Tryz.prog W = .ok (fn, s.agg) W) ∧ (∀ W, (callFunc fn #[s.agg]).run Tryz.prog W = .ok (.enter fn #[s.agg]) W) ∧ Calls Tryz.prog fn #[s.agg] w fun e w' => e = .returned (.tuple #[]) ∧ ShRow w' s s.c ∧ w.grownBy w' s.blk := by
  rcases h.2.2.1 with ⟨e1, e2, m, e3⟩ | ⟨e1, e2, m, e3⟩
  · refine ⟨138, fun k W => by unfold Sh.agg; rw [e1, e3]; exact m_spill k s.q s.n s.c m W, fun W => (by kernel_rfl), ?_⟩
    rcases sh_cases h with ⟨e, hm⟩ | ⟨g, cur, e, h1, h2, h3, h4, h5, h6⟩
    · have eq : s.q = none := congrArg Sh.q e
      have en : s.n = 0 := congrArg Sh.n e
      have ec : s.c = 0 := congrArg Sh.c e
      have ea : s.agg = .agg #[.slice none 0 0, .int .u8 (m : Int)] := by unfold Sh.agg; rw [eq, en, ec, e3]
      rw [ea]
      refine (spill_none m w).mono ?_
      exact fun _ _ ⟨a, b⟩ => ⟨a, ⟨by rw [en, ec]; exact Nat.le_refl _, by rw [ec]; exact Nat.zero_le _, h.2.2.1, .inl ⟨eq, ec⟩⟩, by unfold Sh.blk; rw [eq]; exact b⟩
    · have eq : s.q = some ⟨g, 0, none⟩ := congrArg Sh.q e
      have ea : s.agg = .agg #[.slice (some ⟨g, 0, none⟩) s.n s.c, .int .u8 (m : Int)] := by unfold Sh.agg; rw [eq, e3]
      rw [e2] at h4
      rw [e3] at h6
      rw [ea]
      refine (spill_row g s.n s.c m cur w h4 h5 h1 h2 h6).mono ?_
      rintro e' w' ⟨a, ⟨cur', b1, b2, b3⟩, cc⟩
      exact ⟨a, ⟨h1, h2, h3, .inr ⟨g, cur', eq, by rw [e2]; exact b1, b2, by rw [e3]; exact b3⟩⟩, by unfold Sh.blk; rw [eq]; exact cc⟩
  · refine ⟨141, fun k W => by unfold Sh.agg; rw [e1, e3]; exact tm_spill k s.q s.n s.c m W, fun W => (by kernel_rfl), ?_⟩
    rcases sh_cases h with ⟨e, hm⟩ | ⟨g, cur, e, h1, h2, h3, h4, h5, h6⟩
    · have eq : s.q = none := congrArg Sh.q e
      have en : s.n = 0 := congrArg Sh.n e
      have ec : s.c = 0 := congrArg Sh.c e
      have ea : s.agg = .agg #[.slice none 0 0, .string m] := by unfold Sh.agg; rw [eq, en, ec, e3]
      rw [ea]
      refine (tspill_none m w).mono ?_
      exact fun _ _ ⟨a, b⟩ => ⟨a, ⟨by rw [en, ec]; exact Nat.le_refl _, by rw [ec]; exact Nat.zero_le _, h.2.2.1, .inl ⟨eq, ec⟩⟩, by unfold Sh.blk; rw [eq]; exact b⟩
    · have eq : s.q = some ⟨g, 0, none⟩ := congrArg Sh.q e
      have ea : s.agg = .agg #[.slice (some ⟨g, 0, none⟩) s.n s.c, .string m] := by unfold Sh.agg; rw [eq, e3]
      rw [e2] at h4
      rw [e3] at h6
      rw [ea]
      refine (tspill_row g s.n s.c m cur w h4 h5 h1 h2 h6).mono ?_
      rintro e' w' ⟨a, ⟨cur', b1, b2, b3⟩, cc⟩
      exact ⟨a, ⟨h1, h2, h3, .inr ⟨g, cur', eq, by rw [e2]; exact b1, b2, by rw [e3]; exact b3⟩⟩, by unfold Sh.blk; rw [eq]; exact cc⟩
theorem clean_any (s : Sh) (w : World) (h : ShRow w s s.c) :
    ∃ fn, (∀ k W, (method (k + 1) s.t s.agg "herbarium/herbariumlaw01.clean").run Tryz.prog W = .ok (fn, s.agg) W) ∧ (∀ W, (callFunc fn #[s.agg]).run Tryz.prog W = .ok (.enter fn #[s.agg]) W) ∧ Calls Tryz.prog fn #[s.agg] w fun e w' => e = .returned (.bool true) ∧ w.grownBy w' none := by
  rcases h.2.2.1 with ⟨e1, e2, m, e3⟩ | ⟨e1, e2, m, e3⟩
  · refine ⟨136, fun k W => by unfold Sh.agg; rw [e1, e3]; exact m_clean k s.q s.n s.c m W, fun W => (by kernel_rfl), ?_⟩
    rcases sh_cases h with ⟨e, hm⟩ | ⟨g, cur, e, h1, h2, h3, h4, h5, h6⟩
    · have eq : s.q = none := congrArg Sh.q e
      have en : s.n = 0 := congrArg Sh.n e
      have ec : s.c = 0 := congrArg Sh.c e
      have ea : s.agg = .agg #[.slice none 0 0, .int .u8 (m : Int)] := by unfold Sh.agg; rw [eq, en, ec, e3]
      rw [ea]
      refine (clean_none m w).mono ?_
      exact fun _ _ h => h
    · have eq : s.q = some ⟨g, 0, none⟩ := congrArg Sh.q e
      have ea : s.agg = .agg #[.slice (some ⟨g, 0, none⟩) s.n s.c, .int .u8 (m : Int)] := by unfold Sh.agg; rw [eq, e3]
      rw [e2] at h4
      rw [e3] at h6
      rw [ea]
      refine (clean_row g s.n s.c m cur w h4 h5 h1 h2 h6).mono ?_
      exact fun _ _ h => h
  · refine ⟨139, fun k W => by unfold Sh.agg; rw [e1, e3]; exact tm_clean k s.q s.n s.c m W, fun W => (by kernel_rfl), ?_⟩
    rcases sh_cases h with ⟨e, hm⟩ | ⟨g, cur, e, h1, h2, h3, h4, h5, h6⟩
    · have eq : s.q = none := congrArg Sh.q e
      have en : s.n = 0 := congrArg Sh.n e
      have ec : s.c = 0 := congrArg Sh.c e
      have ea : s.agg = .agg #[.slice none 0 0, .string m] := by unfold Sh.agg; rw [eq, en, ec, e3]
      rw [ea]
      refine (tclean_none m w).mono ?_
      exact fun _ _ h => h
    · have eq : s.q = some ⟨g, 0, none⟩ := congrArg Sh.q e
      have ea : s.agg = .agg #[.slice (some ⟨g, 0, none⟩) s.n s.c, .string m] := by unfold Sh.agg; rw [eq, e3]
      rw [e2] at h4
      rw [e3] at h6
      rw [ea]
      refine (tclean_row g s.n s.c m cur w h4 h5 h1 h2 h6).mono ?_
      exact fun _ _ h => h
/-- where the three loops stand: so many cells of each sheet's row bear its mark, and the Book lies where it lay -/
structure BookI (W : World) (K R base : Nat) (ss : List Sh) (f : Nat → Sh → Nat) (w : World) : Prop where
  book : w.heap[K]? = W.heap[K]?
  row : w.heap[R]? = W.heap[R]?
  sh : ∀ (j : Nat) (h : j < ss.length), ShRow w ss[j] (f j ss[j])
  below : Below base W w
theorem BookI.step {W w w' : World} {K R base k : Nat} {ss : List Sh} {f f' : Nat → Sh → Nat} (h : BookI W K R base ss f w) (hk : k < ss.length) (hr : ShRow w' ss[k] (f' k ss[k])) (hg : w.grownBy w' ss[k].blk)
    (hf : ∀ j s, j ≠ k → f' j s = f j s) (hap : ss.Pairwise AheadS) (hlo : ∀ s ∈ ss, ∀ g, s.blk = some g → base ≤ g) (hbs : base ≤ W.heap.size) (hKl : K < W.heap.size) (hRl : R < W.heap.size) (hK : ss[k].blk ≠ some K) (hR : ss[k].blk ≠ some R) : BookI W K R base ss f' w' := by
  have hs := h.below.size
  refine ⟨(hg.block K (by omega) (fun e => hK e.symm)).trans h.book, (hg.block R (by omega) (fun e => hR e.symm)).trans h.row, fun j hj => ?_, h.below.grown hg (by omega) (fun g e => hlo _ (List.getElem_mem hk) g e)⟩
  by_cases e : j = k
  · subst e; exact hr
  · rw [hf j _ e]
    refine (h.sh j hj).kept hg (fun g hg' e' => ?_)
    rcases Nat.lt_or_ge j k with q | q
    · exact absurd rfl (List.pairwise_iff_getElem.1 hap j k hj hk q g g hg' e')
    · exact absurd rfl (List.pairwise_iff_getElem.1 hap k j hk hj (by omega) g g e' hg')
theorem sh_tag {w : World} {s : Sh} {k g : Nat} (h : ShRow w s k) (hg : s.blk = some g) : ∃ cur, w.heap[g]? = some (.cells cur s.e (0, 0)) := by
  rcases h.2.2.2 with ⟨e, _⟩ | ⟨g', cur, e1, e2, _⟩
  · unfold Sh.blk at hg; rw [e] at hg; cases hg
  · unfold Sh.blk at hg; rw [e1] at hg; cases hg; exact ⟨cur, e2⟩
theorem sh_notK {w : World} {s : Sh} {k K : Nat} {cs : Array Value} {f : Nat × Nat} (h : ShRow w s k) (hK : w.heap[K]? = some (.cells cs 84 f)) : s.blk ≠ some K := fun e => by
  obtain ⟨cur, hc⟩ := sh_tag h e
  rw [hK] at hc
  simp only [Option.some.injEq, Obj.cells.injEq] at hc
  have e2 : s.e = 84 := hc.2.1.symm
  exact h.2.2.1.e.1 e2
theorem sh_notR {w : World} {s : Sh} {k K : Nat} {cs : Array Value} {f : Nat × Nat} (h : ShRow w s k) (hK : w.heap[K]? = some (.cells cs 110 f)) : s.blk ≠ some K := fun e => by
  obtain ⟨cur, hc⟩ := sh_tag h e
  rw [hK] at hc
  simp only [Option.some.injEq, Obj.cells.injEq] at hc
  have e2 : s.e = 110 := hc.2.1.symm
  exact h.2.2.1.e.2 e2
theorem BookI.cells {W w : World} {K R base N c : Nat} {ss : List Sh} {f : Nat → Sh → Nat} {q : Option Addr} (h : BookI W K R base ss f w) (h1 : W.heap[K]? = some (.cells #[.slice q N c] 84 (0, 0))) (h2 : ∀ (k : Nat) (hk : k < ss.length), q = some ⟨R, 0, none⟩ ∧ W.cell? ⟨R, k, none⟩ = some ss[k].v) :
    w.cell? ⟨K, 0, none⟩ = some (.slice q N c) ∧ ∀ (k : Nat) (hk : k < ss.length), w.cell? ⟨R, k, none⟩ = some ss[k].v :=
  ⟨(cell_of_row _ _ 0 _ _ _ (h.book.trans h1)).trans rfl, fun k hk => (World.cell?_of_block (w := W) (a := ⟨R, k, none⟩) h.row).trans (h2 k hk).2⟩
set_option maxRecDepth 100000 in
set_option maxHeartbeats 2000000 in
theorem apart_any (K base : Nat) (ss : List Sh) (lo hi : Nat) (w : World) (h : BookAt w K base ss) (hs : ShsOk w lo hi ss) (hlo : base ≤ lo) (hbs : base ≤ w.heap.size) (hl : ss.length ≤ 1000000) :
    Calls Tryz.prog 45 #[.pointer (some ⟨K, 0, none⟩)] w fun e w' => e = .returned (.bool true) ∧ Below base w w' := by
  obtain ⟨q, c, h1, h2⟩ := h.row
  obtain ⟨N, hN⟩ : ∃ N, N = ss.length := ⟨_, rfl⟩
  rw [← hN] at h1 h2 hl
  have k0 : w.cell? ⟨K, 0, none⟩ = some (.slice q N c) := (cell_of_row _ _ 0 _ _ _ h1).trans rfl
  by_cases hbig : 250 < N
  · have d1 : decide ((250 : Int) < (N : Int)) = true := by simp; omega
    clear h h1 h2 hs hN
    go_enter Tryz.func45, Tryz.ntmps45
    go_wp2_with fail
    go_ret
    exact ⟨rfl, Below.refl _ _⟩
  · have d1 : decide ((250 : Int) < (N : Int)) = false := by simp; omega
    have hKl := (Array.getElem?_eq_some_iff.1 h1).1
    obtain ⟨R, hRl, hRt, hrow⟩ : ∃ R, R < w.heap.size ∧ (∀ s ∈ ss, s.blk ≠ some R) ∧ ∀ (k : Nat) (hk : k < ss.length), q = some ⟨R, 0, none⟩ ∧ w.cell? ⟨R, k, none⟩ = some ss[k].v := by
      rcases h2.2 with ⟨e, hn⟩ | ⟨g, cap, cur, e, hb, hh, -⟩
      · exact ⟨K, hKl, fun s hs' => sh_notK (hs.row s hs') h1, fun k hk => by omega⟩
      · have hgl := (Array.getElem?_eq_some_iff.1 hh).1
        cases e
        refine ⟨g, hgl, fun s hs' => sh_notR (hs.row s hs') hh, fun k hk => ⟨rfl, ?_⟩⟩
        obtain ⟨b, o, e3, hc⟩ := (Fr.of_own h2).rd.cell (k := k) (by rw [List.length_map]; exact hk)
        cases e3
        rw [Nat.zero_add] at hc
        rw [hc, List.getElem_map]
    have hKt : ∀ s ∈ ss, s.blk ≠ some K := fun s hs' => sh_notK (hs.row s hs') h1
    have HStart := hid (show BookI w K R base ss (fun j s => if j < 0 then s.n else 0) w from ⟨rfl, rfl, fun j hj => by rw [if_neg (Nat.not_lt_zero _)]; exact hs.row _ (List.getElem_mem hj), Below.refl _ _⟩)
    have HLo := hid (show ∀ s ∈ ss, ∀ g, s.blk = some g → base ≤ g from fun s hs' g hg => Nat.le_trans hlo (hs.lo s hs' g hg))
    have HAp := hid hs.ap
    have HN := hid hN
    have H1 := hid h1
    have HRow := hid hrow
    have HKt := hid hKt
    have HRt := hid hRt
    clear h h1 h2 hs hN hrow hKt hRt
    go_enter Tryz.func45, Tryz.ntmps45
    go_wp2_with fail
    clear k0
    go_loopw [3] (fun i wr => ∃ k : Nat, k ≤ N ∧ i = .int .i64 (k : Int) ∧ BookI w K R base ss (fun j s => if j < k then s.n else 0) wr) (fun i _ => N - (intOf i).toNat)
    case atStart => exact ⟨0, Nat.zero_le _, rfl, HStart.out⟩
    case round =>
      obtain ⟨k, hk, rfl, hI⟩ := hrel
      have HI := hid hI
      obtain ⟨k0, kr⟩ := hI.cells H1.out HRow.out
      clear hI
      by_cases hlt : k < N
      · have hks : k < ss.length := by rw [← HN.out]; exact hlt
        have kk := kr k hks
        obtain ⟨s, hs⟩ : ∃ s, s = ss[k] := ⟨_, rfl⟩
        rw [← hs] at kk
        have hq := (HRow.out k hks).1
        subst hq
        have HSe := hid hs
        have HMem := hid (show s ∈ ss by rw [hs]; exact List.getElem_mem hks)
        clear hs kr
        obtain ⟨fn, hmt, hent, hP⟩ := paint_any s wr (by have := HI.out.sh k hks; rw [if_neg (Nat.lt_irrefl _), ← HSe.out] at this; exact this)
        have HP := hid hP
        unfold Sh.v Sh.agg at kk
        unfold Sh.agg at HP hmt hent
        obtain ⟨T, hT⟩ : ∃ T, T = s.t := ⟨_, rfl⟩
        obtain ⟨MK, hMK⟩ : ∃ M, M = s.m := ⟨_, rfl⟩
        rw [← hT, ← hMK] at kk hmt
        rw [← hMK] at HP hent
        have HMK := hid hMK
        clear hP hT hMK
        have i0 : (0 : Int) ≤ (k : Int) := by omega
        have i1 : (k : Int) < (N : Int) := by omega
        go_wp2_with fail
        refine HP.out.mono ?_
        rintro e w2 ⟨rfl, hr2, hg2⟩
        have hI2 : BookI w K R base ss (fun j s => if j < k + 1 then s.n else 0) w2 := by
          have hb := HSe.out
          refine BookI.step HI.out hks (by rw [← hb, if_pos (Nat.lt_succ_self _)]; exact hr2) (by rw [← hb]; exact hg2) (fun j s hj => ?_) HAp.out HLo.out hbs hKl hRl (by rw [← hb]; exact HKt.out s HMem.out) (by rw [← hb]; exact HRt.out s HMem.out)
          by_cases q : j < k
          · rw [if_pos q, if_pos (by omega)]
          · rw [if_neg q, if_neg (by omega)]
        have HI2 := hid hI2
        clear hr2 hg2 hI2
        go_wp2
        go_roundw
        case rel => exact ⟨k + 1, by omega, by go_num, HI2.out⟩
        case measure => simp [intOf]; omega
      · obtain rfl : N = k := by omega
        clear kr
        have HI1 := hid (show BookI w K R base ss (fun j s => if j < 0 then s.c else s.n) wr from ⟨HI.out.book, HI.out.row, fun j hj => by rw [if_neg (Nat.not_lt_zero _)]; have := HI.out.sh j hj; rw [if_pos (by rw [HN.out]; exact hj)] at this; exact this, HI.out.below⟩)
        clear HI HStart
        go_wp2_with fail
        clear k0
        go_loopw [4] (fun i wr => ∃ k : Nat, k ≤ N ∧ i = .int .i64 (k : Int) ∧ BookI w K R base ss (fun j s => if j < k then s.c else s.n) wr) (fun i _ => N - (intOf i).toNat)
        case atStart => exact ⟨0, Nat.zero_le _, rfl, HI1.out⟩
        case round =>
          obtain ⟨k, hk, rfl, hI⟩ := hrel
          have HI := hid hI
          obtain ⟨k0, kr⟩ := hI.cells H1.out HRow.out
          clear hI
          by_cases hlt : k < N
          · have hks : k < ss.length := by rw [← HN.out]; exact hlt
            have kk := kr k hks
            obtain ⟨s, hs⟩ : ∃ s, s = ss[k] := ⟨_, rfl⟩
            rw [← hs] at kk
            have hq := (HRow.out k hks).1
            subst hq
            have HSe := hid hs
            have HMem := hid (show s ∈ ss by rw [hs]; exact List.getElem_mem hks)
            clear hs kr
            obtain ⟨fn, hmt, hent, hP⟩ := spill_any s wr (by have := HI.out.sh k hks; rw [if_neg (Nat.lt_irrefl _), ← HSe.out] at this; exact this)
            have HP := hid hP
            unfold Sh.v Sh.agg at kk
            unfold Sh.agg at HP hmt hent
            obtain ⟨T, hT⟩ : ∃ T, T = s.t := ⟨_, rfl⟩
            obtain ⟨MK, hMK⟩ : ∃ M, M = s.m := ⟨_, rfl⟩
            rw [← hT, ← hMK] at kk hmt
            rw [← hMK] at HP hent
            have HMK := hid hMK
            clear hP hT hMK
            have i0 : (0 : Int) ≤ (k : Int) := by omega
            have i1 : (k : Int) < (N : Int) := by omega
            go_wp2_with fail
            refine HP.out.mono ?_
            rintro e w2 ⟨rfl, hr2, hg2⟩
            have hI2 : BookI w K R base ss (fun j s => if j < k + 1 then s.c else s.n) w2 := by
              have hb := HSe.out
              refine BookI.step HI.out hks (by rw [← hb, if_pos (Nat.lt_succ_self _)]; exact hr2) (by rw [← hb]; exact hg2) (fun j s hj => ?_) HAp.out HLo.out hbs hKl hRl (by rw [← hb]; exact HKt.out s HMem.out) (by rw [← hb]; exact HRt.out s HMem.out)
              by_cases q : j < k
              · rw [if_pos q, if_pos (by omega)]
              · rw [if_neg q, if_neg (by omega)]
            have HI2 := hid hI2
            clear hr2 hg2 hI2
            go_wp2
            go_roundw
            case rel => exact ⟨k + 1, by omega, by go_num, HI2.out⟩
            case measure => simp [intOf]; omega
          · obtain rfl : N = k := by omega
            clear kr
            have HI3 := hid (show BookI w K R base ss (fun _ s => s.c) wr from ⟨HI.out.book, HI.out.row, fun j hj => by have := HI.out.sh j hj; rw [if_pos (by rw [HN.out]; exact hj)] at this; exact this, HI.out.below⟩)
            clear HI HI1
            go_wp2_with fail
            clear k0
            go_loopw [5] (fun i wr => ∃ k : Nat, k ≤ N ∧ i = .int .i64 (k : Int) ∧ BookI w K R base ss (fun _ s => s.c) wr) (fun i _ => N - (intOf i).toNat)
            case atStart => exact ⟨0, Nat.zero_le _, rfl, HI3.out⟩
            case round =>
              obtain ⟨k, hk, rfl, hI⟩ := hrel
              have HI := hid hI
              obtain ⟨k0, kr⟩ := hI.cells H1.out HRow.out
              clear hI
              by_cases hlt : k < N
              · have hks : k < ss.length := by rw [← HN.out]; exact hlt
                have kk := kr k hks
                obtain ⟨s, hs⟩ : ∃ s, s = ss[k] := ⟨_, rfl⟩
                rw [← hs] at kk
                have hq := (HRow.out k hks).1
                subst hq
                have HSe := hid hs
                have HMem := hid (show s ∈ ss by rw [hs]; exact List.getElem_mem hks)
                clear hs kr
                obtain ⟨fn, hmt, hent, hP⟩ := clean_any s wr (by have := HI.out.sh k hks; rw [← HSe.out] at this; exact this)
                have HP := hid hP
                unfold Sh.v Sh.agg at kk
                unfold Sh.agg at HP hmt hent
                obtain ⟨T, hT⟩ : ∃ T, T = s.t := ⟨_, rfl⟩
                obtain ⟨MK, hMK⟩ : ∃ M, M = s.m := ⟨_, rfl⟩
                rw [← hT, ← hMK] at kk hmt
                rw [← hMK] at HP hent
                have HMK := hid hMK
                clear hP hT hMK
                have i0 : (0 : Int) ≤ (k : Int) := by omega
                have i1 : (k : Int) < (N : Int) := by omega
                go_wp2_with fail
                refine HP.out.mono ?_
                rintro e w2 ⟨rfl, hg2⟩
                have hI2 : BookI w K R base ss (fun _ s => s.c) w2 := by
                  have hi := HI.out
                  have hsz := hi.below.size
                  exact ⟨(hg2.block K (by omega) (fun e => by cases e)).trans hi.book, (hg2.block R (by omega) (fun e => by cases e)).trans hi.row, fun j hj => (hi.sh j hj).kept hg2 (fun g _ e => by cases e), hi.below.grown hg2 (by omega) (fun g e => by cases e)⟩
                have HI2 := hid hI2
                clear hg2 hI2
                go_wp2
                go_roundw
                case rel => exact ⟨k + 1, by omega, by go_num, HI2.out⟩
                case measure => simp [intOf]; omega
              · obtain rfl : N = k := by omega
                clear kr
                go_wp2
                go_ret
                exact ⟨rfl, HI.out.below⟩
end Go.Proofs.Herb
