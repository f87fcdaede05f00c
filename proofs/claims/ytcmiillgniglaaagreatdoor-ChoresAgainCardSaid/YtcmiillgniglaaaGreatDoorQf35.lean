/- slices.Grow of no table, and slices.Concat of tables and nothing. For tables that can be read. -/
import Derived.Lib.AppendZerosOnto
import Derived.Lib.Walk
import Derived.Test.YtcmiillgniglaaaGreatDoorQf30
namespace Go.Proofs.Herb
open Go.RowKit Go.Sort
theorem zeros_len (z : Array Value) (n : Nat) : (Builtin.zeroCells z n).size = n * z.size := by unfold Builtin.zeroCells; simp
def zTabV : Value := .agg #[.int .u64 0, .int .u32 0, .string ⟨#[]⟩, .string ⟨#[]⟩]
set_option maxRecDepth 100000 in
set_option maxHeartbeats 4000000 in
theorem growT_any (n : Nat) (hn : n ≤ 1000000) (w : World) :
    Calls Tryz.prog 38 #[.slice none 0 0, .int .i64 (n : Int)] w fun e w' => ∃ q c, e = .returned (.slice q 0 c) ∧ w'.ownsRow w.heap.size 41 4 (.slice q 0 c) 0 [] ∧ Below w.heap.size w w' := by
  by_cases h0 : n = 0
  · subst h0
    go_enter Tryz.func38, Tryz.ntmps38
    go_wp2
    go_ret
    exact ⟨none, 0, rfl, World.ownsRow_nil _ _ _ _, Below.refl _ _⟩
  · obtain ⟨i0, hi0, hz0, hs0, hy0⟩ := info_parts infoTb
    have hold : (Builtin.firstCells i0.size 0 (.slice none 0 0)).run Tryz.prog w.drew = .ok ([] : List Value).toArray w.drew := run_firstCells_none w.drew i0.size 0 0 0
    have hrz : ∀ ty, (Builtin.append_ #[27, 3] ty #[.slice none 0 0, .int .i64 (n : Int)]).run Tryz.prog w = _ := fun ty => Lib.run_append_grow_zeros w 27 3 ty 41 i0 zTabV .i64 .i64 Tryz.underlying27 Tryz.underlying3 hi0 hz0 none 0 0 [] hold n (by omega) (by rw [hs0]; decide) (by omega) (by omega) (by rw [hy0]; omega) (growslice_fits (by omega) (by rw [hy0]; omega))
    rw [Nat.zero_add] at hrz
    have hG : n ≤ grownCap w n 0 41 := grownCap_ge w _ _ _
    have hG2 : grownCap w n 0 41 ≤ maxLen := grownCap_le_maxLen w n 0 41 (by unfold maxLen; omega)
    obtain ⟨G, hGd⟩ : ∃ G, G = grownCap w n 0 41 := ⟨_, rfl⟩
    rw [← hGd] at hrz hG hG2
    obtain ⟨CS, hCS⟩ : ∃ CS, CS = ([] : List Value).toArray ++ Builtin.zeroCells zTabV.cells n ++ Builtin.zeroCells zTabV.cells (G - n) := ⟨_, rfl⟩
    rw [← hCS] at hrz
    have hsz : CS.size = G * 4 := by
      rw [hCS]
      simp only [Array.size_append, zeros_len, List.size_toArray, List.length_nil]
      have : zTabV.cells.size = 4 := rfl
      rw [this]
      omega
    have hg63 : G ≤ 9223372036854775807 := by unfold maxLen at hG2; omega
    have Hsz := hid hsz
    have HG2 := hid hG2
    have n0 : (0 : Int) < (n : Int) := by omega
    have n1 : ¬ ((n : Int) < 0) := by omega
    clear hGd hCS hsz hold hG2
    go_enter Tryz.func38, Tryz.ntmps38
    go_wp2_with (at_builtin; refine Lib.wpList_append_run _ rfl _ _ _ _ rfl _ _ rfl rfl _ _ (hrz _) ?_)
    go_ret
    refine ⟨_, _, rfl, ⟨rfl, .inr ⟨w.heap.size, G, CS, rfl, Nat.le_refl _, heap_alloc_new w.drew _, Nat.zero_le _, HG2.out, by rw [Hsz.out], by simp⟩⟩, (Below.refl _ _).drew.alloc (Nat.le_refl _) _⟩
theorem tbCells_len (ts : List Tab) : (tbCells ts).length = ts.length * 4 := by
  induction ts with
  | nil => rfl
  | cons t r ih => rw [show tbCells (t :: r) = t.cells ++ tbCells r from rfl, List.length_append, ih, List.length_cons]; show 4 + r.length * 4 = _; omega
theorem tbCells_one (ts : List Tab) : ∀ u ∈ tbCells ts, u.oneCell' = true := by
  intro u hu
  obtain ⟨t, _, h⟩ := List.mem_flatMap.1 hu
  unfold Tab.cells at h
  simp only [List.mem_cons, List.not_mem_nil, or_false] at h
  rcases h with rfl | rfl | rfl | rfl <;> rfl
set_option maxRecDepth 100000 in
set_option maxHeartbeats 4000000 in
/-- tables, and nothing beside them -/
theorem concat_any (a : Option Addr) (n c : Nat) (ts : List Tab) (b : Nat) (w : World) (hn : ts.length = n) (hn6 : n ≤ 900000) (hac : a = none → c = 0) (hr : Rd w a (tbCells ts)) (hb : w.heap[b]? = some (.cells #[.slice a n c, .slice none 0 0] 27 (0, 0))) :
    Calls Tryz.prog 15 #[.slice (some ⟨b, 0, none⟩) 2 2] w fun e w' => ∃ q c', e = .returned (.slice q n c') ∧ Fr w' w.heap.size 41 4 (.slice q n c') n (tbCells ts) ∧ Below w.heap.size w w' := by
  have Hn := hid hn
  have Hr := hid hr
  have Hb := hid hb
  have Hac := hid hac
  clear hn hr hb hac
  go_enter Tryz.func15, Tryz.ntmps15
  go_wp2_with fail
  go_loopw [3, 11, 5] (fun s k _ wr => ∃ (j S : Nat), k = .int .i64 (j : Int) ∧ j ≤ 2 ∧ s = .int .i64 (S : Int) ∧ S = (if j = 0 then 0 else n) ∧ wr = w) (fun _ k _ _ => 2 - (intOf k).toNat)
  case atStart => exact ⟨0, 0, rfl, by decide, rfl, rfl, rfl⟩
  case round =>
    obtain ⟨j, S, rfl, hj, rfl, hS, rfl⟩ := hrel
    have c0 := cell_of_row wr b 0 _ _ _ Hb.out
    have c1 := cell_of_row wr b 1 _ _ _ Hb.out
    have hj3 : j = 0 ∨ j = 1 ∨ j = 2 := by omega
    rcases hj3 with rfl | rfl | rfl
    · obtain rfl : S = 0 := hS
      go_wp2_with fail
      go_roundw
      case rel => exact ⟨1, n, rfl, by decide, by go_num, rfl, by trivial⟩
      case measure => simp [intOf]
    · obtain rfl : S = n := hS
      go_wp2_with fail
      go_roundw
      case rel => exact ⟨2, S, rfl, by decide, by go_num, rfl, by trivial⟩
      case measure => simp [intOf]
    · obtain rfl : S = n := hS
      clear c0 c1
      go_wp2_with fail
      obtain ⟨w1, rfl⟩ : ∃ x, x = wr := ⟨_, rfl⟩
      refine (growT_any S (by omega) w1).mono ?_
      rintro e w2 ⟨q2, c2, rfl, ho2, hb2⟩
      have HB2 := hid hb2
      have HO2 := hid ho2
      clear ho2 hb2
      go_wp2_with fail
      go_loopw [6, 27, 8] (fun v k _ w3 => ∃ j : Nat, k = .int .i64 (j : Int) ∧ j ≤ 2 ∧ ∃ (q3 : Option Addr) (c3 N3 : Nat), v = .slice q3 N3 c3 ∧ N3 = (if j = 0 then 0 else S) ∧ w3.ownsRow w1.heap.size 41 4 (.slice q3 N3 c3) N3 (if j = 0 then [] else tbCells ts) ∧ Below w1.heap.size w1 w3) (fun _ k _ _ => 2 - (intOf k).toNat)
      case atStart => exact ⟨0, rfl, by decide, q2, c2, 0, rfl, rfl, HO2.out, HB2.out⟩
      case round =>
        obtain ⟨j, rfl, hj, q3, c3, N3, rfl, hN3, ho3, hb3⟩ := hrel
        have HB3 := hid hb3
        have hbk := (hb3.block _ (lt_of_block Hb.out)).trans Hb.out
        have c0 := cell_of_row wr b 0 _ _ _ hbk
        have c1 := cell_of_row wr b 1 _ _ _ hbk
        have HRr := hid (Hr.out.below hb3)
        clear hb3 hbk
        have hj3 : j = 0 ∨ j = 1 ∨ j = 2 := by omega
        rcases hj3 with rfl | rfl | rfl
        · obtain rfl : N3 = 0 := hN3
          have HO3 := hid (show wr.ownsRow w1.heap.size 41 4 (.slice q3 0 c3) 0 [] from ho3)
          clear ho3
          go_wp2_with (refine wpList_append_rd rfl (.tmp 31) (.tmp 32) 27 rfl w1.heap.size 41 _ 4 48 Tryz.underlying27 infoTb rfl (by decide) (.slice q3 0 c3) 0 [] rfl HO3.out a S c (tbCells ts) rfl Hac.out (by rw [tbCells_len, Hn.out]) HRr.out (tbCells_one ts) (by unfold maxLen; omega) (by omega) HB3.out.size ?_; intro v7 w7 hown7 hg7 _; have HO7 := hid hown7; have HG7 := hid hg7; clear hown7 hg7)
          have hown7 := HO7.out
          have HB7 := hid (HB3.out.grown HG7.out HB3.out.size (fun b hb => (bown_lt HO3.out b hb).1))
          rw [Nat.zero_add, List.nil_append] at hown7
          obtain ⟨q7, c7, rfl, _, _, _⟩ := own_shape hown7
          have HO8 := hid hown7
          clear hown7 HO7
          go_roundw
          case rel => exact ⟨1, rfl, by decide, q7, c7, S, rfl, rfl, HO8.out, HB7.out⟩
          case measure => simp [intOf]
        · obtain rfl : N3 = S := hN3
          have HO3 := hid (show wr.ownsRow w1.heap.size 41 4 (.slice q3 N3 c3) N3 (tbCells ts) from ho3)
          clear ho3
          go_wp2_with (refine wpList_append_rd rfl (.tmp 31) (.tmp 32) 27 rfl w1.heap.size 41 _ 4 48 Tryz.underlying27 infoTb rfl (by decide) (.slice q3 N3 c3) N3 (tbCells ts) rfl HO3.out none 0 0 [] rfl (fun _ => rfl) rfl (.inl rfl) (fun u hu => by cases hu) (by unfold maxLen; omega) (by omega) HB3.out.size ?_; intro v7 w7 hown7 hg7 _; have HO7 := hid hown7; have HG7 := hid hg7; clear hown7 hg7)
          have hown7 := HO7.out
          have HB7 := hid (HB3.out.grown HG7.out HB3.out.size (fun b hb => (bown_lt HO3.out b hb).1))
          rw [Nat.add_zero, List.append_nil] at hown7
          obtain ⟨q7, c7, rfl, _, _, _⟩ := own_shape hown7
          have HO8 := hid hown7
          clear hown7 HO7
          go_roundw
          case rel => exact ⟨2, rfl, by decide, q7, c7, N3, rfl, rfl, HO8.out, HB7.out⟩
          case measure => simp [intOf]
        · obtain rfl : N3 = S := hN3
          have HO3 := hid (show wr.ownsRow w1.heap.size 41 4 (.slice q3 N3 c3) N3 (tbCells ts) from ho3)
          clear ho3
          go_wp2_with fail
          go_ret
          exact ⟨q3, c3, rfl, Fr.of_own HO3.out, HB3.out⟩
end Go.Proofs.Herb
