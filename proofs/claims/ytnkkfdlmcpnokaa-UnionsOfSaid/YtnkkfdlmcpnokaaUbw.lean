
/- unions.byKey: the walk. For facts that can be read. -/
import Derived.Test.YtnkkfdlmcpnokaaUby
import Derived.StillTailTactics
import Derived.BigRegion
namespace Go.Proofs.Herb
open Go.RowKit
/-- how far the lists have been gone through -/
def lsAt (Ls : Nat → List Fact) (i j : Nat) : Nat → List Fact := fun x => if x < i then Ls x else if x = i then (Ls i).take j else []
def kAt (Ls : Nat → List Fact) (i j : Nat) : List ByteArray := (List.range i).flatMap (fun x => keyL (Ls x)) ++ keyL ((Ls i).take j)
theorem lsAt_put (Ls : Nat → List Fact) (i j : Nat) (h : j < (Ls i).length) : lsPut (lsAt Ls i j) i (Ls i)[j] = lsAt Ls i (j + 1) := by
  funext x
  unfold lsPut lsAt
  by_cases e : x = i
  · subst e
    simp only [if_true, Nat.lt_irrefl, if_false]
    rw [List.take_succ_eq_append_getElem h]
  · simp only [if_neg e]
theorem lsAt_next (Ls : Nat → List Fact) (i : Nat) : lsAt Ls i (Ls i).length = lsAt Ls (i + 1) 0 := by
  funext x
  unfold lsAt
  by_cases e : x < i
  · rw [if_pos e, if_pos (by omega)]
  · rw [if_neg e]
    by_cases e2 : x = i
    · subst e2
      rw [if_pos rfl, if_pos (by omega), List.take_length]
    · rw [if_neg e2, if_neg (by omega)]
      split <;> simp
theorem kAt_put (Ls : Nat → List Fact) (i j : Nat) (h : j < (Ls i).length) : kAt Ls i (j + 1) = kAt Ls i j ++ [(Ls i)[j].key] := by
  unfold kAt keyL
  rw [List.take_succ_eq_append_getElem h, List.map_append, List.append_assoc]
  rfl
theorem kAt_next (Ls : Nat → List Fact) (i : Nat) : kAt Ls (i + 1) 0 = kAt Ls i (Ls i).length := by
  unfold kAt
  rw [List.range_succ, List.flatMap_append, List.take_length]
  simp [keyL]
theorem infoKy : (Try.prog.info? 58).map (fun i => (i.zero, i.size)) = some (some (.agg #[.map none, .map none, .map none]), 3) := by kernel_rfl
theorem zeroKey (w : World) : (zeroValue 58).run Try.prog w = .ok (.agg #[.map none, .map none, .map none]) w := by kernel_rfl
theorem zeroFactV (w : World) : (zeroValue 42).run Try.prog w = .ok (.agg #[.string ⟨#[]⟩, .int .u32 0, .int .u64 0, .int .u64 0, .int .u8 0, .string ⟨#[]⟩]) w := by kernel_rfl
theorem KyAt.lk {base : Nat} {w : World} {M : Nat} {t : List KyE} (h : KyAt base w M t) (k : ByteArray) : (Instr.lookup 45 (.map (some M)) (.string k) true).run Try.prog w = .ok (.tuple #[((look1 (kyTop t) k).map evK).getD (.agg #[.map none, .map none, .map none]), .bool (look1 (kyTop t) k).isSome]) w :=
  run_lookup0 h.top keyS Try.underlying45 (zeroKey w) k true
theorem KyAt.lki {base : Nat} {w : World} {M : Nat} {t : List KyE} (h : KyAt base w M t) {x : KyE} (hx : x ∈ t) {j : Nat} (hj : j < 3) (v : Nat) (ok : Bool) : (Instr.lookup 56 (.map (some (x.blk j))) (.int .u32 (v : Int)) ok).run Try.prog w = .ok (if ok then .tuple #[((look1 (x.inn j) v).map evF).getD (.agg #[.string ⟨#[]⟩, .int .u32 0, .int .u64 0, .int .u64 0, .int .u8 0, .string ⟨#[]⟩]), .bool (look1 (x.inn j) v).isSome] else ((look1 (x.inn j) v).map evF).getD (.agg #[.string ⟨#[]⟩, .int .u32 0, .int .u64 0, .int .u64 0, .int .u8 0, .string ⟨#[]⟩])) w :=
  run_lookup0 (h.inn x hx j hj) keyU Try.underlying56 (zeroFactV w) v ok
theorem idx3_0 (x y z : Value) (W : World) : (Instr.index 47 (.agg #[x, y, z]) (.int .i64 0)).run Try.prog W = .ok x W := by cases x <;> kernel_rfl
theorem idx3_1 (x y z : Value) (W : World) : (Instr.index 47 (.agg #[x, y, z]) (.int .i64 1)).run Try.prog W = .ok y W := by cases y <;> kernel_rfl
theorem idx3_2 (x y z : Value) (W : World) : (Instr.index 47 (.agg #[x, y, z]) (.int .i64 2)).run Try.prog W = .ok z W := by cases z <;> kernel_rfl
theorem idx3 (v : Nat → Value) (h : ∀ i, i < 3 → ∃ q n c, v i = .slice q n c) {i : Nat} (hi : i < 3) (W : World) : (Instr.index 47 (.agg #[v 0, v 1, v 2]) (.int .i64 (i : Int))).run Try.prog W = .ok (v i) W := by
  obtain ⟨a0, b0, c0, e0⟩ := h 0 (by omega)
  obtain ⟨a1, b1, c1, e1⟩ := h 1 (by omega)
  obtain ⟨a2, b2, c2, e2⟩ := h 2 (by omega)
  rcases three hi with rfl | rfl | rfl
  · exact idx3_0 _ _ _ W
  · exact idx3_1 _ _ _ W
  · exact idx3_2 _ _ _ W
structure Lay3 (W : World) (Y k : Nat) (Z : World) : Prop where
  row : Z.heap[Y]? = some (.cells #[.map (if 0 < k then some (Y + 1) else none), .map (if 1 < k then some (Y + 2) else none), .map (if 2 < k then some (Y + 3) else none)] 58 (0, 0))
  size : Z.heap.size = Y + 1 + k
  maps : ∀ m, m < k → Z.heap[Y + 1 + m]? = some (.map #[] 0)
  below : Below Y W Z
theorem Lay3.nil (W : World) : Lay3 W W.heap.size 0 (W.alloc (.cells #[.map none, .map none, .map none] 58)) :=
  ⟨World.alloc_heap_new _ _, by simp, fun m h => by omega, (Below.refl _ _).alloc (Nat.le_refl _) _⟩
theorem Lay3.froz {W : World} {Y k : Nat} {Z : World} (h : Lay3 W Y k Z) (j : Nat) : Z.frozen? ⟨Y, j, none⟩ = false := by simp [World.frozen?, h.row]
theorem Lay3.step {W : World} {Y k : Nat} {Z : World} (h : Lay3 W Y k Z) (hk : k < 3) : Lay3 W Y (k + 1) ((Z.alloc (.map #[] 0)).setCell ⟨Y, k, none⟩ (.map (some (Y + 1 + k)))) := by
  have hY : Y < Z.heap.size := by rw [h.size]; omega
  have hr : (Z.alloc (.map #[] 0)).heap[Y]? = Z.heap[Y]? := RowKit.Below.heap_alloc _ _ _ hY
  refine ⟨?_, by simp [h.size]; omega, fun m hm => ?_, (h.below.alloc (by omega) _).setCell (Nat.le_refl _) _⟩
  · have := heap_setCell_same (Z.alloc (.map #[] 0)) Y k _ _ (.map (some (Y + 1 + k))) (hr.trans h.row)
    rw [this]
    rcases three hk with rfl | rfl | rfl <;> simp
  · rw [heap_setCell_other _ _ _ _ (by show Y + 1 + m ≠ Y; omega)]
    by_cases e : m = k
    · subst e
      rw [← h.size]
      exact World.alloc_heap_new _ _
    · rw [RowKit.Below.heap_alloc _ _ _ (by rw [h.size]; omega)]
      exact h.maps m (by omega)
theorem Lay3.step' {W : World} {Y k : Nat} {Z : World} (h : Lay3 W Y k Z) (hk : k < 3) : Lay3 W Y (k + 1) ((Z.alloc (.map #[] 0)).setCell ⟨Y, k, none⟩ (.map (some Z.heap.size))) := by
  rw [h.size]; exact h.step hk
theorem Lay3.cell {W : World} {Y k : Nat} {Z : World} (h : Lay3 W Y k Z) : Z.cell? ⟨Y, 0, none⟩ = some (.map (if 0 < k then some (Y + 1) else none)) ∧ Z.cell? ⟨Y, 1, none⟩ = some (.map (if 1 < k then some (Y + 2) else none)) ∧ Z.cell? ⟨Y, 2, none⟩ = some (.map (if 2 < k then some (Y + 3) else none)) := by
  refine ⟨?_, ?_, ?_⟩ <;> rw [cell_of_row _ _ _ _ _ _ h.row] <;> rfl
theorem Lay3.step2 {W : World} {Y k : Nat} {Z : World} (h : Lay3 W Y k Z) (hk : k < 3) : Lay3 W Y (k + 1) ((Z.setCell ⟨Y, k, none⟩ (.map (some (Y + 1 + k)))).alloc (.map #[] 0)) := by
  have hY : Y < Z.heap.size := by rw [h.size]; omega
  have hs : (Z.setCell ⟨Y, k, none⟩ (.map (some (Y + 1 + k)))).heap.size = Y + 1 + k := by rw [World.size_setCell, h.size]
  refine ⟨?_, by simp [h.size]; omega, fun m hm => ?_, (h.below.setCell (Nat.le_refl _) _).alloc (by omega) _⟩
  · have := heap_setCell_same Z Y k _ _ (.map (some (Y + 1 + k))) h.row
    rw [RowKit.Below.heap_alloc _ _ _ (by omega), this]
    rcases three hk with rfl | rfl | rfl <;> simp
  · by_cases e : m = k
    · subst e
      have h := World.alloc_heap_new (Z.setCell ⟨Y, m, none⟩ (.map (some (Y + 1 + m)))) (.map #[] 0)
      rw [hs] at h
      exact h
    · rw [RowKit.Below.heap_alloc _ _ _ (by omega), heap_setCell_other _ _ _ _ (by show Y + 1 + m ≠ Y; omega)]
      exact h.maps m (by omega)
theorem KyAt.drew {base : Nat} {w : World} {M : Nat} {t : List KyE} (h : KyAt base w M t) : KyAt base w.drew M t := ⟨h.top, h.inn, h.once, h.low⟩
theorem below_drew {b : Nat} {A B : World} (h : Below b A B) : Below b A B.drew := ⟨h.os, h.tape, h.output, h.size, h.block⟩
attribute [local go_sem] Oper.semAt_some
set_option maxRecDepth 100000 in
set_option maxHeartbeats 8000000 in
theorem byKey_any (q : Nat → Option Addr) (n c : Nat → Nat) (Ls : Nat → List Fact) (w : World) (hn : ∀ i, i < 3 → (Ls i).length = n i) (hm : ∀ i, i < 3 → n i ≤ 1000000) (hr : ∀ i, i < 3 → Rd w (q i) (fCells (Ls i))) :
    Calls Try.prog 18 #[.agg #[.slice (q 0) (n 0) (c 0), .slice (q 1) (n 1) (c 1), .slice (q 2) (n 2) (c 2)]] w fun e w' => ∃ M t, e = .returned (.map (some M)) ∧ KyAt w.heap.size w' M t ∧ KyInv (kAt Ls 3 0) (lsAt Ls 3 0) t ∧ Below w.heap.size w w' := by
  have HN := hid hn
  have HM := hid hm
  have HR := hid hr
  have hmk := make_map0 (P := Try.prog)
  clear hn hm hr
  go_enter Try.func18, Try.ntmps18
  go_wp2
  obtain ⟨M, hM⟩ : ∃ M, M = w.heap.size + 1 := ⟨_, rfl⟩
  rw [← hM]
  have HMM := hid hM
  clear hM
  go_loopw [15] (fun vi wr => ∃ (i : Nat) (t : List KyE), vi = .int .i64 i ∧ i ≤ 3 ∧ Hid (KyAt w.heap.size wr M t) ∧ Hid (KyInv (kAt Ls i 0) (lsAt Ls i 0) t) ∧ Hid (Below w.heap.size w wr)) (fun vi _ => 3 - (intOf vi).toNat)
  case atStart =>
    refine ⟨0, [], rfl, by omega, ?_, ?_, ?_⟩
    · refine ⟨?_, fun x h => (by cases h), by simp [kyBlks], by have := HMM.out; omega, fun x h => (by cases h)⟩
      have h := mapAt_new (ek := ekS) (ev := evK) (w.alloc (.cells #[.slice (q 0) (n 0) (c 0), .slice (q 1) (n 1) (c 1), .slice (q 2) (n 2) (c 2)] 47))
      rw [World.size_alloc] at h
      rw [HMM.out]
      exact h
    · show KyInv _ _ _
      have e1 : kAt Ls 0 0 = [] := by simp [kAt, keyL]
      have e2 : lsAt Ls 0 0 = fun _ => [] := by funext x; unfold lsAt; by_cases e : x = 0 <;> simp [e]
      rw [e1, e2]
      exact KyInv.nil
    · exact ((Below.refl _ _).alloc (Nat.le_refl _) _).alloc (by simp) _
  case round =>
    obtain ⟨i, t0, rfl, hi3, HA0, HI0, HB0⟩ := hrel
    by_cases hi : i < 3
    · have hq := HR.out i hi
      have hii : (i : Int) < 3 := by omega
      have hidx := idx3 (fun j => .slice (q j) (n j) (c j)) (fun j _ => ⟨_, _, _, rfl⟩) hi
      obtain ⟨qi, hqi⟩ : ∃ x, q i = x := ⟨_, rfl⟩
      obtain ⟨ni, hni⟩ : ∃ x, n i = x := ⟨_, rfl⟩
      have hmi := HM.out i hi
      have HL0 : Hid ((Ls i).length = ni) := hid (by rw [← hni]; exact HN.out i hi)
      simp only [hqi, hni] at hidx
      rw [hqi] at hq
      rw [hni] at hmi
      have HQ := hid hq
      clear hqi hni hq
      go_upto_region 5 with fail
      go_wp2
      go_loopw [21] (fun vi wr => ∃ (j : Nat) (t : List KyE), vi = .int .i64 j ∧ j ≤ ni ∧ Hid (KyAt w.heap.size wr M t) ∧ Hid (KyInv (kAt Ls i j) (lsAt Ls i j) t) ∧ Hid (Below w.heap.size w wr)) (fun vi _ => ni - (intOf vi).toNat)
      case atStart => exact ⟨0, t0, rfl, by omega, HA0, HI0, HB0⟩
      case round =>
        clear HA0 HI0 HB0 hidx
        obtain ⟨j, t, rfl, hjn, HA, HI, HB⟩ := hrel
        by_cases hlt : j < ni
        · obtain ⟨b, off, rfl, hb, hf⟩ := fact_at (HQ.out.below HB.out) (j := j) (by rw [HL0.out]; exact hlt)
          have hjl : j < (Ls i).length := by rw [HL0.out]; exact hlt
          obtain ⟨f, hfe⟩ : ∃ f, f = (Ls i)[j]'hjl := ⟨_, rfl⟩
          rw [← hfe] at hf
          have HS : Hid (lsAt Ls i (j + 1) = lsPut (lsAt Ls i j) i f ∧ ∀ k ∈ kAt Ls i j ++ [f.key], k ∈ kAt Ls i (j + 1)) := by
            refine ⟨?_, fun k hk => ?_⟩
            · rw [hfe]; exact (lsAt_put Ls i j hjl).symm
            · rw [kAt_put Ls i j hjl, ← hfe]; exact hk
          obtain ⟨c0, c1, c2, c3, c4, c5⟩ := hf
          clear hfe hjl
          go_upto_region 8 with fail
          obtain ⟨X, hX⟩ : ∃ X, X = wr.heap.size := ⟨_, rfl⟩
          have hb1 : Below wr.heap.size wr (wr.alloc (.cells #[.string f.key, .int .u32 (f.valid : Int), .int .u64 (f.seq : Int), .int .u64 (f.line : Int), .int .u8 (f.kind : Int), .string f.val] 42)) := (Below.refl _ _).alloc (Nat.le_refl _) _
          have hx0 : (wr.alloc (.cells #[.string f.key, .int .u32 (f.valid : Int), .int .u64 (f.seq : Int), .int .u64 (f.line : Int), .int .u8 (f.kind : Int), .string f.val] 42)).heap[X]? = some (.cells #[.string f.key, .int .u32 (f.valid : Int), .int .u64 (f.seq : Int), .int .u64 (f.line : Int), .int .u8 (f.kind : Int), .string f.val] 42 (0, 0)) := by rw [hX]; exact World.alloc_heap_new _ _
          rw [← hX]
          generalize (wr.alloc (.cells #[.string f.key, .int .u32 (f.valid : Int), .int .u64 (f.seq : Int), .int .u64 (f.line : Int), .int .u8 (f.kind : Int), .string f.val] 42)) = W1 at hb1 hx0 ⊢
          have HA1 := hid (HA.out.below hb1)
          have HB1 := hid (HB.out.trans (hb1.mono HB.out.size))
          have hXl := lt_of_block hx0
          have e0 : W1.cell? ⟨X, 0, none⟩ = some (.string f.key) := by rw [cell_of_row _ _ _ _ _ _ hx0]; rfl
          have e1 : W1.cell? ⟨X, 1, none⟩ = some (.int .u32 (f.valid : Int)) := by rw [cell_of_row _ _ _ _ _ _ hx0]; rfl
          have e2 : W1.cell? ⟨X, 2, none⟩ = some (.int .u64 (f.seq : Int)) := by rw [cell_of_row _ _ _ _ _ _ hx0]; rfl
          have e3 : W1.cell? ⟨X, 3, none⟩ = some (.int .u64 (f.line : Int)) := by rw [cell_of_row _ _ _ _ _ _ hx0]; rfl
          have e4 : W1.cell? ⟨X, 4, none⟩ = some (.int .u8 (f.kind : Int)) := by rw [cell_of_row _ _ _ _ _ _ hx0]; rfl
          have e5 : W1.cell? ⟨X, 5, none⟩ = some (.string f.val) := by rw [cell_of_row _ _ _ _ _ _ hx0]; rfl
          clear hX c0 c1 c2 c3 c4 c5 hb1 HA HB hx0
          cases hlk : look1 (kyTop t) f.key with
          | none =>
            have hl1 := HA1.out.lk f.key
            rw [hlk] at hl1
            simp only [Option.map_none, Option.getD_none, Option.isSome_none] at hl1
            have HY3 := hid (Lay3.nil W1)
            obtain ⟨Y, hY⟩ : ∃ Y, Y = W1.heap.size := ⟨_, rfl⟩
            rw [← hY] at HY3
            go_upto_region 9 with fail
            rw [← hY]
            have HYY := hid hY
            clear hl1 hY
            generalize (W1.alloc (.cells #[.map none, .map none, .map none] 58)) = W2 at HY3 ⊢
            go_wp2
            go_loopw [34] (fun vi wr => ∃ (k : Nat), vi = .int .i64 k ∧ k ≤ 3 ∧ Hid (Lay3 W1 Y k wr)) (fun vi _ => 3 - (intOf vi).toNat)
            case atStart => exact ⟨0, rfl, by omega, HY3⟩
            case round =>
              clear HY3
              obtain ⟨k, rfl, hk3, HY⟩ := hrel
              by_cases hk : k < 3
              · rcases three hk with rfl | rfl | rfl
                all_goals
                  have hz := HY.out.cell
                  have hz0 := hz.1
                  have hz1 := hz.2.1
                  have hz2 := hz.2.2
                  have hy0 := HY.out.froz 0
                  have hy1 := HY.out.froz 1
                  have hy2 := HY.out.froz 2
                  have HY4 := hid (HY.out.step2 hk)
                  have hYs := HY.out.size
                  clear hz
                  go_wp2
                  go_roundw
                  case rel => refine ⟨_, ?_, ?_, HY4⟩ <;> first | omega | go_num
                  case measure => simp [intOf]
              · obtain rfl : k = 3 := by omega
                have hz := HY.out.cell
                simp only [Nat.reduceLT, if_true] at hz
                obtain ⟨hz0, hz1, hz2⟩ := hz
                have hba : Below Y W1 wr := HY.out.below
                have HAa := hid (HA1.out.below (by rw [← HYY.out]; exact hba))
                have hg0 := hba.cell (p := ⟨X, 0, none⟩) (by show X < _; have := HYY.out; omega)
                rw [e0] at hg0
                have hu1 : (Instr.mapUpdate 45 (.map (some M)) (.string f.key) (.agg #[.map (some (Y + 1)), .map (some (Y + 2)), .map (some (Y + 3))])).run Try.prog wr = .ok () (putMap wr M ekS evK (kyTop t ++ [(f.key, fun j => Y + 1 + j)])) :=
                  run_update0 (ev := evK) HAa.out.top keyS Try.underlying45 hlk (fun j => Y + 1 + j)
                obtain ⟨W5, hW5⟩ : ∃ W5, putMap wr M ekS evK (kyTop t ++ [(f.key, fun j => Y + 1 + j)]) = W5 := ⟨_, rfl⟩
                rw [hW5] at hu1
                obtain ⟨t2, ht2⟩ : ∃ t2, t2 = t ++ [⟨f.key, fun j => Y + 1 + j, fun _ => []⟩] := ⟨_, rfl⟩
                have HA2 : Hid (KyAt w.heap.size W5 M t2) := by rw [← hW5, ht2]; exact HA1.out.newKey (by have := HYY.out; omega) HB1.out.size (by rw [← HYY.out]; exact hba) HY.out.maps f.key
                have HI2 : Hid (KyInv (kAt Ls i j ++ [f.key]) (lsAt Ls i j) t2) := by rw [ht2]; exact HI.out.newKey hlk _
                have HB2 : Hid (Below w.heap.size w W5) := by
                  rw [← hW5]
                  exact below_putObj (HB1.out.trans (hba.mono (by have := HB1.out.size; have := HYY.out; omega))) HA1.out.low.1 _ HAa.out.top
                obtain ⟨x, hxt, hkx, bx, hbx, hbi⟩ : ∃ x ∈ t2, x.key = f.key ∧ ∃ bx, bx = x.blk ∧ ∀ j, bx j = Y + 1 + j := ⟨⟨f.key, fun j => Y + 1 + j, fun _ => []⟩, by rw [ht2]; simp, rfl, _, rfl, fun _ => rfl⟩
                have ecell : ∀ p, W5.cell? p = wr.cell? p := fun p => by rw [← hW5, putMap_cell HAa.out.top _ _]
                have hXl2 : X < W5.heap.size := by have := HYY.out; rw [← hW5, putMap_size, HY.out.size]; omega
                have hYl : Y < W5.heap.size := by have := HYY.out; rw [← hW5, putMap_size, HY.out.size]; omega
                have g0 := (ecell ⟨X, 0, none⟩).trans ((hba.cell (p := ⟨X, 0, none⟩) (by show X < _; have := HYY.out; omega)).trans e0)
                have g1 := (ecell ⟨X, 1, none⟩).trans ((hba.cell (p := ⟨X, 1, none⟩) (by show X < _; have := HYY.out; omega)).trans e1)
                have g2 := (ecell ⟨X, 2, none⟩).trans ((hba.cell (p := ⟨X, 2, none⟩) (by show X < _; have := HYY.out; omega)).trans e2)
                have g3 := (ecell ⟨X, 3, none⟩).trans ((hba.cell (p := ⟨X, 3, none⟩) (by show X < _; have := HYY.out; omega)).trans e3)
                have g4 := (ecell ⟨X, 4, none⟩).trans ((hba.cell (p := ⟨X, 4, none⟩) (by show X < _; have := HYY.out; omega)).trans e4)
                have g5 := (ecell ⟨X, 5, none⟩).trans ((hba.cell (p := ⟨X, 5, none⟩) (by show X < _; have := HYY.out; omega)).trans e5)
                have ey : W5.cell? ⟨Y, i, none⟩ = some (.map (some (bx i))) := by
                  rw [hbi, ecell]
                  rcases three hi with rfl | rfl | rfl
                  · exact hz0
                  · exact hz1
                  · exact hz2
                have HLK := hid hlk
                have HBX := hid hbx
                clear hlk hba hW5 ht2 ecell HI HA1 HB1 hbi hbx
                go_upto_region 16 with fail
                clear e0 e1 e2 e3 e4 e5 hu1 hXl hz0 hz1 hz2 hg0 HAa HY
                have e0 := g0
                have e1 := g1
                have e2 := g2
                have e3 := g3
                have e4 := g4
                have e5 := g5
                have hXl := hXl2
                clear g0 g1 g2 g3 g4 g5 hXl2
                have hWd : W5.drew.heap = W5.heap := rfl
                cases hlv : look1 (x.inn i) f.valid with
                | none =>
                  have hl3 := (HA2.out.drew).lki hxt hi f.valid true
                  rw [hlv, ← HBX.out] at hl3
                  simp only [Option.map_none, Option.getD_none, Option.isSome_none, if_true] at hl3
                  have hl5 : ∀ o, (Instr.lookup 56 (.map (some (bx i))) (.int .u32 (f.valid : Int)) true).run Try.prog (W5.alloc o).drew = .ok (.tuple #[.agg #[.string ⟨#[]⟩, .int .u32 0, .int .u64 0, .int .u64 0, .int .u8 0, .string ⟨#[]⟩], .bool false]) (W5.alloc o).drew := fun o => by
                    have h := (HA2.out.below ((Below.refl _ _).alloc (Nat.le_refl _) o)).drew.lki hxt hi f.valid true
                    rw [hlv, ← HBX.out] at h
                    exact h
                  have HB3 : Hid (Below W5.heap.size W5 (W5.alloc (.cells #[.string ⟨#[]⟩, .int .u32 0, .int .u64 0, .int .u64 0, .int .u8 0, .string ⟨#[]⟩] 42)).drew) := below_drew ((Below.refl _ _).alloc (Nat.le_refl _) _)
                  have HXL := hid hXl
                  have HYL := hid hYl
                  have HL := hid hlv
                  have HX := hid hxt
                  have HK := hid hkx
                  clear hlv hxt hkx
                  go_big_region
                  clear hl3 hl5
                  go_wp2
                  generalize (W5.alloc (.cells #[.string ⟨#[]⟩, .int .u32 0, .int .u64 0, .int .u64 0, .int .u8 0, .string ⟨#[]⟩] 42)).drew = W3 at HB3 ⊢
                  have hb3 := HB3.out
                  have HA3 := hid (HA2.out.below hb3)
                  have d0 := hb3.cell (p := ⟨X, 0, none⟩) HXL.out
                  rw [e0] at d0
                  have d1 := hb3.cell (p := ⟨X, 1, none⟩) HXL.out
                  rw [e1] at d1
                  have d2 := hb3.cell (p := ⟨X, 2, none⟩) HXL.out
                  rw [e2] at d2
                  have d3 := hb3.cell (p := ⟨X, 3, none⟩) HXL.out
                  rw [e3] at d3
                  have d4 := hb3.cell (p := ⟨X, 4, none⟩) HXL.out
                  rw [e4] at d4
                  have d5 := hb3.cell (p := ⟨X, 5, none⟩) HXL.out
                  rw [e5] at d5
                  have dy := hb3.cell (p := ⟨Y, i, none⟩) HYL.out
                  rw [ey] at dy
                  clear e0 e1 e2 e3 e4 e5 ey
                  have hu : (Instr.mapUpdate 56 (.map (some (bx i))) (.int .u32 (f.valid : Int)) (.agg #[.string f.key, .int .u32 (f.valid : Int), .int .u64 (f.seq : Int), .int .u64 (f.line : Int), .int .u8 (f.kind : Int), .string f.val])).run Try.prog W3.drew = .ok () (putMap W3.drew (bx i) ekU evF (x.inn i ++ [(f.valid, f)])) := by
                    rw [HBX.out]
                    exact run_update0 (HA3.out.drew.inn x HX.out i hi) keyU Try.underlying56 HL.out f
                  obtain ⟨W4, hW4⟩ : ∃ W4, putMap W3.drew (bx i) ekU evF (x.inn i ++ [(f.valid, f)]) = W4 := ⟨_, rfl⟩
                  rw [hW4] at hu
                  have HA4 : Hid (KyAt w.heap.size W4 M (kyPut t2 f.key i f)) := by rw [← hW4, ← HK.out, HBX.out]; exact HA3.out.drew.newEnt HI2.out.keys HX.out hi f
                  have HI4 : Hid (KyInv (kAt Ls i (j + 1)) (lsAt Ls i (j + 1)) (kyPut t2 f.key i f)) := by rw [HS.out.1]; exact HI2.out.newEnt HX.out HK.out hi HL.out _ HS.out.2
                  have HB4 : Hid (Below w.heap.size w W4) := by
                    have h3 := below_drew (HB2.out.trans (hb3.mono (by have := HB2.out.size; omega)))
                    have hx0 := HA3.out.low.2 _ (kyBlks_mem HX.out hi)
                    rw [← hW4, HBX.out]
                    exact below_putObj h3 hx0 _ (HA3.out.drew.inn x HX.out i hi)
                  clear hW4 hb3 HB3
                  go_big_region
                  go_wp2
                  go_roundw
                  case rel => exact ⟨j + 1, _, by go_num, by omega, HA4, HI4, HB4⟩
                  case measure => simp [intOf]; omega
                | some g =>
                  have hl3 := (HA2.out.drew).lki hxt hi f.valid true
                  rw [hlv, ← HBX.out] at hl3
                  simp only [Option.map_some, Option.getD_some, Option.isSome_some, if_true] at hl3
                  change _ = Result.ok (Value.tuple #[.agg #[.string g.key, .int .u32 (g.valid : Int), .int .u64 (g.seq : Int), .int .u64 (g.line : Int), .int .u8 (g.kind : Int), .string g.val], .bool true]) _ at hl3
                  have hl5 : ∀ o, (Instr.lookup 56 (.map (some (bx i))) (.int .u32 (f.valid : Int)) true).run Try.prog (W5.alloc o).drew = .ok (.tuple #[.agg #[.string g.key, .int .u32 (g.valid : Int), .int .u64 (g.seq : Int), .int .u64 (g.line : Int), .int .u8 (g.kind : Int), .string g.val], .bool true]) (W5.alloc o).drew := fun o => by
                    have h := (HA2.out.below ((Below.refl _ _).alloc (Nat.le_refl _) o)).drew.lki hxt hi f.valid true
                    rw [hlv, ← HBX.out] at h
                    exact h
                  have HI4 : Hid (KyInv (kAt Ls i (j + 1)) (lsAt Ls i (j + 1)) t2) := by rw [HS.out.1]; exact HI2.out.again hxt hkx hi hlv _ HS.out.2
                  have HXL := hid hXl
                  have HYL := hid hYl
                  clear hlv hxt hkx
                  go_big_region
                  clear hl3 hl5
                  have HB3 : Hid (Below W5.heap.size W5 (W5.alloc (.cells #[.string g.key, .int .u32 (g.valid : Int), .int .u64 (g.seq : Int), .int .u64 (g.line : Int), .int .u8 (g.kind : Int), .string g.val] 42)).drew) := below_drew ((Below.refl _ _).alloc (Nat.le_refl _) _)
                  have HA3 := hid (HA2.out.below HB3.out)
                  have HB4 := hid (HB2.out.trans (HB3.out.mono (by have := HB2.out.size; omega)))
                  go_wp2
                  go_roundw
                  case rel => exact ⟨j + 1, _, by go_num, by omega, HA3, HI4, HB4⟩
                  case measure => simp [intOf]; omega
          | some b0 =>
            have hl1 := HA1.out.lk f.key
            rw [hlk] at hl1
            simp only [Option.map_some, Option.getD_some, Option.isSome_some] at hl1
            obtain ⟨x, hxt, hkx, hbx0⟩ := kyTop_some hlk
            obtain ⟨bx, hbx⟩ : ∃ bx, bx = x.blk := ⟨_, rfl⟩
            rw [← hbx] at hbx0
            subst hbx0
            have HI1 : Hid (KyInv (kAt Ls i j ++ [f.key]) (lsAt Ls i j) t) := ⟨HI.out.keys, HI.out.inn, HI.out.all, fun x hx => List.mem_append_left _ (HI.out.come x hx)⟩
            have HBX := hid hbx
            clear hlk HI hbx
            go_upto_region 9 with fail
            obtain ⟨Y, hY⟩ : ∃ Y, Y = W1.heap.size := ⟨_, rfl⟩
            have hb2 : Below W1.heap.size W1 (W1.alloc (.cells #[.map (some (bx 0)), .map (some (bx 1)), .map (some (bx 2))] 58)) := (Below.refl _ _).alloc (Nat.le_refl _) _
            have hy0 : (W1.alloc (.cells #[.map (some (bx 0)), .map (some (bx 1)), .map (some (bx 2))] 58)).heap[Y]? = some (.cells #[.map (some (bx 0)), .map (some (bx 1)), .map (some (bx 2))] 58 (0, 0)) := by rw [hY]; exact World.alloc_heap_new _ _
            rw [← hY]
            have HYY := hid hY
            clear hY
            generalize (W1.alloc (.cells #[.map (some (bx 0)), .map (some (bx 1)), .map (some (bx 2))] 58)) = W2 at hb2 hy0 ⊢
            have HA2 := hid (HA1.out.below hb2)
            have HB2 := hid (HB1.out.trans (hb2.mono HB1.out.size))
            have hYl := lt_of_block hy0
            have hXl2 : X < W2.heap.size := by have := hb2.size; omega
            have g0 := (hb2.cell (p := ⟨X, 0, none⟩) (by show X < _; omega)).trans e0
            have g1 := (hb2.cell (p := ⟨X, 1, none⟩) (by show X < _; omega)).trans e1
            have g2 := (hb2.cell (p := ⟨X, 2, none⟩) (by show X < _; omega)).trans e2
            have g3 := (hb2.cell (p := ⟨X, 3, none⟩) (by show X < _; omega)).trans e3
            have g4 := (hb2.cell (p := ⟨X, 4, none⟩) (by show X < _; omega)).trans e4
            have g5 := (hb2.cell (p := ⟨X, 5, none⟩) (by show X < _; omega)).trans e5
            have ey : W2.cell? ⟨Y, i, none⟩ = some (.map (some (bx i))) := by
              rcases three hi with rfl | rfl | rfl <;> rw [cell_of_row _ _ _ _ _ _ hy0] <;> rfl
            clear hy0 hb2 HA1 HB1 hXl e0 e1 e2 e3 e4 e5 hl1
            have e0 := g0
            have e1 := g1
            have e2 := g2
            have e3 := g3
            have e4 := g4
            have e5 := g5
            have hXl := hXl2
            clear g0 g1 g2 g3 g4 g5 hXl2
            go_upto_region 16 with fail
            have hWd : W2.drew.heap = W2.heap := rfl
            cases hlv : look1 (x.inn i) f.valid with
            | none =>
              have hl3 := (HA2.out.drew).lki hxt hi f.valid true
              rw [hlv, ← HBX.out] at hl3
              simp only [Option.map_none, Option.getD_none, Option.isSome_none, if_true] at hl3
              have hl5 : ∀ o, (Instr.lookup 56 (.map (some (bx i))) (.int .u32 (f.valid : Int)) true).run Try.prog (W2.alloc o).drew = .ok (.tuple #[.agg #[.string ⟨#[]⟩, .int .u32 0, .int .u64 0, .int .u64 0, .int .u8 0, .string ⟨#[]⟩], .bool false]) (W2.alloc o).drew := fun o => by
                have h := (HA2.out.below ((Below.refl _ _).alloc (Nat.le_refl _) o)).drew.lki hxt hi f.valid true
                rw [hlv, ← HBX.out] at h
                exact h
              have HB3 : Hid (Below W2.heap.size W2 (W2.alloc (.cells #[.string ⟨#[]⟩, .int .u32 0, .int .u64 0, .int .u64 0, .int .u8 0, .string ⟨#[]⟩] 42)).drew) := below_drew ((Below.refl _ _).alloc (Nat.le_refl _) _)
              have HXL := hid hXl
              have HYL := hid hYl
              have HL := hid hlv
              have HX := hid hxt
              have HK := hid hkx
              clear hlv hxt hkx
              go_big_region
              clear hl3 hl5
              go_wp2
              generalize (W2.alloc (.cells #[.string ⟨#[]⟩, .int .u32 0, .int .u64 0, .int .u64 0, .int .u8 0, .string ⟨#[]⟩] 42)).drew = W3 at HB3 ⊢
              have hb3 := HB3.out
              have HA3 := hid (HA2.out.below hb3)
              have d0 := hb3.cell (p := ⟨X, 0, none⟩) HXL.out
              rw [e0] at d0
              have d1 := hb3.cell (p := ⟨X, 1, none⟩) HXL.out
              rw [e1] at d1
              have d2 := hb3.cell (p := ⟨X, 2, none⟩) HXL.out
              rw [e2] at d2
              have d3 := hb3.cell (p := ⟨X, 3, none⟩) HXL.out
              rw [e3] at d3
              have d4 := hb3.cell (p := ⟨X, 4, none⟩) HXL.out
              rw [e4] at d4
              have d5 := hb3.cell (p := ⟨X, 5, none⟩) HXL.out
              rw [e5] at d5
              have dy := hb3.cell (p := ⟨Y, i, none⟩) HYL.out
              rw [ey] at dy
              clear e0 e1 e2 e3 e4 e5 ey
              have hu : (Instr.mapUpdate 56 (.map (some (bx i))) (.int .u32 (f.valid : Int)) (.agg #[.string f.key, .int .u32 (f.valid : Int), .int .u64 (f.seq : Int), .int .u64 (f.line : Int), .int .u8 (f.kind : Int), .string f.val])).run Try.prog W3.drew = .ok () (putMap W3.drew (bx i) ekU evF (x.inn i ++ [(f.valid, f)])) := by
                rw [HBX.out]
                exact run_update0 (HA3.out.drew.inn x HX.out i hi) keyU Try.underlying56 HL.out f
              obtain ⟨W4, hW4⟩ : ∃ W4, putMap W3.drew (bx i) ekU evF (x.inn i ++ [(f.valid, f)]) = W4 := ⟨_, rfl⟩
              rw [hW4] at hu
              have HA4 : Hid (KyAt w.heap.size W4 M (kyPut t f.key i f)) := by rw [← hW4, ← HK.out, HBX.out]; exact HA3.out.drew.newEnt HI1.out.keys HX.out hi f
              have HI4 : Hid (KyInv (kAt Ls i (j + 1)) (lsAt Ls i (j + 1)) (kyPut t f.key i f)) := by rw [HS.out.1]; exact HI1.out.newEnt HX.out HK.out hi HL.out _ HS.out.2
              have HB4 : Hid (Below w.heap.size w W4) := by
                have h3 := below_drew (HB2.out.trans (hb3.mono (by have := HB2.out.size; omega)))
                have hx0 := HA3.out.low.2 _ (kyBlks_mem HX.out hi)
                rw [← hW4, HBX.out]
                exact below_putObj h3 hx0 _ (HA3.out.drew.inn x HX.out i hi)
              clear hW4 hb3 HB3
              go_big_region
              go_wp2
              go_roundw
              case rel => exact ⟨j + 1, _, by go_num, by omega, HA4, HI4, HB4⟩
              case measure => simp [intOf]; omega
            | some g =>
              have hl3 := (HA2.out.drew).lki hxt hi f.valid true
              rw [hlv, ← HBX.out] at hl3
              simp only [Option.map_some, Option.getD_some, Option.isSome_some, if_true] at hl3
              change _ = Result.ok (Value.tuple #[.agg #[.string g.key, .int .u32 (g.valid : Int), .int .u64 (g.seq : Int), .int .u64 (g.line : Int), .int .u8 (g.kind : Int), .string g.val], .bool true]) _ at hl3
              have hl5 : ∀ o, (Instr.lookup 56 (.map (some (bx i))) (.int .u32 (f.valid : Int)) true).run Try.prog (W2.alloc o).drew = .ok (.tuple #[.agg #[.string g.key, .int .u32 (g.valid : Int), .int .u64 (g.seq : Int), .int .u64 (g.line : Int), .int .u8 (g.kind : Int), .string g.val], .bool true]) (W2.alloc o).drew := fun o => by
                have h := (HA2.out.below ((Below.refl _ _).alloc (Nat.le_refl _) o)).drew.lki hxt hi f.valid true
                rw [hlv, ← HBX.out] at h
                exact h
              have HI4 : Hid (KyInv (kAt Ls i (j + 1)) (lsAt Ls i (j + 1)) t) := by rw [HS.out.1]; exact HI1.out.again hxt hkx hi hlv _ HS.out.2
              have HXL := hid hXl
              have HYL := hid hYl
              clear hlv hxt hkx
              go_big_region
              clear hl3 hl5
              have HB3 : Hid (Below W2.heap.size W2 (W2.alloc (.cells #[.string g.key, .int .u32 (g.valid : Int), .int .u64 (g.seq : Int), .int .u64 (g.line : Int), .int .u8 (g.kind : Int), .string g.val] 42)).drew) := below_drew ((Below.refl _ _).alloc (Nat.le_refl _) _)
              have HA3 := hid (HA2.out.below HB3.out)
              have HB4 := hid (HB2.out.trans (HB3.out.mono (by have := HB2.out.size; omega)))
              go_wp2
              go_roundw
              case rel => exact ⟨j + 1, _, by go_num, by omega, HA3, HI4, HB4⟩
              case measure => simp [intOf]; omega
        · obtain rfl : j = ni := by omega
          have HI4 : Hid (KyInv (kAt Ls (i + 1) 0) (lsAt Ls (i + 1) 0) t) := by
            have := HI.out
            rw [← HL0.out] at this
            rw [kAt_next, ← lsAt_next]
            exact this
          go_wp2
          go_roundw
          case rel => exact ⟨i + 1, _, by go_num, by omega, HA, HI4, HB⟩
          case measure => simp [intOf]; omega
    · obtain rfl : i = 3 := by omega
      go_wp2
      go_ret
      exact ⟨M, t0, rfl, HA0.out, HI0.out, HB0.out⟩
end Go.Proofs.Herb
