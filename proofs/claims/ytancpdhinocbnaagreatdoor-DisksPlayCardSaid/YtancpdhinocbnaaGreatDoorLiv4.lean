/- The contract of the law's lives (chapter 04): it answers true. No condition. -/
import Derived.Test.YtancpdhinocbnaaGreatDoorLh5
import Derived.Test.YtancpdhinocbnaaGreatDoorFrs
namespace Go.Proofs.Herb
open Go.RowKit Go.Sort
def lv0 : DS := newS 10
def lv1 : DS := createS lv0 ⟨#[97]⟩
def lv2 : DS := syncDirT lv1
def lv3 : DS := appendS lv2 ⟨#[97]⟩ [1, 2, 3]
def lv4 : DS := syncS lv3 ⟨#[97]⟩
def lv5 : DS := appendS lv4 ⟨#[97]⟩ [4, 5]
def lv6 : DS := createS lv5 ⟨#[98]⟩
def lv7 : DS := fuseS lv6 1
def lv8 : DS := syncS lv7 ⟨#[97]⟩
def lv9 : DS := syncS lv8 ⟨#[98]⟩
theorem DsOk.fused {s : DS} {n : Nat} (h : DsOk s n) (k : Int) (h1 : k ≤ 9223372036854775807) : DsOk (fuseS s k) n := by
  unfold fuseS
  split
  · exact h
  · exact h.same (by dsimp only; omega) h1 h.r0 h.r1 rfl rfl rfl rfl rfl rfl h.sure
theorem lv_e : createE lv0 ⟨#[97]⟩ = 0 ∧ syncDirE lv1 = 0 ∧ appendE lv2 ⟨#[97]⟩ [1, 2, 3] = 0 ∧ syncE lv3 ⟨#[97]⟩ = 0 ∧ appendE lv4 ⟨#[97]⟩ [4, 5] = 0 ∧ createE lv5 ⟨#[98]⟩ = 0 := by decide +kernel
theorem lv_f : looseN lv6 ⟨#[97]⟩ = 2 ∧ foundE lv6 ⟨#[97]⟩ = 0 ∧ knownE lv6 ⟨#[99]⟩ = 7 ∧ usedN lv6 = 5 ∧ lv6.changes.length = 1 ∧ appendE lv6 ⟨#[98]⟩ [0, 0, 0, 0, 0, 0] = 9 ∧ createE lv6 ⟨#[97]⟩ = 8 := by decide +kernel
theorem lv_g : syncE lv7 ⟨#[97]⟩ = 0 ∧ syncE lv8 ⟨#[98]⟩ = 10 ∧ knownE lv9 ⟨#[97]⟩ = 10 ∧ lv9.dead = true := by decide +kernel
theorem lv_same : appendS lv6 ⟨#[98]⟩ [0, 0, 0, 0, 0, 0] = lv6 ∧ createS lv6 ⟨#[97]⟩ = lv6 := by
  constructor
  · unfold appendS
    rw [if_pos (.inr (by decide +kernel))]
  · unfold createS
    rw [if_pos (.inl (by decide +kernel))]
theorem lv_ok : DsOk lv0 0 ∧ DsOk lv1 2 ∧ DsOk lv2 2 ∧ DsOk lv3 2 ∧ DsOk lv4 2 ∧ DsOk lv5 2 ∧ DsOk lv6 4 ∧ DsOk lv7 4 ∧ DsOk lv8 4 ∧ DsOk lv9 4 := by
  have o0 : DsOk lv0 0 := DsOk.new (by decide) (by decide)
  have o1 : DsOk lv1 2 := o0.create _
  have o2 : DsOk lv2 2 := o1.syncDir
  have o3 : DsOk lv3 2 := o2.append _ _
  have o4 : DsOk lv4 2 := o3.sync _
  have o5 : DsOk lv5 2 := o4.append _ _
  have o6 : DsOk lv6 4 := o5.create _
  have o7 : DsOk lv7 4 := o6.fused 1 (by decide)
  have o8 : DsOk lv8 4 := o7.sync _
  exact ⟨o0, o1, o2, o3, o4, o5, o6, o7, o8, o8.sync _⟩
theorem lv_D : crashD lv6 0 = [(⟨#[97]⟩, 0, 0)] ∧ crashD lv6 1 = [(⟨#[97]⟩, 0, 0), (⟨#[98]⟩, 1, 1)] := ⟨by kernel_rfl, by kernel_rfl⟩
theorem lv_L : (crashL lv6 0)[0]? = some ⟨#[97]⟩ ∧ (crashL lv6 1)[0]? = some ⟨#[97]⟩ := by
  unfold crashL
  rw [lv_D.1, lv_D.2]
  constructor
  · simp [sortedK, keyL, ofL]
  · have h : sortedK [((⟨#[97]⟩ : ByteArray), 0, 0), (⟨#[98]⟩, 1, 1)] = [[97], [98]] := by
      unfold sortedK
      exact List.mergeSort_of_pairwise (by simp [keyL, leB]; decide)
    rw [h]; rfl
theorem lv_x : knownE (crashS lv6 0 []) ⟨#[97]⟩ = 0 ∧ readL (crashS lv6 0 []) ⟨#[97]⟩ = [1, 2, 3] ∧ (sortedK (crashS lv6 0 []).names).length = 1 := by
  have o := lv_ok.2.2.2.2.2.2.1
  obtain ⟨h1, h2, _⟩ := crash_read o 0 [] lv_L.1
  refine ⟨h1, ?_, ?_⟩
  · rw [h2, lv_D.1]; decide +kernel
  · rw [crash_sorted o, sortedK_len, lv_D.1]; rfl
theorem lv_y : knownE (crashS lv6 1 [1]) ⟨#[97]⟩ = 0 ∧ readL (crashS lv6 1 [1]) ⟨#[97]⟩ = [1, 2, 3, 4] ∧ (sortedK (crashS lv6 1 [1]).names).length = 2 := by
  have o := lv_ok.2.2.2.2.2.2.1
  obtain ⟨h1, h2, _⟩ := crash_read o 1 [1] lv_L.2
  refine ⟨h1, ?_, ?_⟩
  · rw [h2, lv_D.2]; decide +kernel
  · rw [crash_sorted o, sortedK_len, lv_D.2]; rfl
set_option maxRecDepth 100000 in
set_option maxHeartbeats 3200000 in
theorem lives4_any (w : World) : Calls Tryz.prog 6 #[] w fun e w' => e = .returned (.bool true) ∧ Below w.heap.size w w' := by
  obtain ⟨o0, o1, o2, o3, o4, o5, o6, o7, o8, o9⟩ := lv_ok
  have O0 := hid o0
  have O1 := hid o1
  have O2 := hid o2
  have O3 := hid o3
  have O4 := hid o4
  have O5 := hid o5
  have O6 := hid o6
  have O7 := hid o7
  have O8 := hid o8
  have O9 := hid o9
  obtain ⟨e1, e2, e3, e4, e5, e6⟩ := lv_e
  obtain ⟨f1, f2, f3, f4, f5, f6, f7⟩ := lv_f
  obtain ⟨g1, g2, g3, g4⟩ := lv_g
  obtain ⟨x1, x2, x3⟩ := lv_x
  obtain ⟨y1, y2, y3⟩ := lv_y
  have E1 := hid e1
  have E2 := hid e2
  have E3 := hid e3
  have E4 := hid e4
  have E5 := hid e5
  have E6 := hid e6
  have F1 := hid f1
  have F2 := hid f2
  have F3 := hid f3
  have F4 := hid f4
  have F5 := hid f5
  have F6 := hid f6
  have F7 := hid f7
  have G1 := hid g1
  have G2 := hid g2
  have G3 := hid g3
  have G4 := hid g4
  have X1 := hid x1
  have X2 := hid x2
  have X3 := hid x3
  have Y1 := hid y1
  have Y2 := hid y2
  have Y3 := hid y3
  clear o0 o1 o2 o3 o4 o5 o6 o7 o8 o9 e1 e2 e3 e4 e5 e6 f1 f2 f3 f4 f5 f6 f7 g1 g2 g3 g4 x1 x2 x3 y1 y2 y3
  have hmk : ∀ w : World, (Instr.makeSlice 31 (.int .i64 6) (.int .i64 6)).run Tryz.prog w = .ok (.slice (some ⟨w.heap.size, 0, none⟩) 6 6) (w.alloc (.cells #[.int .u8 0, .int .u8 0, .int .u8 0, .int .u8 0, .int .u8 0, .int .u8 0] 5)) := fun _ => by kernel_rfl
  go_enter Tryz.func6, Tryz.ntmps6
  go_wp2_with fail
  refine (new_any 10 (by decide) (by decide) w).mono ?_
  rintro e w0 ⟨rfl, hD0, hB0⟩
  obtain ⟨m0, hm0⟩ : ∃ m, m = newM w.heap.size := ⟨_, rfl⟩
  have HF0 := hid (show (∀ k, k ∈ m0.fp → w.heap.size ≤ k) ∧ Below w.heap.size w w0 from ⟨by rw [hm0]; exact newM_fresh _, hB0⟩)
  rw [← hm0] at hD0 ⊢
  have HD0 : Hid (DiskAt w0 m0 lv0) := hid hD0
  clear hD0 hB0 hm0
  go_wp2_with fail
  refine (create_any m0 lv0 ⟨#[97]⟩ w0 HD0.out (by unfold maxLen; decide) O0.out.f0 O0.out.f1 (by decide) (by decide) (by decide)).mono ?_
  rintro e w1 ⟨m1, rfl, hD, hm, hM⟩
  rw [E1.out, ← hm]
  have HD1 : Hid (DiskAt w1 m1 lv1) := hid hD
  have hFr := hM.fresh (B := w.heap.size) HF0.out.2.size HF0.out.1
  have HF1 := hid (show (∀ k, k ∈ m1.fp → w.heap.size ≤ k) ∧ Below w.heap.size w w1 from ⟨hFr.1, HF0.out.2.trans hFr.2⟩)
  clear hD hM hFr hm
  go_wp2_with fail
  refine (syncDir_any m1 lv1 w1 HD1.out O1.out.f0 O1.out.f1).mono ?_
  rintro e w2 ⟨m2, rfl, hD, hm, hM⟩
  rw [E2.out, ← hm]
  have HD2 : Hid (DiskAt w2 m2 lv2) := hid hD
  have hFr := hM.fresh (B := w.heap.size) HF1.out.2.size HF1.out.1
  have HF2 := hid (show (∀ k, k ∈ m2.fp → w.heap.size ≤ k) ∧ Below w.heap.size w w2 from ⟨hFr.1, HF1.out.2.trans hFr.2⟩)
  clear hD hM hFr hm
  go_wp2_with fail
  refine (append_any m2 lv2 ⟨#[97]⟩ (by unfold maxLen; decide) (some ⟨w2.heap.size, 0, none⟩) 3 3 [1, 2, 3] _ (HD2.out.below ((Below.refl w2.heap.size w2).alloc (Nat.le_refl _) (.cells (([1, 2, 3] : List UInt8).map bv).toArray 5))) O2.out.good.ok (Nat.le_trans (used_le O2.out) (by decide)) O2.out.f0 O2.out.f1 O2.out.r0 O2.out.r1 rfl (Nat.le_refl _) (by unfold maxLen; decide) (Rd.new w2 (([1, 2, 3] : List UInt8).map bv) 5) (fun h => by cases h) (fun _ b off e hb => by cases e; exact absurd (HD2.out.lt _ hb) (Nat.lt_irrefl _)) (fun f hf => Nat.le_trans (O2.out.bytes f hf) (by decide))).mono ?_
  rintro e w3 ⟨m3, rfl, hD, hm, hM⟩
  rw [E3.out, ← hm]
  have HD3 : Hid (DiskAt w3 m3 lv3) := hid hD
  have hFr := ((Mod.of_below m2.fp ((Below.refl w2.heap.size w2).alloc (Nat.le_refl _) (.cells (([1, 2, 3] : List UInt8).map bv).toArray 5))).trans hM).fresh (B := w.heap.size) HF2.out.2.size HF2.out.1
  have HF3 := hid (show (∀ k, k ∈ m3.fp → w.heap.size ≤ k) ∧ Below w.heap.size w w3 from ⟨hFr.1, HF2.out.2.trans hFr.2⟩)
  clear hD hM hFr hm
  go_wp2_with fail
  refine (sync_any m3 lv3 ⟨#[97]⟩ (by unfold maxLen; decide) w3 HD3.out O3.out.good.ok O3.out.f0 O3.out.f1).mono ?_
  rintro e w4 ⟨rfl, hD, hM⟩
  rw [E4.out]
  have HD4 : Hid (DiskAt w4 m3 lv4) := hid hD
  have hFr := hM.fresh (B := w.heap.size) HF3.out.2.size HF3.out.1
  have HF4 := hid (show (∀ k, k ∈ m3.fp → w.heap.size ≤ k) ∧ Below w.heap.size w w4 from ⟨hFr.1, HF3.out.2.trans hFr.2⟩)
  clear hD hM hFr
  go_wp2_with fail
  refine (append_any m3 lv4 ⟨#[97]⟩ (by unfold maxLen; decide) (some ⟨w4.heap.size, 0, none⟩) 2 2 [4, 5] _ (HD4.out.below ((Below.refl w4.heap.size w4).alloc (Nat.le_refl _) (.cells (([4, 5] : List UInt8).map bv).toArray 5))) O4.out.good.ok (Nat.le_trans (used_le O4.out) (by decide)) O4.out.f0 O4.out.f1 O4.out.r0 O4.out.r1 rfl (Nat.le_refl _) (by unfold maxLen; decide) (Rd.new w4 (([4, 5] : List UInt8).map bv) 5) (fun h => by cases h) (fun _ b off e hb => by cases e; exact absurd (HD4.out.lt _ hb) (Nat.lt_irrefl _)) (fun f hf => Nat.le_trans (O4.out.bytes f hf) (by decide))).mono ?_
  rintro e w5 ⟨m4, rfl, hD, hm, hM⟩
  rw [E5.out, ← hm]
  have HD5 : Hid (DiskAt w5 m4 lv5) := hid hD
  have hFr := ((Mod.of_below m3.fp ((Below.refl w4.heap.size w4).alloc (Nat.le_refl _) (.cells (([4, 5] : List UInt8).map bv).toArray 5))).trans hM).fresh (B := w.heap.size) HF4.out.2.size HF4.out.1
  have HF5 := hid (show (∀ k, k ∈ m4.fp → w.heap.size ≤ k) ∧ Below w.heap.size w w5 from ⟨hFr.1, HF4.out.2.trans hFr.2⟩)
  clear hD hM hFr hm
  go_wp2_with fail
  refine (create_any m4 lv5 ⟨#[98]⟩ w5 HD5.out (by unfold maxLen; decide) O5.out.f0 O5.out.f1 (by decide +kernel) (by decide +kernel) (by decide +kernel)).mono ?_
  rintro e w6 ⟨m5, rfl, hD, hm, hM⟩
  rw [E6.out, ← hm]
  have HD6 : Hid (DiskAt w6 m5 lv6) := hid hD
  have hFr := hM.fresh (B := w.heap.size) HF5.out.2.size HF5.out.1
  have HF6 := hid (show (∀ k, k ∈ m5.fp → w.heap.size ≤ k) ∧ Below w.heap.size w w6 from ⟨hFr.1, HF5.out.2.trans hFr.2⟩)
  clear hD hM hFr hm
  go_wp2_with fail
  refine (loose_any m5 lv6 ⟨#[97]⟩ (by unfold maxLen; decide) w6 HD6.out O6.out.good.ok O6.out.sure).mono ?_
  rintro e w7 ⟨rfl, hB⟩
  rw [F1.out, F2.out]
  have HD7 : Hid (DiskAt w7 m5 lv6) := hid (HD6.out.below hB)
  have HF7 := hid (show (∀ k, k ∈ m5.fp → w.heap.size ≤ k) ∧ Below w.heap.size w w7 from ⟨HF6.out.1, HF6.out.2.trans (hB.mono HF6.out.2.size)⟩)
  clear hB
  go_wp2_with fail
  refine (read_clip m5 lv6 ⟨#[99]⟩ (by unfold maxLen; decide) w7 HD7.out O6.out.good.ok O6.out.bytes).mono ?_
  rintro e w8 ⟨q0, rfl, _, hB⟩
  rw [F3.out]
  have HD8 : Hid (DiskAt w8 m5 lv6) := hid (HD7.out.below hB)
  have HF8 := hid (show (∀ k, k ∈ m5.fp → w.heap.size ≤ k) ∧ Below w.heap.size w w8 from ⟨HF7.out.1, HF7.out.2.trans (hB.mono HF7.out.2.size)⟩)
  clear hB
  go_wp2_with fail
  refine (used_any m5 lv6 w8 HD8.out O6.out.good.ok (Nat.le_trans (used_le O6.out) (by decide))).mono ?_
  rintro e w9 ⟨rfl, hB⟩
  rw [F4.out]
  have HD9 : Hid (DiskAt w9 m5 lv6) := hid (HD8.out.below hB)
  have HF9 := hid (show (∀ k, k ∈ m5.fp → w.heap.size ≤ k) ∧ Below w.heap.size w w9 from ⟨HF8.out.1, HF8.out.2.trans (hB.mono HF8.out.2.size)⟩)
  clear hB
  go_wp2_with fail
  refine (dir_any m5 lv6 w9 HD9.out).mono ?_
  rintro e w' ⟨rfl, rfl⟩
  rw [F5.out]
  go_wp2_with fail
  refine (append_any m5 lv6 ⟨#[98]⟩ (by unfold maxLen; decide) (some ⟨w9.heap.size, 0, none⟩) 6 6 [0, 0, 0, 0, 0, 0] _ (HD9.out.below ((Below.refl w9.heap.size w9).alloc (Nat.le_refl _) (.cells (([0, 0, 0, 0, 0, 0] : List UInt8).map bv).toArray 5))) O6.out.good.ok (Nat.le_trans (used_le O6.out) (by decide)) O6.out.f0 O6.out.f1 O6.out.r0 O6.out.r1 rfl (Nat.le_refl _) (by unfold maxLen; decide) (Rd.new w9 (([0, 0, 0, 0, 0, 0] : List UInt8).map bv) 5) (fun h => by cases h) (fun _ b off e hb => by cases e; exact absurd (HD9.out.lt _ hb) (Nat.lt_irrefl _)) (fun f hf => Nat.le_trans (O6.out.bytes f hf) (by decide))).mono ?_
  rintro e w10 ⟨m6, rfl, hD, hm, hM⟩
  rw [F6.out, ← hm]
  have HD10 : Hid (DiskAt w10 m6 (appendS lv6 ⟨#[98]⟩ [0, 0, 0, 0, 0, 0])) := hid hD
  have hFr := ((Mod.of_below m5.fp ((Below.refl w9.heap.size w9).alloc (Nat.le_refl _) (.cells (([0, 0, 0, 0, 0, 0] : List UInt8).map bv).toArray 5))).trans hM).fresh (B := w.heap.size) HF9.out.2.size HF9.out.1
  have HF10 := hid (show (∀ k, k ∈ m6.fp → w.heap.size ≤ k) ∧ Below w.heap.size w w10 from ⟨hFr.1, HF9.out.2.trans hFr.2⟩)
  clear hD hM hFr hm
  rw [lv_same.1] at HD10
  go_wp2_with fail
  refine (create_any m6 lv6 ⟨#[97]⟩ w10 HD10.out (by unfold maxLen; decide) O6.out.f0 O6.out.f1 (by decide +kernel) (by decide +kernel) (by decide +kernel)).mono ?_
  rintro e w11 ⟨m7, rfl, hD, hm, hM⟩
  rw [F7.out, ← hm]
  have HD11 : Hid (DiskAt w11 m7 (createS lv6 ⟨#[97]⟩)) := hid hD
  have hFr := hM.fresh (B := w.heap.size) HF10.out.2.size HF10.out.1
  have HF11 := hid (show (∀ k, k ∈ m7.fp → w.heap.size ≤ k) ∧ Below w.heap.size w w11 from ⟨hFr.1, HF10.out.2.trans hFr.2⟩)
  clear hD hM hFr hm
  rw [lv_same.2] at HD11
  go_wp2_with fail
  refine (crash_any m7 lv6 0 none 0 0 [] w11 HD11.out rfl (.inl rfl) (by decide +kernel) (O6.out.crashOk (by decide) 0 [])).mono ?_
  rintro e w12 ⟨mx, rfl, hX, hB, _⟩
  have HXmx := hid hX
  have HD12 : Hid (DiskAt w12 m7 lv6) := hid (HD11.out.below hB)
  have HF12 := hid (show (∀ k, k ∈ m7.fp → w.heap.size ≤ k) ∧ Below w.heap.size w w12 from ⟨HF11.out.1, HF11.out.2.trans (hB.mono HF11.out.2.size)⟩)
  clear hB hX
  go_wp2_with fail
  have hA := (Below.refl w12.heap.size w12).alloc (Nat.le_refl _) (.cells (([1] : List Int).map (Value.int .i64)).toArray 3)
  refine (crash_any m7 lv6 1 (some ⟨w12.heap.size, 0, none⟩) 1 1 [1] _ (HD12.out.below hA) rfl (Rd.new w12 (([1] : List Int).map (Value.int .i64)) 3) (by decide +kernel) (O6.out.crashOk (by decide) 1 [1])).mono ?_
  rintro e w13 ⟨my, rfl, hX, hB, _⟩
  have hB := hA.trans (hB.mono hA.size)
  have HXmy := hid hX
  have HD13 : Hid (DiskAt w13 m7 lv6) := hid (HD12.out.below hB)
  have HF13 := hid (show (∀ k, k ∈ m7.fp → w.heap.size ≤ k) ∧ Below w.heap.size w w13 from ⟨HF12.out.1, HF12.out.2.trans (hB.mono HF12.out.2.size)⟩)
  have HXmx := hid (HXmx.out.below hB)
  clear hB hX hA
  go_wp2_with fail
  refine (list_any mx (crashS lv6 0 []) w13 HXmx.out ((O6.out.crash 0 []).good.keysOk (Nat.le_trans (O6.out.crash 0 []).files (by decide)) (by decide))).mono ?_
  rintro e w14 ⟨qx, rfl, _, hB⟩
  rw [X3.out]
  have HD14 : Hid (DiskAt w14 m7 lv6) := hid (HD13.out.below hB)
  have HF14 := hid (show (∀ k, k ∈ m7.fp → w.heap.size ≤ k) ∧ Below w.heap.size w w14 from ⟨HF13.out.1, HF13.out.2.trans (hB.mono HF13.out.2.size)⟩)
  have HXmx := hid (HXmx.out.below hB)
  have HXmy := hid (HXmy.out.below hB)
  clear hB
  go_wp2_with fail
  refine (has_true mx (crashS lv6 0 []) 4 ⟨#[97]⟩ [1, 2, 3] w14 HXmx.out (O6.out.crash 0 []) X1.out X2.out (by decide)).mono ?_
  rintro e w15 ⟨rfl, hB⟩
  have HD15 : Hid (DiskAt w15 m7 lv6) := hid (HD14.out.below hB)
  have HF15 := hid (show (∀ k, k ∈ m7.fp → w.heap.size ≤ k) ∧ Below w.heap.size w w15 from ⟨HF14.out.1, HF14.out.2.trans (hB.mono HF14.out.2.size)⟩)
  have HXmx := hid (HXmx.out.below hB)
  have HXmy := hid (HXmy.out.below hB)
  clear hB
  go_wp2_with fail
  refine (list_any my (crashS lv6 1 [1]) w15 HXmy.out ((O6.out.crash 1 [1]).good.keysOk (Nat.le_trans (O6.out.crash 1 [1]).files (by decide)) (by decide))).mono ?_
  rintro e w16 ⟨qy, rfl, _, hB⟩
  rw [Y3.out]
  have HD16 : Hid (DiskAt w16 m7 lv6) := hid (HD15.out.below hB)
  have HF16 := hid (show (∀ k, k ∈ m7.fp → w.heap.size ≤ k) ∧ Below w.heap.size w w16 from ⟨HF15.out.1, HF15.out.2.trans (hB.mono HF15.out.2.size)⟩)
  have HXmx := hid (HXmx.out.below hB)
  have HXmy := hid (HXmy.out.below hB)
  clear hB
  go_wp2_with fail
  refine (has_true my (crashS lv6 1 [1]) 4 ⟨#[97]⟩ [1, 2, 3, 4] w16 HXmy.out (O6.out.crash 1 [1]) Y1.out Y2.out (by decide)).mono ?_
  rintro e w17 ⟨rfl, hB⟩
  have HD17 : Hid (DiskAt w17 m7 lv6) := hid (HD16.out.below hB)
  have HF17 := hid (show (∀ k, k ∈ m7.fp → w.heap.size ≤ k) ∧ Below w.heap.size w w17 from ⟨HF16.out.1, HF16.out.2.trans (hB.mono HF16.out.2.size)⟩)
  have HXmx := hid (HXmx.out.below hB)
  have HXmy := hid (HXmy.out.below hB)
  clear hB
  clear HXmx HXmy
  go_wp2_with fail
  refine (fuseI_any m7 lv6 1 w17 HD17.out).mono ?_
  rintro e w18 ⟨rfl, hD, hM⟩
  rw [show fuseE 1 = 0 from rfl]
  have HD18 : Hid (DiskAt w18 m7 lv7) := hid hD
  have hFr := hM.fresh (B := w.heap.size) HF17.out.2.size HF17.out.1
  have HF18 := hid (show (∀ k, k ∈ m7.fp → w.heap.size ≤ k) ∧ Below w.heap.size w w18 from ⟨hFr.1, HF17.out.2.trans hFr.2⟩)
  clear hD hM hFr
  go_wp2_with fail
  refine (sync_any m7 lv7 ⟨#[97]⟩ (by unfold maxLen; decide) w18 HD18.out O7.out.good.ok O7.out.f0 O7.out.f1).mono ?_
  rintro e w19 ⟨rfl, hD, hM⟩
  rw [G1.out]
  have HD19 : Hid (DiskAt w19 m7 lv8) := hid hD
  have hFr := hM.fresh (B := w.heap.size) HF18.out.2.size HF18.out.1
  have HF19 := hid (show (∀ k, k ∈ m7.fp → w.heap.size ≤ k) ∧ Below w.heap.size w w19 from ⟨hFr.1, HF18.out.2.trans hFr.2⟩)
  clear hD hM hFr
  go_wp2_with fail
  refine (sync_any m7 lv8 ⟨#[98]⟩ (by unfold maxLen; decide) w19 HD19.out O8.out.good.ok O8.out.f0 O8.out.f1).mono ?_
  rintro e w20 ⟨rfl, hD, hM⟩
  rw [G2.out]
  have HD20 : Hid (DiskAt w20 m7 lv9) := hid hD
  have hFr := hM.fresh (B := w.heap.size) HF19.out.2.size HF19.out.1
  have HF20 := hid (show (∀ k, k ∈ m7.fp → w.heap.size ≤ k) ∧ Below w.heap.size w w20 from ⟨hFr.1, HF19.out.2.trans hFr.2⟩)
  clear hD hM hFr
  go_wp2_with fail
  refine (read_clip m7 lv9 ⟨#[97]⟩ (by unfold maxLen; decide) w20 HD20.out O9.out.good.ok O9.out.bytes).mono ?_
  rintro e wz ⟨q9, rfl, _, hB⟩
  rw [G3.out]
  have HZ := hid (HD20.out.below hB)
  have HB := hid (HF20.out.2.trans (hB.mono HF20.out.2.size))
  clear hB
  go_wp2_with fail
  refine (blown_any m7 lv9 wz HZ.out).mono ?_
  rintro e w' ⟨rfl, rfl⟩
  rw [G4.out]
  go_wp2_with fail
  go_ret
  exact ⟨rfl, HB.out⟩
end Go.Proofs.Herb
