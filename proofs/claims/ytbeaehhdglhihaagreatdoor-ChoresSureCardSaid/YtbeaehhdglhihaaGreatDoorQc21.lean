/- The contract of maps.Clone at a directory, and of the disk's SyncDir. For a disk as DiskAt says. -/
import Derived.Shelf.SlMaps.Clone
import Derived.Test.YtbeaehhdglhihaaGreatDoorQc20
namespace Go.Proofs.Herb
open Go.RowKit
set_option maxRecDepth 100000 in
theorem clone_any (M : Nat) (es : Array MapEntry) (c : Nat) (w : World) (hb : w.heap[M]? = some (.map es c)) :
    Calls Tryz.prog 59 #[.map (some M)] w fun e w' => e = .returned (.map (some w.heap.size)) ∧ w' = w.alloc (.map es c) := by
  have hq := fun w => run_eql_map_nil_sl (P := Tryz.prog) w 98 _ _ (some M) Tryz.underlying98
  go_enter Tryz.func59, Tryz.ntmps59
  go_wp2
  rw [run_callFunc_extern Tryz.func107 (by kernel_rfl) (by kernel_rfl) (by kernel_rfl) (e := Extern.MapsClone.clone) (by kernel_rfl), run_maps_clone_sl w 98 hb]
  simp only [Result.andThen]
  rw [Oper.upon_value]
  go_wp2
  rw [run_typeAssert_map_sl _ 98 20 _ _ _ Tryz.underlying98]
  simp only [Result.andThen]
  rw [Oper.upon_value]
  go_wp2
  go_ret
  exact ⟨rfl, rfl⟩
def syncDirS (s : DS) : DS := { s with sured := s.names, sclock := s.nclock, changes := [] }
theorem sync_fp {m : DM} {n k : Nat} (h : k ∈ ({ m with S := n, cv := .slice none 0 0 } : DM).fp) : k ∈ m.fp ∨ k = n := by
  simp only [DM.fp, List.mem_cons, List.mem_append, Option.mem_toList] at h ⊢
  have e : (Value.slice none 0 0).ownBlock = none := rfl
  rw [e] at h
  simp only [reduceCtorEq, false_or] at h
  rcases h with h | h | h | h | h <;> simp [h]
theorem sync_nodup {m : DM} {n : Nat} (h : m.fp.Nodup) (hn : n ∉ m.fp) : ({ m with S := n, cv := .slice none 0 0 } : DM).fp.Nodup := by
  have e : ({ m with S := n, cv := .slice none 0 0 } : DM).fp = m.D :: m.M :: n :: (m.fv.ownBlock.toList ++ ([] ++ m.bs.filterMap Value.ownBlock)) := rfl
  rw [e]
  simp only [DM.fp, List.mem_cons, List.mem_append, not_or] at hn
  have h' := h
  simp only [DM.fp, List.nodup_cons, List.mem_cons, List.mem_append, not_or] at h'
  obtain ⟨⟨a1, _, a3, _, a5⟩, ⟨_, b2, _, b4⟩, _, t⟩ := h'
  obtain ⟨n1, n2, _, n4, _, n6⟩ := hn
  have t2 : (m.fv.ownBlock.toList ++ ([] ++ m.bs.filterMap Value.ownBlock)).Nodup := by
    refine List.Nodup.sublist ?_ t
    exact List.Sublist.append_left (List.Sublist.append_right (List.nil_sublist _) _) _
  simp only [List.nodup_cons, List.mem_cons, List.mem_append, List.not_mem_nil, false_or, not_or]
  exact ⟨⟨a1, Ne.symm n1, a3, a5⟩, ⟨Ne.symm n2, b2, b4⟩, ⟨n4, n6⟩, by simpa using t2⟩
theorem DiskAt.synced {w w' : World} {m : DM} {s : DS} (h : DiskAt w m s) {n : Nat} (hn : n ∉ m.fp)
    (hD : w'.heap[m.D]? = some (.cells #[.int .i64 s.room, .int .i64 s.fuse, .bool s.dead, m.fv, .map (some m.M), .map (some n), .slice none 0 0] 103 (0, 0)))
    (hN : w'.heap[n]? = some (.map (encDir s.names) s.nclock)) (hk : ∀ k, k ∈ m.fp → k ≠ m.D → w'.heap[k]? = w.heap[k]?) :
    DiskAt w' { m with S := n, cv := .slice none 0 0 } (syncDirS s) := by
  obtain ⟨h1, h2, _, hf, hc, hb⟩ := h.notD
  exact ⟨hD, (hk _ (by simp [DM.fp]) (Ne.symm h1)).trans h.names, hN, own_keep h.files (fun g hg => hk g (mem_fp_f hg) (hf g hg).1), h.len,
    fun i v f hv hff => own_keep (h.bytes i v f hv hff) (fun g hg => hk g (mem_fp_b hv hg) (hb i v g hv hg).1), World.ownsRow_nil _ _ _ _, sync_nodup h.nodup hn⟩
set_option maxRecDepth 100000 in
set_option maxHeartbeats 1600000 in
theorem syncDir_ok (m : DM) (s : DS) (w : World) (h : DiskAt w m s) (h1 : -1 ≤ s.fuse) (h2 : s.fuse ≤ 9223372036854775807) (ha : aliveE s = 0) (hl : letsE s = 0) :
    Calls Tryz.prog 17 #[.pointer (some ⟨m.D, 0, none⟩)] w fun e w' => ∃ n, e = .returned (.int .i64 0) ∧ DiskAt w' { m with S := n, cv := .slice none 0 0 } (syncDirS (letsS s)) ∧ Mod m.fp ({ m with S := n, cv := .slice none 0 0 } : DM).fp w w' := by
  have HA := hid ha
  have HL := hid hl
  have H := hid h
  clear h ha hl
  go_enter Tryz.func17, Tryz.ntmps17
  go_upto_region 7 with (first
    | (go_at_call 57; refine (alive_any m s w H.out).mono ?_; rintro e w1 ⟨rfl, rfl⟩; rw [HA.out])
    | (go_at_call 58; refine (lets_any m s w H.out h1 h2).mono ?_; rintro e w1 ⟨rfl, hD, hM⟩; rw [HL.out]; have HD := hid hD; have HM := hid hM; clear hD hM))
  obtain ⟨_, _, _, _, c4, _, _⟩ := HD.out.cells
  go_wp2_with (go_at_call 59; refine (clone_any m.M _ _ w1 HD.out.names).mono ?_; rintro e w2 ⟨rfl, rfl⟩; have HQ := hid (heap_alloc_old w1 (.map (encDir (letsS s).names) (letsS s).nclock) (lt_of_block HD.out.disk)); have e5 := cell_of_row _ m.D 5 _ _ _ (HQ.out.trans HD.out.disk); have e6 := cell_of_row _ m.D 6 _ _ _ (HQ.out.trans HD.out.disk); have k5 := frozen_of_row _ m.D 5 _ _ (HQ.out.trans HD.out.disk); have k6 := frozen_of_row _ m.D 6 _ _ (HQ.out.trans HD.out.disk))
  go_ret
  have hn : w1.heap.size ∉ m.fp := fun h => by have := HD.out.lt _ h; omega
  refine ⟨w1.heap.size, rfl, HD.out.synced hn (heap_setCell_same _ _ _ _ _ _ (heap_setCell_same _ _ _ _ _ _ (HQ.out.trans HD.out.disk))) ?_ (fun k hk hkD => ?_), HM.out.trans ⟨rfl, rfl, rfl, by simp, fun k hk hkn => ?_, fun k hk => ?_⟩⟩
  · have hne : w1.heap.size ≠ m.D := fun e => hn (by rw [e]; simp [DM.fp])
    rw [heap_setCell_other _ _ _ _ hne, heap_setCell_other _ _ _ _ hne]
    exact heap_alloc_new _ _
  · rw [heap_setCell_other _ _ _ _ hkD, heap_setCell_other _ _ _ _ hkD]
    exact heap_alloc_old _ _ (HD.out.lt k hk)
  · have hne : k ≠ m.D := fun e => hkn (by rw [e]; simp [DM.fp])
    rw [heap_setCell_other _ _ _ _ hne, heap_setCell_other _ _ _ _ hne]
    exact heap_alloc_old _ _ hk
  · rcases sync_fp hk with h | h
    · exact .inl h
    · exact .inr (by omega)
end Go.Proofs.Herb
