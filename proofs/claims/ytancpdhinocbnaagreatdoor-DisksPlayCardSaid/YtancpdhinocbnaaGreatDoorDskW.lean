/- The contracts of the disk's there, may, alive and lets. For a disk that lies in memory as DiskAt says. -/
import Derived.Test.YtancpdhinocbnaaGreatDoorDsk
namespace Go.Proofs.Herb
open Go.RowKit
/-- the cells of a disk that is there -/
theorem DiskAt.cells {w : World} {m : DM} {s : DS} (h : DiskAt w m s) :
    w.cell? ⟨m.D, 0, none⟩ = some (.int .i64 s.room) ∧ w.cell? ⟨m.D, 1, none⟩ = some (.int .i64 s.fuse) ∧ w.cell? ⟨m.D, 2, none⟩ = some (.bool s.dead) ∧ w.cell? ⟨m.D, 3, none⟩ = some m.fv ∧
    w.cell? ⟨m.D, 4, none⟩ = some (.map (some m.M)) ∧ w.cell? ⟨m.D, 5, none⟩ = some (.map (some m.S)) ∧ w.cell? ⟨m.D, 6, none⟩ = some m.cv := by
  have hc := fun i => cell_of_row w m.D i _ _ _ h.disk
  exact ⟨hc 0, hc 1, hc 2, hc 3, hc 4, hc 5, hc 6⟩
theorem DiskAt.free {w : World} {m : DM} {s : DS} (h : DiskAt w m s) (i : Nat) : w.frozen? ⟨m.D, i, none⟩ = false := frozen_of_row _ _ _ _ _ h.disk
def mayB (k : ByteArray) : Bool := decide (1 ≤ k.size) && decide (k.size ≤ 24)
def aliveE (s : DS) : Int := if s.dead then 10 else 0
theorem DiskAt.notD {w : World} {m : DM} {s : DS} (h : DiskAt w m s) : m.D ≠ m.M ∧ m.D ≠ m.S ∧ m.M ≠ m.S ∧ (∀ g, m.fv.ownBlock = some g → g ≠ m.D ∧ g ≠ m.M ∧ g ≠ m.S) ∧ (∀ g, m.cv.ownBlock = some g → g ≠ m.D ∧ g ≠ m.M ∧ g ≠ m.S) ∧ (∀ (i : Nat) v g, m.bs[i]? = some v → v.ownBlock = some g → g ≠ m.D ∧ g ≠ m.M ∧ g ≠ m.S) := by
  have hn := h.nodup
  simp only [DM.fp, List.nodup_cons, List.mem_cons, not_or] at hn
  obtain ⟨⟨h1, h2, h3⟩, ⟨h4, h5⟩, h6, _⟩ := hn
  have key : ∀ g, g ∈ (m.fv.ownBlock.toList ++ (m.cv.ownBlock.toList ++ m.bs.filterMap Value.ownBlock)) → g ≠ m.D ∧ g ≠ m.M ∧ g ≠ m.S := fun g hg =>
    ⟨fun e => h3 (e ▸ hg), fun e => h5 (e ▸ hg), fun e => h6 (e ▸ hg)⟩
  refine ⟨h1, h2, h4, fun g hg => key g (by simp [hg]), fun g hg => key g (by simp [hg]), fun i v g hv hg => key g ?_⟩
  simp only [List.mem_append, List.mem_filterMap]
  exact .inr (.inr ⟨v, List.mem_of_getElem? hv, hg⟩)
/-- only the disk's own cells have turned -/
theorem DiskAt.turnD {w w' : World} {m : DM} {s : DS} (h : DiskAt w m s) (room fuse : Int) (dead : Bool)
    (hD : w'.heap[m.D]? = some (.cells #[.int .i64 room, .int .i64 fuse, .bool dead, m.fv, .map (some m.M), .map (some m.S), m.cv] 51 (0, 0))) (hk : ∀ k, k ≠ m.D → w'.heap[k]? = w.heap[k]?) :
    DiskAt w' m { s with room := room, fuse := fuse, dead := dead } := by
  obtain ⟨h1, h2, _, hf, hc, hb⟩ := h.notD
  exact ⟨hD, (hk _ (Ne.symm h1)).trans h.names, (hk _ (Ne.symm h2)).trans h.sured, own_keep h.files (fun g hg => hk g (hf g hg).1), h.len,
    fun i v f hv hff => own_keep (h.bytes i v f hv hff) (fun g hg => hk g (hb i v g hv hg).1), own_keep h.changes (fun g hg => hk g (hc g hg).1), h.nodup⟩
theorem Mod.one {w w' : World} {m : DM} (hk : ∀ k, k ≠ m.D → w'.heap[k]? = w.heap[k]?) (hs : w'.heap.size = w.heap.size) (h1 : w'.os = w.os) (h2 : w'.tape = w.tape) (h3 : w'.output = w.output) : Mod m.fp m.fp w w' :=
  ⟨h1, h2, h3, by omega, fun k _ hn => hk k (fun e => hn (by simp [DM.fp, e])), fun _ h => .inl h⟩
set_option maxHeartbeats 400000 in
theorem there_any (m : DM) (s : DS) (w : World) (h : DiskAt w m s) :
    Calls Tryz.prog 27 #[.pointer (some ⟨m.D, 0, none⟩)] w fun e w' => e = .returned (.bool true) ∧ w = w' := by
  obtain ⟨_, _, _, _, c4, _, _⟩ := h.cells
  clear h
  have hnn := fun (w : World) => run_neq_map_nil (P := Tryz.prog) w 47 9 3 (some m.M) Tryz.underlying47
  go_enter Tryz.func27, Tryz.ntmps27
  go_wp2
  go_ret
  exact ⟨rfl, rfl⟩
set_option maxHeartbeats 400000 in
theorem may_any (k : ByteArray) (hk : k.size ≤ maxLen) (w : World) :
    Calls Tryz.prog 80 #[.string k] w fun e w' => e = .returned (.bool (mayB k)) ∧ w = w' := by
  unfold maxLen at hk
  by_cases h1 : 1 ≤ k.size
  · by_cases h2 : k.size ≤ 24
    · go_enter Tryz.func80, Tryz.ntmps80
      go_wp2
      go_ret
      exact ⟨by simp [mayB, h1, h2]; omega, rfl⟩
    · go_enter Tryz.func80, Tryz.ntmps80
      go_wp2
      go_ret
      exact ⟨by simp [mayB, h1, h2]; omega, rfl⟩
  · go_enter Tryz.func80, Tryz.ntmps80
    go_wp2
    go_ret
    exact ⟨by simp [mayB, h1], rfl⟩
set_option maxHeartbeats 400000 in
theorem alive_any (m : DM) (s : DS) (w : World) (h : DiskAt w m s) :
    Calls Tryz.prog 67 #[.pointer (some ⟨m.D, 0, none⟩)] w fun e w' => e = .returned (.int .i64 (aliveE s)) ∧ w = w' := by
  obtain ⟨_, _, c2, _, _, _, _⟩ := h.cells
  have H := hid h
  clear h
  cases hd : s.dead
  all_goals
    rw [hd] at c2
    have Hd := hid hd
    clear hd
    go_enter Tryz.func67, Tryz.ntmps67
    go_wp2_with (go_at_call 27; refine (there_any m s _ H.out).mono ?_; rintro e w1 ⟨rfl, rfl⟩)
    go_ret
    exact ⟨by unfold aliveE; rw [Hd.out]; rfl, rfl⟩
def letsE (s : DS) : Int := if s.fuse = 0 then 10 else 0
def letsS (s : DS) : DS := if s.fuse = -1 then s else if s.fuse = 0 then { s with dead := true } else { s with fuse := s.fuse - 1 }
set_option maxHeartbeats 800000 in
theorem lets_any (m : DM) (s : DS) (w : World) (h : DiskAt w m s) (h1 : -1 ≤ s.fuse) (h2 : s.fuse ≤ 9223372036854775807) :
    Calls Tryz.prog 47 #[.pointer (some ⟨m.D, 0, none⟩)] w fun e w' => e = .returned (.int .i64 (letsE s)) ∧ DiskAt w' m (letsS s) ∧ Mod m.fp m.fp w w' := by
  obtain ⟨_, c1, c2, _, _, _, _⟩ := h.cells
  have f1 := h.free 1
  have f2 := h.free 2
  have H := hid h
  clear h
  by_cases q1 : s.fuse = -1
  · have Q1 := hid q1
    rw [q1] at c1
    clear q1
    go_enter Tryz.func47, Tryz.ntmps47
    go_wp2
    go_ret
    exact ⟨by unfold letsE; rw [Q1.out]; rfl, by unfold letsS; rw [if_pos Q1.out]; exact H.out, Mod.refl _ _⟩
  · by_cases q2 : s.fuse = 0
    · have Q1 := hid q1
      have Q2 := hid q2
      rw [q2] at c1
      clear q1 q2
      go_enter Tryz.func47, Tryz.ntmps47
      go_wp2
      go_ret
      refine ⟨by unfold letsE; rw [Q2.out]; rfl, ?_, Mod.one (fun k hk => heap_setCell_other _ _ _ _ hk) (by simp) rfl rfl rfl⟩
      unfold letsS
      rw [if_neg Q1.out, if_pos Q2.out]
      exact H.out.turnD s.room s.fuse true (heap_setCell_same _ _ _ _ _ _ H.out.disk) (fun k hk => heap_setCell_other _ _ _ _ hk)
    · have Q1 := hid q1
      have Q2 := hid q2
      have b1 : (s.fuse == -1) = false := by simpa using q1
      have b2 : (s.fuse == 0) = false := by simpa using q2
      have h3 : 0 < s.fuse := by omega
      clear q1 q2
      go_enter Tryz.func47, Tryz.ntmps47
      go_wp2
      go_ret
      refine ⟨by unfold letsE; rw [if_neg Q2.out]; rfl, ?_, Mod.one (fun k hk => heap_setCell_other _ _ _ _ hk) (by simp) rfl rfl rfl⟩
      unfold letsS
      rw [if_neg Q1.out, if_neg Q2.out]
      exact H.out.turnD s.room (s.fuse - 1) s.dead (heap_setCell_same _ _ _ _ _ _ H.out.disk) (fun k hk => heap_setCell_other _ _ _ _ hk)
end Go.Proofs.Herb
