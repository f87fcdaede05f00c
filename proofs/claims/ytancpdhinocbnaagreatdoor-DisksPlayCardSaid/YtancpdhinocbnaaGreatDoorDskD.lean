/- The contracts of the disk's Fuse, and of its SyncDir where it is refused. For a disk as DiskAt says. -/
import Derived.Test.YtancpdhinocbnaaGreatDoorDskB
namespace Go.Proofs.Herb
open Go.RowKit
set_option maxHeartbeats 800000 in
theorem fuse_any (m : DM) (s : DS) (n : Nat) (w : World) (h : DiskAt w m s) :
    Calls Tryz.prog 25 #[.pointer (some ⟨m.D, 0, none⟩), .int .i64 (n : Int)] w fun e w' => e = .returned (.int .i64 0) ∧ DiskAt w' m { s with fuse := (n : Int) } ∧ Mod m.fp m.fp w w' := by
  obtain ⟨_, c1, _, _, _, _, _⟩ := h.cells
  have f1 := h.free 1
  have H := hid h
  clear h
  have b1 : decide ((n : Int) < 0) = false := by simp
  go_enter Tryz.func25, Tryz.ntmps25
  go_wp2_with (go_at_call 27; refine (there_any m s w H.out).mono ?_; rintro e w1 ⟨rfl, rfl⟩)
  go_ret
  exact ⟨rfl, H.out.turnD s.room n s.dead (heap_setCell_same _ _ _ _ _ _ H.out.disk) (fun k hk => heap_setCell_other _ _ _ _ hk), Mod.one (fun k hk => heap_setCell_other _ _ _ _ hk) (by simp) rfl rfl rfl⟩
set_option maxHeartbeats 800000 in
theorem syncDir_lets (m : DM) (s : DS) (w : World) (h : DiskAt w m s) (h1 : -1 ≤ s.fuse) (h2 : s.fuse ≤ 9223372036854775807) (ha : aliveE s = 0) (hl : letsE s ≠ 0) :
    Calls Tryz.prog 17 #[.pointer (some ⟨m.D, 0, none⟩)] w fun e w' => e = .returned (.int .i64 (letsE s)) ∧ DiskAt w' m (letsS s) ∧ Mod m.fp m.fp w w' := by
  have b1 : (letsE s != 0) = true := by simpa using hl
  have HA := hid ha
  have H := hid h
  clear h ha hl
  go_enter Tryz.func17, Tryz.ntmps17
  go_wp2_with (first
    | (go_at_call 67; refine (alive_any m s w H.out).mono ?_; rintro e w1 ⟨rfl, rfl⟩; rw [HA.out])
    | (go_at_call 47; refine (lets_any m s w H.out h1 h2).mono ?_; rintro e w1 ⟨rfl, hD, hM⟩; have HD := hid hD; have HM := hid hM; clear hD hM))
  go_ret
  exact ⟨rfl, HD.out, HM.out⟩
end Go.Proofs.Herb
