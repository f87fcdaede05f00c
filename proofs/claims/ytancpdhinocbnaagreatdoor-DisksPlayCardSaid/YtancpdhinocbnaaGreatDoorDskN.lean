/- The contracts of the disk's Dir and Blown. For a disk as DiskAt says. -/
import Derived.Test.YtancpdhinocbnaaGreatDoorDskM
namespace Go.Proofs.Herb
open Go.RowKit
set_option maxHeartbeats 800000 in
theorem dir_any (m : DM) (s : DS) (w : World) (h : DiskAt w m s) :
    Calls Tryz.prog 22 #[.pointer (some ⟨m.D, 0, none⟩)] w fun e w' => e = .returned (.int .i64 (s.changes.length : Int)) ∧ w = w' := by
  obtain ⟨_, _, _, _, _, _, c6⟩ := h.cells
  obtain ⟨q, c, hv, _, _, _⟩ := own_shape h.changes
  rw [hv] at c6
  have H := hid h
  clear h hv
  go_enter Tryz.func22, Tryz.ntmps22
  go_wp2_with (go_at_call 27; refine (there_any m s w H.out).mono ?_; rintro e w1 ⟨rfl, rfl⟩)
  go_ret
  exact ⟨rfl, rfl⟩
set_option maxHeartbeats 800000 in
theorem blown_any (m : DM) (s : DS) (w : World) (h : DiskAt w m s) :
    Calls Tryz.prog 26 #[.pointer (some ⟨m.D, 0, none⟩)] w fun e w' => e = .returned (.bool s.dead) ∧ w = w' := by
  obtain ⟨_, _, c2, _, _, _, _⟩ := h.cells
  have H := hid h
  clear h
  go_enter Tryz.func26, Tryz.ntmps26
  go_wp2_with (go_at_call 27; refine (there_any m s w H.out).mono ?_; rintro e w1 ⟨rfl, rfl⟩)
  go_ret
  exact ⟨rfl, rfl⟩
end Go.Proofs.Herb
