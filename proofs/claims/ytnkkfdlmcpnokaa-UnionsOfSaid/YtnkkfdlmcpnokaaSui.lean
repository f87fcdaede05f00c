
/- slices.Sort at uint32: a permutation, sorted; of no number nothing. (filled by gen_su.py out of XSui.src) -/
import Derived.Test.YtnkkfdlmcpnokaaSuh
namespace Go.Proofs.Herb
open Go.RowKit Go.Sort
set_option maxHeartbeats 2000000 in
theorem sort_u (g off C N cap : Nat) (d : Array Int) (w : World) (h : Rw w g off C d w) (hN : d.size = N) (hsz : N < 4611686018427387904) :
    Calls Try.prog 50 #[.slice (some ⟨g, off, none⟩) N cap] w fun e w' => e = .returned (.tuple #[]) ∧ ∃ d', PermIn 0 N d d' ∧ SortedIn ltInt 0 N d' ∧ Rw w g off C d' w' := by
  have hk : bitsLen N ≤ 62 := (bitsLen_le_iff N 62).2 (by omega)
  have hp := (pdq_all w g off C N cap hsz (N + 1)).use 0 N (bitsLen N) d w (by omega) h hN (Nat.zero_le _) (Nat.le_refl _) (by omega) (Or.inl rfl)
  rw [show ((0 : Nat) : Int) = 0 from rfl] at hp
  have hL := len_u N hsz w
  have hcv : IntKind.u64.wrap (N : Int) = (N : Int) := by rw [IntKind.wrap_u64]; omega
  clear h hN
  go_enter Try.func50, Try.ntmps50
  go_wp2_with (first | (go_at_call 47; with_reducible refine hL.mono ?_; rintro e w' ⟨rfl, rfl⟩) | (go_at_call 63; with_reducible refine hp.mono ?_; rintro e w' ⟨rfl, d', h1, h2, h3⟩))
  go_end0
  exact ⟨rfl, d', h1, h2, h3⟩
set_option maxHeartbeats 2000000 in
theorem ins_none (cap : Nat) (w : World) : Calls Try.prog 69 #[.slice none 0 cap, .int .i64 0, .int .i64 0] w fun e w' => e = .returned (.tuple #[]) ∧ w' = w := by
  go_enter Try.func69, Try.ntmps69
  go_wp2
  go_loopw [6] (fun vi wr => vi = .int .i64 1 ∧ wr = w) (fun _ _ => 0)
  case atStart => exact ⟨rfl, rfl⟩
  case round =>
    obtain ⟨rfl, rfl⟩ := hrel
    go_wp2
    go_end0
    exact ⟨rfl, rfl⟩
set_option maxHeartbeats 2000000 in
theorem pdq_none (cap : Nat) (w : World) : Calls Try.prog 63 #[.slice none 0 cap, .int .i64 0, .int .i64 0, .int .i64 0] w fun e w' => e = .returned (.tuple #[]) ∧ w' = w := by
  go_enter Try.func63, Try.ntmps63
  go_wp2
  go_loopw [1, 2, 3, 8, 9] (fun va vb vl vwb vwp wr => va = .int .i64 0 ∧ vb = .int .i64 0 ∧ vl = .int .i64 0 ∧ vwb = .bool true ∧ vwp = .bool true ∧ wr = w) (fun _ _ _ _ _ _ => 0)
  case atStart => exact ⟨rfl, rfl, rfl, rfl, rfl, rfl⟩
  case round =>
    obtain ⟨rfl, rfl, rfl, rfl, rfl, rfl⟩ := hrel
    go_wp2_with (go_at_call 69; refine (ins_none _ _).mono ?_; rintro e w1 ⟨rfl, rfl⟩)
    exact bodyPost_ret (results_none rfl _ _ _) rfl ⟨rfl, rfl⟩
set_option maxHeartbeats 2000000 in
theorem sort_none (cap : Nat) (w : World) : Calls Try.prog 50 #[.slice none 0 cap] w fun e w' => e = .returned (.tuple #[]) ∧ w' = w := by
  have hL := len_u 0 (by decide) w
  rw [show ((bitsLen 0 : Nat) : Int) = 0 from rfl, show ((0 : Nat) : Int) = 0 from rfl] at hL
  go_enter Try.func50, Try.ntmps50
  go_wp2_with (first | (go_at_call 47; with_reducible refine hL.mono ?_; rintro e w' ⟨rfl, rfl⟩) | (go_at_call 63; refine (pdq_none _ _).mono ?_; rintro e w' ⟨rfl, rfl⟩))
  go_end0
  exact ⟨rfl, rfl⟩
end Go.Proofs.Herb
