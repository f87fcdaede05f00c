/- The contract of frames.noughts. For slices that can be read. -/
import Derived.Test.YtklhnncjgkbelaaDoorProg
import Derived.WalkLawsBesides
import Derived.WalkSpells
import Derived.Outline
import Derived.Deep.LoopGhost
import Derived.Deep.QuietTactic
import Derived.Deep.DeepCutAuto
import Derived.BigQuiet
import Derived.Test.YtklhnncjgkbelaaDoorFrm
import Derived.Test.YtklhnncjgkbelaaDoorGetP
namespace Go.Proofs.Herb
open Go.RowKit
theorem isnt_any (c : UInt8) (w : World) : Calls Tryd.prog 50 #[.int .u8 (c.toNat : Int)] w fun e w' => e = .returned (.bool (c != 0)) ∧ w = w' := by
  by_cases h : c = 0
  · subst h
    go_enter Tryd.func50, Tryd.ntmps50
    go_wp2
    go_ret
    exact ⟨rfl, rfl⟩
  · have h1 : c.toNat ≠ 0 := fun e => h (UInt8.toNat_inj.1 e)
    have b1 : (c != 0) = true := by simpa using h
    have b2 : ((c.toNat : Int) != 0) = true := by simp; omega
    have b3 : ((c.toNat : Int) == 0) = false := by simp; omega
    have B1 := hid b1
    clear h b1
    go_enter Tryd.func50, Tryd.ntmps50
    go_wp2
    go_ret
    exact ⟨by rw [B1.out]; first | rfl | (simp; omega), rfl⟩
set_option maxRecDepth 100000 in
set_option maxHeartbeats 800000 in
theorem index_any (a : Option Addr) (n c : Nat) (l : List UInt8) (w : World) (hn : l.length = n) (hm : n ≤ 4611686018427387904) (hr : Rd w a (l.map bv)) :
    Calls Tryd.prog 55 #[.slice a n c, .func (.func 50) #[] #[]] w fun e w' => ∃ i : Int, e = .returned (.int .i64 i) ∧ (decide (0 ≤ i)) = !zeros l ∧ w = w' := by
  have Hn := hid hn
  have Hr := hid hr
  clear hn hr
  go_enter Tryd.func55, Tryd.ntmps55
  go_wp2
  go_loop [5, 8] (fun _ i => ∃ k : Nat, k ≤ n ∧ i = .int .i64 k ∧ zeros (l.take k) = true)
    (fun _ i => n - (intOf i).toNat)
  case atStart => exact ⟨0, by omega, rfl, rfl⟩
  case round =>
    obtain ⟨k, hk, rfl, hz⟩ := hrel
    have Hz := hid hz
    clear hz
    by_cases hlt : k < n
    · obtain ⟨b, off, rfl, hc⟩ := Hr.out.cell (k := k) (by simp; have := Hn.out; omega)
      rw [List.getElem_map] at hc
      obtain ⟨q, hq⟩ : ∃ q, q = l[k]'(by have := Hn.out; omega) := ⟨_, rfl⟩
      rw [← hq] at hc
      unfold bv at hc
      have Hq := hid hq
      clear hq
      cases hb : (q != 0)
      · have Hb := hid hb
        clear hb
        go_wp2_with (go_at_call 50; refine (isnt_any q w).mono ?_; rintro e w' ⟨rfl, rfl⟩; rw [Hb.out])
        go_round
        case rel =>
          refine ⟨k + 1, by omega, by go_num, ?_⟩
          have hb := Hb.out
          have hz := Hz.out
          unfold zeros at hz ⊢
          rw [List.take_succ_eq_append_getElem (by have := Hn.out; omega), List.all_append, hz, ← Hq.out]
          simp at hb
          simp [hb]
        case measure => simp [intOf]; omega
      · have Hb := hid hb
        clear hb
        go_wp2_with (go_at_call 50; refine (isnt_any q w).mono ?_; rintro e w' ⟨rfl, rfl⟩; rw [Hb.out])
        go_ret
        refine ⟨(k : Int), rfl, ?_, rfl⟩
        have hb := Hb.out
        have h0 : zeros l = false := by
          unfold zeros
          rw [Bool.eq_false_iff]
          intro h
          rw [List.all_eq_true] at h
          have h2 := h q (by rw [Hq.out]; exact List.getElem_mem _)
          simp at hb h2
          exact hb h2
        rw [h0]
        simp
    · go_wp2
      obtain rfl : k = n := by omega
      go_ret
      refine ⟨-1, rfl, ?_, rfl⟩
      have hz := Hz.out
      rw [List.take_of_length_le (by have := Hn.out; omega)] at hz
      rw [hz]
      rfl
set_option maxHeartbeats 400000 in
theorem noughts_any (a : Option Addr) (n c : Nat) (l : List UInt8) (w : World) (hn : l.length = n) (hm : n ≤ 4611686018427387904) (hr : Rd w a (l.map bv)) :
    Calls Tryd.prog 41 #[.slice a n c] w fun e w' => e = .returned (.bool (zeros l)) ∧ w = w' := by
  have T : Calls Tryd.prog 49 #[.slice a n c, .func (.func 50) #[] #[]] w fun e w' => e = .returned (.bool (!zeros l)) ∧ w = w' := by
    go_enter Tryd.func49, Tryd.ntmps49
    go_wp2_with (go_at_call 55; refine (index_any a n c l w hn hm hr).mono ?_; rintro e w' ⟨i, rfl, hi, rfl⟩)
    go_ret
    exact ⟨by rw [← hi]; rfl, rfl⟩
  have T := hid T
  clear hn hm hr
  cases hz : zeros l
  all_goals
    have Hz := hid hz
    clear hz
    go_enter Tryd.func41, Tryd.ntmps41
    go_wp2_with (go_at_call 49; refine T.out.mono ?_; rintro e w' ⟨rfl, rfl⟩; rw [Hz.out])
    go_ret
    exact ⟨rfl, rfl⟩
end Go.Proofs.Herb
