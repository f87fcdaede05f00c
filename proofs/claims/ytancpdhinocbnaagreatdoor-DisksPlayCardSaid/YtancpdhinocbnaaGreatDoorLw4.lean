/- The contracts of the laws' SameTexts (of one list), same, has, changes and played. For disks as DiskAt says. -/
import Derived.Test.YtancpdhinocbnaaGreatDoorSle
import Derived.Test.YtancpdhinocbnaaGreatDoorDskN
import Derived.Test.YtancpdhinocbnaaGreatDoorCrr
import Derived.Test.YtancpdhinocbnaaGreatDoorOpA
import Derived.Laws.IdiomStrings
namespace Go.Proofs.Herb
open Go.RowKit Go.Sort
set_option maxRecDepth 100000 in
set_option maxHeartbeats 800000 in
theorem texts_true (a b : Option Addr) (n c d : Nat) (l : List (List UInt8)) (w : World) (hn : l.length = n) (hn' : n ≤ 4611686018427387904) (hr : Rd w a (l.map encStr)) (hs : Rd w b (l.map encStr)) :
    Calls Tryz.prog 74 #[.slice a n c, .slice b n d] w fun e w' => e = .returned (.bool true) ∧ Below w.heap.size w w' := by
  have Hn := hid hn
  have Hr := hid hr
  have Hs := hid hs
  have hnn : (((n : Int)) == (n : Int)) = true := by simp
  clear hn hr hs
  go_enter Tryz.func74, Tryz.ntmps74
  go_wp2
  go_loopw [5] (fun i wr => ∃ j : Nat, j ≤ n ∧ i = .int .i64 j ∧ Below w.heap.size w wr)
    (fun i _ => n - (intOf i).toNat)
  case atStart => exact ⟨0, by omega, rfl, Below.refl _ _⟩
  case round =>
    obtain ⟨j, hj1, rfl, hb⟩ := hrel
    have Hb := hid hb
    clear hb
    by_cases hjn : j < n
    · obtain ⟨b1, o1, rfl, hb1, hc1⟩ := Hr.out.cellB Hb.out (k := j) (by simp; have := Hn.out; omega)
      obtain ⟨b2, o2, rfl, hb2, hc2⟩ := Hs.out.cellB Hb.out (k := j) (by simp; have := Hn.out; omega)
      have i1 : (0 : Int) ≤ (j : Int) := by omega
      have i2 : (j : Int) < (n : Int) := by omega
      rw [List.getElem_map] at hc1 hc2
      obtain ⟨p, hp⟩ : ∃ p : ByteArray, encStr (l[j]'(by have := Hn.out; omega)) = .string p := ⟨_, rfl⟩
      rw [hp] at hc1 hc2
      have hbb := seq (rfl : p = p)
      clear hp
      go_wp2
      go_quiet (fail)
      go_wp2
      go_roundw
      case rel => exact ⟨j + 1, by omega, by go_num, below_drewN Hb.out _⟩
      case measure => simp [intOf]; omega
    · obtain rfl : j = n := by omega
      go_wp2
      go_ret
      exact ⟨rfl, Hb.out⟩
theorem sameTexts_true (a b : Option Addr) (n c d : Nat) (l : List (List UInt8)) (w : World) (hn : l.length = n) (hn' : n ≤ 4611686018427387904) (hr : Rd w a (l.map encStr)) (hs : Rd w b (l.map encStr)) :
    Calls Tryz.prog 35 #[.slice a n c, .slice b n d] w fun e w' => e = .returned (.bool true) ∧ Below w.heap.size w w' := by
  have H := hid (texts_true a b n c d l w hn hn' hr hs)
  clear hn hn' hr hs
  go_enter Tryz.func35, Tryz.ntmps35
  go_wp2_with (go_at_call 74; refine H.out.mono ?_; rintro e w1 ⟨rfl, hb⟩)
  go_ret
  exact ⟨rfl, hb⟩
theorem sameBytes_true (a b : Option Addr) (n c d : Nat) (l : List UInt8) (w : World) (hn : l.length = n) (hn' : n ≤ 4611686018427387904) (hr : Rd w a (l.map bv)) (hs : Rd w b (l.map bv)) :
    Calls Tryz.prog 42 #[.slice a n c, .slice b n d] w fun e w' => e = .returned (.bool true) ∧ Below w.heap.size w w' := by
  have H := equal_bytes a b n c n d l l w hn hn hn' hn' hr hs
  rw [show (l == l) = true from beq_self_eq_true l] at H
  have H := hid H
  clear hn hn' hr hs
  go_enter Tryz.func42, Tryz.ntmps42
  go_wp2_with (go_at_call 76; refine H.out.mono ?_; rintro e w1 ⟨rfl, hb⟩)
  go_ret
  exact ⟨rfl, hb⟩
theorem DsOk.bytes {s : DS} {n : Nat} (h : DsOk s n) : ∀ f ∈ s.files, f.b.length ≤ 4194304 := fun f hf => (h.sure f hf).2
theorem readL_le {s : DS} {n : Nat} (h : DsOk s n) (k : ByteArray) : (readL s k).length ≤ 4194304 := by
  unfold readL fileL
  split
  · cases hf : s.files[(look s.names k).getD 0]? with
    | none => simp
    | some f => simpa using (h.sure f (List.mem_of_getElem? hf)).2
  · simp
theorem sorted_many {s : DS} {n : Nat} (h : DsOk s n) : (sortedK s.names).length ≤ n := by rw [sortedK_len]; exact h.good.many
theorem knownE_size {s : DS} {k : ByteArray} (h : knownE s k = 0) : k.size ≤ maxLen := by
  have := (may_size (knownE_zero h).2.1).2
  unfold maxLen; omega
end Go.Proofs.Herb
