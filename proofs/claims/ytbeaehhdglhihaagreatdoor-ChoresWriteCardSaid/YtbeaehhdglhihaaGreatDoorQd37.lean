/- A disk and the reference's disk side by side: each call of the disk; SameBytes of one list. For states as DsOk says. -/
import Derived.Test.YtbeaehhdglhihaaGreatDoorQd30
import Derived.Test.YtbeaehhdglhihaaGreatDoorQd35
import Derived.Test.YtbeaehhdglhihaaGreatDoorQd36
namespace Go.Proofs.Herb
open Go.RowKit
variable {I : Nat → Prop} {w0 w : World} {md : DM} {s t : DS} {mr : RM} {n : Nat}
theorem Two.fuseD (T : Two I w0 w md s mr t n) (v : Int) (hv : v ≤ 9223372036854775807) :
    Calls Tryz.prog 28 #[.pointer (some ⟨md.D, 0, none⟩), .int .i64 v] w fun e w' => e = .returned (.int .i64 (fuseE v)) ∧ Two I w0 w' md (fuseS s v) mr t n := by
  refine (fuseI_any md s v w T.disk).mono ?_
  rintro e w' ⟨rfl, hd, hM⟩
  refine ⟨rfl, T.move hd hM ?_ (Nat.le_refl _)⟩
  unfold fuseS
  split
  · exact T.okd
  · rename_i h
    exact T.okd.same (by show -1 ≤ v; omega) hv T.okd.r0 T.okd.r1 rfl rfl rfl rfl rfl rfl T.okd.sure
theorem sameB_true (a b : Option Addr) (n c d : Nat) (l : List UInt8) (w : World) (hn : l.length = n) (hn' : n ≤ 4611686018427387904) (hr : Rd w a (l.map bv)) (hs : Rd w b (l.map bv)) :
    Calls Tryz.prog 55 #[.slice a n c, .slice b n d] w fun e w' => e = .returned (.bool true) ∧ Below w.heap.size w w' := by
  have H := equal_bytes a b n c n d l l w hn hn hn' hn' hr hs
  rw [show (l == l) = true from beq_self_eq_true l] at H
  have H := hid H
  clear hn hn' hr hs
  go_enter Tryz.func55, Tryz.ntmps55
  go_wp2_with (go_at_call 106; refine H.out.mono ?_; rintro e w1 ⟨rfl, hb⟩)
  go_ret
  exact ⟨rfl, hb⟩
end Go.Proofs.Herb
