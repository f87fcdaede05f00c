/- The contract of blooms.Has. For bytes that can be read. -/
import Derived.Test.YtcmiillgniglaaaGreatDoorQf04
import Derived.Test.YtcmiillgniglaaaGreatDoorQf06
namespace Go.Proofs.Herb
open Go.RowKit
attribute [local go_sem] Oper.semAt_some
/-- is that bit set? -/
def bitAt (fb : List UInt8) (a : Nat) : Bool := ((fb[a / 8]?).getD 0).toNat / 2 ^ (a % 8) % 2 == 1
/-- where the range stands -/
structure HasI (w : World) (b2 b4 b : Nat) (off m c : Nat) (fb : List UInt8) (pre : List Nat) (W : World) : Prop where
  bx : Boxed W b2 60 (.slice (some ⟨b, off, none⟩) m c)
  rs : Boxed W b4 4 (.bool false)
  rd : Rd W (some ⟨b, off, none⟩) (fb.map bv)
  below : Below w.heap.size w W
  set : ∀ a ∈ pre, bitAt fb a = true
theorem HasI.stays (w : World) (b2 b4 b off m c : Nat) (fb : List UInt8) (pre : List Nat) : Stays (HasI w b2 b4 b off m c fb pre) := by
  rintro A B ⟨h1, h2, h3, h4, h5⟩ hb
  exact ⟨(hb.block _ h1.lt).trans h1, (hb.block _ h2.lt).trans h2, h3.below hb, h4.trans (hb.mono h4.size), h5⟩
theorem HasI.only (w : World) (b2 b4 b off m c : Nat) (fb : List UInt8) (pre : List Nat) (A B : World) (h : HasI w b2 b4 b off m c fb pre A) (hr : Only (fun _ => False) A B) : HasI w b2 b4 b off m c fb pre B :=
  HasI.stays _ _ _ _ _ _ _ _ _ _ _ h (hr.below (Nat.le_refl _) (fun _ _ => id))
theorem HasI.turns (w : World) (b2 b4 b off m c b0 : Nat) (fb : List UInt8) (hw : w.heap.size ≤ b0) (hb : b < b0) (pre : List Nat) : Turns b0 (HasI w b2 b4 b off m c fb pre) := by
  rintro W l o o' ⟨h1, h2, h3, h4, h5⟩ hl ho hc
  exact ⟨boxed_putObj h1 o' ho hc, boxed_putObj h2 o' ho hc, rd_keep h3 (KeepB.putObj W l o o' (by omega)), below_putObj h4 (by omega) o' ho, h5⟩
end Go.Proofs.Herb
