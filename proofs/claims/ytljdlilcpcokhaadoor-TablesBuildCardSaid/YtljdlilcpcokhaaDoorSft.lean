/- The contract of the laws' SameBytes. For bytes that can be read. -/
import Derived.Test.YtljdlilcpcokhaaDoorSle
namespace Go.Proofs.Herb
open Go.RowKit
theorem same_bytes (a b : Option Addr) (n c m d : Nat) (l k : List UInt8) (w : World) (hn : l.length = n) (hm : k.length = m) (hn' : n ≤ 4611686018427387904) (hm' : m ≤ 4611686018427387904) (hr : Rd w a (l.map bv)) (hs : Rd w b (k.map bv)) :
    Calls Tryd.prog 9 #[.slice a n c, .slice b m d] w fun e w' => e = .returned (.bool (l == k)) ∧ Below w.heap.size w w' := by
  have HE := hid (equal_bytes a b n c m d l k w hn hm hn' hm' hr hs)
  clear hn hm hn' hm' hr hs
  go_enter Tryd.func9, Tryd.ntmps9
  go_wp2_with fail
  refine HE.out.mono ?_
  rintro e w' ⟨rfl, hb⟩
  have HB := hid hb
  clear hb
  go_wp2
  go_ret
  exact ⟨rfl, HB.out⟩
end Go.Proofs.Herb
