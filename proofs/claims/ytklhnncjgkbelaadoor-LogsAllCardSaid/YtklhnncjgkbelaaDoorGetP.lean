/- What frames.Get answers, by definition (getOne): plain. No condition. -/
import Derived.Test.YtklhnncjgkbelaaDoorBase2
namespace Go.Proofs.Herb
def zeros (l : List UInt8) : Bool := l.all (· == 0)
/-- the rest of the record that stands at a place, by definition: its bytes, the place behind it, the error -/
def getF : Nat → List UInt8 → Nat → Bool → List UInt8 → List UInt8 × Nat × Int
  | 0, _, _, _, _ => ([], 0, 5)
  | f + 1, b, at_, begun, rec =>
    if zeros ((b.drop at_).take (gapN at_)) = false then ([], 0, 4) else
    if b.length < at_ + gapN at_ + 7 then ([], 0, 5) else
    let h := (b.drop (at_ + gapN at_)).take 7
    let k := h.getD 6 0
    let n := (h.getD 4 0).toNat + 256 * (h.getD 5 0).toNat
    let x := (b.drop (at_ + gapN at_ + 7)).take n
    if fitsB k.toNat begun n (roomN at_) rec.length = false then ([], 0, 4) else
    if b.length < at_ + gapN at_ + 7 + n then ([], 0, 5) else
    if h ≠ headList k x then ([], 0, 6) else
    if k = 2 ∨ k = 3 then getF f b (at_ + gapN at_ + 7 + n) true (rec ++ x) else (rec ++ x, at_ + gapN at_ + 7 + n, 0)
def getOne (b : List UInt8) (at_ : Nat) : List UInt8 × Nat × Int :=
  if b.length < at_ then ([], 0, 1) else if zeros (b.drop at_) = true then ([], 0, 7) else getF (b.length + 1) b at_ false []
end Go.Proofs.Herb
