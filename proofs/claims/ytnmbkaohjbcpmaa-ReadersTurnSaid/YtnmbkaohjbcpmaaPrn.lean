/- Four bytes' number: plain. -/
import Derived.Test.YtnmbkaohjbcpmaaBase2
import Derived.Test.YtnmbkaohjbcpmaaSlc
import Derived.Test.YtnmbkaohjbcpmaaBlkA
namespace Go.Proofs.Herb
open Go.RowKit
/-- four bytes' number, from a place on -/
def num4 (l : List UInt8) (a : Nat) : Nat := ((l[a]?).getD 0).toNat + 256 * ((l[a + 1]?).getD 0).toNat + 65536 * ((l[a + 2]?).getD 0).toNat + 16777216 * ((l[a + 3]?).getD 0).toNat
theorem num4_lt (l : List UInt8) (a : Nat) : num4 l a < 4294967296 := by
  unfold num4
  have h0 := ((l[a]?).getD 0).toNat_lt
  have h1 := ((l[a + 1]?).getD 0).toNat_lt
  have h2 := ((l[a + 2]?).getD 0).toNat_lt
  have h3 := ((l[a + 3]?).getD 0).toNat_lt
  omega
theorem or4_form (x0 x1 x2 x3 : UInt8) : bits .or .i64 (bits .or .i64 (bits .or .i64 (x0.toNat : Int) ((x1.toNat : Int) * 256)) ((x2.toNat : Int) * 65536)) ((x3.toNat : Int) * 16777216) = ((x0.toNat + 256 * x1.toNat + 65536 * x2.toNat + 16777216 * x3.toNat : Nat) : Int) := by
  have h0 := x0.toNat_lt
  have h1 := x1.toNat_lt
  have h2 := x2.toNat_lt
  have h3 := x3.toNat_lt
  rw [i64_or_bytes]
  rw [show ((x2.toNat : Int) * 65536) = ((65536 * x2.toNat : Nat) : Int) by omega, i64_or_nat _ _ (by omega) (by omega), Nat.or_comm, nat_join 16 _ _ (by omega) (by omega)]
  rw [show ((x3.toNat : Int) * 16777216) = ((16777216 * x3.toNat : Nat) : Int) by omega, i64_or_nat _ _ (by omega) (by omega), Nat.or_comm, nat_join 24 _ _ (by omega) (by omega)]
  congr 1
  omega
theorem rd_num {w : World} {b off : Nat} {l : List UInt8} (h : Rd w (some ⟨b, off, none⟩) (l.map bv)) {a : Nat} (ha : a < l.length) : w.cell? ⟨b, off + a, none⟩ = some (.int .u8 (((l[a]?).getD 0).toNat : Int)) := by
  obtain ⟨b', off', e, hc⟩ := h.cell (k := a) (by rw [List.length_map]; exact ha)
  cases e
  rw [hc, List.getElem_map, List.getElem?_eq_getElem ha]
  rfl
end Go.Proofs.Herb
