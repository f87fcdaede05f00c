/- Numbers in groups of seven bits: plain. -/
import Derived.Test.YtljdlilcpcokhaaDoorBase2
namespace Go.Proofs.Herb
open Go.RowKit
/-- groups of seven bits, the lowest ones first, and whether others follow -/
def gF : Nat → Nat → List (Nat × Bool)
  | 0, _ => []
  | f + 1, m => (m % 128, decide (128 ≤ m)) :: if 128 ≤ m then gF f (m / 128) else []
def byteOf (x : Nat × Bool) : UInt8 := UInt8.ofNat (if x.2 then x.1 + 128 else x.1)
def vput (n : Nat) : List UInt8 := (gF 10 n).map byteOf
def tput (l : List UInt8) : List UInt8 := vput l.length ++ l
theorem gF_len : ∀ (f m : Nat), (gF f m).length ≤ f
  | 0, _ => by simp [gF]
  | f + 1, m => by
    rw [gF]
    have := gF_len f (m / 128)
    split <;> simp <;> omega
theorem vput_len (n : Nat) : 1 ≤ (vput n).length ∧ (vput n).length ≤ 10 := by
  unfold vput
  rw [List.length_map]
  refine ⟨?_, gF_len _ _⟩
  rw [gF]; simp
theorem gF_next {f m : Nat} (h : m < 128 ^ f) (h0 : 1 ≤ f) (hm : 128 ≤ m) : gF f m = (m % 128, true) :: gF (f - 1) (m / 128) ∧ m / 128 < 128 ^ (f - 1) ∧ 1 ≤ f - 1 := by
  cases f with
  | zero => omega
  | succ f =>
    rw [Nat.pow_succ] at h
    refine ⟨by rw [gF, if_pos hm]; simp [hm], by rw [Nat.add_sub_cancel]; exact Nat.div_lt_of_lt_mul (by omega), ?_⟩
    cases f with
    | zero => simp at h; omega
    | succ f => omega
theorem gF_last {f m : Nat} (h0 : 1 ≤ f) (hm : ¬ 128 ≤ m) : gF f m = [(m % 128, false)] := by
  cases f with
  | zero => omega
  | succ f => rw [gF, if_neg hm]; simp [hm]
theorem byteOf_true (n : Nat) (h : n < 128) : bits .or .u8 (n : Int) 128 = ((byteOf (n, true)).toNat : Int) := by
  rw [show (128 : Int) = ((128 : Nat) : Int) from rfl, u8_or_nat _ _ (by omega) (by decide)]
  have h2 : n ||| 128 = n + 128 := by
    have := Nat.two_pow_add_eq_or_of_lt (i := 7) (b := n) (by omega) 1
    rw [Nat.or_comm]
    rw [show (2 ^ 7 * 1 : Nat) = 128 from rfl] at this
    rw [← this]; omega
  rw [h2]
  unfold byteOf
  simp only [if_true]
  rw [UInt8.toNat_ofNat']
  omega
theorem byteOf_false (n : Nat) (h : n < 128) : (n : Int) = ((byteOf (n, false)).toNat : Int) := by
  unfold byteOf
  simp only [Bool.false_eq_true, if_false]
  rw [UInt8.toNat_ofNat']
  omega
end Go.Proofs.Herb
