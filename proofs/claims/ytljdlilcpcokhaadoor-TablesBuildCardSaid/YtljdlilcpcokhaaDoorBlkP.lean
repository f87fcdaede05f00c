/- A block's bytes: plain. -/
import Derived.Test.YtljdlilcpcokhaaDoorBlkA
import Derived.Test.YtljdlilcpcokhaaDoorVptP
namespace Go.Proofs.Herb
open Go.RowKit
def kAt (l : List Item) (i : Nat) : List UInt8 := ((l[i]?).map fun x => x.key.data.toList).getD []
def vAt (l : List Item) (i : Nat) : List UInt8 := ((l[i]?).map fun x => x.val.data.toList).getD []
/-- how many bytes an item shares with the one ahead -/
def shAt (l : List Item) (i : Nat) : Nat := if i % 4 = 0 then 0 else comL (kAt l (i - 1)) (kAt l i)
def itB (l : List Item) (i : Nat) : List UInt8 := vput (shAt l i) ++ tput ((kAt l i).drop (shAt l i)) ++ tput (vAt l i)
/-- the first items' bytes, and the places of each fourth one -/
def bUp (l : List Item) (k : Nat) : List UInt8 := (List.range k).flatMap (itB l)
def pUp (l : List Item) (k : Nat) : List UInt8 := (List.range k).flatMap fun i => if i % 4 = 0 then le4 (bUp l i).length else []
def bBody (l : List Item) : List UInt8 := bUp l l.length ++ pUp l l.length ++ le4 ((pUp l l.length).length / 4)
def bAll (l : List Item) : List UInt8 := bBody l ++ le4 (crcMore 0 (bBody l)).toNat
theorem le4_len (n : Nat) : (le4 n).length = 4 := rfl
theorem kAt_get {l : List Item} {i : Nat} (h : i < l.length) : kAt l i = l[i].key.data.toList := by unfold kAt; rw [List.getElem?_eq_getElem h]; rfl
theorem vAt_get {l : List Item} {i : Nat} (h : i < l.length) : vAt l i = l[i].val.data.toList := by unfold vAt; rw [List.getElem?_eq_getElem h]; rfl
theorem bUp_succ (l : List Item) (k : Nat) : bUp l (k + 1) = bUp l k ++ itB l k := by unfold bUp; rw [List.range_succ, List.flatMap_append]; simp
theorem pUp_succ (l : List Item) (k : Nat) : pUp l (k + 1) = pUp l k ++ if k % 4 = 0 then le4 (bUp l k).length else [] := by unfold pUp; rw [List.range_succ, List.flatMap_append]; simp
theorem bUp_mono (l : List Item) {j k : Nat} (h : j ≤ k) : (bUp l j).length ≤ (bUp l k).length := by
  induction k with
  | zero => rw [show j = 0 by omega]; exact Nat.le_refl _
  | succ k ih =>
    by_cases e : j = k + 1
    · rw [e]; exact Nat.le_refl _
    · have := ih (by omega)
      rw [bUp_succ, List.length_append]; omega
theorem pUp_len (l : List Item) (k : Nat) : (pUp l k).length = 4 * ((k + 3) / 4) := by
  induction k with
  | zero => rfl
  | succ k ih =>
    rw [pUp_succ, List.length_append, ih]
    split
    · rw [le4_len]; omega
    · simp; omega
theorem tput_len (l : List UInt8) : (tput l).length = (vput l.length).length + l.length := by unfold tput; rw [List.length_append]
theorem itB_len (l : List Item) (i : Nat) : (itB l i).length ≤ 30 + (kAt l i).length + (vAt l i).length := by
  unfold itB
  have h1 := (vput_len (shAt l i)).2
  have h2 := (vput_len ((kAt l i).drop (shAt l i)).length).2
  have h3 := (vput_len (vAt l i).length).2
  rw [List.length_append, List.length_append, tput_len, tput_len, List.length_drop]
  rw [List.length_drop] at h2
  omega
theorem shAt_le (l : List Item) (i : Nat) : shAt l i ≤ (kAt l i).length := by
  unfold shAt
  split
  · exact Nat.zero_le _
  · exact (comL_le _ _).2
theorem bAll_len (l : List Item) : (bAll l).length = (bUp l l.length).length + (pUp l l.length).length + 8 := by
  unfold bAll bBody
  simp only [List.length_append, le4_len]
theorem size_toList (s : ByteArray) : s.data.toList.length = s.size := by rw [Array.length_toList]; rfl
/-- what Put answers -/
def BPut (l : List Item) (b0 : Nat) (w : World) (e : Ending) (w' : World) : Prop :=
  Below b0 w w' ∧ ((¬ RiseI l ∧ e = .returned (.tuple #[.slice none 0 0, .int .i64 1])) ∨ (RiseI l ∧ 65536 < (bAll l).length ∧ e = .returned (.tuple #[.slice none 0 0, .int .i64 3])) ∨
    (RiseI l ∧ (bAll l).length ≤ 65536 ∧ ∃ q, e = .returned (.tuple #[.slice q (bAll l).length (bAll l).length, .int .i64 0]) ∧ Fr w' b0 5 1 (.slice q (bAll l).length (bAll l).length) (bAll l).length ((bAll l).map bv)))
end Go.Proofs.Herb
