/- A disk with one file, whose directory is sure: what each call makes of it. Plain. No condition. -/
import Derived.Test.YtklhnncjgkbelaaLiv
import Derived.Test.YtklhnncjgkbelaaRowQ
import Derived.Test.YtklhnncjgkbelaaCrr
namespace Go.Proofs.Herb
open Go.RowKit Go.Sort
def rowS (b : List UInt8) (n : Nat) : DS := ⟨1048576, -1, false, [⟨b, n⟩], [(kA, 0, 0)], 1, [(kA, 0, 0)], 1, []⟩
theorem row_start : syncDirS (letsS (oneS 1048576 [])) = rowS [] 0 := by rfl
theorem row_dirGood : DirGood [(kA, 0, 0)] 1 1 1 := ⟨by simp, by simp, by simp, by simp; decide, by simp, by simp, by simp⟩
theorem row_ok {b : List UInt8} {n : Nat} (h : n ≤ b.length) (hb : b.length ≤ 4194304) : DsOk (rowS b n) 1 :=
  ⟨by simp [rowS], by simp [rowS], by simp [rowS], by simp [rowS], by simp [rowS], by simp [rowS], rfl, fun j hj => by
    obtain rfl : j = 0 := Nat.le_zero.1 hj
    exact row_dirGood, fun f hf => by simp only [rowS, List.mem_singleton] at hf; subst hf; exact ⟨h, hb⟩⟩
theorem row_known (b : List UInt8) (n : Nat) : knownE (rowS b n) kA = 0 := by rfl
theorem row_file (b : List UInt8) (n : Nat) : fileL (rowS b n) kA = b := by rfl
theorem row_read (b : List UInt8) (n : Nat) : readL (rowS b n) kA = b := by rfl
theorem row_used (b : List UInt8) (n : Nat) : usedN (rowS b n) = b.length := by simp [usedN, rowS, lenAt]
theorem row_okS {b : List UInt8} (n : Nat) (hb : b.length ≤ 4194304) : (rowS b n).Ok :=
  ⟨⟨by simp [rowS], by simp [rowS], by simp [rowS]⟩, by rw [row_used]; omega, by simp [rowS], by simp [rowS], by simp [rowS], by simp [rowS], by simpa [rowS] using hb⟩
theorem row_add (b l : List UInt8) (n : Nat) (h1 : l.length ≤ 65536) (h2 : b.length + (recP b.length l).length ≤ 1048576) : addE (rowS b n) kA l = 0 ∧ addS (rowS b n) kA l = rowS (b ++ recP b.length l) n := by
  have hr : recB (rowS b n) kA l = recP b.length l := by rfl
  have e1 : appendE (rowS b n) kA (recP b.length l) = 0 := by
    unfold appendE
    rw [row_known, row_used, if_neg (by simp), if_neg (by show ¬ ((1048576 : Int) - _ < _); omega)]; rfl
  have e2 : appendS (rowS b n) kA (recP b.length l) = rowS (b ++ recP b.length l) n := by
    unfold appendS
    rw [row_known, row_used, if_neg (by show ¬ (_ ∨ (1048576 : Int) - _ < _); simp; omega)]; rfl
  unfold addE addS
  rw [if_neg (by omega), row_known, if_neg (by simp), if_neg (by simp; omega), hr]
  exact ⟨e1, e2⟩
theorem row_sync (b : List UInt8) (n : Nat) : syncE (rowS b n) kA = 0 ∧ syncS (rowS b n) kA = rowS b b.length := ⟨by rfl, by rfl⟩
theorem row_sorted : sortedK [(kA, 0, 0)] = [keyL kA] := by
  refine List.perm_singleton.1 ?_
  exact (sortedK_perm _).trans (by simp)
theorem row_crash {b : List UInt8} {n : Nat} (x : Int) : crashS (rowS b n) 0 [x] = rowS (b.take (keepAt [x] 0 ⟨b, n⟩)) (keepAt [x] 0 ⟨b, n⟩) := by
  have e0 : crash0 (rowS b n) (crashJ (rowS b n) 0) = ⟨1048576, -1, false, [], [(kA, 0, 0)], 1, [], 0, []⟩ := by rfl
  have e1 : crashT (rowS b n) 0 [x] = crashAt (rowS b n) [x] ⟨1048576, -1, false, [], [(kA, 0, 0)], 1, [], 0, []⟩ [ofL (keyL kA)] 1 := by
    unfold crashT
    rw [e0]
    dsimp only
    rw [row_sorted]; rfl
  unfold crashS
  rw [e1]
  rfl
end Go.Proofs.Herb
