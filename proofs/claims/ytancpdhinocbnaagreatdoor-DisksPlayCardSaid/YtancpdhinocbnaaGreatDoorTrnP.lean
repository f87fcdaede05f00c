/- A byte that is turned, and turned back: what a disk tells behind it. Plain lists; no condition. -/
import Derived.Test.YtancpdhinocbnaaGreatDoorDskY
import Derived.Test.YtancpdhinocbnaaGreatDoorCrr
namespace Go.Proofs.Herb
open Go.RowKit Go.Sort
theorem xor_back (x y : UInt8) : (x ^^^ y) ^^^ y = x := by rw [UInt8.xor_assoc, UInt8.xor_self, UInt8.xor_zero]
theorem turnB_len (f : DF) (i : Nat) (b : UInt8) : (turnB f i b).b.length = f.b.length ∧ (turnB f i b).sure = f.sure := ⟨by simp [turnB], rfl⟩
theorem turnB_twice (f : DF) (i : Nat) (b : UInt8) (h : i < f.b.length) : turnB (turnB f i b) i b = f := by
  obtain ⟨l, n⟩ := f
  unfold turnB
  dsimp only at h ⊢
  congr 1
  rw [List.set_set]
  apply List.ext_getElem?
  intro j
  rw [List.getElem?_set]
  by_cases hj : i = j
  · subst hj
    rw [if_pos rfl, if_pos h]
    rw [List.getD_eq_getElem?_getD, List.getElem?_set_self h, Option.getD_some, xor_back, List.getD_eq_getElem?_getD, List.getElem?_eq_getElem h, Option.getD_some]
  · rw [if_neg hj]
theorem modify_at (l : List DF) (i j : Nat) (f : DF → DF) : (l.modify i f)[j]? = if i = j then (l[j]?).map f else l[j]? := by
  rw [List.getElem?_modify]
  by_cases h : i = j
  · simp [h]
  · simp [h]
theorem turn_eq {s : DS} {k : ByteArray} {a : Int} {b : UInt8} (q : turnBE s k a = 0) : turnBS s k a b = { s with files := s.files.modify ((look s.names k).getD 0) fun f => turnB f a.toNat b } := by
  unfold turnBS; rw [if_neg (fun h => h q)]
theorem turn_zero {s : DS} {k : ByteArray} {a : Int} (q : turnBE s k a = 0) : foundE s k = 0 ∧ 0 ≤ a ∧ a < ((fileL s k).length : Int) := by
  unfold turnBE at q
  by_cases h : foundE s k = 0
  · rw [if_neg (fun g => g h)] at q
    split at q
    · cases q
    · exact ⟨h, by omega, by omega⟩
  · rw [if_pos h] at q; exact absurd q h
theorem DsOk.turnB {s : DS} {n : Nat} (h : DsOk s n) (k : ByteArray) (a : Int) (b : UInt8) : DsOk (turnBS s k a b) n := by
  by_cases q : turnBE s k a = 0
  · rw [turn_eq q]
    refine h.modify _ _ fun x hx => ?_
    rw [(turnB_len x a.toNat b).1, (turnB_len x a.toNat b).2]
    exact h.sure x (List.mem_of_getElem? hx)
  · unfold turnBS; rw [if_pos q]; exact h
theorem turn_file {s : DS} {k : ByteArray} {a : Int} {b : UInt8} (q : turnBE s k a = 0) : fileL (turnBS s k a b) k = (fileL s k).set a.toNat ((fileL s k).getD a.toNat 0 ^^^ b) := by
  obtain ⟨q1, q2, q3⟩ := turn_zero q
  rw [turn_eq q]
  unfold fileL
  dsimp only
  unfold fileL at q3
  rw [modify_at, if_pos rfl]
  cases hf : s.files[(look s.names k).getD 0]? with
  | none => rw [hf] at q3; simp at q3; omega
  | some f => rfl
theorem turn_found {s : DS} (k q : ByteArray) (a : Int) (b : UInt8) : foundE (turnBS s k a b) q = foundE s q ∧ knownE (turnBS s k a b) q = knownE s q := by
  unfold turnBS
  split
  · exact ⟨rfl, rfl⟩
  · exact ⟨rfl, rfl⟩
theorem turn_again {s : DS} {k : ByteArray} {a : Int} {b : UInt8} (q : turnBE s k a = 0) : turnBE (turnBS s k a b) k a = 0 ∧ turnBS (turnBS s k a b) k a b = s := by
  obtain ⟨q1, q2, q3⟩ := turn_zero q
  have e : turnBE (turnBS s k a b) k a = 0 := by
    unfold turnBE
    rw [(turn_found k k a b).1, if_neg (fun h => h q1), turn_file q, List.length_set, if_neg (by omega)]
  refine ⟨e, ?_⟩
  rw [turn_eq e, turn_eq q]
  dsimp only
  have hm : (s.files.modify ((look s.names k).getD 0) fun f => turnB f a.toNat b).modify ((look s.names k).getD 0) (fun f => turnB f a.toNat b) = s.files := by
    apply List.ext_getElem?
    intro j
    rw [modify_at, modify_at]
    by_cases hj : (look s.names k).getD 0 = j
    · rw [if_pos hj, if_pos hj]
      cases hf : s.files[j]? with
      | none => rfl
      | some f =>
        simp only [Option.map_some]
        congr 1
        refine turnB_twice f _ b ?_
        unfold fileL at q3
        rw [hj, hf] at q3
        simp at q3
        omega
    · rw [if_neg hj, if_neg hj]
  rw [hm]
theorem turn_loose {s : DS} {k : ByteArray} {a : Int} {b : UInt8} (q : turnBE s k a = 0) : looseN (turnBS s k a b) k = looseN s k := by
  unfold looseN
  rw [(turn_found k k a b).1, turn_eq q]
  by_cases h : foundE s k = 0
  · rw [if_pos h, if_pos h]
    dsimp only
    simp only [modify_at, if_true]
    cases s.files[(look s.names k).getD 0]? <;> simp [turnB]
  · rw [if_neg h, if_neg h]
theorem SameS.refl (s : DS) (hn : ∀ k ∈ (sortedK s.names).map ofL, knownE s k = 0) : SameS s s := ⟨rfl, fun k hk => ⟨hn k hk, hn k hk, rfl⟩⟩
end Go.Proofs.Herb
