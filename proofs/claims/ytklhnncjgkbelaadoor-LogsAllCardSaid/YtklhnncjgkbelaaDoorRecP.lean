/- The records of a file's bytes, by definition (recsOf): plain. No condition. -/
import Derived.Test.YtklhnncjgkbelaaDoorGetP
namespace Go.Proofs.Herb
/-! the records of a file's bytes -/
theorem getF_ok : ∀ (f : Nat) (b : List UInt8) (at_ : Nat) (begun : Bool) (rec : List UInt8), (getF f b at_ begun rec).2.2 = 0 →
    (getF f b at_ begun rec).2.1 ≤ b.length ∧ (getF f b at_ begun rec).1.length + at_ + 7 ≤ rec.length + (getF f b at_ begun rec).2.1
  | 0, b, at_, begun, rec => by intro h; simp [getF] at h
  | f + 1, b, at_, begun, rec => by
    intro h
    rw [getF] at h ⊢
    dsimp only at h ⊢
    generalize (((b.drop (at_ + gapN at_)).take 7).getD 4 0).toNat + 256 * (((b.drop (at_ + gapN at_)).take 7).getD 5 0).toNat = N at h ⊢
    by_cases c1 : zeros ((b.drop at_).take (gapN at_)) = false
    · rw [if_pos c1] at h; cases h
    · rw [if_neg c1] at h ⊢
      by_cases c2 : b.length < at_ + gapN at_ + 7
      · rw [if_pos c2] at h; cases h
      · rw [if_neg c2] at h ⊢
        split at h
        · cases h
        · split at h
          · cases h
          · split at h
            · cases h
            · rename_i c3 c4 c5
              rw [if_neg c3, if_neg c4, if_neg c5]
              have hl : ((b.drop (at_ + gapN at_ + 7)).take N).length = N := by rw [List.length_take, List.length_drop]; omega
              split at h
              · rename_i c6
                rw [if_pos c6]
                have ih := getF_ok f b (at_ + gapN at_ + 7 + N) true (rec ++ (b.drop (at_ + gapN at_ + 7)).take N) h
                rw [List.length_append, hl] at ih
                omega
              · rename_i c6
                rw [if_neg c6]
                simp only [List.length_append, hl]
                omega
theorem getOne_ok {b : List UInt8} {at_ : Nat} (h : (getOne b at_).2.2 = 0) : at_ ≤ b.length ∧ (getOne b at_).2.1 ≤ b.length ∧ (getOne b at_).1.length + at_ + 7 ≤ (getOne b at_).2.1 := by
  unfold getOne at h ⊢
  split at h
  · cases h
  · split at h
    · cases h
    · rename_i c1 c2
      rw [if_neg c1, if_neg c2]
      have := getF_ok _ _ _ _ _ h
      simp at this
      exact ⟨by omega, this.1, this.2⟩
def recsF : Nat → List UInt8 → Nat → List (List UInt8 × Nat)
  | 0, _, _ => []
  | f + 1, b, at_ => if (getOne b at_).2.2 = 0 then ((getOne b at_).1, (getOne b at_).2.1) :: recsF f b (getOne b at_).2.1 else []
/-- a file's records, each with the place behind it -/
def recsOf (b : List UInt8) : List (List UInt8 × Nat) := recsF (b.length + 1) b 0
theorem recsF_next {b : List UInt8} {at_ f : Nat} (hf : b.length < f + at_) (h : (getOne b at_).2.2 = 0) : recsF f b at_ = ((getOne b at_).1, (getOne b at_).2.1) :: recsF (f - 1) b (getOne b at_).2.1 ∧ b.length < f - 1 + (getOne b at_).2.1 := by
  have ho := getOne_ok h
  obtain ⟨f, rfl⟩ : ∃ g, f = g + 1 := ⟨f - 1, by omega⟩
  exact ⟨by rw [recsF, if_pos h]; rfl, by omega⟩
theorem recsF_end {b : List UInt8} {at_ f : Nat} (h : (getOne b at_).2.2 ≠ 0) : recsF f b at_ = [] := by
  cases f with
  | zero => rfl
  | succ f => rw [recsF, if_neg h]
theorem recsF_length : ∀ (f : Nat) (b : List UInt8) (at_ : Nat), at_ ≤ b.length → (recsF f b at_).length + at_ ≤ b.length
  | 0, b, at_, h => by simpa [recsF] using h
  | f + 1, b, at_, h => by
    rw [recsF]
    split
    · rename_i h0
      have ho := getOne_ok h0
      have ih := recsF_length f b (getOne b at_).2.1 ho.2.1
      rw [List.length_cons]; omega
    · simpa using h
theorem recsOf_length (b : List UInt8) : (recsOf b).length ≤ b.length := by
  have := recsF_length (b.length + 1) b 0 (Nat.zero_le _)
  unfold recsOf; omega
/-- where they end -/
def endOf (l : List (List UInt8 × Nat)) : Nat := (l.getLast?.map (·.2)).getD 0
theorem endOf_snoc (l : List (List UInt8 × Nat)) (x : List UInt8 × Nat) : endOf (l ++ [x]) = x.2 := by simp [endOf]
/-- a record's bytes, behind so many -/
def recP (n : Nat) (l : List UInt8) : List UInt8 := putRec (l.length + 2) (n % 256) false l
/-- a record that stands in memory -/
structure Rc where
  v : Value
  l : List UInt8
  next : Nat
def Rc.dat (x : Rc) : List UInt8 × Nat := (x.l, x.next)
end Go.Proofs.Herb
