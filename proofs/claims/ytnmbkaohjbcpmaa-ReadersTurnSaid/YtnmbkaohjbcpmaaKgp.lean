/- A fact back from its bytes: plain. -/
import Derived.Test.YtnmbkaohjbcpmaaKyy
import Derived.Test.YtnmbkaohjbcpmaaTbO
namespace Go.Proofs.Herb
open Go.RowKit
/-- a key back, and what stands behind it -/
def plainK : List UInt8 → Option (List UInt8 × List UInt8)
  | [] => none
  | [_] => none
  | c :: d :: r => if c = 0 then (if d = 0 then some ([], r) else if d = 1 then (plainK r).map (fun x => (0 :: x.1, x.2)) else none) else (plainK (d :: r)).map fun x => (c :: x.1, x.2)
theorem plainK_esc : ∀ (l t : List UInt8), plainK (esc l ++ ([0, 0] ++ t)) = some (l, t)
  | [], t => by
    show plainK (0 :: 0 :: t) = _
    rw [plainK]
    simp
  | c :: l, t => by
    have ih := plainK_esc l t
    by_cases h : c = 0
    · subst h
      rw [esc_cons, if_pos rfl]
      show plainK (0 :: 1 :: (esc l ++ ([0, 0] ++ t))) = _
      rw [plainK, if_pos rfl, if_neg (by decide), if_pos rfl, ih]
      rfl
    · rw [esc_cons, if_neg h]
      show plainK (c :: (esc l ++ ([0, 0] ++ t))) = _
      have hne : ∃ d r, esc l ++ ([0, 0] ++ t) = d :: r := by
        cases he : esc l with
        | nil => exact ⟨0, 0 :: t, rfl⟩
        | cons d r => exact ⟨d, r ++ ([0, 0] ++ t), rfl⟩
      obtain ⟨d, r, e⟩ := hne
      rw [e] at ih ⊢
      rw [plainK, if_neg h, ih]
      rfl
/-- bytes whose bits are turned, as a number -/
def riseG (a : Nat) (l : List UInt8) : Nat := l.foldl (fun n c => n * 256 + (255 - c.toNat)) a
theorem riseG_be (n : Nat) : ∀ (m a : Nat), riseG a (beF n m) = a * 2 ^ (8 * m) + n % 2 ^ (8 * m)
  | 0, a => by simp [riseG, beF, Nat.mod_one]
  | m + 1, a => by
    rw [beF_succ]
    unfold riseG
    rw [List.foldl_cons]
    have h := riseG_be n m (a * 256 + (255 - (UInt8.ofNat (255 - n / 2 ^ (8 * m) % 256)).toNat))
    unfold riseG at h
    rw [h]
    have hx : n / 2 ^ (8 * m) % 256 < 256 := Nat.mod_lt _ (by decide)
    have hy : 255 - (UInt8.ofNat (255 - n / 2 ^ (8 * m) % 256)).toNat = n / 2 ^ (8 * m) % 256 := by
      rw [UInt8.toNat_ofNat', Nat.mod_eq_of_lt (by omega)]
      omega
    rw [hy]
    have hp : (2 : Nat) ^ (8 * (m + 1)) = 2 ^ (8 * m) * 256 := by rw [Nat.mul_add, Nat.pow_add]
    rw [hp, Nat.mod_mul, Nat.add_mul]
    have e1 : a * 256 * 2 ^ (8 * m) = a * (2 ^ (8 * m) * 256) := by rw [Nat.mul_assoc, Nat.mul_comm 256]
    have e2 : n / 2 ^ (8 * m) % 256 * 2 ^ (8 * m) = 2 ^ (8 * m) * (n / 2 ^ (8 * m) % 256) := Nat.mul_comm _ _
    rw [e1, e2]
    omega
theorem riseG_lt : ∀ (l : List UInt8) (a k : Nat), a < 2 ^ (8 * k) → riseG a l < 2 ^ (8 * (k + l.length))
  | [], a, k, h => h
  | c :: l, a, k, h => by
    unfold riseG
    rw [List.foldl_cons]
    have h2 := riseG_lt l (a * 256 + (255 - c.toNat)) (k + 1) (by
      have hp : (2 : Nat) ^ (8 * (k + 1)) = 2 ^ (8 * k) * 256 := by rw [Nat.mul_add, Nat.pow_add]
      rw [hp]
      omega)
    unfold riseG at h2
    rw [List.length_cons, ← Nat.add_assoc, Nat.add_right_comm]
    exact h2
/-- a key and its tail, as a fact -/
def factK (k r : List UInt8) : Fact := ⟨⟨k.toArray⟩, riseG 0 (r.take 4), riseG 0 ((r.drop 4).take 8), 0, ((r[12]?).getD 0).toNat, ⟨#[]⟩⟩
def kgetF (b : List UInt8) : Option Fact := match plainK b with
  | none => none
  | some x => if (1 ≤ x.1.length ∧ x.1.length ≤ 32 ∧ x.2.length = 13) ∧ mayF (factK x.1 x.2) = true then some (factK x.1 x.2) else none
theorem kget_kput {f : Fact} (o : f.Ok) (h : mayF f = true) : kgetF (kput f) = some ⟨f.key, f.valid, f.seq, 0, f.kind, ⟨#[]⟩⟩ := by
  have hm := h
  unfold mayF at hm
  simp only [decide_eq_true_eq] at hm
  obtain ⟨h1, h2, h3, h4⟩ := hm
  have hk : f.key.data.toList.length = f.key.size := by rw [Array.length_toList]; rfl
  unfold kgetF kput
  rw [List.append_assoc, plainK_esc]
  have hf : factK f.key.data.toList (tailB f.valid f.seq f.kind) = ⟨f.key, f.valid, f.seq, 0, f.kind, ⟨#[]⟩⟩ := by
    unfold factK
    rw [tailB_be]
    have e1 : (beF f.valid 4 ++ (beF f.seq 8 ++ [UInt8.ofNat f.kind])).take 4 = beF f.valid 4 := by rw [List.take_append_of_le_length (by rw [beF_len]; omega), List.take_of_length_le (by rw [beF_len]; omega)]
    have e2 : ((beF f.valid 4 ++ (beF f.seq 8 ++ [UInt8.ofNat f.kind])).drop 4).take 8 = beF f.seq 8 := by
      rw [List.drop_append, beF_len]
      rw [show (beF f.valid 4).drop 4 = [] from List.drop_of_length_le (by rw [beF_len]; omega)]
      rw [List.nil_append, Nat.sub_self, List.drop_zero, List.take_append_of_le_length (by rw [beF_len]; omega), List.take_of_length_le (by rw [beF_len]; omega)]
    have e3 : (beF f.valid 4 ++ (beF f.seq 8 ++ [UInt8.ofNat f.kind]))[12]? = some (UInt8.ofNat f.kind) := by
      rw [List.getElem?_append_right (by rw [beF_len]; omega), beF_len, List.getElem?_append_right (by rw [beF_len]; omega), beF_len]
      rfl
    rw [e1, e2, e3, riseG_be, riseG_be]
    have v := o.valid
    have s := o.seq
    have d := o.kind
    simp only [Nat.zero_mul, Nat.zero_add]
    rw [Nat.mod_eq_of_lt (by simpa using v), Nat.mod_eq_of_lt (by simpa using s)]
    show Fact.mk _ _ _ _ (UInt8.ofNat f.kind).toNat _ = _
    rw [UInt8.toNat_ofNat', Nat.mod_eq_of_lt (by omega)]
  show (if _ then _ else none) = _
  rw [hf]
  have hmf : mayF ⟨f.key, f.valid, f.seq, 0, f.kind, ⟨#[]⟩⟩ = true := by
    unfold mayF
    simp only [decide_eq_true_eq]
    exact ⟨h1, h2, h3, h4⟩
  rw [if_pos ⟨⟨by show 1 ≤ f.key.data.toList.length; omega, by show f.key.data.toList.length ≤ 32; omega, tailB_len _ _ _⟩, hmf⟩]
theorem kget_ok {b : List UInt8} {f : Fact} (h : kgetF b = some f) : f.Ok ∧ mayF f = true ∧ f.line = 0 ∧ f.val = ⟨#[]⟩ := by
  unfold kgetF at h
  split at h
  · cases h
  · rename_i x hx
    split at h
    · rename_i hc
      obtain ⟨⟨h1, h2, h3⟩, hm⟩ := hc
      cases h
      refine ⟨⟨?_, ?_, by show (0 : Nat) < _; decide, UInt8.toNat_lt _, ?_, ?_⟩, hm, rfl, rfl⟩
      · have := riseG_lt (x.2.take 4) 0 0 (by decide)
        rw [List.length_take, h3] at this
        exact this
      · have := riseG_lt ((x.2.drop 4).take 8) 0 0 (by decide)
        rw [List.length_take, List.length_drop, h3] at this
        exact this
      · show x.1.toArray.size ≤ maxLen
        unfold maxLen
        rw [List.size_toArray]; omega
      · show (0 : Nat) ≤ maxLen
        exact Nat.zero_le _
    · cases h
end Go.Proofs.Herb
