/- The order of facts is that of their keys' bytes: plain. -/
import Derived.Test.YtljdlilcpcokhaaDoorTbA
import Derived.Test.YtljdlilcpcokhaaDoorTbC
namespace Go.Proofs.Herb
open Go.RowKit
abbrev bL := Op.bytesLess
theorem bl_cons (x y : UInt8) (a b : List UInt8) : bL (x :: a) (y :: b) = true ↔ x < y ∨ (x = y ∧ bL a b = true) := by
  show (decide (x < y) || (x == y && Op.bytesLess a b)) = true ↔ _
  simp
theorem bl_irrefl : ∀ a : List UInt8, bL a a = false
  | [] => rfl
  | x :: a => by
    have h := bl_irrefl a
    rw [Bool.eq_false_iff]
    intro e
    rcases (bl_cons x x a a).1 e with h1 | ⟨_, h1⟩
    · exact absurd h1 (UInt8.lt_irrefl x)
    · rw [h] at h1; cases h1
theorem bl_trans : ∀ {a b c : List UInt8}, bL a b = true → bL b c = true → bL a c = true
  | _, [], _, h, _ => by simp [bL, Op.bytesLess] at h
  | _, _ :: _, [], _, h => by simp [bL, Op.bytesLess] at h
  | [], _ :: _, _ :: _, _, _ => rfl
  | x :: a, y :: b, z :: c, h1, h2 => by
    rw [bl_cons] at *
    rcases h1 with h1 | ⟨rfl, h1⟩
    · rcases h2 with h2 | ⟨rfl, _⟩
      · exact .inl (UInt8.lt_trans h1 h2)
      · exact .inl h1
    · rcases h2 with h2 | ⟨rfl, h2⟩
      · exact .inl h2
      · exact .inr ⟨rfl, bl_trans h1 h2⟩
theorem bl_total : ∀ {a b : List UInt8}, bL a b = false → a ≠ b → bL b a = true
  | [], [], _, h => absurd rfl h
  | [], _ :: _, h, _ => by simp [bL, Op.bytesLess] at h
  | _ :: _, [], _, _ => rfl
  | x :: a, y :: b, h, hne => by
    rw [bl_cons]
    have h1 : ¬ (x < y ∨ (x = y ∧ bL a b = true)) := fun e => by rw [(bl_cons x y a b).2 e] at h; cases h
    by_cases e : x = y
    · subst e
      refine .inr ⟨rfl, bl_total ?_ (fun e => hne (by rw [e]))⟩
      rw [Bool.eq_false_iff]; exact fun e => h1 (.inr ⟨rfl, e⟩)
    · left
      have h2 : ¬ x < y := fun e => h1 (.inl e)
      rcases UInt8.lt_or_lt_of_ne e with h3 | h3
      · exact absurd h3 h2
      · exact h3
theorem bl_asymm {a b : List UInt8} (h : bL a b = true) : bL b a = false := by
  rw [Bool.eq_false_iff]
  intro e
  have := bl_trans h e
  rw [bl_irrefl] at this
  cases this
theorem bl_prefix : ∀ (p a b : List UInt8), bL (p ++ a) (p ++ b) = bL a b
  | [], _, _ => rfl
  | x :: p, a, b => by
    rw [Bool.eq_iff_iff, List.cons_append, List.cons_append, bl_cons, bl_prefix p a b]
    constructor
    · rintro (h | ⟨_, h⟩)
      · exact absurd h (UInt8.lt_irrefl x)
      · exact h
    · exact fun h => .inr ⟨rfl, h⟩
/-- of lists of one length the beginnings decide -/
theorem bl_append : ∀ {p q : List UInt8} (a b : List UInt8), p.length = q.length → bL p q = true → bL (p ++ a) (q ++ b) = true
  | _, [], _, _, _, h => by simp [bL, Op.bytesLess] at h
  | [], _ :: _, _, _, h, _ => by cases h
  | x :: p, y :: q, a, b, hl, h => by
    rw [List.cons_append, List.cons_append, bl_cons]
    rcases (bl_cons x y p q).1 h with h | ⟨h1, h2⟩
    · exact .inl h
    · exact .inr ⟨h1, bl_append a b (by simpa using hl) h2⟩
theorem leS_of (a b : ByteArray) : leS a b = false ↔ bL b.data.toList a.data.toList = true := by
  unfold leS
  rw [ByteArray.toList_eq, ByteArray.toList_eq, Bool.or_eq_false_iff]
  constructor
  · rintro ⟨h1, h2⟩
    exact bl_total h1 (fun e => by rw [e] at h2; simp at h2)
  · intro h
    refine ⟨bl_asymm h, ?_⟩
    rw [beq_eq_false_iff_ne]
    intro e
    rw [e, show bL b.data.toList b.data.toList = false from bl_irrefl _] at h
    cases h
/-! a key's bytes with its end -/
theorem esc_cons (x : UInt8) (l : List UInt8) : esc (x :: l) = (if x = 0 then [0, 1] else [x]) ++ esc l := by simp [esc]
theorem esc_lt : ∀ (a b s t : List UInt8), bL a b = true → bL (esc a ++ [0, 0] ++ s) (esc b ++ [0, 0] ++ t) = true
  | _, [], _, _, h => by simp [bL, Op.bytesLess] at h
  | [], y :: b, s, t, _ => by
    rw [esc_cons]
    show bL (0 :: 0 :: s) _ = true
    by_cases e : y = 0
    · rw [if_pos e]
      show bL (0 :: 0 :: s) (0 :: 1 :: (esc b ++ [0, 0] ++ t)) = true
      rw [bl_cons, bl_cons]
      exact .inr ⟨rfl, .inl (by decide)⟩
    · rw [if_neg e]
      show bL (0 :: 0 :: s) (y :: (esc b ++ [0, 0] ++ t)) = true
      rw [bl_cons]
      exact .inl (UInt8.pos_iff_ne_zero.2 e)
  | x :: a, y :: b, s, t, h => by
    rw [esc_cons, esc_cons]
    rcases (bl_cons x y a b).1 h with h | ⟨rfl, h'⟩
    · have hy : y ≠ 0 := fun e => by subst e; exact absurd h (UInt8.not_lt_zero)
      rw [if_neg hy]
      by_cases e : x = 0
      · rw [if_pos e]
        show bL (0 :: 1 :: (esc a ++ [0, 0] ++ s)) (y :: (esc b ++ [0, 0] ++ t)) = true
        rw [bl_cons]
        exact .inl (UInt8.pos_iff_ne_zero.2 hy)
      · rw [if_neg e]
        show bL (x :: (esc a ++ [0, 0] ++ s)) (y :: (esc b ++ [0, 0] ++ t)) = true
        rw [bl_cons]
        exact .inl h
    · simp only [List.append_assoc]
      rw [bl_prefix]
      have := esc_lt a b s t h'
      simpa only [List.append_assoc] using this
/-! falling numbers -/
def beF (n many : Nat) : List UInt8 := (List.range many).map (fallB n many)
theorem beF_succ (n m : Nat) : beF n (m + 1) = UInt8.ofNat (255 - n / 2 ^ (8 * m) % 256) :: beF n m := by
  unfold beF
  rw [List.range_succ_eq_map, List.map_cons, List.map_map]
  congr 1
  apply List.map_congr_left
  intro i hi
  unfold fallB
  simp only [Function.comp]
  rw [show m + 1 - 1 - (i + 1) = m - 1 - i by omega]
theorem beF_len (n m : Nat) : (beF n m).length = m := by simp [beF]
theorem beF_mod : ∀ (m n k : Nat), n % 2 ^ (8 * m) = k % 2 ^ (8 * m) → beF n m = beF k m
  | 0, _, _, _ => rfl
  | m + 1, n, k, h => by
    have hp : (2 : Nat) ^ (8 * (m + 1)) = 2 ^ (8 * m) * 256 := by rw [show 8 * (m + 1) = 8 * m + 8 by omega, Nat.pow_add]
    have hpos : 0 < 2 ^ (8 * m) := Nat.pow_pos (by decide)
    rw [hp] at h
    have h1 : n % 2 ^ (8 * m) = k % 2 ^ (8 * m) := by
      have := congrArg (· % 2 ^ (8 * m)) h
      simpa [Nat.mod_mul_right_mod] using this
    have h2 : n / 2 ^ (8 * m) % 256 = k / 2 ^ (8 * m) % 256 := by
      have := congrArg (· / 2 ^ (8 * m)) h
      simpa [Nat.mod_mul_right_div_self] using this
    rw [beF_succ, beF_succ, h2, beF_mod m n k h1]
theorem beF_lt : ∀ (m n k : Nat), k % 2 ^ (8 * m) < n % 2 ^ (8 * m) → bL (beF n m) (beF k m) = true
  | 0, n, k, h => by simp [Nat.mod_one] at h
  | m + 1, n, k, h => by
    have hp : (2 : Nat) ^ (8 * (m + 1)) = 2 ^ (8 * m) * 256 := by rw [show 8 * (m + 1) = 8 * m + 8 by omega, Nat.pow_add]
    have hpos : 0 < 2 ^ (8 * m) := Nat.pow_pos (by decide)
    rw [hp, Nat.mod_mul, Nat.mod_mul] at h
    rw [beF_succ, beF_succ, bl_cons]
    have hn := Nat.mod_lt (n / 2 ^ (8 * m)) (show 0 < 256 by decide)
    have hk := Nat.mod_lt (k / 2 ^ (8 * m)) (show 0 < 256 by decide)
    have hn1 := Nat.mod_lt n hpos
    have hk1 := Nat.mod_lt k hpos
    obtain ⟨P, hP⟩ : ∃ P, P = 2 ^ (8 * m) := ⟨_, rfl⟩
    obtain ⟨A, hA⟩ : ∃ A, A = n / 2 ^ (8 * m) % 256 := ⟨_, rfl⟩
    obtain ⟨C, hC⟩ : ∃ A, A = k / 2 ^ (8 * m) % 256 := ⟨_, rfl⟩
    rw [← hA] at hn h ⊢
    rw [← hC] at hk h ⊢
    rcases Nat.lt_trichotomy C A with h1 | h1 | h1
    · left
      rw [UInt8.lt_iff_toNat_lt]
      simp
      omega
    · subst h1
      exact .inr ⟨rfl, beF_lt m n k (by omega)⟩
    · exfalso
      have h2 : 2 ^ (8 * m) * (A + 1) ≤ 2 ^ (8 * m) * C := Nat.mul_le_mul_left _ h1
      rw [Nat.mul_add, Nat.mul_one] at h2
      omega
theorem tailB_be (v s k : Nat) : tailB v s k = beF v 4 ++ (beF s 8 ++ [UInt8.ofNat k]) := by unfold tailB beF; rw [List.append_assoc]
theorem cmpN_neg {a b : Nat} : cmpN a b < 0 ↔ a < b := by unfold cmpN; (repeat' split) <;> omega
theorem cmpN_zero {a b : Nat} : cmpN a b = 0 ↔ a = b := by unfold cmpN; (repeat' split) <;> omega
theorem cmpS_neg {a b : ByteArray} : cmpS a b < 0 ↔ bL a.data.toList b.data.toList = true := by
  unfold cmpS sLt
  rw [ByteArray.toList_eq, ByteArray.toList_eq]
  show (if bL _ _ = true then (-1 : Int) else _) < 0 ↔ _
  split
  · simp [*]
  · rename_i h
    constructor
    · intro h2; split at h2 <;> omega
    · intro h2; exact absurd h2 h
theorem cmpS_zero {a b : ByteArray} : cmpS a b = 0 ↔ a = b := by
  unfold cmpS sLt
  rw [ByteArray.toList_eq, ByteArray.toList_eq]
  split
  · rename_i h
    constructor
    · intro h2; omega
    · rintro rfl; rw [show Op.bytesLess a.data.toList a.data.toList = false from bl_irrefl _] at h; cases h
  · split
    · rename_i h
      have := eq_of_beq h
      exact ⟨fun _ => by
        cases a; cases b
        simp only [ByteArray.mk.injEq]
        exact Array.toList_inj.1 this, fun _ => rfl⟩
    · rename_i h
      constructor
      · intro h2; omega
      · rintro rfl; simp at h
theorem orZ_cons (x : Int) (l : List Int) : orZ (x :: l) = if x = 0 then orZ l else x := rfl
theorem kput_lt {f g : Fact} (of : f.Ok) (og : g.Ok) (hf : mayF f = true) (hg : mayF g = true) (h : cmpF f g < 0) : bL (kput f) (kput g) = true := by
  unfold cmpF at h
  unfold kput
  rw [orZ_cons] at h
  split at h
  · rename_i h0
    rw [cmpS_zero.1 h0, bl_prefix, tailB_be, tailB_be]
    obtain ⟨_, h32, h64, _⟩ := of
    obtain ⟨_, g32, g64, _⟩ := og
    rw [orZ_cons] at h
    split at h
    · rename_i h1
      rw [cmpN_zero.1 h1, bl_prefix]
      rw [orZ_cons] at h
      split at h
      · rename_i h2
        rw [cmpN_zero.1 h2, bl_prefix]
        rw [orZ_cons] at h
        split at h
        · exact absurd h (by simp [orZ])
        · have h3 := cmpN_neg.1 h
          unfold mayF at hf hg
          have k1 := (of_decide_eq_true hf).2.2.2
          have k2 := (of_decide_eq_true hg).2.2.2
          rw [bl_cons, UInt8.lt_iff_toNat_lt]
          left
          simp
          omega
      · have h3 := cmpN_neg.1 h
        refine bl_append _ _ (by rw [beF_len, beF_len]) (beF_lt 8 _ _ ?_)
        rw [Nat.mod_eq_of_lt (by omega), Nat.mod_eq_of_lt (by omega)]
        exact h3
    · have h3 := cmpN_neg.1 h
      refine bl_append _ _ (by rw [beF_len, beF_len]) (beF_lt 4 _ _ ?_)
      rw [Nat.mod_eq_of_lt (by omega), Nat.mod_eq_of_lt (by omega)]
      exact h3
  · exact esc_lt _ _ _ _ (cmpS_neg.1 h)
end Go.Proofs.Herb
