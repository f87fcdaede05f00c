/- Whole numbers of few bits as floats: sums and products of them are exact. Plain; no program. -/
import Derived.WalkKit
import Derived.WalkLawsBesides
import Derived.Laws.ComplexArith
namespace Go.Proofs.Herb
open Ieee
/-- the float of a whole number -/
def fl (n : Int) : Nat := double.nearest (decide (n < 0)) n.natAbs 0
theorem log2_scale (n k : Nat) (h : n ≠ 0) : (n * 2 ^ k).log2 = n.log2 + k := by
  have h2 : 0 < 2 ^ k := Nat.two_pow_pos k
  refine (Nat.log2_eq_iff (by have := Nat.mul_pos (Nat.pos_of_ne_zero h) h2; omega)).2 ?_
  have h1 := (Nat.log2_eq_iff h).1 rfl
  refine ⟨?_, ?_⟩
  · rw [Nat.pow_add]; exact Nat.mul_le_mul_right _ h1.1
  · rw [show n.log2 + k + 1 = (n.log2 + 1) + k by omega, Nat.pow_add]; exact Nat.mul_lt_mul_of_pos_right h1.2 h2
theorem cut_exact (way : Toward) (s : Bool) (n d : Nat) : way.cut s (n * 2 ^ d) d = n := by
  have h2 : 0 < 2 ^ d := Nat.two_pow_pos d
  unfold Toward.cut
  by_cases h : n = 0
  · subst h
    have hg : 0 < 1 <<< min d ((0 : Nat).log2 + 2) := by rw [Nat.one_shiftLeft]; exact Nat.two_pow_pos _
    simp only [Nat.zero_mul, Nat.zero_div, Nat.zero_mod, Nat.mul_zero, Nat.zero_add]
    cases way <;> simp <;> omega
  · rw [log2_scale n d h, Nat.min_eq_left (by omega), Nat.one_shiftLeft]
    dsimp only
    rw [Nat.mul_div_cancel _ h2, Nat.mul_mod_left]
    cases way <;> simp <;> omega
theorem cut_none (way : Toward) (s : Bool) (n : Nat) : way.cut s n 0 = n := by
  have := cut_exact way s n 0
  rwa [Nat.pow_zero, Nat.mul_one] at this
def rungOf (n : Nat) : Nat := (1022 + n.log2) * 2 ^ 52 + n * 2 ^ (52 - n.log2)
theorem rung_bd (n : Nat) (h : n ≠ 0) (hn : n < 2 ^ 53) : n.log2 ≤ 52 ∧ 2 ^ 52 ≤ n * 2 ^ (52 - n.log2) ∧ n * 2 ^ (52 - n.log2) < 2 ^ 53 := by
  have h1 := (Nat.log2_eq_iff h).1 rfl
  have hl : n.log2 ≤ 52 := by
    have : n.log2 < 53 := (Nat.log2_lt h).2 hn
    omega
  refine ⟨hl, ?_, ?_⟩
  · have h3 : (2 : Nat) ^ 52 = 2 ^ n.log2 * 2 ^ (52 - n.log2) := by rw [← Nat.pow_add]; congr 1; omega
    rw [h3]; exact Nat.mul_le_mul_right _ h1.1
  · have h3 : (2 : Nat) ^ 53 = 2 ^ (n.log2 + 1) * 2 ^ (52 - n.log2) := by rw [← Nat.pow_add]; congr 1; omega
    rw [h3]; exact Nat.mul_lt_mul_of_pos_right h1.2 (Nat.two_pow_pos _)
theorem nearest_val (s : Bool) (n k : Nat) (h : n ≠ 0) (hn : n < 2 ^ 53) : double.nearest s (n * 2 ^ k) (-(k : Int)) = double.word s (rungOf n) := by
  obtain ⟨hl, hlo, hhi⟩ := rung_bd n h hn
  have hm : n * 2 ^ k ≠ 0 := by have := Nat.mul_pos (Nat.pos_of_ne_zero h) (Nat.two_pow_pos k); omega
  have hlp : double.leastPlace = -1074 := by decide
  have hfb : double.fractionBits = 52 := rfl
  have hbi : double.binade = 2 ^ 52 := rfl
  have hinf : double.infRung = 2047 * 2 ^ 52 := by decide
  unfold Format.nearest
  rw [if_neg hm, log2_scale n k h, hlp, hfb, hbi, hinf]
  have hlast : max (-(k : Int) + ((n.log2 + k : Nat) : Int) - ((52 : Nat) : Int)) (-1074) = (n.log2 : Int) - 52 := by omega
  rw [hlast]
  have hc : Toward.even.cut s ((n * 2 ^ k) <<< (-(k : Int) - ((n.log2 : Int) - 52)).toNat) ((n.log2 : Int) - 52 - -(k : Int)).toNat = n * 2 ^ (52 - n.log2) := by
    rw [Nat.shiftLeft_eq]
    by_cases hk : k ≤ 52 - n.log2
    · rw [show ((n.log2 : Int) - 52 - -(k : Int)).toNat = 0 by omega, cut_none, Nat.mul_assoc, ← Nat.pow_add]
      congr 2; omega
    · rw [show (-(k : Int) - ((n.log2 : Int) - 52)).toNat = 0 by omega, Nat.pow_zero, Nat.mul_one]
      have e : n * 2 ^ k = (n * 2 ^ (52 - n.log2)) * 2 ^ ((n.log2 : Int) - 52 - -(k : Int)).toNat := by
        rw [Nat.mul_assoc, ← Nat.pow_add]; congr 2; omega
      rw [e, cut_exact]
  simp only [hc]
  have ht : ((n.log2 : Int) - 52 - -1074).toNat = 1022 + n.log2 := by omega
  rw [ht, Nat.min_eq_left]
  · rfl
  · omega
theorem fl_zero : fl 0 = 0 := by decide
theorem fl_val (n : Int) (h : n ≠ 0) (hn : n.natAbs < 2 ^ 53) : fl n = double.word (decide (n < 0)) (rungOf n.natAbs) := by
  have := nearest_val (decide (n < 0)) n.natAbs 0 (by omega) hn
  rw [Nat.pow_zero, Nat.mul_one] at this
  exact this
theorem write_fl (n : Int) (k : Nat) (hn : n.natAbs < 2 ^ 53) : double.write (.number (decide (n < 0)) (n.natAbs * 2 ^ k) (-(k : Int))) = fl n := by
  show double.nearest _ _ _ = _
  by_cases h : n = 0
  · subst h
    rw [fl_zero]; unfold Format.nearest; rw [if_pos (by simp)]; rfl
  · rw [fl_val n h hn, nearest_val _ _ _ (by omega) hn]
theorem read_word (s : Bool) (n : Nat) (h : n ≠ 0) (hn : n < 2 ^ 53) : double.read (double.word s (rungOf n)) = .number s (n * 2 ^ (52 - n.log2)) (-((52 - n.log2 : Nat) : Int)) := by
  obtain ⟨hl, hlo, hhi⟩ := rung_bd n h hn
  have hlp : double.leastPlace = -1074 := by decide
  have hbi : double.binade = 2 ^ 52 := rfl
  have hinf : double.infRung = 2047 * 2 ^ 52 := by decide
  have hsw : double.signWeight = 2 ^ 63 := rfl
  generalize hM : n * 2 ^ (52 - n.log2) = M at hlo hhi
  have hr : rungOf n = (1022 + n.log2) * 2 ^ 52 + M := by unfold rungOf; rw [hM]
  have hlt : rungOf n < 2 ^ 63 := by rw [hr]; omega
  have hneg : (double.word s (rungOf n) / double.signWeight % 2 == 1) = s := by
    unfold Format.word; rw [hsw]
    cases s
    · simp only [Bool.false_eq_true, if_false]; rw [Nat.div_eq_of_lt hlt]; rfl
    · simp only [if_true]; rw [show (2 ^ 63 + rungOf n) / 2 ^ 63 = 1 by omega]; rfl
  have hrung : double.word s (rungOf n) % double.signWeight = rungOf n := by
    unfold Format.word; rw [hsw]
    cases s
    · simp only [Bool.false_eq_true, if_false]; omega
    · simp only [if_true]; omega
  unfold Format.read
  simp only [hneg, hrung]
  rw [hbi, hinf, if_neg (by omega), if_pos (by omega), hlp]
  congr 1
  · omega
  · omega
theorem read_fl (n : Int) (hn : n.natAbs < 2 ^ 53) : ∃ k : Nat, double.read (fl n) = .number (decide (n < 0)) (n.natAbs * 2 ^ k) (-(k : Int)) := by
  by_cases h : n = 0
  · subst h; exact ⟨1074, by decide +kernel⟩
  · rw [fl_val n h hn]
    exact ⟨_, read_word _ _ (by omega) hn⟩
theorem signed_fl (n : Int) (k up : Nat) : signed (decide (n < 0)) (n.natAbs * 2 ^ k) up = n * 2 ^ (k + up) := by
  unfold signed
  rw [Nat.shiftLeft_eq, Nat.mul_assoc, ← Nat.pow_add]
  by_cases h : n < 0
  · have e : (n.natAbs : Int) = -n := by omega
    simp only [h, decide_true, if_true]
    rw [Int.natCast_mul, e, Int.natCast_pow, Int.neg_mul, Int.neg_neg]; rfl
  · have e : (n.natAbs : Int) = n := by omega
    simp only [h, decide_false, Bool.false_eq_true, if_false]
    rw [Int.natCast_mul, e, Int.natCast_pow]; rfl
theorem mul_fl (a b : Int) (hb : 0 < b) (ha : a.natAbs < 2 ^ 53) (hb2 : b.natAbs < 2 ^ 53) (hab : (a * b).natAbs < 2 ^ 53) : floatBits .mul .f64 (fl a) (fl b) = some (fl (a * b)) := by
  obtain ⟨k, hk⟩ := read_fl a ha
  obtain ⟨l, hl⟩ := read_fl b hb2
  show double.mul _ _ = _
  unfold Format.mul
  rw [hk, hl]
  show some (double.write (.number _ _ _)) = _
  rw [← write_fl (a * b) (k + l) hab]
  congr 3
  · have e : decide (b < 0) = false := by simp; omega
    rw [e, Bool.xor_false]
    by_cases h : a < 0
    · have := Int.mul_neg_of_neg_of_pos h hb
      simp [h, this]
    · have := Int.mul_nonneg (a := a) (b := b) (by omega) (by omega)
      simp [h]; omega
  · rw [Int.natAbs_mul, Nat.pow_add]; simp only [Nat.mul_assoc]; congr 1; rw [Nat.mul_left_comm]
  · omega
theorem pow2_pos (n : Nat) : (0 : Int) < 2 ^ n := Int.pow_pos (by omega)
theorem total_fl (a : Int) (m : Nat) : (a * 2 ^ m = 0 ↔ a = 0) ∧ (a * 2 ^ m < 0 ↔ a < 0) ∧ (a * 2 ^ m).natAbs = a.natAbs * 2 ^ m := by
  have hp := pow2_pos m
  refine ⟨⟨fun h => ?_, fun h => by rw [h, Int.zero_mul]⟩, ⟨fun h => ?_, fun h => Int.mul_neg_of_neg_of_pos h hp⟩, ?_⟩
  · rcases Int.mul_eq_zero.1 h with h | h
    · exact h
    · omega
  · rcases Int.lt_or_le a 0 with g | g
    · exact g
    · have := Int.mul_nonneg g (Int.le_of_lt hp); omega
  · rw [Int.natAbs_mul]; congr 1
theorem add_fl (a b : Int) (ha : a.natAbs < 2 ^ 53) (hb : b.natAbs < 2 ^ 53) (hab : (a + b).natAbs < 2 ^ 53) : floatBits .add .f64 (fl a) (fl b) = some (fl (a + b)) := by
  obtain ⟨k, hk⟩ := read_fl a ha
  obtain ⟨l, hl⟩ := read_fl b hb
  show double.add _ _ = _
  unfold Format.add
  rw [hk, hl]
  simp only [Datum.sum, signed_fl, Option.map_some]
  generalize hm : max k l = m
  have e1 : min (-(k : Int)) (-(l : Int)) = -(m : Int) := by omega
  have e2 : k + (-(k : Int) - -(m : Int)).toNat = m := by omega
  have e3 : l + (-(l : Int) - -(m : Int)).toNat = m := by omega
  rw [e1, e2, e3, ← Int.add_mul]
  obtain ⟨t1, t2, t3⟩ := total_fl (a + b) m
  rw [t3]
  have es : (if (a + b) * 2 ^ m = 0 then (decide (a < 0) && decide (b < 0)) else decide ((a + b) * 2 ^ m < 0)) = decide (a + b < 0) := by
    by_cases h : a + b = 0
    · rw [if_pos (t1.2 h)]
      by_cases h1 : a < 0
      · have h2 : ¬ b < 0 := by omega
        simp [h2]; omega
      · simp [h1]; omega
    · rw [if_neg (fun g => h (t1.1 g))]; simp [t2]
  rw [es, write_fl (a + b) m hab]
theorem sub_fl (a b : Int) (ha : a.natAbs < 2 ^ 53) (hb : b.natAbs < 2 ^ 53) (hab : (a - b).natAbs < 2 ^ 53) : floatBits .sub .f64 (fl a) (fl b) = some (fl (a - b)) := by
  obtain ⟨k, hk⟩ := read_fl a ha
  obtain ⟨l, hl⟩ := read_fl b hb
  show double.sub _ _ = _
  unfold Format.sub
  rw [hk, hl]
  have hopp : ∀ up, signed (!decide (b < 0)) (b.natAbs * 2 ^ l) up = (-b) * 2 ^ (l + up) := by
    intro up
    rw [Int.neg_mul, ← signed_fl b l up]
    unfold signed
    cases decide (b < 0) <;> simp
  simp only [Datum.opposite, Datum.sum, signed_fl, hopp, Option.map_some]
  generalize hm : max k l = m
  have e1 : min (-(k : Int)) (-(l : Int)) = -(m : Int) := by omega
  have e2 : k + (-(k : Int) - -(m : Int)).toNat = m := by omega
  have e3 : l + (-(l : Int) - -(m : Int)).toNat = m := by omega
  rw [e1, e2, e3, ← Int.add_mul, ← Int.sub_eq_add_neg]
  obtain ⟨t1, t2, t3⟩ := total_fl (a - b) m
  rw [t3]
  have es : (if (a - b) * 2 ^ m = 0 then (decide (a < 0) && !decide (b < 0)) else decide ((a - b) * 2 ^ m < 0)) = decide (a - b < 0) := by
    by_cases h : a - b = 0
    · rw [if_pos (t1.2 h)]
      have h0 : a = b := by omega
      subst h0
      simp
    · rw [if_neg (fun g => h (t1.1 g))]; simp [t2]
  rw [es, write_fl (a - b) m hab]
/-- the way back -/
theorem int_fl (n : Int) (hn : n.natAbs < 2 ^ 53) : floatToIntVal .f64 (fl n) .i64 = some n := by
  obtain ⟨k, hk⟩ := read_fl n hn
  unfold floatToIntVal
  have e : (FloatKind.f64.decode (fl n)).toInt .zero = some n := by
    show (double.read (fl n)).toInt .zero = _
    rw [hk]
    simp only [Datum.toInt, Datum.integral]
    rw [show (-(k : Int)).toNat = 0 by omega, show (- -(k : Int)).toNat = k by omega, Nat.shiftLeft_zero, cut_exact]
    have := signed_fl n 0 0
    rw [Nat.pow_zero, Nat.mul_one] at this
    rw [this]; simp
  rw [e]
  have h1 : IntKind.i64.min = -9223372036854775808 := rfl
  have h2 : IntKind.i64.max = 9223372036854775807 := rfl
  simp only [h1, h2]
  rw [if_pos (by omega)]
theorem nearest_fl (n : Int) : FloatKind.f64.nearest n = fl n := rfl
/-- a complex number turned by 2 + i -/
theorem turn_fl (a b : Int) (ha : a.natAbs < 2 ^ 40) (hb : b.natAbs < 2 ^ 40) : cMulBits (fl a) (fl b) (fl 2) (fl 1) = some (fl (2 * a - b), fl (a + 2 * b)) := by
  unfold cMulBits
  rw [mul_fl a 2 (by omega) (by omega) (by omega) (by omega), Option.bind_some, mul_fl b 1 (by omega) (by omega) (by omega) (by omega), Option.bind_some, sub_fl (a * 2) (b * 1) (by omega) (by omega) (by omega), Option.bind_some,
    mul_fl a 1 (by omega) (by omega) (by omega) (by omega), Option.bind_some, mul_fl b 2 (by omega) (by omega) (by omega) (by omega), Option.bind_some, add_fl (a * 1) (b * 2) (by omega) (by omega) (by omega), Option.bind_some]
  rw [show a * 2 - b * 1 = 2 * a - b by omega, show a * 1 + b * 2 = a + 2 * b by omega]
end Go.Proofs.Herb
