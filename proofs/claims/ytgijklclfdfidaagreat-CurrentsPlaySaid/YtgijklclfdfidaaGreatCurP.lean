/- What a pointer's file holds: a number's bytes and their sum; a byte that is another one is found out. Plain lists; no condition. -/
import Derived.Test.YtgijklclfdfidaaGreatBase
namespace Go.Proofs.Herb
/-- a number's bytes, the highest first -/
def bigL (n many : Nat) : List UInt8 := (List.range many).map fun i => UInt8.ofNat (n / 256 ^ (many - 1 - i))
theorem bigL_len (n many : Nat) : (bigL n many).length = many := by simp [bigL]
def contentL (n : Nat) : List UInt8 := bigL n 8 ++ bigL (crcMore 0 (bigL n 8)).toNat 4
theorem contentL_len (n : Nat) : (contentL n).length = 12 := by simp [contentL, bigL_len]
/-- the number of some bytes -/
def valL (l : List UInt8) : Nat := l.foldl (fun a c => (a * 256 + c.toNat) % 18446744073709551616) 0
theorem valL_lt (l : List UInt8) : valL l < 18446744073709551616 := by
  unfold valL
  rcases List.eq_nil_or_concat l with rfl | ⟨k, c, rfl⟩
  · decide
  · simp only [List.concat_eq_append, List.foldl_append, List.foldl_cons, List.foldl_nil]; exact Nat.mod_lt _ (by decide)
theorem valL_snoc (l : List UInt8) (c : UInt8) : valL (l ++ [c]) = (valL l * 256 + c.toNat) % 18446744073709551616 := by simp [valL]
theorem list8 {α : Type} {l : List α} (h : l.length = 8) : ∃ a b c d e f g i, l = [a, b, c, d, e, f, g, i] := by
  match l, h with
  | [a, b, c, d, e, f, g, i], _ => exact ⟨a, b, c, d, e, f, g, i, rfl⟩
theorem valL_eight (a b c d e f g i : UInt8) : valL [a, b, c, d, e, f, g, i] = a.toNat * 72057594037927936 + b.toNat * 281474976710656 + c.toNat * 1099511627776 + d.toNat * 4294967296 + e.toNat * 16777216 + f.toNat * 65536 + g.toNat * 256 + i.toNat := by
  have := a.toNat_lt; have := b.toNat_lt; have := c.toNat_lt; have := d.toNat_lt; have := e.toNat_lt; have := f.toNat_lt; have := g.toNat_lt; have := i.toNat_lt
  simp only [valL, List.foldl_cons, List.foldl_nil]
  omega
theorem bigL_eight (n : Nat) : bigL n 8 = [UInt8.ofNat (n / 72057594037927936), UInt8.ofNat (n / 281474976710656), UInt8.ofNat (n / 1099511627776), UInt8.ofNat (n / 4294967296), UInt8.ofNat (n / 16777216), UInt8.ofNat (n / 65536), UInt8.ofNat (n / 256), UInt8.ofNat n] := by
  simp [bigL, List.range_succ]
theorem bigL_four (n : Nat) : bigL n 4 = [UInt8.ofNat (n / 16777216), UInt8.ofNat (n / 65536), UInt8.ofNat (n / 256), UInt8.ofNat n] := by
  simp [bigL, List.range_succ]
theorem valL_big {n : Nat} (h : n < 18446744073709551616) : valL (bigL n 8) = n := by
  rw [bigL_eight, valL_eight]
  simp only [UInt8.toNat_ofNat']
  omega
theorem u8_of {m : Nat} {x : UInt8} (h : m % 256 = x.toNat) : UInt8.ofNat m = x := by
  apply UInt8.toNat_inj.1
  rw [UInt8.toNat_ofNat']; exact h
theorem big_val {l : List UInt8} (h : l.length = 8) : bigL (valL l) 8 = l := by
  obtain ⟨a, b, c, d, e, f, g, i, rfl⟩ := list8 h
  have := a.toNat_lt; have := b.toNat_lt; have := c.toNat_lt; have := d.toNat_lt; have := e.toNat_lt; have := f.toNat_lt; have := g.toNat_lt; have := i.toNat_lt
  rw [valL_eight, bigL_eight]
  rw [u8_of (x := a), u8_of (x := b), u8_of (x := c), u8_of (x := d), u8_of (x := e), u8_of (x := f), u8_of (x := g), u8_of (x := i)] <;> omega
theorem big4_inj {m n : Nat} (hm : m < 4294967296) (hn : n < 4294967296) (h : bigL m 4 = bigL n 4) : m = n := by
  rw [bigL_four, bigL_four] at h
  simp only [List.cons.injEq, and_true] at h
  obtain ⟨h1, h2, h3, h4⟩ := h
  have e1 := congrArg UInt8.toNat h1
  have e2 := congrArg UInt8.toNat h2
  have e3 := congrArg UInt8.toNat h3
  have e4 := congrArg UInt8.toNat h4
  simp only [UInt8.toNat_ofNat'] at e1 e2 e3 e4
  omega
/-! the sum tells of one byte that is another one -/
theorem crcBit_inj {a b : BitVec 32} (h : crcBit a = crcBit b) : a = b := by
  have hz : crcBit (a ^^^ b) = 0#32 := by rw [crcBit_xor, h, BitVec.xor_self]
  have key : ∀ x : BitVec 32, crcBit x = 0#32 → x = 0#32 := by
    intro x hx
    unfold crcBit at hx
    have h31 := congrArg (fun y => y.getLsbD 31) hx
    simp only [BitVec.getLsbD_xor, BitVec.getLsbD_ushiftRight] at h31
    cases hl : x.getLsbD 0 with
    | true => rw [hl] at h31; simp at h31
    | false =>
      rw [hl] at hx
      simp at hx
      apply BitVec.eq_of_getLsbD_eq
      intro i hi
      cases i with
      | zero => simpa using hl
      | succ i =>
        have := congrArg (fun y => y.getLsbD i) hx
        simp only [BitVec.getLsbD_ushiftRight] at this
        rw [Nat.add_comm] at this
        simpa using this
  exact BitVec.xor_eq_zero_iff.1 (key _ hz)
theorem crcBits_inj : ∀ (n : Nat) {a b : BitVec 32}, crcBits n a = crcBits n b → a = b
  | 0, _, _, h => h
  | n + 1, _, _, h => crcBit_inj (crcBits_inj n h)
theorem crcByte_inj {x y : BitVec 32} {c : BitVec 8} (h : crcByte x c = crcByte y c) : x = y := by
  have := crcBits_inj 8 h
  exact (BitVec.xor_right_inj _).1 (by rw [BitVec.xor_comm, this, BitVec.xor_comm])
theorem crcByte_inj2 {x : BitVec 32} {c d : BitVec 8} (h : crcByte x c = crcByte x d) : c = d := by
  have h1 := crcBits_inj 8 h
  have h2 : c.setWidth 32 = d.setWidth 32 := (BitVec.xor_right_inj _).1 h1
  apply BitVec.eq_of_toNat_eq
  have h3 := congrArg BitVec.toNat h2
  simp only [BitVec.toNat_setWidth] at h3
  have := c.isLt
  have := d.isLt
  omega
theorem crcFold_inj : ∀ (l : List UInt8) {x y : BitVec 32}, crcFold x l = crcFold y l → x = y
  | [], _, _, h => h
  | c :: l, _, _, h => crcByte_inj (c := c.toBitVec) (crcFold_inj l h)
theorem crcFold_set : ∀ (l : List UInt8) (i : Nat) (c : UInt8) (x : BitVec 32), i < l.length → l.getD i 0 ≠ c → crcFold x (l.set i c) ≠ crcFold x l
  | [], _, _, _, h, _ => by simp at h
  | d :: l, 0, c, x, _, hc => by
    intro h
    have h1 := crcFold_inj l (x := crcByte x c.toBitVec) (y := crcByte x d.toBitVec) h
    have h2 := crcByte_inj2 h1
    apply hc
    show d = c
    exact (UInt8.eq_of_toBitVec_eq h2).symm
  | d :: l, i + 1, c, x, hi, hc => by
    intro h
    exact crcFold_set l i c (crcByte x d.toBitVec) (by simpa using hi) (by simpa using hc) h
theorem crcMore_set {l : List UInt8} {i : Nat} {c : UInt8} (s : BitVec 32) (hi : i < l.length) (hc : l.getD i 0 ≠ c) : crcMore s (l.set i c) ≠ crcMore s l := by
  intro h
  unfold crcMore at h
  refine crcFold_set l i c (~~~ s) hi hc ?_
  have h1 := congrArg (fun y => ~~~ y) h
  simpa only [BitVec.not_not] using h1
/-- what a pointer's bytes tell: the number; or they are no pointer's -/
def goodL (b : List UInt8) : Bool := contentL (valL (b.take 8)) == b
theorem good_content {n : Nat} (h : n < 18446744073709551616) : valL ((contentL n).take 8) = n ∧ goodL (contentL n) = true := by
  have e : (contentL n).take 8 = bigL n 8 := List.take_left' (bigL_len n 8)
  unfold goodL
  rw [e, valL_big h]
  exact ⟨rfl, beq_self_eq_true _⟩
theorem bad_turned {n i : Nat} {c : UInt8} (h : n < 18446744073709551616) (hi : i < 12) (hc : (contentL n).getD i 0 ≠ c) : goodL ((contentL n).set i c) = false := by
  unfold goodL
  rw [beq_eq_false_iff_ne]
  intro he
  have hl := bigL_len n 8
  by_cases h8 : i < 8
  · have e1 : (contentL n).set i c = (bigL n 8).set i c ++ bigL (crcMore 0 (bigL n 8)).toNat 4 := by unfold contentL; rw [List.set_append_left _ _ (by omega)]
    have hc' : (bigL n 8).getD i 0 ≠ c := by
      rw [List.getD_eq_getElem?_getD] at hc ⊢
      unfold contentL at hc
      rwa [List.getElem?_append_left (by omega)] at hc
    have e2 : ((contentL n).set i c).take 8 = (bigL n 8).set i c := by rw [e1]; exact List.take_left' (by rw [List.length_set]; exact hl)
    rw [e2, e1] at he
    have hb := big_val (l := (bigL n 8).set i c) (by rw [List.length_set]; exact hl)
    unfold contentL at he
    rw [hb] at he
    have h4 := List.append_cancel_left he
    have h5 := big4_inj (BitVec.isLt _) (BitVec.isLt _) h4
    exact crcMore_set 0 (by omega) hc' (BitVec.eq_of_toNat_eq h5)
  · have e2 : ((contentL n).set i c).take 8 = bigL n 8 := by
      unfold contentL
      rw [List.set_append_right _ _ (by omega)]
      exact List.take_left' hl
    rw [e2, valL_big h] at he
    have h6 : (contentL n).getD i 0 = ((contentL n).set i c).getD i 0 := congrArg (fun l => l.getD i 0) he
    rw [List.getD_eq_getElem?_getD (l := (contentL n).set i c), List.getElem?_set_self (by rw [contentL_len]; exact hi), Option.getD_some] at h6
    exact hc h6
theorem bad_longer {n : Nat} (h : n < 18446744073709551616) (c : UInt8) : goodL (contentL n ++ [c]) = false := by
  unfold goodL
  rw [beq_eq_false_iff_ne]
  intro he
  have e : (contentL n ++ [c]).take 8 = bigL n 8 := by unfold contentL; rw [List.append_assoc]; exact List.take_left' (bigL_len n 8)
  rw [e, valL_big h] at he
  have := congrArg List.length he
  simp at this
end Go.Proofs.Herb
