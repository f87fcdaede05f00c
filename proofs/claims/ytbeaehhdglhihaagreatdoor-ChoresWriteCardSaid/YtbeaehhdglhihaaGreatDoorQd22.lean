/- A fact back from its bytes: plain. Four bytes' number: plain. A table's bytes tell its facts: plain. -/
import Derived.Test.YtbeaehhdglhihaaGreatDoorQd01
import Derived.Test.YtbeaehhdglhihaaGreatDoorQd02
import Derived.Test.YtbeaehhdglhihaaGreatDoorQd04
import Derived.Test.YtbeaehhdglhihaaGreatDoorQd05
import Derived.Test.YtbeaehhdglhihaaGreatDoorQd20
namespace Go.Proofs.Herb
open Go.RowKit
/-- a key back, and what stands behind it -/
def plainK : List UInt8 → Option (List UInt8 × List UInt8)
  | [] => none
  | [_] => none
  | c :: d :: r => if c = 0 then (if d = 0 then some ([], r) else if d = 1 then (plainK r).map (fun x => (0 :: x.1, x.2)) else none) else (plainK (d :: r)).map fun x => (c :: x.1, x.2)
/-- bytes whose bits are turned, as a number -/
def riseG (a : Nat) (l : List UInt8) : Nat := l.foldl (fun n c => n * 256 + (255 - c.toNat)) a
theorem riseG_lt : ∀ (l : List UInt8) (a k : Nat), a < 2 ^ (8 * k) → riseG a l < 2 ^ (8 * (k + l.length))
  | [], a, k, h => h
  | c :: l, a, k, h => by
    unfold riseG
    rw [List.foldl_cons]
    have h2 := riseG_lt l (a * 256 + (255 - c.toNat)) (k + 1) (by
      have hp : (2 : Nat) ^ (8 * (k + 1)) = 2 ^ (8 * k) * 256 := by rw [Nat.mul_add, Nat.pow_add]
      rw [hp]
      omega)
    unfold riseG at h2
    rw [List.length_cons, ← Nat.add_assoc, Nat.add_right_comm]
    exact h2
/-- a key and its tail, as a fact -/
def factK (k r : List UInt8) : Fact := ⟨⟨k.toArray⟩, riseG 0 (r.take 4), riseG 0 ((r.drop 4).take 8), 0, ((r[12]?).getD 0).toNat, ⟨#[]⟩⟩
def kgetF (b : List UInt8) : Option Fact := match plainK b with
  | none => none
  | some x => if (1 ≤ x.1.length ∧ x.1.length ≤ 32 ∧ x.2.length = 13) ∧ mayF (factK x.1 x.2) = true then some (factK x.1 x.2) else none
theorem kget_ok {b : List UInt8} {f : Fact} (h : kgetF b = some f) : f.Ok ∧ mayF f = true ∧ f.line = 0 ∧ f.val = ⟨#[]⟩ := by
  unfold kgetF at h
  split at h
  · cases h
  · rename_i x hx
    split at h
    · rename_i hc
      obtain ⟨⟨h1, h2, h3⟩, hm⟩ := hc
      cases h
      refine ⟨⟨?_, ?_, by show (0 : Nat) < _; decide, UInt8.toNat_lt _, ?_, ?_⟩, hm, rfl, rfl⟩
      · have := riseG_lt (x.2.take 4) 0 0 (by decide)
        rw [List.length_take, h3] at this
        exact this
      · have := riseG_lt ((x.2.drop 4).take 8) 0 0 (by decide)
        rw [List.length_take, List.length_drop, h3] at this
        exact this
      · show x.1.toArray.size ≤ maxLen
        unfold maxLen
        rw [List.size_toArray]; omega
      · show (0 : Nat) ≤ maxLen
        exact Nat.zero_le _
    · cases h
end Go.Proofs.Herb
namespace Go.Proofs.Herb
open Go.RowKit
/-- four bytes' number, from a place on -/
def num4 (l : List UInt8) (a : Nat) : Nat := ((l[a]?).getD 0).toNat + 256 * ((l[a + 1]?).getD 0).toNat + 65536 * ((l[a + 2]?).getD 0).toNat + 16777216 * ((l[a + 3]?).getD 0).toNat
end Go.Proofs.Herb
namespace Go.Proofs.Herb
open Go.RowKit
/-! numbers ahead of whatever -/
theorem byteOf_inj {x y : Nat × Bool} (hx : x.1 < 128) (hy : y.1 < 128) (h : byteOf x = byteOf y) : x = y := by
  have h2 := congrArg UInt8.toNat h
  unfold byteOf at h2
  rw [UInt8.toNat_ofNat', UInt8.toNat_ofNat'] at h2
  obtain ⟨a, b⟩ := x
  obtain ⟨c, d⟩ := y
  simp only at hx hy h2
  cases b <;> cases d <;> simp only [if_true, Bool.false_eq_true, if_false] at h2 <;> simp <;> omega
theorem gF_pre : ∀ (f n m : Nat) (r s : List UInt8), 1 ≤ f → n < 128 ^ f → m < 128 ^ f → (gF f n).map byteOf ++ r = (gF f m).map byteOf ++ s → n = m ∧ r = s
  | 0, _, _, _, _, h, _, _, _ => by omega
  | f + 1, n, m, r, s, _, hn, hm, h => by
    rw [gF, gF, List.map_cons, List.map_cons, List.cons_append, List.cons_append, List.cons.injEq] at h
    obtain ⟨h1, h2⟩ := h
    have h3 := byteOf_inj (Nat.mod_lt n (by decide)) (Nat.mod_lt m (by decide)) h1
    simp only [Prod.mk.injEq, decide_eq_decide] at h3
    by_cases hb : 128 ≤ n
    · have hb2 := h3.2.1 hb
      rw [if_pos hb, if_pos hb2] at h2
      cases f with
      | zero => simp at hn; omega
      | succ f =>
        rw [Nat.pow_succ] at hn hm
        obtain ⟨h4, h5⟩ := gF_pre (f + 1) (n / 128) (m / 128) r s (by omega) (Nat.div_lt_of_lt_mul (by omega)) (Nat.div_lt_of_lt_mul (by omega)) h2
        exact ⟨by omega, h5⟩
    · have hb2 : ¬ 128 ≤ m := fun h => hb (h3.2.2 h)
      rw [if_neg hb, if_neg hb2] at h2
      exact ⟨by omega, by simpa using h2⟩
theorem vput_pre {n m : Nat} {r s : List UInt8} (hn : n < 18446744073709551616) (hm : m < 18446744073709551616) (h : vput n ++ r = vput m ++ s) : n = m ∧ r = s :=
  gF_pre 10 n m r s (by decide) (Nat.lt_trans hn (by decide)) (Nat.lt_trans hm (by decide)) h
theorem tput_pre {a b r s : List UInt8} (ha : a.length < 18446744073709551616) (hb : b.length < 18446744073709551616) (h : tput a ++ r = tput b ++ s) : a = b ∧ r = s := by
  unfold tput at h
  rw [List.append_assoc, List.append_assoc] at h
  obtain ⟨h1, h2⟩ := vput_pre ha hb h
  exact List.append_inj h2 h1
theorem le4_inj {n m : Nat} (hn : n < 4294967296) (hm : m < 4294967296) (h : le4 n = le4 m) : n = m := by
  unfold le4 at h
  simp only [List.cons.injEq, and_true] at h
  obtain ⟨h1, h2, h3, h4⟩ := h
  have k1 := congrArg UInt8.toNat h1
  have k2 := congrArg UInt8.toNat h2
  have k3 := congrArg UInt8.toNat h3
  have k4 := congrArg UInt8.toNat h4
  rw [UInt8.toNat_ofNat', UInt8.toNat_ofNat'] at k1 k2 k3 k4
  omega
/-! a block's items -/
theorem comL_take : ∀ (a b : List UInt8), a.take (comL a b) = b.take (comL a b)
  | [], _ => by simp [comL]
  | _ :: _, [] => by simp [comL]
  | x :: a, y :: b => by
    rw [comL]
    split
    · rename_i h
      rw [List.take_succ_cons, List.take_succ_cons, comL_take a b, h]
    · rfl
theorem kAt_sh (l : List Item) (i : Nat) : kAt l i = (kAt l (i - 1)).take (shAt l i) ++ (kAt l i).drop (shAt l i) := by
  have h : (kAt l (i - 1)).take (shAt l i) = (kAt l i).take (shAt l i) := by
    unfold shAt
    split
    · rfl
    · exact comL_take _ _
  rw [h, List.take_append_drop]
/-- all is short -/
def Short (l : List Item) : Prop := ∀ x ∈ l, x.key.size < 18446744073709551616 ∧ x.val.size < 18446744073709551616
theorem Short.k {l : List Item} (h : Short l) (i : Nat) : (kAt l i).length < 18446744073709551616 ∧ (vAt l i).length < 18446744073709551616 := by
  unfold kAt vAt
  cases hi : l[i]? with
  | none => simp
  | some x =>
    have := h x (List.mem_of_getElem? hi)
    simp only [Option.map_some, Option.getD_some, size_toList]
    exact this
theorem bUp_split (l : List Item) : ∀ (d i : Nat), ∃ t, bUp l (i + d) = bUp l i ++ t
  | 0, i => ⟨[], by simp⟩
  | d + 1, i => by
    obtain ⟨t, h⟩ := bUp_split l d i
    exact ⟨t ++ itB l (i + d), by rw [show i + (d + 1) = i + d + 1 by omega, bUp_succ, h, List.append_assoc]⟩
theorem itB_same {l m : List Item} (hl : Short l) (hm : Short m) {i : Nat} {t s : List UInt8} (hp : i ≠ 0 → kAt l (i - 1) = kAt m (i - 1)) (h : itB l i ++ t = itB m i ++ s) : kAt l i = kAt m i ∧ vAt l i = vAt m i := by
  unfold itB at h
  simp only [List.append_assoc] at h
  have b1 := Nat.lt_of_le_of_lt (shAt_le l i) (hl.k i).1
  have b2 := Nat.lt_of_le_of_lt (shAt_le m i) (hm.k i).1
  obtain ⟨h1, h2⟩ := vput_pre b1 b2 h
  obtain ⟨h3, h4⟩ := tput_pre (by rw [List.length_drop]; exact Nat.lt_of_le_of_lt (Nat.sub_le _ _) (hl.k i).1) (by rw [List.length_drop]; exact Nat.lt_of_le_of_lt (Nat.sub_le _ _) (hm.k i).1) h2
  obtain ⟨h5, _⟩ := tput_pre (hl.k i).2 (hm.k i).2 h4
  refine ⟨?_, h5⟩
  rw [kAt_sh l i, kAt_sh m i, h3, h1]
  by_cases e : i = 0
  · subst e
    have : shAt m 0 = 0 := by unfold shAt; rfl
    rw [this]; simp
  · rw [hp e]
theorem itB_ne (l : List Item) (i : Nat) : itB l i ≠ [] := by
  intro h
  have h1 := (vput_len (shAt l i)).1
  have h2 := congrArg List.length h
  unfold itB at h2
  simp only [List.length_append, List.length_nil] at h2
  omega
theorem bUp_same {l m : List Item} : ∀ i, (∀ j, j < i → kAt l j = kAt m j ∧ vAt l j = vAt m j) → bUp l i = bUp m i
  | 0, _ => rfl
  | i + 1, h => by
    rw [bUp_succ, bUp_succ, bUp_same i (fun j hj => h j (by omega))]
    congr 1
    unfold itB shAt
    rw [(h i (by omega)).1, (h i (by omega)).2]
    by_cases e : i % 4 = 0
    · simp only [if_pos e]
    · simp only [if_neg e, (h (i - 1) (by omega)).1]
theorem item_ext {x y : Item} (h1 : x.key.data.toList = y.key.data.toList) (h2 : x.val.data.toList = y.val.data.toList) : x = y := by
  obtain ⟨⟨a⟩, ⟨b⟩⟩ := x
  obtain ⟨⟨c⟩, ⟨d⟩⟩ := y
  simp only at h1 h2
  rw [Array.toList_inj.1 h1, Array.toList_inj.1 h2]
theorem bUp_inj {l m : List Item} (hl : Short l) (hm : Short m) (h : bUp l l.length = bUp m m.length) : l = m := by
  have key : ∀ i, i ≤ l.length → i ≤ m.length → ∀ j, j < i → kAt l j = kAt m j ∧ vAt l j = vAt m j := by
    intro i
    induction i with
    | zero => intro _ _ j hj; omega
    | succ i ih =>
      intro h1 h2 j hj
      have ih' := ih (by omega) (by omega)
      by_cases e : j < i
      · exact ih' j e
      · obtain rfl : j = i := by omega
        obtain ⟨t, ht⟩ := bUp_split l (l.length - (j + 1)) (j + 1)
        obtain ⟨s, hs⟩ := bUp_split m (m.length - (j + 1)) (j + 1)
        rw [show j + 1 + (l.length - (j + 1)) = l.length by omega, bUp_succ, List.append_assoc] at ht
        rw [show j + 1 + (m.length - (j + 1)) = m.length by omega, bUp_succ, List.append_assoc] at hs
        rw [ht, hs, bUp_same j ih'] at h
        exact itB_same hl hm (fun e => (ih' (j - 1) (by omega)).1) (List.append_cancel_left h)
  have hlen : l.length = m.length := by
    rcases Nat.lt_trichotomy l.length m.length with h1 | h1 | h1
    · exfalso
      have hk := bUp_same l.length (key l.length (Nat.le_refl _) (by omega))
      obtain ⟨s, hs⟩ := bUp_split m (m.length - (l.length + 1)) (l.length + 1)
      rw [show l.length + 1 + (m.length - (l.length + 1)) = m.length by omega, bUp_succ, List.append_assoc, ← h, hk] at hs
      have := (List.append_right_eq_self (xs := bUp m l.length) (ys := itB m l.length ++ s)).1 hs.symm
      exact itB_ne m l.length (List.append_eq_nil_iff.1 this).1
    · exact h1
    · exfalso
      have hk := bUp_same m.length (key m.length (by omega) (Nat.le_refl _))
      obtain ⟨s, hs⟩ := bUp_split l (l.length - (m.length + 1)) (m.length + 1)
      rw [show m.length + 1 + (l.length - (m.length + 1)) = l.length by omega, bUp_succ, List.append_assoc, h, hk] at hs
      have := (List.append_right_eq_self (xs := bUp m m.length) (ys := itB l m.length ++ s)).1 hs.symm
      exact itB_ne l m.length (List.append_eq_nil_iff.1 this).1
  refine List.ext_getElem hlen fun i h1 h2 => ?_
  obtain ⟨k1, k2⟩ := key l.length (Nat.le_refl _) (by omega) i h1
  rw [kAt_get h1, kAt_get h2] at k1
  rw [vAt_get h1, vAt_get h2] at k2
  exact item_ext k1 k2
theorem bAll_inj {l m : List Item} (hl : Short l) (hm : Short m) (h1 : l.length < 4000000000) (h2 : m.length < 4000000000) (h : bAll l = bAll m) : l = m := by
  unfold bAll at h
  have h3 := (List.append_inj' h (by rw [le4_len, le4_len])).1
  unfold bBody at h3
  obtain ⟨h4, h5⟩ := List.append_inj' h3 (by rw [le4_len, le4_len])
  have p1 := pUp_len l l.length
  have p2 := pUp_len m m.length
  have h6 := le4_inj (by omega) (by omega) h5
  have h7 := (List.append_inj' h4 (by omega)).1
  exact bUp_inj hl hm h7
/-! a table -/
theorem Short.sub {l : List Item} (h : Short l) (x : Nat × Nat) : Short (subI l x) := fun y hy => h y (List.mem_of_mem_drop (List.mem_of_mem_take hy))
end Go.Proofs.Herb
