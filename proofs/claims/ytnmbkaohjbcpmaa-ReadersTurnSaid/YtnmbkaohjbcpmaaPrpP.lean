/- What a table's props and filter tell: plain. -/
import Derived.Test.YtnmbkaohjbcpmaaMayP
import Derived.Test.YtnmbkaohjbcpmaaHas
import Derived.Test.YtnmbkaohjbcpmaaPrn
namespace Go.Proofs.Herb
open Go.RowKit
theorem mem_compact {l : List (List UInt8)} : ∀ x ∈ l, x ∈ Lib.compact l := by
  have key : ∀ i, (hi : i < l.length) → l[i] ∈ Lib.compact l := by
    intro i
    induction i with
    | zero =>
      intro hi
      unfold Lib.compact Lib.compactUpTo
      refine List.mem_map.2 ⟨0, List.mem_filter.2 ⟨List.mem_range.2 hi, by simp [Lib.keeps]⟩, ?_⟩
      rw [getElem!_pos l.toArray 0 (by simpa using hi)]; simp
    | succ i ih =>
      intro hi
      have h0 := ih (by omega)
      by_cases hk : Lib.keeps l.toArray (i + 1) = true
      · unfold Lib.compact Lib.compactUpTo
        refine List.mem_map.2 ⟨i + 1, List.mem_filter.2 ⟨List.mem_range.2 hi, hk⟩, ?_⟩
        rw [getElem!_pos l.toArray (i + 1) (by simpa using hi)]; simp
      · have he : l.toArray[i + 1]! = l.toArray[i + 1 - 1]! := by
          apply Classical.byContradiction
          intro hne
          exact hk (Lib.keeps_pos hne)
        rw [Nat.add_sub_cancel, getElem!_pos l.toArray (i + 1) (by simpa using hi), getElem!_pos l.toArray i (by simp; omega)] at he
        simp only [List.getElem_toArray] at he
        rw [he]; exact h0
  intro x hx
  obtain ⟨i, hi, rfl⟩ := List.mem_iff_getElem.1 hx
  exact key i hi
/-! bits -/
theorem bitAt_test (fb : List UInt8) (a : Nat) : bitAt fb a = ((fb[a / 8]?).getD 0).toNat.testBit (a % 8) := by
  unfold bitAt
  rw [Nat.testBit_eq_decide_div_mod_eq, Bool.eq_iff_iff, beq_iff_eq, decide_eq_true_eq]
theorem pow_bit (r : Nat) (hr : r < 8) : (UInt8.ofNat (2 ^ r)).toNat = 2 ^ r := by
  rw [UInt8.toNat_ofNat']
  exact Nat.mod_eq_of_lt (Nat.pow_lt_pow_right (by decide) hr)
theorem setBit_has {b : List UInt8} {a : Nat} (h : a / 8 < b.length) : bitAt (setBit b a) a = true := by
  rw [bitAt_test]
  unfold setBit
  rw [List.getElem?_set_self h, Option.getD_some, UInt8.toNat_or, pow_bit _ (Nat.mod_lt _ (by decide)), Nat.testBit_or, Nat.testBit_two_pow_self, Bool.or_true]
theorem setBit_keep {b : List UInt8} {a c : Nat} (h : bitAt b c = true) : bitAt (setBit b a) c = true := by
  rw [bitAt_test] at h ⊢
  unfold setBit
  by_cases e : a / 8 = c / 8
  · by_cases hl : a / 8 < b.length
    · rw [← e, List.getElem?_set_self hl, Option.getD_some, UInt8.toNat_or, Nat.testBit_or, e, h, Bool.true_or]
    · rw [List.getElem?_eq_none (by omega)] at h
      simp at h
  · rw [List.getElem?_set_ne e]; exact h
theorem bits_keep : ∀ (l : List Nat) (b : List UInt8) (c : Nat), bitAt b c = true → bitAt (l.foldl setBit b) c = true
  | [], _, _, h => h
  | a :: l, b, c, h => by rw [List.foldl_cons]; exact bits_keep l _ c (setBit_keep h)
theorem bits_has : ∀ (l : List Nat) (b : List UInt8), (∀ a ∈ l, a / 8 < b.length) → ∀ a ∈ l, bitAt (l.foldl setBit b) a = true
  | c :: l, b, h, a, ha => by
    rw [List.foldl_cons]
    rcases List.mem_cons.1 ha with rfl | ha
    · exact bits_keep l _ a (setBit_has (h a (by simp)))
    · exact bits_has l _ (fun x hx => by rw [setBit_len]; exact h x (by simp [hx])) a ha
theorem fold_keep (m : Nat) : ∀ (ks : List (List UInt8)) (b : List UInt8) (c : Nat), bitAt b c = true → bitAt (ks.foldl (bitsF m) b) c = true
  | [], _, _, h => h
  | k :: ks, b, c, h => by rw [List.foldl_cons]; exact fold_keep m ks _ c (bits_keep _ _ _ h)
theorem fold_has (m : Nat) (h0 : 0 < m) : ∀ (ks : List (List UInt8)) (b : List UInt8), m ≤ 8 * b.length → ∀ k ∈ ks, ∀ a ∈ placesF k m, bitAt (ks.foldl (bitsF m) b) a = true
  | c :: ks, b, h, k, hk, a, ha => by
    rw [List.foldl_cons]
    rcases List.mem_cons.1 hk with rfl | hk
    · exact fold_keep m ks _ a (bits_has _ _ (fun x hx => by have := plF_lt _ _ _ _ h0 x hx; omega) a ha)
    · exact fold_has m h0 ks _ (by rw [bitsF_len]; exact h) k hk a ha
theorem blN_ge (n : Nat) : 8 ≤ blN n := by unfold blN; omega
/-- a filter has its keys -/
theorem of_has (ks : List (List UInt8)) : ∀ k ∈ ks, hasF (ofF ks) k = true := by
  intro k hk
  obtain ⟨N, hN⟩ : ∃ N, N = blN ks.length := ⟨_, rfl⟩
  have hN8 : 8 ≤ N := by rw [hN]; exact blN_ge _
  unfold hasF
  split
  · rfl
  · rw [List.all_eq_true]
    intro a ha
    rw [ofF_len, ← hN, Nat.add_sub_cancel] at ha
    have hlt := plF_lt _ _ _ _ (show 0 < 8 * N by omega) a ha
    have h1 := fold_has (8 * N) (by omega) ks (List.replicate (N + 1) 0) (by rw [List.length_replicate]; omega) k hk a ha
    rw [bitAt_test] at h1 ⊢
    unfold ofF
    rw [← hN, List.getElem?_set_ne (by omega)]
    exact h1
/-! keys and ends -/
theorem cmp_key {f g : Fact} (h : cmpF f g < 0) : bL g.key.data.toList f.key.data.toList = false := by
  unfold cmpF at h
  rw [orZ_cons] at h
  split at h
  · rename_i h0
    rw [cmpS_zero.1 h0]; exact bl_irrefl _
  · exact bl_asymm (cmpS_neg.1 h)
theorem nlt_trans {a b c : List UInt8} (h1 : bL b a = false) (h2 : bL c b = false) : bL c a = false := by
  rw [Bool.eq_false_iff]
  intro h
  by_cases e : c = b
  · subst e; rw [h] at h1; cases h1
  · have h3 := bl_total h2 e
    have := bl_trans h3 h
    rw [h1] at this; cases this
theorem good_keys {line : Nat} {l : List Fact} (hg : GoodF line l) (i : Nat) : ∀ d, (h : i + d < l.length) → bL (l[i + d]'h).key.data.toList (l[i]'(by omega)).key.data.toList = false
  | 0, h => bl_irrefl _
  | d + 1, h => by
    obtain ⟨_, _, _, _, h4⟩ := hg (i + (d + 1)) h
    exact nlt_trans (good_keys hg i d (by omega)) (cmp_key (h4 (i + d) (by omega)))
theorem fmin_le {g : Fact → Nat} : ∀ (l : List Fact) (a : Nat), ∀ f ∈ l, l.foldl (fun a f => min a (g f)) a ≤ g f
  | x :: l, a, f, hf => by
    rw [List.foldl_cons]
    rcases List.mem_cons.1 hf with rfl | hf
    · exact Nat.le_trans (fold_min_le l _) (Nat.min_le_right _ _)
    · exact fmin_le l _ f hf
theorem fmax_ge0 {g : Fact → Nat} : ∀ (l : List Fact) (a : Nat), a ≤ l.foldl (fun a f => max a (g f)) a
  | [], a => Nat.le_refl _
  | x :: l, a => by rw [List.foldl_cons]; exact Nat.le_trans (Nat.le_max_left _ _) (fmax_ge0 l _)
theorem fmax_ge {g : Fact → Nat} : ∀ (l : List Fact) (a : Nat), ∀ f ∈ l, g f ≤ l.foldl (fun a f => max a (g f)) a
  | x :: l, a, f, hf => by
    rw [List.foldl_cons]
    rcases List.mem_cons.1 hf with rfl | hf
    · exact Nat.le_trans (Nat.le_max_right _ _) (fmax_ge0 l _)
    · exact fmax_ge l _ f hf
theorem fmin_at {g : Fact → Nat} : ∀ (l : List Fact) (a : Nat), l.foldl (fun a f => min a (g f)) a = a ∨ ∃ f ∈ l, g f = l.foldl (fun a f => min a (g f)) a
  | [], a => .inl rfl
  | x :: l, a => by
    rw [List.foldl_cons]
    rcases fmin_at (g := g) l (min a (g x)) with h | ⟨f, hf, h⟩
    · by_cases e : a ≤ g x
      · rw [Nat.min_eq_left e] at h ⊢; exact .inl h
      · rw [Nat.min_eq_right (by omega)] at h ⊢; exact .inr ⟨x, by simp, h.symm⟩
    · exact .inr ⟨f, by simp [hf], h⟩
theorem fmax_at {g : Fact → Nat} : ∀ (l : List Fact) (a : Nat), l.foldl (fun a f => max a (g f)) a = a ∨ ∃ f ∈ l, g f = l.foldl (fun a f => max a (g f)) a
  | [], a => .inl rfl
  | x :: l, a => by
    rw [List.foldl_cons]
    rcases fmax_at (g := g) l (max a (g x)) with h | ⟨f, hf, h⟩
    · by_cases e : g x ≤ a
      · rw [Nat.max_eq_left e] at h ⊢; exact .inl h
      · rw [Nat.max_eq_right (by omega)] at h ⊢; exact .inr ⟨x, by simp, h.symm⟩
    · exact .inr ⟨f, by simp [hf], h⟩
/-- what the props of facts are -/
structure PropsOk (line : Nat) (l : List Fact) (p : Props) : Prop where
  line : p.line = line
  many : p.many = l.length
  low : ∀ h : 0 < l.length, p.low = (l[0]'h).key
  high : ∀ h : 0 < l.length, p.high = (l[l.length - 1]'(by omega)).key
  each : ∀ f ∈ l, bL f.key.data.toList p.low.data.toList = false ∧ bL p.high.data.toList f.key.data.toList = false ∧ p.least ≤ f.seq ∧ f.seq ≤ p.greatest ∧ p.early ≤ f.valid ∧ f.valid ≤ p.late
  some : (∃ f ∈ l, f.seq = p.least) ∧ (∃ f ∈ l, f.seq = p.greatest) ∧ (∃ f ∈ l, f.valid = p.early) ∧ ∃ f ∈ l, f.valid = p.late
theorem props_good {line : Nat} {l : List Fact} (hg : GoodF line l) (h0 : 0 < l.length) : PropsOk line l (propsF line l) := by
  cases l with
  | nil => simp at h0
  | cons f0 r =>
    have hlast : (f0 :: r).getLast (by simp) = (f0 :: r)[(f0 :: r).length - 1]'(by simp) := List.getLast_eq_getElem _
    refine ⟨rfl, rfl, fun _ => rfl, fun _ => by rw [← hlast]; rfl, fun f hf => ⟨?_, ?_, fmin_le (f0 :: r) _ f hf, fmax_ge (f0 :: r) _ f hf, fmin_le (f0 :: r) _ f hf, fmax_ge (f0 :: r) _ f hf⟩, ?_, ?_, ?_, ?_⟩
    · obtain ⟨i, hi, rfl⟩ := List.mem_iff_getElem.1 hf
      have := good_keys hg 0 i (by omega)
      simp only [Nat.zero_add] at this
      exact this
    · obtain ⟨i, hi, rfl⟩ := List.mem_iff_getElem.1 hf
      show bL ((f0 :: r).getLast (by simp)).key.data.toList _ = false
      rw [hlast]
      have := good_keys hg i ((f0 :: r).length - 1 - i) (by omega)
      simp only [show i + ((f0 :: r).length - 1 - i) = (f0 :: r).length - 1 by omega] at this
      exact this
    · rcases fmin_at (g := (·.seq)) (f0 :: r) f0.seq with h | ⟨f, hf, h⟩
      · exact ⟨f0, by simp, h.symm⟩
      · exact ⟨f, hf, h⟩
    · rcases fmax_at (g := (·.seq)) (f0 :: r) 0 with h | ⟨f, hf, h⟩
      · refine ⟨f0, by simp, ?_⟩
        have := fmax_ge (g := (·.seq)) (f0 :: r) 0 f0 (by simp)
        show f0.seq = (f0 :: r).foldl (fun a f => max a f.seq) 0
        omega
      · exact ⟨f, hf, h⟩
    · rcases fmin_at (g := (·.valid)) (f0 :: r) f0.valid with h | ⟨f, hf, h⟩
      · exact ⟨f0, by simp, h.symm⟩
      · exact ⟨f, hf, h⟩
    · rcases fmax_at (g := (·.valid)) (f0 :: r) 0 with h | ⟨f, hf, h⟩
      · refine ⟨f0, by simp, ?_⟩
        have := fmax_ge (g := (·.valid)) (f0 :: r) 0 f0 (by simp)
        show f0.valid = (f0 :: r).foldl (fun a f => max a f.valid) 0
        omega
      · exact ⟨f, hf, h⟩
/-! a part that the footer tells -/
theorem num4_le4 (n : Nat) (h : n < 4294967296) (a b : List UInt8) : num4 (a ++ (le4 n ++ b)) a.length = n := by
  unfold num4 le4
  simp only [List.getElem?_append_right (Nat.le_refl _), List.getElem?_append_right (Nat.le_add_right _ _), Nat.sub_self, Nat.add_sub_cancel_left, List.cons_append, List.nil_append, List.getElem?_cons_zero, List.getElem?_cons_succ, Option.getD_some, UInt8.toNat_ofNat']
  omega
/-- where the parts begin -/
def partAt (fs : List Fact) : Nat → Nat
  | 0 => (outB fs).length
  | 1 => (outB fs ++ idxB fs).length
  | _ => (outB fs ++ idxB fs ++ filB fs).length
theorem tab_parts (line : Nat) (fs : List Fact) (hl : (tabB line fs).length ≤ 65536) (i : Nat) (hi : i < 3) :
    num4 (tabB line fs) ((tabB line fs).length - 36 + 8 * i) = partAt fs i ∧ num4 (tabB line fs) ((tabB line fs).length - 36 + 8 * i + 4) = (((partsB line fs)[i]?).getD []).length ∧
    ((tabB line fs).drop (partAt fs i)).take (((partsB line fs)[i]?).getD []).length = ((partsB line fs)[i]?).getD [] := by
  have tl := tab_len line fs
  have hb : (bodyB line fs).length = (outB fs).length + (idxB fs).length + (filB fs).length + (tailB2 line fs).length := by unfold bodyB; simp only [List.length_append]
  have e1 : (outB fs ++ idxB fs).length = (outB fs).length + (idxB fs).length := by rw [List.length_append]
  have e2 : (outB fs ++ idxB fs ++ filB fs).length = (outB fs).length + (idxB fs).length + (filB fs).length := by rw [List.length_append, List.length_append]
  have key : ∀ (pre : List UInt8) (n : Nat) (post : List UInt8) (a : Nat), tabB line fs = pre ++ (le4 n ++ post) → a = pre.length → n < 4294967296 → num4 (tabB line fs) a = n := by
    intro pre n post a h ha hn
    rw [h, ha]
    exact num4_le4 n hn pre post
  have m4 : ([84, 66, 76, 49] : List UInt8).length = 4 := rfl
  match i, hi with
  | 0, _ =>
    refine ⟨?_, ?_, ?_⟩
    · refine key (bodyB line fs ++ [84, 66, 76, 49]) _ (le4 (idxB fs).length ++ le4 (outB fs ++ idxB fs).length ++ le4 (filB fs).length ++ le4 (outB fs ++ idxB fs ++ filB fs).length ++ le4 (tailB2 line fs).length ++ le4 (crcMore 0 (filB fs)).toNat ++ le4 (crcMore 0 (tailB2 line fs)).toNat ++ le4 (crcMore 0 (foot0 line fs)).toNat) _ ?_ ?_ (by show (outB fs).length < _; omega)
      · unfold tabB; conv => lhs; rhs; lhs; unfold foot0
        simp only [List.append_assoc, partAt]
      · simp only [List.length_append, m4]; omega
    · refine key (bodyB line fs ++ [84, 66, 76, 49] ++ le4 (outB fs).length) _ (le4 (outB fs ++ idxB fs).length ++ le4 (filB fs).length ++ le4 (outB fs ++ idxB fs ++ filB fs).length ++ le4 (tailB2 line fs).length ++ le4 (crcMore 0 (filB fs)).toNat ++ le4 (crcMore 0 (tailB2 line fs)).toNat ++ le4 (crcMore 0 (foot0 line fs)).toNat) _ ?_ ?_ (by show (idxB fs).length < _; omega)
      · unfold tabB; conv => lhs; rhs; lhs; unfold foot0
        simp only [List.append_assoc, partsB, List.getElem?_cons_zero, Option.getD_some]
      · simp only [List.length_append, m4, le4_len]; omega
    · show ((tabB line fs).drop (outB fs).length).take (idxB fs).length = idxB fs
      unfold tabB bodyB
      simp only [List.append_assoc]
      rw [List.drop_left, List.take_left]
  | 1, _ =>
    refine ⟨?_, ?_, ?_⟩
    · refine key (bodyB line fs ++ [84, 66, 76, 49] ++ le4 (outB fs).length ++ le4 (idxB fs).length) _ (le4 (filB fs).length ++ le4 (outB fs ++ idxB fs ++ filB fs).length ++ le4 (tailB2 line fs).length ++ le4 (crcMore 0 (filB fs)).toNat ++ le4 (crcMore 0 (tailB2 line fs)).toNat ++ le4 (crcMore 0 (foot0 line fs)).toNat) _ ?_ ?_ (by show (outB fs ++ idxB fs).length < _; omega)
      · unfold tabB; conv => lhs; rhs; lhs; unfold foot0
        simp only [List.append_assoc, partAt]
      · simp only [List.length_append, m4, le4_len]; omega
    · refine key (bodyB line fs ++ [84, 66, 76, 49] ++ le4 (outB fs).length ++ le4 (idxB fs).length ++ le4 (outB fs ++ idxB fs).length) _ (le4 (outB fs ++ idxB fs ++ filB fs).length ++ le4 (tailB2 line fs).length ++ le4 (crcMore 0 (filB fs)).toNat ++ le4 (crcMore 0 (tailB2 line fs)).toNat ++ le4 (crcMore 0 (foot0 line fs)).toNat) _ ?_ ?_ (by show (filB fs).length < _; omega)
      · unfold tabB; conv => lhs; rhs; lhs; unfold foot0
        simp only [List.append_assoc, partsB, List.getElem?_cons_zero, List.getElem?_cons_succ, Option.getD_some]
      · simp only [List.length_append, m4, le4_len]; omega
    · show ((tabB line fs).drop (outB fs ++ idxB fs).length).take (filB fs).length = filB fs
      have : tabB line fs = (outB fs ++ idxB fs) ++ (filB fs ++ (tailB2 line fs ++ (foot0 line fs ++ le4 (crcMore 0 (foot0 line fs)).toNat))) := by unfold tabB bodyB; simp only [List.append_assoc]
      rw [this, List.drop_left, List.take_left]
  | 2, _ =>
    refine ⟨?_, ?_, ?_⟩
    · refine key (bodyB line fs ++ [84, 66, 76, 49] ++ le4 (outB fs).length ++ le4 (idxB fs).length ++ le4 (outB fs ++ idxB fs).length ++ le4 (filB fs).length) _ (le4 (tailB2 line fs).length ++ le4 (crcMore 0 (filB fs)).toNat ++ le4 (crcMore 0 (tailB2 line fs)).toNat ++ le4 (crcMore 0 (foot0 line fs)).toNat) _ ?_ ?_ (by show (outB fs ++ idxB fs ++ filB fs).length < _; omega)
      · unfold tabB; conv => lhs; rhs; lhs; unfold foot0
        simp only [List.append_assoc, partAt]
      · simp only [List.length_append, m4, le4_len]; omega
    · refine key (bodyB line fs ++ [84, 66, 76, 49] ++ le4 (outB fs).length ++ le4 (idxB fs).length ++ le4 (outB fs ++ idxB fs).length ++ le4 (filB fs).length ++ le4 (outB fs ++ idxB fs ++ filB fs).length) _ (le4 (crcMore 0 (filB fs)).toNat ++ le4 (crcMore 0 (tailB2 line fs)).toNat ++ le4 (crcMore 0 (foot0 line fs)).toNat) _ ?_ ?_ (by show (tailB2 line fs).length < _; omega)
      · unfold tabB; conv => lhs; rhs; lhs; unfold foot0
        simp only [List.append_assoc, partsB, List.getElem?_cons_zero, List.getElem?_cons_succ, Option.getD_some]
      · simp only [List.length_append, m4, le4_len]; omega
    · show ((tabB line fs).drop (outB fs ++ idxB fs ++ filB fs).length).take (tailB2 line fs).length = tailB2 line fs
      have : tabB line fs = (outB fs ++ idxB fs ++ filB fs) ++ (tailB2 line fs ++ (foot0 line fs ++ le4 (crcMore 0 (foot0 line fs)).toNat)) := by unfold tabB bodyB; simp only [List.append_assoc]
      rw [this, List.drop_left, List.take_left]
/-- its filter has each key -/
theorem fil_has {fs : List Fact} : ∀ f ∈ fs, hasF (filB fs) f.key.data.toList = true := by
  intro f hf
  unfold filB
  exact of_has _ _ (mem_compact _ (List.mem_map.2 ⟨f, hf, rfl⟩))
end Go.Proofs.Herb
