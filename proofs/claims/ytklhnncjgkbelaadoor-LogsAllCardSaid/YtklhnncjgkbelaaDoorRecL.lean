/- What stands behind a log's records: plain lemmas on getOne and recsOf at bytes that are put behind others. No condition. -/
import Derived.Test.YtklhnncjgkbelaaDoorRecP
namespace Go.Proofs.Herb
theorem zeros_append (l k : List UInt8) : zeros (l ++ k) = (zeros l && zeros k) := by simp [zeros, List.all_append]
theorem getF_mono (c : List UInt8) : ∀ (f f' : Nat) (b : List UInt8) (at_ : Nat) (begun : Bool) (rec : List UInt8), f ≤ f' → (getF f b at_ begun rec).2.2 = 0 → getF f' (b ++ c) at_ begun rec = getF f b at_ begun rec
  | 0, _, _, _, _, _, _, h => by simp [getF] at h
  | f + 1, 0, _, _, _, _, hf, _ => by omega
  | f + 1, f' + 1, b, at_, begun, rec, hf, h => by
    rw [getF] at h
    rw [getF, getF]
    dsimp only at h ⊢
    by_cases c1 : zeros ((b.drop at_).take (gapN at_)) = false
    · rw [if_pos c1] at h; cases h
    rw [if_neg c1] at h
    by_cases c2 : b.length < at_ + gapN at_ + 7
    · rw [if_pos c2] at h; cases h
    rw [if_neg c2] at h
    have hl : (b ++ c).length = b.length + c.length := List.length_append
    have e1 : ((b ++ c).drop at_).take (gapN at_) = (b.drop at_).take (gapN at_) := by
      rw [List.drop_append_of_le_length (by omega), List.take_append_of_le_length (by rw [List.length_drop]; omega)]
    have e2 : ((b ++ c).drop (at_ + gapN at_)).take 7 = (b.drop (at_ + gapN at_)).take 7 := by
      rw [List.drop_append_of_le_length (by omega), List.take_append_of_le_length (by rw [List.length_drop]; omega)]
    rw [e1, e2]
    generalize (((b.drop (at_ + gapN at_)).take 7).getD 4 0).toNat + 256 * (((b.drop (at_ + gapN at_)).take 7).getD 5 0).toNat = N at h ⊢
    by_cases c3 : fitsB (((b.drop (at_ + gapN at_)).take 7).getD 6 0).toNat begun N (roomN at_) rec.length = false
    · rw [if_pos c3] at h; cases h
    rw [if_neg c3] at h
    by_cases c4 : b.length < at_ + gapN at_ + 7 + N
    · rw [if_pos c4] at h; cases h
    rw [if_neg c4] at h
    have e3 : ((b ++ c).drop (at_ + gapN at_ + 7)).take N = (b.drop (at_ + gapN at_ + 7)).take N := by
      rw [List.drop_append_of_le_length (by omega), List.take_append_of_le_length (by rw [List.length_drop]; omega)]
    rw [e3, if_neg c1, if_neg (by omega), if_neg c3, if_neg (by omega), if_neg c1, if_neg c2, if_neg c3, if_neg c4]
    by_cases c5 : (b.drop (at_ + gapN at_)).take 7 ≠ headList (((b.drop (at_ + gapN at_)).take 7).getD 6 0) ((b.drop (at_ + gapN at_ + 7)).take N)
    · rw [if_pos c5] at h; cases h
    rw [if_neg c5] at h
    rw [if_neg c5, if_neg c5]
    by_cases c6 : ((b.drop (at_ + gapN at_)).take 7).getD 6 0 = 2 ∨ ((b.drop (at_ + gapN at_)).take 7).getD 6 0 = 3
    · rw [if_pos c6] at h
      rw [if_pos c6, if_pos c6]
      exact getF_mono c f f' b _ _ _ (by omega) h
    · rw [if_neg c6, if_neg c6]
theorem getOne_append {b : List UInt8} {at_ : Nat} (c : List UInt8) (h : (getOne b at_).2.2 = 0) : getOne (b ++ c) at_ = getOne b at_ := by
  have hle := (getOne_ok h).1
  unfold getOne at h ⊢
  rw [if_neg (by omega)] at h
  by_cases hz : zeros (b.drop at_) = true
  · rw [if_pos hz] at h; cases h
  · rw [if_neg hz] at h
    have hl : (b ++ c).length = b.length + c.length := List.length_append
    rw [if_neg (by omega), if_neg (by rw [List.drop_append_of_le_length hle, zeros_append]; simp at hz; simp [hz]), if_neg (by omega), if_neg hz]
    exact getF_mono c _ _ _ _ _ _ (by omega) h
/-- where records end that begin at a place -/
def endAt (at_ : Nat) (l : List (List UInt8 × Nat)) : Nat := (l.getLast?.map (·.2)).getD at_
theorem endAt_cons (at_ : Nat) (x : List UInt8 × Nat) (l : List (List UInt8 × Nat)) : endAt at_ (x :: l) = endAt x.2 l := by
  cases l with
  | nil => rfl
  | cons y l => simp [endAt, List.getLast?_cons]
theorem endAt_zero (l : List (List UInt8 × Nat)) : endAt 0 l = endOf l := rfl
theorem recsF_append (b c : List UInt8) : ∀ (k f f' at_ : Nat), f ≤ k → b.length < f + at_ → (b ++ c).length < f' + at_ →
    ∃ g, recsF f' (b ++ c) at_ = recsF f b at_ ++ recsF g (b ++ c) (endAt at_ (recsF f b at_)) ∧ (b ++ c).length < g + endAt at_ (recsF f b at_) := by
  intro k
  induction k with
  | zero => 
    intro f f' at_ hk h1 h2
    obtain rfl : f = 0 := by omega
    exact ⟨f', rfl, h2⟩
  | succ k ih =>
    intro f f' at_ hk h1 h2
    by_cases h0 : (getOne b at_).2.2 = 0
    · have hb := recsF_next h1 h0
      have hbc := recsF_next (b := b ++ c) h2 (by rw [getOne_append c h0]; exact h0)
      rw [getOne_append c h0] at hbc
      obtain ⟨g, hg1, hg2⟩ := ih (f - 1) (f' - 1) (getOne b at_).2.1 (by omega) hb.2 hbc.2
      refine ⟨g, ?_, ?_⟩
      · rw [hb.1, hbc.1, hg1, endAt_cons]; rfl
      · rw [hb.1, endAt_cons]; exact hg2
    · rw [recsF_end h0]
      exact ⟨f', rfl, h2⟩
theorem recsF_len : ∀ (f : Nat) (b : List UInt8) (at_ : Nat) (x : List UInt8 × Nat), x ∈ recsF f b at_ → x.1.length ≤ b.length
  | 0, b, at_, x, h => by simp [recsF] at h
  | f + 1, b, at_, x, h => by
    rw [recsF] at h
    split at h
    · rename_i h0
      have ho := getOne_ok h0
      rcases List.mem_cons.1 h with rfl | h
      · show (getOne b at_).1.length ≤ _; omega
      · exact recsF_len f b _ x h
    · cases h
theorem recsOf_len (b : List UInt8) : ∀ l ∈ (recsOf b).map (·.1), l.length ≤ b.length := by
  intro l hl
  obtain ⟨x, hx, rfl⟩ := List.mem_map.1 hl
  exact recsF_len _ _ _ x hx
/-- records that are there stay there -/
theorem recsOf_prefix (b c : List UInt8) : ∃ rest, recsOf (b ++ c) = recsOf b ++ rest := by
  obtain ⟨g, h, _⟩ := recsF_append b c (b.length + 1) (b.length + 1) ((b ++ c).length + 1) 0 (Nat.le_refl _) (by omega) (by omega)
  exact ⟨_, h⟩
/-! a record's bytes behind others -/
theorem gapN_mod {p q : Nat} (h : p % 256 = q % 256) : gapN p = gapN q := by unfold gapN; rw [h]
theorem roomN_mod {p q : Nat} (h : p % 256 = q % 256) : roomN p = roomN q := by
  unfold roomN; rw [gapN_mod h]; congr 2; omega
theorem headList_length (k : UInt8) (x : List UInt8) : (headList k x).length = 7 := by simp [headList, tailOf]
theorem one_part (f at_ : Nat) (begun : Bool) (acc pre rest x : List UInt8) (k : UInt8) (hp : pre.length = at_) (hx : x.length ≤ 65535) (hf : fitsB k.toNat begun x.length (roomN at_) acc.length = true) :
    getF (f + 1) (pre ++ (List.replicate (gapN at_) 0 ++ (headList k x ++ (x ++ rest)))) at_ begun acc =
      if k = 2 ∨ k = 3 then getF f (pre ++ (List.replicate (gapN at_) 0 ++ (headList k x ++ (x ++ rest)))) (at_ + gapN at_ + 7 + x.length) true (acc ++ x) else (acc ++ x, at_ + gapN at_ + 7 + x.length, 0) := by
  obtain ⟨B, hB⟩ : ∃ B, B = pre ++ (List.replicate (gapN at_) 0 ++ (headList k x ++ (x ++ rest))) := ⟨_, rfl⟩
  have d0 : B.drop at_ = List.replicate (gapN at_) 0 ++ (headList k x ++ (x ++ rest)) := by rw [hB, ← hp]; exact List.drop_left
  have d1 : B.drop (at_ + gapN at_) = headList k x ++ (x ++ rest) := by
    rw [← List.drop_drop, d0]; exact List.drop_left' (by simp)
  have d2 : B.drop (at_ + gapN at_ + 7) = x ++ rest := by
    rw [← List.drop_drop, d1]; exact List.drop_left' (headList_length k x)
  have hlen : B.length = at_ + gapN at_ + 7 + x.length + rest.length := by
    rw [hB]; simp only [List.length_append, List.length_replicate, headList_length]; omega
  have t0 : (B.drop at_).take (gapN at_) = List.replicate (gapN at_) 0 := by rw [d0]; exact List.take_left' (by simp)
  have t1 : (B.drop (at_ + gapN at_)).take 7 = headList k x := by rw [d1]; exact List.take_left' (headList_length k x)
  have z0 : ¬ zeros (List.replicate (gapN at_) (0 : UInt8)) = false := by simp [zeros]
  have n4 : (headList k x).getD 4 0 = UInt8.ofNat x.length := rfl
  have n5 : (headList k x).getD 5 0 = UInt8.ofNat (x.length / 256) := rfl
  have n6 : (headList k x).getD 6 0 = k := rfl
  have hn : (UInt8.ofNat x.length).toNat + 256 * (UInt8.ofNat (x.length / 256)).toNat = x.length := by
    rw [UInt8.toNat_ofNat', UInt8.toNat_ofNat']; omega
  have t2 : (B.drop (at_ + gapN at_ + 7)).take x.length = x := by rw [d2]; exact List.take_left
  rw [← hB, getF]
  dsimp only
  rw [t0, t1, n4, n5, n6, hn, t2, if_neg z0, if_neg (by omega), if_neg (by rw [hf]; simp), if_neg (by omega), if_neg (by simp)]
theorem getF_put : ∀ (g p at_ : Nat) (begun : Bool) (rem acc pre : List UInt8) (f : Nat), p % 256 = at_ % 256 → pre.length = at_ → putFuel p begun rem g → (begun = true → 0 < rem.length) → acc.length + rem.length ≤ 65536 → rem.length + (if begun = true then 1 else 2) ≤ f →
    getF f (pre ++ putRec g p begun rem) at_ begun acc = (acc ++ rem, at_ + (putRec g p begun rem).length, 0)
  | 0, p, at_, begun, rem, acc, pre, f, hm, hp, hfu, hb, hs, hf => by have := hfu.2; cases begun <;> simp at this
  | g + 1, p, at_, begun, rem, acc, pre, f, hm, hp, hfu, hb, hs, hf => by
    obtain ⟨f, rfl⟩ : ∃ f0, f = f0 + 1 := ⟨f - 1, by cases begun <;> simp at hf <;> omega⟩
    have hr := roomN_le at_
    by_cases hl : rem.length ≤ roomN p
    · have hl' : rem.length ≤ roomN at_ := by rw [← roomN_mod hm]; exact hl
      have e : putRec (g + 1) p begun rem = List.replicate (gapN at_) 0 ++ (headList (kd begun true) rem ++ (rem ++ [])) := by
        rw [putRec_last hfu hl, gapN_mod hm]; simp [partB]
      rw [e, one_part f at_ begun acc pre [] rem (kd begun true) hp (by omega) (by
        cases begun
        · simp [kd, fitsB, hl']
        · have := hb rfl
          simp [kd, fitsB, hl']; omega)]
      rw [if_neg (by cases begun <;> simp [kd])]
      simp only [List.length_append, List.length_replicate, headList_length, List.length_nil]
      congr 2; omega
    · have hl' : ¬ rem.length ≤ roomN at_ := by rw [← roomN_mod hm]; exact hl
      obtain ⟨R, hR⟩ : ∃ R, R = roomN at_ := ⟨_, rfl⟩
      rw [← hR] at hl' hr
      have hRp : roomN p = R := by rw [roomN_mod hm, hR]
      have hxl : (rem.take R).length = R := by rw [List.length_take]; omega
      obtain ⟨g', hg', hfu'⟩ := putFuel_next hfu hl
      obtain rfl : g = g' := by omega
      rw [hRp] at hfu'
      have e : putRec (g + 1) p begun rem = List.replicate (gapN at_) 0 ++ (headList (kd begun false) (rem.take R) ++ (rem.take R ++ putRec g (p + gapN p + 7 + R) true (rem.drop R))) := by
        rw [putRec_more hl, hRp, gapN_mod hm]; simp [partB]
      have hroom : gapN at_ + 7 + R = 256 - at_ % 256 + (if gapN at_ = 0 then 0 else 256) := by
        rw [hR]; unfold roomN gapN; split <;> split <;> omega
      rw [e, one_part f at_ begun acc pre _ (rem.take R) (kd begun false) hp (by omega) (by
        rw [hxl, ← hR]
        cases begun
        · simp [kd, fitsB]
        · simp [kd, fitsB]; omega)]
      rw [if_pos (by cases begun <;> simp [kd]), hxl]
      have hpre : pre ++ (List.replicate (gapN at_) 0 ++ (headList (kd begun false) (rem.take R) ++ (rem.take R ++ putRec g (p + gapN p + 7 + R) true (rem.drop R)))) = (pre ++ (List.replicate (gapN at_) 0 ++ (headList (kd begun false) (rem.take R) ++ rem.take R))) ++ putRec g (p + gapN p + 7 + R) true (rem.drop R) := by simp
      have hdl : (rem.drop R).length = rem.length - R := List.length_drop
      rw [hpre, getF_put g (p + gapN p + 7 + R) (at_ + gapN at_ + 7 + R) true (rem.drop R) (acc ++ rem.take R) _ f (by rw [gapN_mod hm]; omega)
        (by simp only [List.length_append, List.length_replicate, headList_length, hxl]; omega) hfu' (fun _ => by omega) (by rw [List.length_append, hxl]; omega) (by
          cases begun with
          | false => simp at hf ⊢; omega
          | true =>
            have h0 := hfu.1 rfl
            have hR0 : 0 < R := by rw [hR]; unfold roomN gapN; split <;> omega
            simp at hf ⊢; omega)]
      simp only [List.append_assoc, List.take_append_drop, List.length_append, List.length_replicate, headList_length, hxl]
      congr 2; omega
theorem zeros_part (k : UInt8) (hk : k ≠ 0) (x : List UInt8) (g : Nat) (rest : List UInt8) : zeros (List.replicate g 0 ++ partB k x ++ rest) = false := by
  have h : zeros (tailOf k x) = false := by simp [zeros, tailOf, hk]
  simp only [zeros_append, partB, headList, h, Bool.false_and, Bool.and_false]
theorem recP_not_zeros (n : Nat) (l : List UInt8) : zeros (recP n l) = false := by
  unfold recP
  rw [show l.length + 2 = (l.length + 1) + 1 from rfl, putRec]
  split
  · have := zeros_part 1 (by decide) l (gapN (n % 256)) []
    simpa using this
  · exact zeros_part 2 (by decide) _ _ _
theorem putRec_ge : ∀ (f p : Nat) (begun : Bool) (rem : List UInt8), putFuel p begun rem f → rem.length + 7 ≤ (putRec f p begun rem).length
  | 0, p, begun, rem, h => by have := h.2; cases begun <;> simp at this
  | f + 1, p, begun, rem, h => by
    by_cases hl : rem.length ≤ roomN p
    · rw [putRec_last h hl, List.length_append, partB_length]; omega
    · obtain ⟨f', hf', hfu⟩ := putFuel_next h hl
      obtain rfl : f = f' := by omega
      have ih := putRec_ge f _ _ _ hfu
      rw [List.length_drop] at ih
      rw [putRec_more hl, List.length_append, List.length_append, partB_length, List.length_take]; omega
theorem recP_ge (n : Nat) (l : List UInt8) : l.length + 7 ≤ (recP n l).length := putRec_ge _ _ _ _ ⟨by simp, by simp⟩
/-- a record that stands behind all bytes -/
theorem getOne_recP (b l : List UInt8) (hl : l.length ≤ 65536) : getOne (b ++ recP b.length l) b.length = (l, (b ++ recP b.length l).length, 0) := by
  have hz := recP_not_zeros b.length l
  have hn : 0 < (recP b.length l).length := by
    rcases Nat.eq_zero_or_pos (recP b.length l).length with h | h
    · rw [List.eq_nil_of_length_eq_zero h] at hz; cases hz
    · exact h
  unfold getOne
  rw [if_neg (by simp), if_neg (by rw [List.drop_left]; rw [hz]; simp)]
  have hlen : l.length + 2 ≤ (b ++ recP b.length l).length + 1 := by
    have := recP_ge b.length l; rw [List.length_append]; omega
  have h := getF_put (l.length + 2) (b.length % 256) b.length false l [] b ((b ++ recP b.length l).length + 1) (by omega) rfl ⟨by simp, by simp⟩ (by simp) (by simpa using hl) (by simpa using hlen)
  unfold recP at h ⊢
  rw [h, List.length_append]; rfl
theorem getOne_end (b : List UInt8) : (getOne b b.length).2.2 ≠ 0 := by
  unfold getOne
  rw [if_neg (by omega), List.drop_length, if_pos (show zeros [] = true from rfl)]; simp
/-- what is added behind a log that is whole is its last record -/
theorem recsOf_add (b l : List UInt8) (hl : l.length ≤ 65536) (hw : endOf (recsOf b) = b.length) : recsOf (b ++ recP b.length l) = recsOf b ++ [(l, (b ++ recP b.length l).length)] := by
  obtain ⟨g, h1, h2⟩ := recsF_append b (recP b.length l) (b.length + 1) (b.length + 1) ((b ++ recP b.length l).length + 1) 0 (Nat.le_refl _) (by omega) (by omega)
  have he : endAt 0 (recsF (b.length + 1) b 0) = b.length := by rw [endAt_zero]; exact hw
  rw [he] at h1 h2
  have hg := getOne_recP b l hl
  have hn := recsF_next (b := b ++ recP b.length l) (at_ := b.length) (f := g) h2 (by rw [hg])
  rw [hg] at hn
  have hE := recsF_end (f := g - 1) (getOne_end (b ++ recP b.length l))
  unfold recsOf
  rw [h1, hn.1, hE]
theorem recsOf_add_whole (b l : List UInt8) (hl : l.length ≤ 65536) (hw : endOf (recsOf b) = b.length) : endOf (recsOf (b ++ recP b.length l)) = (b ++ recP b.length l).length := by
  rw [recsOf_add b l hl hw, endOf_snoc]
end Go.Proofs.Herb
