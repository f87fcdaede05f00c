
/- Plain: changes put in their place by their times, the latest ahead: what the reference's brought gathers. -/
import Derived.Test.YtnkkfdlmcpnokaaUrh
namespace Go.Proofs.Herb
open Go.RowKit
def insC (c : Chg) : List Chg → List Chg
  | [] => [c]
  | x :: l => if c.valid < x.valid then x :: insC c l else if x.valid = c.valid then x :: l else c :: x :: l
theorem insC_ahead {c : Chg} : ∀ {X : List Chg}, (∀ x ∈ X, x.valid < c.valid) → insC c X = c :: X
  | [], _ => rfl
  | x :: X, h => by
    have h1 := h x (by simp)
    unfold insC
    rw [if_neg (by omega), if_neg (by omega)]
/-- what stands for a time: nothing, or one change of that time -/
def GoodG (g : Nat → List Chg) : Prop := ∀ v, g v = [] ∨ ∃ c, g v = [c] ∧ c.valid = v
theorem flat_valid {g : Nat → List Chg} (hg : GoodG g) {L : List Nat} {x : Chg} (hx : x ∈ L.flatMap g) : x.valid ∈ L := by
  rw [List.mem_flatMap] at hx
  obtain ⟨v, hv, hx⟩ := hx
  rcases hg v with h | ⟨c, h, hc⟩
  · rw [h] at hx; cases hx
  · rw [h] at hx
    obtain rfl := List.mem_singleton.1 hx
    rw [hc]; exact hv
theorem flat_ins {g : Nat → List Chg} (hg : GoodG g) {v : Nat} {c : Chg} (hv : g v = [c]) (hc : c.valid = v) : ∀ {L : List Nat}, StrictD L → (insD v L).flatMap g = insC c (L.flatMap g)
  | [], _ => by simp [insD, hv, insC]
  | u :: L, hs => by
    have hs1 := List.pairwise_cons.1 hs
    have ih := flat_ins hg hv hc hs1.2
    unfold insD
    by_cases h1 : v < u
    · rw [if_pos h1, List.flatMap_cons, List.flatMap_cons, ih]
      rcases hg u with h | ⟨d, h, hd⟩
      · rw [h]; rfl
      · rw [h]
        show d :: insC c _ = insC c (d :: _)
        conv => rhs; unfold insC
        rw [if_pos (by omega)]
        rfl
    · rw [if_neg h1]
      by_cases h2 : u = v
      · rw [if_pos h2]
        subst h2
        rw [List.flatMap_cons, hv]
        show c :: _ = insC c (c :: _)
        unfold insC
        rw [if_neg (by omega), if_pos rfl]
      · rw [if_neg h2, List.flatMap_cons, hv]
        symm
        refine insC_ahead fun x hx => ?_
        have h3 := flat_valid hg hx
        rcases List.mem_cons.1 h3 with h4 | h4
        · omega
        · have := hs1.1 _ h4; omega
theorem flat_none {g : Nat → List Chg} {v : Nat} (hv : g v = []) : ∀ L : List Nat, (insD v L).flatMap g = L.flatMap g
  | [] => by simp [insD, hv]
  | u :: L => by
    unfold insD
    split
    · rw [List.flatMap_cons, List.flatMap_cons, flat_none hv L]
    · split
      · rfl
      · rw [List.flatMap_cons, hv]; rfl
theorem chg1_good (a b : List Fact) (k : ByteArray) : GoodG (chg1 a b k) := fun v => by
  unfold chg1
  split
  · exact .inl rfl
  · split
    · exact .inr ⟨_, rfl, rfl⟩
    · exact .inl rfl
def noC : Chg := ⟨⟨#[]⟩, 0, 0, ⟨#[]⟩⟩
def cD (K : List Chg) (t : Nat) : Chg := K.getD t noC
theorem cD_get {K : List Chg} {t : Nat} (h : t < K.length) : cD K t = K[t] := by simp [cD, h]
theorem insC_at (c : Chg) : ∀ (out : List Chg) (k : Nat), k ≤ out.length → (∀ t, t < k → c.valid < (cD out t).valid) → (k = out.length ∨ ¬ c.valid < (cD out k).valid) →
    insC c out = if k < out.length ∧ (cD out k).valid = c.valid then out else out.take k ++ c :: out.drop k
  | [], k, hk, _, _ => by
    obtain rfl : k = 0 := by simpa using hk
    simp [insC]
  | x :: out, 0, _, _, h2 => by
    have h3 : ¬ c.valid < x.valid := by
      rcases h2 with h2 | h2
      · simp at h2
      · exact h2
    unfold insC
    rw [if_neg h3]
    by_cases e : x.valid = c.valid
    · rw [if_pos e, if_pos ⟨by simp, e⟩]
    · rw [if_neg e, if_neg (fun h => e h.2)]; rfl
  | x :: out, k + 1, hk, h1, h2 => by
    have h3 : c.valid < x.valid := h1 0 (by omega)
    have ih := insC_at c out k (by simpa using hk) (fun t ht => h1 (t + 1) (by omega)) (by
      rcases h2 with h2 | h2
      · exact .inl (by simpa using h2)
      · exact .inr h2)
    unfold insC
    rw [if_pos h3, ih]
    have e : (k + 1 < (x :: out).length ∧ (cD (x :: out) (k + 1)).valid = c.valid) ↔ (k < out.length ∧ (cD out k).valid = c.valid) := by simp [cD]
    by_cases h : k < out.length ∧ (cD out k).valid = c.valid
    · rw [if_pos h, if_pos (e.2 h)]
    · rw [if_neg h, if_neg (fun h' => h (e.1 h'))]; rfl
/-- the changes of a beginning of the list -/
def brP (a b : List Fact) (k : ByteArray) (j : Nat) : List Chg := (dnD (timesF (b.take j) k)).flatMap (chg1 a b k)
theorem brP_all (a b : List Fact) (k : ByteArray) : brP a b k b.length = brS a b k := by unfold brP brS; rw [List.take_length]
theorem timesF_take {b : List Fact} {k : ByteArray} {j : Nat} (hj : j < b.length) : timesF (b.take (j + 1)) k = timesF (b.take j) k ++ if b[j].key = k then [b[j].valid] else [] := by
  unfold timesF
  rw [List.take_succ_eq_append_getElem hj, List.filter_append, List.map_append]
  congr 1
  by_cases h : b[j].key = k <;> simp [h]
theorem dnD_snoc (l : List Nat) (v : Nat) : dnD (l ++ [v]) = insD v (dnD l) := by unfold dnD; rw [List.foldl_append]; rfl
theorem brP_skip {a b : List Fact} {k : ByteArray} {j : Nat} (hj : j < b.length) (h : b[j].key ≠ k) : brP a b k (j + 1) = brP a b k j := by
  unfold brP; rw [timesF_take hj, if_neg h, List.append_nil]
theorem brP_none {a b : List Fact} {k : ByteArray} {j : Nat} (hj : j < b.length) (h : b[j].key = k) (hc : chg1 a b k b[j].valid = []) : brP a b k (j + 1) = brP a b k j := by
  unfold brP; rw [timesF_take hj, if_pos h, dnD_snoc, flat_none hc]
theorem brP_ins {a b : List Fact} {k : ByteArray} {j : Nat} (hj : j < b.length) (h : b[j].key = k) {c : Chg} (hc : chg1 a b k b[j].valid = [c]) (hv : c.valid = b[j].valid) : brP a b k (j + 1) = insC c (brP a b k j) := by
  unfold brP; rw [timesF_take hj, if_pos h, dnD_snoc, flat_ins (chg1_good a b k) hc hv (dnD_strict _)]
end Go.Proofs.Herb
