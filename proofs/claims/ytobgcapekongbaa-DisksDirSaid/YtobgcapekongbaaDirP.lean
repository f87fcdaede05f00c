/- Two rising lists compared (unlike), and directories one change apart: plain. No condition. -/
import Derived.Test.YtobgcapekongbaaSurP
import Derived.Sort.Walk0
namespace Go.Proofs.Herb
open Go.RowKit Go.Sort
abbrev Keys := List (List UInt8)
def cntOut (A B : Keys) : Nat := (A.filter fun x => decide (x ∉ B)).length
theorem cntOut_snoc (A B : Keys) (x : List UInt8) : cntOut (A ++ [x]) B = cntOut A B + (if x ∈ B then 0 else 1) := by
  unfold cntOut
  rw [List.filter_append, List.length_append]
  congr 1
  by_cases h : x ∈ B <;> simp [h]
structure Unl (A B : Keys) (i k g c : Nat) : Prop where
  hi : i ≤ A.length
  hk : k ≤ B.length
  hg : g = cntOut (A.take i) B
  hc : c = cntOut (B.take k) A
  ab : ∀ x ∈ A.take i, ∀ y ∈ B.drop k, x < y
  ba : ∀ y ∈ B.take k, ∀ x ∈ A.drop i, y < x
def Rises (A : Keys) : Prop := A.Pairwise (· < ·)
theorem Unl.start (A B : Keys) : Unl A B 0 0 0 0 := ⟨Nat.zero_le _, Nat.zero_le _, by simp [cntOut], by simp [cntOut], by simp, by simp⟩
theorem mem_split {A : Keys} {i : Nat} (hi : i < A.length) {x : List UInt8} : x ∈ A.drop i ↔ x = A[i] ∨ x ∈ A.drop (i + 1) := by
  rw [List.drop_eq_getElem_cons hi, List.mem_cons]
theorem mem_take_succ {A : Keys} {i : Nat} (hi : i < A.length) {x : List UInt8} : x ∈ A.take (i + 1) ↔ x ∈ A.take i ∨ x = A[i] := by
  rw [List.take_succ_eq_append_getElem hi, List.mem_append, List.mem_singleton]
theorem mem_both {A : Keys} (i : Nat) {x : List UInt8} (h : x ∈ A) : x ∈ A.take i ∨ x ∈ A.drop i := by
  rw [← List.mem_append, List.take_append_drop]; exact h
theorem lt_asymm' {x y : List UInt8} (h : x < y) (h' : y < x) : False := List.lt_irrefl _ (List.lt_trans h h')
theorem Rises.rest {A : Keys} (h : Rises A) {i : Nat} (hi : i < A.length) : ∀ x ∈ A.drop (i + 1), A[i] < x := by
  intro x hx
  have h1 : (A.drop i).Pairwise (· < ·) := List.Pairwise.sublist (List.drop_sublist _ _) h
  rw [List.drop_eq_getElem_cons hi, List.pairwise_cons] at h1
  exact h1.1 x hx
theorem Unl.stepA {A B : Keys} {i k g c : Nat} (h : Unl A B i k g c) (_hA : Rises A) (hB : Rises B) (hi : i < A.length) (hk : k = B.length ∨ ∃ hk : k < B.length, A[i] < B[k]) : Unl A B (i + 1) k (g + 1) c := by
  have hlt : ∀ y ∈ B.drop k, A[i] < y := by
    intro y hy
    rcases hk with rfl | ⟨hk, hlt⟩
    · simp at hy
    · rcases (mem_split hk).1 hy with rfl | hy
      · exact hlt
      · exact List.lt_trans hlt (hB.rest hk y hy)
  have hnot : A[i] ∉ B := by
    intro hm
    rcases mem_both k hm with h1 | h1
    · exact List.lt_irrefl _ (h.ba _ h1 _ ((mem_split hi).2 (.inl rfl)))
    · exact List.lt_irrefl _ (hlt _ h1)
  refine ⟨hi, h.hk, ?_, h.hc, ?_, ?_⟩
  · rw [List.take_succ_eq_append_getElem hi, cntOut_snoc, if_neg hnot, h.hg]
  · intro x hx y hy
    rcases (mem_take_succ hi).1 hx with hx | rfl
    · exact h.ab x hx y hy
    · exact hlt y hy
  · intro y hy x hx
    exact h.ba y hy x ((mem_split hi).2 (.inr hx))
theorem Unl.swap {A B : Keys} {i k g c : Nat} (h : Unl A B i k g c) : Unl B A k i c g := ⟨h.hk, h.hi, h.hc, h.hg, h.ba, h.ab⟩
theorem Unl.stepB {A B : Keys} {i k g c : Nat} (h : Unl A B i k g c) (hA : Rises A) (hB : Rises B) (hk : k < B.length) (hi : i = A.length ∨ ∃ hi : i < A.length, B[k] < A[i]) : Unl A B i (k + 1) g (c + 1) :=
  (h.swap.stepA hB hA hk hi).swap
theorem Unl.stepE {A B : Keys} {i k g c : Nat} (h : Unl A B i k g c) (hA : Rises A) (hB : Rises B) (hi : i < A.length) (hk : k < B.length) (h1 : ¬ A[i] < B[k]) (h2 : ¬ B[k] < A[i]) : Unl A B (i + 1) (k + 1) g c := by
  have heq : A[i] = B[k] := List.le_antisymm (List.not_lt.1 h2) (List.not_lt.1 h1)
  refine ⟨hi, hk, ?_, ?_, ?_, ?_⟩
  · rw [List.take_succ_eq_append_getElem hi, cntOut_snoc, if_pos (by rw [heq]; exact List.getElem_mem _), h.hg]; rfl
  · rw [List.take_succ_eq_append_getElem hk, cntOut_snoc, if_pos (by rw [← heq]; exact List.getElem_mem _), h.hc]; rfl
  · intro x hx y hy
    rcases (mem_take_succ hi).1 hx with hx | rfl
    · exact h.ab x hx y ((mem_split hk).2 (.inr hy))
    · rw [heq]; exact hB.rest hk y hy
  · intro y hy x hx
    rcases (mem_take_succ hk).1 hy with hy | rfl
    · exact h.ba y hy x ((mem_split hi).2 (.inr hx))
    · rw [← heq]; exact hA.rest hi x hx
theorem Unl.fin {A B : Keys} {g c : Nat} (h : Unl A B A.length B.length g c) : g = cntOut A B ∧ c = cntOut B A := by
  have h1 := h.hg
  have h2 := h.hc
  rw [List.take_length] at h1 h2
  exact ⟨h1, h2⟩
/-! directories' names rise -/
theorem sortedK_rises {d : Dir} (h : (d.map (·.1)).Nodup) : Rises (sortedK d) := by
  have tr : ∀ a b c : List UInt8, leB a b = true → leB b c = true → leB a c = true := fun a b c h1 h2 => by simp only [leB, decide_eq_true_eq] at *; exact List.le_trans h1 h2
  have tot : ∀ a b : List UInt8, (leB a b || leB b a) = true := fun a b => by simp only [leB, Bool.or_eq_true, decide_eq_true_eq]; exact List.le_total a b
  have h1 : (sortedK d).Pairwise (fun a b => leB a b = true) := List.pairwise_mergeSort tr tot _
  have h2 : (sortedK d).Nodup := by
    have e := sortedK_perm d
    refine e.nodup_iff.2 ?_
    have := nodup_keyL h
    rw [List.map_map] at this
    exact this
  rw [List.nodup_iff_pairwise_ne] at h2
  unfold Rises
  refine List.Pairwise.imp₂ ?_ h1 h2
  intro a b hab hne
  simp only [leB, decide_eq_true_eq] at hab
  by_cases h : a < b
  · exact h
  · exact absurd (List.le_antisymm hab (List.not_lt.1 h)) hne
theorem cntOut_one {A B : Keys} (hA : A.Nodup) {q : List UInt8} (h : ∀ x ∈ A, x ∉ B → x = q) : cntOut A B ≤ 1 := by
  unfold cntOut
  have hn : (A.filter fun x => decide (x ∉ B)).Nodup := List.filter_sublist.nodup hA
  have hq : ∀ x ∈ A.filter fun x => decide (x ∉ B), x = q := fun x hx => by
    rw [List.mem_filter] at hx
    exact h x hx.1 (by simpa using hx.2)
  match hl : A.filter fun x => decide (x ∉ B) with
  | [] => simp
  | [x] => simp
  | x :: y :: t =>
    exfalso
    rw [hl] at hn hq
    have h1 := hq x (by simp)
    have h2 := hq y (by simp)
    simp [h1, h2] at hn
theorem cntOut_zero {A B : Keys} (h : cntOut A B = 0) : ∀ x ∈ A, x ∈ B := by
  unfold cntOut at h
  rw [List.length_eq_zero_iff, List.filter_eq_nil_iff] at h
  intro x hx
  have := h x hx
  simpa using this
theorem cntOut_len {A B : Keys} (hA : A.Nodup) (hB : B.Nodup) (h1 : cntOut A B = 0) (h2 : cntOut B A = 0) : A.length = B.length :=
  ((List.perm_ext_iff_of_nodup hA hB).2 fun x => ⟨cntOut_zero h1 x, cntOut_zero h2 x⟩).length_eq
/-! a change takes one name away, or gives one, or both -/
def ChOk (s : DS) : Prop := ∀ x ∈ s.changes, x.file < 0 → x.gone = ⟨#[]⟩
theorem ChOk.act {s : DS} (h : ChOk s) (v : ActV) : ChOk (actS s v) := by
  have hl : ∀ s : DS, (letsS s).changes = s.changes := fun s => (lets_files s).2.2.2.2.2.1
  have hL : ChOk (letsS s) := by unfold ChOk; rw [hl]; exact h
  have ht : ∀ (t : DS) (x : DC), t.changes = s.changes → (x.file < 0 → x.gone = ⟨#[]⟩) → ChOk (turnS t x) := by
    intro t x ht hx y hy
    simp only [turnS, List.mem_append, List.mem_singleton] at hy
    rcases hy with hy | rfl
    · rw [ht] at hy; exact h y hy
    · exact hx
  unfold actS
  split
  · unfold createS
    split
    · exact h
    · split
      · exact hL
      · exact ht _ _ (hl s) (fun h => by dsimp only at h; omega)
  · unfold appendS
    split
    · exact h
    · split
      · exact hL
      · exact hL
  · unfold syncS
    split
    · exact h
    · split
      · exact hL
      · exact hL
  · unfold renameS
    split
    · exact h
    · split
      · exact hL
      · split
        · exact hL
        · exact ht _ _ (hl s) (fun h => by dsimp only at h; omega)
  · unfold removeS
    split
    · exact h
    · split
      · exact hL
      · exact ht _ _ (hl s) (fun _ => rfl)
  · unfold syncDirT
    split
    · exact h
    · split
      · exact hL
      · intro x hx; cases hx
  · exact h
theorem ChOk.play {s : DS} (h : ChOk s) (l : List ActV) : ChOk (playS s l) := by
  induction l generalizing s with
  | nil => exact h
  | cons v l ih => exact ih (h.act v)
theorem mem_sortedK' {d : Dir} {x : List UInt8} : x ∈ sortedK d ↔ (look d (ofL x)).isSome = true := by
  rw [← mem_sortedK, List.mem_map]
  constructor
  · intro h; exact ⟨x, h, rfl⟩
  · rintro ⟨y, hy, he⟩
    have : y = x := by rw [← keyL_ofL y, ← keyL_ofL x, he]
    rw [← this]; exact hy
theorem sortedK_nodup {d : Dir} (h : (d.map (·.1)).Nodup) : (sortedK d).Nodup := by
  refine (sortedK_perm d).nodup_iff.2 ?_
  have := nodup_keyL h
  rw [List.map_map] at this
  exact this
theorem turn_apart {d : Dir} {c F n : Nat} (h : DirGood d c F n) {x : DC} (hx : x.file < 0 → x.gone = ⟨#[]⟩) (h2 : ((turnDir d c x).map (·.1)).Nodup) :
    cntOut (sortedK d) (sortedK (turnDir d c x)) ≤ 1 ∧ cntOut (sortedK (turnDir d c x)) (sortedK d) ≤ 1 := by
  constructor
  · by_cases hf : x.file < 0
    · refine cntOut_one (sortedK_nodup h.keys) (q := keyL x.name) fun y hy hny => ?_
      rw [mem_sortedK'] at hy hny
      rw [look_turnDir h] at hny
      by_cases hq : ofL y = x.name
      · rw [← hq, keyL_ofL]
      · rw [if_neg hq] at hny
        by_cases hg : ofL y = x.gone
        · rw [hx hf] at hg
          obtain ⟨v, hv⟩ := Option.isSome_iff_exists.1 hy
          obtain ⟨e, he, hk, _⟩ := look_mem' hv
          exact absurd (hk.trans hg) (may_ne (h.may e he))
        · rw [if_neg hg] at hny
          exact absurd hy hny
    · refine cntOut_one (sortedK_nodup h.keys) (q := keyL x.gone) fun y hy hny => ?_
      rw [mem_sortedK'] at hy hny
      rw [look_turnDir h] at hny
      by_cases hq : ofL y = x.name
      · rw [if_pos hq, if_neg hf] at hny
        exact absurd rfl hny
      · rw [if_neg hq] at hny
        by_cases hg : ofL y = x.gone
        · rw [← hg, keyL_ofL]
        · rw [if_neg hg] at hny
          exact absurd hy hny
  · refine cntOut_one (sortedK_nodup h2) (q := keyL x.name) fun y hy hny => ?_
    rw [mem_sortedK'] at hy hny
    rw [look_turnDir h] at hy
    by_cases hq : ofL y = x.name
    · rw [← hq, keyL_ofL]
    · rw [if_neg hq] at hy
      by_cases hg : ofL y = x.gone
      · rw [if_pos hg] at hy; cases hy
      · rw [if_neg hg] at hy
        exact absurd hy hny
theorem crash_step {s : DS} {n : Nat} (h : DsOk s n) (hc : ChOk s) {j : Nat} (hj : j < s.changes.length) (fl fl' : List Int) :
    cntOut (sortedK (crashS s (j : Int) fl).names) (sortedK (crashS s ((j + 1 : Nat) : Int) fl').names) ≤ 1 ∧ cntOut (sortedK (crashS s ((j + 1 : Nat) : Int) fl').names) (sortedK (crashS s (j : Int) fl).names) ≤ 1 := by
  rw [crash_sorted h, crash_sorted h]
  have e1 : crashJ s (j : Int) = j := by unfold crashJ withinI; omega
  have e2 : crashJ s ((j + 1 : Nat) : Int) = j + 1 := by unfold crashJ withinI; omega
  have d1 : crashD s (j : Int) = (dirAt s j).1 := by unfold crashD; rw [e1]
  have hx : s.changes[j]? = some s.changes[j] := List.getElem?_eq_getElem hj
  have d2 : crashD s ((j + 1 : Nat) : Int) = turnDir (dirAt s j).1 (dirAt s j).2 s.changes[j] := by
    unfold crashD; rw [e2]
    have e3 : dirAt s (j + 1) = (turnDir (dirAt s j).1 (dirAt s j).2 s.changes[j], turnClk (dirAt s j).1 (dirAt s j).2 s.changes[j]) := by rw [dirAt, hx]
    rw [e3]
  have hg := h.dirs j (Nat.le_of_lt hj)
  have hg2 := h.crashGood ((j + 1 : Nat) : Int)
  rw [d1, d2]
  rw [d2] at hg2
  exact turn_apart hg (hc _ (List.getElem_mem _)) hg2.keys
end Go.Proofs.Herb
