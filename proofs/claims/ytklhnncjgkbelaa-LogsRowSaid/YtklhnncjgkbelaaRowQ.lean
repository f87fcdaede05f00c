/- Records behind one another, and what a beginning of their bytes tells: plain lists. No condition. -/
import Derived.Test.YtklhnncjgkbelaaRecL
import Derived.Test.YtklhnncjgkbelaaBase2
namespace Go.Proofs.Herb
/-- records, one behind the other -/
def logB (ls : List (List UInt8)) : List UInt8 := ls.foldl (fun b l => b ++ recP b.length l) []
theorem logB_snoc (ls : List (List UInt8)) (l : List UInt8) : logB (ls ++ [l]) = logB ls ++ recP (logB ls).length l := by simp [logB]
theorem logB_take {ls : List (List UInt8)} {k : Nat} (h : k < ls.length) : logB (ls.take (k + 1)) = logB (ls.take k) ++ recP (logB (ls.take k)).length ls[k] := by
  rw [List.take_succ_eq_append_getElem h, logB_snoc]
theorem logB_pre (ls : List (List UInt8)) : ∀ k, k ≤ ls.length → logB (ls.take k) <+: logB ls := by
  suffices h : ∀ j, ∀ k, k ≤ ls.length → ls.length - k = j → logB (ls.take k) <+: logB ls from fun k hk => h _ k hk rfl
  intro j
  induction j with
  | zero => intro k hk hj; rw [List.take_of_length_le (by omega)]; exact List.prefix_refl _
  | succ j ih =>
    intro k hk hj
    refine List.IsPrefix.trans ?_ (ih (k + 1) (by omega) (by omega))
    rw [logB_take (by omega)]; exact List.prefix_append _ _
theorem logB_le {ls : List (List UInt8)} {i k : Nat} (h : i ≤ k) (hk : k ≤ ls.length) : (logB (ls.take i)).length ≤ (logB (ls.take k)).length := by
  have := (logB_pre (ls.take k) i (by rw [List.length_take]; omega)).length_le
  rwa [List.take_take, Nat.min_eq_left h] at this
theorem recs_logB : ∀ (n : Nat) (ls : List (List UInt8)), ls.length = n → (∀ l ∈ ls, l.length ≤ 65536) → (recsOf (logB ls)).map (·.1) = ls ∧ endOf (recsOf (logB ls)) = (logB ls).length
  | 0, ls, hn, _ => by
    obtain rfl := List.length_eq_zero_iff.1 hn
    exact ⟨by rfl, by rfl⟩
  | n + 1, ls, hn, hl => by
    have hne : ls ≠ [] := by rintro rfl; cases hn
    obtain ⟨ks, l, rfl⟩ : ∃ ks l, ls = ks ++ [l] := ⟨ls.dropLast, ls.getLast hne, (List.dropLast_concat_getLast hne).symm⟩
    obtain ⟨h1, h2⟩ := recs_logB n ks (by simpa using hn) (fun x hx => hl x (List.mem_append_left _ hx))
    have h3 := hl l (by simp)
    rw [logB_snoc]
    exact ⟨by rw [recsOf_add _ _ h3 h2, List.map_append, h1]; rfl, recsOf_add_whole _ _ h3 h2⟩
/-- a beginning of a record is none -/
theorem cut_record (b l t t' : List UInt8) (hl : l.length ≤ 65536) (ht : recP b.length l = t ++ t') (hn : t' ≠ []) : (getOne (b ++ t) b.length).2.2 ≠ 0 := by
  intro h0
  have h1 := getOne_append t' h0
  have h2 := getOne_recP b l hl
  rw [ht, ← List.append_assoc, h1] at h2
  have h3 := (getOne_ok h0).2.1
  rw [h2] at h3
  simp only [List.length_append] at h3
  have := List.length_pos_iff.2 hn
  omega
theorem recsOf_cut (b l t t' : List UInt8) (hl : l.length ≤ 65536) (ht : recP b.length l = t ++ t') (hn : t' ≠ []) (hw : endOf (recsOf b) = b.length) : recsOf (b ++ t) = recsOf b := by
  obtain ⟨g, h1, h2⟩ := recsF_append b t (b.length + 1) (b.length + 1) ((b ++ t).length + 1) 0 (Nat.le_refl _) (by omega) (by omega)
  have he : endAt 0 (recsF (b.length + 1) b 0) = b.length := by rw [endAt_zero]; exact hw
  rw [he, recsF_end (cut_record b l t t' hl ht hn), List.append_nil] at h1
  exact h1
theorem recs_cut (ls : List (List UInt8)) (hl : ∀ l ∈ ls, l.length ≤ 65536) (k p : Nat) (hk : k ≤ ls.length) (h1 : (logB (ls.take k)).length ≤ p) (h3 : k < ls.length → p < (logB (ls.take (k + 1))).length) :
    recsOf ((logB ls).take p) = recsOf (logB (ls.take k)) := by
  by_cases hkl : k < ls.length
  · have h4 := h3 hkl
    obtain ⟨r, hr⟩ := logB_pre ls (k + 1) (by omega)
    rw [logB_take hkl] at hr h4
    rw [List.length_append] at h4
    obtain ⟨q, hq⟩ : ∃ q, p = (logB (ls.take k)).length + q := ⟨p - (logB (ls.take k)).length, by omega⟩
    have e : (logB ls).take p = logB (ls.take k) ++ (recP (logB (ls.take k)).length ls[k]).take q := by
      rw [← hr, hq, List.append_assoc, List.take_length_add_append, List.take_append_of_le_length (by omega)]
    rw [e]
    exact recsOf_cut _ ls[k] _ ((recP (logB (ls.take k)).length ls[k]).drop q) (hl _ (List.getElem_mem hkl)) (List.take_append_drop q _).symm
      (by intro h; have := congrArg List.length h; rw [List.length_drop] at this; simp at this; omega)
      ((recs_logB _ _ rfl (fun x hx => hl x (List.mem_of_mem_take hx))).2)
  · rw [List.take_of_length_le (l := ls) (by omega)]
    rw [List.take_of_length_le (l := ls) (by omega)] at h1
    rw [List.take_of_length_le (by omega)]
theorem recP_le (n : Nat) (l : List UInt8) : (recP n l).length ≤ 20 * l.length + 27 := by
  have := putRec_len (l.length + 2) (n % 256) false l (by simp)
  simpa [recP] using this
/-- what the law counts of records -/
def fewN (ls : List (List UInt8)) : Nat := (ls.map fun l => l.length + 20).sum
theorem fewN_take {ls : List (List UInt8)} {k : Nat} (h : k < ls.length) : fewN (ls.take (k + 1)) = fewN (ls.take k) + ls[k].length + 20 := by
  unfold fewN; rw [List.take_succ_eq_append_getElem h, List.map_append, List.sum_append]; simp only [List.map_cons, List.map_nil, List.sum_cons, List.sum_nil]; omega
theorem fewN_take_le {ls : List (List UInt8)} : ∀ k, fewN (ls.take k) ≤ fewN ls := by
  intro k
  have h : fewN ls = fewN (ls.take k) + fewN (ls.drop k) := by unfold fewN; rw [← List.sum_append, ← List.map_append, List.take_append_drop]
  omega
theorem fewN_mem {ls : List (List UInt8)} {l : List UInt8} (h : l ∈ ls) : l.length + 20 ≤ fewN ls := by
  unfold fewN
  have : l.length + 20 ∈ ls.map fun l => l.length + 20 := List.mem_map.2 ⟨l, h, rfl⟩
  generalize (ls.map fun l => l.length + 20) = L at this
  induction L with
  | nil => cases this
  | cons a L ih => rcases List.mem_cons.1 this with rfl | h'; simp; have := ih h'; simp; omega
theorem fewN_len (ls : List (List UInt8)) : 20 * ls.length ≤ fewN ls := by
  induction ls with
  | nil => simp [fewN]
  | cons a l ih => simp only [fewN, List.map_cons, List.sum_cons, List.length_cons] at ih ⊢; omega
theorem logB_len (ls : List (List UInt8)) : ∀ k, k ≤ ls.length → (logB (ls.take k)).length ≤ 20 * fewN (ls.take k) := by
  intro k
  induction k with
  | zero => intro _; simp [logB, fewN]
  | succ k ih =>
    intro hk
    have h1 := ih (by omega)
    rw [logB_take (by omega), fewN_take (by omega), List.length_append]
    have := recP_le (logB (ls.take k)).length ls[k]
    omega
end Go.Proofs.Herb
