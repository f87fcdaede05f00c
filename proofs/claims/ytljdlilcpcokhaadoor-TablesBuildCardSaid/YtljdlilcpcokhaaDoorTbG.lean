/- Plain: props that can be told, names that are short. -/
import Derived.Test.YtljdlilcpcokhaaDoorTbF
import Derived.Test.YtljdlilcpcokhaaDoorTbE
import Derived.Test.YtljdlilcpcokhaaDoorTbA
namespace Go.Proofs.Herb
theorem compact_mem {l : List (List UInt8)} : ∀ x ∈ Lib.compact l, x ∈ l := by
  intro x hx
  unfold Lib.compact Lib.compactUpTo at hx
  obtain ⟨i, hi, rfl⟩ := List.mem_map.1 hx
  have h1 := List.mem_range.1 (List.mem_filter.1 hi).1
  rw [getElem!_pos l.toArray i (by simpa using h1)]
  simp
theorem good_key {line : Nat} {fs : List Fact} (hg : GoodF line fs) : ∀ f ∈ fs, f.key.size ≤ 32 := by
  intro f hf
  obtain ⟨i, hi, rfl⟩ := List.mem_iff_getElem.1 hf
  obtain ⟨_, h1, _⟩ := hg i hi
  unfold mayF at h1
  exact (of_decide_eq_true h1).2.1
theorem names_short {line : Nat} {fs : List Fact} (hg : GoodF line fs) : ∀ k ∈ namesF fs, k.length ≤ 1000000 := by
  intro k hk
  obtain ⟨f, hf, rfl⟩ := List.mem_map.1 (compact_mem k hk)
  have h := good_key hg f hf
  have : f.key.data.toList.length = f.key.size := by rw [Array.length_toList]; rfl
  omega
theorem fold_min_le {g : Fact → Nat} : ∀ (l : List Fact) (a : Nat), l.foldl (fun a f => min a (g f)) a ≤ a
  | [], _ => Nat.le_refl _
  | f :: r, a => by rw [List.foldl_cons]; exact Nat.le_trans (fold_min_le r _) (Nat.min_le_left _ _)
theorem fold_max_lt {g : Fact → Nat} {b : Nat} : ∀ (l : List Fact) (a : Nat), a < b → (∀ f ∈ l, g f < b) → l.foldl (fun a f => max a (g f)) a < b
  | [], _, h, _ => h
  | f :: r, a, h, hl => by
    rw [List.foldl_cons]
    exact fold_max_lt r _ (Nat.max_lt.2 ⟨h, hl f (by simp)⟩) (fun x hx => hl x (by simp [hx]))
theorem props_ok {line : Nat} {fs : List Fact} (hg : GoodF line fs) (h0 : 0 < fs.length) (hm : fs.length ≤ 6000) (ho : ∀ f ∈ fs, f.Ok) : (propsF line fs).Ok := by
  have hl : line < 18446744073709551616 := by
    obtain ⟨_, _, h, _⟩ := hg 0 h0
    have := (ho _ (List.getElem_mem h0)).line
    omega
  have hk := good_key hg
  cases fs with
  | nil => simp at h0
  | cons f0 r =>
    have o0 := ho f0 (by simp)
    unfold propsF propsT
    refine ⟨hl, by dsimp only; omega, ?_, ?_, ?_, ?_, ?_, ?_⟩
    · exact Nat.le_trans (hk f0 (by simp)) (by decide)
    · exact Nat.le_trans (hk _ (List.getLast_mem (by simp))) (by decide)
    · exact Nat.lt_of_le_of_lt (fold_min_le (g := fun f => f.seq) _ _) o0.seq
    · exact fold_max_lt (g := fun f => f.seq) _ _ (by decide) (fun f hf => (ho f hf).seq)
    · exact Nat.lt_of_le_of_lt (fold_min_le (g := fun f => f.valid) _ _) o0.valid
    · exact fold_max_lt (g := fun f => f.valid) _ _ (by decide) (fun f hf => (ho f hf).valid)
theorem names_len (fs : List Fact) : (namesF fs).length ≤ fs.length := by
  unfold namesF Lib.compact Lib.compactUpTo
  rw [List.length_map]
  refine Nat.le_trans (List.length_filter_le _ _) ?_
  rw [List.length_range, List.length_map]
  exact Nat.le_refl _
theorem pp_len {p : Props} (o : p.Ok) : (ppB p).length ≤ 300000 := by
  have h1 := (vput_len p.line).2
  have h2 := (vput_len p.many).2
  have h3 := (vput_len p.least).2
  have h4 := (vput_len p.greatest).2
  have h5 := (vput_len p.early).2
  have h6 := (vput_len p.late).2
  have h7 := tput_len2 p.low.data.toList
  have h8 := tput_len2 p.high.data.toList
  have h9 := (vput_len p.low.data.toList.length).2
  have h10 := (vput_len p.high.data.toList.length).2
  have h11 := size_toList2 p.low
  have h12 := size_toList2 p.high
  have h13 := o.low
  have h14 := o.high
  unfold ppB
  simp only [List.length_append]
  omega
end Go.Proofs.Herb
