/- How many bytes a table has at most; which facts may be one: plain. -/
import Derived.Test.YtnmbkaohjbcpmaaMaq
namespace Go.Proofs.Herb
open Go.RowKit
theorem bUp_le {l : List Item} {B : Nat} (h : ∀ x ∈ l, x.key.size + x.val.size ≤ B) : ∀ k, k ≤ l.length → (bUp l k).length ≤ k * (30 + B)
  | 0, _ => by simp [bUp]
  | k + 1, hk => by
    have h1 := bUp_le h k (by omega)
    have h2 := itB_len l k
    have hkl : k < l.length := by omega
    rw [kAt_get hkl, vAt_get hkl, size_toList, size_toList] at h2
    have h3 := h _ (List.getElem_mem hkl)
    rw [bUp_succ, List.length_append, Nat.succ_mul]
    omega
theorem bAll_le {l : List Item} {B : Nat} (h : ∀ x ∈ l, x.key.size + x.val.size ≤ B) : (bAll l).length ≤ l.length * (31 + B) + 11 := by
  have h1 := bUp_le h l.length (Nat.le_refl _)
  have h2 := pUp_len l l.length
  rw [bAll_len, h2]
  rw [show 31 + B = (30 + B) + 1 by omega, Nat.mul_add, Nat.mul_one]
  omega
theorem fold_le {l : List Item} {B : Nat} (h : ∀ x ∈ l, x.key.size + x.val.size ≤ B) : ∀ (r : List (Nat × Nat)) (a : Nat) (s : List UInt8 × List Item), ChainC l.length a r → (r.foldl (stepB l) s).1.length ≤ s.1.length + (l.length - a) * (42 + B) ∧ r.length ≤ l.length - a
  | [], a, s, hc => ⟨by simp, by simp⟩
  | x :: r, a, s, hc => by
    obtain ⟨h1, h2, h3, h4⟩ := hc
    obtain ⟨h5, h6⟩ := fold_le h r x.2 (stepB l s x) h4
    rw [List.foldl_cons]
    have hb := bAll_le (l := subI l x) (B := B) (fun y hy => h y (List.mem_of_mem_drop (List.mem_of_mem_take hy)))
    rw [sub_len h3] at hb
    have e : (stepB l s x).1.length = s.1.length + (bAll (subI l x)).length := by unfold stepB; simp
    rw [e] at h5
    have hx : (l.length - a) * (42 + B) = (l.length - x.2) * (42 + B) + (x.2 - x.1) * (42 + B) := by rw [← Nat.add_mul]; congr 1; omega
    have hy : (x.2 - x.1) * (42 + B) = (x.2 - x.1) * (31 + B) + (x.2 - x.1) * 11 := by rw [← Nat.mul_add]; congr 1; omega
    refine ⟨by omega, ?_⟩
    rw [List.length_cons]
    omega
theorem good_items {line : Nat} {fs : List Fact} (hg : GoodF line fs) : ∀ x ∈ itemsF fs, x.key.size ≤ 79 ∧ x.val.size ≤ 256 := by
  intro x hx
  obtain ⟨f, hf, rfl⟩ := List.mem_map.1 hx
  obtain ⟨i, hi, rfl⟩ := List.mem_iff_getElem.1 hf
  obtain ⟨_, h1, _, h3, _⟩ := hg i hi
  have h4 : (fs[i]).key.size ≤ 32 := by unfold mayF at h1; exact (of_decide_eq_true h1).2.1
  have h5 := esc_len (fs[i]).key.data.toList
  have h6 : (fs[i]).key.data.toList.length = (fs[i]).key.size := by rw [Array.length_toList]; rfl
  have h7 : (itemF fs[i]).key.size = (kput fs[i]).length := by unfold itemF; simp [ByteArray.size]
  have h8 : (kput fs[i]).length = (esc (fs[i]).key.data.toList).length + 2 + 13 := by unfold kput; rw [List.length_append, List.length_append, tailB_len]; rfl
  have h9 : (itemF fs[i]).val.size = (fs[i]).val.size := rfl
  exact ⟨by omega, by omega⟩
theorem good_idx {line : Nat} {fs : List Fact} (hg : GoodF line fs) : ∀ x ∈ idxI fs, x.key.size ≤ 79 ∧ x.val.size ≤ 20 := by
  have key : ∀ (p : List (Nat × Nat)) (s : List UInt8 × List Item), (∀ x ∈ s.2, x.key.size ≤ 79 ∧ x.val.size ≤ 20) → ∀ x ∈ (p.foldl (stepB (itemsF fs)) s).2, x.key.size ≤ 79 ∧ x.val.size ≤ 20 := by
    intro p
    induction p with
    | nil => intro s hs; exact hs
    | cons x r ih =>
      intro s hs
      rw [List.foldl_cons]
      refine ih _ (fun y hy => ?_)
      unfold stepB at hy
      rcases List.mem_append.1 hy with hy | hy
      · exact hs y hy
      · rw [List.mem_singleton] at hy
        subst hy
        refine ⟨lastKey_size (fun z hz => (good_items hg z (List.mem_of_mem_drop (List.mem_of_mem_take hz))).1), ?_⟩
        have h1 := (vput_len s.1.length).2
        have h2 := (vput_len (bAll (subI (itemsF fs) x)).length).2
        simp only [ByteArray.size, List.size_toArray, List.length_append]
        omega
  exact key _ ([], []) (fun x hx => by cases hx)
theorem pp_len2 (p : Props) : (ppB p).length ≤ 80 + p.low.size + p.high.size := by
  have h1 := (vput_len p.line).2
  have h2 := (vput_len p.many).2
  have h3 := (vput_len p.least).2
  have h4 := (vput_len p.greatest).2
  have h5 := (vput_len p.early).2
  have h6 := (vput_len p.late).2
  have h7 := tput_len2 p.low.data.toList
  have h8 := tput_len2 p.high.data.toList
  have h9 := (vput_len p.low.data.toList.length).2
  have h10 := (vput_len p.high.data.toList.length).2
  have h11 := size_toList2 p.low
  have h12 := size_toList2 p.high
  unfold ppB
  simp only [List.length_append]
  omega
theorem props_keys {line : Nat} {fs : List Fact} (hg : GoodF line fs) (h0 : 0 < fs.length) : (propsF line fs).low.size ≤ 32 ∧ (propsF line fs).high.size ≤ 32 := by
  cases fs with
  | nil => simp at h0
  | cons f r =>
    have hk := good_key hg
    exact ⟨hk f (by simp), hk _ (List.getLast_mem (by simp))⟩
theorem foot0_len (line : Nat) (fs : List Fact) : (foot0 line fs).length = 36 := by unfold foot0; simp [le4_len]
theorem tab_len (line : Nat) (fs : List Fact) : (tabB line fs).length = (outB fs).length + (idxB fs).length + (filB fs).length + (tailB2 line fs).length + 40 := by
  unfold tabB bodyB
  simp only [List.length_append, foot0_len, le4_len]
theorem tab_small {line : Nat} {fs : List Fact} (hg : GoodF line fs) (h0 : 0 < fs.length) (hm : fs.length ≤ 60) : (tabB line fs).length ≤ 65536 := by
  have hil : (itemsF fs).length = fs.length := by simp [itemsF]
  obtain ⟨h1, h2⟩ := fold_le (l := itemsF fs) (B := 335) (fun x hx => by have := good_items hg x hx; omega) (chunksOf (itemsF fs)) 0 ([], []) (chunks_chain _)
  have h1' : (outB fs).length ≤ 0 + ((itemsF fs).length - 0) * (42 + 335) := h1
  have h3 : (idxI fs).length = (chunksOf (itemsF fs)).length := by unfold idxI; exact upB_len2 _ _
  have h4 := bAll_le (l := idxI fs) (B := 99) (fun x hx => by have := good_idx hg x hx; omega)
  have h4' : (idxB fs).length ≤ (idxI fs).length * (31 + 99) + 11 := h4
  have h5 : (filB fs).length = blN (namesF fs).length + 1 := ofF_len _
  have h6 := names_len fs
  have h7 := pp_len2 (propsF line fs)
  have h7' : (tailB2 line fs).length ≤ 80 + (propsF line fs).low.size + (propsF line fs).high.size := h7
  have h8 := props_keys hg h0
  have h9 : blN (namesF fs).length ≤ 84 := by unfold blN; omega
  rw [tab_len]
  omega
theorem good_sub {line : Nat} {l : List Fact} (h : GoodF line l) (a m : Nat) : GoodF line ((l.drop a).take m) := by
  intro i hi
  have hi' : i < m ∧ i < l.length - a := by rw [List.length_take, List.length_drop] at hi; omega
  have hai : a + i < l.length := by omega
  have e : ((l.drop a).take m)[i] = l[a + i] := by rw [List.getElem_take, List.getElem_drop]
  obtain ⟨_, h1, h2, h3, h4⟩ := h (a + i) hai
  refine ⟨hi, by rw [e]; exact h1, by rw [e]; exact h2, by rw [e]; exact h3, fun j hj => ?_⟩
  have e2 : ((l.drop a).take m)[j]'(by omega) = l[a + j]'(by omega) := by rw [List.getElem_take, List.getElem_drop]
  rw [e, e2]
  exact h4 (a + j) (by omega)
theorem may_plain (line n : Nat) (l : List Fact) (hn : l.length = n) (hm : n ≤ 60) :
    (buildE line l = 0 ↔ MayK line l n) ∧ (buildE line l = 0 ∨ buildE line l = 1) ∧ (MayK line l n → buildE ((line + 1) % 18446744073709551616) l = 1) := by
  have hsm : ∀ (a m : Nat), m ≤ 60 → GoodF line ((l.drop a).take m) → 0 < ((l.drop a).take m).length → buildE line ((l.drop a).take m) = 0 := fun a m hm hg h0 =>
    buildE_zero.2 ⟨⟨hg, h0⟩, tab_small hg h0 (by rw [List.length_take]; omega)⟩
  have h1 : buildE line l = 0 ↔ MayK line l n := by
    rw [buildE_zero]
    constructor
    · rintro ⟨⟨hg, h0⟩, _⟩
      refine ⟨h0, fun i hi => ⟨hsm i 1 (by decide) (good_sub hg i 1) (by rw [List.length_take, List.length_drop]; omega), fun h => hsm (i - 1) 2 (by decide) (good_sub hg (i - 1) 2) (by rw [List.length_take, List.length_drop]; omega)⟩⟩
    · rintro ⟨h0, h⟩
      have hg : GoodF line l := by
        intro i hi
        obtain ⟨k1, k2⟩ := h i (by omega)
        obtain ⟨⟨g1, _⟩, _⟩ := buildE_zero.1 k1
        obtain ⟨_, m1, m2, m3, _⟩ := g1 0 (by rw [List.length_take, List.length_drop]; omega)
        have e : ((l.drop i).take 1)[0]'(by rw [List.length_take, List.length_drop]; omega) = l[i] := by rw [List.getElem_take, List.getElem_drop]; rfl
        rw [e] at m1 m2 m3
        refine ⟨hi, m1, m2, m3, fun j hj => ?_⟩
        obtain ⟨⟨g2, _⟩, _⟩ := buildE_zero.1 (k2 (by omega))
        obtain ⟨_, _, _, _, m4⟩ := g2 1 (by rw [List.length_take, List.length_drop]; omega)
        have := m4 0 rfl
        rw [List.getElem_take, List.getElem_drop, List.getElem_take, List.getElem_drop] at this
        simp only [show i - 1 + 0 = j by omega, show i - 1 + 1 = i by omega] at this
        exact this
      exact ⟨⟨hg, h0⟩, tab_small hg h0 (by omega)⟩
  refine ⟨h1, ?_, fun h => ?_⟩
  · by_cases hg : GoodF line l ∧ 0 < l.length
    · exact .inl (buildE_zero.2 ⟨hg, tab_small hg.1 hg.2 (by omega)⟩)
    · exact .inr (buildE_one.2 hg)
  · rw [buildE_one]
    rintro ⟨hg, h0⟩
    obtain ⟨⟨hg0, _⟩, _⟩ := buildE_zero.1 (h1.2 h)
    obtain ⟨_, _, k1, _⟩ := hg 0 h0
    obtain ⟨_, _, k2, _⟩ := hg0 0 h0
    rw [k2] at k1
    omega
end Go.Proofs.Herb
