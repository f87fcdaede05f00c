/- The reach of an act's data, off the reach of the whole. -/
import Derived.Test.YtancpdhinocbnaaGreatDoorOpA
import Derived.SizedLaws
namespace Go.Proofs.Herb
open Go.RowKit Go.ChangeShapes Go.WideShapes Go.Deep
theorem wAll_mem {H : Type} {P : Program} {e : TypeId} : ∀ {l : List (DataW H)} {d : DataW H}, d ∈ l → ∀ n ∈ d.weights P e, n ∈ DataW.weightsAll P e l
  | d0 :: l, d, hd, n, hn => by
    simp only [DataW.weightsAll, List.mem_append]
    rcases List.mem_cons.1 hd with rfl | h
    · exact .inl hn
    · exact .inr (wAll_mem h n hn)
section
variable {H : Type} {enc : TypeId × Value → H} {w : World}
theorem sized_bytes {fuel : Nat} {q : Option Addr} {n k R : Nat} {x : DataW H × List MemPlace} (h : DataW.trod enc Tryz.prog w 0 (fun _ => true) true fuel 31 [.slice q n k] = some x) (hw : ∀ z ∈ x.1.weights Tryz.prog 31, z ≤ R) : n ≤ R := by
  have kb : Tryz.prog.bytesOf 5 = 1 := by kernel_rfl
  rcases open_slice Tryz.underlying31 h with ⟨h0, _⟩ | ⟨a, len, cap, m, n', D, Pl, hcs, hb, hl, hm, hmm, hx, hi⟩
  · simp only [List.cons.injEq, Value.slice.injEq, and_true] at h0
    omega
  · simp only [List.cons.injEq, Value.slice.injEq, and_true] at hcs
    obtain ⟨_, rfl, rfl⟩ := hcs
    rw [hx] at hw
    have := hw _ (by simp only [DataW.weights, Tryz.underlying31]; exact List.mem_cons_self ..)
    rw [kb] at this
    simp only [List.length_map, List.length_range] at this
    omega
theorem sized_act {fuel R : Nat} {v : ActV} {x : DataW H × List MemPlace} (h : DataW.trod enc Tryz.prog w 0 (fun _ => true) true fuel 36 v.cells = some x) (hw : ∀ z ∈ x.1.weights Tryz.prog 36, z ≤ R) : v.dn ≤ R := by
  obtain ⟨xs, n, _, hx, hl, hxs, hf⟩ := DataW.trod_struct Tryz.underlying36 h
  have kB : Tryz.prog.cellsOf 31 = 1 := by kernel_rfl
  obtain ⟨y0, y1, y2, y3, y4, y5, rfl⟩ := list6 hxs
  have h4 : DataW.trod enc Tryz.prog w 0 (fun _ => true) true n 31 ((v.cells.drop 4).take (Tryz.prog.cellsOf 31)) = some y4 := hf 4 _ rfl
  rw [kB] at h4
  refine sized_bytes (q := v.dq) (n := v.dn) (k := v.dc) (x := y4) h4 fun z hz => hw z ?_
  rw [hx]
  simp only [DataW.weights, Tryz.underlying36]
  exact DataW.weights_mem_each (j := 4) (t := 31) (d := y4.1) rfl rfl z hz
theorem sized_acts {fuel len cap R : Nat} {a : Option Addr} {l : List ActV} {x : DataW H × List MemPlace} (h : DataW.trod enc Tryz.prog w 0 (fun _ => true) true fuel 22 [.slice a len cap] = some x) (hA : ActsAt w a len l)
    (hw : ∀ z ∈ x.1.weights Tryz.prog 22, z ≤ R) : ∀ v ∈ l, v.dn ≤ R := by
  intro v hv
  have hC : Tryz.prog.cellsOf 36 = 7 := by kernel_rfl
  obtain ⟨hll, _, hcells⟩ := hA
  obtain ⟨i, hi2⟩ := List.mem_iff_getElem?.1 hv
  have hil : i < len := by rw [← hll]; exact (List.getElem?_eq_some_iff.1 hi2).1
  rcases hcells with h0 | ⟨b, off, rfl, hc⟩
  · subst h0; cases hv
  rcases open_slice Tryz.underlying22 h with ⟨h0, _⟩ | ⟨a', len', cap', m, n, D, Pl, hcs, hb, hl, hm, hmm, hx, hi⟩
  · simp only [List.cons.injEq, Value.slice.injEq, and_true] at h0
    exact absurd h0.1 (by simp)
  · simp only [List.cons.injEq, Value.slice.injEq, and_true, Option.some.injEq] at hcs
    obtain ⟨rfl, rfl, rfl⟩ := hcs
    rw [hC] at hi
    have hle : len ≤ m := by simp at hmm; omega
    obtain ⟨cs', h1, h2⟩ := hi i (by omega)
    obtain ⟨_, hcl, hat⟩ := World.cells?_some h1
    have hcv : cs' = v.cells := by
      refine List.ext_getElem? fun j => ?_
      rcases Nat.lt_or_ge j 7 with hj | hj
      · have hj' : j < v.cells.length := by simpa [ActV.cells] using hj
        have e1 := hc i v hi2 j _ (List.getElem?_eq_getElem hj')
        have e2 := hat j hj
        rw [Go.Deep.add_add, Go.WideShapes.add_plain, e1] at e2
        rw [List.getElem?_eq_getElem hj', List.getElem?_eq_getElem (by omega)]
        rw [List.getElem?_eq_getElem (by omega)] at e2
        exact e2.symm
      · rw [List.getElem?_eq_none (by omega), List.getElem?_eq_none (by simpa [ActV.cells] using hj)]
    subst hcv
    refine sized_act h2 fun z hz => hw z ?_
    rw [hx]
    simp only [DataW.weights, Tryz.underlying22]
    exact List.mem_cons_of_mem _ (List.mem_append.2 (.inl (wAll_mem (List.mem_map.2 ⟨i, List.mem_range.2 hil, rfl⟩) z hz)))
end
end Go.Proofs.Herb
