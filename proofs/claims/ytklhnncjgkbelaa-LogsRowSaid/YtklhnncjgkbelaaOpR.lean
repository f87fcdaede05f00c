/- A slice of byte slices that came in, as the walks have it: read off the data. No condition. -/
import Derived.Test.YtklhnncjgkbelaaRow
import Derived.Test.YtklhnncjgkbelaaProg
import Derived.Deep.Slices
import Derived.Deep.Fields
import Derived.ChangeSame
import Derived.SizedLaws
namespace Go.Proofs.Herb
open Go.RowKit Go.ChangeShapes Go.WideShapes Go.Deep
/-- records in memory -/
def RowsAt (w : World) (a : Option Addr) (len : Nat) (ls : List (List UInt8)) : Prop :=
  ls.length = len ∧ (ls = [] ∨ ∃ b off, a = some ⟨b, off, none⟩ ∧ ∀ (i : Nat) (l : List UInt8), ls[i]? = some l → ∃ q c, w.cell? ⟨b, off + i, none⟩ = some (.slice q l.length c) ∧ l.length ≤ c ∧ c ≤ maxLen ∧ Rd w q (l.map bv) ∧ (q = none → c = 0))
theorem RowsAt.below {w w' : World} {a : Option Addr} {len : Nat} {ls : List (List UInt8)} (h : RowsAt w a len ls) (hb : Below w.heap.size w w') : RowsAt w' a len ls := by
  refine ⟨h.1, h.2.imp id ?_⟩
  rintro ⟨b, off, ha, hc⟩
  refine ⟨b, off, ha, fun i l hl => ?_⟩
  obtain ⟨q, c, h1, h2, h3, h4, h5⟩ := hc i l hl
  exact ⟨q, c, (hb.cell (p := ⟨b, off + i, none⟩) (World.block_lt_of_cell? w _ h1)).trans h1, h2, h3, h4.below hb, h5⟩
theorem RowsAt.at_ {w : World} {a : Option Addr} {len : Nat} {ls : List (List UInt8)} (h : RowsAt w a len ls) {i : Nat} (hi : i < len) :
    ∃ b off q c l, a = some ⟨b, off, none⟩ ∧ ls[i]? = some l ∧ w.cell? ⟨b, off + i, none⟩ = some (.slice q l.length c) ∧ l.length ≤ c ∧ c ≤ maxLen ∧ Rd w q (l.map bv) ∧ (q = none → c = 0) := by
  obtain ⟨h1, h2⟩ := h
  have hil : i < ls.length := by omega
  rcases h2 with rfl | ⟨b, off, ha, hc⟩
  · simp at hil
  · obtain ⟨q, c, r⟩ := hc i _ (List.getElem?_eq_getElem hil)
    exact ⟨b, off, q, c, _, ha, List.getElem?_eq_getElem hil, r⟩
theorem wAll_memR {H : Type} {P : Program} {e : TypeId} : ∀ {l : List (DataW H)} {d : DataW H}, d ∈ l → ∀ n ∈ d.weights P e, n ∈ DataW.weightsAll P e l
  | d0 :: l, d, hd, n, hn => by
    simp only [DataW.weightsAll, List.mem_append]
    rcases List.mem_cons.1 hd with rfl | h
    · exact .inl hn
    · exact .inr (wAll_memR h n hn)
section
variable {H : Type} {enc : TypeId × Value → H} {w : World}
theorem open_byteR {fuel : Nat} {c : Value} {x : DataW H × List MemPlace} (h : DataW.trod enc Try.prog w 0 (fun _ => true) true fuel 22 [c] = some x) :
    ∃ (q : Option Addr) (n k : Nat) (l : List UInt8), c = .slice q n k ∧ l.length = n ∧ n ≤ k ∧ k ≤ maxLen ∧ Rd w q (l.map bv) ∧ (q = none → k = 0) := by
  rcases open_ints Try.underlying22 Try.underlying5 (by kernel_rfl) h with ⟨hcs, _⟩ | ⟨a, l, k, zs, hcs, _, hl, hm, hz, _, hcell, hwz⟩
  · simp only [List.cons.injEq, and_true] at hcs
    exact ⟨none, 0, 0, [], hcs, rfl, Nat.le_refl _, by simp [maxLen], .inl rfl, fun _ => rfl⟩
  · simp only [List.cons.injEq, and_true] at hcs
    obtain ⟨b, h1, h2, h3, h4, h5⟩ := row_bytes (w := w) (a := some a) (len := l) (cap := k) (zs := zs) (.inr ⟨a, rfl, hl, hm, by simpa using hz, hcell, hwz⟩)
    exact ⟨some a, l, k, b, hcs, h1, h2, h3, h4, h5⟩
theorem open_rows {fuel : Nat} {c : Value} {x : DataW H × List MemPlace} (h : DataW.trod enc Try.prog w 0 (fun _ => true) true fuel 35 [c] = some x) :
    ∃ (a : Option Addr) (len cap : Nat) (l : List (List UInt8)), c = .slice a len cap ∧ len ≤ cap ∧ cap ≤ maxLen ∧ RowsAt w a len l := by
  have hC : Try.prog.cellsOf 22 = 1 := by kernel_rfl
  rcases open_slice Try.underlying35 h with ⟨h0, _⟩ | ⟨a, len, cap, m, n, D, Pl, hcs, hb, hl, hm, hmm, hx, hi⟩
  · simp only [List.cons.injEq, and_true] at h0
    exact ⟨none, 0, 0, [], h0, Nat.le_refl _, by simp [maxLen], rfl, .inl rfl⟩
  · simp only [List.cons.injEq, and_true] at hcs
    rw [hC] at hi
    have hle : len ≤ m := by simp at hmm; omega
    have key : ∀ i, i < len → ∃ l : List UInt8, ∃ q c, w.cell? (a.add i) = some (.slice q l.length c) ∧ l.length ≤ c ∧ c ≤ maxLen ∧ Rd w q (l.map bv) ∧ (q = none → c = 0) := fun i hil => by
      obtain ⟨cs', h1, h2⟩ := hi i (by omega)
      obtain ⟨_, hcl, hat⟩ := World.cells?_some h1
      obtain ⟨c0, rfl⟩ : ∃ c0, cs' = [c0] := List.length_eq_one_iff.1 hcl
      obtain ⟨q, k, c, l, e, e1, e2, e3, e4, e5⟩ := open_byteR h2
      have h00 := hat 0 (by omega)
      rw [Go.Deep.add_add, Nat.mul_one, Nat.add_zero, e, ← e1] at h00
      exact ⟨l, q, c, h00, by omega, e3, e4, e5⟩
    obtain ⟨f, hf⟩ := choose_lt key
    refine ⟨some a, len, cap, (List.range len).map f, hcs, hl, hm, by simp, ?_⟩
    by_cases h0 : len = 0
    · left; simp [h0]
    · right
      obtain ⟨q0, c0, hc0, _⟩ := hf 0 (by omega)
      obtain ⟨b, off, spot⟩ := a
      have hspot : spot = none := by simpa [Addr.add] using World.cell?_spot hc0
      subst hspot
      refine ⟨b, off, rfl, fun i l hl => ?_⟩
      rw [List.getElem?_map] at hl
      have hil : i < len := by
        rcases Nat.lt_or_ge i len with h | h
        · exact h
        · rw [List.getElem?_eq_none (by simpa using h)] at hl; cases hl
      rw [List.getElem?_range hil] at hl
      simp only [Option.map_some, Option.some.injEq] at hl
      subst hl
      rw [← Go.WideShapes.add_plain]
      exact hf i hil
theorem sized_byteR {fuel : Nat} {q : Option Addr} {n k R : Nat} {x : DataW H × List MemPlace} (h : DataW.trod enc Try.prog w 0 (fun _ => true) true fuel 22 [.slice q n k] = some x) (hw : ∀ z ∈ x.1.weights Try.prog 22, z ≤ R) : n ≤ R := by
  have kb : Try.prog.bytesOf 5 = 1 := by kernel_rfl
  rcases open_slice Try.underlying22 h with ⟨h0, _⟩ | ⟨a, len, cap, m, n', D, Pl, hcs, hb, hl, hm, hmm, hx, hi⟩
  · simp only [List.cons.injEq, Value.slice.injEq, and_true] at h0
    omega
  · simp only [List.cons.injEq, Value.slice.injEq, and_true] at hcs
    obtain ⟨_, rfl, rfl⟩ := hcs
    rw [hx] at hw
    have := hw _ (by simp only [DataW.weights, Try.underlying22]; exact List.mem_cons_self ..)
    rw [kb] at this
    simp only [List.length_map, List.length_range] at this
    omega
theorem sized_rows {fuel len cap R : Nat} {a : Option Addr} {ls : List (List UInt8)} {x : DataW H × List MemPlace} (h : DataW.trod enc Try.prog w 0 (fun _ => true) true fuel 35 [.slice a len cap] = some x) (hA : RowsAt w a len ls)
    (hw : ∀ z ∈ x.1.weights Try.prog 35, z ≤ R) : ∀ l ∈ ls, l.length ≤ R := by
  intro v hv
  have hC : Try.prog.cellsOf 22 = 1 := by kernel_rfl
  obtain ⟨hll, hcells⟩ := hA
  obtain ⟨i, hi2⟩ := List.mem_iff_getElem?.1 hv
  have hil : i < len := by rw [← hll]; exact (List.getElem?_eq_some_iff.1 hi2).1
  rcases hcells with h0 | ⟨b, off, rfl, hc⟩
  · subst h0; cases hv
  rcases open_slice Try.underlying35 h with ⟨h0, _⟩ | ⟨a', len', cap', m, n, D, Pl, hcs, hb, hl, hm, hmm, hx, hi⟩
  · simp only [List.cons.injEq, Value.slice.injEq, and_true] at h0
    exact absurd h0.1 (by simp)
  · simp only [List.cons.injEq, Value.slice.injEq, and_true, Option.some.injEq] at hcs
    obtain ⟨rfl, rfl, rfl⟩ := hcs
    rw [hC] at hi
    have hle : len ≤ m := by simp at hmm; omega
    obtain ⟨cs', h1, h2⟩ := hi i (by omega)
    obtain ⟨_, hcl, hat⟩ := World.cells?_some h1
    obtain ⟨c0, rfl⟩ : ∃ c0, cs' = [c0] := List.length_eq_one_iff.1 hcl
    obtain ⟨q, c, e1, _⟩ := hc i v hi2
    have e2 := hat 0 (by omega)
    rw [Go.Deep.add_add, Go.WideShapes.add_plain, Nat.mul_one, Nat.add_zero, e1] at e2
    simp only [List.getElem?_cons_zero, Option.some.injEq] at e2
    subst e2
    refine sized_byteR h2 fun z hz => hw z ?_
    rw [hx]
    simp only [DataW.weights, Try.underlying35]
    exact List.mem_cons_of_mem _ (List.mem_append.2 (.inl (wAll_memR (List.mem_map.2 ⟨i, List.mem_range.2 hil, rfl⟩) z hz)))
end
end Go.Proofs.Herb
