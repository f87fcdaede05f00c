
/- Facts that came in, as the walks have them: read off the data. No condition. -/
import Derived.Test.YtnkkfdlmcpnokaaRow
import Derived.Test.YtnkkfdlmcpnokaaFct
import Derived.Deep.Slices
import Derived.Deep.Fields
import Derived.ChangeSame
import Derived.SizedLaws
namespace Go.Proofs.Herb
open Go.RowKit Go.ChangeShapes Go.WideShapes Go.Deep
/-- facts in memory -/
def FactsAt (w : World) (a : Option Addr) (len : Nat) (l : List Fact) : Prop := l.length = len ∧ Rd w a (fCells l) ∧ ∀ f ∈ l, f.Ok
theorem fCells_split : ∀ (l : List Fact) (i j : Nat) (u : Value), j < 6 → (fCells l)[i * 6 + j]? = some u → ∃ f, l[i]? = some f ∧ f.cells[j]? = some u
  | [], _, _, _, _, h => by simp [fCells] at h
  | f :: l, 0, j, u, hj, h => by
    refine ⟨f, rfl, ?_⟩
    rw [Nat.zero_mul, Nat.zero_add] at h
    have e : fCells (f :: l) = f.cells ++ fCells l := rfl
    rw [e, List.getElem?_append_left (by simpa [Fact.cells] using hj)] at h
    exact h
  | f :: l, i + 1, j, u, hj, h => by
    have e : fCells (f :: l) = f.cells ++ fCells l := rfl
    have hl : f.cells.length = 6 := rfl
    rw [e, List.getElem?_append_right (by rw [hl]; omega), hl, show (i + 1) * 6 + j - 6 = i * 6 + j by omega] at h
    exact fCells_split l i j u hj h
theorem list6c {α : Type} {cs : List α} (h : cs.length = 6) : ∃ a b c d e f, cs = [a, b, c, d, e, f] := by
  match cs, h with
  | [a, b, c, d, e, f], _ => exact ⟨a, b, c, d, e, f, rfl⟩
theorem wAll_memF {H : Type} {P : Program} {e : TypeId} : ∀ {l : List (DataW H)} {d : DataW H}, d ∈ l → ∀ n ∈ d.weights P e, n ∈ DataW.weightsAll P e l
  | d0 :: l, d, hd, n, hn => by
    simp only [DataW.weightsAll, List.mem_append]
    rcases List.mem_cons.1 hd with rfl | h
    · exact .inl hn
    · exact .inr (wAll_memF h n hn)
section
variable {H : Type} {enc : TypeId × Value → H} {w : World}
theorem open_fact {fuel : Nat} {cs : List Value} {x : DataW H × List MemPlace} (h : DataW.trod enc Try.prog w 0 (fun _ => true) true fuel 42 cs = some x) :
    ∃ f : Fact, cs = f.cells ∧ f.Ok ∧ ∀ R, (∀ z ∈ x.1.weights Try.prog 42, z ≤ R) → f.key.size ≤ R ∧ f.val.size ≤ R := by
  obtain ⟨xs, n, _, hx, hl, hxs, hf⟩ := DataW.trod_struct Try.underlying42 h
  have hC : Try.prog.cellsOf 42 = 6 := by kernel_rfl
  have k9 : Try.prog.cellsOf 9 = 1 := by kernel_rfl
  have k32 : Try.prog.cellsOf 38 = 1 := by kernel_rfl
  have k64 : Try.prog.cellsOf 39 = 1 := by kernel_rfl
  have kK : Try.prog.cellsOf 40 = 1 := by kernel_rfl
  rw [hC] at hl
  obtain ⟨c0, c1, c2, c3, c4, c5, rfl⟩ := list6c hl
  obtain ⟨y0, y1, y2, y3, y4, y5, rfl⟩ := list6c hxs
  have h0 : DataW.trod enc Try.prog w 0 (fun _ => true) true n 9 (([c0, c1, c2, c3, c4, c5].drop 0).take (Try.prog.cellsOf 9)) = some y0 := hf 0 _ rfl
  have h1 : DataW.trod enc Try.prog w 0 (fun _ => true) true n 38 (([c0, c1, c2, c3, c4, c5].drop 1).take (Try.prog.cellsOf 38)) = some y1 := hf 1 _ rfl
  have h2 : DataW.trod enc Try.prog w 0 (fun _ => true) true n 39 (([c0, c1, c2, c3, c4, c5].drop 2).take (Try.prog.cellsOf 39)) = some y2 := hf 2 _ rfl
  have h3 : DataW.trod enc Try.prog w 0 (fun _ => true) true n 39 (([c0, c1, c2, c3, c4, c5].drop 3).take (Try.prog.cellsOf 39)) = some y3 := hf 3 _ rfl
  have h4 : DataW.trod enc Try.prog w 0 (fun _ => true) true n 40 (([c0, c1, c2, c3, c4, c5].drop 4).take (Try.prog.cellsOf 40)) = some y4 := hf 4 _ rfl
  have h5 : DataW.trod enc Try.prog w 0 (fun _ => true) true n 9 (([c0, c1, c2, c3, c4, c5].drop 5).take (Try.prog.cellsOf 9)) = some y5 := hf 5 _ rfl
  rw [k9] at h0 h5
  rw [k32] at h1
  rw [k64] at h2 h3
  rw [kK] at h4
  obtain ⟨z0, e0, x0, w0⟩ := DataW.trod_string Try.underlying9 (x := y0) h0
  obtain ⟨z1, e1, _, w1⟩ := DataW.trod_int Try.underlying38 (x := y1) h1
  obtain ⟨z2, e2, _, w2⟩ := DataW.trod_int Try.underlying39 (x := y2) h2
  obtain ⟨z3, e3, _, w3⟩ := DataW.trod_int Try.underlying39 (x := y3) h3
  obtain ⟨z4, e4, _, w4⟩ := DataW.trod_int Try.underlying40 (x := y4) h4
  obtain ⟨z5, e5, x5, w5⟩ := DataW.trod_string Try.underlying9 (x := y5) h5
  simp at e0 e1 e2 e3 e4 e5
  subst e0; subst e1; subst e2; subst e3; subst e4; subst e5
  have b1 := bounds_u32 w1
  have b2 := bounds_u64 w2
  have b3 := bounds_u64 w3
  have b4 := bounds_u8 w4
  refine ⟨⟨z0, z1.toNat, z2.toNat, z3.toNat, z4.toNat, z5⟩, ?_, ⟨by dsimp only; omega, by dsimp only; omega, by dsimp only; omega, by dsimp only; omega, w0, w5⟩, fun R hR => ?_⟩
  · unfold Fact.cells
    dsimp only
    rw [show ((z1.toNat : Nat) : Int) = z1 by omega, show ((z2.toNat : Nat) : Int) = z2 by omega, show ((z3.toNat : Nat) : Int) = z3 by omega, show ((z4.toNat : Nat) : Int) = z4 by omega]
  · have g0 := hR z0.data.toList.length (by rw [hx]; simp only [DataW.weights, Try.underlying42]; exact DataW.weights_mem_each (j := 0) (t := 9) (d := y0.1) rfl rfl _ (by rw [x0]; simp [DataW.weights]))
    have g5 := hR z5.data.toList.length (by rw [hx]; simp only [DataW.weights, Try.underlying42]; exact DataW.weights_mem_each (j := 5) (t := 9) (d := y5.1) rfl rfl _ (by rw [x5]; simp [DataW.weights]))
    rw [Array.length_toList] at g0 g5
    exact ⟨g0, g5⟩
/-- facts, each with its bounds -/
theorem open_factsR {fuel : Nat} {c : Value} {x : DataW H × List MemPlace} (h : DataW.trod enc Try.prog w 0 (fun _ => true) true fuel 22 [c] = some x) :
    ∃ (a : Option Addr) (len cap : Nat) (l : List Fact), c = .slice a len cap ∧ len ≤ cap ∧ cap ≤ maxLen ∧ FactsAt w a len l ∧ ∀ R, (∀ z ∈ x.1.weights Try.prog 22, z ≤ R) → ∀ f ∈ l, f.key.size ≤ R ∧ f.val.size ≤ R := by
  have hC : Try.prog.cellsOf 42 = 6 := by kernel_rfl
  rcases open_slice Try.underlying22 h with ⟨h0, _⟩ | ⟨a, len, cap, m, n, D, Pl, hcs, hb, hl, hm, hmm, hx, hi⟩
  · simp only [List.cons.injEq, and_true] at h0
    exact ⟨none, 0, 0, [], h0, Nat.le_refl _, by simp [maxLen], ⟨rfl, .inl rfl, fun f hf => by cases hf⟩, fun _ _ f hf => by cases hf⟩
  · simp only [List.cons.injEq, and_true] at hcs
    rw [hC] at hi
    have hle : len ≤ m := by simp at hmm; omega
    have key : ∀ i, i < len → ∃ f : Fact, f.Ok ∧ (∀ (j : Nat) u, f.cells[j]? = some u → w.cell? (a.add (i * 6 + j)) = some u) ∧ ∀ R, (∀ z ∈ x.1.weights Try.prog 22, z ≤ R) → f.key.size ≤ R ∧ f.val.size ≤ R := fun i hil => by
      obtain ⟨cs', h1, h2⟩ := hi i (by omega)
      obtain ⟨f, rfl, hv, hR⟩ := open_fact h2
      obtain ⟨_, hcl, hat⟩ := World.cells?_some h1
      refine ⟨f, hv, fun j u hj => ?_, fun R hw => hR R fun z hz => hw z ?_⟩
      · have hj6 : j < 6 := by
          have := (List.getElem?_eq_some_iff.1 hj).1
          simpa [Fact.cells] using this
        rw [← Go.Deep.add_add, hat j hj6]
        exact hj
      · rw [hx]
        simp only [DataW.weights, Try.underlying22]
        exact List.mem_cons_of_mem _ (List.mem_append.2 (.inl (wAll_memF (List.mem_map.2 ⟨i, List.mem_range.2 hil, rfl⟩) z hz)))
    have hinh : Inhabited Fact := ⟨⟨⟨#[]⟩, 0, 0, 0, 0, ⟨#[]⟩⟩⟩
    obtain ⟨f, hf⟩ := choose_lt key
    refine ⟨some a, len, cap, (List.range len).map f, hcs, hl, hm, ⟨by simp, ?_, fun g hg => ?_⟩, fun R hw g hg => ?_⟩
    · by_cases h0 : len = 0
      · left; simp [h0, fCells]
      · right
        obtain ⟨_, hc0, _⟩ := hf 0 (by omega)
        have h00 := hc0 0 _ rfl
        obtain ⟨b, off, spot⟩ := a
        have hspot : spot = none := by simpa [Addr.add] using World.cell?_spot h00
        subst hspot
        refine ⟨b, off, rfl, fun k u hk => ?_⟩
        obtain ⟨g, hg, hj⟩ := fCells_split _ (k / 6) (k % 6) u (by omega) (by rw [show k / 6 * 6 + k % 6 = k by omega]; exact hk)
        rw [List.getElem?_map] at hg
        have hil : k / 6 < len := by
          rcases Nat.lt_or_ge (k / 6) len with h | h
          · exact h
          · rw [List.getElem?_eq_none (by simpa using h)] at hg; cases hg
        rw [List.getElem?_range hil] at hg
        simp only [Option.map_some, Option.some.injEq] at hg
        subst hg
        have := (hf _ hil).2.1 _ u hj
        rw [Go.WideShapes.add_plain, show off + (k / 6 * 6 + k % 6) = off + k by omega] at this
        exact this
    · obtain ⟨i, hi2, rfl⟩ := List.mem_map.1 hg
      exact (hf i (List.mem_range.1 hi2)).1
    · obtain ⟨i, hi2, rfl⟩ := List.mem_map.1 hg
      exact (hf i (List.mem_range.1 hi2)).2.2 R hw
end
end Go.Proofs.Herb
