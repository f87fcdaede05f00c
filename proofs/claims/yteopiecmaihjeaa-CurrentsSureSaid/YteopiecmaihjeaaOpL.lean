/- A loss, and two numbers, that came in, as the walks have them: read off the data. No condition. -/
import Derived.Test.YteopiecmaihjeaaRow
import Derived.Test.YteopiecmaihjeaaProg
import Derived.Deep.Slices
import Derived.Deep.Fields
import Derived.ChangeSame
namespace Go.Proofs.Herb
open Go.RowKit Go.ChangeShapes Go.WideShapes Go.Deep
theorem row_ints {w : World} {a : Option Addr} {len cap : Nat} {zs : List Int} 
    (h : (a = none ∧ len = 0 ∧ cap = 0 ∧ zs = []) ∨ ∃ x, a = some x ∧ len ≤ cap ∧ cap ≤ maxLen ∧ zs.length = cap ∧ (∀ i, i < zs.length → w.cell? (x.add i) = some (.int .i64 (zs.getD i 0))) ∧ ∀ n ∈ zs, (Lit.int .i64 n).wf = true) :
    ∃ l : List Int, l.length = len ∧ len ≤ cap ∧ cap ≤ maxLen ∧ Rd w a (l.map (Value.int .i64)) := by
  rcases h with ⟨rfl, rfl, rfl, rfl⟩ | ⟨x, rfl, hl, hm, hz, hc, hw⟩
  · exact ⟨[], rfl, Nat.le_refl _, by simp [maxLen], .inl rfl⟩
  · refine ⟨zs.take len, by simp; omega, hl, hm, ?_⟩
    rcases Nat.eq_zero_or_pos len with h0 | h0
    · subst h0; exact .inl (by simp)
    · obtain ⟨b, off, rfl, hc2⟩ := ints_at hc (by omega)
      refine .inr ⟨b, off, rfl, fun j u hu => ?_⟩
      rw [List.getElem?_map] at hu
      have hj : j < len := by
        rcases Nat.lt_or_ge j len with h | h
        · exact h
        · rw [List.getElem?_eq_none (by simp; omega)] at hu; cases hu
      rw [hc2 j (by omega), ← hu]
      rw [List.getElem?_take_of_lt hj, List.getElem?_eq_getElem (by omega)]
      simp only [Option.map_some, Option.some.injEq]
      rw [List.getD_eq_getElem?_getD, List.getElem?_eq_getElem (by omega), Option.getD_some]
theorem list2 {α : Type} {l : List α} (h : l.length = 2) : ∃ a b, l = [a, b] := by
  match l, h with
  | [a, b], _ => exact ⟨a, b, rfl⟩
theorem okWide_arr {P : Program} {w : World} {r : Reach} {base : Nat} {t e : TypeId} {n : Nat} {v : Value} (ht : P.underlying t = some (.array n e)) (h : Value.okWide P w r base t v) : ∃ cs, v = .agg cs ∧ cs.size = P.cellsOf t := by
  simp only [Value.okWide, ht] at h
  obtain ⟨cs, h1, h2, _⟩ := h
  exact ⟨cs, h1, h2⟩
section
variable {H : Type} {enc : TypeId × Value → H} {w : World}
theorem open_intRow {fuel : Nat} {c : Value} {x : DataW H × List MemPlace} (h : DataW.trod enc Try.prog w 0 (fun _ => true) true fuel 40 [c] = some x) :
    ∃ (q : Option Addr) (n k : Nat) (l : List Int), c = .slice q n k ∧ l.length = n ∧ n ≤ k ∧ k ≤ maxLen ∧ Rd w q (l.map (Value.int .i64)) := by
  rcases open_ints Try.underlying40 Try.underlying3 (by kernel_rfl) h with ⟨hcs, _⟩ | ⟨a, l, k, zs, hcs, _, hl, hm, hz, _, hcell, hwz⟩
  · simp only [List.cons.injEq, and_true] at hcs
    exact ⟨none, 0, 0, [], hcs, rfl, Nat.le_refl _, by simp [maxLen], .inl rfl⟩
  · simp only [List.cons.injEq, and_true] at hcs
    obtain ⟨b, h1, h2, h3, h4⟩ := row_ints (w := w) (a := some a) (len := l) (cap := k) (zs := zs) (.inr ⟨a, rfl, hl, hm, by simpa using hz, hcell, hwz⟩)
    exact ⟨some a, l, k, b, hcs, h1, h2, h3, h4⟩
theorem open_loss {fuel : Nat} {cs : List Value} {x : DataW H × List MemPlace} (h : DataW.trod enc Try.prog w 0 (fun _ => true) true fuel 42 cs = some x) :
    ∃ (dir : Int) (q : Option Addr) (n k : Nat) (l : List Int), cs = [.int .i64 dir, .slice q n k] ∧ l.length = n ∧ n ≤ k ∧ k ≤ maxLen ∧ Rd w q (l.map (Value.int .i64)) ∧ -9223372036854775808 ≤ dir ∧ dir ≤ 9223372036854775807 := by
  obtain ⟨xs, n, _, _, hl, hxs, hf⟩ := DataW.trod_struct Try.underlying42 h
  have hC : Try.prog.cellsOf 42 = 2 := by kernel_rfl
  have k3 : Try.prog.cellsOf 3 = 1 := by kernel_rfl
  have kI : Try.prog.cellsOf 40 = 1 := by kernel_rfl
  rw [hC] at hl
  obtain ⟨c0, c1, rfl⟩ := list2 hl
  obtain ⟨y0, y1, rfl⟩ := list2 hxs
  have h0 : DataW.trod enc Try.prog w 0 (fun _ => true) true n 3 (([c0, c1].drop 0).take (Try.prog.cellsOf 3)) = some y0 := hf 0 _ rfl
  have h1 : DataW.trod enc Try.prog w 0 (fun _ => true) true n 40 (([c0, c1].drop 1).take (Try.prog.cellsOf 40)) = some y1 := hf 1 _ rfl
  rw [k3] at h0
  rw [kI] at h1
  obtain ⟨d, e0, _, w0⟩ := DataW.trod_int Try.underlying3 (x := y0) h0
  obtain ⟨q, n, k, l, e1, r⟩ := open_intRow (x := y1) (c := c1) h1
  simp at e0
  subst e0; subst e1
  have hb := bounds_i64 w0
  exact ⟨d, q, n, k, l, rfl, r.1, r.2.1, r.2.2.1, r.2.2.2, by omega, by omega⟩
set_option maxRecDepth 100000 in
theorem open_pair {fuel : Nat} {cs : List Value} {x : DataW H × List MemPlace} (h : DataW.trod enc Try.prog w 0 (fun _ => true) true fuel 23 cs = some x) :
    ∃ a b : Nat, cs = [.int .u64 (a : Int), .int .u64 (b : Int)] ∧ a < 18446744073709551616 ∧ b < 18446744073709551616 := by
  obtain ⟨xs, n, _, _, hl, hxs, hf⟩ := DataW.trod_array Try.underlying23 h
  have hC : Try.prog.cellsOf 23 = 2 := by kernel_rfl
  have kU : Try.prog.cellsOf 22 = 1 := by kernel_rfl
  rw [hC] at hl
  obtain ⟨c0, c1, rfl⟩ := list2 hl
  obtain ⟨y0, y1, rfl⟩ := list2 hxs
  have h0' := hf 0 (by omega)
  have h1' := hf 1 (by omega)
  rw [kU] at h0' h1'
  have h0 : DataW.trod enc Try.prog w 0 (fun _ => true) true n 22 [c0] = some y0 := h0'
  have h1 : DataW.trod enc Try.prog w 0 (fun _ => true) true n 22 [c1] = some y1 := h1'
  obtain ⟨a, e0, _, w0⟩ := DataW.trod_int Try.underlying22 (x := y0) h0
  obtain ⟨b, e1, _, w1⟩ := DataW.trod_int Try.underlying22 (x := y1) h1
  simp at e0 e1
  subst e0; subst e1
  have b0 := bounds_u64 w0
  have b1 := bounds_u64 w1
  refine ⟨a.toNat, b.toNat, ?_, by omega, by omega⟩
  rw [show ((a.toNat : Nat) : Int) = a by omega, show ((b.toNat : Nat) : Int) = b by omega]
end
end Go.Proofs.Herb
