/- Acts that came in (a slice of structs), as the walks have them: read off the data. No condition. -/
import Derived.Test.YtancpdhinocbnaaGreatDoorRow
import Derived.Test.YtancpdhinocbnaaGreatDoorProg
import Derived.Deep.Slices
import Derived.Deep.Fields
import Derived.ChangeSame
namespace Go.Proofs.Herb
open Go.RowKit Go.ChangeShapes Go.WideShapes Go.Deep
/-- an act, as it is told, and where its lists lie -/
structure ActV where
  what : Nat
  a : ByteArray
  b : ByteArray
  n : Int
  data : List UInt8
  dir : Int
  files : List Int
  dq : Option Addr
  dn : Nat
  dc : Nat
  fq : Option Addr
  fn : Nat
  fc : Nat
def ActV.cells (v : ActV) : List Value := [.int .u8 (v.what : Int), .string v.a, .string v.b, .int .i64 v.n, .slice v.dq v.dn v.dc, .int .i64 v.dir, .slice v.fq v.fn v.fc]
structure ActOk (w : World) (v : ActV) : Prop where
  what : v.what < 256
  a : v.a.size ≤ maxLen
  b : v.b.size ≤ maxLen
  n0 : -9223372036854775808 ≤ v.n
  n1 : v.n ≤ 9223372036854775807
  d0 : v.data.length = v.dn
  d1 : v.dn ≤ v.dc
  d2 : v.dc ≤ maxLen
  d3 : Rd w v.dq (v.data.map bv)
  d4 : v.dq = none → v.dc = 0
  i0 : -9223372036854775808 ≤ v.dir
  i1 : v.dir ≤ 9223372036854775807
  f0 : v.files.length = v.fn
  f1 : v.fn ≤ v.fc
  f2 : v.fc ≤ maxLen
  f3 : Rd w v.fq (v.files.map (Value.int .i64))
theorem row_ints {w : World} {a : Option Addr} {len cap : Nat} {zs : List Int} 
    (h : (a = none ∧ len = 0 ∧ cap = 0 ∧ zs = []) ∨ ∃ x, a = some x ∧ len ≤ cap ∧ cap ≤ maxLen ∧ zs.length = cap ∧ (∀ i, i < zs.length → w.cell? (x.add i) = some (.int .i64 (zs.getD i 0))) ∧ ∀ n ∈ zs, (Lit.int .i64 n).wf = true) :
    ∃ l : List Int, l.length = len ∧ len ≤ cap ∧ cap ≤ maxLen ∧ Rd w a (l.map (Value.int .i64)) := by
  rcases h with ⟨rfl, rfl, rfl, rfl⟩ | ⟨x, rfl, hl, hm, hz, hc, hw⟩
  · exact ⟨[], rfl, Nat.le_refl _, by simp [maxLen], .inl rfl⟩
  · refine ⟨zs.take len, by simp; omega, hl, hm, ?_⟩
    rcases Nat.eq_zero_or_pos len with h0 | h0
    · subst h0; exact .inl (by simp)
    · obtain ⟨b, off, rfl, hc2⟩ := ints_at hc (by omega)
      refine .inr ⟨b, off, rfl, fun j u hu => ?_⟩
      rw [List.getElem?_map] at hu
      have hj : j < len := by
        rcases Nat.lt_or_ge j len with h | h
        · exact h
        · rw [List.getElem?_eq_none (by simp; omega)] at hu; cases hu
      rw [hc2 j (by omega), ← hu]
      rw [List.getElem?_take_of_lt hj, List.getElem?_eq_getElem (by omega)]
      simp only [Option.map_some, Option.some.injEq]
      rw [List.getD_eq_getElem?_getD, List.getElem?_eq_getElem (by omega), Option.getD_some]
theorem list2 {α : Type} {l : List α} (h : l.length = 2) : ∃ a b, l = [a, b] := by
  match l, h with
  | [a, b], _ => exact ⟨a, b, rfl⟩
theorem list6 {α : Type} {l : List α} (h : l.length = 6) : ∃ a b c d e f, l = [a, b, c, d, e, f] := by
  match l, h with
  | [a, b, c, d, e, f], _ => exact ⟨a, b, c, d, e, f, rfl⟩
theorem list7 {α : Type} {l : List α} (h : l.length = 7) : ∃ a b c d e f g, l = [a, b, c, d, e, f, g] := by
  match l, h with
  | [a, b, c, d, e, f, g], _ => exact ⟨a, b, c, d, e, f, g, rfl⟩
section
variable {H : Type} {enc : TypeId × Value → H} {w : World}
theorem open_byteRow {fuel : Nat} {c : Value} {x : DataW H × List MemPlace} (h : DataW.trod enc Tryz.prog w 0 (fun _ => true) true fuel 31 [c] = some x) :
    ∃ (q : Option Addr) (n k : Nat) (l : List UInt8), c = .slice q n k ∧ l.length = n ∧ n ≤ k ∧ k ≤ maxLen ∧ Rd w q (l.map bv) ∧ (q = none → k = 0) := by
  rcases open_ints Tryz.underlying31 Tryz.underlying5 (by kernel_rfl) h with ⟨hcs, _⟩ | ⟨a, l, k, zs, hcs, _, hl, hm, hz, _, hcell, hwz⟩
  · simp only [List.cons.injEq, and_true] at hcs
    exact ⟨none, 0, 0, [], hcs, rfl, Nat.le_refl _, by simp [maxLen], .inl rfl, fun _ => rfl⟩
  · simp only [List.cons.injEq, and_true] at hcs
    obtain ⟨b, h1, h2, h3, h4, h5⟩ := row_bytes (w := w) (a := some a) (len := l) (cap := k) (zs := zs) (.inr ⟨a, rfl, hl, hm, by simpa using hz, hcell, hwz⟩)
    exact ⟨some a, l, k, b, hcs, h1, h2, h3, h4, h5⟩
theorem open_intRow {fuel : Nat} {c : Value} {x : DataW H × List MemPlace} (h : DataW.trod enc Tryz.prog w 0 (fun _ => true) true fuel 32 [c] = some x) :
    ∃ (q : Option Addr) (n k : Nat) (l : List Int), c = .slice q n k ∧ l.length = n ∧ n ≤ k ∧ k ≤ maxLen ∧ Rd w q (l.map (Value.int .i64)) := by
  rcases open_ints Tryz.underlying32 Tryz.underlying3 (by kernel_rfl) h with ⟨hcs, _⟩ | ⟨a, l, k, zs, hcs, _, hl, hm, hz, _, hcell, hwz⟩
  · simp only [List.cons.injEq, and_true] at hcs
    exact ⟨none, 0, 0, [], hcs, rfl, Nat.le_refl _, by simp [maxLen], .inl rfl⟩
  · simp only [List.cons.injEq, and_true] at hcs
    obtain ⟨b, h1, h2, h3, h4⟩ := row_ints (w := w) (a := some a) (len := l) (cap := k) (zs := zs) (.inr ⟨a, rfl, hl, hm, by simpa using hz, hcell, hwz⟩)
    exact ⟨some a, l, k, b, hcs, h1, h2, h3, h4⟩
theorem open_loss {fuel : Nat} {cs : List Value} {x : DataW H × List MemPlace} (h : DataW.trod enc Tryz.prog w 0 (fun _ => true) true fuel 34 cs = some x) :
    ∃ (dir : Int) (q : Option Addr) (n k : Nat) (l : List Int), cs = [.int .i64 dir, .slice q n k] ∧ l.length = n ∧ n ≤ k ∧ k ≤ maxLen ∧ Rd w q (l.map (Value.int .i64)) ∧ -9223372036854775808 ≤ dir ∧ dir ≤ 9223372036854775807 := by
  obtain ⟨xs, n, _, _, hl, hxs, hf⟩ := DataW.trod_struct Tryz.underlying34 h
  have hC : Tryz.prog.cellsOf 34 = 2 := by kernel_rfl
  have k3 : Tryz.prog.cellsOf 3 = 1 := by kernel_rfl
  have kI : Tryz.prog.cellsOf 32 = 1 := by kernel_rfl
  rw [hC] at hl
  obtain ⟨c0, c1, rfl⟩ := list2 hl
  obtain ⟨y0, y1, rfl⟩ := list2 hxs
  have h0 : DataW.trod enc Tryz.prog w 0 (fun _ => true) true n 3 (([c0, c1].drop 0).take (Tryz.prog.cellsOf 3)) = some y0 := hf 0 _ rfl
  have h1 : DataW.trod enc Tryz.prog w 0 (fun _ => true) true n 32 (([c0, c1].drop 1).take (Tryz.prog.cellsOf 32)) = some y1 := hf 1 _ rfl
  rw [k3] at h0
  rw [kI] at h1
  obtain ⟨d, e0, _, w0⟩ := DataW.trod_int Tryz.underlying3 (x := y0) h0
  obtain ⟨q, n, k, l, e1, r⟩ := open_intRow (x := y1) (c := c1) h1
  simp at e0
  subst e0; subst e1
  have hb := bounds_i64 w0
  exact ⟨d, q, n, k, l, rfl, r.1, r.2.1, r.2.2.1, r.2.2.2, by omega, by omega⟩
theorem open_act {fuel : Nat} {cs : List Value} {x : DataW H × List MemPlace} (h : DataW.trod enc Tryz.prog w 0 (fun _ => true) true fuel 36 cs = some x) :
    ∃ v : ActV, cs = v.cells ∧ ActOk w v := by
  obtain ⟨xs, n, _, _, hl, hxs, hf⟩ := DataW.trod_struct Tryz.underlying36 h
  have hC : Tryz.prog.cellsOf 36 = 7 := by kernel_rfl
  have k3 : Tryz.prog.cellsOf 3 = 1 := by kernel_rfl
  have k5 : Tryz.prog.cellsOf 5 = 1 := by kernel_rfl
  have k9 : Tryz.prog.cellsOf 9 = 1 := by kernel_rfl
  have kB : Tryz.prog.cellsOf 31 = 1 := by kernel_rfl
  have kL : Tryz.prog.cellsOf 34 = 2 := by kernel_rfl
  rw [hC] at hl
  obtain ⟨c0, c1, c2, c3, c4, c5, c6, rfl⟩ := list7 hl
  obtain ⟨y0, y1, y2, y3, y4, y5, rfl⟩ := list6 hxs
  have h0 : DataW.trod enc Tryz.prog w 0 (fun _ => true) true n 5 (([c0, c1, c2, c3, c4, c5, c6].drop 0).take (Tryz.prog.cellsOf 5)) = some y0 := hf 0 _ rfl
  have h1 : DataW.trod enc Tryz.prog w 0 (fun _ => true) true n 9 (([c0, c1, c2, c3, c4, c5, c6].drop 1).take (Tryz.prog.cellsOf 9)) = some y1 := hf 1 _ rfl
  have h2 : DataW.trod enc Tryz.prog w 0 (fun _ => true) true n 9 (([c0, c1, c2, c3, c4, c5, c6].drop 2).take (Tryz.prog.cellsOf 9)) = some y2 := hf 2 _ rfl
  have h3 : DataW.trod enc Tryz.prog w 0 (fun _ => true) true n 3 (([c0, c1, c2, c3, c4, c5, c6].drop 3).take (Tryz.prog.cellsOf 3)) = some y3 := hf 3 _ rfl
  have h4 : DataW.trod enc Tryz.prog w 0 (fun _ => true) true n 31 (([c0, c1, c2, c3, c4, c5, c6].drop 4).take (Tryz.prog.cellsOf 31)) = some y4 := hf 4 _ rfl
  have h5 : DataW.trod enc Tryz.prog w 0 (fun _ => true) true n 34 (([c0, c1, c2, c3, c4, c5, c6].drop 5).take (Tryz.prog.cellsOf 34)) = some y5 := hf 5 _ rfl
  rw [k5] at h0
  rw [k9] at h1 h2
  rw [k3] at h3
  rw [kB] at h4
  rw [kL] at h5
  obtain ⟨z0, e0, _, w0⟩ := DataW.trod_int Tryz.underlying5 (x := y0) h0
  obtain ⟨z1, e1, _, w1⟩ := DataW.trod_string Tryz.underlying9 (x := y1) h1
  obtain ⟨z2, e2, _, w2⟩ := DataW.trod_string Tryz.underlying9 (x := y2) h2
  obtain ⟨z3, e3, _, w3⟩ := DataW.trod_int Tryz.underlying3 (x := y3) h3
  obtain ⟨dq, dn, dc, dl, e4, r1, r2, r3, r4, r5⟩ := open_byteRow (x := y4) (c := c4) h4
  obtain ⟨dir, fq, fn, fc, fl, e5, q1, q2, q3, q4, q5, q6⟩ := open_loss (x := y5) (cs := [c5, c6]) h5
  simp at e0 e1 e2 e3 e5
  obtain ⟨rfl, rfl⟩ := e5
  subst e0; subst e1; subst e2; subst e3; subst e4
  have b0 := bounds_u8 w0
  have b3 := bounds_i64 w3
  refine ⟨⟨z0.toNat, z1, z2, z3, dl, dir, fl, dq, dn, dc, fq, fn, fc⟩, ?_, ⟨by dsimp only; omega, w1, w2, by dsimp only; omega, by dsimp only; omega, r1, r2, r3, r4, r5, q5, q6, q1, q2, q3, q4⟩⟩
  unfold ActV.cells
  dsimp only
  rw [show ((z0.toNat : Nat) : Int) = z0 by omega]
/-- acts in memory -/
def ActsAt (w : World) (a : Option Addr) (len : Nat) (l : List ActV) : Prop :=
  l.length = len ∧ (∀ v ∈ l, ActOk w v) ∧ (l = [] ∨ ∃ b off, a = some ⟨b, off, none⟩ ∧ ∀ (i : Nat) (v : ActV), l[i]? = some v → ∀ (j : Nat) u, v.cells[j]? = some u → w.cell? ⟨b, off + (i * 7 + j), none⟩ = some u)
theorem open_acts {fuel : Nat} {c : Value} {x : DataW H × List MemPlace} (h : DataW.trod enc Tryz.prog w 0 (fun _ => true) true fuel 22 [c] = some x) :
    ∃ (a : Option Addr) (len cap : Nat) (l : List ActV), c = .slice a len cap ∧ len ≤ cap ∧ cap ≤ maxLen ∧ ActsAt w a len l := by
  have hC : Tryz.prog.cellsOf 36 = 7 := by kernel_rfl
  rcases open_slice Tryz.underlying22 h with ⟨h0, _⟩ | ⟨a, len, cap, m, n, D, Pl, hcs, hb, hl, hm, hmm, hx, hi⟩
  · simp only [List.cons.injEq, and_true] at h0
    exact ⟨none, 0, 0, [], h0, Nat.le_refl _, by simp [maxLen], rfl, by simp, .inl rfl⟩
  · simp only [List.cons.injEq, and_true] at hcs
    rw [hC] at hi
    have hle : len ≤ m := by simp at hmm; omega
    have key : ∀ i, i < len → ∃ v : ActV, ActOk w v ∧ ∀ (j : Nat) u, v.cells[j]? = some u → w.cell? (a.add (i * 7 + j)) = some u := fun i hil => by
      obtain ⟨cs', h1, h2⟩ := hi i (by omega)
      obtain ⟨v, rfl, hv⟩ := open_act h2
      obtain ⟨_, hcl, hat⟩ := World.cells?_some h1
      refine ⟨v, hv, fun j u hj => ?_⟩
      have hj7 : j < 7 := by
        have := (List.getElem?_eq_some_iff.1 hj).1
        simpa [ActV.cells] using this
      rw [← Go.Deep.add_add, hat j hj7]
      exact hj
    have hinh : Inhabited ActV := ⟨⟨0, ⟨#[]⟩, ⟨#[]⟩, 0, [], 0, [], none, 0, 0, none, 0, 0⟩⟩
    obtain ⟨f, hf⟩ := choose_lt key
    refine ⟨some a, len, cap, (List.range len).map f, hcs, hl, hm, by simp, fun v hv => ?_, ?_⟩
    · obtain ⟨i, hi2, rfl⟩ := List.mem_map.1 hv
      exact (hf i (List.mem_range.1 hi2)).1
    · by_cases h0 : len = 0
      · left; simp [h0]
      · right
        obtain ⟨_, hc0⟩ := hf 0 (by omega)
        have h00 := hc0 0 _ rfl
        obtain ⟨b, off, spot⟩ := a
        have hspot : spot = none := by simpa [Addr.add] using World.cell?_spot h00
        subst hspot
        refine ⟨b, off, rfl, fun i v hv j u hj => ?_⟩
        rw [List.getElem?_map] at hv
        have hil : i < len := by
          rcases Nat.lt_or_ge i len with h | h
          · exact h
          · rw [List.getElem?_eq_none (by simpa using h)] at hv; cases hv
        rw [List.getElem?_range hil] at hv
        simp only [Option.map_some, Option.some.injEq] at hv
        subst hv
        rw [← Go.WideShapes.add_plain]
        exact (hf i hil).2 j u hj
end
end Go.Proofs.Herb
