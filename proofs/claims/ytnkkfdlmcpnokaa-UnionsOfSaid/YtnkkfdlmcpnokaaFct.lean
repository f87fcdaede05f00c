
/- Facts and items, as cells, and slices of them that can be read: plain. -/
import Derived.Test.YtnkkfdlmcpnokaaApc
import Derived.Laws.MakeOwn
namespace Go.Proofs.Herb
open Go.RowKit
structure Fact where
  key : ByteArray
  valid : Nat
  seq : Nat
  line : Nat
  kind : Nat
  val : ByteArray
def Fact.cells (f : Fact) : List Value := [.string f.key, .int .u32 (f.valid : Int), .int .u64 (f.seq : Int), .int .u64 (f.line : Int), .int .u8 (f.kind : Int), .string f.val]
structure Fact.Ok (f : Fact) : Prop where
  valid : f.valid < 4294967296
  seq : f.seq < 18446744073709551616
  line : f.line < 18446744073709551616
  kind : f.kind < 256
  key : f.key.size ≤ maxLen
  val : f.val.size ≤ maxLen
def fCells (l : List Fact) : List Value := l.flatMap Fact.cells
theorem fCells_cons (f : Fact) (l : List Fact) : fCells (f :: l) = .string f.key :: .int .u32 (f.valid : Int) :: .int .u64 (f.seq : Int) :: .int .u64 (f.line : Int) :: .int .u8 (f.kind : Int) :: .string f.val :: fCells l := rfl
theorem fCells_len (l : List Fact) : (fCells l).length = l.length * 6 := by
  induction l with
  | nil => rfl
  | cons f l ih => rw [fCells_cons]; simp only [List.length_cons, ih]; omega
theorem fCells_append (l k : List Fact) : fCells (l ++ k) = fCells l ++ fCells k := by simp [fCells]
theorem fCells_one (l : List Fact) : ∀ u ∈ fCells l, u.oneCell' = true := by
  intro u hu
  unfold fCells at hu
  rw [List.mem_flatMap] at hu
  obtain ⟨c, _, hc⟩ := hu
  simp only [Fact.cells, List.mem_cons, List.not_mem_nil, or_false] at hc
  rcases hc with rfl | rfl | rfl | rfl | rfl | rfl <;> rfl
theorem fCells_at : ∀ (l : List Fact) (j : Nat) (f : Fact), l[j]? = some f → (fCells l)[j * 6]? = some (.string f.key) ∧ (fCells l)[j * 6 + 1]? = some (.int .u32 (f.valid : Int)) ∧ (fCells l)[j * 6 + 2]? = some (.int .u64 (f.seq : Int)) ∧ (fCells l)[j * 6 + 3]? = some (.int .u64 (f.line : Int)) ∧ (fCells l)[j * 6 + 4]? = some (.int .u8 (f.kind : Int)) ∧ (fCells l)[j * 6 + 5]? = some (.string f.val)
  | [], _, _, h => by simp at h
  | y :: l, 0, f, h => by
    simp only [List.getElem?_cons_zero, Option.some.injEq] at h
    subst h
    exact ⟨rfl, rfl, rfl, rfl, rfl, rfl⟩
  | y :: l, j + 1, f, h => by
    have h2 := fCells_at l j f (by simpa using h)
    rw [fCells_cons, show (j + 1) * 6 = j * 6 + 1 + 1 + 1 + 1 + 1 + 1 from by omega]
    simpa [Nat.add_assoc] using h2
/-- the six cells of a fact -/
structure FactAt (w : World) (b o : Nat) (f : Fact) : Prop where
  c0 : w.cell? ⟨b, o, none⟩ = some (.string f.key)
  c1 : w.cell? ⟨b, o + 1, none⟩ = some (.int .u32 (f.valid : Int))
  c2 : w.cell? ⟨b, o + 2, none⟩ = some (.int .u64 (f.seq : Int))
  c3 : w.cell? ⟨b, o + 3, none⟩ = some (.int .u64 (f.line : Int))
  c4 : w.cell? ⟨b, o + 4, none⟩ = some (.int .u8 (f.kind : Int))
  c5 : w.cell? ⟨b, o + 5, none⟩ = some (.string f.val)
theorem fact_at {w : World} {q : Option Addr} {l : List Fact} {j : Nat} (h : Rd w q (fCells l)) (hj : j < l.length) :
    ∃ b off, q = some ⟨b, off, none⟩ ∧ b < w.heap.size ∧ FactAt w b (off + j * 6) l[j] := by
  obtain ⟨h0, h1, h2, h3, h4, h5⟩ := fCells_at l j _ (List.getElem?_eq_getElem hj)
  rcases h with hz | ⟨b, off, hq, hr⟩
  · rw [hz] at h1; simp at h1
  · have c0 := hr _ _ h0
    exact ⟨b, off, hq, World.block_lt_of_cell? w _ c0, c0, by have := hr _ _ h1; rwa [← Nat.add_assoc] at this, by have := hr _ _ h2; rwa [← Nat.add_assoc] at this, by have := hr _ _ h3; rwa [← Nat.add_assoc] at this, by have := hr _ _ h4; rwa [← Nat.add_assoc] at this, by have := hr _ _ h5; rwa [← Nat.add_assoc] at this⟩
/-! items -/
structure Item where
  key : ByteArray
  val : ByteArray
def iCells (l : List Item) : List Value := l.flatMap fun x => [.string x.key, .string x.val]
theorem iCells_cons (x : Item) (l : List Item) : iCells (x :: l) = .string x.key :: .string x.val :: iCells l := rfl
theorem iCells_len (l : List Item) : (iCells l).length = l.length * 2 := by
  induction l with
  | nil => rfl
  | cons f l ih => rw [iCells_cons]; simp only [List.length_cons, ih]; omega
theorem iCells_append (l k : List Item) : iCells (l ++ k) = iCells l ++ iCells k := by simp [iCells]
theorem iCells_one (l : List Item) : ∀ u ∈ iCells l, u.oneCell' = true := by
  intro u hu
  unfold iCells at hu
  rw [List.mem_flatMap] at hu
  obtain ⟨c, _, hc⟩ := hu
  simp only [List.mem_cons, List.not_mem_nil, or_false] at hc
  rcases hc with rfl | rfl <;> rfl
theorem iCells_at : ∀ (l : List Item) (j : Nat) (x : Item), l[j]? = some x → (iCells l)[j * 2]? = some (.string x.key) ∧ (iCells l)[j * 2 + 1]? = some (.string x.val)
  | [], _, _, h => by simp at h
  | y :: l, 0, f, h => by
    simp only [List.getElem?_cons_zero, Option.some.injEq] at h
    subst h
    exact ⟨rfl, rfl⟩
  | y :: l, j + 1, f, h => by
    have h2 := iCells_at l j f (by simpa using h)
    rw [iCells_cons, show (j + 1) * 2 = j * 2 + 1 + 1 from by omega]
    simpa [Nat.add_assoc] using h2
theorem item_at {w : World} {q : Option Addr} {l : List Item} {j : Nat} (h : Rd w q (iCells l)) (hj : j < l.length) :
    ∃ b off, q = some ⟨b, off, none⟩ ∧ b < w.heap.size ∧ w.cell? ⟨b, off + j * 2, none⟩ = some (.string l[j].key) ∧ w.cell? ⟨b, off + j * 2 + 1, none⟩ = some (.string l[j].val) := by
  obtain ⟨h0, h1⟩ := iCells_at l j _ (List.getElem?_eq_getElem hj)
  rcases h with hz | ⟨b, off, hq, hr⟩
  · rw [hz] at h1; simp at h1
  · have c0 := hr _ _ h0
    exact ⟨b, off, hq, World.block_lt_of_cell? w _ c0, c0, by have := hr _ _ h1; rwa [← Nat.add_assoc] at this⟩
theorem Rd.takeN {w : World} {a : Option Addr} {xs : List Value} (h : Rd w a xs) (k : Nat) : Rd w a (xs.take k) := h.take k
theorem iCells_take (l : List Item) (k : Nat) : iCells (l.take k) = (iCells l).take (k * 2) := by
  induction l generalizing k with
  | nil => simp [iCells]
  | cons x l ih =>
    cases k with
    | zero => simp [iCells]
    | succ k => rw [List.take_succ_cons, iCells_cons, iCells_cons, show (k + 1) * 2 = k * 2 + 1 + 1 from by omega, List.take_succ_cons, List.take_succ_cons, ih]
theorem iCells_drop (l : List Item) (k : Nat) : iCells (l.drop k) = (iCells l).drop (k * 2) := by
  induction l generalizing k with
  | nil => simp [iCells]
  | cons x l ih =>
    cases k with
    | zero => simp [iCells]
    | succ k => rw [List.drop_succ_cons, iCells_cons, show (k + 1) * 2 = k * 2 + 1 + 1 from by omega, List.drop_succ_cons, List.drop_succ_cons, ih]
theorem fCells_take (l : List Fact) (k : Nat) : fCells (l.take k) = (fCells l).take (k * 6) := by
  induction l generalizing k with
  | nil => simp [fCells]
  | cons x l ih =>
    cases k with
    | zero => simp [fCells]
    | succ k =>
      rw [List.take_succ_cons, fCells_cons, fCells_cons, show (k + 1) * 6 = k * 6 + 1 + 1 + 1 + 1 + 1 + 1 from by omega]
      simp only [List.take_succ_cons, ih]
theorem fCells_drop (l : List Fact) (k : Nat) : fCells (l.drop k) = (fCells l).drop (k * 6) := by
  induction l generalizing k with
  | nil => simp [fCells]
  | cons x l ih =>
    cases k with
    | zero => simp [fCells]
    | succ k =>
      rw [List.drop_succ_cons, fCells_cons, show (k + 1) * 6 = k * 6 + 1 + 1 + 1 + 1 + 1 + 1 from by omega]
      simp only [List.drop_succ_cons, ih]
/-- 'make([]T, 0, c)' -/
theorem run_make_cap {P : Program} (t e : TypeId) (z : Value) (size bytes : Nat) (ht : P.underlying t = some (.slice e)) (hinfo : (P.info? e).map (fun i => (i.zero, i.size, i.bytes)) = some (some z, size, bytes))
    (X : Int) (C : Nat) (hX : X = (C : Int)) (hb : bytes * C ≤ 281474976710656) (h63 : C ≤ 9223372036854775807) (w : World) :
    (Instr.makeSlice t (.int .i64 0) (.int .i64 X)).run P w = .ok (.slice (some ⟨w.heap.size, 0, none⟩) 0 C) (w.alloc (.cells (madeCells z.cells (C * size)) e)) := by
  subst hX
  obtain ⟨i, hi, hz, hsize, hby⟩ := info_parts hinfo
  have hb' : (i.bytes : Int) * (C : Int) ≤ 281474976710656 := by
    have h : ((i.bytes * C : Nat) : Int) ≤ 281474976710656 := by rw [hby]; omega
    rwa [Int.natCast_mul] at h
  have hr := run_make (P := P) w t e i z ht hi hz .i64 .i64 0 C (by omega) (by omega) hb' (by omega)
  simp only [Int.toNat_natCast, hsize, Int.toNat_zero] at hr
  exact hr
end Go.Proofs.Herb
