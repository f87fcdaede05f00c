
/- Appends of facts onto rows of the call's own, as one step of a region; two lists behind one another. -/
import Derived.Test.YtnkkfdlmcpnokaaUlv
import Derived.Deep.RegionLaw
import Derived.Deep.DeepCutAuto
namespace Go.Proofs.Herb
open Go.RowKit
section
variable {w : World} {ops : Array Oper} {rest : List Oper} {o : Oper} {a : Act} {K : Act → World → Prop} {Q : Exit → Act → World → Prop} {E : Prop}
theorem stepF (hgd : o.guard = none) (s x : Operand) (ho : o.op = .call { callee := .builtin .append, args := #[s, x], argTypes := #[22, 22] })
    (base : Nat) (q : Option Addr) (n c : Nat) (l : List Fact) (hs : a.eval s = .slice q n c) (hown : w.ownsRow base 42 6 (.slice q n c) n (fCells l))
    (ad : Option Addr) (m d : Nat) (k : List Fact) (hx : a.eval x = .slice ad m d) (hl : k.length = m) (hr : Rd w ad (fCells k)) (hsz : n + m ≤ 1000000) (hbase : base ≤ w.heap.size)
    (h : ∀ q' c' w', w'.ownsRow base 42 6 (.slice q' (n + m) c') (n + m) (fCells (l ++ k)) → Below base w w' → K (a.put o.dst (.slice q' (n + m) c')) w') :
    if Region.wanted o (yielded ops a.tmps) = true then Oper.wp Try.prog o a w K Q else E := by
  rw [if_pos (by simp [Region.wanted, hgd])]
  obtain ⟨i, hi, hz, hsize, hby⟩ := info_parts infoFc
  obtain ⟨q', c', w', hrun, h1, h2, h3⟩ := run_append_own_src (P := Try.prog) w base 22 22 o.type 42 i (.agg #[.string ⟨#[]⟩, .int .u32 0, .int .u64 0, .int .u64 0, .int .u8 0, .string ⟨#[]⟩]) 6 64 Try.underlying22 hi hz hsize hby rfl (by decide) _ n (fCells l) hown (.slice ad m d) m (fCells k) (src_rd (by decide) Try.underlying22 d (by rw [fCells_len, hl]) hr (fCells_one _)) (by unfold maxLen; omega) (by omega) hbase
  unfold Oper.wp execOp
  simp only [ho, resolve, invoke, builtin, Sem.run_bind, Sem.run_pure, Result.andThen_ok, List.map_toArray, List.map_cons, List.map_nil, hs, hx, hrun]
  rw [← fCells_append] at h1
  exact h q' c' w' h1 (Below.grown' (Below.refl _ _) hown h2 hbase)
theorem listF (hgd : o.guard = none) (s x : Operand) (ho : o.op = .call { callee := .builtin .append, args := #[s, x], argTypes := #[22, 22] })
    (base : Nat) (q : Option Addr) (n c : Nat) (l : List Fact) (hs : a.eval s = .slice q n c) (hown : w.ownsRow base 42 6 (.slice q n c) n (fCells l))
    (ad : Option Addr) (m d : Nat) (k : List Fact) (hx : a.eval x = .slice ad m d) (hl : k.length = m) (hr : Rd w ad (fCells k)) (hsz : n + m ≤ 1000000) (hbase : base ≤ w.heap.size)
    (h : ∀ q' c' w', w'.ownsRow base 42 6 (.slice q' (n + m) c') (n + m) (fCells (l ++ k)) → Below base w w' → wpList Try.prog ops Q rest (a.put o.dst (.slice q' (n + m) c')) w') : wpList Try.prog ops Q (o :: rest) a w :=
  wpList_append_src hgd s x 22 22 ho base 42 (.agg #[.string ⟨#[]⟩, .int .u32 0, .int .u64 0, .int .u64 0, .int .u8 0, .string ⟨#[]⟩]) 6 64 Try.underlying22 infoFc rfl (by decide) q n c (fCells l) hs hown (.slice ad m d) m (fCells k) hx (src_rd (by decide) Try.underlying22 d (by rw [fCells_len, hl]) hr (fCells_one _)) (by unfold maxLen; omega) (by omega) hbase
    (fun q' c' w' h1 h2 _ => h q' c' w' (by rw [fCells_append]; exact h1) (Below.grown' (Below.refl _ _) hown h2 hbase))
end
/-- the argument, boxed -/
structure ThreeAt (W : World) (X : Nat) (q : Nat → Option Addr) (n c : Nat → Nat) (Ls : Nat → List Fact) : Prop where
  row : W.heap[X]? = some (.cells #[.slice (q 0) (n 0) (c 0), .slice (q 1) (n 1) (c 1), .slice (q 2) (n 2) (c 2)] 24 (0, 0))
  rd : ∀ i, i < 3 → Rd W (q i) (fCells (Ls i))
theorem ThreeAt.below {W W' : World} {X : Nat} {q : Nat → Option Addr} {n c : Nat → Nat} {Ls : Nat → List Fact} (h : ThreeAt W X q n c Ls) (hb : Below W.heap.size W W') : ThreeAt W' X q n c Ls :=
  ⟨(hb.block _ (lt_of_block h.row)).trans h.row, fun i hi => (h.rd i hi).below hb⟩
theorem ThreeAt.cells {W : World} {X : Nat} {q : Nat → Option Addr} {n c : Nat → Nat} {Ls : Nat → List Fact} (h : ThreeAt W X q n c Ls) : W.cell? ⟨X, 0, none⟩ = some (.slice (q 0) (n 0) (c 0)) ∧ W.cell? ⟨X, 1, none⟩ = some (.slice (q 1) (n 1) (c 1)) ∧ W.cell? ⟨X, 2, none⟩ = some (.slice (q 2) (n 2) (c 2)) := by
  refine ⟨?_, ?_, ?_⟩ <;> rw [cell_of_row _ _ _ _ _ _ h.row] <;> rfl
theorem ThreeAt.new {w : World} {q : Nat → Option Addr} {n c : Nat → Nat} {Ls : Nat → List Fact} (h : ∀ i, i < 3 → Rd w (q i) (fCells (Ls i))) : ThreeAt (w.alloc (.cells #[.slice (q 0) (n 0) (c 0), .slice (q 1) (n 1) (c 1), .slice (q 2) (n 2) (c 2)] 24)) w.heap.size q n c Ls :=
  ⟨World.alloc_heap_new _ _, fun i hi => (h i hi).alloc _⟩
end Go.Proofs.Herb
