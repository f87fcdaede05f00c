/- The contract of keys.plain. For bytes that can be read. The contracts of keys.fallen, cmp.Compare at int. For bytes of a tail. The contracts of cmp.Compare at int, keys.Get. For bytes that can be read. The contract of keys.Seek. For keys of a million bytes at most. The contract of readers.(*Reader).open. For bytes that can be read. The contract of readers.(*Reader).open: the walk. The contract of readers.whole, whose deferred closure recovers. The contracts of readers.there, Props, Has. The contract of readers.(*Reader).facts. The contract of readers.(*Reader).All. The contracts of the closure that From searches by, and of sort.Search with it. What a range over From tells, and what a round may write: plain. From's iterator: what it promises. The contract of readers.(*Reader).From; where the range of law13.told stands. What is told of a built table, from a key and time on: plain. -/
import Derived.Deep.CutBlock
import Derived.Defers
import Derived.Recover
import Derived.Deep.WholeRow
import Derived.Sort.CutIn
import Derived.Test.YtbeaehhdglhihaaGreatDoorQd02
import Derived.Test.YtbeaehhdglhihaaGreatDoorQd05
import Derived.Test.YtbeaehhdglhihaaGreatDoorQd10
import Derived.Test.YtbeaehhdglhihaaGreatDoorQd13
import Derived.Test.YtbeaehhdglhihaaGreatDoorQd14
import Derived.Test.YtbeaehhdglhihaaGreatDoorQd17
import Derived.Test.YtbeaehhdglhihaaGreatDoorQd20
import Derived.Test.YtbeaehhdglhihaaGreatDoorQd22
import Derived.Test.YtbeaehhdglhihaaGreatDoorQd23
import Derived.Test.YtbeaehhdglhihaaGreatDoorQd24
namespace Go.Proofs.Herb
open Go.RowKit
end Go.Proofs.Herb
namespace Go.Proofs.Herb
open Go.RowKit
end Go.Proofs.Herb
namespace Go.Proofs.Herb
open Go.RowKit
def zFact : Fact := ⟨⟨#[]⟩, 0, 0, 0, 0, ⟨#[]⟩⟩
end Go.Proofs.Herb
namespace Go.Proofs.Herb
open Go.RowKit
end Go.Proofs.Herb
namespace Go.Proofs.Herb
open Go.RowKit
/-- a reader's row -/
def rdRow (b f : Value) (p : Props) (k : Value) : Array Value := #[b, f, .int .u64 (p.line : Int), .int .u64 (p.many : Int), .string p.low, .string p.high, .int .u64 (p.least : Int), .int .u64 (p.greatest : Int), .int .u32 (p.early : Int), .int .u32 (p.late : Int), k]
/-- a reader as it lies -/
structure RdrAt (w : World) (R : Nat) (r : Rdr) : Prop where
  ex : ∃ q c fq fc kq kc, w.heap[R]? = some (.cells (rdRow (.slice q r.b.length c) (.slice fq r.filter.length fc) r.props (.slice kq r.chunks.length kc)) 159 (0, 0)) ∧ r.b.length ≤ c ∧ c ≤ maxLen ∧ Rd w q (r.b.map bv) ∧ (q = none → c = 0) ∧
    r.filter.length ≤ fc ∧ fc ≤ maxLen ∧ Rd w fq (r.filter.map bv) ∧ r.chunks.length ≤ kc ∧ kc ≤ maxLen ∧ Rd w kq (chkCells r.chunks)
theorem RdrAt.below {w w' : World} {R : Nat} {r : Rdr} (h : RdrAt w R r) (hb : Below w.heap.size w w') : RdrAt w' R r := by
  obtain ⟨q, c, fq, fc, kq, kc, h1, h2, h3, h4, h4b, h5, h6, h7, h8, h9, h10⟩ := h.ex
  exact ⟨q, c, fq, fc, kq, kc, (hb.block _ (lt_of_block h1)).trans h1, h2, h3, h4.below hb, h4b, h5, h6, h7.below hb, h8, h9, h10.below hb⟩
/-- nothing that was there is another one, but for one block, from which on nothing that is elder is another one -/
def Bel2 (R : Nat) (w w' : World) : Prop := Below R w w' ∧ ∀ g, g < w.heap.size → g ≠ R → w'.heap[g]? = w.heap[g]?
theorem Bel2.below {R : Nat} {w w1 w2 : World} (h : Bel2 R w w1) (hR : R < w.heap.size) (k : Below w1.heap.size w1 w2) : Bel2 R w w2 :=
  ⟨h.1.trans (k.mono (Nat.le_trans (Nat.le_of_lt hR) h.1.size)), fun g hg hn => (k.block g (Nat.lt_of_lt_of_le hg h.1.size)).trans (h.2 g hg hn)⟩
theorem Bel2.cell {R : Nat} {w w1 : World} (h : Bel2 R w w1) (j : Nat) (v : Value) : Bel2 R w (w1.setCell ⟨R, j, none⟩ v) :=
  ⟨h.1.setCell (p := ⟨R, j, none⟩) (Nat.le_refl _) _, fun g hg hn => (heap_setCell_other _ _ _ _ hn).trans (h.2 g hg hn)⟩
end Go.Proofs.Herb
namespace Go.Proofs.Herb
open Go.RowKit
end Go.Proofs.Herb
namespace Go.Proofs.Herb
open Go.RowKit
end Go.Proofs.Herb
namespace Go.Proofs.Herb
open Go.RowKit
/-- a reader that is not there, or has no chunks -/
def NoRdr (w : World) (q : Option Addr) : Prop := q = none ∨ ∃ R b f p kq kc, q = some ⟨R, 0, none⟩ ∧ w.heap[R]? = some (.cells (rdRow b f p (.slice kq 0 kc)) 159 (0, 0))
theorem NoRdr.below {w w' : World} {q : Option Addr} (h : NoRdr w q) (hb : Below w.heap.size w w') : NoRdr w' q := by
  rcases h with h | ⟨R, b, f, p, kq, kc, h1, h2⟩
  · exact .inl h
  · exact .inr ⟨R, b, f, p, kq, kc, h1, (hb.block _ (lt_of_block h2)).trans h2⟩
end Go.Proofs.Herb
namespace Go.Proofs.Herb
open Go.RowKit
end Go.Proofs.Herb
namespace Go.Proofs.Herb
open Go.RowKit
theorem ChksOf.snoc {r : Rdr} : ∀ {cs : List Chk} {c : Chk} {a b : List Fact}, ChksOf r cs a → ChkOf r c b → ChksOf r (cs ++ [c]) (a ++ b)
  | [], c, a, b, h, k => by
    obtain rfl : a = [] := h
    exact ⟨b, [], k, rfl, by simp⟩
  | d :: cs, c, a, b, h, k => by
    obtain ⟨x, y, h1, h2, rfl⟩ := h
    exact ⟨x, y ++ b, h1, h2.snoc k, by simp⟩
theorem ChksOf.one {r : Rdr} : ∀ {cs : List Chk} {a b : List Fact}, ChksOf r cs a → ChksOf r cs b → a = b
  | [], a, b, h, k => by
    obtain rfl : a = [] := h
    obtain rfl : b = [] := k
    rfl
  | d :: cs, a, b, h, k => by
    obtain ⟨x, y, h1, h2, rfl⟩ := h
    obtain ⟨x', y', k1, k2, rfl⟩ := k
    rw [h1.one k1, h2.one k2]
theorem ChkOf.ok {r : Rdr} {c : Chk} {fs : List Fact} (h : ChkOf r c fs) (hl : r.props.line < 18446744073709551616) : ∀ f ∈ fs, f.Ok := by
  obtain ⟨l, h1, -, h2⟩ := h
  intro f hf
  have h3 := allSome_mem h2 f hf
  rw [List.mem_map] at h3
  obtain ⟨x, hx, h4⟩ := h3
  exact (itemF?_ok hl (by have := (blk_sizes h1 x hx).2; unfold maxLen; omega) h4).1
theorem ChksOf.ok {r : Rdr} : ∀ {cs : List Chk} {a : List Fact}, ChksOf r cs a → r.props.line < 18446744073709551616 → ∀ f ∈ a, f.Ok
  | [], a, h, _ => by
    obtain rfl : a = [] := h
    intro f hf
    cases hf
  | d :: cs, a, h, hl => by
    obtain ⟨x, y, h1, h2, rfl⟩ := h
    intro f hf
    rcases List.mem_append.1 hf with hf | hf
    · exact h1.ok hl f hf
    · exact h2.ok hl f hf
/-- all facts of a reader's table -/
def AllR (r : Rdr) (fs : List Fact) : Prop := ChksOf r r.chunks fs ∧ (GoodF r.props.line fs ∧ 0 < fs.length) ∧ (tabB r.props.line fs).length ≤ 65536 ∧ tabB r.props.line fs = r.b
end Go.Proofs.Herb
namespace Go.Proofs.Herb
open Go.RowKit
/-- what the closures of From hold -/
structure ClosAt (w : World) (b1 b5 R : Nat) (r : Rdr) (s : ByteArray) : Prop where
  rd : RdrAt w R r
  bx : Boxed w b1 111 (.pointer (some ⟨R, 0, none⟩))
  sk : Boxed w b5 9 (.string s)
theorem ClosAt.below {w w' : World} {b1 b5 R : Nat} {r : Rdr} {s : ByteArray} (h : ClosAt w b1 b5 R r s) (hb : Below w.heap.size w w') : ClosAt w' b1 b5 R r s :=
  ⟨h.rd.below hb, (hb.block _ h.bx.lt).trans h.bx, (hb.block _ h.sk.lt).trans h.sk⟩
end Go.Proofs.Herb
namespace Go.Proofs.Herb
open Go.RowKit
/-- the block in which the slice in a box lies -/
def ownB (b : Nat) (W : World) : Option Nat := match W.cell? ⟨b, 0, none⟩ with
  | some v => v.ownBlock
  | none => none
theorem ownB_block {b : Nat} {A C : World} (h : C.heap[b]? = A.heap[b]?) : ownB b C = ownB b A := by
  unfold ownB World.cell?
  simp only [h]
/-- what a round may write: some boxes, the block of a slice in one of them, and what is new -/
structure KpO (t0 : Nat) (Bs : Nat → Prop) (bo : Nat) (A C : World) : Prop where
  el : Below t0 A C
  own : ∀ x, ownB bo C = some x → ownB bo A = some x ∨ A.heap.size ≤ x
  lt : (∀ x, ownB bo A = some x → x < A.heap.size) → ∀ x, ownB bo C = some x → x < C.heap.size
  same : ∀ (g : Nat) (cs : Array Value) (t : TypeId) (fr : Nat × Nat), A.heap[g]? = some (.cells cs t fr) → ¬ Bs g → ownB bo A ≠ some g → C.heap[g]? = some (.cells cs t fr)
theorem KpO.trans {t0 : Nat} {Bs : Nat → Prop} {bo : Nat} (A B C : World) (h : KpO t0 Bs bo A B) (k : KpO t0 Bs bo B C) : KpO t0 Bs bo A C := by
  refine ⟨h.el.trans k.el, fun x hx => ?_, fun ha => k.lt (h.lt ha), fun g cs t fr hg hn ho => ?_⟩
  · rcases k.own x hx with h1 | h1
    · exact h.own x h1
    · exact .inr (Nat.le_trans h.el.size h1)
  · refine k.same g cs t fr (h.same g cs t fr hg hn ho) hn (fun e => ?_)
    rcases h.own g e with h1 | h1
    · exact ho h1
    · have := lt_of_block hg
      omega
/-- .. in a world that has all these blocks -/
def KpC (t0 : Nat) (Bs : Nat → Prop) (bo : Nat) (A C : World) : Prop := t0 ≤ A.heap.size → bo < A.heap.size → KpO t0 Bs bo A C
theorem KpC.trans {t0 : Nat} {Bs : Nat → Prop} {bo : Nat} (A B C : World) (h : KpC t0 Bs bo A B) (k : KpC t0 Bs bo B C) : KpC t0 Bs bo A C := fun h1 h2 =>
  KpO.trans A B C (h h1 h2) (k (Nat.le_trans h1 (h h1 h2).el.size) (Nat.lt_of_lt_of_le h2 (h h1 h2).el.size))
theorem KpC.of_below {t0 : Nat} {Bs : Nat → Prop} {bo : Nat} (A C : World) (hb : Below A.heap.size A C) : KpC t0 Bs bo A C := fun h1 h2 =>
  ⟨hb.mono h1, fun x hx => by rw [ownB_block (hb.block _ h2)] at hx; exact .inl hx, fun ha x hx => by
    rw [ownB_block (hb.block _ h2)] at hx
    exact Nat.lt_of_lt_of_le (ha x hx) hb.size, fun g cs t fr hg _ _ => (hb.block _ (lt_of_block hg)).trans hg⟩
/-- cells that no round writes -/
structure Safe (Bs : Nat → Prop) (bo g : Nat) (cs : Array Value) (t : TypeId) (W : World) : Prop where
  at_ : W.heap[g]? = some (.cells cs t (0, 0))
  bs : ¬ Bs g
  own : ownB bo W ≠ some g
theorem Safe.below {Bs : Nat → Prop} {bo g : Nat} {cs : Array Value} {t : TypeId} {A C : World} (h : Safe Bs bo g cs t A) (hb : Below A.heap.size A C) (ho : bo < A.heap.size) : Safe Bs bo g cs t C :=
  ⟨(hb.block _ (lt_of_block h.at_)).trans h.at_, h.bs, by rw [ownB_block (hb.block bo ho)]; exact h.own⟩
theorem Safe.new {Bs : Nat → Prop} {bo g : Nat} {cs : Array Value} {t : TypeId} {A C : World} (hb : Below A.heap.size A C) (ho : bo < A.heap.size) (hlt : ∀ x, ownB bo A = some x → x < A.heap.size) (hB : ∀ x, Bs x → x < A.heap.size) (hg : A.heap.size ≤ g) (hc : C.heap[g]? = some (.cells cs t (0, 0))) : Safe Bs bo g cs t C :=
  ⟨hc, fun e => by have := hB g e; omega, fun e => by
    rw [ownB_block (hb.block bo ho)] at e
    have := hlt g e
    omega⟩
/-- the facts that do not stand ahead of a key -/
def keepS (s : ByteArray) (fs : List Fact) : List (Fact × Int) := (fs.filter fun f => !bL (kput f) s.data.toList).map fun f => (f, 0)
/-- what is told of some chunks, from a key on -/
def FromR (r : Rdr) (s : ByteArray) : List Chk → List (Fact × Int) → Prop
  | [], xs => xs = []
  | c :: cs, xs => (∃ fs ys, ChkOf r c fs ∧ FromR r s cs ys ∧ xs = keepS s fs ++ ys) ∨ ((¬ ∃ fs, ChkOf r c fs) ∧ xs = [(zFact, 13)])
theorem FromR.one {r : Rdr} {s : ByteArray} : ∀ {cs : List Chk} {a b : List (Fact × Int)}, FromR r s cs a → FromR r s cs b → a = b
  | [], a, b, h, k => by
    obtain rfl : a = [] := h
    obtain rfl : b = [] := k
    rfl
  | c :: cs, a, b, h, k => by
    rcases h with ⟨fs, ys, h1, h2, rfl⟩ | ⟨h1, rfl⟩
    · rcases k with ⟨fs', ys', k1, k2, rfl⟩ | ⟨k1, -⟩
      · rw [k1.one h1, h2.one k2]
      · exact absurd ⟨fs, h1⟩ k1
    · rcases k with ⟨fs', ys', k1, k2, rfl⟩ | ⟨k1, rfl⟩
      · exact absurd ⟨fs', k1⟩ h1
      · rfl
/-- of a reader all of whose chunks can be read: all facts that do not stand ahead -/
theorem FromR.all {r : Rdr} {s : ByteArray} : ∀ {cs : List Chk} {fs : List Fact}, ChksOf r cs fs → FromR r s cs (keepS s fs)
  | [], fs, h => by
    obtain rfl : fs = [] := h
    exact rfl
  | c :: cs, fs, h => by
    obtain ⟨a, b, h1, h2, rfl⟩ := h
    refine .inl ⟨a, keepS s b, h1, FromR.all h2, ?_⟩
    unfold keepS
    rw [List.filter_append, List.map_append]
/-- what is told is facts, and at most one error behind them -/
theorem FromR.shape {r : Rdr} {s : ByteArray} : ∀ {cs : List Chk} {xs : List (Fact × Int)}, FromR r s cs xs → ∃ (l : List Fact) (b : Bool), xs = l.map (fun f => (f, 0)) ++ (if b = true then [(zFact, 13)] else [])
  | [], xs, h => by
    obtain rfl : xs = [] := h
    exact ⟨[], false, rfl⟩
  | c :: cs, xs, h => by
    rcases h with ⟨fs, ys, h1, h2, rfl⟩ | ⟨h1, rfl⟩
    · obtain ⟨l, b, rfl⟩ := h2.shape
      exact ⟨_ ++ l, b, by unfold keepS; rw [List.map_append, List.append_assoc]⟩
    · exact ⟨[], true, rfl⟩
/-- what a chunk's facts are -/
theorem ChkOf.may {r : Rdr} {c : Chk} {fs : List Fact} (h : ChkOf r c fs) (hl : r.props.line < 18446744073709551616) : ∀ f ∈ fs, f.Ok ∧ mayF f = true := by
  obtain ⟨l, h1, -, h2⟩ := h
  intro f hf
  have h3 := allSome_mem h2 f hf
  rw [List.mem_map] at h3
  obtain ⟨x, hx, h4⟩ := h3
  have h5 := itemF?_ok hl (by have := (blk_sizes h1 x hx).2; unfold maxLen; omega) h4
  exact ⟨h5.1, h5.2.1⟩
/-- where From's iterator stands -/
structure FrOk (W0 : World) (Bs : Nat → Prop) (bo b1 b2 b3 R : Nat) (key : ByteArray) (valid : Nat) (W : World) : Prop where
  el : Below W0.heap.size W0 W
  s1 : Safe Bs bo b1 #[.pointer (some ⟨R, 0, none⟩)] 111 W
  s2 : Safe Bs bo b2 #[.string key] 9 W
  s3 : Safe Bs bo b3 #[.int .u32 (valid : Int)] 52 W
  ob : bo < W.heap.size
  own : ∀ x, ownB bo W = some x → x < W.heap.size
  bs : ∀ x, Bs x → x < W.heap.size
theorem FrOk.below {W0 : World} {Bs : Nat → Prop} {bo b1 b2 b3 R : Nat} {key : ByteArray} {valid : Nat} {A C : World} (h : FrOk W0 Bs bo b1 b2 b3 R key valid A) (hb : Below A.heap.size A C) : FrOk W0 Bs bo b1 b2 b3 R key valid C :=
  ⟨h.el.trans (hb.mono h.el.size), h.s1.below hb h.ob, h.s2.below hb h.ob, h.s3.below hb h.ob, Nat.lt_of_lt_of_le h.ob hb.size, fun x hx => by
    rw [ownB_block (hb.block _ h.ob)] at hx
    exact Nat.lt_of_lt_of_le (h.own x hx) hb.size, fun x hx => Nat.lt_of_lt_of_le (h.bs x hx) hb.size⟩
end Go.Proofs.Herb
namespace Go.Proofs.Herb
open Go.RowKit
end Go.Proofs.Herb
namespace Go.Proofs.Herb
open Go.RowKit
attribute [local go_sem] Oper.semAt_some
end Go.Proofs.Herb
namespace Go.Proofs.Herb
open Go.RowKit
end Go.Proofs.Herb
