/- The contracts of the closure that From searches by, and of sort.Search with it. What a range over From tells, and what a round may write: plain. From's iterator: what it promises. The contract of readers.(*Reader).From; where the range of law13.told stands. What is told of a built table, from a key and time on: plain. -/
import Derived.Sort.CutIn
import Derived.Test.YtcmiillgniglaaaGreatDoorQf10
import Derived.Test.YtcmiillgniglaaaGreatDoorQf16
import Derived.Test.YtcmiillgniglaaaGreatDoorQf26
namespace Go.Proofs.Herb
open Go.RowKit
/-- the chunks' last keys rise -/
def RiseC (cs : List Chk) : Prop := ∀ (i j : Nat) (hj : j < cs.length) (hi : i < j), bL (cs[i]'(by omega)).last.data.toList cs[j].last.data.toList = true
/-- what the closures of From hold -/
structure ClosAt (w : World) (b1 b5 R : Nat) (r : Rdr) (s : ByteArray) : Prop where
  rd : RdrAt w R r
  bx : Boxed w b1 64 (.pointer (some ⟨R, 0, none⟩))
  sk : Boxed w b5 9 (.string s)
theorem ClosAt.below {w w' : World} {b1 b5 R : Nat} {r : Rdr} {s : ByteArray} (h : ClosAt w b1 b5 R r s) (hb : Below w.heap.size w w') : ClosAt w' b1 b5 R r s :=
  ⟨h.rd.below hb, (hb.block _ h.bx.lt).trans h.bx, (hb.block _ h.sk.lt).trans h.sk⟩
end Go.Proofs.Herb
namespace Go.Proofs.Herb
open Go.RowKit
/-- the block in which the slice in a box lies -/
def ownB (b : Nat) (W : World) : Option Nat := match W.cell? ⟨b, 0, none⟩ with
  | some v => v.ownBlock
  | none => none
theorem ownB_block {b : Nat} {A C : World} (h : C.heap[b]? = A.heap[b]?) : ownB b C = ownB b A := by
  unfold ownB World.cell?
  simp only [h]
/-- what a round may write: some boxes, the block of a slice in one of them, and what is new -/
structure KpO (t0 : Nat) (Bs : Nat → Prop) (bo : Nat) (A C : World) : Prop where
  el : Below t0 A C
  own : ∀ x, ownB bo C = some x → ownB bo A = some x ∨ A.heap.size ≤ x
  lt : (∀ x, ownB bo A = some x → x < A.heap.size) → ∀ x, ownB bo C = some x → x < C.heap.size
  same : ∀ (g : Nat) (cs : Array Value) (t : TypeId) (fr : Nat × Nat), A.heap[g]? = some (.cells cs t fr) → ¬ Bs g → ownB bo A ≠ some g → C.heap[g]? = some (.cells cs t fr)
theorem KpO.trans {t0 : Nat} {Bs : Nat → Prop} {bo : Nat} (A B C : World) (h : KpO t0 Bs bo A B) (k : KpO t0 Bs bo B C) : KpO t0 Bs bo A C := by
  refine ⟨h.el.trans k.el, fun x hx => ?_, fun ha => k.lt (h.lt ha), fun g cs t fr hg hn ho => ?_⟩
  · rcases k.own x hx with h1 | h1
    · exact h.own x h1
    · exact .inr (Nat.le_trans h.el.size h1)
  · refine k.same g cs t fr (h.same g cs t fr hg hn ho) hn (fun e => ?_)
    rcases h.own g e with h1 | h1
    · exact ho h1
    · have := lt_of_block hg
      omega
/-- .. in a world that has all these blocks -/
def KpC (t0 : Nat) (Bs : Nat → Prop) (bo : Nat) (A C : World) : Prop := t0 ≤ A.heap.size → bo < A.heap.size → KpO t0 Bs bo A C
theorem KpC.trans {t0 : Nat} {Bs : Nat → Prop} {bo : Nat} (A B C : World) (h : KpC t0 Bs bo A B) (k : KpC t0 Bs bo B C) : KpC t0 Bs bo A C := fun h1 h2 =>
  KpO.trans A B C (h h1 h2) (k (Nat.le_trans h1 (h h1 h2).el.size) (Nat.lt_of_lt_of_le h2 (h h1 h2).el.size))
/-- cells that no round writes -/
structure Safe (Bs : Nat → Prop) (bo g : Nat) (cs : Array Value) (t : TypeId) (W : World) : Prop where
  at_ : W.heap[g]? = some (.cells cs t (0, 0))
  bs : ¬ Bs g
  own : ownB bo W ≠ some g
theorem Safe.below {Bs : Nat → Prop} {bo g : Nat} {cs : Array Value} {t : TypeId} {A C : World} (h : Safe Bs bo g cs t A) (hb : Below A.heap.size A C) (ho : bo < A.heap.size) : Safe Bs bo g cs t C :=
  ⟨(hb.block _ (lt_of_block h.at_)).trans h.at_, h.bs, by rw [ownB_block (hb.block bo ho)]; exact h.own⟩
theorem Safe.new {Bs : Nat → Prop} {bo g : Nat} {cs : Array Value} {t : TypeId} {A C : World} (hb : Below A.heap.size A C) (ho : bo < A.heap.size) (hlt : ∀ x, ownB bo A = some x → x < A.heap.size) (hB : ∀ x, Bs x → x < A.heap.size) (hg : A.heap.size ≤ g) (hc : C.heap[g]? = some (.cells cs t (0, 0))) : Safe Bs bo g cs t C :=
  ⟨hc, fun e => by have := hB g e; omega, fun e => by
    rw [ownB_block (hb.block bo ho)] at e
    have := hlt g e
    omega⟩
/-- the facts that do not stand ahead of a key -/
def keepS (s : ByteArray) (fs : List Fact) : List (Fact × Int) := (fs.filter fun f => !bL (kput f) s.data.toList).map fun f => (f, 0)
/-- what is told of some chunks, from a key on -/
def FromR (r : Rdr) (s : ByteArray) : List Chk → List (Fact × Int) → Prop
  | [], xs => xs = []
  | c :: cs, xs => (∃ fs ys, ChkOf r c fs ∧ FromR r s cs ys ∧ xs = keepS s fs ++ ys) ∨ ((¬ ∃ fs, ChkOf r c fs) ∧ xs = [(zFact, 13)])
theorem FromR.one {r : Rdr} {s : ByteArray} : ∀ {cs : List Chk} {a b : List (Fact × Int)}, FromR r s cs a → FromR r s cs b → a = b
  | [], a, b, h, k => by
    obtain rfl : a = [] := h
    obtain rfl : b = [] := k
    rfl
  | c :: cs, a, b, h, k => by
    rcases h with ⟨fs, ys, h1, h2, rfl⟩ | ⟨h1, rfl⟩
    · rcases k with ⟨fs', ys', k1, k2, rfl⟩ | ⟨k1, -⟩
      · rw [k1.one h1, h2.one k2]
      · exact absurd ⟨fs, h1⟩ k1
    · rcases k with ⟨fs', ys', k1, k2, rfl⟩ | ⟨k1, rfl⟩
      · exact absurd ⟨fs', k1⟩ h1
      · rfl
/-- of a reader all of whose chunks can be read: all facts that do not stand ahead -/
theorem FromR.all {r : Rdr} {s : ByteArray} : ∀ {cs : List Chk} {fs : List Fact}, ChksOf r cs fs → FromR r s cs (keepS s fs)
  | [], fs, h => by
    obtain rfl : fs = [] := h
    exact rfl
  | c :: cs, fs, h => by
    obtain ⟨a, b, h1, h2, rfl⟩ := h
    refine .inl ⟨a, keepS s b, h1, FromR.all h2, ?_⟩
    unfold keepS
    rw [List.filter_append, List.map_append]
/-- what a chunk's facts are -/
theorem ChkOf.may {r : Rdr} {c : Chk} {fs : List Fact} (h : ChkOf r c fs) (hl : r.props.line < 18446744073709551616) : ∀ f ∈ fs, f.Ok ∧ mayF f = true := by
  obtain ⟨l, h1, -, h2⟩ := h
  intro f hf
  have h3 := allSome_mem h2 f hf
  rw [List.mem_map] at h3
  obtain ⟨x, hx, h4⟩ := h3
  have h5 := itemF?_ok hl (by have := (blk_sizes h1 x hx).2; unfold maxLen; omega) h4
  exact ⟨h5.1, h5.2.1⟩
/-- what may be asked of a reader whose facts may be many -/
structure Rdr.Fit0 (r : Rdr) : Prop where
  n0 : 0 < r.chunks.length
  n1 : r.chunks.length ≤ 65536
  at_ : ∀ c ∈ r.chunks, c.beg < c.fin ∧ c.fin ≤ r.b.length
  b : r.b.length ≤ 4194304
  line : r.props.line < 18446744073709551616
  rise : RiseC r.chunks
/-- where From's iterator stands -/
structure FrOk (W0 : World) (Bs : Nat → Prop) (bo b1 b2 b3 R : Nat) (key : ByteArray) (valid : Nat) (W : World) : Prop where
  el : Below W0.heap.size W0 W
  s1 : Safe Bs bo b1 #[.pointer (some ⟨R, 0, none⟩)] 64 W
  s2 : Safe Bs bo b2 #[.string key] 9 W
  s3 : Safe Bs bo b3 #[.int .u32 (valid : Int)] 39 W
  ob : bo < W.heap.size
  own : ∀ x, ownB bo W = some x → x < W.heap.size
  bs : ∀ x, Bs x → x < W.heap.size
theorem FrOk.below {W0 : World} {Bs : Nat → Prop} {bo b1 b2 b3 R : Nat} {key : ByteArray} {valid : Nat} {A C : World} (h : FrOk W0 Bs bo b1 b2 b3 R key valid A) (hb : Below A.heap.size A C) : FrOk W0 Bs bo b1 b2 b3 R key valid C :=
  ⟨h.el.trans (hb.mono h.el.size), h.s1.below hb h.ob, h.s2.below hb h.ob, h.s3.below hb h.ob, Nat.lt_of_lt_of_le h.ob hb.size, fun x hx => by
    rw [ownB_block (hb.block _ h.ob)] at hx
    exact Nat.lt_of_lt_of_le (h.own x hx) hb.size, fun x hx => Nat.lt_of_lt_of_le (h.bs x hx) hb.size⟩
end Go.Proofs.Herb
namespace Go.Proofs.Herb
open Go.RowKit
end Go.Proofs.Herb
namespace Go.Proofs.Herb
open Go.RowKit
attribute [local go_sem] Oper.semAt_some
end Go.Proofs.Herb
namespace Go.Proofs.Herb
open Go.RowKit
theorem blk_rise {b : List UInt8} {l : List Item} (h : BlkOf b l) : RiseK l := riseK_of fun j hj => (leS_of _ _).1 (h.1.2 j hj)
theorem rise_of {bs : List UInt8} {r : Rdr} (h : Opens bs r) : RiseC r.chunks := by
  obtain ⟨l, h1, h2⟩ := h.idx
  have hk := idxR_keys h2
  have hr := blk_rise h1
  have hlen : r.chunks.length = l.length := by
    have := congrArg List.length hk
    simpa using this
  intro i j hj hi
  have key : ∀ (n : Nat) (hn : n < r.chunks.length), r.chunks[n].last = (l[n]'(by omega)).key := fun n hn => by
    have h3 : (r.chunks.map (·.last))[n]? = (l.map (·.key))[n]? := by rw [hk]
    rw [List.getElem?_map, List.getElem?_map, List.getElem?_eq_getElem hn, List.getElem?_eq_getElem (by omega)] at h3
    exact Option.some.inj h3
  rw [key i (by omega), key j hj]
  exact hr i j (by omega) hi
theorem propsR_line {b : List UInt8} {p : Props} (h : propsR b = some p) : p.line < 18446744073709551616 := by
  unfold propsR at h
  cases ha : tkB b with
  | none => rw [ha] at h; cases h
  | some a =>
    rw [ha, Option.bind_some] at h
    have h1 := (tkB_len ha).2
    obtain ⟨x1, -, h⟩ := Option.bind_eq_some_iff.1 h
    obtain ⟨x2, -, h⟩ := Option.bind_eq_some_iff.1 h
    obtain ⟨x3, -, h⟩ := Option.bind_eq_some_iff.1 h
    obtain ⟨x4, -, h⟩ := Option.bind_eq_some_iff.1 h
    obtain ⟨x5, -, h⟩ := Option.bind_eq_some_iff.1 h
    obtain ⟨x6, -, h⟩ := Option.bind_eq_some_iff.1 h
    obtain ⟨x7, -, h⟩ := Option.bind_eq_some_iff.1 h
    split at h
    · cases h; exact h1
    · cases h
theorem fit0_of {bs : List UInt8} {r : Rdr} (h : Opens bs r) (hm : bs.length ≤ 4194304) : r.Fit0 := by
  obtain ⟨h1, h2, h3⟩ := h.facts
  obtain ⟨l, k1, k2⟩ := h.idx
  have hk := congrArg List.length (idxR_keys k2)
  rw [List.length_map, List.length_map] at hk
  have := (blk_short k1).2
  exact ⟨h1, by omega, fun c hc => by rw [h.b]; exact h2 c hc, by rw [h.b]; exact hm, propsR_line h.props, rise_of h⟩
theorem fit_of {bs : List UInt8} {r : Rdr} (h : Opens bs r) (hm : bs.length ≤ 4194304) (hf : ∀ fs, ChksOf r r.chunks fs → fs.length ≤ 6000) : r.Fit :=
  have h0 := fit0_of h hm
  ⟨h0.n0, h0.n1, h0.at_, h0.b, h0.line, hf⟩
end Go.Proofs.Herb
