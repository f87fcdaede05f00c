/- The contracts of varints.Get and GetText. For bytes that can be read. The contracts of blocks.numbered and opened. For bytes that can be read. A block's items, read: plain. The contract of slices.Equal at bytes. For slices that can be read. The contract of blocks.all. For bytes that can be read. The contract of blocks.all and Get: the walk. For bytes that can be read. The contract of blocks.Get. For bytes that can be read. The plain law of TablesParts: chunks, their places, their sizes. No program. The plain law of TablesParts: what the walk asks of the i-th chunk. No program. A table, opened and read: plain. A table that was built, opened and read: plain. The rest of a slice of bytes. For bytes that can be read. The contracts of readers.must, number, taken and text. For bytes that can be read. The contract of readers.props. For bytes that can be read. Printed by gen_rdb.py. The contract of readers.index. For bytes that can be read. The parts of facts, of which each becomes a table: where they begin and end; together they are the facts; a key lies in one alone. Plain lists; no condition. The contracts of chores.parts and of its iterator. For facts that can be read. (printed by gen_chi.py) -/
import Derived.Sort.CutIn
import Derived.WalkLawsBesides
import Derived.Deep.QuietTactic
import Derived.BigQuiet
import Derived.Test.YtbeaehhdglhihaaGreatDoorQd01
import Derived.Test.YtbeaehhdglhihaaGreatDoorQd02
import Derived.Test.YtbeaehhdglhihaaGreatDoorQd04
import Derived.Test.YtbeaehhdglhihaaGreatDoorQd05
import Derived.Test.YtbeaehhdglhihaaGreatDoorQd08
import Derived.Test.YtbeaehhdglhihaaGreatDoorQd13
import Derived.Test.YtbeaehhdglhihaaGreatDoorQd16
import Derived.Test.YtbeaehhdglhihaaGreatDoorQd17
import Derived.Test.YtbeaehhdglhihaaGreatDoorQd20
import Derived.Test.YtbeaehhdglhihaaGreatDoorQd22
import Derived.Test.YtbeaehhdglhihaaGreatDoorQd23
namespace Go.Proofs.Herb
open Go.RowKit
/-- a number that bytes begin with: it, how many bytes, what is wrong -/
def getV : Nat → Nat → List UInt8 → Nat × Nat × Int
  | _, _, [] => (0, 0, 5)
  | n, i, c :: r => if (0 < i ∧ c = 0) ∨ (i = 9 ∧ 1 < c.toNat) then (0, 0, 4) else if c.toNat < 128 then (n + c.toNat * 2 ^ (7 * i), i + 1, 0) else getV (n + c.toNat % 128 * 2 ^ (7 * i)) (i + 1) r
/-- a text that bytes begin with -/
def getT (l : List UInt8) : List UInt8 × Nat × Int :=
  if (getV 0 0 l).2.2 ≠ 0 then ([], 0, (getV 0 0 l).2.2) else if l.length - (getV 0 0 l).2.1 < (getV 0 0 l).1 then ([], 0, 5) else ((l.drop (getV 0 0 l).2.1).take (getV 0 0 l).1, (getV 0 0 l).2.1 + (getV 0 0 l).1, 0)
end Go.Proofs.Herb
namespace Go.Proofs.Herb
open Go.RowKit
end Go.Proofs.Herb
namespace Go.Proofs.Herb
open Go.RowKit
end Go.Proofs.Herb
namespace Go.Proofs.Herb
open Go.RowKit
end Go.Proofs.Herb
namespace Go.Proofs.Herb
open Go.RowKit
attribute [local go_sem] Oper.semAt_some
/-- bytes are these items' block -/
def BlkOf (b : List UInt8) (l : List Item) : Prop := RiseI l ∧ bAll l = b ∧ b.length ≤ 65536
theorem kAt_len (l : List Item) : ∀ i, (kAt l i).length ≤ (bUp l (i + 1)).length ∧ (vAt l i).length ≤ (bUp l (i + 1)).length
  | 0 => by
    rw [bUp_succ]
    unfold itB
    have h0 : shAt l 0 = 0 := rfl
    rw [h0]
    simp only [List.length_append, tput_len, List.drop_zero]
    omega
  | i + 1 => by
    obtain ⟨h1, h2⟩ := kAt_len l i
    rw [bUp_succ]
    have hk := kAt_sh l (i + 1)
    have hkl := congrArg List.length hk
    rw [List.length_append, List.length_take] at hkl
    rw [Nat.add_sub_cancel] at hkl
    unfold itB
    simp only [List.length_append, tput_len]
    omega
theorem blk_short {b : List UInt8} {l : List Item} (h : BlkOf b l) : Short l ∧ l.length ≤ 65536 := by
  obtain ⟨h1, h2, h3⟩ := h
  have h4 := bAll_len l
  rw [h2] at h4
  have hl : l.length ≤ 65536 := by
    have : ∀ k, k ≤ (bUp l k).length := by
      intro k
      induction k with
      | zero => exact Nat.zero_le _
      | succ k ih =>
        rw [bUp_succ, List.length_append]
        have := List.length_pos_iff.2 (itB_ne l k)
        omega
    have := this l.length
    omega
  refine ⟨fun x hx => ?_, hl⟩
  obtain ⟨i, hi, rfl⟩ := List.mem_iff_getElem.1 hx
  have h5 := kAt_len l i
  rw [kAt_get hi, vAt_get hi, size_toList, size_toList] at h5
  have h6 := bUp_mono l (show i + 1 ≤ l.length by omega)
  omega
/-- the boxes of all's results -/
structure ARes (W : World) (B : Nat) (x : Array Value) (v : Value) (e : Int) : Prop where
  r2 : W.heap[B]? = some (.cells x 228 (0, 0))
  r3 : Boxed W (B + 1) 136 v
  r4 : Boxed W (B + 2) 34 (.int .i64 e)
  hs : x.size = 2
theorem ARes.below {W A : World} {B : Nat} {x : Array Value} {v : Value} {e : Int} (h : ARes A B x v e) (hb : Below A.heap.size A W) : ARes W B x v e :=
  ⟨(hb.block _ (lt_of_block h.r2)).trans h.r2, (hb.block _ h.r3.lt).trans h.r3, (hb.block _ h.r4.lt).trans h.r4, h.hs⟩
theorem ARes.putObj {W : World} {B : Nat} {x : Array Value} {v : Value} {e : Int} (h : ARes W B x v e) {g : Nat} {o : Obj} (o' : Obj) (ho : W.heap[g]? = some o) (hc : o.isCells = false) : ARes (W.putObj g o') B x v e :=
  ⟨(World.putObj_heap_other (fun e => by subst e; have := h.r2; rw [ho] at this; cases this; cases hc)).trans h.r2, boxed_putObj h.r3 o' ho hc, boxed_putObj h.r4 o' ho hc, h.hs⟩
end Go.Proofs.Herb
namespace Go.Proofs.Herb
open Go.RowKit
attribute [local go_sem] Oper.semAt_some
/-- where the range stands -/
structure BamI (w : World) (B b4 bb : Nat) (ob : Obj) (x : Array Value) (pre : List (Item × Bool)) (W : World) : Prop where
  r2 : W.heap[B]? = some (.cells x 228 (0, 0))
  r4 : Boxed W (B + 2) 34 (.int .i64 0)
  r3 : ∃ q c, Boxed W (B + 1) 136 (.slice q pre.length c) ∧ W.ownsRow (b4 + 2) 141 2 (.slice q pre.length c) pre.length (iCells (pre.map (·.1)))
  all : ∀ y ∈ pre, y.2 = true
  blk : W.heap[bb]? = some ob
  below : Below w.heap.size w W
theorem BamI.stays (w : World) (B b4 bb : Nat) (ob : Obj) (x : Array Value) (pre : List (Item × Bool)) : Stays (BamI w B b4 bb ob x pre) := by
  rintro A W ⟨h1, h2, ⟨q, c, h3, h4⟩, h5, h6, h7⟩ hb
  exact ⟨(hb.block _ (lt_of_block h1)).trans h1, (hb.block _ h2.lt).trans h2, ⟨q, c, (hb.block _ h3.lt).trans h3, own_below h4 hb⟩, h5, (hb.block _ (lt_of_block h6)).trans h6, h7.trans (hb.mono h7.size)⟩
theorem BamI.only (w : World) (B b4 bb : Nat) (ob : Obj) (x : Array Value) (hB : B + 2 < b4) (hbb : bb < b4) (hw : w.heap.size ≤ b4) (pre : List (Item × Bool)) (A W : World) (h : BamI w B b4 bb ob x pre A) (hr : Only (fun g => g = b4 ∨ g = b4 + 1) A W) : BamI w B b4 bb ob x pre W := by
  obtain ⟨h1, h2, ⟨q, c, h3, h4⟩, h5, h6, h7⟩ := h
  exact ⟨hr.same _ _ h1 (by omega), hr.same _ _ h2 (by omega), ⟨q, c, hr.same _ _ h3 (by omega), own_only hr h4 (fun g hg e => by have := (own_lt2 h4 g hg).1; omega)⟩, h5, hr.same _ _ h6 (by omega), h7.trans (hr.below h7.size (fun g hg e => by omega))⟩
theorem own_putObj2 {W : World} {base : Nat} {e : TypeId} {k n : Nat} {v : Value} {xs : List Value} (h : W.ownsRow base e k v n xs) {l : Nat} {o : Obj} (o' : Obj) (ho : W.heap[l]? = some o) (hc : o.isCells = false) : (W.putObj l o').ownsRow base e k v n xs :=
  own_keep2 h fun g hg => World.putObj_heap_other (fun e => by
    obtain ⟨_, h2⟩ := h
    rcases h2 with ⟨rfl, _⟩ | ⟨g', cap, cur, rfl, _, hh, _⟩
    · cases hg
    · cases hg
      subst e
      rw [ho] at hh
      cases hh
      cases hc)
theorem BamI.turns (w : World) (B b4 bb : Nat) (ob : Obj) (x : Array Value) (b0 : Nat) (hbb : bb < b0) (hw : w.heap.size ≤ b0) (hB : B + 2 < b0) (pre : List (Item × Bool)) : Turns b0 (BamI w B b4 bb ob x pre) := by
  rintro W l o o' ⟨h1, h2, ⟨q, c, h3, h4⟩, h5, h6, h7⟩ hl ho hc
  exact ⟨(World.putObj_heap_other (by omega)).trans h1, boxed_putObj h2 o' ho hc, ⟨q, c, boxed_putObj h3 o' ho hc, own_putObj2 h4 o' ho hc⟩, h5, (World.putObj_heap_other (by omega)).trans h6, below_putObj h7 (by omega) o' ho⟩
end Go.Proofs.Herb
namespace Go.Proofs.Herb
open Go.RowKit
attribute [local go_sem] Oper.semAt_some
end Go.Proofs.Herb
namespace Go.Proofs.Herb
end Go.Proofs.Herb
namespace Go.Proofs.Herb
theorem blk_one {b : List UInt8} {l m : List Item} (h : BlkOf b l) (k : BlkOf b m) : m = l := by
  obtain ⟨h1, h2⟩ := blk_short h
  obtain ⟨k1, k2⟩ := blk_short k
  exact bAll_inj k1 h1 (by omega) (by omega) (k.2.1.trans h.2.1.symm)
end Go.Proofs.Herb
namespace Go.Proofs.Herb
open Go.RowKit
/-- a number, and what stands behind it -/
def tkB (l : List UInt8) : Option (Nat × List UInt8) := if (getV 0 0 l).2.2 = 0 then some ((getV 0 0 l).1, l.drop (getV 0 0 l).2.1) else none
/-- a text, and what stands behind it -/
def txB (l : List UInt8) : Option (ByteArray × List UInt8) := if (getT l).2.2 = 0 then some (⟨(getT l).1.toArray⟩, l.drop (getT l).2.1) else none
/-- props of bytes -/
def propsR (l : List UInt8) : Option Props :=
  (tkB l).bind fun a => (tkB a.2).bind fun b => (txB b.2).bind fun c => (txB c.2).bind fun d => (tkB d.2).bind fun e => (tkB e.2).bind fun f => (tkB f.2).bind fun g => (tkB g.2).bind fun h =>
    if h.2 = [] ∧ g.1 ≤ 4294967295 ∧ h.1 ≤ 4294967295 then some ⟨a.1, b.1, c.1, d.1, e.1, f.1, g.1, h.1⟩ else none
/-- a chunk: its last key, and where its block stands -/
structure Chk where
  last : ByteArray
  beg : Nat
  fin : Nat
def Chk.cells (c : Chk) : List Value := [.string c.last, .int .i64 (c.beg : Int), .int .i64 (c.fin : Int)]
def chkCells (l : List Chk) : List Value := l.flatMap Chk.cells
/-- the chunks that a block of them tells, whose own blocks end at a place -/
def idxR (fin : Nat) : Nat → List Item → Option (List Chk)
  | at_, [] => if at_ = fin then some [] else none
  | at_, x :: r => (tkB x.val.data.toList).bind fun a => (tkB a.2).bind fun b =>
    if b.2 = [] ∧ a.1 = at_ ∧ 0 < b.1 ∧ b.1 ≤ fin - at_ then (idxR fin (at_ + b.1) r).map fun l => ⟨x.key, at_, at_ + b.1⟩ :: l else none
/-- a reader -/
structure Rdr where
  b : List UInt8
  filter : List UInt8
  props : Props
  chunks : List Chk
/-- a number of a table's footer; a part of it -/
def ftN (bs : List UInt8) (k : Nat) : Nat := num4 (bs.drop (bs.length - 40)) k
def ftP (bs : List UInt8) (i : Nat) : List UInt8 := (bs.drop (ftN bs (4 + 8 * i))).take (ftN bs (8 + 8 * i))
/-- a table's bytes may be opened, as this reader -/
structure Opens (bs : List UInt8) (r : Rdr) : Prop where
  b : r.b = bs
  len : 40 ≤ bs.length
  magic : (bs.drop (bs.length - 40)).take 4 = [84, 66, 76, 49]
  sum : ftN bs 36 = (crcMore 0 ((bs.drop (bs.length - 40)).take 36)).toNat
  c0 : ftN bs 12 = ftN bs 4 + ftN bs 8
  c1 : ftN bs 20 = ftN bs 12 + ftN bs 16
  c2 : bs.length - 40 = ftN bs 20 + ftN bs 24
  s1 : ftN bs 28 = (crcMore 0 (ftP bs 1)).toNat
  s2 : ftN bs 32 = (crcMore 0 (ftP bs 2)).toNat
  idx : ∃ l, BlkOf (ftP bs 0) l ∧ idxR (ftN bs 4) 0 l = some r.chunks
  filter : r.filter = ftP bs 1
  props : propsR (ftP bs 2) = some r.props
theorem Opens.one {bs : List UInt8} {r s : Rdr} (h : Opens bs r) (k : Opens bs s) : s = r := by
  obtain ⟨l, h1, h2⟩ := h.idx
  obtain ⟨m, k1, k2⟩ := k.idx
  rw [blk_one h1 k1, h2] at k2
  have hp := h.props
  rw [k.props] at hp
  obtain ⟨a, b, c, d⟩ := r
  obtain ⟨a', b', c', d'⟩ := s
  have e1 := h.b
  have e2 := k.b
  have e3 := h.filter
  have e4 := k.filter
  dsimp only at *
  cases k2
  cases hp
  subst e1 e2 e3 e4
  rfl
/-- where the chunks that are told stand -/
theorem idxR_at {fin : Nat} : ∀ {l : List Item} {at_ : Nat} {cs : List Chk}, idxR fin at_ l = some cs → at_ ≤ fin → cs.length = l.length ∧ ∀ c ∈ cs, at_ ≤ c.beg ∧ c.beg < c.fin ∧ c.fin ≤ fin
  | [], at_, cs, h, _ => by
    unfold idxR at h
    split at h
    · cases h; exact ⟨rfl, fun c hc => by cases hc⟩
    · cases h
  | x :: r, at_, cs, h, h0 => by
    unfold idxR at h
    cases ha : tkB x.val.data.toList with
    | none => rw [ha] at h; cases h
    | some a =>
      rw [ha, Option.bind_some] at h
      cases hb : tkB a.2 with
      | none => rw [hb] at h; cases h
      | some b =>
        rw [hb, Option.bind_some] at h
        split at h
        · rename_i hc
          cases hr : idxR fin (at_ + b.1) r with
          | none => rw [hr] at h; cases h
          | some l =>
            rw [hr] at h
            cases h
            obtain ⟨h1, h2⟩ := idxR_at hr (by omega)
            refine ⟨by simp [h1], ?_⟩
            intro c hm
            rcases List.mem_cons.1 hm with rfl | hm
            · exact ⟨Nat.le_refl _, by show at_ < at_ + b.1; omega, by show at_ + b.1 ≤ fin; omega⟩
            · obtain ⟨g1, g2, g3⟩ := h2 c hm
              exact ⟨by omega, g2, g3⟩
        · cases h
theorem Opens.facts {bs : List UInt8} {r : Rdr} (h : Opens bs r) : 0 < r.chunks.length ∧ (∀ c ∈ r.chunks, c.beg < c.fin ∧ c.fin ≤ bs.length) ∧ r.filter.length ≤ bs.length := by
  obtain ⟨l, h1, h2⟩ := h.idx
  obtain ⟨g1, g2⟩ := idxR_at h2 (Nat.zero_le _)
  have hc := h.c0
  have hc1 := h.c1
  have hc2 := h.c2
  have hl : 0 < l.length := by
    obtain ⟨hr, -, -⟩ := h1
    exact hr.1
  refine ⟨by omega, fun c hm => ?_, ?_⟩
  · obtain ⟨k1, k2, k3⟩ := g2 c hm
    omega
  · rw [h.filter]
    unfold ftP
    rw [List.length_take, List.length_drop]
    omega
/-- facts of a chunk's items -/
def itemF? (line : Nat) (x : Item) : Option Fact := (kgetF x.key.data.toList).map fun f => ⟨f.key, f.valid, f.seq, line, f.kind, x.val⟩
/-- all of some answers, or none -/
def allSome {α : Type} : List (Option α) → Option (List α)
  | [] => some []
  | none :: _ => none
  | some x :: l => (allSome l).map (x :: ·)
/-- a chunk's facts -/
def ChkOf (r : Rdr) (c : Chk) (fs : List Fact) : Prop := ∃ l, BlkOf ((r.b.drop c.beg).take (c.fin - c.beg)) l ∧ lastKey l = c.last ∧ allSome (l.map (itemF? r.props.line)) = some fs
theorem ChkOf.one {r : Rdr} {c : Chk} {l m : List Fact} (h : ChkOf r c l) (k : ChkOf r c m) : m = l := by
  obtain ⟨x, h1, -, h2⟩ := h
  obtain ⟨y, k1, -, k2⟩ := k
  rw [blk_one h1 k1, h2] at k2
  cases k2
  rfl
theorem allSome_mem {α : Type} {l : List (Option α)} {k : List α} (h : allSome l = some k) : ∀ x ∈ k, some x ∈ l := by
  induction l generalizing k with
  | nil => unfold allSome at h; cases h; intro x hx; cases hx
  | cons y l ih =>
    cases y with
    | none => unfold allSome at h; cases h
    | some y =>
      unfold allSome at h
      cases hl : allSome l with
      | none => rw [hl] at h; cases h
      | some m =>
        rw [hl] at h
        cases h
        intro x hx
        rcases List.mem_cons.1 hx with rfl | hx
        · simp
        · exact List.mem_cons_of_mem _ (ih hl x hx)
theorem itemF?_ok {line : Nat} (hl : line < 18446744073709551616) {x : Item} {f : Fact} (hv : x.val.size ≤ maxLen) (h : itemF? line x = some f) : f.Ok ∧ mayF f = true ∧ f.line = line ∧ f.val = x.val := by
  unfold itemF? at h
  cases hk : kgetF x.key.data.toList with
  | none => rw [hk] at h; cases h
  | some g =>
    rw [hk] at h
    cases h
    obtain ⟨o, m, -, -⟩ := kget_ok hk
    exact ⟨⟨o.valid, o.seq, hl, o.kind, o.key, hv⟩, m, rfl, rfl⟩
end Go.Proofs.Herb
namespace Go.Proofs.Herb
open Go.RowKit
/-- all facts of a reader's chunks -/
def ChksOf (r : Rdr) : List Chk → List Fact → Prop
  | [], fs => fs = []
  | c :: cs, fs => ∃ a b, ChkOf r c a ∧ ChksOf r cs b ∧ fs = a ++ b
end Go.Proofs.Herb
namespace Go.Proofs.Herb
open Go.RowKit
end Go.Proofs.Herb
namespace Go.Proofs.Herb
open Go.RowKit
end Go.Proofs.Herb
namespace Go.Proofs.Herb
open Go.RowKit
end Go.Proofs.Herb
namespace Go.Proofs.Herb
open Go.RowKit
theorem blk_sizes {b : List UInt8} {l : List Item} (h : BlkOf b l) : ∀ x ∈ l, x.key.size ≤ 65536 ∧ x.val.size ≤ 65536 := by
  obtain ⟨h1, h2, h3⟩ := h
  have h4 := bAll_len l
  rw [h2] at h4
  intro x hx
  obtain ⟨i, hi, rfl⟩ := List.getElem_of_mem hx
  obtain ⟨g1, g2⟩ := kAt_len l i
  have h5 := bUp_mono l (j := i + 1) (k := l.length) (by omega)
  rw [kAt_get hi, size_toList] at g1
  rw [vAt_get hi, size_toList] at g2
  omega
end Go.Proofs.Herb
namespace Go.Proofs.Herb
open Go.RowKit
def facN (f : Fact) : Nat := f.key.size + f.val.size + 16
def keyAt (l : List Fact) (i : Nat) : Option ByteArray := (l[i]?).map (·.key)
def facAt (l : List Fact) (i : Nat) : Nat := ((l[i]?).map facN).getD 0
theorem facAt_get {l : List Fact} {i : Nat} (h : i < l.length) : facAt l i = facN l[i] := by unfold facAt; rw [List.getElem?_eq_getElem h]; rfl
theorem keyAt_get {l : List Fact} {i : Nat} (h : i < l.length) : keyAt l i = some l[i].key := by unfold keyAt; rw [List.getElem?_eq_getElem h]; rfl
/-- where parts begin and end -/
def ptF (l : List Fact) : Nat → Nat → Nat → Nat → List (Nat × Nat)
  | 0, _, from_, _ => if from_ < l.length then [(from_, l.length)] else []
  | f + 1, k, from_, size => if 2048 ≤ size + facAt l k ∧ (k + 1 = l.length ∨ keyAt l (k + 1) ≠ keyAt l k) then (from_, k + 1) :: ptF l f (k + 1) (k + 1) 0 else ptF l f (k + 1) from_ (size + facAt l k)
def partsI (l : List Fact) : List (Nat × Nat) := ptF l l.length 0 0 0
/-- parts that follow one another, a key in one alone -/
inductive PtOk (l : List Fact) : Nat → List (Nat × Nat) → Prop
  | nil : PtOk l l.length []
  | cons {a b : Nat} {r : List (Nat × Nat)} : a < b → b ≤ l.length → (b < l.length → keyAt l b ≠ keyAt l (b - 1)) → PtOk l b r → PtOk l a ((a, b) :: r)
theorem ptF_ok (l : List Fact) : ∀ (f k from_ size : Nat), k + f = l.length → from_ ≤ k → PtOk l from_ (ptF l f k from_ size)
  | 0, k, from_, size, h, hf => by
    unfold ptF
    by_cases q : from_ < l.length
    · rw [if_pos q]
      exact .cons q (Nat.le_refl _) (fun h => absurd h (Nat.lt_irrefl _)) .nil
    · rw [if_neg q]
      obtain rfl : from_ = l.length := by omega
      exact .nil
  | f + 1, k, from_, size, h, hf => by
    unfold ptF
    by_cases q : 2048 ≤ size + facAt l k ∧ (k + 1 = l.length ∨ keyAt l (k + 1) ≠ keyAt l k)
    · rw [if_pos q]
      refine .cons (by omega) (by omega) (fun hl => ?_) (ptF_ok l f (k + 1) (k + 1) 0 (by omega) (Nat.le_refl _))
      rcases q.2 with e | e
      · omega
      · rw [Nat.add_sub_cancel]; exact e
    · rw [if_neg q]
      exact ptF_ok l f (k + 1) from_ _ (by omega) (by omega)
theorem parts_ok (l : List Fact) : PtOk l 0 (partsI l) := ptF_ok l l.length 0 0 0 (by omega) (Nat.le_refl _)
def subF (l : List Fact) (x : Nat × Nat) : List Fact := (l.take x.2).drop x.1
theorem subF_len {l : List Fact} {x : Nat × Nat} (h : x.2 ≤ l.length) : (subF l x).length = x.2 - x.1 := by unfold subF; rw [List.length_drop, List.length_take]; omega
theorem subF_get {l : List Fact} {x : Nat × Nat} (_h : x.2 ≤ l.length) {i : Nat} (hi : i < x.2 - x.1) : (subF l x)[i]? = l[x.1 + i]? := by
  unfold subF
  rw [List.getElem?_drop, List.getElem?_take_of_lt (by omega)]
theorem PtOk.each {l : List Fact} {a : Nat} {r : List (Nat × Nat)} (h : PtOk l a r) : ∀ x ∈ r, a ≤ x.1 ∧ x.1 < x.2 ∧ x.2 ≤ l.length := by
  induction h with
  | nil => intro x hx; cases hx
  | @cons a b r h1 h2 h3 h4 ih =>
    intro x hx
    rcases List.mem_cons.1 hx with rfl | hx
    · exact ⟨Nat.le_refl _, h1, h2⟩
    · have := ih x hx
      exact ⟨by omega, this.2.1, this.2.2⟩
theorem PtOk.len {l : List Fact} {a : Nat} {r : List (Nat × Nat)} (h : PtOk l a r) : r.length + a ≤ l.length := by
  induction h with
  | nil => simp
  | @cons a b r h1 h2 h3 h4 ih => rw [List.length_cons]; omega
/-- two parts, one behind the other: where one ends the other begins -/
theorem PtOk.next {l : List Fact} {a : Nat} {r : List (Nat × Nat)} (h : PtOk l a r) : ∀ (i : Nat) x y, r[i]? = some x → r[i + 1]? = some y → x.2 = y.1 ∧ keyAt l y.1 ≠ keyAt l (y.1 - 1) := by
  induction h with
  | nil => intro i x y hx _; simp at hx
  | @cons a b r h1 h2 h3 h4 ih =>
    intro i x y hx hy
    rcases i with _ | i
    · rw [List.getElem?_cons_zero] at hx
      cases hx
      rw [List.getElem?_cons_succ] at hy
      cases h4 with
      | nil => simp at hy
      | cons g1 g2 g3 g4 =>
        rw [List.getElem?_cons_zero] at hy
        cases hy
        exact ⟨rfl, h3 (by omega)⟩
    · rw [List.getElem?_cons_succ] at hx hy
      exact ih i x y hx hy
/-- facts of one line, in order -/
def RiseF (l : List Fact) : Prop := ∀ i (h : i + 1 < l.length), l[i + 1].line = l[i].line ∧ cmpF (l[i]'(by omega)) l[i + 1] < 0
theorem RiseF.line {l : List Fact} (h : RiseF l) : ∀ i (hi : i < l.length), l[i].line = (l[0]'(by omega)).line
  | 0, _ => rfl
  | i + 1, hi => (h i hi).1.trans (h.line i (by omega))
theorem ba_ext {a b : ByteArray} (h : a.toList = b.toList) : a = b := by
  rw [ByteArray.toList_eq, ByteArray.toList_eq] at h
  cases a; cases b
  simp only [ByteArray.mk.injEq]
  exact Array.toList_inj.1 h
/-- a part's line -/
def lineF (p : List Fact) : Nat := (p.head?.map (·.line)).getD 0
/-- a table, as it is told -/
structure Tab where
  file : Nat
  bytes : Nat
  low : ByteArray
  high : ByteArray
def Tab.cells (t : Tab) : List Value := [.int .u64 (t.file : Int), .int .u32 (t.bytes : Int), .string t.low, .string t.high]
def tabOf (n : Nat) (p : List Fact) : Tab := ⟨n, (tabB (lineF p) p).length, (propsF (lineF p) p).low, (propsF (lineF p) p).high⟩
def tabsF (next : Nat) : List (List Fact) → List Tab
  | [] => []
  | p :: r => tabOf next p :: tabsF (next + 1) r
noncomputable def builtE : List (List Fact) → Int
  | [] => 0
  | p :: r => if buildE (lineF p) p ≠ 0 then buildE (lineF p) p else builtE r
theorem tabsF_len (next : Nat) (ps : List (List Fact)) : (tabsF next ps).length = ps.length := by
  induction ps generalizing next with
  | nil => rfl
  | cons p r ih => rw [tabsF, List.length_cons, List.length_cons, ih]
theorem tabsF_get (next : Nat) (ps : List (List Fact)) (i : Nat) : (tabsF next ps)[i]? = (ps[i]?).map (tabOf (next + i)) := by
  induction ps generalizing next i with
  | nil => rfl
  | cons p r ih =>
    cases i with
    | zero => rfl
    | succ i => rw [tabsF, List.getElem?_cons_succ, List.getElem?_cons_succ, ih, show next + 1 + i = next + (i + 1) by omega]
theorem tabsF_snoc (next : Nat) (ps : List (List Fact)) (p : List Fact) : tabsF next (ps ++ [p]) = tabsF next ps ++ [tabOf (next + ps.length) p] := by
  induction ps generalizing next with
  | nil => rfl
  | cons q r ih => rw [List.cons_append, tabsF, tabsF, ih, List.cons_append, List.length_cons, show next + 1 + r.length = next + (r.length + 1) by omega]
theorem built_zero : ∀ {ps : List (List Fact)} (_ : builtE ps = 0), ∀ p ∈ ps, buildE (lineF p) p = 0
  | [], _, p, hp => by cases hp
  | q :: r, h, p, hp => by
    unfold builtE at h
    by_cases e : buildE (lineF q) q = 0
    · rw [if_neg (fun h => h e)] at h
      rcases List.mem_cons.1 hp with rfl | hp
      · exact e
      · exact built_zero h p hp
    · rw [if_pos e] at h
      exact absurd h e
end Go.Proofs.Herb
namespace Go.Proofs.Herb
open Go.RowKit
attribute [local go_sem] Oper.semAt_some
theorem parts_any (v : Value) (w : World) (hv : ∃ q n c, v = .slice q n c) :
    Calls Tryz.prog 82 #[v] w fun e w' => e = .returned (.func (.func 126) #[] #[.pointer (some ⟨w.heap.size, 0, none⟩)]) ∧ w' = w.alloc (.cells #[v] 23) := by
  obtain ⟨q, n, c, rfl⟩ := hv
  go_enter Tryz.func82, Tryz.ntmps82
  go_wp2
  go_ret
  exact ⟨rfl, rfl⟩
theorem parts_nil {l : List Fact} (h : l.length = 0) : partsI l = [] := by
  obtain rfl := List.eq_nil_of_length_eq_zero h
  rfl
/-- a part is one of these, behind those that have come -/
def PtGood (l : List Fact) (pre : List (Nat × Nat)) (x : Nat × Nat) : Prop := x.1 < x.2 ∧ x.2 ≤ l.length ∧ ∃ rest, partsI l = pre ++ x :: rest
set_option maxRecDepth 100000 in
set_option maxHeartbeats 4000000 in
theorem parts1_in (nn Bn b off c base n : Nat) (q : Option Addr) (hnn : 1 ≤ nn) (l : List Fact) (hn : l.length = n) (hm : n ≤ 6000) (hc : n ≤ c) (hq : 0 < n → q = some ⟨b, off, none⟩) (hks : ∀ f ∈ l, f.key.size ≤ 140737488355328 ∧ f.val.size ≤ 140737488355328) :
    SeqGood Fence.wide nn Tryz.prog 126 #[.pointer (some ⟨Bn, 0, none⟩)] (fun x : Nat × Nat => #[.slice (some ⟨b, off + x.1 * 6, none⟩) (x.2 - x.1) (c - x.1)]) (Only (fun _ => False)) (fun pre x _ => PtGood l pre x)
      (fun A B => KeepB Bn A B ∧ KeepB b A B) (fun xs => xs = partsI l) base (fun W => Boxed W Bn 23 (.slice q n c) ∧ Rd W q (fCells l)) := by
  intro lp J Jx W hb hOk hJ hJx hY h0
  have HY := hid hY
  have HJ := hid hJ
  have HOk := hid hOk
  have Hn := hid hn
  have Hks := hid hks
  clear hY hJ hJx hOk hb hn hks
  refine callsIn_of_wp Tryz.func126 rfl trivial ?_ rfl
  simp only [Tryz.ntmps126, List.size_toArray, List.length_cons, List.length_nil, Nat.reduceAdd, Nat.reduceSub, Array.replicate_succ, Array.replicate_zero, List.push_toArray, List.append_toArray, List.nil_append, List.cons_append]
  have cW := HOk.out.1.cell
  by_cases hn0 : n = 0
  · subst hn0
    gi_wp2
    gi_loopw [3, 9] (fun v3 v9 wr => v3 = .int .i64 0 ∧ v9 = .int .i64 0 ∧ wr = W) (fun _ _ _ => 0)
    case atStart => exact ⟨rfl, rfl, rfl⟩
    case round =>
      obtain ⟨rfl, rfl, rfl⟩ := hrel
      gi_wp2
      refine ⟨rfl, _, results_none rfl _ _ _, ?_⟩
      exact ⟨⟨_, rfl⟩, .inl ⟨[], (parts_nil Hn.out).symm, h0⟩⟩
  obtain rfl := hq (by omega)
  clear hq
  gi_wp2
  clear cW
  gi_loopw [3, 4, 9] (fun v3 v4 v9 wr => ∃ (f k from_ size : Nat) (pre : List (Nat × Nat)), v3 = .int .i64 (from_ : Int) ∧ v4 = .int .i64 (size : Int) ∧ v9 = .int .i64 (k : Int) ∧ k + f = n ∧ from_ ≤ k ∧ size ≤ k * 281474976710672 ∧ partsI l = pre ++ ptF l f k from_ size ∧ J pre wr ∧
      Boxed wr Bn 23 (.slice (some ⟨b, off, none⟩) n c) ∧ Rd wr (some ⟨b, off, none⟩) (fCells l)) (fun _ _ v9 _ => n - (intOf v9).toNat)
  case atStart => exact ⟨n, 0, 0, 0, [], rfl, rfl, rfl, by omega, Nat.le_refl _, by omega, by unfold partsI; rw [Hn.out]; rfl, h0, HOk.out.1, HOk.out.2⟩
  case round =>
    obtain ⟨f, k, from_, size, pre, rfl, rfl, rfl, hkf, hfk, hsize, hch, hJp, hbox, hrd⟩ := hrel
    have Hch := hid hch
    have HJp := hid hJp
    have Hbox := hid hbox
    have Hrd := hid hrd
    have cB := hbox.cell
    clear hch hJp hbox hrd
    by_cases hlt : k < n
    · have hkl : k < l.length := by rw [Hn.out]; exact hlt
      obtain ⟨f, rfl⟩ : ∃ f', f = f' + 1 := ⟨f - 1, by omega⟩
      obtain ⟨b', off', e, hbq, hfa⟩ := fact_at Hrd.out hkl
      cases e
      obtain ⟨c0, c1, c2, c3, c4, c5⟩ := hfa
      have hsz := Hks.out _ (List.getElem_mem hkl)
      have hszk := facAt_get hkl
      have hkey := keyAt_get hkl
      obtain ⟨x, hx⟩ : ∃ x, x = l[k] := ⟨_, rfl⟩
      rw [← hx] at c0 c1 c2 c3 c4 c5 hsz hszk hkey
      unfold facN at hszk
      obtain ⟨S, hS⟩ : ∃ S, S = size + facAt l k := ⟨_, rfl⟩
      have hSe : S = size + (x.key.size + x.val.size + 16) := by rw [hS, hszk]
      have hS2 : S ≤ (k + 1) * 281474976710672 := by omega
      have hS3 : S ≤ 1688849860264032000 := by omega
      have w1 : IntKind.i64.wrap ((x.key.size : Int) + (x.val.size : Int)) = (x.key.size : Int) + (x.val.size : Int) := by rw [IntKind.wrap_i64]; omega
      have i0 : (0 : Int) ≤ (k : Int) := by omega
      have i1 : (k : Int) < (n : Int) := by omega
      have wk : IntKind.i64.wrap ((k : Int) + 1) = (k : Int) + 1 := by rw [IntKind.wrap_i64]; omega
      have HS := hid hS
      have HKey := hid hkey
      clear hS hszk hkey hx
      obtain ⟨Wa, hWa⟩ : ∃ Wa, Wa = wr.alloc (.cells #[.string x.key, .int .u32 (x.valid : Int), .int .u64 (x.seq : Int), .int .u64 (x.line : Int), .int .u8 (x.kind : Int), .string x.val] 65) := ⟨_, rfl⟩
      have hBa : Below wr.heap.size wr Wa := by rw [hWa]; exact (Below.refl _ _).alloc (Nat.le_refl _) _
      have HJa := hid (HJ.out _ _ _ HJp.out (Only.of_below hBa))
      have Hboxa := hid (show Boxed Wa Bn 23 (.slice (some ⟨b, off, none⟩) n c) from (hBa.block _ Hbox.out.lt).trans Hbox.out)
      have Hrda := hid (Hrd.out.below hBa)
      have Hnew := hid (show Wa.heap[wr.heap.size]? = some (.cells #[.string x.key, .int .u32 (x.valid : Int), .int .u64 (x.seq : Int), .int .u64 (x.line : Int), .int .u8 (x.kind : Int), .string x.val] 65 (0, 0)) by rw [hWa]; exact heap_alloc_new _ _)
      have HWa := hid hWa
      clear hBa hWa
      gi_upto_region 4 with fail
      rw [← HWa.out]
      have n0 := cell_of_row Wa wr.heap.size 0 _ _ _ Hnew.out
      have n5 := cell_of_row Wa wr.heap.size 5 _ _ _ Hnew.out
      have cBa := Hboxa.out.cell
      have w2 : IntKind.i64.wrap ((x.key.size : Int) + (x.val.size : Int) + 16) = (x.key.size : Int) + (x.val.size : Int) + 16 := by rw [IntKind.wrap_i64]; omega
      have w3 : IntKind.i64.wrap ((size : Int) + ((x.key.size : Int) + (x.val.size : Int) + 16)) = (S : Int) := by rw [IntKind.wrap_i64]; omega
      gi_upto_region 5 with fail
      have hSz : (size : Int) + ((x.key.size : Int) + (x.val.size : Int) + 16) = (S : Int) := by omega
      have HSz := hid hSz
      have HSe := hid hSe
      have HS2 := hid hS2
      clear hSz hSe hS2 hS3 w1 w2 w3
      have nk1 : keyAt l (k + 1) ≠ keyAt l k ∨ keyAt l (k + 1) = keyAt l k := by
        by_cases e : keyAt l (k + 1) = keyAt l k
        · exact .inr e
        · exact .inl e
      by_cases h5 : 2048 ≤ S
      · have d1 : decide (2048 ≤ (size : Int) + ((x.key.size : Int) + (x.val.size : Int) + 16)) = true := by rw [HSz.out]; simp; omega
        by_cases hk1 : k + 1 = n
        · have e1 : (((k : Int) + 1) == (n : Int)) = true := by simp; omega
          have hwhy := hid (show 2048 ≤ size + facAt l k ∧ (k + 1 = l.length ∨ keyAt l (k + 1) ≠ keyAt l k) from ⟨by rw [← HS.out]; exact h5, .inl (by rw [Hn.out]; exact hk1)⟩)
          clear h5 hk1 nk1
          have hst : ptF l (f + 1) k from_ size = (from_, k + 1) :: ptF l f (k + 1) (k + 1) 0 := by rw [ptF, if_pos hwhy.out]
          have hgood : PtGood l pre (from_, k + 1) := ⟨by show from_ < k + 1; omega, by show k + 1 ≤ _; omega, _, by rw [Hch.out, hst]⟩
          have HST := hid hst
          have HGood := hid hgood
          clear hst hgood
          refine wpIn_wide.2 ?_
          go_quiet (fail)
          obtain ⟨W5, hW5⟩ : ∃ W5, W5 = Wa.drewN nq := ⟨_, rfl⟩
          have hB5 : Below Wa.heap.size Wa W5 := by rw [hW5]; exact below_drewN (Below.refl _ _) nq
          rw [← hW5]
          have HJ5 := hid (HJ.out _ _ _ HJa.out (Only.of_below hB5))
          have Hbox5 := hid (show Boxed W5 Bn 23 (.slice (some ⟨b, off, none⟩) n c) from (hB5.block _ Hboxa.out.lt).trans Hboxa.out)
          have Hrd5 := hid (Hrda.out.below hB5)
          have cB5 := Hbox5.out.cell
          clear hB5 hW5
          obtain ⟨fn, tmps, assign, body, hy, hR⟩ := HY.out pre (from_, k + 1) _ HJ5.out HGood.out
          dsimp only at hy
          have HR := hid hR
          clear hR
          gi_wp2
          refine HR.out.mono ?_
          rintro e W2 (⟨rfl, hJ2, hk1, hk2⟩ | ⟨rfl, hJ2⟩)
          · have hbox2 : Boxed W2 Bn 23 (.slice (some ⟨b, off, none⟩) n c) := hk1 _ Hbox5.out
            have hrd2 : Rd W2 (some ⟨b, off, none⟩) (fCells l) := rd_keep Hrd5.out hk2
            have HJ2 := hid hJ2
            have Hbox2 := hid hbox2
            have Hrd2 := hid hrd2
            clear hJ2 hk1 hk2 hbox2 hrd2 hy HR
            gi_wp2
            go_roundw
            case rel => exact ⟨f, k + 1, k + 1, 0, pre ++ [(from_, k + 1)], by go_num, rfl, by go_num, by omega, by omega, by omega, by rw [Hch.out, HST.out]; simp, HJ2.out, Hbox2.out, Hrd2.out⟩
            case measure => simp [intOf]; omega
          · have HJ2 := hid hJ2
            clear hJ2 hy HR
            gi_wp2
            refine bodyPost_ret (results_none rfl _ _ _) rfl ?_
            exact ⟨⟨_, rfl⟩, .inr ⟨_, HJ2.out⟩⟩
        · have e1 : (((k : Int) + 1) == (n : Int)) = false := by simp; omega
          have hk1l : k + 1 < l.length := by rw [Hn.out]; omega
          obtain ⟨b3, off3, e3, _, hfy⟩ := fact_at Hrda.out hk1l
          cases e3
          obtain ⟨y, hy⟩ : ∃ y, y = l[k + 1] := ⟨_, rfl⟩
          rw [← hy] at hfy
          have yk := hfy.c0
          have hky := keyAt_get hk1l
          rw [← hy] at hky
          have i2 : (0 : Int) ≤ (k : Int) + 1 := by omega
          have i3 : (k : Int) + 1 < (n : Int) := by omega
          clear hfy hy
          by_cases hkk : y.key = x.key
          · have ne1 : (y.key.toList == x.key.toList) = true := by rw [hkk]; exact beq_self_eq_true _
            have ne2 : (y.key.toList != x.key.toList) = false := by rw [hkk]; simp
            have hwhy := hid (show ¬ (2048 ≤ size + facAt l k ∧ (k + 1 = l.length ∨ keyAt l (k + 1) ≠ keyAt l k)) from fun h => by
              rcases h.2 with e | e
              · omega
              · exact e (by rw [hky, HKey.out, hkk]))
            clear h5 hk1 nk1 hky hkk
            refine wpIn_wide.2 ?_
            go_quiet (fail)
            obtain ⟨W5, hW5⟩ : ∃ W5, W5 = Wa.drewN nq := ⟨_, rfl⟩
            have hB5 : Below Wa.heap.size Wa W5 := by rw [hW5]; exact below_drewN (Below.refl _ _) nq
            rw [← hW5]
            have HJ5 := hid (HJ.out _ _ _ HJa.out (Only.of_below hB5))
            have Hbox5 := hid (show Boxed W5 Bn 23 (.slice (some ⟨b, off, none⟩) n c) from (hB5.block _ Hboxa.out.lt).trans Hboxa.out)
            have Hrd5 := hid (Hrda.out.below hB5)
            have cB5 := Hbox5.out.cell
            clear hB5 hW5
            gi_wp2
            go_roundw
            case rel => exact ⟨f, k + 1, from_, S, pre, rfl, by rw [HSz.out], by go_num, by omega, by omega, HS2.out, by rw [Hch.out, ptF, if_neg hwhy.out, ← HS.out], HJ5.out, Hbox5.out, Hrd5.out⟩
            case measure => simp [intOf]; omega
          · have ne1 : (y.key.toList == x.key.toList) = false := by
              cases h : y.key.toList == x.key.toList
              · rfl
              · exact absurd (ba_ext (by simpa using h)) hkk
            have ne2 : (y.key.toList != x.key.toList) = true := by simpa [bne] using ne1
            have hwhy := hid (show 2048 ≤ size + facAt l k ∧ (k + 1 = l.length ∨ keyAt l (k + 1) ≠ keyAt l k) from ⟨by rw [← HS.out]; exact h5, .inr (by rw [hky, HKey.out]; exact fun h => hkk (Option.some.inj h))⟩)
            clear h5 hk1 nk1 hky hkk
            have hst : ptF l (f + 1) k from_ size = (from_, k + 1) :: ptF l f (k + 1) (k + 1) 0 := by rw [ptF, if_pos hwhy.out]
            have hgood : PtGood l pre (from_, k + 1) := ⟨by show from_ < k + 1; omega, by show k + 1 ≤ _; omega, _, by rw [Hch.out, hst]⟩
            have HST := hid hst
            have HGood := hid hgood
            clear hst hgood
            refine wpIn_wide.2 ?_
            go_quiet (fail)
            obtain ⟨W5, hW5⟩ : ∃ W5, W5 = Wa.drewN nq := ⟨_, rfl⟩
            have hB5 : Below Wa.heap.size Wa W5 := by rw [hW5]; exact below_drewN (Below.refl _ _) nq
            rw [← hW5]
            have HJ5 := hid (HJ.out _ _ _ HJa.out (Only.of_below hB5))
            have Hbox5 := hid (show Boxed W5 Bn 23 (.slice (some ⟨b, off, none⟩) n c) from (hB5.block _ Hboxa.out.lt).trans Hboxa.out)
            have Hrd5 := hid (Hrda.out.below hB5)
            have cB5 := Hbox5.out.cell
            clear hB5 hW5
            obtain ⟨fn, tmps, assign, body, hy, hR⟩ := HY.out pre (from_, k + 1) _ HJ5.out HGood.out
            dsimp only at hy
            have HR := hid hR
            clear hR
            gi_wp2
            refine HR.out.mono ?_
            rintro e W2 (⟨rfl, hJ2, hk1, hk2⟩ | ⟨rfl, hJ2⟩)
            · have hbox2 : Boxed W2 Bn 23 (.slice (some ⟨b, off, none⟩) n c) := hk1 _ Hbox5.out
              have hrd2 : Rd W2 (some ⟨b, off, none⟩) (fCells l) := rd_keep Hrd5.out hk2
              have HJ2 := hid hJ2
              have Hbox2 := hid hbox2
              have Hrd2 := hid hrd2
              clear hJ2 hk1 hk2 hbox2 hrd2 hy HR
              gi_wp2
              go_roundw
              case rel => exact ⟨f, k + 1, k + 1, 0, pre ++ [(from_, k + 1)], by go_num, rfl, by go_num, by omega, by omega, by omega, by rw [Hch.out, HST.out]; simp, HJ2.out, Hbox2.out, Hrd2.out⟩
              case measure => simp [intOf]; omega
            · have HJ2 := hid hJ2
              clear hJ2 hy HR
              gi_wp2
              refine bodyPost_ret (results_none rfl _ _ _) rfl ?_
              exact ⟨⟨_, rfl⟩, .inr ⟨_, HJ2.out⟩⟩
      · have d1 : decide (2048 ≤ (size : Int) + ((x.key.size : Int) + (x.val.size : Int) + 16)) = false := by rw [HSz.out]; simp; omega
        have hwhy := hid (show ¬ (2048 ≤ size + facAt l k ∧ (k + 1 = l.length ∨ keyAt l (k + 1) ≠ keyAt l k)) from fun h => h5 (by rw [HS.out]; exact h.1))
        clear h5 nk1
        refine wpIn_wide.2 ?_
        go_quiet (fail)
        obtain ⟨W5, hW5⟩ : ∃ W5, W5 = Wa.drewN nq := ⟨_, rfl⟩
        have hB5 : Below Wa.heap.size Wa W5 := by rw [hW5]; exact below_drewN (Below.refl _ _) nq
        rw [← hW5]
        have HJ5 := hid (HJ.out _ _ _ HJa.out (Only.of_below hB5))
        have Hbox5 := hid (show Boxed W5 Bn 23 (.slice (some ⟨b, off, none⟩) n c) from (hB5.block _ Hboxa.out.lt).trans Hboxa.out)
        have Hrd5 := hid (Hrda.out.below hB5)
        have cB5 := Hbox5.out.cell
        clear hB5 hW5
        gi_wp2
        go_roundw
        case rel => exact ⟨f, k + 1, from_, S, pre, rfl, by rw [HSz.out], by go_num, by omega, by omega, HS2.out, by rw [Hch.out, ptF, if_neg hwhy.out, ← HS.out], HJ5.out, Hbox5.out, Hrd5.out⟩
        case measure => simp [intOf]; omega
    · obtain rfl : k = n := by omega
      obtain rfl : f = 0 := by omega
      by_cases hfr : from_ < k
      · have i2 : (from_ : Int) < (k : Int) := by omega
        have hst : ptF l 0 k from_ size = [(from_, k)] := by unfold ptF; rw [if_pos (by rw [Hn.out]; exact hfr), Hn.out]
        have hgood : PtGood l pre (from_, k) := ⟨hfr, by show k ≤ _; rw [Hn.out]; exact Nat.le_refl _, [], by rw [Hch.out, hst]⟩
        have HST := hid hst
        obtain ⟨fn, tmps, assign, body, hy, hR⟩ := HY.out pre (from_, k) _ HJp.out hgood
        dsimp only at hy
        have HR := hid hR
        clear hst hgood hR
        gi_wp2
        refine HR.out.mono ?_
        rintro e W2 (⟨rfl, hJ2, hk1, hk2⟩ | ⟨rfl, hJ2⟩)
        · have HJ2 := hid hJ2
          clear hJ2 hk1 hk2 hy HR
          gi_wp2
          refine ⟨rfl, _, results_none rfl _ _ _, ?_⟩
          exact ⟨⟨_, rfl⟩, .inl ⟨_, by rw [Hch.out, HST.out], HJ2.out⟩⟩
        · have HJ2 := hid hJ2
          clear hJ2 hy HR
          gi_wp2
          refine ⟨rfl, _, results_none rfl _ _ _, ?_⟩
          exact ⟨⟨_, rfl⟩, .inr ⟨_, HJ2.out⟩⟩
      · have i2 : ¬ ((from_ : Int) < (k : Int)) := by omega
        have hst : ptF l 0 k from_ size = [] := by unfold ptF; rw [if_neg (by rw [Hn.out]; exact hfr)]
        have HST := hid hst
        clear hst
        gi_wp2
        refine ⟨rfl, _, results_none rfl _ _ _, ?_⟩
        exact ⟨⟨_, rfl⟩, .inl (by have h := HJp.out; rw [show pre = partsI l by rw [Hch.out, HST.out, List.append_nil]] at h; exact h)⟩
end Go.Proofs.Herb
