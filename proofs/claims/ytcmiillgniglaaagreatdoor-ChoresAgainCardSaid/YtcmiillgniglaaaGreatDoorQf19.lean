/- How a disk lies in memory, and the laws of its directory (a map): look-up, update, delete. The contracts of the disk's there, may, alive and lets. For a disk that lies in memory as DiskAt says. Append to a slice of structs: where the new slice lies. The contracts of the disk's found, known, New and the directory's turns. For a disk as DiskAt says. The contract of the disk's turns. For a disk as DiskAt says. The contract of the disk's Create. For a disk as DiskAt says. -/
import Derived.WalkLawsBesides
import Derived.WalkSpells
import Derived.Outline
import Derived.Deep.LoopGhost
import Derived.Deep.QuietTactic
import Derived.Deep.DeepCutAuto
import Derived.BigQuiet
import Derived.Maps.AppendAt
import Derived.Test.YtcmiillgniglaaaGreatDoorQf01
namespace Go.Proofs.Herb
open Go.RowKit
/-! a disk, as it is told -/
structure DF where
  b : List UInt8
  sure : Nat
structure DC where
  name : ByteArray
  file : Int
  gone : ByteArray
abbrev Dir := List (ByteArray × Nat × Nat)
structure DS where
  room : Int
  fuse : Int
  dead : Bool
  files : List DF
  names : Dir
  nclock : Nat
  sured : Dir
  sclock : Nat
  changes : List DC
/-- where it lies -/
structure DM where
  D : Nat
  M : Nat
  S : Nat
  fv : Value
  cv : Value
  bs : List Value
def encE (e : ByteArray × Nat × Nat) : MapEntry := { key := .string e.1, val := .int .i64 (e.2.1 : Int), born := e.2.2 }
def encDir (d : Dir) : Array MapEntry := (d.map encE).toArray
def dfCells : List Value → List DF → List Value
  | v :: vs, f :: fs => v :: .int .i64 (f.sure : Int) :: dfCells vs fs
  | _, _ => []
def cCells (l : List DC) : List Value := l.flatMap fun c => [.string c.name, .int .i64 c.file, .string c.gone]
def DM.fp (m : DM) : List Nat := m.D :: m.M :: m.S :: (m.fv.ownBlock.toList ++ (m.cv.ownBlock.toList ++ m.bs.filterMap Value.ownBlock))
structure DiskAt (w : World) (m : DM) (s : DS) : Prop where
  disk : w.heap[m.D]? = some (.cells #[.int .i64 s.room, .int .i64 s.fuse, .bool s.dead, m.fv, .map (some m.M), .map (some m.S), m.cv] 73 (0, 0))
  names : w.heap[m.M]? = some (.map (encDir s.names) s.nclock)
  sured : w.heap[m.S]? = some (.map (encDir s.sured) s.sclock)
  files : w.ownsRow 0 95 2 m.fv s.files.length (dfCells m.bs s.files)
  len : m.bs.length = s.files.length
  bytes : ∀ (i : Nat) (v : Value) (f : DF), m.bs[i]? = some v → s.files[i]? = some f → w.ownsRow 0 5 1 v f.b.length (f.b.map bv)
  changes : w.ownsRow 0 116 3 m.cv s.changes.length (cCells s.changes)
  nodup : m.fp.Nodup
/-- what a call may have turned -/
structure Mod (fp fp' : List Nat) (w w' : World) : Prop where
  os : w'.os = w.os
  tape : w'.tape = w.tape
  output : w'.output = w.output
  size : w.heap.size ≤ w'.heap.size
  block : ∀ k, k < w.heap.size → k ∉ fp → w'.heap[k]? = w.heap[k]?
  grow : ∀ k, k ∈ fp' → k ∈ fp ∨ w.heap.size ≤ k
theorem own_keep {w w' : World} {base : Nat} {e : TypeId} {k : Nat} {v : Value} {n : Nat} {xs : List Value} (h : w.ownsRow base e k v n xs) (hb : ∀ g, v.ownBlock = some g → w'.heap[g]? = w.heap[g]?) : w'.ownsRow base e k v n xs := by
  obtain ⟨h1, h2⟩ := h
  refine ⟨h1, ?_⟩
  rcases h2 with h2 | ⟨g, cap, cur, rfl, hg, hh, r⟩
  · exact .inl h2
  · exact .inr ⟨g, cap, cur, rfl, hg, (hb g rfl).trans hh, r⟩
theorem own_lt {w : World} {base : Nat} {e : TypeId} {k : Nat} {v : Value} {n : Nat} {xs : List Value} (h : w.ownsRow base e k v n xs) {g : Nat} (hg : v.ownBlock = some g) : g < w.heap.size := (h.lt g hg).2
theorem mem_fp_f {m : DM} {g : Nat} (h : m.fv.ownBlock = some g) : g ∈ m.fp := by simp [DM.fp, h]
theorem mem_fp_c {m : DM} {g : Nat} (h : m.cv.ownBlock = some g) : g ∈ m.fp := by simp [DM.fp, h]
theorem mem_fp_b {m : DM} {g i : Nat} {v : Value} (h : m.bs[i]? = some v) (hv : v.ownBlock = some g) : g ∈ m.fp := by
  simp only [DM.fp, List.mem_cons, List.mem_append, List.mem_filterMap]
  exact .inr (.inr (.inr (.inr (.inr ⟨v, List.mem_of_getElem? h, hv⟩))))
theorem DiskAt.keep {w w' : World} {m : DM} {s : DS} (h : DiskAt w m s) (hk : ∀ k, k ∈ m.fp → w'.heap[k]? = w.heap[k]?) : DiskAt w' m s :=
  ⟨(hk _ (by simp [DM.fp])).trans h.disk, (hk _ (by simp [DM.fp])).trans h.names, (hk _ (by simp [DM.fp])).trans h.sured,
   own_keep h.files (fun g hg => hk g (mem_fp_f hg)), h.len, fun i v f hv hf => own_keep (h.bytes i v f hv hf) (fun g hg => hk g (mem_fp_b hv hg)),
   own_keep h.changes (fun g hg => hk g (mem_fp_c hg)), h.nodup⟩
theorem DiskAt.lt {w : World} {m : DM} {s : DS} (h : DiskAt w m s) : ∀ k, k ∈ m.fp → k < w.heap.size := by
  intro k hk
  simp only [DM.fp, List.mem_cons, List.mem_append, List.mem_filterMap, Option.mem_toList] at hk
  rcases hk with rfl | rfl | rfl | hk | hk | ⟨v, hv, hk⟩
  · exact lt_of_block h.disk
  · exact lt_of_block h.names
  · exact lt_of_block h.sured
  · exact own_lt h.files hk
  · exact own_lt h.changes hk
  · obtain ⟨i, hi⟩ := List.mem_iff_getElem?.1 hv
    have hil : i < s.files.length := by rw [← h.len]; exact (List.getElem?_eq_some_iff.1 hi).1
    exact own_lt (h.bytes i v _ hi (List.getElem?_eq_getElem hil)) hk
theorem DiskAt.below {w w' : World} {m : DM} {s : DS} (h : DiskAt w m s) (hb : Below w.heap.size w w') : DiskAt w' m s := h.keep fun k hk => hb.block k (h.lt k hk)
theorem Mod.refl (fp : List Nat) (w : World) : Mod fp fp w w := ⟨rfl, rfl, rfl, Nat.le_refl _, fun _ _ _ => rfl, fun _ h => .inl h⟩
theorem Mod.of_below {w w' : World} (fp : List Nat) (hb : Below w.heap.size w w') : Mod fp fp w w' := ⟨hb.os, hb.tape, hb.output, hb.size, fun k hk _ => hb.block k hk, fun _ h => .inl h⟩
theorem Mod.trans {a b c : List Nat} {w w1 w2 : World} (h : Mod a b w w1) (k : Mod b c w1 w2) : Mod a c w w2 :=
  ⟨k.os.trans h.os, k.tape.trans h.tape, k.output.trans h.output, Nat.le_trans h.size k.size,
   fun i hi hn => (k.block i (Nat.lt_of_lt_of_le hi h.size) (fun e => by rcases h.grow i e with g | g; exact hn g; omega)).trans (h.block i hi hn),
   fun i hi => by
     rcases k.grow i hi with g | g
     · exact h.grow i g
     · right; have := h.size; omega⟩
theorem Mod.below {fp fp' : List Nat} {w w' : World} (h : Mod fp fp' w w') {B : Nat} (hB : B ≤ w.heap.size) (hf : ∀ k, k ∈ fp → B ≤ k) : Below B w w' :=
  ⟨h.os, h.tape, h.output, h.size, fun k hk => h.block k (by omega) (fun e => by have := hf k e; omega)⟩
/-! a directory's look-up -/
theorem bab (a b : ByteArray) : (a == b) = decide (a = b) := by
  rw [Bool.eq_iff_iff, decide_eq_true_iff]
  obtain ⟨a⟩ := a
  obtain ⟨b⟩ := b
  show (a == b) = true ↔ _
  rw [beq_iff_eq, ByteArray.mk.injEq]
def look (d : Dir) (k : ByteArray) : Option Nat := (d.find? (fun e => decide (e.1 = k))).map (·.2.1)
def lookAt (d : Dir) (k : ByteArray) : Option Nat := d.findIdx? (fun e => decide (e.1 = k))
theorem find_enc (k : ByteArray) : ∀ (d : Dir) (i : Nat), Instr.findNow .string (.string k) (d.map encE) i = some ((lookAt d k).map fun j => (i + j, .int .i64 (((look d k).getD 0 : Nat) : Int)))
  | [], i => rfl
  | e :: d, i => by
    have h := find_enc k d (i + 1)
    unfold lookAt at h ⊢
    unfold look at h ⊢
    simp only [List.map_cons, Instr.findNow, List.findIdx?_cons, List.find?_cons]
    have hs : Instr.sameNow .string (.string k) (encE e).key = some (decide (e.1 = k)) := by
      show some (k == e.1) = _
      rw [bab]; congr 1; rw [Bool.eq_iff_iff]; simp [eq_comm]
    rw [hs]
    by_cases he : e.1 = k
    · simp [he, encE]
    · simp only [he, decide_false, Bool.false_eq_true, if_false]
      rw [h]
      cases List.findIdx? (fun e => decide (e.1 = k)) d with
      | none => rfl
      | some j => simp [Nat.add_comm, Nat.add_left_comm]
theorem len_enc (d : Dir) : (encDir d).size = d.length := by simp [encDir]
theorem run_findKey (w : World) (d : Dir) (k : ByteArray) : (Instr.findKey 9 (.string k) (encDir d).toList).run Tryz.prog w = .ok ((lookAt d k).map fun j => (j, .int .i64 (((look d k).getD 0 : Nat) : Int))) w := by
  have h := find_enc k d 0
  simp only [Nat.zero_add] at h
  unfold Instr.findKey
  rw [Sem.run_bind, run_underlying Tryz.underlying9]
  simp only [Result.andThen_ok, encDir, List.toList_toArray, h]
  rfl
theorem run_checkKey9 (b : Bool) (n : Nat) (w : World) (k : ByteArray) : (Instr.checkKey b (n + 1) 9 (.string k)).run Tryz.prog w = .ok () w := by
  unfold Instr.checkKey
  rw [Sem.run_bind, run_underlying Tryz.underlying9]
  rfl
theorem run_getMap (w : World) (M : Nat) (es : Array MapEntry) (c : Nat) (h : w.heap[M]? = some (.map es c)) : (getObj M).run Tryz.prog w = .ok (.map es c) w := by
  simp [getObj, Sem.run, h]
theorem run_setMap (w : World) (M : Nat) (es es' : Array MapEntry) (c c' : Nat) (h : w.heap[M]? = some (.map es c)) : (setObj M (.map es' c')).run Tryz.prog w = .ok () { w with heap := w.heap.setIfInBounds M (.map es' c') } := by
  simp [setObj, Sem.run, h]
theorem look_cases (d : Dir) (k : ByteArray) : (lookAt d k = none ∧ look d k = none) ∨ ∃ i e, lookAt d k = some i ∧ d[i]? = some e ∧ e.1 = k ∧ look d k = some e.2.1 := by
  unfold lookAt look
  induction d with
  | nil => exact .inl ⟨rfl, rfl⟩
  | cons e d ih =>
    simp only [List.findIdx?_cons, List.find?_cons]
    by_cases he : e.1 = k
    · right; exact ⟨0, e, by simp [he], rfl, he, by simp [he]⟩
    · simp only [he, decide_false, Bool.false_eq_true, if_false]
      rcases ih with ⟨h1, h2⟩ | ⟨i, e', h1, h2, h3, h4⟩
      · left; rw [h1, h2]; exact ⟨rfl, rfl⟩
      · right; exact ⟨i + 1, e', by rw [h1]; rfl, by simpa using h2, h3, h4⟩
theorem run_lookup (w : World) (M : Nat) (d : Dir) (c : Nat) (k : ByteArray) (ok : Bool) (h : w.heap[M]? = some (.map (encDir d) c)) :
    (Instr.lookup 69 (.map (some M)) (.string k) ok).run Tryz.prog w = .ok (if ok then .tuple #[.int .i64 (((look d k).getD 0 : Nat) : Int), .bool (look d k).isSome] else .int .i64 (((look d k).getD 0 : Nat) : Int)) w := by
  have hz : (zeroValue 3).run Tryz.prog w = .ok (.int .i64 0) w := by kernel_rfl
  have hf := run_findKey w d k
  unfold Instr.lookup
  simp only [Sem.run_bind, run_underlying Tryz.underlying69, Result.andThen_ok, run_getMap w M _ c h, Sem.run_pure, run_checkKey9 _ 9999, hf]
  rcases look_cases d k with ⟨h1, h2⟩ | ⟨i, e, h1, _, _, h2⟩
  · cases ok <;> simp [h1, h2, hz]
  · cases ok <;> simp [h1, h2]
def setMap (w : World) (M : Nat) (d : Dir) (c : Nat) : World := { w with heap := w.heap.setIfInBounds M (.map (encDir d) c) }
theorem setMap_size (w : World) (M : Nat) (d : Dir) (c : Nat) : (setMap w M d c).heap.size = w.heap.size := by simp [setMap]
theorem setMap_at {w : World} {M : Nat} (h : M < w.heap.size) (d : Dir) (c : Nat) : (setMap w M d c).heap[M]? = some (.map (encDir d) c) := by simp [setMap, h]
theorem setMap_other (w : World) (M k : Nat) (h : k ≠ M) (d : Dir) (c : Nat) : (setMap w M d c).heap[k]? = w.heap[k]? := by
  simp only [setMap]; rw [Array.getElem?_setIfInBounds_ne (Ne.symm h)]
/-- a name more, or another file for it -/
def dirSet (d : Dir) (c : Nat) (k : ByteArray) (v : Nat) : Dir := match lookAt d k with
  | some i => d.modify i fun e => (k, v, e.2.2)
  | none => d ++ [(k, v, c)]
def clkSet (d : Dir) (c : Nat) (k : ByteArray) : Nat := match lookAt d k with
  | some _ => c
  | none => c + 1
def dirDel (d : Dir) (k : ByteArray) : Dir := match lookAt d k with
  | some i => d.eraseIdx i
  | none => d
theorem encDir_get (d : Dir) (i : Nat) : (encDir d)[i]? = (d[i]?).map encE := by simp [encDir]
theorem dirSet_none {d : Dir} {k : ByteArray} (h : lookAt d k = none) (c v : Nat) : (encDir d).push { key := .string k, val := .int .i64 (v : Int), born := c } = encDir (dirSet d c k v) ∧ c + 1 = clkSet d c k := by
  unfold dirSet clkSet
  rw [h]
  exact ⟨by simp [encDir, encE], rfl⟩
theorem dirSet_some {d : Dir} {k : ByteArray} {i : Nat} (h : lookAt d k = some i) (c v : Nat) : ((encDir d).modify i fun e => { e with key := .string k, val := .int .i64 (v : Int) }) = encDir (dirSet d c k v) ∧ c = clkSet d c k := by
  unfold dirSet clkSet
  rw [h]
  refine ⟨?_, rfl⟩
  apply Array.ext_getElem?
  intro j
  rw [encDir_get, List.getElem?_modify, Array.getElem?_modify, encDir_get]
  by_cases hj : i = j
  · subst hj; cases d[i]? <;> simp [encE]
  · simp [hj]
theorem dirDel_none {d : Dir} {k : ByteArray} (h : lookAt d k = none) : encDir d = encDir (dirDel d k) := by unfold dirDel; rw [h]
theorem dirDel_some {d : Dir} {k : ByteArray} {i : Nat} (h : lookAt d k = some i) : (encDir d).eraseIdxIfInBounds i = encDir (dirDel d k) := by
  unfold dirDel
  rw [h]
  unfold encDir
  rw [List.eraseIdxIfInBounds_toArray]
  congr 1
  apply List.ext_getElem?
  intro j
  simp only [List.getElem?_eraseIdx, List.getElem?_map]
  split <;> rfl
theorem run_update (w : World) (M : Nat) (d : Dir) (c : Nat) (k : ByteArray) (v : Nat) (h : w.heap[M]? = some (.map (encDir d) c)) :
    (Instr.mapUpdate 69 (.map (some M)) (.string k) (.int .i64 (v : Int))).run Tryz.prog w = .ok () (setMap w M (dirSet d c k v) (clkSet d c k)) := by
  have hf := run_findKey w d k
  unfold Instr.mapUpdate
  simp only [Sem.run_bind, run_underlying Tryz.underlying69, Result.andThen_ok, run_getMap w M _ c h, run_checkKey9 _ 9999, hf]
  rcases look_cases d k with ⟨h1, h2⟩ | ⟨i, e, h1, h3, h4, h2⟩
  · obtain ⟨e1, e2⟩ := dirSet_none h1 c v
    simp only [h1, Option.map_none, run_setMap w M _ _ c _ h, e1]
    unfold setMap
    rw [← e2]
  · obtain ⟨e1, e2⟩ := dirSet_some h1 c v
    simp only [h1, Option.map_some]
    have hk : (Instr.keyThatStays (((encDir d)[i]?.map (·.key)).getD (.string k)) (.string k)).run Tryz.prog w = .ok (.string k) w := by
      rw [encDir_get, h3]
      simp [Instr.keyThatStays, encE, h4, Instr.sameBits, bab]
    rw [Sem.run_bind, hk]
    simp only [Result.andThen_ok, run_setMap w M _ _ c _ h, e1]
    unfold setMap
    rw [← e2]
theorem run_delete (w : World) (M : Nat) (d : Dir) (c : Nat) (k : ByteArray) (ty : TypeId) (h : w.heap[M]? = some (.map (encDir d) c)) :
    (Builtin.delete_ #[69, 9] ty #[.map (some M), .string k]).run Tryz.prog w = .ok (.tuple #[]) (setMap w M (dirDel d k) c) := by
  have hf := run_findKey w d k
  unfold Builtin.delete_
  simp only [List.getElem?_toArray, List.getElem?_cons_zero, List.getElem?_cons_succ, Sem.run_bind, run_underlying Tryz.underlying69, Result.andThen_ok, run_getMap w M _ c h, run_checkKey9 _ 9999, hf]
  rcases look_cases d k with ⟨h1, h2⟩ | ⟨i, e, h1, h3, h4, h2⟩
  · have e1 := dirDel_none h1
    simp only [h1, Option.map_none]
    rw [Sem.run_bind, run_setMap w M _ _ c _ h, e1]
    rfl
  · have e1 := dirDel_some h1
    simp only [h1, Option.map_some]
    rw [Sem.run_bind, run_setMap w M _ _ c _ h, e1]
    rfl
theorem wpList_delete_dir {ops : Array Oper} {rest : List Oper} {o : Oper} {a : Act} {w : World} {Q : Exit → Act → World → Prop} (hgd : o.guard = none) (hdst : o.dst = none) (s x : Operand) (ho : o.op = .call { callee := .builtin .delete, args := #[s, x], argTypes := #[69, 9] })
    (M : Nat) (d : Dir) (c : Nat) (k : ByteArray) (hs : a.eval s = .map (some M)) (hx : a.eval x = .string k) (h : w.heap[M]? = some (.map (encDir d) c))
    (hK : wpList Tryz.prog ops Q rest a (setMap w M (dirDel d k) c)) : wpList Tryz.prog ops Q (o :: rest) a w := by
  refine wpList_plain hgd fun K hK' => ?_
  have hrun := run_delete w M d c k o.type h
  unfold Oper.wp
  simp [execOp, ho, resolve, invoke, builtin, hs, hx, hrun, Result.andThen]
  rw [Oper.upon_value, hdst]; exact hK' _ _ hK
end Go.Proofs.Herb
namespace Go.Proofs.Herb
open Go.RowKit
/-- the cells of a disk that is there -/
theorem DiskAt.cells {w : World} {m : DM} {s : DS} (h : DiskAt w m s) :
    w.cell? ⟨m.D, 0, none⟩ = some (.int .i64 s.room) ∧ w.cell? ⟨m.D, 1, none⟩ = some (.int .i64 s.fuse) ∧ w.cell? ⟨m.D, 2, none⟩ = some (.bool s.dead) ∧ w.cell? ⟨m.D, 3, none⟩ = some m.fv ∧
    w.cell? ⟨m.D, 4, none⟩ = some (.map (some m.M)) ∧ w.cell? ⟨m.D, 5, none⟩ = some (.map (some m.S)) ∧ w.cell? ⟨m.D, 6, none⟩ = some m.cv := by
  have hc := fun i => cell_of_row w m.D i _ _ _ h.disk
  exact ⟨hc 0, hc 1, hc 2, hc 3, hc 4, hc 5, hc 6⟩
theorem DiskAt.free {w : World} {m : DM} {s : DS} (h : DiskAt w m s) (i : Nat) : w.frozen? ⟨m.D, i, none⟩ = false := frozen_of_row _ _ _ _ _ h.disk
def mayB (k : ByteArray) : Bool := decide (1 ≤ k.size) && decide (k.size ≤ 24)
def aliveE (s : DS) : Int := if s.dead then 10 else 0
theorem DiskAt.notD {w : World} {m : DM} {s : DS} (h : DiskAt w m s) : m.D ≠ m.M ∧ m.D ≠ m.S ∧ m.M ≠ m.S ∧ (∀ g, m.fv.ownBlock = some g → g ≠ m.D ∧ g ≠ m.M ∧ g ≠ m.S) ∧ (∀ g, m.cv.ownBlock = some g → g ≠ m.D ∧ g ≠ m.M ∧ g ≠ m.S) ∧ (∀ (i : Nat) v g, m.bs[i]? = some v → v.ownBlock = some g → g ≠ m.D ∧ g ≠ m.M ∧ g ≠ m.S) := by
  have hn := h.nodup
  simp only [DM.fp, List.nodup_cons, List.mem_cons, not_or] at hn
  obtain ⟨⟨h1, h2, h3⟩, ⟨h4, h5⟩, h6, _⟩ := hn
  have key : ∀ g, g ∈ (m.fv.ownBlock.toList ++ (m.cv.ownBlock.toList ++ m.bs.filterMap Value.ownBlock)) → g ≠ m.D ∧ g ≠ m.M ∧ g ≠ m.S := fun g hg =>
    ⟨fun e => h3 (e ▸ hg), fun e => h5 (e ▸ hg), fun e => h6 (e ▸ hg)⟩
  refine ⟨h1, h2, h4, fun g hg => key g (by simp [hg]), fun g hg => key g (by simp [hg]), fun i v g hv hg => key g ?_⟩
  simp only [List.mem_append, List.mem_filterMap]
  exact .inr (.inr ⟨v, List.mem_of_getElem? hv, hg⟩)
/-- only the disk's own cells have turned -/
theorem DiskAt.turnD {w w' : World} {m : DM} {s : DS} (h : DiskAt w m s) (room fuse : Int) (dead : Bool)
    (hD : w'.heap[m.D]? = some (.cells #[.int .i64 room, .int .i64 fuse, .bool dead, m.fv, .map (some m.M), .map (some m.S), m.cv] 73 (0, 0))) (hk : ∀ k, k ≠ m.D → w'.heap[k]? = w.heap[k]?) :
    DiskAt w' m { s with room := room, fuse := fuse, dead := dead } := by
  obtain ⟨h1, h2, _, hf, hc, hb⟩ := h.notD
  exact ⟨hD, (hk _ (Ne.symm h1)).trans h.names, (hk _ (Ne.symm h2)).trans h.sured, own_keep h.files (fun g hg => hk g (hf g hg).1), h.len,
    fun i v f hv hff => own_keep (h.bytes i v f hv hff) (fun g hg => hk g (hb i v g hv hg).1), own_keep h.changes (fun g hg => hk g (hc g hg).1), h.nodup⟩
theorem Mod.one {w w' : World} {m : DM} (hk : ∀ k, k ≠ m.D → w'.heap[k]? = w.heap[k]?) (hs : w'.heap.size = w.heap.size) (h1 : w'.os = w.os) (h2 : w'.tape = w.tape) (h3 : w'.output = w.output) : Mod m.fp m.fp w w' :=
  ⟨h1, h2, h3, by omega, fun k _ hn => hk k (fun e => hn (by simp [DM.fp, e])), fun _ h => .inl h⟩
set_option maxHeartbeats 400000 in
theorem there_any (m : DM) (s : DS) (w : World) (h : DiskAt w m s) :
    Calls Tryz.prog 89 #[.pointer (some ⟨m.D, 0, none⟩)] w fun e w' => e = .returned (.bool true) ∧ w = w' := by
  obtain ⟨_, _, _, _, c4, _, _⟩ := h.cells
  clear h
  have hnn := fun (w : World) => run_neq_map_nil (P := Tryz.prog) w 69 9 3 (some m.M) Tryz.underlying69
  go_enter Tryz.func89, Tryz.ntmps89
  go_wp2
  go_ret
  exact ⟨rfl, rfl⟩
set_option maxHeartbeats 400000 in
theorem dmay_any (k : ByteArray) (hk : k.size ≤ maxLen) (w : World) :
    Calls Tryz.prog 90 #[.string k] w fun e w' => e = .returned (.bool (mayB k)) ∧ w = w' := by
  unfold maxLen at hk
  by_cases h1 : 1 ≤ k.size
  · by_cases h2 : k.size ≤ 24
    · go_enter Tryz.func90, Tryz.ntmps90
      go_wp2
      go_ret
      exact ⟨by simp [mayB, h1, h2]; omega, rfl⟩
    · go_enter Tryz.func90, Tryz.ntmps90
      go_wp2
      go_ret
      exact ⟨by simp [mayB, h1, h2]; omega, rfl⟩
  · go_enter Tryz.func90, Tryz.ntmps90
    go_wp2
    go_ret
    exact ⟨by simp [mayB, h1], rfl⟩
set_option maxHeartbeats 400000 in
theorem alive_any (m : DM) (s : DS) (w : World) (h : DiskAt w m s) :
    Calls Tryz.prog 68 #[.pointer (some ⟨m.D, 0, none⟩)] w fun e w' => e = .returned (.int .i64 (aliveE s)) ∧ w = w' := by
  obtain ⟨_, _, c2, _, _, _, _⟩ := h.cells
  have H := hid h
  clear h
  cases hd : s.dead
  all_goals
    rw [hd] at c2
    have Hd := hid hd
    clear hd
    go_enter Tryz.func68, Tryz.ntmps68
    go_wp2_with (go_at_call 89; refine (there_any m s _ H.out).mono ?_; rintro e w1 ⟨rfl, rfl⟩)
    go_ret
    exact ⟨by unfold aliveE; rw [Hd.out]; rfl, rfl⟩
def letsE (s : DS) : Int := if s.fuse = 0 then 10 else 0
def letsS (s : DS) : DS := if s.fuse = -1 then s else if s.fuse = 0 then { s with dead := true } else { s with fuse := s.fuse - 1 }
set_option maxHeartbeats 800000 in
theorem lets_any (m : DM) (s : DS) (w : World) (h : DiskAt w m s) (h1 : -1 ≤ s.fuse) (h2 : s.fuse ≤ 9223372036854775807) :
    Calls Tryz.prog 58 #[.pointer (some ⟨m.D, 0, none⟩)] w fun e w' => e = .returned (.int .i64 (letsE s)) ∧ DiskAt w' m (letsS s) ∧ Mod m.fp m.fp w w' := by
  obtain ⟨_, c1, c2, _, _, _, _⟩ := h.cells
  have f1 := h.free 1
  have f2 := h.free 2
  have H := hid h
  clear h
  by_cases q1 : s.fuse = -1
  · have Q1 := hid q1
    rw [q1] at c1
    clear q1
    go_enter Tryz.func58, Tryz.ntmps58
    go_wp2
    go_ret
    exact ⟨by unfold letsE; rw [Q1.out]; rfl, by unfold letsS; rw [if_pos Q1.out]; exact H.out, Mod.refl _ _⟩
  · by_cases q2 : s.fuse = 0
    · have Q1 := hid q1
      have Q2 := hid q2
      rw [q2] at c1
      clear q1 q2
      go_enter Tryz.func58, Tryz.ntmps58
      go_wp2
      go_ret
      refine ⟨by unfold letsE; rw [Q2.out]; rfl, ?_, Mod.one (fun k hk => heap_setCell_other _ _ _ _ hk) (by simp) rfl rfl rfl⟩
      unfold letsS
      rw [if_neg Q1.out, if_pos Q2.out]
      exact H.out.turnD s.room s.fuse true (heap_setCell_same _ _ _ _ _ _ H.out.disk) (fun k hk => heap_setCell_other _ _ _ _ hk)
    · have Q1 := hid q1
      have Q2 := hid q2
      have b1 : (s.fuse == -1) = false := by simpa using q1
      have b2 : (s.fuse == 0) = false := by simpa using q2
      have h3 : 0 < s.fuse := by omega
      clear q1 q2
      go_enter Tryz.func58, Tryz.ntmps58
      go_wp2
      go_ret
      refine ⟨by unfold letsE; rw [if_neg Q2.out]; rfl, ?_, Mod.one (fun k hk => heap_setCell_other _ _ _ _ hk) (by simp) rfl rfl rfl⟩
      unfold letsS
      rw [if_neg Q1.out, if_neg Q2.out]
      exact H.out.turnD s.room (s.fuse - 1) s.dead (heap_setCell_same _ _ _ _ _ _ H.out.disk) (fun k hk => heap_setCell_other _ _ _ _ hk)
end Go.Proofs.Herb
namespace Go.Proofs.Herb
open Go.RowKit
section
variable {P : Program}
/-- an append, and where the new slice lies -/
theorem wp_append_at {w : World} {o : Oper} {a : Act} {K : Act → World → Prop} {Q : Exit → Act → World → Prop} (s x : Operand) (t : TypeId)
    (ho : o.op = .call { callee := .builtin .append, args := #[s, x], argTypes := #[t, t] })
    (base : Nat) (e : TypeId) (z : Value) (size bytes : Nat) (ht : P.underlying t = some (.slice e)) (hinfo : (P.info? e).map (fun i => (i.zero, i.size, i.bytes)) = some (some z, size, bytes)) (hzs : z.cells.size = size) (hsz : 0 < size)
    (v : Value) (n : Nat) (xs : List Value) (hs : a.eval s = v) (hown : w.ownsRow base e size v n xs)
    (ad : Option Addr) (m c : Nat) (news : List Value) (hx : a.eval x = .slice ad m c) (hnc : ad = none → c = 0) (hl : news.length = m * size) (hr : Rd w ad news) (h1 : ∀ u ∈ news, u.oneCell' = true)
    (h63 : n + m ≤ maxLen) (hbytes : (n + m) * bytes ≤ 140737488355328) (hbase : base ≤ w.heap.size)
    (h : ∀ v' w', w'.ownsRow base e size v' (n + m) (xs ++ news) → w.grownBy w' v.ownBlock → (v'.ownBlock = v.ownBlock ∨ v'.ownBlock = some w.heap.size) → K (a.put o.dst v') w') : o.wp P a w K Q := by
  obtain ⟨i, hi, hz, hsize, hby⟩ := info_parts hinfo
  cases ad with
  | none =>
    have hn := hr.none
    subst hn
    have hm : m = 0 := by
      rcases Nat.eq_zero_or_pos m with h | h
      · exact h
      · have := Nat.mul_pos h hsz; simp at hl; omega
    subst hm
    have hc := hnc rfl
    subst hc
    have hrun := run_append_owned_none (P := P) (w := w) base t o.type e i size ht hi v n xs hown
    unfold Oper.wp
    simp [execOp, ho, resolve, invoke, builtin, hs, hx, hrun, Result.andThen]
    exact h v w (by simpa using hown) (World.grownBy.refl _ _) (.inl rfl)
  | some ad =>
    obtain ⟨v', w', hrun, h2, h3, _, h5⟩ := run_append_own_at (P := P) w base t o.type e i z size bytes ht hi hz hsize hby hzs hsz v n xs hown ad m c news hl hr.add h1 h63 hbytes hbase
    unfold Oper.wp
    simp [execOp, ho, resolve, invoke, builtin, hs, hx, hrun, Result.andThen]
    exact h v' w' h2 h3 h5
theorem step_append_at {w : World} {ops : Array Oper} {o : Oper} {a : Act} {K : Act → World → Prop} {Q : Exit → Act → World → Prop} {E : Prop} (hgd : o.guard = none) (s x : Operand) (t : TypeId)
    (ho : o.op = .call { callee := .builtin .append, args := #[s, x], argTypes := #[t, t] })
    (base : Nat) (e : TypeId) (z : Value) (size bytes : Nat) (ht : P.underlying t = some (.slice e)) (hinfo : (P.info? e).map (fun i => (i.zero, i.size, i.bytes)) = some (some z, size, bytes)) (hzs : z.cells.size = size) (hsz : 0 < size)
    (v : Value) (n : Nat) (xs : List Value) (hs : a.eval s = v) (hown : w.ownsRow base e size v n xs)
    (ad : Option Addr) (m c : Nat) (news : List Value) (hx : a.eval x = .slice ad m c) (hnc : ad = none → c = 0) (hl : news.length = m * size) (hr : Rd w ad news) (h1 : ∀ u ∈ news, u.oneCell' = true)
    (h63 : n + m ≤ maxLen) (hbytes : (n + m) * bytes ≤ 140737488355328) (hbase : base ≤ w.heap.size)
    (h : ∀ v' w', w'.ownsRow base e size v' (n + m) (xs ++ news) → w.grownBy w' v.ownBlock → (v'.ownBlock = v.ownBlock ∨ v'.ownBlock = some w.heap.size) → K (a.put o.dst v') w') :
    if Region.wanted o (yielded ops a.tmps) = true then Oper.wp P o a w K Q else E := by
  rw [if_pos (by simp [Region.wanted, hgd])]
  exact wp_append_at s x t ho base e z size bytes ht hinfo hzs hsz v n xs hs hown ad m c news hx hnc hl hr h1 h63 hbytes hbase h
theorem wpList_append_at {w : World} {ops : Array Oper} {rest : List Oper} {o : Oper} {a : Act} {Q : Exit → Act → World → Prop} (hgd : o.guard = none) (s x : Operand) (t : TypeId)
    (ho : o.op = .call { callee := .builtin .append, args := #[s, x], argTypes := #[t, t] })
    (base : Nat) (e : TypeId) (z : Value) (size bytes : Nat) (ht : P.underlying t = some (.slice e)) (hinfo : (P.info? e).map (fun i => (i.zero, i.size, i.bytes)) = some (some z, size, bytes)) (hzs : z.cells.size = size) (hsz : 0 < size)
    (v : Value) (n : Nat) (xs : List Value) (hs : a.eval s = v) (hown : w.ownsRow base e size v n xs)
    (ad : Option Addr) (m c : Nat) (news : List Value) (hx : a.eval x = .slice ad m c) (hnc : ad = none → c = 0) (hl : news.length = m * size) (hr : Rd w ad news) (h1 : ∀ u ∈ news, u.oneCell' = true)
    (h63 : n + m ≤ maxLen) (hbytes : (n + m) * bytes ≤ 140737488355328) (hbase : base ≤ w.heap.size)
    (h : ∀ v' w', w'.ownsRow base e size v' (n + m) (xs ++ news) → w.grownBy w' v.ownBlock → (v'.ownBlock = v.ownBlock ∨ v'.ownBlock = some w.heap.size) → wpList P ops Q rest (a.put o.dst v') w') : wpList P ops Q (o :: rest) a w := by
  refine wpList_plain hgd fun K hK => ?_
  exact wp_append_at s x t ho base e z size bytes ht hinfo hzs hsz v n xs hs hown ad m c news hx hnc hl hr h1 h63 hbytes hbase (fun v' w' h2 h3 h4 => hK _ _ (h v' w' h2 h3 h4))
end
theorem info111 : (Tryz.prog.info? 95).map (fun i => (i.zero, i.size, i.bytes)) = some (some (.agg #[.slice none 0 0, .int .i64 0]), 2, 32) := by kernel_rfl
theorem info114 : (Tryz.prog.info? 116).map (fun i => (i.zero, i.size, i.bytes)) = some (some (.agg #[.string ⟨#[]⟩, .int .i64 0, .string ⟨#[]⟩]), 3, 40) := by kernel_rfl
end Go.Proofs.Herb
namespace Go.Proofs.Herb
open Go.RowKit
/-- what a name leads to, of a disk that is there -/
def foundE (s : DS) (k : ByteArray) : Int := if mayB k then (if (look s.names k).isSome then 0 else 7) else 1
def foundN (s : DS) (k : ByteArray) : Int := if mayB k then (((look s.names k).getD 0 : Nat) : Int) else 0
def knownE (s : DS) (k : ByteArray) : Int := if s.dead then 10 else foundE s k
def knownN (s : DS) (k : ByteArray) : Int := if s.dead then 0 else foundN s k
theorem look_none_getD {s : DS} {k : ByteArray} (h : (look s.names k).isSome = false) : (look s.names k).getD 0 = 0 := by
  cases e : look s.names k with
  | none => rfl
  | some i => rw [e] at h; cases h
set_option maxHeartbeats 800000 in
theorem found_any (m : DM) (s : DS) (k : ByteArray) (hk : k.size ≤ maxLen) (w : World) (h : DiskAt w m s) :
    Calls Tryz.prog 61 #[.pointer (some ⟨m.D, 0, none⟩), .string k] w fun e w' => e = .returned (.tuple #[.int .i64 (foundN s k), .int .i64 (foundE s k)]) ∧ w = w' := by
  obtain ⟨_, _, _, _, c4, _, _⟩ := h.cells
  have H := hid h
  have hlk := fun ok => run_lookup w m.M s.names s.nclock k ok h.names
  clear h
  cases hm : mayB k
  · have Hm := hid hm
    go_enter Tryz.func61, Tryz.ntmps61
    go_wp2_with (first | (go_at_call 89; refine (there_any m s w H.out).mono ?_; rintro e w1 ⟨rfl, rfl⟩) | (go_at_call 90; refine (dmay_any k hk w).mono ?_; rintro e w1 ⟨rfl, rfl⟩; rw [Hm.out]))
    go_ret2
    exact ⟨by unfold foundN foundE; rw [Hm.out]; rfl, rfl⟩
  · have Hm := hid hm
    clear hm
    cases hl : (look s.names k).isSome
    · have Hl := hid hl
      rw [hl, look_none_getD hl] at hlk
      clear hl
      go_enter Tryz.func61, Tryz.ntmps61
      go_wp2_with (first | (go_at_call 89; refine (there_any m s w H.out).mono ?_; rintro e w1 ⟨rfl, rfl⟩) | (go_at_call 90; refine (dmay_any k hk w).mono ?_; rintro e w1 ⟨rfl, rfl⟩; rw [Hm.out]))
      go_ret2
      exact ⟨by unfold foundN foundE; rw [Hm.out, Hl.out, look_none_getD Hl.out]; rfl, rfl⟩
    · have Hl := hid hl
      rw [hl] at hlk
      clear hl
      go_enter Tryz.func61, Tryz.ntmps61
      go_wp2_with (first | (go_at_call 89; refine (there_any m s w H.out).mono ?_; rintro e w1 ⟨rfl, rfl⟩) | (go_at_call 90; refine (dmay_any k hk w).mono ?_; rintro e w1 ⟨rfl, rfl⟩; rw [Hm.out]))
      go_ret2
      exact ⟨by unfold foundN foundE; rw [Hm.out, Hl.out]; rfl, rfl⟩
set_option maxHeartbeats 800000 in
theorem known_any (m : DM) (s : DS) (k : ByteArray) (hk : k.size ≤ maxLen) (w : World) (h : DiskAt w m s) :
    Calls Tryz.prog 46 #[.pointer (some ⟨m.D, 0, none⟩), .string k] w fun e w' => e = .returned (.tuple #[.int .i64 (knownN s k), .int .i64 (knownE s k)]) ∧ w = w' := by
  have H := hid h
  clear h
  cases hd : s.dead
  all_goals
    have Hd := hid hd
    have ha : aliveE s = if s.dead then 10 else 0 := rfl
    rw [hd] at ha
    clear hd
    go_enter Tryz.func46, Tryz.ntmps46
    go_wp2_with (first | (go_at_call 68; refine (alive_any m s w H.out).mono ?_; rintro e w1 ⟨rfl, rfl⟩; rw [ha]) | (go_at_call 61; refine (found_any m s k hk w H.out).mono ?_; rintro e w1 ⟨rfl, rfl⟩))
    go_ret2
    exact ⟨by unfold knownN knownE; rw [Hd.out]; rfl, rfl⟩
/-- a nil disk -/
theorem there_nil (w : World) : Calls Tryz.prog 89 #[.pointer none] w fun e w' => e = .returned (.bool false) ∧ w = w' := by
  go_enter Tryz.func89, Tryz.ntmps89
  go_wp2
  go_ret
  exact ⟨rfl, rfl⟩
theorem alive_nil (w : World) : Calls Tryz.prog 68 #[.pointer none] w fun e w' => e = .returned (.int .i64 2) ∧ w = w' := by
  go_enter Tryz.func68, Tryz.ntmps68
  go_wp2_with (go_at_call 89; refine (there_nil w).mono ?_; rintro e w1 ⟨rfl, rfl⟩)
  go_ret
  exact ⟨rfl, rfl⟩
theorem known_nil (k : ByteArray) (w : World) : Calls Tryz.prog 46 #[.pointer none, .string k] w fun e w' => e = .returned (.tuple #[.int .i64 0, .int .i64 2]) ∧ w = w' := by
  go_enter Tryz.func46, Tryz.ntmps46
  go_wp2_with (go_at_call 68; refine (alive_nil w).mono ?_; rintro e w1 ⟨rfl, rfl⟩)
  go_ret2
  exact ⟨rfl, rfl⟩
/-- a new disk -/
def newS (room : Int) : DS := ⟨room, -1, false, [], [], 0, [], 0, []⟩
def newM (n : Nat) : DM := ⟨n + 2, n, n + 1, .slice none 0 0, .slice none 0 0, []⟩
theorem new_at {w : World} {o : Obj} {n : Nat} (h : w.heap.size = n) : (w.alloc o).heap[n]? = some o := by subst h; exact heap_alloc_new _ _
set_option maxHeartbeats 800000 in
theorem new_any (room : Int) (h0 : 0 ≤ room) (h1 : room ≤ 4194304) (w : World) :
    Calls Tryz.prog 12 #[.int .i64 room] w fun e w' => e = .returned (.tuple #[.pointer (some ⟨(newM w.heap.size).D, 0, none⟩), .int .i64 0]) ∧ DiskAt w' (newM w.heap.size) (newS room) ∧ Below w.heap.size w w' := by
  have b1 : decide (room < 0) = false := by simpa using h0
  have b2 : decide (4194304 < room) = false := by simpa using h1
  have hmm := @run_makeMap Tryz.prog
  go_enter Tryz.func12, Tryz.ntmps12
  go_wp2
  go_ret2
  refine ⟨rfl, ⟨?_, ?_, ?_, World.ownsRow_nil _ _ _ _, rfl, (fun i v f h => by cases h), World.ownsRow_nil _ _ _ _, ?_⟩, ?_⟩
  · exact new_at (by simp [newM])
  · exact (heap_alloc_old _ _ (by simp [newM]; omega)).trans ((heap_alloc_old _ _ (by simp [newM])).trans (heap_alloc_new _ _))
  · exact (heap_alloc_old _ _ (by simp [newM])).trans (new_at (by simp [newM]))
  · simp [newM, DM.fp, Value.ownBlock]
  · exact (((Below.refl _ _).alloc (Nat.le_refl _) _).alloc (by simp) _).alloc (by simp; omega) _
theorem toList_ne {k : ByteArray} (h : k ≠ ⟨#[]⟩) : k.toList.isEmpty = false := by
  rw [ByteArray.toList_eq]
  obtain ⟨⟨l⟩⟩ := k
  cases l with
  | nil => exact absurd rfl h
  | cons x l => rfl
def turnDir (d : Dir) (c : Nat) (x : DC) : Dir :=
  if x.file < 0 then dirDel (if x.gone ≠ ⟨#[]⟩ then dirDel d x.gone else d) x.name else dirSet (if x.gone ≠ ⟨#[]⟩ then dirDel d x.gone else d) c x.name x.file.toNat
def turnClk (d : Dir) (c : Nat) (x : DC) : Nat :=
  if x.file < 0 then c else clkSet (if x.gone ≠ ⟨#[]⟩ then dirDel d x.gone else d) c x.name
structure OneMap (w w' : World) (M : Nat) (d : Dir) (c : Nat) : Prop where
  at_ : w'.heap[M]? = some (.map (encDir d) c)
  other : ∀ k, k < w.heap.size → k ≠ M → w'.heap[k]? = w.heap[k]?
  size : w.heap.size ≤ w'.heap.size
  os : w'.os = w.os
  tape : w'.tape = w.tape
  output : w'.output = w.output
theorem OneMap.of_set {w : World} {M : Nat} {es : Array MapEntry} {c0 : Nat} (h : w.heap[M]? = some (.map es c0)) (d : Dir) (c : Nat) : OneMap w (setMap w M d c) M d c :=
  ⟨setMap_at (lt_of_block h) d c, fun k _ hk => setMap_other w M k hk d c, by rw [setMap_size]; exact Nat.le_refl _, rfl, rfl, rfl⟩
theorem OneMap.trans {w w1 w2 : World} {M : Nat} {d d' : Dir} {c c' : Nat} (h : OneMap w w1 M d c) (k : OneMap w1 w2 M d' c') : OneMap w w2 M d' c' :=
  ⟨k.at_, fun i hi hn => (k.other i (by have := h.size; omega) hn).trans (h.other i hi hn), Nat.le_trans h.size k.size, k.os.trans h.os, k.tape.trans h.tape, k.output.trans h.output⟩
theorem OneMap.front {w w1 : World} {M : Nat} {d : Dir} {c : Nat} {o : Obj} (h : OneMap (w.alloc o) w1 M d c) : OneMap w w1 M d c :=
  ⟨h.at_, fun i hi hn => (h.other i (by simp; omega) hn).trans (heap_alloc_old w o hi), by have := h.size; simp at this; omega, h.os, h.tape, h.output⟩
theorem del1 {ops : Array Oper} {rest : List Oper} {o : Oper} {a : Act} {w : World} {Q : Exit → Act → World → Prop} (hgd : o.guard = none) (hdst : o.dst = none) (s x : Operand) (ho : o.op = .call { callee := .builtin .delete, args := #[s, x], argTypes := #[69, 9] })
    (M : Nat) (d : Dir) (c : Nat) (k : ByteArray) (hs : a.eval s = .map (some M)) (hx : a.eval x = .string k) (h : w.heap[M]? = some (.map (encDir d) c))
    (hK : ∀ w', OneMap w w' M (dirDel d k) c → w'.heap.size = w.heap.size → wpList Tryz.prog ops Q rest a w') : wpList Tryz.prog ops Q (o :: rest) a w :=
  wpList_delete_dir hgd hdst s x ho M d c k hs hx h (hK _ (OneMap.of_set h _ _) (setMap_size _ _ _ _))
theorem upd1 {ops : Array Oper} {rest : List Oper} {o : Oper} {a : Act} {w : World} {Q : Exit → Act → World → Prop} (hgd : o.guard = none) (hdst : o.dst = none) (s x v : Operand) (ho : o.op = .mapUpdate 69 s x v)
    (M : Nat) (d : Dir) (c : Nat) (k : ByteArray) (f : Nat) (hs : a.eval s = .map (some M)) (hx : a.eval x = .string k) (hv : a.eval v = .int .i64 (f : Int)) (h : w.heap[M]? = some (.map (encDir d) c))
    (hK : ∀ w', OneMap w w' M (dirSet d c k f) (clkSet d c k) → w'.heap.size = w.heap.size → wpList Tryz.prog ops Q rest a w') : wpList Tryz.prog ops Q (o :: rest) a w := by
  refine wpList_plain hgd fun K hK' => ?_
  have hrun := run_update w M d c k f h
  unfold Oper.wp
  simp [execOp, ho, hs, hx, hv, hrun, Result.andThen]
  rw [Oper.upon_skip, hdst]; exact hK' _ _ (hK _ (OneMap.of_set h _ _) (setMap_size _ _ _ _))
set_option maxRecDepth 100000 in
set_option maxHeartbeats 800000 in
theorem turnDir_any (M : Nat) (d : Dir) (c : Nat) (x : DC) (w : World) (h : w.heap[M]? = some (.map (encDir d) c)) :
    Calls Tryz.prog 88 #[.map (some M), .agg #[.string x.name, .int .i64 x.file, .string x.gone]] w fun e w' => e = .returned (.tuple #[]) ∧ OneMap w w' M (turnDir d c x) (turnClk d c x) := by
  have hlt := lt_of_block h
  obtain ⟨nm, fi, go⟩ := x
  have H := hid h
  clear h
  by_cases hg : go = ⟨#[]⟩
  · by_cases hf : fi < 0
    · have b1 : decide (fi < 0) = true := by simpa using hf
      have Hf := hid hf
      have Hg := hid hg
      clear hf
      go_enter Tryz.func88, Tryz.ntmps88
      go_wp2_with (refine del1 rfl rfl _ _ rfl M d c nm rfl rfl ((heap_alloc_old w _ hlt).trans H.out) ?_; intro w1 O1 z1)
      refine bodyPost_ret (results_none rfl _ _ _) rfl ⟨rfl, ?_⟩
      rw [turnDir, turnClk, if_pos Hf.out, if_pos Hf.out, if_neg (fun h => h Hg.out)]
      exact O1.front
    · obtain ⟨f, rfl⟩ : ∃ f : Nat, fi = (f : Int) := ⟨fi.toNat, by omega⟩
      have Hg := hid hg
      clear hf
      go_enter Tryz.func88, Tryz.ntmps88
      go_wp2_with (refine upd1 rfl rfl _ _ _ rfl M d c nm f rfl rfl rfl ((heap_alloc_old w _ hlt).trans H.out) ?_; intro w1 O1 z1)
      refine bodyPost_end (results_none rfl _ _ _) rfl ⟨rfl, ?_⟩
      have hn : ¬ ((f : Int) < 0) := by omega
      dsimp only [turnDir, turnClk]
      rw [if_neg hn, if_neg hn, if_neg (fun h => h Hg.out)]
      exact O1.front
  · have b0 : go.toList.isEmpty = false := toList_ne hg
    have Hg := hid hg
    clear hg
    by_cases hf : fi < 0
    · have b1 : decide (fi < 0) = true := by simpa using hf
      have Hf := hid hf
      clear hf
      go_enter Tryz.func88, Tryz.ntmps88
      go_wp2_with (first
        | (refine del1 rfl rfl (.tmp 7) (.tmp 9) rfl M d c go rfl rfl ((heap_alloc_old w _ hlt).trans H.out) ?_; intro w1 O1 z1; have r1 := cell_of_row w1 w.heap.size 0 _ _ _ ((O1.other _ (by simp) (by omega)).trans (heap_alloc_new _ _)); have r2 := cell_of_row w1 w.heap.size 1 _ _ _ ((O1.other _ (by simp) (by omega)).trans (heap_alloc_new _ _)); have O1 := hid O1)
        | (refine del1 rfl rfl (.tmp 13) (.tmp 15) rfl M _ c nm rfl rfl O1.out.at_ ?_; intro w2 O2 z2))
      refine bodyPost_ret (results_none rfl _ _ _) rfl ⟨rfl, ?_⟩
      rw [turnDir, turnClk, if_pos Hf.out, if_pos Hf.out, if_pos Hg.out]
      exact (O1.out.trans O2).front
    · obtain ⟨f, rfl⟩ : ∃ f : Nat, fi = (f : Int) := ⟨fi.toNat, by omega⟩
      clear hf
      go_enter Tryz.func88, Tryz.ntmps88
      go_wp2_with (first
        | (refine del1 rfl rfl (.tmp 7) (.tmp 9) rfl M d c go rfl rfl ((heap_alloc_old w _ hlt).trans H.out) ?_; intro w1 O1 z1; have r1 := cell_of_row w1 w.heap.size 0 _ _ _ ((O1.other _ (by simp) (by omega)).trans (heap_alloc_new _ _)); have r2 := cell_of_row w1 w.heap.size 1 _ _ _ ((O1.other _ (by simp) (by omega)).trans (heap_alloc_new _ _)); have O1 := hid O1)
        | (refine upd1 rfl rfl (.tmp 16) (.tmp 18) (.tmp 20) rfl M _ c nm f rfl rfl rfl O1.out.at_ ?_; intro w2 O2 z2))
      refine bodyPost_end (results_none rfl _ _ _) rfl ⟨rfl, ?_⟩
      have hn : ¬ ((f : Int) < 0) := by omega
      dsimp only [turnDir, turnClk]
      rw [if_neg hn, if_neg hn, if_pos Hg.out]
      exact (O1.out.trans O2).front
end Go.Proofs.Herb
namespace Go.Proofs.Herb
open Go.RowKit
theorem nodup_mid {A B C : List Nat} {g : Nat} (h : (A ++ (B ++ C)).Nodup) (hg : g ∉ A ++ (B ++ C)) : (A ++ ([g] ++ C)).Nodup := by
  simp only [List.nodup_append, List.mem_append, not_or, ne_eq] at h hg ⊢
  obtain ⟨h1, ⟨h2, h3, h4⟩, h5⟩ := h
  refine ⟨h1, ⟨by simp, h3, ?_⟩, ?_⟩
  · intro a ha b hb e
    simp at ha
    subst ha; subst e; exact hg.2.2 hb
  · intro a ha b hb e
    rcases hb with hb | hb
    · simp at hb; subst hb; subst e; exact hg.1 ha
    · exact h5 a ha b (.inr hb) e
theorem DM.fp_eq (m : DM) : m.fp = [m.D, m.M, m.S] ++ (m.fv.ownBlock.toList ++ (m.cv.ownBlock.toList ++ m.bs.filterMap Value.ownBlock)) := rfl
theorem DM.fp_eq2 (m : DM) : m.fp = ([m.D, m.M, m.S] ++ m.fv.ownBlock.toList) ++ (m.cv.ownBlock.toList ++ m.bs.filterMap Value.ownBlock) := by rw [DM.fp_eq]; simp
theorem nodup_cv {m : DM} {v : Value} (h : m.fp.Nodup) (hat : v.ownBlock = m.cv.ownBlock ∨ ∃ g, v.ownBlock = some g ∧ g ∉ m.fp) : ({ m with cv := v } : DM).fp.Nodup := by
  rcases hat with e | ⟨g, e, hg⟩
  · rw [DM.fp_eq2] at h ⊢; rw [show ({ m with cv := v } : DM).cv.ownBlock = m.cv.ownBlock from e]; exact h
  · rw [DM.fp_eq2] at h hg ⊢
    rw [show ({ m with cv := v } : DM).cv.ownBlock = some g from e]
    exact nodup_mid h hg
theorem nodup_fv {m : DM} {v : Value} {bs' : List Value} (h : m.fp.Nodup) (hb : bs'.filterMap Value.ownBlock = m.bs.filterMap Value.ownBlock) (hat : v.ownBlock = m.fv.ownBlock ∨ ∃ g, v.ownBlock = some g ∧ g ∉ m.fp) : ({ m with fv := v, bs := bs' } : DM).fp.Nodup := by
  rcases hat with e | ⟨g, e, hg⟩
  · rw [DM.fp_eq] at h ⊢; rw [show ({ m with fv := v, bs := bs' } : DM).fv.ownBlock = m.fv.ownBlock from e]; dsimp only; rw [hb]; exact h
  · rw [DM.fp_eq] at h hg ⊢
    rw [show ({ m with fv := v, bs := bs' } : DM).fv.ownBlock = some g from e]
    dsimp only; rw [hb]
    exact nodup_mid h hg
theorem set_split {α : Type} {l : List α} {i : Nat} {v : α} (h : l[i]? = some v) : l = l.take i ++ v :: l.drop (i + 1) := by
  obtain ⟨hi, rfl⟩ := List.getElem?_eq_some_iff.1 h
  simp
theorem nodup_b {m : DM} {i : Nat} {v v' : Value} (h : m.fp.Nodup) (hi : m.bs[i]? = some v) (hat : v'.ownBlock = v.ownBlock ∨ ∃ g, v'.ownBlock = some g ∧ g ∉ m.fp) : ({ m with bs := m.bs.set i v' } : DM).fp.Nodup := by
  have hl := (List.getElem?_eq_some_iff.1 hi).1
  have e1 : ∀ u, (m.bs.take i ++ u :: m.bs.drop (i + 1)).filterMap Value.ownBlock = (m.bs.take i).filterMap Value.ownBlock ++ (u.ownBlock.toList ++ (m.bs.drop (i + 1)).filterMap Value.ownBlock) := by
    intro u; cases hu : u.ownBlock <;> simp [List.filterMap_append, hu]
  have e2 : m.bs.set i v' = m.bs.take i ++ v' :: m.bs.drop (i + 1) := by rw [List.set_eq_take_append_cons_drop, if_pos hl]
  have e3 : m.fp = ([m.D, m.M, m.S] ++ m.fv.ownBlock.toList ++ m.cv.ownBlock.toList ++ (m.bs.take i).filterMap Value.ownBlock) ++ (v.ownBlock.toList ++ (m.bs.drop (i + 1)).filterMap Value.ownBlock) := by
    rw [DM.fp_eq]; conv => lhs; rw [set_split hi, e1]
    simp
  have e4 : ({ m with bs := m.bs.set i v' } : DM).fp = ([m.D, m.M, m.S] ++ m.fv.ownBlock.toList ++ m.cv.ownBlock.toList ++ (m.bs.take i).filterMap Value.ownBlock) ++ (v'.ownBlock.toList ++ (m.bs.drop (i + 1)).filterMap Value.ownBlock) := by
    rw [DM.fp_eq]; dsimp only; rw [e2, e1]; simp
  rw [e4]
  rcases hat with e | ⟨g, e, hg⟩
  · rw [e, ← e3]; exact h
  · rw [e]
    rw [e3] at h hg
    exact nodup_mid h hg
theorem DiskAt.turnM {w w' : World} {m : DM} {s : DS} (h : DiskAt w m s) {d : Dir} {c : Nat} (O : OneMap w w' m.M d c) : DiskAt w' m { s with names := d, nclock := c } := by
  obtain ⟨h1, h2, h3, hf, hc, hb⟩ := h.notD
  have hk := fun k (hk : k ∈ m.fp) (hn : k ≠ m.M) => O.other k (h.lt k hk) hn
  exact ⟨(hk _ (by simp [DM.fp]) h1).trans h.disk, O.at_, (hk _ (by simp [DM.fp]) (Ne.symm h3)).trans h.sured, own_keep h.files (fun g hg => hk g (mem_fp_f hg) (hf g hg).2.1), h.len,
    fun i v f hv hff => own_keep (h.bytes i v f hv hff) (fun g hg => hk g (mem_fp_b hv hg) (hb i v g hv hg).2.1), own_keep h.changes (fun g hg => hk g (mem_fp_c hg) (hc g hg).2.1), h.nodup⟩
theorem OneMap.mod {w w' : World} {m : DM} {d : Dir} {c : Nat} (O : OneMap w w' m.M d c) : Mod m.fp m.fp w w' :=
  ⟨O.os, O.tape, O.output, O.size, fun k hk hn => O.other k hk (fun e => hn (by simp [DM.fp, e])), fun _ h => .inl h⟩
theorem DiskAt.setCv {w w' : World} {m : DM} {s : DS} (h : DiskAt w m s) (v' : Value) (l : List DC)
    (hD : w'.heap[m.D]? = some (.cells #[.int .i64 s.room, .int .i64 s.fuse, .bool s.dead, m.fv, .map (some m.M), .map (some m.S), v'] 73 (0, 0)))
    (hk : ∀ k, k ∈ m.fp → k ≠ m.D → m.cv.ownBlock ≠ some k → w'.heap[k]? = w.heap[k]?)
    (hown : w'.ownsRow 0 116 3 v' l.length (cCells l)) (hat : v'.ownBlock = m.cv.ownBlock ∨ ∃ g, v'.ownBlock = some g ∧ g ∉ m.fp) : DiskAt w' { m with cv := v' } { s with changes := l } := by
  obtain ⟨h1, h2, h3, hf, hc, hb⟩ := h.notD
  have hn := h.nodup
  rw [DM.fp_eq2] at hn
  simp only [List.nodup_append, List.mem_append, ne_eq] at hn
  refine ⟨hD, (hk _ (by simp [DM.fp]) (Ne.symm h1) (fun e => (hc _ e).2.1 rfl)).trans h.names, (hk _ (by simp [DM.fp]) (Ne.symm h2) (fun e => (hc _ e).2.2 rfl)).trans h.sured, own_keep h.files (fun g hg => hk g (mem_fp_f hg) (hf g hg).1 ?_), h.len,
    fun i v f hv hff => own_keep (h.bytes i v f hv hff) (fun g hg => hk g (mem_fp_b hv hg) (hb i v g hv hg).1 ?_), hown, nodup_cv h.nodup hat⟩
  · intro e; exact hn.2.2 g (.inr (by simp [hg])) g (.inl (by simp [e])) rfl
  · intro e; exact hn.2.1.2.2 g (by simp [e]) g (List.mem_filterMap.2 ⟨v, List.mem_of_getElem? hv, hg⟩) rfl
def turnS (s : DS) (x : DC) : DS := { s with names := turnDir s.names s.nclock x, nclock := turnClk s.names s.nclock x, changes := s.changes ++ [x] }
theorem mem_fp_cv {m : DM} {v : Value} {k : Nat} (h : k ∈ ({ m with cv := v } : DM).fp) : k ∈ m.fp ∨ v.ownBlock = some k := by
  simp only [DM.fp, List.mem_cons, List.mem_append, Option.mem_toList] at h ⊢
  rcases h with h | h | h | h | h | h
  · exact .inl (.inl h)
  · exact .inl (.inr (.inl h))
  · exact .inl (.inr (.inr (.inl h)))
  · exact .inl (.inr (.inr (.inr (.inl h))))
  · exact .inr h
  · exact .inl (.inr (.inr (.inr (.inr (.inr h)))))
theorem turns_fin (m : DM) (s : DS) (x : DC) (w wc w1 : World) (q : Option Addr) (c : Nat) (lit : Obj)
    (D1 : DiskAt wc m { s with names := turnDir s.names s.nclock x, nclock := turnClk s.names s.nclock x }) (hM : Mod m.fp m.fp w wc) (hcne : some m.D ≠ m.cv.ownBlock)
    (hD : w1.heap[m.D]? = some (.cells #[.int .i64 s.room, .int .i64 s.fuse, .bool s.dead, m.fv, .map (some m.M), .map (some m.S), m.cv] 73 (0, 0)))
    (hown : w1.ownsRow 0 116 3 (.slice q (s.changes.length + 1) c) (s.changes.length + 1) (cCells s.changes ++ [.string x.name, .int .i64 x.file, .string x.gone]))
    (hg : (wc.drew.alloc lit).grownBy w1 m.cv.ownBlock) (hat : (Value.slice q (s.changes.length + 1) c).ownBlock = m.cv.ownBlock ∨ (Value.slice q (s.changes.length + 1) c).ownBlock = some (wc.drew.alloc lit).heap.size) :
    ∃ v, Ending.returned (.tuple #[]) = Ending.returned (.tuple #[]) ∧ DiskAt (w1.setCell ⟨m.D, 6, none⟩ (.slice q (s.changes.length + 1) c)) { m with cv := v } (turnS s x) ∧ Mod m.fp ({ m with cv := v } : DM).fp w (w1.setCell ⟨m.D, 6, none⟩ (.slice q (s.changes.length + 1) c)) := by
  have hlt := D1.lt
  have hDl := lt_of_block D1.disk
  have hsz : (wc.drew.alloc lit).heap.size = wc.heap.size + 1 := by simp
  have hkk : ∀ k, k < wc.heap.size → some k ≠ m.cv.ownBlock → w1.heap[k]? = wc.heap[k]? := fun k hk hn =>
    (hg.block k (by omega) hn).trans (heap_alloc_old wc.drew _ hk)
  have hat' : (Value.slice q (s.changes.length + 1) c).ownBlock = m.cv.ownBlock ∨ ∃ g, (Value.slice q (s.changes.length + 1) c).ownBlock = some g ∧ wc.heap.size ≤ g := by
    rcases hat with e | e
    · exact .inl e
    · exact .inr ⟨_, e, by omega⟩
  refine ⟨.slice q (s.changes.length + 1) c, rfl, ?_, ?_⟩
  · refine DiskAt.setCv D1 _ (s.changes ++ [x]) (heap_setCell_same _ _ _ _ _ _ hD) (fun k hk hn hc => ?_) ?_ ?_
    · exact (heap_setCell_other _ _ _ _ hn).trans (hkk k (hlt k hk) (fun e => hc e.symm))
    · have e : cCells (s.changes ++ [x]) = cCells s.changes ++ [.string x.name, .int .i64 x.file, .string x.gone] := by simp [cCells]
      rw [e, List.length_append, List.length_singleton]
      refine own_keep hown fun g hgo => heap_setCell_other _ _ _ _ ?_
      rcases hat' with e | ⟨g', e, hg'⟩
      · rw [e] at hgo; intro e2; subst e2; exact hcne hgo.symm
      · rw [e] at hgo; have := Option.some.inj hgo; show g ≠ m.D; omega
    · rcases hat' with e | ⟨g', e, hg'⟩
      · exact .inl e
      · exact .inr ⟨g', e, fun h => by have := hlt g' h; omega⟩
  · refine hM.trans ⟨hg.os, hg.tape, hg.output, ?_, fun k hk hn => ?_, fun k hk => ?_⟩
    · have := hg.size; simp; omega
    · exact (heap_setCell_other _ _ _ _ (fun e => hn (by rw [e]; simp [DM.fp]))).trans (hkk k hk (fun e => hn (mem_fp_c e.symm)))
    · rcases mem_fp_cv hk with h | h
      · exact .inl h
      · rcases hat' with e | ⟨g', e, hg'⟩
        · exact .inl (mem_fp_c (e.symm.trans h))
        · rw [e] at h; cases h; exact .inr hg'
set_option maxRecDepth 100000 in
set_option maxHeartbeats 800000 in
theorem turns_any (m : DM) (s : DS) (x : DC) (w : World) (h : DiskAt w m s) (hlen : s.changes.length ≤ 1000000000) :
    Calls Tryz.prog 59 #[.pointer (some ⟨m.D, 0, none⟩), .agg #[.string x.name, .int .i64 x.file, .string x.gone]] w fun e w' => ∃ v, e = .returned (.tuple #[]) ∧ DiskAt w' { m with cv := v } (turnS s x) ∧ Mod m.fp ({ m with cv := v } : DM).fp w w' := by
  have H := hid h
  have hDl := lt_of_block h.disk
  clear h
  go_enter Tryz.func59, Tryz.ntmps59
  go_upto_region 1 with fail
  have e1 : DiskAt (w.alloc (.cells #[.string x.name, .int .i64 x.file, .string x.gone] 116)) m s := H.out.below ((Below.refl _ _).alloc (Nat.le_refl _) _)
  obtain ⟨_, _, _, _, c4, _, c6⟩ := e1.cells
  have E1 := hid e1
  have T := turnDir_any m.M s.names s.nclock x (w.alloc (.cells #[.string x.name, .int .i64 x.file, .string x.gone] 116)).drew E1.out.names
  clear e1
  go_cut [] (fun wc => OneMap w wc m.M (turnDir s.names s.nclock x) (turnClk s.names s.nclock x) ∧ wc.heap[w.heap.size]? = some (.cells #[.string x.name, .int .i64 x.file, .string x.gone] 116 (0, 0)))
  case first =>
    go_region_with (go_at_call 88; refine T.mono ?_; rintro e w1 ⟨rfl, O1⟩; have O1 := hid O1; dsimp only)
    all_goals
      go_wp2_with fail
      go_meet
      exact ⟨⟨O1.out.at_, fun k hk hn => (O1.out.other k (by simp; omega) hn).trans (heap_alloc_old w _ hk), by have := O1.out.size; simp at this; omega, O1.out.os, O1.out.tape, O1.out.output⟩,
        (O1.out.other _ (by simp) (by have := lt_of_block H.out.names; omega)).trans (heap_alloc_new w _)⟩
  case rest =>
    obtain ⟨O, hbx⟩ := hcut
    have D1 := H.out.turnM O
    have hM := O.mod (m := m)
    have r0 := cell_of_row wc w.heap.size 0 _ _ _ hbx
    have r1 := cell_of_row wc w.heap.size 1 _ _ _ hbx
    have r2 := cell_of_row wc w.heap.size 2 _ _ _ hbx
    obtain ⟨_, _, _, _, _, _, c6⟩ := D1.cells
    have f6 := D1.free 6
    have D1 := hid D1
    have HM := hid hM
    have HO := hid O
    clear hM O hbx
    have hown : (wc.drew.alloc (.cells #[.string x.name, .int .i64 x.file, .string x.gone] 116)).ownsRow 0 116 3 m.cv s.changes.length (cCells s.changes) := own_below (D1.out.changes) ((Below.refl _ _).drew.alloc (by simp) _)
    have Hown := hid hown
    clear hown
    have hlo : (wc.drew.alloc (.cells #[.string x.name, .int .i64 x.file, .string x.gone] 116)).heap[m.D]? = some (.cells #[.int .i64 s.room, .int .i64 s.fuse, .bool s.dead, m.fv, .map (some m.M), .map (some m.S), m.cv] 73 (0, 0)) := (heap_alloc_old wc.drew _ (lt_of_block D1.out.disk)).trans D1.out.disk
    have Hlo := hid hlo
    have hDw := lt_of_block D1.out.disk
    have e6 := cell_of_row _ m.D 6 _ _ _ Hlo.out
    have k6 := frozen_of_row _ m.D 6 _ _ Hlo.out
    have hcne : some m.D ≠ m.cv.ownBlock := fun e => (H.out.notD.2.2.2.2.1 m.D e.symm).1 rfl
    have Hcne := hid hcne
    clear hlo hcne
    go_upto_region 2 with fail
    go_region_law (refine step_append_at rfl (.tmp 14) (.tmp 16) 71 rfl 0 116 _ 3 40 Tryz.underlying71 info114 rfl (by decide) m.cv s.changes.length (cCells s.changes) rfl Hown.out (some ⟨wc.heap.size, 0, none⟩) 1 1 [.string x.name, .int .i64 x.file, .string x.gone] rfl (fun h => by cases h) rfl (Rd.new _ _ _) (by simp [Value.oneCell']) (by unfold maxLen; omega) (by omega) (by simp) ?_; intro v1 w1 hown1 hg1 hat1; obtain ⟨q1, k1, rfl, hqk, hqm, hqn⟩ := own_shape hown1; clear hqk hqm hqn; have hD1 := (hg1.block m.D (lt_of_block Hlo.out) Hcne.out).trans Hlo.out; have d6 := cell_of_row w1 m.D 6 _ _ _ hD1; have g6 := frozen_of_row w1 m.D 6 _ _ hD1; have HD1 := hid hD1; have Hown1 := hid hown1; have Hg1 := hid hg1; have Hat1 := hid hat1; clear hD1 hown1 hg1 hat1)
    all_goals
      refine bodyPost_end (results_none rfl _ _ _) rfl ?_
      exact turns_fin m s x w wc w1 _ _ _ D1.out HM.out Hcne.out HD1.out Hown1.out Hg1.out Hat1.out
end Go.Proofs.Herb
namespace Go.Proofs.Herb
open Go.RowKit
def createE (s : DS) (k : ByteArray) : Int := if knownE s k = 0 then 8 else if knownE s k ≠ 7 then knownE s k else if 200 ≤ s.names.length then 3 else letsE s
def createS (s : DS) (k : ByteArray) : DS :=
  if knownE s k ≠ 7 ∨ 200 ≤ s.names.length then s else if letsE s ≠ 0 then letsS s else turnS { letsS s with files := s.files ++ [⟨[], 0⟩] } ⟨k, (s.files.length : Int), ⟨#[]⟩⟩
theorem lets_files (s : DS) : (letsS s).files = s.files ∧ (letsS s).names = s.names ∧ (letsS s).nclock = s.nclock ∧ (letsS s).sured = s.sured ∧ (letsS s).sclock = s.sclock ∧ (letsS s).changes = s.changes ∧ (letsS s).room = s.room := by
  unfold letsS
  split
  · exact ⟨rfl, rfl, rfl, rfl, rfl, rfl, rfl⟩
  · split
    · exact ⟨rfl, rfl, rfl, rfl, rfl, rfl, rfl⟩
    · exact ⟨rfl, rfl, rfl, rfl, rfl, rfl, rfl⟩
theorem run_len_dir (w : World) (M : Nat) (d : Dir) (c : Nat) (h : w.heap[M]? = some (.map (encDir d) c)) (ty : TypeId) : (Builtin.len_ #[69] ty #[.map (some M)]).run Tryz.prog w = .ok (.int .i64 (d.length : Int)) w := by
  rw [← len_enc]
  simp [Builtin.len_, run_underlying Tryz.underlying69, run_getMap w M _ c h, goInt]
theorem len1 {ops : Array Oper} {rest : List Oper} {o : Oper} {a : Act} {w : World} {Q : Exit → Act → World → Prop} (hgd : o.guard = none) (s : Operand) (ho : o.op = .call { callee := .builtin .len, args := #[s], argTypes := #[69] })
    (M : Nat) (d : Dir) (c : Nat) (hs : a.eval s = .map (some M)) (h : w.heap[M]? = some (.map (encDir d) c))
    (hK : wpList Tryz.prog ops Q rest (a.put o.dst (.int .i64 (d.length : Int))) w) : wpList Tryz.prog ops Q (o :: rest) a w := by
  refine wpList_plain hgd fun K hK' => ?_
  have hrun := run_len_dir w M d c h o.type
  unfold Oper.wp
  simp [execOp, ho, resolve, invoke, builtin, hs, hrun, Result.andThen]
  exact hK' _ _ hK
theorem mem_fp_fv {m : DM} {v : Value} {bs : List Value} {k : Nat} (hb : bs.filterMap Value.ownBlock = m.bs.filterMap Value.ownBlock) (h : k ∈ ({ m with fv := v, bs := bs } : DM).fp) : k ∈ m.fp ∨ v.ownBlock = some k := by
  simp only [DM.fp, List.mem_cons, List.mem_append, Option.mem_toList, hb] at h ⊢
  rcases h with h | h | h | h | h
  · exact .inl (.inl h)
  · exact .inl (.inr (.inl h))
  · exact .inl (.inr (.inr (.inl h)))
  · exact .inr h
  · exact .inl (.inr (.inr (.inr (.inr h))))
theorem dfCells_append : ∀ (bs : List Value) (fs : List DF) (v : Value) (f : DF), bs.length = fs.length → dfCells (bs ++ [v]) (fs ++ [f]) = dfCells bs fs ++ [v, .int .i64 (f.sure : Int)]
  | [], [], _, _, _ => rfl
  | b :: bs, g :: fs, v, f, h => by simp [dfCells, dfCells_append bs fs v f (by simpa using h)]
  | [], _ :: _, _, _, h => by cases h
  | _ :: _, [], _, _, h => by cases h
theorem files_fin (m : DM) (s : DS) (w w1 : World) (q : Option Addr) (c : Nat) (lit : Obj) (D1 : DiskAt w m s)
    (hown : w1.ownsRow 0 95 2 (.slice q (s.files.length + 1) c) (s.files.length + 1) (dfCells m.bs s.files ++ [.slice none 0 0, .int .i64 0]))
    (hg : (w.alloc lit).grownBy w1 m.fv.ownBlock) (hat : (Value.slice q (s.files.length + 1) c).ownBlock = m.fv.ownBlock ∨ (Value.slice q (s.files.length + 1) c).ownBlock = some (w.alloc lit).heap.size) :
    DiskAt (w1.setCell ⟨m.D, 3, none⟩ (.slice q (s.files.length + 1) c)) { m with fv := .slice q (s.files.length + 1) c, bs := m.bs ++ [.slice none 0 0] } { s with files := s.files ++ [⟨[], 0⟩] } ∧
    Mod m.fp ({ m with fv := .slice q (s.files.length + 1) c, bs := m.bs ++ [.slice none 0 0] } : DM).fp w (w1.setCell ⟨m.D, 3, none⟩ (.slice q (s.files.length + 1) c)) := by
  have hlt := D1.lt
  obtain ⟨n1, n2, n3, hf, hc, hb⟩ := D1.notD
  have hfb : (m.bs ++ [Value.slice none 0 0]).filterMap Value.ownBlock = m.bs.filterMap Value.ownBlock := by simp [Value.ownBlock]
  have hfne : some m.D ≠ m.fv.ownBlock := fun e => (hf m.D e.symm).1 rfl
  have hDl := lt_of_block D1.disk
  have hsz : (w.alloc lit).heap.size = w.heap.size + 1 := by simp
  have hkk : ∀ k, k < w.heap.size → some k ≠ m.fv.ownBlock → w1.heap[k]? = w.heap[k]? := fun k hk hn =>
    (hg.block k (by omega) hn).trans (heap_alloc_old w _ hk)
  have hk : ∀ k, k ∈ m.fp → k ≠ m.D → some k ≠ m.fv.ownBlock → (w1.setCell ⟨m.D, 3, none⟩ (.slice q (s.files.length + 1) c)).heap[k]? = w.heap[k]? := fun k hk hn h =>
    (heap_setCell_other _ _ _ _ hn).trans (hkk k (hlt k hk) h)
  have hat' : (Value.slice q (s.files.length + 1) c).ownBlock = m.fv.ownBlock ∨ ∃ g, (Value.slice q (s.files.length + 1) c).ownBlock = some g ∧ w.heap.size ≤ g := by
    rcases hat with e | e
    · exact .inl e
    · exact .inr ⟨_, e, by omega⟩
  have hnd := D1.nodup
  rw [DM.fp_eq] at hnd
  simp only [List.nodup_append, List.mem_append, ne_eq] at hnd
  refine ⟨⟨heap_setCell_same _ _ _ _ _ _ ((hkk _ hDl hfne).trans D1.disk), (hk _ (by simp [DM.fp]) (Ne.symm n1) (fun e => (hf _ e.symm).2.1 rfl)).trans D1.names, (hk _ (by simp [DM.fp]) (Ne.symm n2) (fun e => (hf _ e.symm).2.2 rfl)).trans D1.sured, ?_, ?_, ?_, own_keep D1.changes (fun g hg => hk g (mem_fp_c hg) (hc g hg).1 ?_), ?_⟩, ?_⟩
  · dsimp only
    rw [List.length_append, dfCells_append _ _ _ _ D1.len]
    refine own_keep hown fun g hgo => heap_setCell_other _ _ _ _ ?_
    rcases hat' with e | ⟨g', e, hg'⟩
    · rw [e] at hgo; intro e2; subst e2; exact hfne hgo.symm
    · rw [e] at hgo; have := Option.some.inj hgo; show g ≠ m.D; omega
  · simp [D1.len]
  · intro i v f hv hff
    by_cases hi : i < m.bs.length
    · have hi2 : i < s.files.length := by rw [← D1.len]; exact hi
      rw [List.getElem?_append_left hi] at hv
      rw [List.getElem?_append_left hi2] at hff
      refine own_keep (D1.bytes i v f hv hff) (fun g hg => hk g (mem_fp_b hv hg) (hb i v g hv hg).1 ?_)
      intro e
      exact hnd.2.1.2.2 g (by simp [← e]) g (.inr (List.mem_filterMap.2 ⟨v, List.mem_of_getElem? hv, hg⟩)) rfl
    · have hi2 : s.files.length ≤ i := by rw [← D1.len]; omega
      rw [List.getElem?_append_right (by omega)] at hv
      rw [List.getElem?_append_right hi2] at hff
      obtain ⟨h1, rfl⟩ := List.getElem?_eq_some_iff.1 hv
      obtain ⟨h2, rfl⟩ := List.getElem?_eq_some_iff.1 hff
      simp only [List.getElem_singleton]
      exact World.ownsRow_nil _ _ _ _
  · intro e
    exact hnd.2.1.2.2 g (by simp [← e]) g (.inl (by simp [hg])) rfl
  · refine nodup_fv D1.nodup hfb ?_
    rcases hat' with e | ⟨g', e, hg'⟩
    · exact .inl e
    · exact .inr ⟨g', e, fun h => by have := hlt g' h; omega⟩
  · refine ⟨hg.os, hg.tape, hg.output, ?_, fun k hk hn => ?_, fun k hk => ?_⟩
    · have := hg.size; simp; omega
    · exact (heap_setCell_other _ _ _ _ (fun e => hn (by rw [e]; simp [DM.fp]))).trans (hkk k hk (fun e => hn (mem_fp_f e.symm)))
    · rcases mem_fp_fv hfb hk with h | h
      · exact .inl h
      · rcases hat' with e | ⟨g', e, hg'⟩
        · exact .inl (mem_fp_f (e.symm.trans h))
        · rw [e] at h; cases h; exact .inr hg'
set_option maxRecDepth 100000 in
set_option maxHeartbeats 800000 in
theorem create_any (m : DM) (s : DS) (k : ByteArray) (w : World) (h : DiskAt w m s) (hk : k.size ≤ maxLen) (h1 : -1 ≤ s.fuse) (h2 : s.fuse ≤ 9223372036854775807) (hl1 : s.files.length ≤ 1000000000) (hl2 : s.changes.length ≤ 1000000000) (hl3 : s.names.length ≤ 1000000000) :
    Calls Tryz.prog 33 #[.pointer (some ⟨m.D, 0, none⟩), .string k] w fun e w' => ∃ m', e = .returned (.int .i64 (createE s k)) ∧ DiskAt w' m' (createS s k) ∧ m'.D = m.D ∧ Mod m.fp m'.fp w w' := by
  obtain ⟨_, _, _, c3, c4, _, _⟩ := h.cells
  have hnm := h.names
  have H := hid h
  clear h
  have hE : createE s k = if knownE s k = 0 then 8 else if knownE s k ≠ 7 then knownE s k else if 200 ≤ s.names.length then 3 else letsE s := rfl
  have hS : createS s k = if knownE s k ≠ 7 ∨ 200 ≤ s.names.length then s else if letsE s ≠ 0 then letsS s else turnS { letsS s with files := s.files ++ [⟨[], 0⟩] } ⟨k, (s.files.length : Int), ⟨#[]⟩⟩ := rfl
  by_cases q1 : knownE s k = 7
  · rw [q1] at hE hS
    simp only [Int.reduceEq, if_false, ne_eq, not_true_eq_false, false_or] at hE hS
    have Q1 := hid q1
    clear q1
    by_cases q2 : 200 ≤ s.names.length
    · rw [if_pos q2] at hE hS
      have b2 : decide ((200 : Int) ≤ (s.names.length : Int)) = true := by simp; omega
      clear q2
      have hE := hid hE
      have hS := hid hS
      go_enter Tryz.func33, Tryz.ntmps33
      go_wp2_with (first | (go_at_call 46; refine (known_any m s k hk _ H.out).mono ?_; rintro e w' ⟨rfl, rfl⟩; rw [Q1.out]) | (refine len1 rfl (.tmp 25) rfl m.M s.names s.nclock rfl H.out.names ?_))
      go_ret
      exact ⟨m, by rw [hE.out]; rfl, by rw [hS.out]; exact H.out, rfl, Mod.refl _ _⟩
    · rw [if_neg q2] at hE hS
      have b2 : decide ((200 : Int) ≤ (s.names.length : Int)) = false := by simp; omega
      clear q2
      by_cases q3 : letsE s = 0
      · rw [q3, if_neg (fun h => h rfl)] at hS
        rw [q3] at hE
        have Q3 := hid q3
        have hE := hid hE
        have hS := hid hS
        clear q3
        obtain ⟨l1, l2, l3, l4, l5, l6, l7⟩ := lets_files s
        have L := hid (And.intro l1 l6)
        clear l1 l2 l3 l4 l5 l6 l7
        go_enter Tryz.func33, Tryz.ntmps33
        go_wp2_with (first
          | (go_at_call 46; refine (known_any m s k hk _ H.out).mono ?_; rintro e w' ⟨rfl, rfl⟩; rw [Q1.out])
          | (refine len1 rfl (.tmp 25) rfl m.M s.names s.nclock rfl H.out.names ?_)
          | (go_at_call 58; refine (lets_any m s _ H.out h1 h2).mono ?_; rintro e w1 ⟨rfl, hD1, hM1⟩; rw [Q3.out]; have hd1 := hD1.disk; have d3 := cell_of_row w1 m.D 3 _ _ _ hd1; have g3 := frozen_of_row w1 m.D 3 _ _ hd1; have hDl := lt_of_block hd1; clear hd1; have hD1 := hid hD1; have hM1 := hid hM1)
          | (refine wpList_append_at rfl (.tmp 37) (.tmp 39) 70 rfl 0 95 _ 2 32 Tryz.underlying70 info111 rfl (by decide) m.fv s.files.length (dfCells m.bs s.files) rfl (by rw [← L.out.1]; exact own_below hD1.out.files ((Below.refl _ _).alloc (Nat.le_refl _) _)) (some ⟨w1.heap.size, 0, none⟩) 1 1 [.slice none 0 0, .int .i64 0] rfl (fun h => by cases h) rfl (Rd.new _ _ _) (by simp [Value.oneCell']) (by unfold maxLen; omega) (by omega) (by simp) ?_; intro v2 w2 hown2 hg2 hat2; obtain ⟨q2, k2, rfl, hqk, hqm, hqn⟩ := own_shape hown2; clear hqm hqn; have hx2 := (hg2.block m.D (by simp; omega) (fun e => (H.out.notD.2.2.2.1 m.D e.symm).1 rfl)).trans ((heap_alloc_old w1 _ hDl).trans hD1.out.disk); have dd3 := cell_of_row w2 m.D 3 _ _ _ hx2; have gg3 := frozen_of_row w2 m.D 3 _ _ hx2; clear hx2; have hF := files_fin m (letsS s) w1 w2 q2 k2 _ hD1.out (by rw [L.out.1]; exact hown2) hg2 (by rw [L.out.1]; exact hat2); rw [L.out.1] at hF; have d3' := hF.1.cells.2.2.2.1; dsimp only at d3'; have hF := hid hF)
          | (go_at_call 59; refine (turns_any { m with fv := .slice q2 (s.files.length + 1) k2, bs := m.bs ++ [.slice none 0 0] } { letsS s with files := s.files ++ [⟨[], 0⟩] } ⟨k, (s.files.length : Int), ⟨#[]⟩⟩ _ hF.out.1 (by rw [L.out.2]; exact hl2)).mono ?_; rintro e w3 ⟨v3, rfl, hD3, hM3⟩; have hD3 := hid hD3; have hM3 := hid hM3))
        go_ret
        exact ⟨⟨m.D, m.M, m.S, .slice q2 (s.files.length + 1) k2, v3, m.bs ++ [.slice none 0 0]⟩, by rw [hE.out]; rfl, by rw [hS.out]; exact hD3.out, rfl, (hM1.out.trans hF.out.2).trans hM3.out⟩
      · have q4 : letsE s = 10 := by unfold letsE at q3 ⊢; split at q3 <;> simp_all
        rw [if_pos q3] at hS
        rw [q4] at hE
        have Q3 := hid q4
        have hE := hid hE
        have hS := hid hS
        clear q3 q4
        go_enter Tryz.func33, Tryz.ntmps33
        go_wp2_with (first
          | (go_at_call 46; refine (known_any m s k hk _ H.out).mono ?_; rintro e w' ⟨rfl, rfl⟩; rw [Q1.out])
          | (refine len1 rfl (.tmp 25) rfl m.M s.names s.nclock rfl H.out.names ?_)
          | (go_at_call 58; refine (lets_any m s _ H.out h1 h2).mono ?_; rintro e w1 ⟨rfl, hD1, hM1⟩; rw [Q3.out]; have hD1 := hid hD1; have hM1 := hid hM1))
        go_ret
        exact ⟨m, by rw [hE.out]; rfl, by rw [hS.out]; exact hD1.out, rfl, hM1.out⟩
  · rw [if_pos (.inl q1)] at hS
    have hS := hid hS
    by_cases q2 : knownE s k = 0
    · rw [if_pos q2] at hE
      have hE := hid hE
      have Q2 := hid q2
      clear q1 q2
      go_enter Tryz.func33, Tryz.ntmps33
      go_wp2_with (go_at_call 46; refine (known_any m s k hk _ H.out).mono ?_; rintro e w' ⟨rfl, rfl⟩; rw [Q2.out])
      go_ret
      exact ⟨m, by rw [hE.out]; rfl, by rw [hS.out]; exact H.out, rfl, Mod.refl _ _⟩
    · rw [if_neg q2, if_pos q1] at hE
      have hE := hid hE
      have b1 : (knownE s k == 0) = false := by simpa using q2
      have b2 : (knownE s k == 7) = false := by simpa using q1
      have b3 : (knownE s k != 7) = true := by simpa using q1
      clear q1 q2
      go_enter Tryz.func33, Tryz.ntmps33
      go_wp2_with (go_at_call 46; refine (known_any m s k hk _ H.out).mono ?_; rintro e w' ⟨rfl, rfl⟩)
      go_ret
      exact ⟨m, by rw [hE.out]; rfl, by rw [hS.out]; exact H.out, rfl, Mod.refl _ _⟩
end Go.Proofs.Herb
