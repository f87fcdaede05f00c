/- How a disk lies in memory, and the laws of its directory (a map): look-up, update, delete. -/
import Derived.Test.YtancpdhinocbnaaGreatDoorApp
import Derived.WalkLawsBesides
import Derived.WalkSpells
import Derived.Outline
import Derived.Deep.LoopGhost
import Derived.Deep.QuietTactic
import Derived.Deep.DeepCutAuto
import Derived.BigQuiet
namespace Go.Proofs.Herb
open Go.RowKit
/-! a disk, as it is told -/
structure DF where
  b : List UInt8
  sure : Nat
structure DC where
  name : ByteArray
  file : Int
  gone : ByteArray
abbrev Dir := List (ByteArray × Nat × Nat)
structure DS where
  room : Int
  fuse : Int
  dead : Bool
  files : List DF
  names : Dir
  nclock : Nat
  sured : Dir
  sclock : Nat
  changes : List DC
/-- where it lies -/
structure DM where
  D : Nat
  M : Nat
  S : Nat
  fv : Value
  cv : Value
  bs : List Value
def encE (e : ByteArray × Nat × Nat) : MapEntry := { key := .string e.1, val := .int .i64 (e.2.1 : Int), born := e.2.2 }
def encDir (d : Dir) : Array MapEntry := (d.map encE).toArray
def fCells : List Value → List DF → List Value
  | v :: vs, f :: fs => v :: .int .i64 (f.sure : Int) :: fCells vs fs
  | _, _ => []
def cCells (l : List DC) : List Value := l.flatMap fun c => [.string c.name, .int .i64 c.file, .string c.gone]
def DM.fp (m : DM) : List Nat := m.D :: m.M :: m.S :: (m.fv.ownBlock.toList ++ (m.cv.ownBlock.toList ++ m.bs.filterMap Value.ownBlock))
structure DiskAt (w : World) (m : DM) (s : DS) : Prop where
  disk : w.heap[m.D]? = some (.cells #[.int .i64 s.room, .int .i64 s.fuse, .bool s.dead, m.fv, .map (some m.M), .map (some m.S), m.cv] 51 (0, 0))
  names : w.heap[m.M]? = some (.map (encDir s.names) s.nclock)
  sured : w.heap[m.S]? = some (.map (encDir s.sured) s.sclock)
  files : w.ownsRow 0 68 2 m.fv s.files.length (fCells m.bs s.files)
  len : m.bs.length = s.files.length
  bytes : ∀ (i : Nat) (v : Value) (f : DF), m.bs[i]? = some v → s.files[i]? = some f → w.ownsRow 0 5 1 v f.b.length (f.b.map bv)
  changes : w.ownsRow 0 73 3 m.cv s.changes.length (cCells s.changes)
  nodup : m.fp.Nodup
/-- what a call may have turned -/
structure Mod (fp fp' : List Nat) (w w' : World) : Prop where
  os : w'.os = w.os
  tape : w'.tape = w.tape
  output : w'.output = w.output
  size : w.heap.size ≤ w'.heap.size
  block : ∀ k, k < w.heap.size → k ∉ fp → w'.heap[k]? = w.heap[k]?
  grow : ∀ k, k ∈ fp' → k ∈ fp ∨ w.heap.size ≤ k
theorem own_keep {w w' : World} {base : Nat} {e : TypeId} {k : Nat} {v : Value} {n : Nat} {xs : List Value} (h : w.ownsRow base e k v n xs) (hb : ∀ g, v.ownBlock = some g → w'.heap[g]? = w.heap[g]?) : w'.ownsRow base e k v n xs := by
  obtain ⟨h1, h2⟩ := h
  refine ⟨h1, ?_⟩
  rcases h2 with h2 | ⟨g, cap, cur, rfl, hg, hh, r⟩
  · exact .inl h2
  · exact .inr ⟨g, cap, cur, rfl, hg, (hb g rfl).trans hh, r⟩
theorem own_lt {w : World} {base : Nat} {e : TypeId} {k : Nat} {v : Value} {n : Nat} {xs : List Value} (h : w.ownsRow base e k v n xs) {g : Nat} (hg : v.ownBlock = some g) : g < w.heap.size := (h.lt g hg).2
theorem mem_fp_f {m : DM} {g : Nat} (h : m.fv.ownBlock = some g) : g ∈ m.fp := by simp [DM.fp, h]
theorem mem_fp_c {m : DM} {g : Nat} (h : m.cv.ownBlock = some g) : g ∈ m.fp := by simp [DM.fp, h]
theorem mem_fp_b {m : DM} {g i : Nat} {v : Value} (h : m.bs[i]? = some v) (hv : v.ownBlock = some g) : g ∈ m.fp := by
  simp only [DM.fp, List.mem_cons, List.mem_append, List.mem_filterMap]
  exact .inr (.inr (.inr (.inr (.inr ⟨v, List.mem_of_getElem? h, hv⟩))))
theorem DiskAt.keep {w w' : World} {m : DM} {s : DS} (h : DiskAt w m s) (hk : ∀ k, k ∈ m.fp → w'.heap[k]? = w.heap[k]?) : DiskAt w' m s :=
  ⟨(hk _ (by simp [DM.fp])).trans h.disk, (hk _ (by simp [DM.fp])).trans h.names, (hk _ (by simp [DM.fp])).trans h.sured,
   own_keep h.files (fun g hg => hk g (mem_fp_f hg)), h.len, fun i v f hv hf => own_keep (h.bytes i v f hv hf) (fun g hg => hk g (mem_fp_b hv hg)),
   own_keep h.changes (fun g hg => hk g (mem_fp_c hg)), h.nodup⟩
theorem DiskAt.lt {w : World} {m : DM} {s : DS} (h : DiskAt w m s) : ∀ k, k ∈ m.fp → k < w.heap.size := by
  intro k hk
  simp only [DM.fp, List.mem_cons, List.mem_append, List.mem_filterMap, Option.mem_toList] at hk
  rcases hk with rfl | rfl | rfl | hk | hk | ⟨v, hv, hk⟩
  · exact lt_of_block h.disk
  · exact lt_of_block h.names
  · exact lt_of_block h.sured
  · exact own_lt h.files hk
  · exact own_lt h.changes hk
  · obtain ⟨i, hi⟩ := List.mem_iff_getElem?.1 hv
    have hil : i < s.files.length := by rw [← h.len]; exact (List.getElem?_eq_some_iff.1 hi).1
    exact own_lt (h.bytes i v _ hi (List.getElem?_eq_getElem hil)) hk
theorem DiskAt.below {w w' : World} {m : DM} {s : DS} (h : DiskAt w m s) (hb : Below w.heap.size w w') : DiskAt w' m s := h.keep fun k hk => hb.block k (h.lt k hk)
theorem Mod.refl (fp : List Nat) (w : World) : Mod fp fp w w := ⟨rfl, rfl, rfl, Nat.le_refl _, fun _ _ _ => rfl, fun _ h => .inl h⟩
theorem Mod.of_below {w w' : World} (fp : List Nat) (hb : Below w.heap.size w w') : Mod fp fp w w' := ⟨hb.os, hb.tape, hb.output, hb.size, fun k hk _ => hb.block k hk, fun _ h => .inl h⟩
theorem Mod.trans {a b c : List Nat} {w w1 w2 : World} (h : Mod a b w w1) (k : Mod b c w1 w2) : Mod a c w w2 :=
  ⟨k.os.trans h.os, k.tape.trans h.tape, k.output.trans h.output, Nat.le_trans h.size k.size,
   fun i hi hn => (k.block i (Nat.lt_of_lt_of_le hi h.size) (fun e => by rcases h.grow i e with g | g; exact hn g; omega)).trans (h.block i hi hn),
   fun i hi => by
     rcases k.grow i hi with g | g
     · exact h.grow i g
     · right; have := h.size; omega⟩
theorem Mod.below {fp fp' : List Nat} {w w' : World} (h : Mod fp fp' w w') {B : Nat} (hB : B ≤ w.heap.size) (hf : ∀ k, k ∈ fp → B ≤ k) : Below B w w' :=
  ⟨h.os, h.tape, h.output, h.size, fun k hk => h.block k (by omega) (fun e => by have := hf k e; omega)⟩
/-! a directory's look-up -/
theorem bab (a b : ByteArray) : (a == b) = decide (a = b) := by
  rw [Bool.eq_iff_iff, decide_eq_true_iff]
  obtain ⟨a⟩ := a
  obtain ⟨b⟩ := b
  show (a == b) = true ↔ _
  rw [beq_iff_eq, ByteArray.mk.injEq]
def look (d : Dir) (k : ByteArray) : Option Nat := (d.find? (fun e => decide (e.1 = k))).map (·.2.1)
def lookAt (d : Dir) (k : ByteArray) : Option Nat := d.findIdx? (fun e => decide (e.1 = k))
theorem find_enc (k : ByteArray) : ∀ (d : Dir) (i : Nat), Instr.findNow .string (.string k) (d.map encE) i = some ((lookAt d k).map fun j => (i + j, .int .i64 (((look d k).getD 0 : Nat) : Int)))
  | [], i => rfl
  | e :: d, i => by
    have h := find_enc k d (i + 1)
    unfold lookAt at h ⊢
    unfold look at h ⊢
    simp only [List.map_cons, Instr.findNow, List.findIdx?_cons, List.find?_cons]
    have hs : Instr.sameNow .string (.string k) (encE e).key = some (decide (e.1 = k)) := by
      show some (k == e.1) = _
      rw [bab]; congr 1; rw [Bool.eq_iff_iff]; simp [eq_comm]
    rw [hs]
    by_cases he : e.1 = k
    · simp [he, encE]
    · simp only [he, decide_false, Bool.false_eq_true, if_false]
      rw [h]
      cases List.findIdx? (fun e => decide (e.1 = k)) d with
      | none => rfl
      | some j => simp [Nat.add_comm, Nat.add_left_comm]
theorem len_enc (d : Dir) : (encDir d).size = d.length := by simp [encDir]
theorem run_findKey (w : World) (d : Dir) (k : ByteArray) : (Instr.findKey 9 (.string k) (encDir d).toList).run Tryz.prog w = .ok ((lookAt d k).map fun j => (j, .int .i64 (((look d k).getD 0 : Nat) : Int))) w := by
  have h := find_enc k d 0
  simp only [Nat.zero_add] at h
  unfold Instr.findKey
  rw [Sem.run_bind, run_underlying Tryz.underlying9]
  simp only [Result.andThen_ok, encDir, List.toList_toArray, h]
  rfl
theorem run_checkKey9 (b : Bool) (n : Nat) (w : World) (k : ByteArray) : (Instr.checkKey b (n + 1) 9 (.string k)).run Tryz.prog w = .ok () w := by
  unfold Instr.checkKey
  rw [Sem.run_bind, run_underlying Tryz.underlying9]
  rfl
theorem run_getMap (w : World) (M : Nat) (es : Array MapEntry) (c : Nat) (h : w.heap[M]? = some (.map es c)) : (getObj M).run Tryz.prog w = .ok (.map es c) w := by
  simp [getObj, Sem.run, h]
theorem run_setMap (w : World) (M : Nat) (es es' : Array MapEntry) (c c' : Nat) (h : w.heap[M]? = some (.map es c)) : (setObj M (.map es' c')).run Tryz.prog w = .ok () { w with heap := w.heap.setIfInBounds M (.map es' c') } := by
  simp [setObj, Sem.run, h]
theorem look_cases (d : Dir) (k : ByteArray) : (lookAt d k = none ∧ look d k = none) ∨ ∃ i e, lookAt d k = some i ∧ d[i]? = some e ∧ e.1 = k ∧ look d k = some e.2.1 := by
  unfold lookAt look
  induction d with
  | nil => exact .inl ⟨rfl, rfl⟩
  | cons e d ih =>
    simp only [List.findIdx?_cons, List.find?_cons]
    by_cases he : e.1 = k
    · right; exact ⟨0, e, by simp [he], rfl, he, by simp [he]⟩
    · simp only [he, decide_false, Bool.false_eq_true, if_false]
      rcases ih with ⟨h1, h2⟩ | ⟨i, e', h1, h2, h3, h4⟩
      · left; rw [h1, h2]; exact ⟨rfl, rfl⟩
      · right; exact ⟨i + 1, e', by rw [h1]; rfl, by simpa using h2, h3, h4⟩
theorem run_lookup (w : World) (M : Nat) (d : Dir) (c : Nat) (k : ByteArray) (ok : Bool) (h : w.heap[M]? = some (.map (encDir d) c)) :
    (Instr.lookup 47 (.map (some M)) (.string k) ok).run Tryz.prog w = .ok (if ok then .tuple #[.int .i64 (((look d k).getD 0 : Nat) : Int), .bool (look d k).isSome] else .int .i64 (((look d k).getD 0 : Nat) : Int)) w := by
  have hz : (zeroValue 3).run Tryz.prog w = .ok (.int .i64 0) w := by kernel_rfl
  have hf := run_findKey w d k
  unfold Instr.lookup
  simp only [Sem.run_bind, run_underlying Tryz.underlying47, Result.andThen_ok, run_getMap w M _ c h, Sem.run_pure, run_checkKey9 _ 9999, hf]
  rcases look_cases d k with ⟨h1, h2⟩ | ⟨i, e, h1, _, _, h2⟩
  · cases ok <;> simp [h1, h2, hz]
  · cases ok <;> simp [h1, h2]
def setMap (w : World) (M : Nat) (d : Dir) (c : Nat) : World := { w with heap := w.heap.setIfInBounds M (.map (encDir d) c) }
theorem setMap_size (w : World) (M : Nat) (d : Dir) (c : Nat) : (setMap w M d c).heap.size = w.heap.size := by simp [setMap]
theorem setMap_at {w : World} {M : Nat} (h : M < w.heap.size) (d : Dir) (c : Nat) : (setMap w M d c).heap[M]? = some (.map (encDir d) c) := by simp [setMap, h]
theorem setMap_other (w : World) (M k : Nat) (h : k ≠ M) (d : Dir) (c : Nat) : (setMap w M d c).heap[k]? = w.heap[k]? := by
  simp only [setMap]; rw [Array.getElem?_setIfInBounds_ne (Ne.symm h)]
theorem setMap_cell (w : World) (M : Nat) (es : Array MapEntry) (c0 : Nat) (h : w.heap[M]? = some (.map es c0)) (a : Addr) (d : Dir) (c : Nat) : (setMap w M d c).cell? a = w.cell? a := by
  by_cases e : a.block = M
  · simp [World.cell?, e, h, setMap_at (lt_of_block h)]
  · exact World.cell?_of_block (setMap_other w M _ e d c)
theorem setMap_frozen (w : World) (M : Nat) (es : Array MapEntry) (c0 : Nat) (h : w.heap[M]? = some (.map es c0)) (a : Addr) (d : Dir) (c : Nat) : (setMap w M d c).frozen? a = w.frozen? a := by
  by_cases e : a.block = M
  · simp [World.frozen?, e, h, setMap_at (lt_of_block h)]
  · exact World.frozen?_of_block (setMap_other w M _ e d c)
/-- a name more, or another file for it -/
def dirSet (d : Dir) (c : Nat) (k : ByteArray) (v : Nat) : Dir := match lookAt d k with
  | some i => d.modify i fun e => (k, v, e.2.2)
  | none => d ++ [(k, v, c)]
def clkSet (d : Dir) (c : Nat) (k : ByteArray) : Nat := match lookAt d k with
  | some _ => c
  | none => c + 1
def dirDel (d : Dir) (k : ByteArray) : Dir := match lookAt d k with
  | some i => d.eraseIdx i
  | none => d
theorem encDir_get (d : Dir) (i : Nat) : (encDir d)[i]? = (d[i]?).map encE := by simp [encDir]
theorem dirSet_none {d : Dir} {k : ByteArray} (h : lookAt d k = none) (c v : Nat) : (encDir d).push { key := .string k, val := .int .i64 (v : Int), born := c } = encDir (dirSet d c k v) ∧ c + 1 = clkSet d c k := by
  unfold dirSet clkSet
  rw [h]
  exact ⟨by simp [encDir, encE], rfl⟩
theorem dirSet_some {d : Dir} {k : ByteArray} {i : Nat} (h : lookAt d k = some i) (c v : Nat) : ((encDir d).modify i fun e => { e with key := .string k, val := .int .i64 (v : Int) }) = encDir (dirSet d c k v) ∧ c = clkSet d c k := by
  unfold dirSet clkSet
  rw [h]
  refine ⟨?_, rfl⟩
  apply Array.ext_getElem?
  intro j
  rw [encDir_get, List.getElem?_modify, Array.getElem?_modify, encDir_get]
  by_cases hj : i = j
  · subst hj; cases d[i]? <;> simp [encE]
  · simp [hj]
theorem dirDel_none {d : Dir} {k : ByteArray} (h : lookAt d k = none) : encDir d = encDir (dirDel d k) := by unfold dirDel; rw [h]
theorem dirDel_some {d : Dir} {k : ByteArray} {i : Nat} (h : lookAt d k = some i) : (encDir d).eraseIdxIfInBounds i = encDir (dirDel d k) := by
  unfold dirDel
  rw [h]
  unfold encDir
  rw [List.eraseIdxIfInBounds_toArray]
  congr 1
  apply List.ext_getElem?
  intro j
  simp only [List.getElem?_eraseIdx, List.getElem?_map]
  split <;> rfl
theorem run_update (w : World) (M : Nat) (d : Dir) (c : Nat) (k : ByteArray) (v : Nat) (h : w.heap[M]? = some (.map (encDir d) c)) :
    (Instr.mapUpdate 47 (.map (some M)) (.string k) (.int .i64 (v : Int))).run Tryz.prog w = .ok () (setMap w M (dirSet d c k v) (clkSet d c k)) := by
  have hf := run_findKey w d k
  unfold Instr.mapUpdate
  simp only [Sem.run_bind, run_underlying Tryz.underlying47, Result.andThen_ok, run_getMap w M _ c h, run_checkKey9 _ 9999, hf]
  rcases look_cases d k with ⟨h1, h2⟩ | ⟨i, e, h1, h3, h4, h2⟩
  · obtain ⟨e1, e2⟩ := dirSet_none h1 c v
    simp only [h1, Option.map_none, run_setMap w M _ _ c _ h, e1]
    unfold setMap
    rw [← e2]
  · obtain ⟨e1, e2⟩ := dirSet_some h1 c v
    simp only [h1, Option.map_some]
    have hk : (Instr.keyThatStays (((encDir d)[i]?.map (·.key)).getD (.string k)) (.string k)).run Tryz.prog w = .ok (.string k) w := by
      rw [encDir_get, h3]
      simp [Instr.keyThatStays, encE, h4, Instr.sameBits, bab]
    rw [Sem.run_bind, hk]
    simp only [Result.andThen_ok, run_setMap w M _ _ c _ h, e1]
    unfold setMap
    rw [← e2]
theorem run_delete (w : World) (M : Nat) (d : Dir) (c : Nat) (k : ByteArray) (ty : TypeId) (h : w.heap[M]? = some (.map (encDir d) c)) :
    (Builtin.delete_ #[47, 9] ty #[.map (some M), .string k]).run Tryz.prog w = .ok (.tuple #[]) (setMap w M (dirDel d k) c) := by
  have hf := run_findKey w d k
  unfold Builtin.delete_
  simp only [List.getElem?_toArray, List.getElem?_cons_zero, List.getElem?_cons_succ, Sem.run_bind, run_underlying Tryz.underlying47, Result.andThen_ok, run_getMap w M _ c h, run_checkKey9 _ 9999, hf]
  rcases look_cases d k with ⟨h1, h2⟩ | ⟨i, e, h1, h3, h4, h2⟩
  · have e1 := dirDel_none h1
    simp only [h1, Option.map_none]
    rw [Sem.run_bind, run_setMap w M _ _ c _ h, e1]
    rfl
  · have e1 := dirDel_some h1
    simp only [h1, Option.map_some]
    rw [Sem.run_bind, run_setMap w M _ _ c _ h, e1]
    rfl
theorem wpList_delete_dir {ops : Array Oper} {rest : List Oper} {o : Oper} {a : Act} {w : World} {Q : Exit → Act → World → Prop} (hgd : o.guard = none) (hdst : o.dst = none) (s x : Operand) (ho : o.op = .call { callee := .builtin .delete, args := #[s, x], argTypes := #[47, 9] })
    (M : Nat) (d : Dir) (c : Nat) (k : ByteArray) (hs : a.eval s = .map (some M)) (hx : a.eval x = .string k) (h : w.heap[M]? = some (.map (encDir d) c))
    (hK : wpList Tryz.prog ops Q rest a (setMap w M (dirDel d k) c)) : wpList Tryz.prog ops Q (o :: rest) a w := by
  refine wpList_plain hgd fun K hK' => ?_
  have hrun := run_delete w M d c k o.type h
  unfold Oper.wp
  simp [execOp, ho, resolve, invoke, builtin, hs, hx, hrun, Result.andThen]
  rw [Oper.upon_value, hdst]; exact hK' _ _ hK
end Go.Proofs.Herb
