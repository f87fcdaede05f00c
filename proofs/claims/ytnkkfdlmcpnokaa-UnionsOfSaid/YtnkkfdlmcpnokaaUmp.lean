
/- Maps whose entries are laid one behind the other and none is struck, as the model has them: the look-up, a new entry, a step of a range; keys that the model compares at once. Plain laws, for every program. -/
import Derived.Test.YtnkkfdlmcpnokaaBase2
import Derived.Maps.RangeRun
import Derived.RangeFuncSeq
namespace Go.Proofs.Herb
open Go.RowKit
open Go.ChangeMaps (setBlock)
/-- keys of a kind that the model compares at once -/
structure KeyK (P : Program) (kt : TypeId) {κ : Type} [DecidableEq κ] (ek : κ → Value) : Prop where
  same : ∃ d, P.underlying kt = some d ∧ ∀ a b, Instr.sameNow d (ek a) (ek b) = some (decide (b = a))
  check : ∀ (em : Bool) (w : World) (k : κ), (Instr.checkKey em 10000 kt (ek k)).run P w = .ok () w
section
variable {P : Program} {κ υ : Type} [DecidableEq κ] {ek : κ → Value} {ev : υ → Value}
def mEnt (ek : κ → Value) (ev : υ → Value) (n : Nat) (l : List (κ × υ)) : List MapEntry := (l.zipIdx n).map fun x => { key := ek x.1.1, val := ev x.1.2, born := x.2 }
def look1 (l : List (κ × υ)) (k : κ) : Option υ := (l.find? fun x => decide (x.1 = k)).map (·.2)
def MapAt (w : World) (b : Nat) (ek : κ → Value) (ev : υ → Value) (l : List (κ × υ)) : Prop := w.heap[b]? = some (.map (mEnt ek ev 0 l).toArray l.length)
omit [DecidableEq κ] in
theorem mEnt_len (n : Nat) (l : List (κ × υ)) : (mEnt ek ev n l).length = l.length := by simp [mEnt]
omit [DecidableEq κ] in
theorem mEnt_snoc (l : List (κ × υ)) (k : κ) (v : υ) : mEnt ek ev 0 (l ++ [(k, v)]) = mEnt ek ev 0 l ++ [{ key := ek k, val := ev v, born := l.length }] := by
  simp [mEnt, List.zipIdx_append]
theorem findNow_ent {d : TypeDesc} (hs : ∀ a b, Instr.sameNow d (ek a) (ek b) = some (decide (b = a))) (k : κ) : ∀ (l : List (κ × υ)) (n i : Nat),
    (look1 l k = none ∧ Instr.findNow d (ek k) (mEnt ek ev n l) i = some none) ∨ ∃ j v, look1 l k = some v ∧ Instr.findNow d (ek k) (mEnt ek ev n l) i = some (some (j, ev v))
  | [], _, _ => .inl ⟨rfl, rfl⟩
  | x :: l, n, i => by
    have ih := findNow_ent hs k l (n + 1) (i + 1)
    have hc : mEnt ek ev n (x :: l) = { key := ek x.1, val := ev x.2, born := n } :: mEnt ek ev (n + 1) l := by simp [mEnt]
    rw [hc]
    by_cases e : x.1 = k
    · right
      exact ⟨i, x.2, by simp [look1, e], by simp [Instr.findNow, hs, e]⟩
    · rcases ih with ⟨h1, h2⟩ | ⟨j, v, h1, h2⟩
      · left
        exact ⟨by simpa [look1, e] using h1, by simp [Instr.findNow, hs, e, h2]⟩
      · right
        exact ⟨j, v, by simpa [look1, e] using h1, by simp [Instr.findNow, hs, e, h2]⟩
theorem run_find0 {kt : TypeId} (K : KeyK P kt ek) (w : World) (l : List (κ × υ)) (k : κ) :
    (look1 l k = none ∧ (Instr.findKey kt (ek k) (mEnt ek ev 0 l)).run P w = .ok none w) ∨ ∃ j v, look1 l k = some v ∧ (Instr.findKey kt (ek k) (mEnt ek ev 0 l)).run P w = .ok (some (j, ev v)) w := by
  obtain ⟨d, hd, hs⟩ := K.same
  rcases findNow_ent (ev := ev) hs k l 0 0 with ⟨h1, h2⟩ | ⟨j, v, h1, h2⟩
  · left
    refine ⟨h1, ?_⟩
    unfold Instr.findKey
    rw [Sem.run_bind, run_underlying hd]
    simp only [Result.andThen_ok, h2]
    rfl
  · right
    refine ⟨j, v, h1, ?_⟩
    unfold Instr.findKey
    rw [Sem.run_bind, run_underlying hd]
    simp only [Result.andThen_ok, h2]
    rfl
theorem run_getMap0 (w : World) (M : Nat) (es : Array MapEntry) (c : Nat) (h : w.heap[M]? = some (.map es c)) : (getObj M).run P w = .ok (.map es c) w := by
  simp [getObj, Sem.run, h]
theorem run_lookup0 {w : World} {b : Nat} {l : List (κ × υ)} (h : MapAt w b ek ev l) {kt et mt : TypeId} (K : KeyK P kt ek) (ht : P.underlying mt = some (.map kt et)) {z : Value} (hz : (zeroValue et).run P w = .ok z w) (k : κ) (ok : Bool) :
    (Instr.lookup mt (.map (some b)) (ek k) ok).run P w = .ok (if ok then .tuple #[((look1 l k).map ev).getD z, .bool (look1 l k).isSome] else ((look1 l k).map ev).getD z) w := by
  unfold Instr.lookup
  simp only [Sem.run_bind, run_underlying ht, Result.andThen_ok, run_getMap0 w b _ _ h, Sem.run_pure, K.check]
  rcases run_find0 (ev := ev) K w l k with ⟨h1, h2⟩ | ⟨j, v, h1, h2⟩
  · cases ok <;> simp [h1, h2, hz]
  · cases ok <;> simp [h1, h2]
theorem run_lookupNil {w : World} {kt et mt : TypeId} (K : KeyK P kt ek) (ht : P.underlying mt = some (.map kt et)) {z : Value} (hz : (zeroValue et).run P w = .ok z w) (k : κ) (ok : Bool) :
    (Instr.lookup mt (.map none) (ek k) ok).run P w = .ok (if ok then .tuple #[z, .bool false] else z) w := by
  obtain ⟨d, hd, hs⟩ := K.same
  have hf : (Instr.findKey kt (ek k) []).run P w = .ok none w := by
    unfold Instr.findKey
    rw [Sem.run_bind, run_underlying hd]
    simp only [Result.andThen_ok, Instr.findNow]
    rfl
  unfold Instr.lookup
  simp only [Sem.run_bind, run_underlying ht, Result.andThen_ok, Sem.run_pure, K.check, hf]
  cases ok <;> simp [hz]
def putMap (w : World) (b : Nat) (ek : κ → Value) (ev : υ → Value) (l : List (κ × υ)) : World := w.putObj b (.map (mEnt ek ev 0 l).toArray l.length)
theorem run_update0 {w : World} {b : Nat} {l : List (κ × υ)} (h : MapAt w b ek ev l) {kt et mt : TypeId} (K : KeyK P kt ek) (ht : P.underlying mt = some (.map kt et)) {k : κ} (hn : look1 l k = none) (v : υ) :
    (Instr.mapUpdate mt (.map (some b)) (ek k) (ev v)).run P w = .ok () (putMap w b ek ev (l ++ [(k, v)])) := by
  unfold Instr.mapUpdate
  simp only [Sem.run_bind, run_underlying ht, Result.andThen_ok, run_getMap0 w b _ _ h, K.check]
  rcases run_find0 (ev := ev) K w l k with ⟨h1, h2⟩ | ⟨j, u, h1, h2⟩
  · simp only [h2, Result.andThen_ok]
    have hs : (setObj b (.map ((mEnt ek ev 0 l).toArray.push { key := ek k, val := ev v, born := l.length }) (l.length + 1))).run P w = .ok () (w.putObj b (.map ((mEnt ek ev 0 l).toArray.push { key := ek k, val := ev v, born := l.length }) (l.length + 1))) := by
      have h' : w.heap[b]? = some (.map (mEnt ek ev 0 l).toArray l.length) := h
      simp [setObj, Sem.run, h', World.putObj]
    rw [hs]
    unfold putMap
    rw [mEnt_snoc]
    simp
  · rw [hn] at h1; cases h1
omit [DecidableEq κ] in
theorem MapAt.lt {w : World} {b : Nat} {l : List (κ × υ)} (h : MapAt w b ek ev l) : b < w.heap.size := lt_of_block h
omit [DecidableEq κ] in
theorem MapAt.keep {w w' : World} {b : Nat} {l : List (κ × υ)} (h : MapAt w b ek ev l) (hk : w'.heap[b]? = w.heap[b]?) : MapAt w' b ek ev l := hk.trans h
omit [DecidableEq κ] in
theorem putMap_at {w : World} {b : Nat} (h : b < w.heap.size) (l : List (κ × υ)) : MapAt (putMap w b ek ev l) b ek ev l := World.putObj_heap_same h
omit [DecidableEq κ] in
theorem putMap_other {w : World} {b k : Nat} (h : k ≠ b) (l : List (κ × υ)) : (putMap w b ek ev l).heap[k]? = w.heap[k]? := World.putObj_heap_other h
omit [DecidableEq κ] in
theorem putMap_size (w : World) (b : Nat) (l : List (κ × υ)) : (putMap w b ek ev l).heap.size = w.heap.size := by simp [putMap, World.putObj]
omit [DecidableEq κ] in
/-- cells are not turned by an entry more -/
theorem putMap_cell {w : World} {b : Nat} {es : Array MapEntry} {c : Nat} (h : w.heap[b]? = some (.map es c)) (l : List (κ × υ)) (a : Addr) : (putMap w b ek ev l).cell? a = w.cell? a := by
  by_cases e : a.block = b
  · have h2 : (putMap w b ek ev l).heap[b]? = some (.map (mEnt ek ev 0 l).toArray l.length) := putMap_at (lt_of_block h) l
    simp [World.cell?, e, h, h2]
  · exact World.cell?_of_block (putMap_other e l)
omit [DecidableEq κ] in
theorem putMap_frozen {w : World} {b : Nat} {es : Array MapEntry} {c : Nat} (h : w.heap[b]? = some (.map es c)) (l : List (κ × υ)) (a : Addr) : (putMap w b ek ev l).frozen? a = w.frozen? a := by
  by_cases e : a.block = b
  · have h2 : (putMap w b ek ev l).heap[b]? = some (.map (mEnt ek ev 0 l).toArray l.length) := putMap_at (lt_of_block h) l
    simp [World.frozen?, e, h, h2]
  · exact World.frozen?_of_block (putMap_other e l)
omit [DecidableEq κ] in
theorem mapAt_new (w : World) : MapAt (w.alloc (.map #[] 0)) w.heap.size ek ev ([] : List (κ × υ)) := World.alloc_heap_new w _
theorem look1_snoc {l : List (κ × υ)} {k : κ} (h : look1 l k = none) (v : υ) (k' : κ) : look1 (l ++ [(k, v)]) k' = if k' = k then some v else look1 l k' := by
  unfold look1 at *
  rw [List.find?_append]
  by_cases e : k' = k
  · subst e
    rw [if_pos rfl]
    cases hf : l.find? fun x => decide (x.1 = k') with
    | some x => rw [hf] at h; cases h
    | none => simp
  · rw [if_neg e]
    cases hf : l.find? fun x => decide (x.1 = k') with
    | some x => rfl
    | none => simp [show ¬ k = k' from fun e' => e e'.symm]
theorem look1_none {l : List (κ × υ)} {k : κ} : look1 l k = none ↔ ∀ x ∈ l, x.1 ≠ k := by
  unfold look1
  rw [Option.map_eq_none_iff, List.find?_eq_none]
  constructor
  · intro h x hx e; exact h x hx (by simp [e])
  · intro h x hx e; exact h x hx (by simpa using e)
/-- keys each once -/
def NodupK (l : List (κ × υ)) : Prop := (l.map (·.1)).Nodup
theorem NodupK.snoc {l : List (κ × υ)} {k : κ} (h : NodupK l) (hn : look1 l k = none) (v : υ) : NodupK (l ++ [(k, v)]) := by
  unfold NodupK at *
  rw [List.map_append, List.nodup_append]
  refine ⟨h, by simp, ?_⟩
  intro a ha b hb
  simp at hb
  subst hb
  obtain ⟨x, hx, rfl⟩ := List.mem_map.1 ha
  exact look1_none.1 hn x hx
theorem NodupK.look {l : List (κ × υ)} (h : NodupK l) {x : κ × υ} (hx : x ∈ l) : look1 l x.1 = some x.2 := by
  unfold NodupK at h
  induction l with
  | nil => cases hx
  | cons y l ih =>
    rw [List.map_cons, List.nodup_cons] at h
    rcases List.mem_cons.1 hx with rfl | hx
    · simp [look1]
    · have hne : y.1 ≠ x.1 := fun e => h.1 (e ▸ List.mem_map_of_mem hx)
      have := ih h.2 hx
      simpa [look1, hne] using this
/-! a step of a range -/
omit [DecidableEq κ] in
theorem mEnt_get {l : List (κ × υ)} {n i : Nat} (hi : i < l.length) : (mEnt ek ev n l)[i]? = some { key := ek l[i].1, val := ev l[i].2, born := n + i } := by
  simp [mEnt, hi]
omit [DecidableEq κ] in
theorem mEnt_mem {l : List (κ × υ)} {e : MapEntry} (h : e ∈ mEnt ek ev 0 l) : ∃ i, ∃ hi : i < l.length, e = { key := ek l[i].1, val := ev l[i].2, born := i } := by
  obtain ⟨i, hi, he⟩ := List.mem_iff_getElem.1 h
  have hl : i < l.length := by rw [mEnt_len] at hi; exact hi
  refine ⟨i, hl, ?_⟩
  have := mEnt_get (ek := ek) (ev := ev) (n := 0) hl
  rw [List.getElem?_eq_getElem hi, he] at this
  simpa using this
omit [DecidableEq κ] in
theorem mEnt_born (l : List (κ × υ)) : (mEnt ek ev 0 l).map (·.born) = List.range l.length := by
  apply List.ext_getElem
  · simp [mEnt]
  · intro i h1 h2
    simp [mEnt]
/-- which entries were seen: no place twice -/
structure Seen (n : Nat) (seen : Array Nat) : Prop where
  lt : ∀ i ∈ seen.toList, i < n
  once : seen.toList.Nodup
theorem Seen.nil (n : Nat) : Seen n #[] := ⟨fun _ h => by simp at h, by simp⟩
theorem Seen.push {n : Nat} {seen : Array Nat} (h : Seen n seen) {i : Nat} (hi : i < n) (hn : i ∉ seen.toList) : Seen n (seen.push i) := by
  refine ⟨fun j hj => ?_, ?_⟩
  · simp at hj
    rcases hj with hj | rfl
    · exact h.lt j (by simpa using hj)
    · exact hi
  · rw [Array.toList_push, List.nodup_append]
    refine ⟨h.once, by simp, ?_⟩
    intro a ha b hb
    simp at hb
    subst hb
    exact fun e => hn (e ▸ ha)
theorem Seen.size_le {n : Nat} {seen : Array Nat} (h : Seen n seen) : seen.size ≤ n := by
  have h1 : seen.toList ⊆ List.range n := fun i hi => List.mem_range.2 (h.lt i hi)
  have := h.once.length_le_of_subset h1
  simpa using this
theorem Seen.size_lt {n : Nat} {seen : Array Nat} (h : Seen n seen) {i : Nat} (hi : i < n) (hn : i ∉ seen.toList) : seen.size < n := by
  have := (h.push hi hn).size_le
  simp at this
  omega
omit [DecidableEq κ] in
theorem next0 {wr : World} {r b : Nat} {l : List (κ × υ)} {seen : Array Nat} (hr : wr.heap[r]? = some (.mapIter (some b) l.length seen l.length)) (hb : MapAt wr b ek ev l) :
    ((∀ i, i < l.length → i ∈ seen.toList) ∧ ∀ ty, (Instr.next (.pointer (some ⟨r, 0, none⟩)) false ty).run P wr = .ok (.tuple #[.bool false]) wr) ∨
    ∃ (i : Nat) (hi : i < l.length), i ∉ seen.toList ∧ ∃ W : World, wr.grownBy W (some r) ∧ W.heap.size = wr.heap.size ∧ W.heap[r]? = some (.mapIter (some b) l.length (seen.push i) l.length) ∧
      (∀ ty, (Instr.next (.pointer (some ⟨r, 0, none⟩)) false ty).run P wr = .ok (.tuple #[.bool true, ek l[i].1, ev l[i].2]) W) ∧
      ∀ W' : World, W'.heap[r]? = W.heap[r]? → W'.heap[b]? = wr.heap[b]? → (Instr.entry (.pointer (some ⟨r, 0, none⟩))).run P W' = .ok (.tuple #[ek l[i].1, ev l[i].2]) W' := by
  have hb' : wr.heap[b]? = some (.map (mEnt ek ev 0 l).toArray l.length) := hb
  have hold : ∀ x ∈ (mEnt ek ev 0 l).toArray.toList, x.born < l.length := fun x hx => by
    obtain ⟨i, hi, rfl⟩ := mEnt_mem (by simpa using hx)
    exact hi
  rcases run_next_at (P := P) wr 0 r b l.length l.length seen _ _ hr hb' hold (Nat.le_refl _) with ⟨h0, hrun⟩ | ⟨e, he, w1, hw1, hrun⟩
  · left
    refine ⟨fun i hi => ?_, fun _ => hrun⟩
    have hm : ({ key := ek l[i].1, val := ev l[i].2, born := i } : MapEntry) ∈ mEnt ek ev 0 l := by
      have := mEnt_get (ek := ek) (ev := ev) (n := 0) hi
      rw [Nat.zero_add] at this
      exact List.mem_of_getElem? this
    have h1 : (leftOf (mEnt ek ev 0 l).toArray seen) = #[] := Array.eq_empty_of_size_eq_zero h0
    unfold leftOf at h1
    rw [Array.filter_eq_empty_iff] at h1
    have := h1 _ (by simpa using hm)
    simpa using this
  · right
    unfold leftOf at he
    simp only [Array.toList_filter, List.mem_filter] at he
    obtain ⟨i, hi, rfl⟩ := mEnt_mem he.1
    have hs : i ∉ seen.toList := by have := he.2; simpa using this
    have hrl := lt_of_block hr
    have hw1s : w1.heap = wr.heap := by rcases hw1 with rfl | rfl <;> rfl
    have hrb : r ≠ b := fun e => by rw [e, hb'] at hr; cases hr
    have hat : (setBlock w1 r (.mapIter (some b) l.length (seen.push i) l.length)).heap[r]? = some (.mapIter (some b) l.length (seen.push i) l.length) := by simp [setBlock, hw1s, hrl]
    refine ⟨i, hi, hs, setBlock w1 r (.mapIter (some b) l.length (seen.push i) l.length), ?_, by simp [setBlock, hw1s], hat, fun _ => hrun, fun W' h1 h2 => ?_⟩
    · refine ⟨?_, ?_, ?_, by simp [setBlock, hw1s], fun k _ hk => ?_⟩
      · rcases hw1 with rfl | rfl <;> rfl
      · rcases hw1 with rfl | rfl <;> rfl
      · rcases hw1 with rfl | rfl <;> rfl
      · simp only [setBlock]
        rw [Array.getElem?_setIfInBounds_ne (fun e => hk (by rw [e])), hw1s]
    · exact run_entry_at (P := P) W' r b l.length seen _ _ { key := ek l[i].1, val := ev l[i].2, born := i } (h1.trans hat) (h2.trans hb') (by simpa using he.1) (by simpa using (by rw [mEnt_born]; exact List.nodup_range : ((mEnt ek ev 0 l).map (·.born)).Nodup))
end
end Go.Proofs.Herb
