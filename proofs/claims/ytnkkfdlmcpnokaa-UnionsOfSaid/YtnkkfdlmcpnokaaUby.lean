
/- unions.byKey: the facts of three lists, by their keys: a map of arrays of maps, laid in new memory: plain part. -/
import Derived.Test.YtnkkfdlmcpnokaaUsp
namespace Go.Proofs.Herb
open Go.RowKit
abbrev evK : (Nat → Nat) → Value := fun b => .agg #[.map (some (b 0)), .map (some (b 1)), .map (some (b 2))]
structure KyE where
  key : ByteArray
  blk : Nat → Nat
  inn : Nat → List (Nat × Fact)
def kyTop (t : List KyE) : List (ByteArray × (Nat → Nat)) := t.map fun x => (x.key, x.blk)
def kyBlks (t : List KyE) : List Nat := t.flatMap fun x => [x.blk 0, x.blk 1, x.blk 2]
structure KyAt (base : Nat) (w : World) (M : Nat) (t : List KyE) : Prop where
  top : MapAt w M ekS evK (kyTop t)
  inn : ∀ x ∈ t, ∀ j, j < 3 → MapAt w (x.blk j) ekU evF (x.inn j)
  once : (M :: kyBlks t).Nodup
  low : base ≤ M ∧ ∀ b ∈ kyBlks t, base ≤ b
structure KyInv (K : List ByteArray) (ls : Nat → List Fact) (t : List KyE) : Prop where
  keys : NodupK (kyTop t)
  inn : ∀ x ∈ t, ∀ j, j < 3 → NodupK (x.inn j) ∧ ∀ v, look1 (x.inn j) v = findF (ls j) x.key v
  all : ∀ j, j < 3 → ∀ f ∈ ls j, ∃ x ∈ t, x.key = f.key
  come : ∀ x ∈ t, x.key ∈ K
theorem three {j : Nat} (h : j < 3) : j = 0 ∨ j = 1 ∨ j = 2 := by omega
theorem kyBlks_mem {t : List KyE} {x : KyE} (hx : x ∈ t) {j : Nat} (hj : j < 3) : x.blk j ∈ kyBlks t := by
  unfold kyBlks
  rw [List.mem_flatMap]
  refine ⟨x, hx, ?_⟩
  rcases three hj with rfl | rfl | rfl <;> simp
theorem KyAt.below {base : Nat} {w w' : World} {M : Nat} {t : List KyE} (h : KyAt base w M t) (hb : Below w.heap.size w w') : KyAt base w' M t :=
  ⟨h.top.keep (hb.block _ h.top.lt), fun x hx j hj => (h.inn x hx j hj).keep (hb.block _ (h.inn x hx j hj).lt), h.once, h.low⟩
theorem kyTop_none {t : List KyE} {k : ByteArray} : look1 (kyTop t) k = none ↔ ∀ x ∈ t, x.key ≠ k := by
  rw [look1_none]
  constructor
  · intro h x hx; exact h (x.key, x.blk) (List.mem_map.2 ⟨x, hx, rfl⟩)
  · intro h y hy
    obtain ⟨x, hx, rfl⟩ := List.mem_map.1 hy
    exact h x hx
theorem kyTop_some {t : List KyE} {k : ByteArray} {b : Nat → Nat} (h : look1 (kyTop t) k = some b) : ∃ x ∈ t, x.key = k ∧ x.blk = b := by
  unfold look1 at h
  cases hf : (kyTop t).find? fun x => decide (x.1 = k) with
  | none => rw [hf] at h; cases h
  | some y =>
    rw [hf] at h
    have h1 := List.find?_some hf
    have h2 := List.mem_of_find?_eq_some hf
    obtain ⟨x, hx, rfl⟩ := List.mem_map.1 h2
    simp at h1 h
    exact ⟨x, hx, h1, h⟩
theorem kyTop_mem {t : List KyE} (hk : NodupK (kyTop t)) {x : KyE} (hx : x ∈ t) : look1 (kyTop t) x.key = some x.blk := hk.look (List.mem_map.2 ⟨x, hx, rfl⟩)
theorem kyTop_snoc (t : List KyE) (x : KyE) : kyTop (t ++ [x]) = kyTop t ++ [(x.key, x.blk)] := by simp [kyTop]
theorem kyBlks_snoc (t : List KyE) (x : KyE) : kyBlks (t ++ [x]) = kyBlks t ++ [x.blk 0, x.blk 1, x.blk 2] := by simp [kyBlks]
/-- a key more, with three empty maps -/
theorem KyAt.newKey {base : Nat} {w w' : World} {M : Nat} {t : List KyE} (h : KyAt base w M t) {B : Nat} (hB : w.heap.size ≤ B) (hbb : base ≤ w.heap.size) (hb : Below w.heap.size w w') (hm : ∀ j, j < 3 → w'.heap[B + j]? = some (.map #[] 0)) (k : ByteArray) :
    KyAt base (putMap w' M ekS evK (kyTop t ++ [(k, fun j => B + j)])) M (t ++ [⟨k, fun j => B + j, fun _ => []⟩]) := by
  have hMl := h.top.lt
  have hnd := List.nodup_cons.1 h.once
  have hlt : ∀ b ∈ kyBlks t, b < w.heap.size := fun b hb' => by
    unfold kyBlks at hb'
    rw [List.mem_flatMap] at hb'
    obtain ⟨x, hx, hb'⟩ := hb'
    simp only [List.mem_cons, List.not_mem_nil, or_false] at hb'
    rcases hb' with rfl | rfl | rfl
    · exact (h.inn x hx 0 (by omega)).lt
    · exact (h.inn x hx 1 (by omega)).lt
    · exact (h.inn x hx 2 (by omega)).lt
  have hsz := hb.size
  refine ⟨?_, fun x hx j hj => ?_, ?_, h.low.1, fun b hb' => ?_⟩
  · rw [kyTop_snoc]
    exact putMap_at (by omega) _
  · rcases List.mem_append.1 hx with hx | hx
    · have h1 := h.inn x hx j hj
      exact (h1.keep (hb.block _ h1.lt)).keep (putMap_other (fun e => hnd.1 (by rw [← e]; exact kyBlks_mem hx hj)) _)
    · obtain rfl := List.mem_singleton.1 hx
      show MapAt _ (B + j) ekU evF []
      have h1 : MapAt w' (B + j) ekU evF ([] : List (Nat × Fact)) := hm j hj
      exact h1.keep (putMap_other (by omega) _)
  · rw [kyBlks_snoc, ← List.cons_append, List.nodup_append]
    refine ⟨h.once, by simp, fun a ha b hb' => ?_⟩
    simp only [List.mem_cons, List.not_mem_nil, or_false] at hb'
    have hbB : B ≤ b := by rcases hb' with rfl | rfl | rfl <;> omega
    rcases List.mem_cons.1 ha with rfl | ha
    · omega
    · have := hlt a ha; omega
  · rw [kyBlks_snoc] at hb'
    rcases List.mem_append.1 hb' with hb' | hb'
    · exact h.low.2 b hb'
    · simp only [List.mem_cons, List.not_mem_nil, or_false] at hb'
      rcases hb' with rfl | rfl | rfl <;> omega
/-- an entry more in one of a key's maps -/
def kyPut (t : List KyE) (k : ByteArray) (i : Nat) (f : Fact) : List KyE := t.map fun x => if x.key = k then { x with inn := fun j => if j = i then x.inn j ++ [(f.valid, f)] else x.inn j } else x
theorem kyTop_put (t : List KyE) (k : ByteArray) (i : Nat) (f : Fact) : kyTop (kyPut t k i f) = kyTop t := by
  unfold kyTop kyPut
  rw [List.map_map]
  apply List.map_congr_left
  intro x _
  simp only [Function.comp_def]
  split <;> rfl
theorem kyBlks_put (t : List KyE) (k : ByteArray) (i : Nat) (f : Fact) : kyBlks (kyPut t k i f) = kyBlks t := by
  unfold kyBlks kyPut
  rw [List.flatMap_map]
  congr 1
  funext x
  by_cases e : x.key = k
  · rw [if_pos e]
  · rw [if_neg e]
theorem kyKey_inj {t : List KyE} (hk : NodupK (kyTop t)) {x y : KyE} (hx : x ∈ t) (hy : y ∈ t) (e : x.key = y.key) : x.blk = y.blk := by
  have h1 := kyTop_mem hk hx
  have h2 := kyTop_mem hk hy
  rw [e, h2] at h1
  exact (Option.some.inj h1).symm
/-- blocks tell entry and place -/
theorem kyBlk_inj : ∀ {t : List KyE}, (kyBlks t).Nodup → ∀ {x y : KyE}, x ∈ t → y ∈ t → ∀ {i j : Nat}, i < 3 → j < 3 → x.blk i = y.blk j → x = y ∧ i = j
  | [], _, _, _, hx, _, _, _, _, _, _ => by cases hx
  | z :: t, hn, x, y, hx0, hy0, i, j, hi, hj, e => by
    have hz : kyBlks (z :: t) = [z.blk 0, z.blk 1, z.blk 2] ++ kyBlks t := by simp [kyBlks]
    rw [hz, List.nodup_append] at hn
    obtain ⟨h1, h2, h3⟩ := hn
    have hzm : ∀ {k}, k < 3 → z.blk k ∈ [z.blk 0, z.blk 1, z.blk 2] := fun {k} hk => by rcases three hk with rfl | rfl | rfl <;> simp
    rcases List.mem_cons.1 hx0 with rfl | hx
    · rcases List.mem_cons.1 hy0 with rfl | hy
      · refine ⟨rfl, ?_⟩
        simp at h1
        rcases three hi with rfl | rfl | rfl <;> rcases three hj with rfl | rfl | rfl <;> first | rfl | (exfalso; omega)
      · exact absurd e (h3 _ (hzm hi) _ (kyBlks_mem hy hj))
    · rcases List.mem_cons.1 hy0 with rfl | hy
      · exact absurd e.symm (h3 _ (hzm hj) _ (kyBlks_mem hx hi))
      · exact kyBlk_inj h2 hx hy hi hj e
theorem KyAt.newEnt {base : Nat} {w : World} {M : Nat} {t : List KyE} (h : KyAt base w M t) (hk : NodupK (kyTop t)) {x : KyE} (hx : x ∈ t) {i : Nat} (hi : i < 3) (f : Fact) :
    KyAt base (putMap w (x.blk i) ekU evF (x.inn i ++ [(f.valid, f)])) M (kyPut t x.key i f) := by
  have hnd := List.nodup_cons.1 h.once
  refine ⟨?_, fun y hy j hj => ?_, ?_, h.low.1, ?_⟩
  · rw [kyTop_put]
    exact h.top.keep (putMap_other (fun e => hnd.1 (by rw [e]; exact kyBlks_mem hx hi)) _)
  · obtain ⟨z, hz, rfl⟩ := List.mem_map.1 hy
    by_cases e : z.key = x.key
    · rw [if_pos e]
      have hzx : z = x := (kyBlk_inj hnd.2 hz hx (i := 0) (j := 0) (by omega) (by omega) (congrFun (kyKey_inj hk hz hx e) 0)).1
      subst hzx
      by_cases ej : j = i
      · subst ej
        show MapAt _ (z.blk j) ekU evF (if j = j then z.inn j ++ [(f.valid, f)] else z.inn j)
        rw [if_pos rfl]
        exact putMap_at (h.inn z hz j hj).lt _
      · show MapAt _ (z.blk j) ekU evF (if j = i then z.inn j ++ [(f.valid, f)] else z.inn j)
        rw [if_neg ej]
        exact (h.inn z hz j hj).keep (putMap_other (fun eb => ej (kyBlk_inj hnd.2 hz hz hj hi eb).2) _)
    · rw [if_neg e]
      refine (h.inn z hz j hj).keep (putMap_other (fun eb => e ?_) _)
      rw [(kyBlk_inj hnd.2 hz hx hj hi eb).1]
  · rw [kyBlks_put]; exact h.once
  · rw [kyBlks_put]; exact h.low.2
/-! the invariant, as facts come -/
theorem KyInv.nil : KyInv [] (fun _ => []) [] := ⟨List.Pairwise.nil, fun x h => (by cases h), fun _ _ f h => (by cases h), fun x h => (by cases h)⟩
theorem findF_snoc (p : List Fact) (f : Fact) (k : ByteArray) (v : Nat) : findF (p ++ [f]) k v = (findF p k v).or (if f.key = k ∧ f.valid = v then some f else none) := by
  rw [findF_append]
  congr 1
  unfold findF
  by_cases h : f.key = k ∧ f.valid = v
  · rw [if_pos h]; simp [h.1, h.2]
  · rw [if_neg h]
    by_cases h1 : f.key = k
    · have h2 : ¬ f.valid = v := fun e => h ⟨h1, e⟩
      simp [h1, h2]
    · simp [h1]
theorem KyInv.newKey {K : List ByteArray} {ls : Nat → List Fact} {t : List KyE} (h : KyInv K ls t) {k : ByteArray} (hn : look1 (kyTop t) k = none) (B : Nat) : KyInv (K ++ [k]) ls (t ++ [⟨k, fun j => B + j, fun _ => []⟩]) := by
  refine ⟨?_, fun x hx j hj => ?_, fun j hj f hf => ?_, fun x hx => ?_⟩
  · rw [kyTop_snoc]
    exact h.keys.snoc hn _
  · rcases List.mem_append.1 hx with hx | hx
    · exact h.inn x hx j hj
    · obtain rfl := List.mem_singleton.1 hx
      refine ⟨List.Pairwise.nil, fun v => ?_⟩
      show none = _
      symm
      refine findF_none.2 fun f hf e => ?_
      obtain ⟨x, hx, hk⟩ := h.all j hj f hf
      exact absurd (hk.trans e) (kyTop_none.1 hn x hx)
  · obtain ⟨x, hx, hk⟩ := h.all j hj f hf
    exact ⟨x, List.mem_append_left _ hx, hk⟩
  · rcases List.mem_append.1 hx with hx | hx
    · exact List.mem_append_left _ (h.come x hx)
    · obtain rfl := List.mem_singleton.1 hx
      simp
/-- a list has one fact more -/
def lsPut (ls : Nat → List Fact) (i : Nat) (f : Fact) : Nat → List Fact := fun j => if j = i then ls j ++ [f] else ls j
theorem KyInv.newEnt {K : List ByteArray} {ls : Nat → List Fact} {t : List KyE} (h : KyInv K ls t) {f : Fact} {x : KyE} (hx : x ∈ t) (hk : x.key = f.key) {i : Nat} (hi : i < 3) (hn : look1 (x.inn i) f.valid = none) (K' : List ByteArray) (hK : ∀ k ∈ K, k ∈ K') : KyInv K' (lsPut ls i f) (kyPut t f.key i f) := by
  have hp : findF (ls i) f.key f.valid = none := by rw [← hk, ← (h.inn x hx i hi).2]; exact hn
  refine ⟨by rw [kyTop_put]; exact h.keys, fun y hy j hj => ?_, fun j hj g hg => ?_, fun y hy => ?_⟩
  · obtain ⟨z, hz, rfl⟩ := List.mem_map.1 hy
    obtain ⟨h1, h2⟩ := h.inn z hz j hj
    unfold lsPut
    by_cases e : z.key = f.key
    · rw [if_pos e]
      by_cases ej : j = i
      · subst ej
        show NodupK (if j = j then z.inn j ++ [(f.valid, f)] else z.inn j) ∧ ∀ v, look1 (if j = j then z.inn j ++ [(f.valid, f)] else z.inn j) v = findF (if j = j then ls j ++ [f] else ls j) z.key v
        rw [if_pos rfl, if_pos rfl]
        have hz0 : look1 (z.inn j) f.valid = none := by rw [h2, e]; exact hp
        refine ⟨h1.snoc hz0 _, fun v => ?_⟩
        rw [look1_snoc hz0, findF_snoc, h2]
        by_cases ev : v = f.valid
        · subst ev
          rw [if_pos rfl, e, hp, if_pos ⟨rfl, rfl⟩]; rfl
        · rw [if_neg ev, if_neg (fun h => ev h.2.symm), Option.or_none]
      · show NodupK (if j = i then z.inn j ++ [(f.valid, f)] else z.inn j) ∧ ∀ v, look1 (if j = i then z.inn j ++ [(f.valid, f)] else z.inn j) v = findF (if j = i then ls j ++ [f] else ls j) z.key v
        rw [if_neg ej, if_neg ej]
        exact ⟨h1, h2⟩
    · rw [if_neg e]
      refine ⟨h1, fun v => ?_⟩
      by_cases ej : j = i
      · subst ej
        rw [if_pos rfl, findF_snoc, h2, if_neg (fun h => e h.1.symm), Option.or_none]
      · rw [if_neg ej]; exact h2 v
  · have hold : ∀ g, (∃ z ∈ t, z.key = g) → ∃ z ∈ kyPut t f.key i f, z.key = g := fun g ⟨z, hz, hk'⟩ => by
      refine ⟨_, List.mem_map_of_mem hz, ?_⟩
      split <;> exact hk'
    unfold lsPut at hg
    by_cases ej : j = i
    · subst ej
      rw [if_pos rfl] at hg
      rcases List.mem_append.1 hg with hg | hg
      · exact hold _ (h.all j hj g hg)
      · obtain rfl := List.mem_singleton.1 hg
        exact hold _ ⟨x, hx, hk⟩
    · rw [if_neg ej] at hg
      exact hold _ (h.all j hj g hg)
  · obtain ⟨z, hz, rfl⟩ := List.mem_map.1 hy
    have := hK _ (h.come z hz)
    split <;> exact this
theorem KyInv.again {K : List ByteArray} {ls : Nat → List Fact} {t : List KyE} (h : KyInv K ls t) {f : Fact} {x : KyE} (hx : x ∈ t) (hk : x.key = f.key) {i : Nat} (hi : i < 3) {g : Fact} (hn : look1 (x.inn i) f.valid = some g) (K' : List ByteArray) (hK : ∀ k ∈ K, k ∈ K') : KyInv K' (lsPut ls i f) t := by
  have hp : findF (ls i) f.key f.valid = some g := by rw [← hk, ← (h.inn x hx i hi).2]; exact hn
  refine ⟨h.keys, fun y hy j hj => ⟨(h.inn y hy j hj).1, fun v => ?_⟩, fun j hj g' hg => ?_, fun y hy => hK _ (h.come y hy)⟩
  · rw [(h.inn y hy j hj).2]
    unfold lsPut
    by_cases ej : j = i
    · subst ej
      rw [if_pos rfl, findF_snoc]
      by_cases e : f.key = y.key ∧ f.valid = v
      · rw [← e.1, ← e.2, hp]; rfl
      · rw [if_neg e, Option.or_none]
    · rw [if_neg ej]
  · unfold lsPut at hg
    by_cases ej : j = i
    · subst ej
      rw [if_pos rfl] at hg
      rcases List.mem_append.1 hg with hg | hg
      · exact h.all j hj g' hg
      · obtain rfl := List.mem_singleton.1 hg
        exact ⟨x, hx, hk⟩
    · rw [if_neg ej] at hg
      exact h.all j hj g' hg
end Go.Proofs.Herb
