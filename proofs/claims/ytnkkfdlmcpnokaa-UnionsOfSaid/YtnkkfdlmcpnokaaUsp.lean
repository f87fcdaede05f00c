
/- views.spoken: what each key of a list is, from each time on, as a map of maps, laid in new memory. For facts that can be read. -/
import Derived.Test.YtnkkfdlmcpnokaaUks
import Derived.Deep.Cut
namespace Go.Proofs.Herb
open Go.RowKit
abbrev evM : Nat → Value := fun b => .map (some b)
abbrev evS : Nat × ByteArray → Value := fun s => .agg #[.int .u8 (s.1 : Int), .string s.2]
/-- a key, the block of its map, that map's entries -/
structure SpE where
  key : ByteArray
  blk : Nat
  inn : List (Nat × Nat × ByteArray)
def spTop (t : List SpE) : List (ByteArray × Nat) := t.map fun x => (x.key, x.blk)
structure SpAt (base : Nat) (w : World) (M : Nat) (t : List SpE) : Prop where
  top : MapAt w M ekS evM (spTop t)
  inn : ∀ x ∈ t, MapAt w x.blk ekU evS x.inn
  once : (M :: t.map (·.blk)).Nodup
  low : base ≤ M ∧ ∀ x ∈ t, base ≤ x.blk
structure SpInv (p : List Fact) (t : List SpE) : Prop where
  keys : NodupK (spTop t)
  inn : ∀ x ∈ t, NodupK x.inn ∧ ∀ v, look1 x.inn v = lookF p x.key v
  all : ∀ f ∈ p, ∃ x ∈ t, x.key = f.key
theorem SpAt.below {base : Nat} {w w' : World} {M : Nat} {t : List SpE} (h : SpAt base w M t) (hb : Below w.heap.size w w') : SpAt base w' M t :=
  ⟨h.top.keep (hb.block _ h.top.lt), fun x hx => (h.inn x hx).keep (hb.block _ (h.inn x hx).lt), h.once, h.low⟩
theorem spTop_none {t : List SpE} {k : ByteArray} : look1 (spTop t) k = none ↔ ∀ x ∈ t, x.key ≠ k := by
  rw [look1_none]
  constructor
  · intro h x hx; exact h (x.key, x.blk) (List.mem_map.2 ⟨x, hx, rfl⟩)
  · intro h y hy
    obtain ⟨x, hx, rfl⟩ := List.mem_map.1 hy
    exact h x hx
theorem spTop_some {t : List SpE} {k : ByteArray} {b : Nat} (h : look1 (spTop t) k = some b) : ∃ x ∈ t, x.key = k ∧ x.blk = b := by
  unfold look1 at h
  cases hf : (spTop t).find? fun x => decide (x.1 = k) with
  | none => rw [hf] at h; cases h
  | some y =>
    rw [hf] at h
    have h1 := List.find?_some hf
    have h2 := List.mem_of_find?_eq_some hf
    obtain ⟨x, hx, rfl⟩ := List.mem_map.1 h2
    simp at h1 h
    exact ⟨x, hx, h1, h⟩
theorem spTop_mem {t : List SpE} (hk : NodupK (spTop t)) {x : SpE} (hx : x ∈ t) : look1 (spTop t) x.key = some x.blk := hk.look (List.mem_map.2 ⟨x, hx, rfl⟩)
/-- a key more, with an empty map -/
theorem SpAt.newKey {base : Nat} {w : World} {M : Nat} {t : List SpE} (h : SpAt base w M t) (hb : base ≤ w.heap.size) {k : ByteArray} (_hn : look1 (spTop t) k = none) :
    SpAt base (putMap (w.alloc (.map #[] 0)) M ekS evM (spTop t ++ [(k, w.heap.size)])) M (t ++ [⟨k, w.heap.size, []⟩]) := by
  have hMl := h.top.lt
  have hnM : ∀ x ∈ t, x.blk ≠ M := fun x hx e => by
    have := (List.nodup_cons.1 h.once).1
    exact this (e ▸ List.mem_map_of_mem hx)
  have hlt : ∀ x ∈ t, x.blk < w.heap.size := fun x hx => (h.inn x hx).lt
  refine ⟨?_, fun x hx => ?_, ?_, h.low.1, fun x hx => ?_⟩
  · have e : spTop (t ++ [⟨k, w.heap.size, []⟩]) = spTop t ++ [(k, w.heap.size)] := by simp [spTop]
    rw [e]
    exact putMap_at (by simp; omega) _
  · rcases List.mem_append.1 hx with hx | hx
    · exact ((h.inn x hx).keep (RowKit.Below.heap_alloc w _ _ (hlt x hx))).keep (putMap_other (hnM x hx) _)
    · obtain rfl := List.mem_singleton.1 hx
      exact (mapAt_new w).keep (putMap_other (show w.heap.size ≠ M by omega) _)
  · rw [List.map_append, ← List.cons_append, List.nodup_append]
    refine ⟨h.once, by simp, fun a ha b hb' => ?_⟩
    simp at hb'
    subst hb'
    rcases List.mem_cons.1 ha with rfl | ha
    · omega
    · obtain ⟨x, hx, rfl⟩ := List.mem_map.1 ha
      have := hlt x hx
      omega
  · rcases List.mem_append.1 hx with hx | hx
    · exact h.low.2 x hx
    · obtain rfl := List.mem_singleton.1 hx
      exact hb
/-- an entry more in a key's map -/
def spPut (t : List SpE) (k : ByteArray) (v : Nat) (s : Nat × ByteArray) : List SpE := t.map fun x => if x.key = k then { x with inn := x.inn ++ [(v, s)] } else x
theorem spTop_put (t : List SpE) (k : ByteArray) (v : Nat) (s : Nat × ByteArray) : spTop (spPut t k v s) = spTop t := by
  unfold spTop spPut
  rw [List.map_map]
  apply List.map_congr_left
  intro x _
  simp only [Function.comp_def]
  split <;> rfl
theorem spPut_blk (t : List SpE) (k : ByteArray) (v : Nat) (s : Nat × ByteArray) : (spPut t k v s).map (·.blk) = t.map (·.blk) := by
  unfold spPut
  rw [List.map_map]
  apply List.map_congr_left
  intro x _
  simp only [Function.comp_def]
  split <;> rfl
theorem keys_inj {t : List SpE} (hk : NodupK (spTop t)) {x y : SpE} (hx : x ∈ t) (hy : y ∈ t) (e : x.key = y.key) : x.blk = y.blk := by
  have h1 := spTop_mem hk hx
  have h2 := spTop_mem hk hy
  rw [e, h2] at h1
  exact (Option.some.inj h1).symm
theorem blk_inj {t : List SpE} (h : (t.map (·.blk)).Nodup) {x y : SpE} (hx : x ∈ t) (hy : y ∈ t) (e : x.blk = y.blk) : x = y := by
  obtain ⟨i, hi, rfl⟩ := List.mem_iff_getElem.1 hx
  obtain ⟨j, hj, rfl⟩ := List.mem_iff_getElem.1 hy
  have := (List.getElem_inj (h₀ := by simpa using hi) (h₁ := by simpa using hj) h).1 (by simpa using e)
  subst this
  rfl
theorem SpAt.newEnt {base : Nat} {w : World} {M : Nat} {t : List SpE} (h : SpAt base w M t) (hk : NodupK (spTop t)) {x : SpE} (hx : x ∈ t) (v : Nat) (s : Nat × ByteArray) :
    SpAt base (putMap w x.blk ekU evS (x.inn ++ [(v, s)])) M (spPut t x.key v s) := by
  have hnd := List.nodup_cons.1 h.once
  have hMx : M ≠ x.blk := fun e => hnd.1 (e ▸ List.mem_map_of_mem hx)
  refine ⟨?_, fun y hy => ?_, ?_, h.low.1, fun y hy => ?_⟩
  · rw [spTop_put]
    exact h.top.keep (putMap_other hMx _)
  · obtain ⟨z, hz, rfl⟩ := List.mem_map.1 hy
    by_cases e : z.key = x.key
    · have hb := keys_inj hk hz hx e
      obtain rfl := blk_inj hnd.2 hz hx hb
      rw [if_pos rfl]
      exact putMap_at (h.inn z hz).lt _
    · rw [if_neg e]
      refine (h.inn z hz).keep (putMap_other (fun eb => e ?_) _)
      rw [blk_inj hnd.2 hz hx eb]
  · rw [spPut_blk]; exact h.once
  · obtain ⟨z, hz, rfl⟩ := List.mem_map.1 hy
    split
    · exact h.low.2 z hz
    · exact h.low.2 z hz
/-! the invariant, as facts come -/
theorem SpInv.nil : SpInv [] [] := ⟨List.Pairwise.nil, fun x h => (by cases h), fun f h => (by cases h)⟩
theorem lookF_snoc (p : List Fact) (f : Fact) (k : ByteArray) (v : Nat) : lookF (p ++ [f]) k v = (lookF p k v).or (if f.key = k ∧ f.valid = v then some (f.kind, f.val) else none) := by
  rw [lookF_append]
  congr 1
  unfold lookF findF
  by_cases h : f.key = k ∧ f.valid = v
  · rw [if_pos h]; simp [h.1, h.2]
  · rw [if_neg h]
    by_cases h1 : f.key = k
    · have h2 : ¬ f.valid = v := fun e => h ⟨h1, e⟩
      simp [h1, h2]
    · simp [h1]
theorem SpInv.newKey {p : List Fact} {t : List SpE} (h : SpInv p t) {k : ByteArray} (hn : look1 (spTop t) k = none) (b : Nat) : SpInv p (t ++ [⟨k, b, []⟩]) := by
  refine ⟨?_, fun x hx => ?_, fun f hf => ?_⟩
  · have e : spTop (t ++ [⟨k, b, []⟩]) = spTop t ++ [(k, b)] := by simp [spTop]
    rw [e]
    exact h.keys.snoc hn b
  · rcases List.mem_append.1 hx with hx | hx
    · exact h.inn x hx
    · obtain rfl := List.mem_singleton.1 hx
      refine ⟨List.Pairwise.nil, fun v => ?_⟩
      show none = _
      symm
      refine lookF_none.2 fun f hf e => ?_
      obtain ⟨x, hx, hk⟩ := h.all f hf
      exact absurd (hk.trans e) (spTop_none.1 hn x hx)
  · obtain ⟨x, hx, hk⟩ := h.all f hf
    exact ⟨x, List.mem_append_left _ hx, hk⟩
theorem SpInv.newEnt {p : List Fact} {t : List SpE} (h : SpInv p t) {f : Fact} {x : SpE} (hx : x ∈ t) (hk : x.key = f.key) (hn : look1 x.inn f.valid = none) : SpInv (p ++ [f]) (spPut t f.key f.valid (f.kind, f.val)) := by
  have hp : lookF p f.key f.valid = none := by rw [← hk, ← (h.inn x hx).2]; exact hn
  refine ⟨by rw [spTop_put]; exact h.keys, fun y hy => ?_, fun g hg => ?_⟩
  · obtain ⟨z, hz, rfl⟩ := List.mem_map.1 hy
    obtain ⟨h1, h2⟩ := h.inn z hz
    by_cases e : z.key = f.key
    · rw [if_pos e]
      have hz0 : look1 z.inn f.valid = none := by rw [h2, e]; exact hp
      refine ⟨h1.snoc hz0 _, fun v => ?_⟩
      show look1 (z.inn ++ [(f.valid, (f.kind, f.val))]) v = lookF (p ++ [f]) z.key v
      rw [look1_snoc hz0, lookF_snoc, h2]
      by_cases ev : v = f.valid
      · subst ev
        rw [if_pos rfl, e, hp, if_pos ⟨rfl, rfl⟩]; rfl
      · rw [if_neg ev, if_neg (fun h => ev h.2.symm), Option.or_none]
    · rw [if_neg e]
      refine ⟨h1, fun v => ?_⟩
      rw [lookF_snoc, h2, if_neg (fun h => e h.1.symm), Option.or_none]
  · rcases List.mem_append.1 hg with hg | hg
    · obtain ⟨z, hz, hk'⟩ := h.all g hg
      refine ⟨_, List.mem_map_of_mem hz, ?_⟩
      split <;> exact hk'
    · obtain rfl := List.mem_singleton.1 hg
      refine ⟨_, List.mem_map_of_mem hx, ?_⟩
      split <;> exact hk
theorem SpInv.again {p : List Fact} {t : List SpE} (h : SpInv p t) {f : Fact} {x : SpE} (hx : x ∈ t) (hk : x.key = f.key) {s : Nat × ByteArray} (hn : look1 x.inn f.valid = some s) : SpInv (p ++ [f]) t := by
  have hp : lookF p f.key f.valid = some s := by rw [← hk, ← (h.inn x hx).2]; exact hn
  refine ⟨h.keys, fun y hy => ⟨(h.inn y hy).1, fun v => ?_⟩, fun g hg => ?_⟩
  · rw [lookF_snoc, (h.inn y hy).2]
    by_cases e : f.key = y.key ∧ f.valid = v
    · rw [← e.1, ← e.2, hp]; rfl
    · rw [if_neg e, Option.or_none]
  · rcases List.mem_append.1 hg with hg | hg
    · exact h.all g hg
    · obtain rfl := List.mem_singleton.1 hg
      exact ⟨x, hx, hk⟩
theorem make_map0 {P : Program} (T : TypeId) (W : World) : (Instr.makeMap T none).run P W = .ok (.map (some W.heap.size)) (W.alloc (.map #[] 0)) := by
  simp [Instr.makeMap, newObj, Sem.run]
theorem zeroMapS (w : World) : (zeroValue 70).run Try.prog w = .ok (.map none) w := by kernel_rfl
theorem zeroSaid (w : World) : (zeroValue 72).run Try.prog w = .ok (.agg #[.int .u8 0, .string ⟨#[]⟩]) w := by kernel_rfl
theorem SpAt.lk {base : Nat} {w : World} {M : Nat} {t : List SpE} (h : SpAt base w M t) (k : ByteArray) : (Instr.lookup 67 (.map (some M)) (.string k) false).run Try.prog w = .ok (((look1 (spTop t) k).map evM).getD (.map none)) w :=
  run_lookup0 h.top keyS Try.underlying67 (zeroMapS w) k false
theorem SpAt.lki {base : Nat} {w : World} {M : Nat} {t : List SpE} (h : SpAt base w M t) {x : SpE} (hx : x ∈ t) (v : Nat) : (Instr.lookup 70 (.map (some x.blk)) (.int .u32 (v : Int)) true).run Try.prog w = .ok (.tuple #[((look1 x.inn v).map evS).getD (.agg #[.int .u8 0, .string ⟨#[]⟩]), .bool (look1 x.inn v).isSome]) w :=
  run_lookup0 (h.inn x hx) keyU Try.underlying70 (zeroSaid w) v true
theorem eql_nilS (w : World) : (binOp .eql 70 (.map none) (.map none)).run Try.prog w = .ok (.bool true) w := by kernel_rfl
theorem eql_someS (b : Nat) (w : World) : (binOp .eql 70 (.map (some b)) (.map none)).run Try.prog w = .ok (.bool false) w := by kernel_rfl
set_option maxRecDepth 100000 in
set_option maxHeartbeats 4000000 in
theorem spoken_any (q : Option Addr) (n c : Nat) (l : List Fact) (w : World) (hn : l.length = n) (_hm : n ≤ 1000000) (hr : Rd w q (fCells l)) :
    Calls Try.prog 31 #[.slice q n c] w fun e w' => ∃ M t, e = .returned (.map (some M)) ∧ SpAt w.heap.size w' M t ∧ SpInv l t ∧ Below w.heap.size w w' := by
  have HN := hid hn
  have HR := hid hr
  have hmk := make_map0 (P := Try.prog)
  have hen := eql_nilS
  have hes := eql_someS
  clear hn hr
  go_enter Try.func31, Try.ntmps31
  go_wp2
  go_loopw [11] (fun vi wr => ∃ (i : Nat) (t : List SpE), vi = .int .i64 i ∧ i ≤ n ∧ Hid (SpAt w.heap.size wr w.heap.size t) ∧ Hid (SpInv (l.take i) t) ∧ Hid (Below w.heap.size w wr)) (fun vi _ => n - (intOf vi).toNat)
  case atStart => exact ⟨0, [], rfl, Nat.zero_le _, ⟨mapAt_new w, fun x h => (by cases h), by simp, Nat.le_refl _, fun x h => (by cases h)⟩, SpInv.nil, (Below.refl _ _).alloc (Nat.le_refl _) _⟩
  case round =>
    obtain ⟨i, t, rfl, hin, HA, HI, HB⟩ := hrel
    by_cases hlt : i < n
    · obtain ⟨b, off, rfl, hb, hf⟩ := fact_at (HR.out.below HB.out) (j := i) (by rw [HN.out]; exact hlt)
      obtain ⟨f, hfe⟩ : ∃ f, f = l[i]'(by rw [HN.out]; exact hlt) := ⟨_, rfl⟩
      rw [← hfe] at hf
      have HT : Hid (l.take (i + 1) = l.take i ++ [f]) := by show _ = _; rw [hfe, List.take_succ_eq_append_getElem]
      obtain ⟨c0, c1, c2, c3, c4, c5⟩ := hf
      clear hfe
      go_upto_region 5 with fail
      obtain ⟨X, hX⟩ : ∃ X, X = wr.heap.size := ⟨_, rfl⟩
      have hb1 : Below wr.heap.size wr (wr.alloc (.cells #[.string f.key, .int .u32 (f.valid : Int), .int .u64 (f.seq : Int), .int .u64 (f.line : Int), .int .u8 (f.kind : Int), .string f.val] 42)) := (Below.refl _ _).alloc (Nat.le_refl _) _
      have hx0 : (wr.alloc (.cells #[.string f.key, .int .u32 (f.valid : Int), .int .u64 (f.seq : Int), .int .u64 (f.line : Int), .int .u8 (f.kind : Int), .string f.val] 42)).heap[X]? = some (.cells #[.string f.key, .int .u32 (f.valid : Int), .int .u64 (f.seq : Int), .int .u64 (f.line : Int), .int .u8 (f.kind : Int), .string f.val] 42 (0, 0)) := by rw [hX]; exact World.alloc_heap_new _ _
      rw [← hX]
      generalize (wr.alloc (.cells #[.string f.key, .int .u32 (f.valid : Int), .int .u64 (f.seq : Int), .int .u64 (f.line : Int), .int .u8 (f.kind : Int), .string f.val] 42)) = W1 at hb1 hx0 ⊢
      have HA1 := hid (HA.out.below hb1)
      have HB1 := hid (HB.out.trans (hb1.mono HB.out.size))
      have hXl := lt_of_block hx0
      have e0 : W1.cell? ⟨X, 0, none⟩ = some (.string f.key) := by rw [cell_of_row _ _ _ _ _ _ hx0]; rfl
      have e1 : W1.cell? ⟨X, 1, none⟩ = some (.int .u32 (f.valid : Int)) := by rw [cell_of_row _ _ _ _ _ _ hx0]; rfl
      have e4 : W1.cell? ⟨X, 4, none⟩ = some (.int .u8 (f.kind : Int)) := by rw [cell_of_row _ _ _ _ _ _ hx0]; rfl
      have e5 : W1.cell? ⟨X, 5, none⟩ = some (.string f.val) := by rw [cell_of_row _ _ _ _ _ _ hx0]; rfl
      clear hX c0 c1 c2 c3 c4 c5 hb1 HA HB
      cases hlk : look1 (spTop t) f.key with
      | none =>
        have hl1 := HA1.out.lk f.key
        rw [hlk] at hl1
        simp only [Option.map_none, Option.getD_none] at hl1
        have hba : Below W1.heap.size W1 (W1.alloc (.map #[] 0)) := (Below.refl _ _).alloc (Nat.le_refl _) _
        have hu1 := run_update0 (ev := evM) (HA1.out.top.keep (hba.block _ HA1.out.top.lt)) keyS Try.underlying67 hlk W1.heap.size
        obtain ⟨W2, hW2⟩ : ∃ W2, putMap (W1.alloc (.map #[] 0)) w.heap.size ekS evM (spTop t ++ [(f.key, W1.heap.size)]) = W2 := ⟨_, rfl⟩
        rw [hW2] at hu1
        obtain ⟨t2, ht2⟩ : ∃ t2, t2 = t ++ [⟨f.key, W1.heap.size, []⟩] := ⟨_, rfl⟩
        have HA2 : Hid (SpAt w.heap.size W2 w.heap.size t2) := by rw [← hW2, ht2]; exact HA1.out.newKey HB1.out.size hlk
        have HI2 : Hid (SpInv (l.take i) t2) := by rw [ht2]; exact HI.out.newKey hlk _
        have HB2 : Hid (Below w.heap.size w W2) := by
          rw [← hW2]
          exact below_putObj (HB1.out.trans (hba.mono HB1.out.size)) (Nat.le_refl _) _ (HA1.out.top.keep (hba.block _ HA1.out.top.lt))
        obtain ⟨x, hxt, hkx⟩ : ∃ x ∈ t2, x.key = f.key := ⟨⟨f.key, W1.heap.size, []⟩, by rw [ht2]; simp, rfl⟩
        have ecell : ∀ j, W2.cell? ⟨X, j, none⟩ = W1.cell? ⟨X, j, none⟩ := fun j => by
          rw [← hW2, putMap_cell (HA1.out.top.keep (hba.block _ HA1.out.top.lt)) _ _]
          exact hba.cell hXl
        have hXl2 : X < W2.heap.size := by rw [← hW2, putMap_size]; simp; omega
        have g0 := (ecell 0).trans e0
        have g1 := (ecell 1).trans e1
        have g4 := (ecell 4).trans e4
        have g5 := (ecell 5).trans e5
        have HLK := hid hlk
        clear hlk hba hW2 ht2 ecell HI HA1 HB1 hx0
        go_upto_region 7 with fail
        clear e0 e1 e4 e5 hl1 hu1 hXl
        have e0 := g0
        have e1 := g1
        have e4 := g4
        have e5 := g5
        have hXl := hXl2
        clear g0 g1 g4 g5 hXl2
        have hl2 := (HA2.out.lk f.key)
        rw [← hkx, spTop_mem HI2.out.keys hxt] at hl2
        rw [hkx] at hl2
        obtain ⟨bx, hbx⟩ : ∃ bx, bx = x.blk := ⟨_, rfl⟩
        simp only [Option.map_some, Option.getD_some] at hl2
        rw [← hbx] at hl2

        cases hlv : look1 x.inn f.valid with
        | none =>
          have hl3 := HA2.out.lki hxt f.valid
          rw [hlv, ← hbx] at hl3
          simp only [Option.map_none, Option.getD_none, Option.isSome_none] at hl3
          have hb3 : Below W2.heap.size W2 (W2.alloc (.cells #[.int .u8 0, .string ⟨#[]⟩] 72)) := (Below.refl _ _).alloc (Nat.le_refl _) _
          have HA3 := hid (HA2.out.below hb3)
          have hl4 := HA3.out.lk f.key
          rw [← hkx, spTop_mem HI2.out.keys hxt] at hl4
          rw [hkx] at hl4
          simp only [Option.map_some, Option.getD_some] at hl4
          rw [← hbx] at hl4
          have hu := run_update0 (HA3.out.inn x hxt) keyU Try.underlying70 hlv (f.kind, f.val)
          obtain ⟨W4, hW4⟩ : ∃ W4, putMap (W2.alloc (.cells #[.int .u8 0, .string ⟨#[]⟩] 72)) x.blk ekU evS (x.inn ++ [(f.valid, (f.kind, f.val))]) = W4 := ⟨_, rfl⟩
          rw [hW4, ← hbx] at hu
          have HA4 : Hid (SpAt w.heap.size W4 w.heap.size (spPut t2 f.key f.valid (f.kind, f.val))) := by rw [← hW4, ← hkx]; exact HA3.out.newEnt HI2.out.keys hxt f.valid (f.kind, f.val)
          have HI4 : Hid (SpInv (l.take (i + 1)) (spPut t2 f.key f.valid (f.kind, f.val))) := by rw [HT.out]; exact HI2.out.newEnt hxt hkx hlv
          have HB4 : Hid (Below w.heap.size w W4) := by
            have h3 := HB2.out.trans (hb3.mono (by have := HB2.out.size; omega))
            have hx0 := HA3.out.low.2 x hxt
            rw [← hW4]
            exact below_putObj h3 hx0 _ (HA3.out.inn x hxt)
          have d0 := hb3.cell (p := ⟨X, 0, none⟩) (by show X < _; omega)
          have d1 := hb3.cell (p := ⟨X, 1, none⟩) (by show X < _; omega)
          have d4 := hb3.cell (p := ⟨X, 4, none⟩) (by show X < _; omega)
          have d5 := hb3.cell (p := ⟨X, 5, none⟩) (by show X < _; omega)
          rw [e0] at d0
          rw [e1] at d1
          rw [e4] at d4
          rw [e5] at d5
          have HL := hid hlv
          have HX := hid hxt
          have HK := hid hkx
          clear hW4 hlv hxt hkx hb3 hbx
          go_wp2
          go_roundw
          case rel => exact ⟨i + 1, _, by go_num, by omega, HA4, HI4, HB4⟩
          case measure => simp [intOf]; omega
        | some s =>
          have hl3 := HA2.out.lki hxt f.valid
          rw [hlv, ← hbx] at hl3
          simp only [Option.map_some, Option.getD_some, Option.isSome_some] at hl3
          obtain ⟨s0, s1⟩ := s
          have hb3 : Below W2.heap.size W2 (W2.alloc (.cells #[.int .u8 (s0 : Int), .string s1] 72)) := (Below.refl _ _).alloc (Nat.le_refl _) _
          have HA3 := hid (HA2.out.below hb3)
          have HI4 : Hid (SpInv (l.take (i + 1)) t2) := by rw [HT.out]; exact HI2.out.again hxt hkx hlv
          have HB4 := hid (HB2.out.trans (hb3.mono (by have := HB2.out.size; omega)))
          clear hlv hxt hkx hb3 hbx
          go_wp2
          go_roundw
          case rel => exact ⟨i + 1, _, by go_num, by omega, HA3, HI4, HB4⟩
          case measure => simp [intOf]; omega
      | some b0 =>
        have hl1 := HA1.out.lk f.key
        rw [hlk] at hl1
        simp only [Option.map_some, Option.getD_some] at hl1
        obtain ⟨x, hxt, hkx, _⟩ := spTop_some hlk
        clear hlk hx0
        go_upto_region 7 with fail
        clear hl1
        have hl2 := (HA1.out.lk f.key)
        rw [← hkx, spTop_mem HI.out.keys hxt] at hl2
        rw [hkx] at hl2
        obtain ⟨bx, hbx⟩ : ∃ bx, bx = x.blk := ⟨_, rfl⟩
        simp only [Option.map_some, Option.getD_some] at hl2
        rw [← hbx] at hl2

        cases hlv : look1 x.inn f.valid with
        | none =>
          have hl3 := HA1.out.lki hxt f.valid
          rw [hlv, ← hbx] at hl3
          simp only [Option.map_none, Option.getD_none, Option.isSome_none] at hl3
          have hb3 : Below W1.heap.size W1 (W1.alloc (.cells #[.int .u8 0, .string ⟨#[]⟩] 72)) := (Below.refl _ _).alloc (Nat.le_refl _) _
          have HA3 := hid (HA1.out.below hb3)
          have hl4 := HA3.out.lk f.key
          rw [← hkx, spTop_mem HI.out.keys hxt] at hl4
          rw [hkx] at hl4
          simp only [Option.map_some, Option.getD_some] at hl4
          rw [← hbx] at hl4
          have hu := run_update0 (HA3.out.inn x hxt) keyU Try.underlying70 hlv (f.kind, f.val)
          obtain ⟨W4, hW4⟩ : ∃ W4, putMap (W1.alloc (.cells #[.int .u8 0, .string ⟨#[]⟩] 72)) x.blk ekU evS (x.inn ++ [(f.valid, (f.kind, f.val))]) = W4 := ⟨_, rfl⟩
          rw [hW4, ← hbx] at hu
          have HA4 : Hid (SpAt w.heap.size W4 w.heap.size (spPut t f.key f.valid (f.kind, f.val))) := by rw [← hW4, ← hkx]; exact HA3.out.newEnt HI.out.keys hxt f.valid (f.kind, f.val)
          have HI4 : Hid (SpInv (l.take (i + 1)) (spPut t f.key f.valid (f.kind, f.val))) := by rw [HT.out]; exact HI.out.newEnt hxt hkx hlv
          have HB4 : Hid (Below w.heap.size w W4) := by
            have h3 := HB1.out.trans (hb3.mono (by have := HB1.out.size; omega))
            have hx0 := HA3.out.low.2 x hxt
            rw [← hW4]
            exact below_putObj h3 hx0 _ (HA3.out.inn x hxt)
          have d0 := hb3.cell (p := ⟨X, 0, none⟩) (by show X < _; omega)
          have d1 := hb3.cell (p := ⟨X, 1, none⟩) (by show X < _; omega)
          have d4 := hb3.cell (p := ⟨X, 4, none⟩) (by show X < _; omega)
          have d5 := hb3.cell (p := ⟨X, 5, none⟩) (by show X < _; omega)
          rw [e0] at d0
          rw [e1] at d1
          rw [e4] at d4
          rw [e5] at d5
          have HL := hid hlv
          have HX := hid hxt
          have HK := hid hkx
          clear hW4 hlv hxt hkx hb3 hbx
          go_wp2
          go_roundw
          case rel => exact ⟨i + 1, _, by go_num, by omega, HA4, HI4, HB4⟩
          case measure => simp [intOf]; omega
        | some s =>
          have hl3 := HA1.out.lki hxt f.valid
          rw [hlv, ← hbx] at hl3
          simp only [Option.map_some, Option.getD_some, Option.isSome_some] at hl3
          obtain ⟨s0, s1⟩ := s
          have hb3 : Below W1.heap.size W1 (W1.alloc (.cells #[.int .u8 (s0 : Int), .string s1] 72)) := (Below.refl _ _).alloc (Nat.le_refl _) _
          have HA3 := hid (HA1.out.below hb3)
          have HI4 : Hid (SpInv (l.take (i + 1)) t) := by rw [HT.out]; exact HI.out.again hxt hkx hlv
          have HB4 := hid (HB1.out.trans (hb3.mono (by have := HB1.out.size; omega)))
          clear hlv hxt hkx hb3 hbx
          go_wp2
          go_roundw
          case rel => exact ⟨i + 1, _, by go_num, by omega, HA3, HI4, HB4⟩
          case measure => simp [intOf]; omega
    · obtain rfl : i = n := by omega
      go_wp2
      go_ret
      refine ⟨w.heap.size, t, rfl, HA.out, ?_, HB.out⟩
      have := HI.out
      rwa [← HN.out, List.take_length] at this
end Go.Proofs.Herb
