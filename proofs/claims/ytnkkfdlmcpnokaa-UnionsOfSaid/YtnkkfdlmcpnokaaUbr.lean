
/- unions.key.brought: what one side's times of a key have that the other's have not or have otherwise, the latest ahead; and whether all times of the other are among them. -/
import Derived.Test.YtnkkfdlmcpnokaaUbk
import Derived.Test.YtnkkfdlmcpnokaaUbw
import Derived.Sort.CutIn
namespace Go.Proofs.Herb
open Go.RowKit
attribute [local go_sem] Oper.semAt_some
/-! plain -/
/-- one key's entries, as two lists' facts tell them -/
structure KeyF (l : List (Nat × Fact)) (A : List Fact) (k : ByteArray) : Prop where
  once : NodupK l
  look : ∀ v, look1 l v = findF A k v
theorem look1_mem {l : List (Nat × Fact)} {v : Nat} {f : Fact} (h : look1 l v = some f) : (v, f) ∈ l := by
  unfold look1 at h
  cases hf : l.find? fun x => decide (x.1 = v) with
  | none => rw [hf] at h; cases h
  | some y =>
    rw [hf] at h
    have h1 := List.find?_some hf
    have h2 := List.mem_of_find?_eq_some hf
    simp at h1 h
    rw [← h1, ← h]
    exact h2
theorem KeyF.time {l : List (Nat × Fact)} {A : List Fact} {k : ByteArray} (h : KeyF l A k) (v : Nat) : v ∈ l.map (·.1) ↔ v ∈ timesF A k := by
  rw [timesF_mem]
  unfold lookF
  rw [← h.look]
  constructor
  · intro hv
    obtain ⟨x, hx, rfl⟩ := List.mem_map.1 hv
    rw [h.once.look hx]
    exact ⟨_, rfl⟩
  · rintro ⟨s, hs⟩
    cases hl : look1 l v with
    | none => rw [hl] at hs; cases hs
    | some f => exact List.mem_map.2 ⟨_, look1_mem hl, rfl⟩
theorem KeyF.has {l m : List (Nat × Fact)} {A B : List Fact} {k : ByteArray} (h : KeyF l A k) (g : KeyF m B k) : (∀ i, ∀ hi : i < l.length, (look1 m l[i].1).isSome = true) ↔ hasT A B k = true := by
  unfold hasT
  rw [List.all_eq_true]
  constructor
  · intro hh v hv
    obtain ⟨x, hx, rfl⟩ := List.mem_map.1 ((h.time v).2 hv)
    obtain ⟨i, hi, rfl⟩ := List.mem_iff_getElem.1 hx
    have := hh i hi
    unfold lookF
    rw [Option.isSome_map, ← g.look]
    exact this
  · intro hh i hi
    have := hh _ ((h.time _).1 (List.mem_map.2 ⟨_, List.getElem_mem hi, rfl⟩))
    unfold lookF at this
    rw [Option.isSome_map, ← g.look] at this
    exact this
theorem KeyF.down {m : List (Nat × Fact)} {B : List Fact} {k : ByteArray} (g : KeyF m B k) {xs : List Nat} (hp : xs.Perm (m.map (·.1))) (hs : xs.Pairwise (· ≤ ·)) : xs.reverse = dnD (timesF B k) := by
  refine strictD_unique ?_ (dnD_strict _) fun y => ?_
  · unfold StrictD
    rw [List.pairwise_reverse]
    have hn : xs.Nodup := hp.nodup_iff.2 g.once
    exact (hs.and hn).imp fun ⟨a, b⟩ => by omega
  · rw [List.mem_reverse, hp.mem_iff, g.time, dnD_mem]
/-- a round's own changes -/
theorem chg1_len (A B : List Fact) (k : ByteArray) (v : Nat) : (chg1 A B k v).length ≤ 1 := by
  unfold chg1
  split
  · simp
  · split <;> simp
def chgAll (A B : List Fact) (k : ByteArray) (ps : List (Nat × Nat)) : List Chg := ps.flatMap fun x => chg1 A B k x.2
theorem chgAll_len (A B : List Fact) (k : ByteArray) : ∀ ps : List (Nat × Nat), (chgAll A B k ps).length ≤ ps.length
  | [] => Nat.le_refl _
  | x :: ps => by
    have h1 := chgAll_len A B k ps
    have h2 := chg1_len A B k x.2
    have h3 : chgAll A B k (x :: ps) = chg1 A B k x.2 ++ chgAll A B k ps := rfl
    rw [h3, List.length_append, List.length_cons]
    omega
theorem chgAll_snoc (A B : List Fact) (k : ByteArray) (ps : List (Nat × Nat)) (x : Nat × Nat) : chgAll A B k (ps ++ [x]) = chgAll A B k ps ++ chg1 A B k x.2 := by
  unfold chgAll
  rw [List.flatMap_append]
  simp
theorem chgAll_br (A B : List Fact) (k : ByteArray) (ps : List (Nat × Nat)) (h : ps.map (·.2) = dnD (timesF B k)) : chgAll A B k ps = brS A B k := by
  unfold chgAll brS
  rw [← h, List.flatMap_map]
theorem cgCells_append (a b : List Chg) : cgCells (a ++ b) = cgCells a ++ cgCells b := by simp [cgCells]
theorem cgCells_one (l : List Chg) : ∀ u ∈ cgCells l, u.oneCell' = true := by
  intro u hu
  unfold cgCells at hu
  rw [List.mem_flatMap] at hu
  obtain ⟨c, _, hu⟩ := hu
  simp only [Chg.cells, List.mem_cons, List.not_mem_nil, or_false] at hu
  rcases hu with rfl | rfl | rfl | rfl <;> rfl
/-- all that were seen are there too -/
def seenAll (l m : List (Nat × Fact)) (seen : Array Nat) : Bool := seen.toList.all fun i => match l[i]? with
  | some x => (look1 m x.1).isSome
  | none => true
theorem seenAll_push {l m : List (Nat × Fact)} {seen : Array Nat} {i : Nat} (hi : i < l.length) : seenAll l m (seen.push i) = (seenAll l m seen && (look1 m l[i].1).isSome) := by
  unfold seenAll
  rw [Array.toList_push, List.all_append]
  simp [hi]
theorem seenAll_all {l m : List (Nat × Fact)} {seen : Array Nat} {A B : List Fact} {k : ByteArray} (ha : ∀ i, i < l.length → i ∈ seen.toList) (h : KeyF l A k) (g : KeyF m B k) : seenAll l m seen = hasT A B k := by
  rw [Bool.eq_iff_iff, ← h.has g]
  unfold seenAll
  rw [List.all_eq_true]
  constructor
  · intro hh i hi
    have := hh i (ha i hi)
    simpa [hi] using this
  · intro hh i _
    by_cases hi : i < l.length
    · simpa [hi] using hh i hi
    · simp [hi]
/-! the call's own boxes -/
structure BrW (w : World) (B : Nat) (bx : Nat → Nat) (wr : World) : Prop where
  below : Below B w wr
  k : wr.heap[B]? = some (.cells #[.map (some (bx 0)), .map (some (bx 1)), .map (some (bx 2))] 58 (0, 0))
  f : wr.heap[B + 1]? = some (.cells #[.int .i64 1] 3 (0, 0))
  t : wr.heap[B + 2]? = some (.cells #[.int .i64 2] 3 (0, 0))
  o : Boxed wr (B + 3) 27 (.slice none 0 0)
theorem BrW.lt {w : World} {B : Nat} {bx : Nat → Nat} {wr : World} (h : BrW w B bx wr) : B + 3 < wr.heap.size := h.o.lt
theorem BrW.keep {w : World} {B : Nat} {bx : Nat → Nat} {wr W : World} (h : BrW w B bx wr) (hb : Below (B + 4) wr W) : BrW w B bx W :=
  ⟨h.below.trans (hb.mono (by omega)), (hb.block _ (by omega)).trans h.k, (hb.block _ (by omega)).trans h.f, (hb.block _ (by omega)).trans h.t, (hb.block _ (by omega)).trans h.o⟩
theorem BrW.cells {w : World} {B : Nat} {bx : Nat → Nat} {wr : World} (h : BrW w B bx wr) : wr.cell? ⟨B, 1, none⟩ = some (.map (some (bx 1))) ∧ wr.cell? ⟨B, 2, none⟩ = some (.map (some (bx 2))) ∧ wr.cell? ⟨B + 1, 0, none⟩ = some (.int .i64 1) ∧ wr.cell? ⟨B + 2, 0, none⟩ = some (.int .i64 2) := by
  refine ⟨?_, ?_, ?_, ?_⟩
  · rw [cell_of_row _ _ _ _ _ _ h.k]; rfl
  · rw [cell_of_row _ _ _ _ _ _ h.k]; rfl
  · rw [cell_of_row _ _ _ _ _ _ h.f]; rfl
  · rw [cell_of_row _ _ _ _ _ _ h.t]; rfl
theorem below_of_grown {b r : Nat} {A W : World} (h : A.grownBy W (some r)) (hb : b ≤ r) (hr : r < A.heap.size) : Below b A W :=
  ⟨h.os, h.tape, h.output, h.size, fun k hk => h.block k (by omega) (fun e => by cases e; omega)⟩
/-- the changes, in a row of the call's own, boxed; all else of the start is as it was -/
structure BrI (s : World) (b3 : Nat) (cs : List Chg) (W : World) : Prop where
  box : ∃ v, Boxed W b3 27 v ∧ W.ownsRow s.heap.size 44 4 v cs.length (cgCells cs)
  os : W.os = s.os
  tape : W.tape = s.tape
  output : W.output = s.output
  size : s.heap.size ≤ W.heap.size
  other : ∀ k, k < s.heap.size → k ≠ b3 → W.heap[k]? = s.heap[k]?
theorem BrI.below {s : World} {b3 : Nat} {cs : List Chg} {A W : World} (h : BrI s b3 cs A) (hb : Below A.heap.size A W) : BrI s b3 cs W := by
  obtain ⟨v, h1, h2⟩ := h.box
  exact ⟨⟨v, (hb.block _ h1.lt).trans h1, own_below h2 hb⟩, hb.os.trans h.os, hb.tape.trans h.tape, hb.output.trans h.output, Nat.le_trans h.size hb.size, fun k hk hne => (hb.block k (by have := h.size; omega)).trans (h.other k hk hne)⟩
theorem BrI.turns {s : World} {b3 : Nat} {cs : List Chg} : Turns s.heap.size (BrI s b3 cs) := fun W l o o' h hl ho hc => by
  obtain ⟨v, h1, h2⟩ := h.box
  exact ⟨⟨v, boxed_putObj h1 o' ho hc, own_putObj ho hc h2⟩, h.os, h.tape, h.output, by simp [World.putObj]; exact h.size, fun k hk hne => (World.putObj_heap_other (by omega)).trans (h.other k hk hne)⟩
theorem cells_new (w : World) (cs : List Value) (t : TypeId) : ∀ j u, cs[j]? = some u → (w.alloc (.cells cs.toArray t)).cell? ((⟨w.heap.size, 0, none⟩ : Addr).add j) = some u := (Rd.new w cs t).add
theorem BrI.app {s : World} {b3 : Nat} {cs : List Chg} {c : Chg} {W2 W3 : World} {arr : Array Value} {tc : TypeId} {v v' : Value} {N : Nat} (h : BrI s b3 cs W2) (hx : Boxed W2 b3 27 v) (ho : W2.ownsRow s.heap.size 44 4 v N (cgCells cs)) (hb : b3 < s.heap.size) (hN : cs.length = N)
    (hown : W3.ownsRow s.heap.size 44 4 v' (N + 1) (cgCells cs ++ c.cells)) (hg : (W2.alloc (.cells arr tc)).grownBy W3 v.ownBlock) :
    Boxed W3 b3 27 v ∧ BrI s b3 (cs ++ [c]) (W3.setCell ⟨b3, 0, none⟩ v') ∧ (∀ (j : Nat) (o : Obj), W2.heap[j]? = some o → o.isCells = false → (W3.setCell ⟨b3, 0, none⟩ v').heap[j]? = some o) ∧ W2.heap.size ≤ (W3.setCell ⟨b3, 0, none⟩ v').heap.size ∧ (∀ j, j < s.heap.size → j ≠ b3 → (W3.setCell ⟨b3, 0, none⟩ v').heap[j]? = W2.heap[j]?) := by
  have ho' := own_mono (base' := b3 + 1) ho (by omega)
  obtain ⟨p1, p2, p3, p4⟩ := box_append hx ho' (own_mono (base' := b3 + 1) hown (by omega)) hg
  have hsz := h.size
  have p5 : ∀ j, j < s.heap.size → j ≠ b3 → (W3.setCell ⟨b3, 0, none⟩ v').heap[j]? = W2.heap[j]? := fun j hj hne => by
    rw [heap_setCell_other _ _ _ _ (by simpa using hne), hg.block j (by simp; omega) (fun e => by have := ho.lt j e.symm; omega)]
    exact RowKit.Below.heap_alloc _ _ _ (by omega)
  refine ⟨p1, ⟨⟨v', p1.set _, ?_⟩, p2.os.trans h.os, p2.tape.trans h.tape, p2.output.trans h.output, Nat.le_trans hsz p4, fun j hj hne => (p5 j hj hne).trans (h.other j hj hne)⟩, p3, p4, p5⟩
  have h3 := ownsRow_setCell_below hown (a := ⟨b3, 0, none⟩) (by show b3 < _; omega) v'
  have e1 : cgCells (cs ++ [c]) = cgCells cs ++ c.cells := by rw [cgCells_append]; simp [cgCells]
  have e2 : (cs ++ [c]).length = N + 1 := by simp [hN]
  rw [e1, e2]
  exact h3
theorem infoCg : (Try.prog.info? 44).map (fun i => (i.zero, i.size, i.bytes)) = some (some (.agg #[.string ⟨#[]⟩, .int .u32 0, .int .u8 0, .string ⟨#[]⟩]), 4, 40) := by kernel_rfl
theorem keys_u (mb : Option Nat) (w : World) : Calls Try.prog 40 #[.map mb] w fun e w' => e = .returned (.func (.func 51) #[] #[.pointer (some ⟨w.heap.size, 0, none⟩)]) ∧ w' = w.alloc (.cells #[.map mb] 56) := by
  go_enter Try.func40, Try.ntmps40
  go_wp2
  go_ret
  exact ⟨rfl, rfl⟩
theorem backw (q : Option Addr) (n c : Nat) (w : World) : Calls Try.prog 38 #[.slice q n c] w fun e w' => e = .returned (.func (.func 48) #[] #[.pointer (some ⟨w.heap.size, 0, none⟩)]) ∧ w' = w.alloc (.cells #[.slice q n c] 83) := by
  go_enter Try.func38, Try.ntmps38
  go_wp2
  go_ret
  exact ⟨rfl, rfl⟩
set_option maxRecDepth 100000 in
set_option maxHeartbeats 8000000 in
theorem brought_any (bx : Nat → Nat) (l m : List (Nat × Fact)) (A Bl : List Fact) (k : ByteArray) (w : World) (h1 : MapAt w (bx 1) ekU evF l) (h2 : MapAt w (bx 2) ekU evF m) (g1 : KeyF l A k) (g2 : KeyF m Bl k) (hl : l.length ≤ 1000000) (hm : m.length ≤ 1000000) :
    Calls Try.prog 24 #[.agg #[.map (some (bx 0)), .map (some (bx 1)), .map (some (bx 2))], .int .i64 1, .int .i64 2] w fun e w' =>
      ∃ v, e = .returned (.tuple #[v, .bool (hasT A Bl k)]) ∧ w'.ownsRow w.heap.size 44 4 v (brS A Bl k).length (cgCells (brS A Bl k)) ∧ Below w.heap.size w w' := by
  obtain ⟨B, hB⟩ : ∃ B, w.heap.size = B := ⟨_, rfl⟩
  have HB := hid hB
  have HM1 := hid h1
  have HM2 := hid h2
  have hb1 := h1.lt
  have hb2 := h2.lt
  have HL := hid hl
  clear hl
  obtain ⟨w4, hw4⟩ : ∃ w4, (((w.alloc (.cells #[.map (some (bx 0)), .map (some (bx 1)), .map (some (bx 2))] 58)).alloc (.cells #[.int .i64 1] 3)).alloc (.cells #[.int .i64 2] 3)).alloc (.cells #[.slice none 0 0] 27) = w4 := ⟨_, rfl⟩
  have HW4 : Hid (BrW w B bx w4 ∧ w4.heap.size = B + 4) := by
    have a1 := World.alloc_heap_new w (.cells #[.map (some (bx 0)), .map (some (bx 1)), .map (some (bx 2))] 58)
    have a2 := World.alloc_heap_new (w.alloc (.cells #[.map (some (bx 0)), .map (some (bx 1)), .map (some (bx 2))] 58)) (.cells #[.int .i64 1] 3)
    have a3 := World.alloc_heap_new ((w.alloc (.cells #[.map (some (bx 0)), .map (some (bx 1)), .map (some (bx 2))] 58)).alloc (.cells #[.int .i64 1] 3)) (.cells #[.int .i64 2] 3)
    have a4 := World.alloc_heap_new (((w.alloc (.cells #[.map (some (bx 0)), .map (some (bx 1)), .map (some (bx 2))] 58)).alloc (.cells #[.int .i64 1] 3)).alloc (.cells #[.int .i64 2] 3)) (.cells #[.slice none 0 0] 27)
    simp only [World.size_alloc, hB] at a1 a2 a3 a4
    refine ⟨⟨?_, ?_, ?_, ?_, ?_⟩, ?_⟩
    · rw [← hw4]; exact ((((Below.refl _ _).alloc (by omega) _).alloc (by simp; omega) _).alloc (by simp; omega) _).alloc (by simp; omega) _
    · rw [← hw4, Below.heap_alloc _ _ _ (by simp; omega), Below.heap_alloc _ _ _ (by simp; omega), Below.heap_alloc _ _ _ (by simp; omega)]; exact a1
    · rw [← hw4, Below.heap_alloc _ _ _ (by simp; omega), Below.heap_alloc _ _ _ (by simp; omega)]; exact a2
    · rw [← hw4, Below.heap_alloc _ _ _ (by simp; omega)]; exact a3
    · rw [← hw4]; exact a4
    · rw [← hw4]; simp [hB]
  have HS4 := HW4.out.2
  have HS4' : Hid (w4.heap.size = B + 4) := HW4.out.2
  have hlt1 : bx 1 < B := by omega
  have hlt2 : bx 2 < B := by omega
  have m1 : MapAt w4 (bx 1) ekU evF l := h1.keep (HW4.out.1.below.block _ (by omega))
  have hrg := run_range_map (P := Try.prog) w4 56 38 42 (bx 1) _ _ Try.underlying56 m1
  clear h1 h2 m1 hb1 hb2
  refine (callsIn_wide (n := 3)).1 (callsIn_of_wp_marks Try.func24 rfl trivial ?_ rfl)
  refine wpIn_wide.2 ?_
  simp only [Try.ntmps24, List.size_toArray, List.length_cons, List.length_nil, Nat.reduceAdd, Nat.reduceSub, Array.replicate_succ, Array.replicate_zero, List.push_toArray, List.append_toArray, List.nil_append, List.cons_append]
  have c1 := HW4.out.1.cells
  obtain ⟨c1, c2, c3, c4⟩ := c1
  go_upto_region 3 with fail
  clear hw4 hrg c1 c2 c3 c4
  have HI0 : Hid (BrW w B bx (w4.alloc (.mapIter (some (bx 1)) l.length #[] l.length))) := HW4.out.1.keep ((Below.refl _ _).alloc (by omega) _)
  have HR0 : Hid ((w4.alloc (.mapIter (some (bx 1)) l.length #[] l.length)).heap[B + 4]? = some (.mapIter (some (bx 1)) l.length #[] l.length)) := by
    show _ = _
    rw [← HS4'.out]; exact World.alloc_heap_new _ _
  clear HW4 HS4
  go_loopw [7] (fun v7 wr => ∃ (seen : Array Nat), v7 = .bool (seenAll l m seen) ∧ Hid (Seen l.length seen) ∧ Hid (wr.heap[B + 4]? = some (.mapIter (some (bx 1)) l.length seen l.length)) ∧ Hid (BrW w B bx wr))
    (fun _ wr => l.length - (wr.iterSeen (B + 4)).size)
  case atStart => exact ⟨#[], rfl, Seen.nil _, HR0, HI0⟩
  case round =>
    clear HR0 HI0
    obtain ⟨seen, rfl, HS, HR, HW⟩ := hrel
    have hrl := lt_of_block HR.out
    have HMa := hid (HM1.out.keep (HW.out.below.block _ hlt1))
    have HMb := hid (HM2.out.keep (HW.out.below.block _ hlt2))
    rcases next0 (P := Try.prog) HR.out HMa.out with ⟨hall, hnx⟩ | ⟨i, hi, hni, W2, hg2, hs2, hr2, hnx, hen⟩
    · have hsn : seenAll l m seen = hasT A Bl k := seenAll_all hall g1 g2
      rw [hsn]
      clear hsn hall hrl
      go_upto_region 7 with fail
      clear hnx
      obtain ⟨c1, c2, c3, c4⟩ := HW.out.cells
      have hlt := HW.out.lt
      obtain ⟨w5, hw5⟩ : ∃ w5, wr.alloc (.cells #[.map (some (bx 2))] 56) = w5 := ⟨_, rfl⟩
      have k1 := keys_u (some (bx 2)) wr
      rw [hw5] at k1
      have hx5 : Boxed w5 wr.heap.size 56 (.map (some (bx 2))) := by rw [← hw5]; exact Boxed.new _ _ _
      have hb5 : Below wr.heap.size wr w5 := by rw [← hw5]; exact (Below.refl _ _).alloc (Nat.le_refl _) _
      have k2 := sorted_u wr.heap.size (bx 2) m w5 hx5 (HMb.out.keep (hb5.block _ HMb.out.lt)) hm
      have HB5 := hid hb5
      have hs5 : w5.heap.size = wr.heap.size + 1 := by rw [← hw5]; simp
      have HS5 := hid hs5
      clear hw5 hx5 hb5 hs5
      go_wp2_with (first | (go_at_call 40; with_reducible refine k1.mono ?_; rintro e w1 ⟨rfl, rfl⟩) | (go_at_call 39; with_reducible refine k2.mono ?_; rintro e w6 ⟨v, xs, rfl, hp, hso, hown, hb6⟩; obtain ⟨q, c, rfl, hc1, hc2, _⟩ := own_shape hown; have HP := hid hp; have HSO := hid hso; have HOW := hid hown; have HB6 := hid hb6; clear hp hso hown hb6; have k3 := backw q xs.length c w6) | (go_at_call 38; with_reducible refine k3.mono ?_; rintro e w1 ⟨rfl, rfl⟩))
      clear k1 k2 k3 c1 c2 c3 c4
      obtain ⟨Bn, hBn⟩ : ∃ Bn, w6.heap.size = Bn := ⟨_, rfl⟩
      rw [hBn]
      obtain ⟨w7, hw7⟩ : ∃ w7, w6.alloc (.cells #[.slice q xs.length c] 83) = w7 := ⟨_, rfl⟩
      rw [hw7]
      have hs7 : w7.heap.size = Bn + 1 := by rw [← hw7]; simp; exact hBn
      have hb7 : Below w6.heap.size w6 w7 := by rw [← hw7]; exact (Below.refl _ _).alloc (Nat.le_refl _) _
      have hx7 : Boxed w7 Bn 83 (.slice q xs.length c) := by rw [← hw7, ← hBn]; exact Boxed.new _ _ _
      have h56 := HB6.out.size
      have h45 := HS5.out
      have HW7 : Hid (BrW w B bx w7) := ((HW.out.keep (HB5.out.mono (by omega))).keep (HB6.out.mono (by omega))).keep (hb7.mono (by omega))
      have hrd : Rd w7 q (xs.map ekU) := ((Fr.of_own HOW.out).rd).below hb7
      have hq : ∀ b off, q = some ⟨b, off, none⟩ → B + 4 ≤ b ∧ b < w7.heap.size := fun b off e => by
        subst e
        have h1 := HOW.out.lt b rfl
        omega
      have hlen : xs.length = m.length := by have := HP.out.length_eq; simpa using this
      obtain ⟨S, hS⟩ : ∃ S, w7.heap.size = S := ⟨_, rfl⟩
      have HI0 : Hid (BrI w7 (B + 3) (chgAll A Bl k []) w7) := ⟨⟨_, HW7.out.o, World.ownsRow_nil _ _ _ _⟩, rfl, rfl, rfl, Nat.le_refl _, fun _ _ _ => rfl⟩
      have HD := hid (g2.down HP.out HSO.out)
      have HMa7 := hid (HM1.out.keep (HW7.out.below.block _ hlt1))
      have HMb7 := hid (HM2.out.keep (HW7.out.below.block _ hlt2))
      have HX7 := hid hx7
      have HRD := hid hrd
      have HS7 := hid hs7
      have HSS := hid hS
      have HQ := hid hq
      have hBS : B + 4 < S := by have := HW.out.lt; omega
      clear hw7 hb7 hx7 hrd hs7 hq h56 h45 hBn hS HW HOW HB5 HB6 HS5 hc1 hc2 hlt HR HS HMa HMb
      refine wpIn_wide.1 (wpIn_range_walk (n := 3) rfl (by omega) (gf := 48) (lb := #[.pointer (some ⟨Bn, 0, none⟩)]) rfl trivial (enters_of Try.func48 (by kernel_rfl) rfl)
        (fun _ => rfl) (back_in 2 Bn c xs.length S q (by omega) xs rfl (by omega) (fun X Y => ∀ j, j < S → j ≠ B + 3 → Y.heap[j]? = X.heap[j]?) (fun X Y hK => ⟨fun v hv => (hK Bn (by have := HS7.out; have := HSS.out; omega) (by have := HS7.out; have := HSS.out; omega)).trans hv, fun hr => by
          rcases hr with hz | ⟨b, off, hq, hr⟩
          · exact .inl hz
          · have h3 := HQ.out b off hq
            have := HSS.out
            exact .inr ⟨b, off, hq, fun j u hu => (World.cell?_of_block (hK b (by omega) (by omega))).trans (hr j u hu)⟩⟩)) (Nat.le_of_eq HSS.out.symm) (fun W hb => ⟨(hb.block _ HX7.out.lt).trans HX7.out, HRD.out.below hb⟩)
        (fun _ _ _ h k j h1 h2 => (k j h1 h2).trans (h j h1 h2)) (fun W g o o' hg ho hw j h1 h2 => World.putObj_heap_other (by have := HSS.out; omega)) (fun X Y e j o ho _ => by subst e; exact ho) (fun pre => BrI w7 (B + 3) (chgAll A Bl k pre)) (fun _ _ _ => False) (fun pre X Y h hb => h.below hb) (fun pre X Y h e => by subst e; exact h) (fun _ _ _ _ h _ => h) (fun pre => BrI.turns) (fun _ _ _ _ _ _ h _ _ _ => h) (fun _ _ _ _ _ _ h _ _ _ => h)
        HI0.out ?a1 ?assign ?body ?done ?stop)
      case assign =>
        intro g x W K hK
        gi_wp2
        exact hK
      case stop =>
        rintro D c pre W hD h hD0
        exact h.elim
      case done =>
        rintro D ps W hD hps hI hD0
        have hps2 := chgAll_br A Bl k ps (hps.trans HD.out)
        rw [hps2] at hI
        obtain ⟨v, h1, h2⟩ := hI.box
        obtain ⟨qv, cv, rfl, hv1, hv2, _⟩ := own_shape h2
        have c1 := h1.cell
        have f1 := h1.frozen
        have HH := hid h2
        have HX := hid h1
        have HBl : Hid (Below B w W) := hid (HW7.out.below.trans ⟨hI.os, hI.tape, hI.output, hI.size, fun j hj => hI.other j (by have := HSS.out; omega) (by omega)⟩)
        have HD0 := hid hD0
        have HDD := hid hD
        clear h1 h2 hI hD0 hps hps2 hD
        go_wp2
        refine leaves_marks (base := B) _ _ ⟨⟨D, rfl, by have := HDD.out; have := HSS.out; omega, ?_, fun d hd => by cases hd⟩, trivial⟩ (fun w' hs => ?_)
        · have := HDD.out
          have := HSS.out
          first
            | exact HD0.out
            | (rw [heap_setCell_other _ _ _ _ (by show D ≠ B + 3; omega)]; exact HD0.out)
        · have hxw : Boxed w' (B + 3) 27 (.slice qv (brS A Bl k).length cv) := hs.cells _ _ _ _ (HX.out.set _)
          have hcw := hxw.cell
          refine ⟨.tuple #[.slice qv (brS A Bl k).length cv, .bool (hasT A Bl k)], ?_, .slice qv (brS A Bl k).length cv, rfl, ?_, ?_⟩
          · rw [results_cell_tmp rfl]
            go_simp
          · rw [HB.out]
            have h3 := own_mono (base' := B + 4) HH.out (by have := HSS.out; omega)
            have h4 := ownsRow_setCell_below h3 (a := ⟨B + 3, 0, none⟩) (by show B + 3 < B + 4; omega) (.slice qv (brS A Bl k).length cv)
            exact own_mono (own_shut h4 hs) (by omega)
          · rw [HB.out]; exact (HBl.out.setCell (p := ⟨B + 3, 0, none⟩) (by show B ≤ B + 3; omega) _).trans (hs.below _ (Nat.le_refl _))
      case body =>
        rintro g pre x W hg hI hgd
        obtain ⟨v, hv⟩ : ∃ v, x.2 = v := ⟨_, rfl⟩
        obtain ⟨rest, hrest⟩ := hgd
        have hvm : v ∈ m.map (·.1) := by
          rw [← HP.out.mem_iff, ← List.mem_reverse, hrest, hv]
          simp
        have hpl : pre.length < m.length := by
          have := congrArg List.length hrest
          simp at this
          omega
        obtain ⟨f, hf⟩ : ∃ f, look1 m v = some f := by
          obtain ⟨y, hy, rfl⟩ := List.mem_map.1 hvm
          exact ⟨_, g2.once.look hy⟩
        obtain ⟨hfm, hfk, hfv⟩ := findF_some ((g2.look v).symm.trans hf)
        have hlB : lookF Bl k v = some (f.kind, f.val) := by unfold lookF; rw [← g2.look, hf]; rfl
        have hother : ∀ j, j < S → j ≠ B + 3 → W.heap[j]? = w7.heap[j]? := fun j h1 h2 => hI.other j (by rw [HSS.out]; exact h1) h2
        have ma := HMa7.out.keep (hother _ (by omega) (by omega))
        have mb := HMb7.out.keep (hother _ (by omega) (by omega))
        obtain ⟨e1, e2, e3, e4⟩ := HW7.out.cells
        have c1 : W.cell? ⟨B, 1, none⟩ = some (.map (some (bx 1))) := (World.cell?_of_block (hother _ (by show B < S; omega) (by show B ≠ _; omega))).trans e1
        have c2 : W.cell? ⟨B, 2, none⟩ = some (.map (some (bx 2))) := (World.cell?_of_block (hother _ (by show B < S; omega) (by show B ≠ _; omega))).trans e2
        have c3 : W.cell? ⟨B + 1, 0, none⟩ = some (.int .i64 1) := (World.cell?_of_block (hother _ (by show B + 1 < S; omega) (by show B + 1 ≠ _; omega))).trans e3
        have c4 : W.cell? ⟨B + 2, 0, none⟩ = some (.int .i64 2) := (World.cell?_of_block (hother _ (by show B + 2 < S; omega) (by show B + 2 ≠ _; omega))).trans e4
        have hlk1 := run_lookup0 (P := Try.prog) mb keyU Try.underlying56 (zeroFactV W) v false
        rw [hf] at hlk1
        simp only [Option.map_some, Option.getD_some, Option.isSome_some, Bool.false_eq_true, if_false] at hlk1
        change _ = Result.ok (Value.agg #[.string f.key, .int .u32 (f.valid : Int), .int .u64 (f.seq : Int), .int .u64 (f.line : Int), .int .u8 (f.kind : Int), .string f.val]) _ at hlk1
        have ha : Below W.heap.size W (W.alloc (.cells #[.string f.key, .int .u32 (f.valid : Int), .int .u64 (f.seq : Int), .int .u64 (f.line : Int), .int .u8 (f.kind : Int), .string f.val] 42)) := (Below.refl _ _).alloc (Nat.le_refl _) _
        have HLa := hid (run_lookup0 (P := Try.prog) (ma.keep (ha.block _ ma.lt)) keyU Try.underlying56 (zeroFactV _) v true)
        have hSW : S ≤ W.heap.size := by have := hI.size; have := HSS.out; omega
        have HCH := hid (chgAll_snoc A Bl k pre x)
        have HV := hid hv
        have HIi := hid hI
        have HF := hid (⟨hf, hlB, hfk, hfv⟩ : _ ∧ _ ∧ _ ∧ _)
        have hle := chgAll_len A Bl k pre
        obtain ⟨N, hN⟩ : ∃ N, (chgAll A Bl k pre).length = N := ⟨_, rfl⟩
        have hN1 : N ≤ 1000000 := by omega
        have HN := hid hN
        obtain ⟨x1, x2⟩ := x
        have hv' : x2 = v := hv
        subst hv'
        clear hv hrest hvm hfm hfk hfv hf hlB e1 e2 e3 e4 ma mb ha hI hother hle hN hpl
        gi_upto_region 10 with fail
        obtain ⟨X, hX⟩ : ∃ X, X = W.heap.size := ⟨_, rfl⟩
        have hb1 : Below W.heap.size W (W.alloc (.cells #[.string f.key, .int .u32 (f.valid : Int), .int .u64 (f.seq : Int), .int .u64 (f.line : Int), .int .u8 (f.kind : Int), .string f.val] 42)) := (Below.refl _ _).alloc (Nat.le_refl _) _
        have hx0 : (W.alloc (.cells #[.string f.key, .int .u32 (f.valid : Int), .int .u64 (f.seq : Int), .int .u64 (f.line : Int), .int .u8 (f.kind : Int), .string f.val] 42)).heap[X]? = some (.cells #[.string f.key, .int .u32 (f.valid : Int), .int .u64 (f.seq : Int), .int .u64 (f.line : Int), .int .u8 (f.kind : Int), .string f.val] 42 (0, 0)) := by rw [hX]; exact World.alloc_heap_new _ _
        rw [← hX]
        have hlk2 := HLa.out
        generalize (W.alloc (.cells #[.string f.key, .int .u32 (f.valid : Int), .int .u64 (f.seq : Int), .int .u64 (f.line : Int), .int .u8 (f.kind : Int), .string f.val] 42)) = W1 at hb1 hx0 hlk2 ⊢
        have e0 : W1.cell? ⟨X, 0, none⟩ = some (.string f.key) := by rw [cell_of_row _ _ _ _ _ _ hx0]; rfl
        have e4 : W1.cell? ⟨X, 4, none⟩ = some (.int .u8 (f.kind : Int)) := by rw [cell_of_row _ _ _ _ _ _ hx0]; rfl
        have e5 : W1.cell? ⟨X, 5, none⟩ = some (.string f.val) := by rw [cell_of_row _ _ _ _ _ _ hx0]; rfl
        have d1 := (hb1.cell (p := ⟨B, 1, none⟩) (by show B < _; omega)).trans c1
        have d3 := (hb1.cell (p := ⟨B + 1, 0, none⟩) (by show B + 1 < _; omega)).trans c3
        have HI1 := hid (HIi.out.below hb1)
        have HB1 := hid hb1
        have hXl := lt_of_block hx0
        clear hlk1 hX hx0 hb1 c1 c2 c3 c4
        cases hla : look1 l x2 with
        | none =>
          rw [hla] at hlk2
          simp only [Option.map_none, Option.getD_none, Option.isSome_none, if_true] at hlk2
          have HC : Hid (chg1 A Bl k x2 = [⟨f.key, x2, f.kind, f.val⟩]) := by
            have hA : lookF A k x2 = none := by unfold lookF; rw [← g1.look, hla]; rfl
            show _ = _
            unfold chg1
            rw [hA, HF.out.2.1, HF.out.2.2.1]
            rfl
          clear hla
          gi_upto_region 11 with fail
          obtain ⟨X2, hX2⟩ : ∃ X2, X2 = W1.heap.size := ⟨_, rfl⟩
          have hb2 : Below W1.heap.size W1 (W1.alloc (.cells #[.string ⟨#[]⟩, .int .u32 0, .int .u64 0, .int .u64 0, .int .u8 0, .string ⟨#[]⟩] 42)) := (Below.refl _ _).alloc (Nat.le_refl _) _
          have hx2 : (W1.alloc (.cells #[.string ⟨#[]⟩, .int .u32 0, .int .u64 0, .int .u64 0, .int .u8 0, .string ⟨#[]⟩] 42)).heap[X2]? = some (.cells #[.string ⟨#[]⟩, .int .u32 0, .int .u64 0, .int .u64 0, .int .u8 0, .string ⟨#[]⟩] 42 (0, 0)) := by rw [hX2]; exact World.alloc_heap_new _ _
          rw [← hX2]
          generalize (W1.alloc (.cells #[.string ⟨#[]⟩, .int .u32 0, .int .u64 0, .int .u64 0, .int .u8 0, .string ⟨#[]⟩] 42)) = W2 at hb2 hx2 ⊢
          have HI2 := hid (HI1.out.below hb2)
          have HB2 : Hid (Below W.heap.size W W2) := HB1.out.trans (hb2.mono HB1.out.size)
          have g0 := (hb2.cell (p := ⟨X, 0, none⟩) (by show X < _; omega)).trans e0
          have g4 := (hb2.cell (p := ⟨X, 4, none⟩) (by show X < _; omega)).trans e4
          have g5 := (hb2.cell (p := ⟨X, 5, none⟩) (by show X < _; omega)).trans e5
          clear hX2 hb2 hx2 hXl e0 e4 e5 hlk2
          obtain ⟨va, h1, h2⟩ := HI2.out.box
          rw [HSS.out, HN.out] at h2
          obtain ⟨qa, ca, rfl, hv1, hv2, _⟩ := own_shape h2
          have c6 := h1.cell
          have f6 := h1.frozen
          have HX := hid h1
          have HO := hid h2
          obtain ⟨i0, hi, hz0, hz1, hz2⟩ := info_parts infoCg
          have hsw2 : S ≤ W2.heap.size := by have := HI2.out.size; have := HSS.out; omega
          clear h1 h2
          gi_wp2_with (gi_at_builtin; refine wpListIn_append_own _ rfl _ _ 27 rfl S 44 i0 _ 4 40 Try.underlying27 hi hz0 hz1 hz2 rfl (by decide) _ _ _ rfl (HO.out.alloc _) ⟨W2.heap.size, 0, none⟩ 1 1 [.string f.key, ekU x2, .int .u8 (f.kind : Int), .string f.val] rfl rfl (cells_new _ _ _) (by simp [Value.oneCell']) (by unfold maxLen; omega) (by omega) (by simp; omega) ?_; intro v' W3 hown' hgrow _; have HAP := hid (HI2.out.app (c := ⟨f.key, x2, f.kind, f.val⟩) HX.out (by rw [HSS.out]; exact HO.out) (by rw [HSS.out]; omega) HN.out (by rw [HSS.out]; exact hown') hgrow); obtain ⟨g', cap', rfl⟩ := ownsRow_succ hown'; have hk1 := HAP.out.1.cell; have hk2 := HAP.out.1.frozen; clear hown' hgrow)
          obtain ⟨p1, p2, p3, p4, p5⟩ := HAP.out
          have hbs := HB2.out.size
          refine ⟨⟨Nat.le_trans hbs p4, fun j o _ ho hc => p3 j o ((HB2.out.block j (lt_of_block ho)).trans ho) hc⟩, fun j h1 h2 => ?_, ?_⟩
          · exact (p5 j (by rw [HSS.out]; exact h1) h2).trans (HB2.out.block j (by omega))
          · show BrI w7 (B + 3) (chgAll A Bl k (pre ++ [(x1, x2)])) _
            rw [HCH.out, show chg1 A Bl k (x1, x2).2 = _ from HC.out]
            exact p2
        | some o =>
          rw [hla] at hlk2
          simp only [Option.map_some, Option.getD_some, Option.isSome_some, if_true] at hlk2
          change _ = Result.ok (Value.tuple #[.agg #[.string o.key, .int .u32 (o.valid : Int), .int .u64 (o.seq : Int), .int .u64 (o.line : Int), .int .u8 (o.kind : Int), .string o.val], .bool true]) _ at hlk2
          have HA : Hid (lookF A k x2 = some (o.kind, o.val)) := by show _ = _; unfold lookF; rw [← g1.look, hla]; rfl
          clear hla
          gi_upto_region 11 with fail
          obtain ⟨X2, hX2⟩ : ∃ X2, X2 = W1.heap.size := ⟨_, rfl⟩
          have hb2 : Below W1.heap.size W1 (W1.alloc (.cells #[.string o.key, .int .u32 (o.valid : Int), .int .u64 (o.seq : Int), .int .u64 (o.line : Int), .int .u8 (o.kind : Int), .string o.val] 42)) := (Below.refl _ _).alloc (Nat.le_refl _) _
          have hx2 : (W1.alloc (.cells #[.string o.key, .int .u32 (o.valid : Int), .int .u64 (o.seq : Int), .int .u64 (o.line : Int), .int .u8 (o.kind : Int), .string o.val] 42)).heap[X2]? = some (.cells #[.string o.key, .int .u32 (o.valid : Int), .int .u64 (o.seq : Int), .int .u64 (o.line : Int), .int .u8 (o.kind : Int), .string o.val] 42 (0, 0)) := by rw [hX2]; exact World.alloc_heap_new _ _
          rw [← hX2]
          generalize (W1.alloc (.cells #[.string o.key, .int .u32 (o.valid : Int), .int .u64 (o.seq : Int), .int .u64 (o.line : Int), .int .u8 (o.kind : Int), .string o.val] 42)) = W2 at hb2 hx2 ⊢
          have HI2 := hid (HI1.out.below hb2)
          have HB2 : Hid (Below W.heap.size W W2) := HB1.out.trans (hb2.mono HB1.out.size)
          have g0 := (hb2.cell (p := ⟨X, 0, none⟩) (by show X < _; omega)).trans e0
          have g4 := (hb2.cell (p := ⟨X, 4, none⟩) (by show X < _; omega)).trans e4
          have g5 := (hb2.cell (p := ⟨X, 5, none⟩) (by show X < _; omega)).trans e5
          have k4 : W2.cell? ⟨X2, 4, none⟩ = some (.int .u8 (o.kind : Int)) := by rw [cell_of_row _ _ _ _ _ _ hx2]; rfl
          have k5 : W2.cell? ⟨X2, 5, none⟩ = some (.string o.val) := by rw [cell_of_row _ _ _ _ _ _ hx2]; rfl
          clear hX2 hb2 hx2 hXl e0 e4 e5 hlk2
          by_cases hk : o.kind = f.kind
          · rw [hk] at k4
            by_cases hvv : o.val = f.val
            · have HC : Hid (chg1 A Bl k x2 = []) := by
                show _ = _
                unfold chg1
                rw [HA.out, HF.out.2.1, hk, hvv, if_pos rfl]
              rw [hvv] at k5
              clear hk hvv
              gi_wp2
              have hbs := HB2.out.size
              refine ⟨⟨hbs, fun j o' _ ho hc => (HB2.out.block j (lt_of_block ho)).trans ho⟩, fun j h1 h2 => HB2.out.block j (by omega), ?_⟩
              show BrI w7 (B + 3) (chgAll A Bl k (pre ++ [(x1, x2)])) _
              rw [HCH.out, show chg1 A Bl k (x1, x2).2 = _ from HC.out, List.append_nil]
              exact HI2.out
            · have HC : Hid (chg1 A Bl k x2 = [⟨f.key, x2, f.kind, f.val⟩]) := by
                show _ = _
                unfold chg1
                rw [HA.out, HF.out.2.1, if_neg (fun e => hvv (by have := Option.some.inj e; exact congrArg (·.2) this)), HF.out.2.2.1]
              have hne : (o.val.toList == f.val.toList) = false := by
                exact beq_eq_false_iff_ne.2 fun e => hvv (ba_eq (by rw [← ByteArray.toList_eq, ← ByteArray.toList_eq]; exact e))
              clear hk hvv
              obtain ⟨va, h1, h2⟩ := HI2.out.box
              rw [HSS.out, HN.out] at h2
              obtain ⟨qa, ca, rfl, hv1, hv2, _⟩ := own_shape h2
              have c6 := h1.cell
              have f6 := h1.frozen
              have HX := hid h1
              have HO := hid h2
              obtain ⟨i0, hi, hz0, hz1, hz2⟩ := info_parts infoCg
              have hsw2 : S ≤ W2.heap.size := by have := HI2.out.size; have := HSS.out; omega
              clear h1 h2
              gi_wp2_with (gi_at_builtin; refine wpListIn_append_own _ rfl _ _ 27 rfl S 44 i0 _ 4 40 Try.underlying27 hi hz0 hz1 hz2 rfl (by decide) _ _ _ rfl (HO.out.alloc _) ⟨W2.heap.size, 0, none⟩ 1 1 [.string f.key, ekU x2, .int .u8 (f.kind : Int), .string f.val] rfl rfl (cells_new _ _ _) (by simp [Value.oneCell']) (by unfold maxLen; omega) (by omega) (by simp; omega) ?_; intro v' W3 hown' hgrow _; have HAP := hid (HI2.out.app (c := ⟨f.key, x2, f.kind, f.val⟩) HX.out (by rw [HSS.out]; exact HO.out) (by rw [HSS.out]; omega) HN.out (by rw [HSS.out]; exact hown') hgrow); obtain ⟨g', cap', rfl⟩ := ownsRow_succ hown'; have hk1 := HAP.out.1.cell; have hk2 := HAP.out.1.frozen; clear hown' hgrow)
              obtain ⟨p1, p2, p3, p4, p5⟩ := HAP.out
              have hbs := HB2.out.size
              refine ⟨⟨Nat.le_trans hbs p4, fun j o _ ho hc => p3 j o ((HB2.out.block j (lt_of_block ho)).trans ho) hc⟩, fun j h1 h2 => ?_, ?_⟩
              · exact (p5 j (by rw [HSS.out]; exact h1) h2).trans (HB2.out.block j (by omega))
              · show BrI w7 (B + 3) (chgAll A Bl k (pre ++ [(x1, x2)])) _
                rw [HCH.out, show chg1 A Bl k (x1, x2).2 = _ from HC.out]
                exact p2
          · have hk2 : ¬ ((o.kind : Int) = (f.kind : Int)) := by omega
            have HC : Hid (chg1 A Bl k x2 = [⟨f.key, x2, f.kind, f.val⟩]) := by
              show _ = _
              unfold chg1
              rw [HA.out, HF.out.2.1, if_neg (fun e => hk (by have := Option.some.inj e; exact congrArg (·.1) this)), HF.out.2.2.1]
            obtain ⟨va, h1, h2⟩ := HI2.out.box
            rw [HSS.out, HN.out] at h2
            obtain ⟨qa, ca, rfl, hv1, hv2, _⟩ := own_shape h2
            have c6 := h1.cell
            have f6 := h1.frozen
            have HX := hid h1
            have HO := hid h2
            obtain ⟨i0, hi, hz0, hz1, hz2⟩ := info_parts infoCg
            have hsw2 : S ≤ W2.heap.size := by have := HI2.out.size; have := HSS.out; omega
            clear h1 h2
            gi_wp2_with (gi_at_builtin; refine wpListIn_append_own _ rfl _ _ 27 rfl S 44 i0 _ 4 40 Try.underlying27 hi hz0 hz1 hz2 rfl (by decide) _ _ _ rfl (HO.out.alloc _) ⟨W2.heap.size, 0, none⟩ 1 1 [.string f.key, ekU x2, .int .u8 (f.kind : Int), .string f.val] rfl rfl (cells_new _ _ _) (by simp [Value.oneCell']) (by unfold maxLen; omega) (by omega) (by simp; omega) ?_; intro v' W3 hown' hgrow _; have HAP := hid (HI2.out.app (c := ⟨f.key, x2, f.kind, f.val⟩) HX.out (by rw [HSS.out]; exact HO.out) (by rw [HSS.out]; omega) HN.out (by rw [HSS.out]; exact hown') hgrow); obtain ⟨g', cap', rfl⟩ := ownsRow_succ hown'; have hk1 := HAP.out.1.cell; have hk2 := HAP.out.1.frozen; clear hown' hgrow)
            obtain ⟨p1, p2, p3, p4, p5⟩ := HAP.out
            have hbs := HB2.out.size
            refine ⟨⟨Nat.le_trans hbs p4, fun j o _ ho hc => p3 j o ((HB2.out.block j (lt_of_block ho)).trans ho) hc⟩, fun j h1 h2 => ?_, ?_⟩
            · exact (p5 j (by rw [HSS.out]; exact h1) h2).trans (HB2.out.block j (by omega))
            · show BrI w7 (B + 3) (chgAll A Bl k (pre ++ [(x1, x2)])) _
              rw [HCH.out, show chg1 A Bl k (x1, x2).2 = _ from HC.out]
              exact p2
    · have HW2 : Hid (BrW w B bx W2) := HW.out.keep (below_of_grown hg2 (Nat.le_refl _) hrl)
      have hen2 := hen W2 rfl (hg2.block _ HMa.out.lt (fun e => by have := Option.some.inj e; omega))
      have HMb2 : Hid (MapAt W2 (bx 2) ekU evF m) := HM2.out.keep (HW2.out.below.block _ hlt2)
      have HR2 := hid hr2
      have HS2 := hid (HS.out.push hi hni)
      have hsz := HS.out.size_lt hi hni
      have HSZ : Hid (l.length - (seen.push i).size < l.length - (wr.iterSeen (B + 4)).size) := by
        show _ < _
        rw [show wr.iterSeen (B + 4) = seen from by unfold World.iterSeen; rw [HR.out]]
        simp; omega
      obtain ⟨v, hv⟩ : ∃ v, v = l[i].1 := ⟨_, rfl⟩
      obtain ⟨f, hf⟩ : ∃ f, f = l[i].2 := ⟨_, rfl⟩
      rw [← hv, ← hf] at hnx hen2
      have hsp := seenAll_push (l := l) (m := m) (seen := seen) hi
      rw [← hv] at hsp
      obtain ⟨c1, c2, c3, c4⟩ := HW2.out.cells
      have hlk := run_lookup0 (P := Try.prog) HMb2.out keyU Try.underlying56 (zeroFactV W2) v true
      simp only [if_true] at hlk
      obtain ⟨b, hb⟩ : ∃ b, b = seenAll l m seen := ⟨_, rfl⟩
      rw [← hb] at hsp ⊢
      have HSP := hid hsp
      have HG := hid (⟨hg2, hs2⟩ : _ ∧ _)
      clear hv hf hen hg2 hs2 hr2 hni hrl hsp hb hsz
      cases hm2 : look1 m v with
      | none =>
        rw [hm2] at hlk
        simp only [Option.map_none, Option.getD_none, Option.isSome_none] at hlk
        have HSQ : Hid (seenAll l m (seen.push i) = false) := by show _ = _; rw [HSP.out, hm2]; simp
        have ha : Below W2.heap.size W2 (W2.alloc (.cells #[.string ⟨#[]⟩, .int .u32 0, .int .u64 0, .int .u64 0, .int .u8 0, .string ⟨#[]⟩] 42)) := (Below.refl _ _).alloc (Nat.le_refl _) _
        have HW3 := hid (HW2.out.keep (ha.mono (by have := lt_of_block HR2.out; omega)))
        have HR3 := hid ((ha.block _ (lt_of_block HR2.out)).trans HR2.out)
        clear hm2 ha
        cases b <;>
        · go_wp2
          go_roundw
          case rel => exact ⟨seen.push i, by rw [HSQ.out], HS2, HR3, HW3⟩
          case measure =>
            rw [show (W2.alloc (.cells #[.string ⟨#[]⟩, .int .u32 0, .int .u64 0, .int .u64 0, .int .u8 0, .string ⟨#[]⟩] 42)).iterSeen (B + 4) = seen.push i from by unfold World.iterSeen; rw [HR3.out]]
            exact HSZ.out
      | some g =>
        rw [hm2] at hlk
        simp only [Option.map_some, Option.getD_some, Option.isSome_some] at hlk
        change _ = Result.ok (Value.tuple #[.agg #[.string g.key, .int .u32 (g.valid : Int), .int .u64 (g.seq : Int), .int .u64 (g.line : Int), .int .u8 (g.kind : Int), .string g.val], .bool true]) _ at hlk
        have HSQ : Hid (seenAll l m (seen.push i) = b) := by show _ = _; rw [HSP.out, hm2]; simp
        have ha : Below W2.heap.size W2 (W2.alloc (.cells #[.string g.key, .int .u32 (g.valid : Int), .int .u64 (g.seq : Int), .int .u64 (g.line : Int), .int .u8 (g.kind : Int), .string g.val] 42)) := (Below.refl _ _).alloc (Nat.le_refl _) _
        have HW3 := hid (HW2.out.keep (ha.mono (by have := lt_of_block HR2.out; omega)))
        have HR3 := hid ((ha.block _ (lt_of_block HR2.out)).trans HR2.out)
        clear hm2 ha
        cases b <;>
        · go_wp2
          go_roundw
          case rel => exact ⟨seen.push i, by rw [HSQ.out], HS2, HR3, HW3⟩
          case measure =>
            rw [show (W2.alloc (.cells #[.string g.key, .int .u32 (g.valid : Int), .int .u64 (g.seq : Int), .int .u64 (g.line : Int), .int .u8 (g.kind : Int), .string g.val] 42)).iterSeen (B + 4) = seen.push i from by unfold World.iterSeen; rw [HR3.out]]
            exact HSZ.out
end Go.Proofs.Herb
