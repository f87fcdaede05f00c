/- The contract of the disk's Used. For a disk as DiskAt says. The contract of the disk's Read. For a disk as DiskAt says. The contract of the disk's Append. For a disk as DiskAt says. The contract of the disk's Sync. For a disk as DiskAt says. A law of regions that draw their order: the last operations, each of which waits for all ahead of them, may be walked behind the others. No program. The contract of the disk's Crash. For a disk as DiskAt says. -/
import Derived.Maps.RangeRun
import Derived.StillTailTactics
import Derived.Orders
import Derived.Tactics
import Derived.Deep.RegionHeld3
import Derived.Shelf.SlMaps.Clone
import Derived.Sort.KeysCollected
import Derived.Shelf.SlIter.Nil
import Derived.Shelf.SortM.Plain
import Derived.Shelf.SortM.SortNone
import Derived.Ground.GgzProg
import Derived.Ground.SlgmProg
import Derived.Test.YtcmiillgniglaaaGreatDoorQf19
namespace Go.Proofs.Herb
open Go.RowKit
open Go.ChangeMaps (setBlock)
theorem dfCells_at : ∀ (bs : List Value) (fs : List DF) (i : Nat), bs.length = fs.length → (dfCells bs fs)[2 * i]? = bs[i]? ∧ (dfCells bs fs)[2 * i + 1]? = fs[i]?.map (fun f => .int .i64 (f.sure : Int))
  | [], [], _, _ => by simp [dfCells]
  | b :: bs, g :: fs, 0, _ => by simp [dfCells]
  | b :: bs, g :: fs, i + 1, h => by
    have := dfCells_at bs fs i (by simpa using h)
    simpa [dfCells, Nat.mul_add, Nat.add_right_comm] using this
  | [], _ :: _, _, h => by cases h
  | _ :: _, [], _, h => by cases h
/-- a file's cells -/
theorem DiskAt.file {w : World} {m : DM} {s : DS} (h : DiskAt w m s) {i : Nat} (hi : i < s.files.length) :
    ∃ g c q k, m.fv = .slice (some ⟨g, 0, none⟩) s.files.length c ∧ s.files.length ≤ c ∧ m.bs[i]? = some (.slice q (s.files[i]).b.length k) ∧ (s.files[i]).b.length ≤ k ∧ k ≤ maxLen ∧ (q = none → k = 0) ∧ w.cell? ⟨g, i * 2, none⟩ = some (.slice q (s.files[i]).b.length k) ∧ w.cell? ⟨g, i * 2 + 1, none⟩ = some (.int .i64 ((s.files[i]).sure : Int)) ∧
      Rd w q ((s.files[i]).b.map bv) ∧ (∀ j, w.frozen? ⟨g, j, none⟩ = false) ∧ g < w.heap.size := by
  have hb : i < m.bs.length := by rw [h.len]; exact hi
  have hof := h.bytes i m.bs[i] s.files[i] (List.getElem?_eq_getElem hb) (List.getElem?_eq_getElem hi)
  obtain ⟨q, k, e1, e2, e3, e4⟩ := own_shape hof
  have hrd : Rd w q ((s.files[i]).b.map bv) := by
    have hh := hof
    rw [e1] at hh
    exact (Fr.of_own hh).rd
  obtain ⟨hl, hx⟩ := h.files
  rcases hx with ⟨_, h0⟩ | ⟨g, cap, cur, hv, _, hg, hnc, hcm, hcs, ht⟩
  · omega
  · have hc : ∀ j v, (dfCells m.bs s.files)[j]? = some v → w.cell? ⟨g, j, none⟩ = some v := by
      intro j v hj
      rw [cell_of_row w g j _ _ _ hg]
      rw [← ht] at hj
      rw [List.getElem?_take] at hj
      split at hj
      · simpa using hj
      · cases hj
    have hf := dfCells_at m.bs s.files i h.len
    refine ⟨g, cap, q, k, hv, hnc, by rw [List.getElem?_eq_getElem hb, e1], e2, e3, e4, hc _ _ ?_, hc _ _ ?_, hrd, fun j => frozen_of_row w g j _ _ hg, lt_of_block hg⟩
    · rw [Nat.mul_comm, hf.1, List.getElem?_eq_getElem hb, e1]
    · rw [Nat.mul_comm, hf.2, List.getElem?_eq_getElem hi]; rfl
/-! how many bytes there are -/
def lenAt (s : DS) (i : Nat) : Nat := (s.files[i]?.map (·.b.length)).getD 0
def usedN (s : DS) : Nat := (s.names.map fun e => lenAt s e.2.1).sum
structure DirOk (d : Dir) (c n : Nat) : Prop where
  born : ∀ e ∈ d, e.2.2 < c
  once : (d.map (·.2.2)).Nodup
  at_ : ∀ e ∈ d, e.2.1 < n
def lenE (s : DS) : Array MapEntry := (s.names.map fun e => ({ key := .string e.1, val := .int .i64 (lenAt s e.2.1 : Int), born := e.2.2 } : MapEntry)).toArray
theorem lenE_sum (s : DS) : ((lenE s).toList.map fun e => valOf e.val).sum = (usedN s : Int) := by
  unfold lenE usedN
  generalize s.names = l
  induction l with
  | nil => rfl
  | cons e l ih => simp only [List.map_cons, List.sum_cons, Int.natCast_add, ← ih, valOf]
theorem seenSum_range (seen : Array Nat) : ∀ (l : List MapEntry), (∀ e ∈ l, 0 ≤ valOf e.val) → 0 ≤ seenSum l seen ∧ seenSum l seen ≤ (l.map fun e => valOf e.val).sum
  | [], _ => ⟨Int.le_refl _, Int.le_refl _⟩
  | e :: l, h => by
    have h1 := seenSum_range seen l (fun e he => h e (List.mem_cons_of_mem _ he))
    have h2 := h e (by simp)
    simp only [seenSum, List.map_cons, List.sum_cons]
    split <;> omega
theorem left_lenE (s : DS) (seen : Array Nat) : (leftOf (lenE s) seen).size = (leftOf (encDir s.names) seen).size := by
  have e1 : ∀ (es : Array MapEntry) (p : MapEntry → Bool), (es.filter p).size = (es.toList.filter p).length := fun es p => by rw [← Array.toList_filter, Array.length_toList]
  unfold leftOf lenE encDir
  rw [e1, e1]
  simp only [List.filter_map, List.length_map]
  congr 1
theorem enc_mem {d : Dir} {e : MapEntry} (h : e ∈ (encDir d).toList) : ∃ x ∈ d, e = encE x := by
  simp only [encDir, List.toList_toArray, List.mem_map] at h
  obtain ⟨x, hx, rfl⟩ := h
  exact ⟨x, hx, rfl⟩
theorem enc_born (d : Dir) : (encDir d).toList.map (·.born) = d.map (·.2.2) := by simp [encDir, encE, Function.comp_def]
theorem lenE_born (s : DS) : (lenE s).toList.map (·.born) = s.names.map (·.2.2) := by simp [lenE, Function.comp_def]
theorem below_block {B r : Nat} {w w' : World} (h : Below B w w') (hr : B ≤ r) (o : Obj) : Below B w (setBlock w' r o) :=
  ⟨h.os, h.tape, h.output, by have := h.size; simp only [setBlock, Array.size_setIfInBounds]; exact this, fun k hk => by
    rw [← h.block k hk]; simp only [setBlock]; rw [Array.getElem?_setIfInBounds_ne (by omega)]⟩
theorem block_at {w : World} {r : Nat} (h : r < w.heap.size) (o : Obj) : (setBlock w r o).heap[r]? = some o := by simp [setBlock, h]
theorem iterSeen_at {w : World} {r : Nat} {a : Option Nat} {b c : Nat} {sn : Array Nat} (h : w.heap[r]? = some (.mapIter a b sn c)) : w.iterSeen r = sn := by
  unfold World.iterSeen
  rw [h]
set_option maxRecDepth 100000 in
set_option maxHeartbeats 800000 in
theorem used_any (m : DM) (s : DS) (w : World) (h : DiskAt w m s) (hd : DirOk s.names s.nclock s.files.length) (hu : usedN s ≤ 4611686018427387904) :
    Calls Tryz.prog 60 #[.pointer (some ⟨m.D, 0, none⟩)] w fun e w' => e = .returned (.int .i64 (usedN s : Int)) ∧ Below w.heap.size w w' := by
  obtain ⟨_, _, _, c3, c4, _, _⟩ := h.cells
  have hMl := lt_of_block h.names
  have hrg := run_range_map (P := Tryz.prog) w 69 9 3 m.M (encDir s.names) s.nclock Tryz.underlying69 h.names
  have H := hid h
  have HD := hid hd
  clear h hd
  go_enter Tryz.func60, Tryz.ntmps60
  go_wp2_with (go_at_call 89; refine (there_any m s w H.out).mono ?_; rintro e w1 ⟨rfl, rfl⟩)
  go_loopw [2] (fun s2 wr => ∃ (seen : Array Nat), Below w.heap.size w wr ∧ wr.heap[w.heap.size]? = some (.mapIter (some m.M) s.nclock seen s.nclock) ∧ s2 = .int .i64 (seenSum (lenE s).toList seen)) (fun _ wr => (leftOf (encDir s.names) (wr.iterSeen w.heap.size)).size)
  case atStart => exact ⟨#[], (Below.refl _ _).alloc (Nat.le_refl _) _, heap_alloc_new _ _, by rw [seenSum_none]⟩
  case round =>
    obtain ⟨seen, hB, hr, rfl⟩ := hrel
    have law := run_next_at (P := Tryz.prog) wr 0 w.heap.size m.M s.nclock s.nclock seen (encDir s.names) s.nclock hr ((hB.block _ hMl).trans H.out.names) (fun x hx => by obtain ⟨y, hy, rfl⟩ := enc_mem hx; exact HD.out.born y hy) (Nat.le_refl _)
    rcases law with ⟨h0, hrun⟩ | ⟨e, he, w1, hw1, hrun⟩
    · have hnx : ∀ ty, (Instr.next (.pointer (some ⟨w.heap.size, 0, none⟩)) false ty).run Tryz.prog wr = _ := fun _ => hrun
      have HB := hid hB
      have H0 := hid h0
      clear hB h0 hr
      go_wp2
      go_ret
      refine ⟨?_, HB.out⟩
      have h1 : (leftOf (lenE s) seen).size = 0 := by rw [left_lenE]; exact H0.out
      show Ending.returned (.int .i64 (seenSum (lenE s).toList seen)) = _
      rw [seenSum_all _ _ h1, lenE_sum]
    · obtain ⟨y, hy, rfl⟩ := enc_mem (mem_left he).1
      have hya := HD.out.at_ y hy
      have hrl := lt_of_block hr
      have hB1 : Below w.heap.size w w1 := by rcases hw1 with rfl | rfl; exact hB; exact hB.drew
      have hr1 : w.heap.size < w1.heap.size := by rcases hw1 with rfl | rfl <;> exact hrl
      obtain ⟨w2, hw2⟩ : ∃ w2, w2 = setBlock w1 w.heap.size (.mapIter (some m.M) s.nclock (seen.push (encE y).born) s.nclock) := ⟨_, rfl⟩
      rw [← hw2] at hrun
      have hr2 : w2.heap[w.heap.size]? = some (.mapIter (some m.M) s.nclock (seen.push (encE y).born) s.nclock) := by rw [hw2]; exact block_at hr1 _
      have hB2 : Below w.heap.size w w2 := by rw [hw2]; exact below_block hB1 (Nat.le_refl _) _
      have hen := run_entry_at (P := Tryz.prog) w2 w.heap.size m.M s.nclock seen (encDir s.names) s.nclock (encE y) hr2 ((hB2.block _ hMl).trans H.out.names) (mem_left he).1 (by rw [enc_born]; exact HD.out.once)
      have hnx : ∀ ty, (Instr.next (.pointer (some ⟨w.heap.size, 0, none⟩)) false ty).run Tryz.prog wr = _ := fun _ => hrun
      simp only [encE] at hnx hen
      have hdk := H.out.below hB2
      obtain ⟨g, c, q, k, hfv, hc1, hbi, hk1, hk2, hqn, hce, _, hrd, _, hgl⟩ := hdk.file hya
      have c3' := hdk.cells.2.2.2.1
      rw [hfv] at c3'
      have hsum := seenSum_range (seen.push (encE y).born) (lenE s).toList (fun e he => by
        simp only [lenE, List.toList_toArray, List.mem_map] at he
        obtain ⟨x, _, rfl⟩ := he
        exact Int.natCast_nonneg _)
      have hpush := seenSum_push seen { key := .string y.1, val := .int .i64 (lenAt s y.2.1 : Int), born := y.2.2 } (mem_left he).2 (lenE s).toList (by rw [lenE_born]; exact HD.out.once) (by simp only [lenE, List.toList_toArray, List.mem_map]; exact ⟨y, hy, rfl⟩)
      rw [lenE_sum] at hsum
      have hla : lenAt s y.2.1 = (s.files[y.2.1]).b.length := by unfold lenAt; rw [List.getElem?_eq_getElem hya]; rfl
      have hsm0 := seenSum_range seen (lenE s).toList (fun e he => by
        simp only [lenE, List.toList_toArray, List.mem_map] at he
        obtain ⟨x, _, rfl⟩ := he
        exact Int.natCast_nonneg _)
      rw [lenE_sum] at hsm0
      simp only [valOf] at hpush
      change seenSum (lenE s).toList (seen.push y.2.2) = _ at hpush
      change _ ∧ seenSum (lenE s).toList (seen.push y.2.2) ≤ _ at hsum
      rw [hla] at hpush
      rw [hpush] at hsum
      have Hpush := hid hpush
      have HB2 := hid hB2
      have Hr2 := hid hr2
      have Hr := hid hr
      have He := hid he
      clear hpush hB2 hr2 hr he hw2 hw1 hB1 hB hdk hrd hbi
      obtain ⟨S, hS⟩ : ∃ S, S = seenSum (lenE s).toList seen := ⟨_, rfl⟩
      rw [← hS] at hsum hsm0
      rw [← hS] at Hpush
      rw [← hS]
      go_wp2
      go_roundw
      case rel => exact ⟨_, HB2.out, Hr2.out, by show _ = Value.int .i64 (seenSum (lenE s).toList (seen.push y.2.2)); rw [Hpush.out, hS]⟩
      case measure =>
        have e1 := iterSeen_at Hr2.out
        have e2 := iterSeen_at Hr.out
        rw [e1, e2]
        exact left_shrinks _ seen _ He.out
end Go.Proofs.Herb
namespace Go.Proofs.Herb
open Go.RowKit
theorem own_setCell {w : World} {base : Nat} {e : TypeId} {k : Nat} {g n c : Nat} {xs : List Value} (h : w.ownsRow base e k (.slice (some ⟨g, 0, none⟩) n c) n xs) (j : Nat) (u : Value) :
    (w.setCell ⟨g, j, none⟩ u).ownsRow base e k (.slice (some ⟨g, 0, none⟩) n c) n (xs.set j u) := by
  obtain ⟨hl, hx⟩ := h
  refine ⟨by simpa using hl, ?_⟩
  rcases hx with ⟨h0, _⟩ | ⟨g', cap, cur, hv, hb, hg, hnc, hcm, hcs, ht⟩
  · cases h0
  · cases hv
    refine .inr ⟨g, c, cur.setIfInBounds j u, rfl, hb, heap_setCell_same _ _ _ _ _ _ hg, hnc, hcm, by simpa using hcs, ?_⟩
    rw [← ht]
    simp only [Array.toList_setIfInBounds]
    rw [List.take_set]
theorem fCells_set : ∀ (bs : List Value) (fs : List DF) (i : Nat) (v : Value) (f : DF), bs.length = fs.length → (∀ f0, fs[i]? = some f0 → f0.sure = f.sure) → dfCells (bs.set i v) (fs.set i f) = (dfCells bs fs).set (i * 2) v
  | [], [], _, _, _, _, _ => by simp [dfCells]
  | b :: bs, g :: fs, 0, v, f, _, h => by
    have := h g rfl
    simp [dfCells, this]
  | b :: bs, g :: fs, i + 1, v, f, hl, h => by
    have := fCells_set bs fs i v f (by simpa using hl) (fun f0 h0 => h f0 (by simpa using h0))
    have e : (i + 1) * 2 = i * 2 + 1 + 1 := by omega
    rw [e]
    simp only [List.set_cons_succ, dfCells, this]
  | [], _ :: _, _, _, _, h, _ => by cases h
  | _ :: _, [], _, _, _, h, _ => by cases h
theorem look_mem {d : Dir} {k : ByteArray} {i : Nat} (h : look d k = some i) : ∃ e ∈ d, e.2.1 = i := by
  rcases look_cases d k with ⟨_, h2⟩ | ⟨j, e, _, h3, _, h5⟩
  · rw [h2] at h; cases h
  · rw [h5] at h; exact ⟨e, List.mem_of_getElem? h3, Option.some.inj h⟩
theorem known_ok {s : DS} {k : ByteArray} (h : knownE s k = 0) (hd : DirOk s.names s.nclock s.files.length) : ∃ i, look s.names k = some i ∧ knownN s k = (i : Int) ∧ i < s.files.length := by
  unfold knownE at h
  split at h
  · cases h
  · rename_i hdd
    unfold foundE at h
    split at h
    · rename_i hm
      split at h
      · rename_i hs
        obtain ⟨i, hi⟩ := Option.isSome_iff_exists.1 hs
        obtain ⟨e, he, rfl⟩ := look_mem hi
        refine ⟨_, hi, ?_, hd.at_ e he⟩
        unfold knownN foundN
        rw [if_neg hdd, if_pos hm, hi]
        rfl
      · cases h
    · cases h
def fileL (s : DS) (k : ByteArray) : List UInt8 := ((s.files[(look s.names k).getD 0]?).map (·.b)).getD []
def readL (s : DS) (k : ByteArray) : List UInt8 := if knownE s k = 0 then fileL s k else []
set_option maxRecDepth 100000 in
set_option maxHeartbeats 800000 in
theorem read_clip (m : DM) (s : DS) (k : ByteArray) (hk : k.size ≤ maxLen) (w : World) (h : DiskAt w m s) (hd : DirOk s.names s.nclock s.files.length) (hb : ∀ f ∈ s.files, f.b.length ≤ 4194304) :
    Calls Tryz.prog 25 #[.pointer (some ⟨m.D, 0, none⟩), .string k] w fun e w' => ∃ q, e = .returned (.tuple #[.slice q (readL s k).length (readL s k).length, .int .i64 (knownE s k)]) ∧ Fr w' w.heap.size 5 1 (.slice q (readL s k).length (readL s k).length) (readL s k).length ((readL s k).map bv) ∧ Below w.heap.size w w' := by
  by_cases q : knownE s k = 0
  · obtain ⟨i, hi, hn, hil⟩ := known_ok q hd
    obtain ⟨g, c, q0, k0, hfv, hc1, hbi, hk1, hk2, hqn, hce, _, hrd, _, hgl⟩ := h.file hil
    have hrl : readL s k = (s.files[i]).b := by unfold readL fileL; rw [if_pos q, hi, Option.getD_some, List.getElem?_eq_getElem hil]; rfl
    have hbl := hb _ (List.getElem_mem hil)
    have c3 := h.cells.2.2.2.1
    rw [hfv] at c3
    rw [hrl]
    have H := hid h
    have Q := hid q
    have Hn := hid hn
    have Hrd := hid hrd
    have Hqn := hid hqn
    clear h q hn hrd hqn hbi hi hrl hd hb
    go_enter Tryz.func25, Tryz.ntmps25
    go_wp2_with (first
      | (go_at_call 46; refine (known_any m s k hk w H.out).mono ?_; rintro e w' ⟨rfl, rfl⟩; rw [Q.out, Hn.out])
      | (go_at_call 48; refine (clone_bytes q0 _ k0 _ w rfl hk1 hbl Hrd.out Hqn.out).mono ?_; rintro e w1 ⟨v, rfl, hv, hb1⟩; obtain ⟨q1, c1, rfl, hn1, hm1, hr1, hz1⟩ := hv.shape; have Hv := hid hv; have Hb1 := hid hb1; have Hr1 := hid hr1; have Hz1 := hid hz1; clear hv hb1 hr1 hz1)
      | (go_at_call 47; refine (clip_bytes q1 _ c1 w1 hn1 hm1).mono ?_; rintro e w2 ⟨rfl, rfl⟩))
    go_ret2
    exact ⟨_, by rw [Q.out]; rfl, Hv.out.clip, Hb1.out⟩
  · have b1 : (knownE s k != 0) = true := by simpa using q
    have hrl : readL s k = [] := by unfold readL; rw [if_neg q]
    have Hrl := hid hrl
    have H := hid h
    clear h q hrl hd hb
    go_enter Tryz.func25, Tryz.ntmps25
    go_wp2_with (go_at_call 46; refine (known_any m s k hk w H.out).mono ?_; rintro e w' ⟨rfl, rfl⟩)
    go_ret2
    rw [Hrl.out]
    exact ⟨none, rfl, Fr.of_own (own_nil22 _ _), Below.refl _ _⟩
theorem read_nil (k : ByteArray) (w : World) : Calls Tryz.prog 25 #[.pointer none, .string k] w fun e w' => e = .returned (.tuple #[.slice none 0 0, .int .i64 2]) ∧ w = w' := by
  go_enter Tryz.func25, Tryz.ntmps25
  go_wp2_with (go_at_call 46; refine (known_nil k w).mono ?_; rintro e w' ⟨rfl, rfl⟩)
  go_ret2
  exact ⟨rfl, rfl⟩
theorem mem_fp_bs {m : DM} {i : Nat} {v' : Value} {k : Nat} (h : k ∈ ({ m with bs := m.bs.set i v' } : DM).fp) : k ∈ m.fp ∨ v'.ownBlock = some k := by
  simp only [DM.fp, List.mem_cons, List.mem_append, Option.mem_toList, List.mem_filterMap] at h ⊢
  rcases h with h | h | h | h | h | ⟨u, hu, hk⟩
  · exact .inl (.inl h)
  · exact .inl (.inr (.inl h))
  · exact .inl (.inr (.inr (.inl h)))
  · exact .inl (.inr (.inr (.inr (.inl h))))
  · exact .inl (.inr (.inr (.inr (.inr (.inl h)))))
  · rcases List.mem_or_eq_of_mem_set hu with h | rfl
    · exact .inl (.inr (.inr (.inr (.inr (.inr ⟨u, h, hk⟩)))))
    · exact .inr hk
theorem nodup_two : ∀ {l : List Value}, (l.filterMap Value.ownBlock).Nodup → ∀ {i j : Nat} {u v : Value} {g : Nat}, l[i]? = some u → l[j]? = some v → i ≠ j → u.ownBlock = some g → v.ownBlock = some g → False
  | [], _, _, _, _, _, _, h, _, _, _, _ => by cases h
  | x :: l, hn, i, j, u, v, g, hu, hv, hij, hug, hvg => by
    have hn' : (l.filterMap Value.ownBlock).Nodup := by
      rw [List.filterMap_cons] at hn
      split at hn
      · exact hn
      · exact (List.nodup_cons.1 hn).2
    have key : ∀ {y : Value} {a : Nat}, l[a]? = some y → y.ownBlock = some g → x.ownBlock = some g → False := by
      intro y a hy hyg hxg
      rw [List.filterMap_cons, hxg] at hn
      exact (List.nodup_cons.1 hn).1 (List.mem_filterMap.2 ⟨y, List.mem_of_getElem? hy, hyg⟩)
    cases i with
    | zero =>
      cases j with
      | zero => exact hij rfl
      | succ j => simp at hu hv; subst hu; exact key hv hvg hug
    | succ i =>
      cases j with
      | zero => simp at hu hv; subst hv; exact key hu hug hvg
      | succ j => exact nodup_two hn' (by simpa using hu) (by simpa using hv) (fun e => hij (by rw [e])) hug hvg
theorem append_fin (m : DM) (s : DS) (i : Nat) (hi : i < s.files.length) (w w1 : World) (g c : Nat) (v v' : Value) (b : List UInt8) (D1 : DiskAt w m s)
    (hfv : m.fv = .slice (some ⟨g, 0, none⟩) s.files.length c) (hv : m.bs[i]? = some v)
    (hown : w1.ownsRow 0 5 1 v' ((s.files[i]).b ++ b).length (((s.files[i]).b ++ b).map bv))
    (hg : w.drew.grownBy w1 v.ownBlock) (hat : v'.ownBlock = v.ownBlock ∨ v'.ownBlock = some w.drew.heap.size) :
    DiskAt (w1.setCell ⟨g, i * 2, none⟩ v') { m with bs := m.bs.set i v' } { s with files := s.files.set i ⟨(s.files[i]).b ++ b, (s.files[i]).sure⟩ } ∧
    Mod m.fp ({ m with bs := m.bs.set i v' } : DM).fp w (w1.setCell ⟨g, i * 2, none⟩ v') := by
  have hlt := D1.lt
  obtain ⟨n1, n2, n3, hf, hc, hb⟩ := D1.notD
  have hgo : m.fv.ownBlock = some g := by rw [hfv]; rfl
  have hgf := hf g hgo
  have hsz : w.drew.heap.size = w.heap.size := rfl
  have hnd := D1.nodup
  rw [DM.fp_eq] at hnd
  simp only [List.nodup_append, List.mem_append, ne_eq] at hnd
  have hbl := (List.getElem?_eq_some_iff.1 hv).1
  have hkk : ∀ k, k < w.heap.size → some k ≠ v.ownBlock → w1.heap[k]? = w.heap[k]? := fun k hk hn => hg.block k hk hn
  have hk : ∀ k, k ∈ m.fp → k ≠ g → some k ≠ v.ownBlock → (w1.setCell ⟨g, i * 2, none⟩ v').heap[k]? = w.heap[k]? := fun k hk hn h =>
    (heap_setCell_other _ _ _ _ hn).trans (hkk k (hlt k hk) h)
  have hgv : some g ≠ v.ownBlock := fun e => hnd.2.1.2.2 g (by simp [hgo]) g (.inr (List.mem_filterMap.2 ⟨v, List.mem_of_getElem? hv, e.symm⟩)) rfl
  have hat' : v'.ownBlock = v.ownBlock ∨ ∃ g', v'.ownBlock = some g' ∧ w.heap.size ≤ g' := by
    rcases hat with e | e
    · exact .inl e
    · exact .inr ⟨_, e, by omega⟩
  have hbd := fun (e : some m.D = v.ownBlock) => (hb i v m.D hv e.symm).1 rfl
  have hbm := fun (e : some m.M = v.ownBlock) => (hb i v m.M hv e.symm).2.1 rfl
  have hbs := fun (e : some m.S = v.ownBlock) => (hb i v m.S hv e.symm).2.2 rfl
  refine ⟨⟨(hk _ (by simp [DM.fp]) (Ne.symm hgf.1) hbd).trans D1.disk, (hk _ (by simp [DM.fp]) (Ne.symm hgf.2.1) hbm).trans D1.names, (hk _ (by simp [DM.fp]) (Ne.symm hgf.2.2) hbs).trans D1.sured, ?_, by simp [D1.len], ?_, own_keep D1.changes (fun g' hg' => hk g' (mem_fp_c hg') ?_ ?_), ?_⟩, ?_⟩
  · dsimp only
    rw [List.length_set, fCells_set m.bs s.files i v' _ D1.len (fun f0 h0 => by rw [List.getElem?_eq_getElem hi] at h0; cases h0; rfl), hfv]
    refine own_setCell ?_ _ _
    rw [← hfv]
    exact own_keep D1.files (fun g' hg' => hkk g' (own_lt D1.files hg') (fun e => by rw [hgo] at hg'; cases hg'; exact hgv e))
  · intro j u f hu hff
    by_cases hj : i = j
    · subst hj
      rw [List.getElem?_set_self hbl] at hu
      rw [List.getElem?_set_self hi] at hff
      cases hu; cases hff
      refine own_keep hown (fun g' hg' => heap_setCell_other _ _ _ _ ?_)
      intro e
      rcases hat' with e2 | ⟨g2, e2, hl2⟩
      · rw [e2] at hg'; exact hgv (by rw [hg', e])
      · rw [e2] at hg'
        have := Option.some.inj hg'
        have := own_lt D1.files hgo
        have : g' = g := e
        omega
    · rw [List.getElem?_set_ne hj] at hu
      rw [List.getElem?_set_ne hj] at hff
      refine own_keep (D1.bytes j u f hu hff) (fun g' hg' => hk g' (mem_fp_b hu hg') ?_ ?_)
      · intro e; subst e
        exact hnd.2.1.2.2 g' (by simp [hgo]) g' (.inr (List.mem_filterMap.2 ⟨u, List.mem_of_getElem? hu, hg'⟩)) rfl
      · intro e
        exact nodup_two hnd.2.1.2.1.2.1 hv hu hj e.symm hg'
  · intro e; subst e
    exact hnd.2.1.2.2 g' (by simp [hgo]) g' (.inl (by simp [hg'])) rfl
  · intro e
    exact hnd.2.1.2.1.2.2 g' (by simp [hg']) g' (List.mem_filterMap.2 ⟨v, List.mem_of_getElem? hv, e.symm⟩) rfl
  · refine nodup_b D1.nodup hv ?_
    rcases hat' with e | ⟨g', e, hg'⟩
    · exact .inl e
    · exact .inr ⟨g', e, fun h => by have := hlt g' h; omega⟩
  · refine ⟨hg.os, hg.tape, hg.output, ?_, fun k hk hn => ?_, fun k hk => ?_⟩
    · have := hg.size; simp; omega
    · exact (heap_setCell_other _ _ _ _ (fun e => hn (by rw [e]; exact mem_fp_f hgo))).trans (hkk k hk (fun e => hn (mem_fp_b hv e.symm)))
    · rcases mem_fp_bs hk with h | h
      · exact .inl h
      · rcases hat' with e | ⟨g', e, hg'⟩
        · exact .inl (mem_fp_b hv (e.symm.trans h))
        · rw [e] at h; cases h; exact .inr hg'
end Go.Proofs.Herb
namespace Go.Proofs.Herb
open Go.RowKit
def appendE (s : DS) (k : ByteArray) (b : List UInt8) : Int := if knownE s k ≠ 0 then knownE s k else if s.room - (usedN s : Int) < (b.length : Int) then 9 else letsE s
def appendS (s : DS) (k : ByteArray) (b : List UInt8) : DS :=
  if knownE s k ≠ 0 ∨ s.room - (usedN s : Int) < (b.length : Int) then s else if letsE s ≠ 0 then letsS s else { letsS s with files := s.files.modify ((look s.names k).getD 0) fun f => ⟨f.b ++ b, f.sure⟩ }
theorem modify_set {l : List DF} {i : Nat} (hi : i < l.length) (f : DF → DF) : l.modify i f = l.set i (f l[i]) := by
  apply List.ext_getElem?
  intro j
  rw [List.getElem?_modify, List.getElem?_set]
  by_cases h : i = j
  · subst h; simp [hi]
  · simp [h]
theorem Rd.mod {w w' : World} {a : Option Addr} {xs : List Value} {fp fp' : List Nat} (h : Rd w a xs) (hm : Mod fp fp' w w') (ha : ∀ b off, a = some ⟨b, off, Option.none⟩ → b ∉ fp) : Rd w' a xs := by
  rcases h with h | ⟨b, off, rfl, h⟩
  · exact .inl h
  · refine .inr ⟨b, off, rfl, fun j u hu => ?_⟩
    have hc := h j u hu
    rw [← hc]
    refine World.cell?_of_block (hm.block b (Rd.lt (xs := [u]) (.inr ⟨b, off + j, rfl, fun i v hi => by cases i with | zero => simpa using (by simpa using hi : u = v) ▸ hc | succ i => cases hi⟩) rfl (by simp)) (ha b off rfl))
theorem rd_or {w : World} {a : Option Addr} {l : List UInt8} (h : l ≠ [] → Rd w a (l.map bv)) : Rd w a (l.map bv) := by
  by_cases hl : l = []
  · exact .inl (by rw [hl]; rfl)
  · exact h hl
set_option maxRecDepth 100000 in
set_option maxHeartbeats 1600000 in
theorem append_any (m : DM) (s : DS) (k : ByteArray) (hk : k.size ≤ maxLen) (a : Option Addr) (n c : Nat) (l : List UInt8) (w : World) (h : DiskAt w m s) (hd : DirOk s.names s.nclock s.files.length) (hu : usedN s ≤ 4611686018427387904) (h1 : -1 ≤ s.fuse) (h2 : s.fuse ≤ 9223372036854775807) (hr0 : 0 ≤ s.room) (hr1 : s.room ≤ 4194304)
    (hn : l.length = n) (hc : n ≤ c) (hcm : c ≤ maxLen) (hr : Rd w a (l.map bv)) (ha : a = none → c = 0) (hfp : l ≠ [] → ∀ b off, a = some ⟨b, off, none⟩ → b ∉ m.fp) (hb : ∀ f ∈ s.files, f.b.length ≤ 100000000000) :
    Calls Tryz.prog 34 #[.pointer (some ⟨m.D, 0, none⟩), .string k, .slice a n c] w fun e w' => ∃ m', e = .returned (.int .i64 (appendE s k l)) ∧ DiskAt w' m' (appendS s k l) ∧ m'.D = m.D ∧ Mod m.fp m'.fp w w' := by
  have hE : appendE s k l = if knownE s k ≠ 0 then knownE s k else if s.room - (usedN s : Int) < (l.length : Int) then 9 else letsE s := rfl
  have hS : appendS s k l = if knownE s k ≠ 0 ∨ s.room - (usedN s : Int) < (l.length : Int) then s else if letsE s ≠ 0 then letsS s else { letsS s with files := s.files.modify ((look s.names k).getD 0) fun f => ⟨f.b ++ l, f.sure⟩ } := rfl
  rw [hn] at hE hS
  have Hn := hid hn
  have Hr := hid hr
  have Ha := hid ha
  have Hfp := hid hfp
  have HD := hid hd
  have Hb := hid hb
  have hnm : n ≤ 9223372036854775807 := by unfold maxLen at hcm; omega
  clear hn hr ha hfp hd hb hcm
  by_cases q : knownE s k = 0
  · obtain ⟨i, hi, hkn, hil⟩ := known_ok q HD.out
    rw [q] at hE hS
    simp only [ne_eq, not_true_eq_false, if_false, false_or] at hE hS
    have Q := hid q
    have Hkn := hid hkn
    have c0 := h.cells.1
    have H := hid h
    clear q hkn h
    have hw : IntKind.i64.wrap (s.room - (usedN s : Int)) = s.room - (usedN s : Int) := by rw [IntKind.wrap_i64]; omega
    obtain ⟨full, hfl⟩ : ∃ f, f = decide (s.room - (usedN s : Int) < (n : Int)) := ⟨_, rfl⟩
    go_enter Tryz.func34, Tryz.ntmps34
    go_upto_region 4 with (go_at_call 46; refine (known_any m s k hk _ H.out).mono ?_; rintro e w' ⟨rfl, rfl⟩; rw [Q.out, Hkn.out]; dsimp only)
    go_cut [20] (fun s20 wc => s20 = .bool full ∧ Below w.heap.size w wc)
    case first =>
      go_region_with (go_at_call 60; refine (used_any m s w.drew (H.out.below (Below.refl _ _).drew) HD.out hu).mono ?_; rintro e w1 ⟨rfl, hb1⟩; have c0' := (H.out.below (Below.trans (Below.refl _ _).drew hb1)).cells.1; have hb1 := hid hb1; dsimp only)
      all_goals
        go_wp2_with fail
        go_meet
        exact ⟨by rw [hfl], (Below.refl _ _).drew.trans hb1.out⟩
    case rest =>
      obtain ⟨rfl, hb⟩ := hcut
      have H1 := hid (H.out.below hb)
      have HB := hid (Mod.of_below m.fp hb)
      clear hb c0 hw
      cases full
      · have hf : ¬ (s.room - (usedN s : Int) < (n : Int)) := by simpa using hfl.symm
        rw [if_neg hf] at hE hS
        have hnb : n ≤ 4194304 := by omega
        clear hf hfl
        by_cases q3 : letsE s = 0
        · rw [q3, if_neg (fun h => h rfl), hi, Option.getD_some] at hS
          rw [q3] at hE
          have hE := hid hE
          have hS := hid hS
          have Q3 := hid q3
          clear q3 hi
          go_upto_region 9 with (go_at_call 58; refine (lets_any m s _ H1.out h1 h2).mono ?_; rintro e w1 ⟨rfl, hD1, hM1⟩; rw [Q3.out]; have hD1 := hid hD1; have hM1 := hid hM1; dsimp only)
          obtain ⟨l1, _⟩ := lets_files s
          obtain ⟨g, cf, q0, k0, hfv, hc1, hbi, hk1, hk2, hqn, hce, _, _, hfr, hgl⟩ := hD1.out.file (i := i) (by rw [l1]; exact hil)
          have hof := hD1.out.bytes i _ _ hbi (List.getElem?_eq_getElem (by rw [l1]; exact hil))
          have hbl := Hb.out _ (List.getElem_mem hil)
          simp only [l1] at hfv hc1 hbi hk1 hce hof
          obtain ⟨fl, hfl⟩ : ∃ fl, fl = s.files[i].b := ⟨_, rfl⟩
          obtain ⟨nf, hnf⟩ : ∃ nf, nf = fl.length := ⟨_, rfl⟩
          rw [← hfl, ← hnf] at hbi hk1 hce hof
          rw [← hfl, ← hnf] at hbl
          have hdk := hD1.out.disk
          have d3 := hD1.out.cells.2.2.2.1
          rw [hfv] at d3
          have hrd := rd_or (l := l) fun hl => (Hr.out.mod HB.out (Hfp.out hl)).mod hM1.out (Hfp.out hl)
          have hown0 := hid hof
          have Hrd := hid hrd
          have Hdk := hid hdk
          have hvne : some m.D ≠ (Value.slice q0 nf k0).ownBlock := fun e => ((H1.out.notD.2.2.2.2.2 i _ m.D hbi e.symm)).1 rfl
          have Hvne := hid hvne
          have hgo : m.fv.ownBlock = some g := by rw [hfv]; rfl
          have hgne : some g ≠ (Value.slice q0 nf k0).ownBlock := fun e => by
            have hnd := hD1.out.nodup
            rw [DM.fp_eq] at hnd
            simp only [List.nodup_append, List.mem_append, ne_eq] at hnd
            exact hnd.2.1.2.2 g (by simp [hgo]) g (.inr (List.mem_filterMap.2 ⟨_, List.mem_of_getElem? hbi, e.symm⟩)) rfl
          have Hgne := hid hgne
          have hgh : ∃ cs, w1.heap[g]? = some (.cells cs 95 (0, 0)) := by
            have h := hD1.out.files.2
            rw [hfv] at h
            simp only [l1] at h
            rcases h with ⟨h0, _⟩ | ⟨g', cap, cur, hv, _, hg, _⟩
            · cases h0
            · cases hv; exact ⟨cur, hg⟩
          obtain ⟨cs, hgh⟩ := hgh
          have Hgh := hid hgh
          have hcs : cs[i * 2]? = some (.slice q0 nf k0) := by rw [← hce]; exact (cell_of_row w1 g (i * 2) _ _ _ hgh).symm
          have Hbi := hid hbi
          have Hfv := hid hfv
          have Hce := hid hce
          have Hnf := hid hnf
          have Hfl := hid hfl
          clear hof hrd hdk hvne hgne hgh hbi hfv hnf hfl
          have i1 : (i : Int) < (s.files.length : Int) := by omega
          go_region_law (refine step_append_at rfl (.tmp 48) (.tmp 49) 60 rfl 0 5 (.int .u8 0) 1 1 Tryz.underlying60 infoU8 rfl (by decide) (.slice q0 nf k0) nf (fl.map bv) rfl (own_below hown0.out (Below.refl _ _).drew) a n c (l.map bv) rfl Ha.out (by simp [Hn.out]) (Hrd.out.below (Below.refl _ _).drew) bv_one (by unfold maxLen; omega) (by omega) (by simp) ?_; intro v2 w2 hown2 hg2 hat2; obtain ⟨q2, k2, rfl, hqk, hqm, hqn2⟩ := own_shape hown2; clear hqm hqn2; have hx2 := (hg2.block m.D (lt_of_block Hdk.out) Hvne.out).trans Hdk.out; have dd3 := cell_of_row w2 m.D 3 _ _ _ hx2; rw [Hfv.out] at dd3; have hy2 := (hg2.block g hgl Hgne.out).trans Hgh.out; have gg := (cell_of_row w2 g (i * 2) _ _ _ hy2).trans hcs; have gf := frozen_of_row w2 g (i * 2) _ _ hy2; clear hx2 hy2; have hown2 := hid hown2; have hg2 := hid hg2; have hat2 := hid hat2)
          all_goals
            go_wp2
            go_ret
            have hF := append_fin m (letsS s) i (by rw [l1]; exact hil) w1 w2 g cf _ _ l hD1.out (by rw [Hfv.out, l1]) Hbi.out (by simp only [l1]; rw [← Hfl.out, List.length_append, ← Hnf.out, Hn.out]; simpa using hown2.out) hg2.out hat2.out
            refine ⟨⟨m.D, m.M, m.S, m.fv, m.cv, m.bs.set i (.slice q2 (nf + n) k2)⟩, by rw [hE.out]; rfl, by rw [hS.out]; have h0 := hF.1; rw [modify_set hil]; simp only [l1] at h0; exact h0, rfl, (HB.out.trans hM1.out).trans hF.2⟩
        · have q4 : letsE s = 10 := by unfold letsE at q3 ⊢; split at q3 <;> simp_all
          rw [if_pos q3] at hS
          rw [q4] at hE
          have Q3 := hid q4
          have hE := hid hE
          have hS := hid hS
          clear q3 q4
          go_wp2_with (go_at_call 58; refine (lets_any m s _ H1.out h1 h2).mono ?_; rintro e w1 ⟨rfl, hD1, hM1⟩; rw [Q3.out]; have hD1 := hid hD1; have hM1 := hid hM1)
          go_ret
          exact ⟨m, by rw [hE.out]; rfl, by rw [hS.out]; exact hD1.out, rfl, HB.out.trans hM1.out⟩
      · have hf : (s.room - (usedN s : Int) < (n : Int)) := by simpa using hfl.symm
        rw [if_pos hf] at hE hS
        have hE := hid hE
        have hS := hid hS
        clear hf hfl
        go_wp2
        go_ret
        exact ⟨m, by rw [hE.out]; rfl, by rw [hS.out]; exact H1.out, rfl, HB.out⟩
  · rw [if_pos q] at hE
    rw [if_pos (.inl q)] at hS
    have b1 : (knownE s k != 0) = true := by simpa using q
    have hE := hid hE
    have hS := hid hS
    have H := hid h
    clear h q
    go_enter Tryz.func34, Tryz.ntmps34
    go_wp2_with (go_at_call 46; refine (known_any m s k hk w H.out).mono ?_; rintro e w' ⟨rfl, rfl⟩)
    go_ret
    exact ⟨m, by rw [hE.out]; rfl, by rw [hS.out]; exact H.out, rfl, Mod.refl _ _⟩
end Go.Proofs.Herb
namespace Go.Proofs.Herb
open Go.RowKit
theorem fCells_sure : ∀ (bs : List Value) (fs : List DF) (i : Nat) (f : DF), bs.length = fs.length → dfCells bs (fs.set i f) = (dfCells bs fs).set (i * 2 + 1) (.int .i64 (f.sure : Int))
  | [], [], _, _, _ => by simp [dfCells]
  | b :: bs, g :: fs, 0, f, _ => by simp [dfCells]
  | b :: bs, g :: fs, i + 1, f, hl => by
    have := fCells_sure bs fs i f (by simpa using hl)
    have e : (i + 1) * 2 + 1 = (i * 2 + 1) + 1 + 1 := by omega
    rw [e]
    simp only [List.set_cons_succ, dfCells, this]
  | [], _ :: _, _, _, h => by cases h
  | _ :: _, [], _, _, h => by cases h
theorem DiskAt.fv_own {w : World} {m : DM} {s : DS} (h : DiskAt w m s) {g : Nat} (hg : m.fv.ownBlock = some g) :
    g ≠ m.D ∧ g ≠ m.M ∧ g ≠ m.S ∧ (∀ g', m.cv.ownBlock = some g' → g' ≠ g) ∧ (∀ (i : Nat) v g', m.bs[i]? = some v → v.ownBlock = some g' → g' ≠ g) := by
  obtain ⟨n1, n2, n3, hf, hc, hb⟩ := h.notD
  obtain ⟨a1, a2, a3⟩ := hf g hg
  have hnd := h.nodup
  rw [DM.fp_eq] at hnd
  simp only [List.nodup_append, List.mem_append, ne_eq] at hnd
  refine ⟨a1, a2, a3, fun g' hg' e => ?_, fun i v g' hv hg' e => ?_⟩
  · subst e; exact hnd.2.1.2.2 g' (by simp [hg]) g' (.inl (by simp [hg'])) rfl
  · subst e; exact hnd.2.1.2.2 g' (by simp [hg]) g' (.inr (List.mem_filterMap.2 ⟨v, List.mem_of_getElem? hv, hg'⟩)) rfl
theorem DiskAt.setSure {w : World} {m : DM} {s : DS} (h : DiskAt w m s) {i : Nat} (hi : i < s.files.length) {g c : Nat} (n : Nat)
    (hfv : m.fv = .slice (some ⟨g, 0, none⟩) s.files.length c) :
    DiskAt (w.setCell ⟨g, i * 2 + 1, none⟩ (.int .i64 (n : Int))) m { s with files := s.files.set i ⟨(s.files[i]).b, n⟩ } := by
  have hgo : m.fv.ownBlock = some g := by rw [hfv]; rfl
  obtain ⟨a1, a2, a3, hc, hb⟩ := h.fv_own hgo
  have hk : ∀ k, k ≠ g → (w.setCell ⟨g, i * 2 + 1, none⟩ (.int .i64 (n : Int))).heap[k]? = w.heap[k]? := fun k hk => heap_setCell_other _ _ _ _ hk
  refine ⟨(hk _ (Ne.symm a1)).trans h.disk, (hk _ (Ne.symm a2)).trans h.names, (hk _ (Ne.symm a3)).trans h.sured, ?_, by simp [h.len], ?_, own_keep h.changes (fun g' hg' => hk g' (hc g' hg')), h.nodup⟩
  · dsimp only
    rw [List.length_set, fCells_sure m.bs s.files i _ h.len, hfv]
    refine own_setCell ?_ _ _
    rw [← hfv]
    exact h.files
  · intro j u f hu hff
    dsimp only at hff
    have hbx := h.bytes j u
    by_cases hj : i = j
    · subst hj
      rw [List.getElem?_set_self hi] at hff
      cases hff
      exact own_keep (hbx s.files[i] hu (List.getElem?_eq_getElem hi)) (fun g' hg' => hk g' (hb i u g' hu hg'))
    · rw [List.getElem?_set_ne hj] at hff
      exact own_keep (hbx f hu hff) (fun g' hg' => hk g' (hb j u g' hu hg'))
theorem Mod.at_ {w : World} {m : DM} {g : Nat} (hg : g ∈ m.fp) (j : Nat) (v : Value) : Mod m.fp m.fp w (w.setCell ⟨g, j, none⟩ v) :=
  ⟨rfl, rfl, rfl, by simp, fun k _ hn => heap_setCell_other _ _ _ _ (fun e => hn (by rw [e]; exact hg)), fun _ h => .inl h⟩
def syncE (s : DS) (k : ByteArray) : Int := if knownE s k ≠ 0 then knownE s k else letsE s
def syncS (s : DS) (k : ByteArray) : DS :=
  if knownE s k ≠ 0 then s else if letsE s ≠ 0 then letsS s else { letsS s with files := s.files.modify ((look s.names k).getD 0) fun f => ⟨f.b, f.b.length⟩ }
set_option maxRecDepth 100000 in
set_option maxHeartbeats 1600000 in
theorem sync_any (m : DM) (s : DS) (k : ByteArray) (hk : k.size ≤ maxLen) (w : World) (h : DiskAt w m s) (hd : DirOk s.names s.nclock s.files.length) (h1 : -1 ≤ s.fuse) (h2 : s.fuse ≤ 9223372036854775807) :
    Calls Tryz.prog 35 #[.pointer (some ⟨m.D, 0, none⟩), .string k] w fun e w' => e = .returned (.int .i64 (syncE s k)) ∧ DiskAt w' m (syncS s k) ∧ Mod m.fp m.fp w w' := by
  have hE : syncE s k = if knownE s k ≠ 0 then knownE s k else letsE s := rfl
  have hS : syncS s k = if knownE s k ≠ 0 then s else if letsE s ≠ 0 then letsS s else { letsS s with files := s.files.modify ((look s.names k).getD 0) fun f => ⟨f.b, f.b.length⟩ } := rfl
  by_cases q : knownE s k = 0
  · obtain ⟨i, hi, hkn, hil⟩ := known_ok q hd
    simp only [q, ne_eq, not_true_eq_false, if_false] at hE hS
    have Q := hid q
    have Hkn := hid hkn
    have H := hid h
    clear q hkn h hd
    by_cases q3 : letsE s = 0
    · rw [q3, if_neg (fun h => h rfl), hi, Option.getD_some] at hS
      rw [q3] at hE
      have hE := hid hE
      have hS := hid hS
      have Q3 := hid q3
      clear q3 hi
      go_enter Tryz.func35, Tryz.ntmps35
      go_upto_region 7 with (first
        | (go_at_call 46; refine (known_any m s k hk _ H.out).mono ?_; rintro e w' ⟨rfl, rfl⟩; rw [Q.out, Hkn.out]; dsimp only)
        | (go_at_call 58; refine (lets_any m s _ H.out h1 h2).mono ?_; rintro e w1 ⟨rfl, hD1, hM1⟩; rw [Q3.out]; have hD1 := hid hD1; have hM1 := hid hM1; dsimp only))
      obtain ⟨l1, _⟩ := lets_files s
      have hil1 : i < (letsS s).files.length := by rw [l1]; exact hil
      have hfl : (letsS s).files.length = s.files.length := by rw [l1]
      have i1 : (i : Int) < (s.files.length : Int) := by omega
      have i0 : (0 : Int) ≤ (i : Int) := by omega
      refine wp_region_still_tail 14 (by kernel_rfl) (by kernel_rfl) ?_
      simp only [List.take_succ_cons, List.take_zero, List.drop_succ_cons, List.drop_zero]
      change wpStill Tryz.prog _ w1.drew (fun a' => wpList _ _ _ _ a' w1.drew) _ _
      obtain ⟨w6, hw6, hB6⟩ : ∃ w6, w1.drew = w6 ∧ Below w1.heap.size w1 w6 := ⟨_, rfl, (Below.refl _ _).drew⟩
      rw [hw6]
      have hD6 := hD1.out.below hB6
      have HM6 := hid (hM1.out.trans (Mod.of_below m.fp hB6))
      clear hw6 hB6
      obtain ⟨g, cf, q0, k0, hfv, hc1, hbi, hk1, hk2, hqn, hce, hsu, _, hfr, hgl⟩ := hD6.file hil1
      have d3 := hD6.cells.2.2.2.1
      rw [hfv] at d3
      simp only [l1] at d3 hc1 hk1 hce hbi hsu
      have f3 := hfr (i * 2 + 1)
      have HD6 := hid hD6
      have HFv := hid hfv
      obtain ⟨nb, hnb⟩ : ∃ nb, nb = (s.files[i]).b.length := ⟨_, rfl⟩
      rw [← hnb] at hk1 hce
      have HNb := hid hnb
      clear hbi hfv hD6 hnb hfr
      still_step
      still_step
      still_step
      still_step
      still_step
      still_step
      still_step
      still_step
      still_step
      still_step
      still_step
      still_step
      still_step
      still_step
      refine wpStill_nil ?_
      go_wp2
      go_ret
      have hF := HD6.out.setSure hil1 nb HFv.out
      refine ⟨by rw [hE.out]; rfl, ?_, HM6.out.trans (Mod.at_ (mem_fp_f (by rw [HFv.out]; rfl)) _ _)⟩
      rw [hS.out, modify_set hil]
      simp only [l1] at hF
      rw [HNb.out] at hF ⊢
      exact hF
    · have q4 : letsE s = 10 := by unfold letsE at q3 ⊢; split at q3 <;> simp_all
      rw [if_pos q3] at hS
      rw [q4] at hE
      have Q3 := hid q4
      have hE := hid hE
      have hS := hid hS
      clear q3 q4
      go_enter Tryz.func35, Tryz.ntmps35
      go_wp2_with (first
        | (go_at_call 46; refine (known_any m s k hk _ H.out).mono ?_; rintro e w' ⟨rfl, rfl⟩; rw [Q.out, Hkn.out])
        | (go_at_call 58; refine (lets_any m s _ H.out h1 h2).mono ?_; rintro e w1 ⟨rfl, hD1, hM1⟩; rw [Q3.out]; have hD1 := hid hD1; have hM1 := hid hM1))
      go_ret
      exact ⟨by rw [hE.out]; rfl, by rw [hS.out]; exact hD1.out, hM1.out⟩
  · rw [if_pos q] at hE
    rw [if_pos q] at hS
    have b1 : (knownE s k != 0) = true := by simpa using q
    have hE := hid hE
    have hS := hid hS
    have H := hid h
    clear h q
    go_enter Tryz.func35, Tryz.ntmps35
    go_wp2_with (go_at_call 46; refine (known_any m s k hk w H.out).mono ?_; rintro e w' ⟨rfl, rfl⟩)
    go_ret
    exact ⟨by rw [hE.out]; rfl, by rw [hS.out]; exact H.out, Mod.refl _ _⟩
end Go.Proofs.Herb
namespace Go.Proofs.Herb
/-- as Q; behind the run of the head: R -/
def headQ (R : Act → World → Prop) (Q : Exit → Act → World → Prop) : Exit → Act → World → Prop
  | .normal, a, w => R a w
  | e, a, w => Q e a w
section
variable {P : Program} {md : Region.Mode} {Q : Exit → Act → World → Prop} {R : Act → World → Prop} {ops : Array Oper}
@[go_sem] theorem headQ_normal (a : Act) (w : World) : headQ R Q .normal a w = R a w := rfl
@[go_sem] theorem headQ_exit (id : Nat) (a : Act) (w : World) : headQ R Q (.exit id) a w = Q (.exit id) a w := rfl
@[go_sem] theorem headQ_ret (a : Act) (w : World) : headQ R Q .ret a w = Q .ret a w := rfl
@[go_sem] theorem headQ_panic (ch : List PanicEntry) (a : Act) (w : World) : headQ R Q (.panic ch) a w = Q (.panic ch) a w := rfl
theorem wp_headQ {o : Oper} {a : Act} {w : World} {K : Act → World → Prop} (hh : o.wp P a w K (headQ R Q)) : o.wp P a w K Q := by
  unfold Oper.wp at *
  generalize (execOp a.eval o).run P w = r at *
  cases r with
  | ok n w' =>
    cases n <;> simp only [Oper.upon] at hh ⊢ <;>
      first
        | exact hh
        | exact Calls.mono hh (fun e w'' he => by cases e <;> exact he)
  | halt x w' => cases x <;> simp only [Oper.upon] at hh ⊢ <;> exact hh
theorem wpAny_more : ∀ (f : Nat) (listed : Array Bool) (a : Act) (w : World), wpAny P md ops Q f listed a w → wpAny P md ops Q (f + 1) listed a w
  | 0, _, _, _, h => ⟨fun _ => h.2, fun i hi => by rw [h.1] at hi; cases hi⟩
  | f + 1, _, _, _, h => ⟨h.1, fun i hi => wpOp_mono (fun a' w' h' => wpAny_more f _ a' w' h') (h.2 i hi)⟩
theorem wpAny_le {f : Nat} {listed : Array Bool} {a : Act} {w : World} (h : wpAny P md ops Q f listed a w) : ∀ g, wpAny P md ops Q (g + f) listed a w
  | 0 => by rw [Nat.zero_add]; exact h
  | g + 1 => by rw [Nat.succ_add]; exact wpAny_more _ _ _ _ (wpAny_le h g)
def tlB (md : Region.Mode) (l1 l2 : List Oper) : Bool :=
  l1.all (fun o => o.guard.isNone) && l2.all (fun o => (List.range l1.length).all fun i => o.after.any fun e => Region.binds md e && e.on == i) &&
    (List.range l1.length).all fun j => ((l1[j]?).map (fun o => o.after.all fun e => !Region.binds md e || decide (e.on < j))).getD true
theorem wpAny_split {l1 l2 : List Oper} (hB : tlB md l1 l2 = true)
    (hR : ∀ a w, R a w → wpAny P md (l1 ++ l2).toArray Q l2.length (Array.replicate l1.length true ++ Array.replicate l2.length false) a w) :
    ∀ (f : Nat) (lh : Array Bool) (a : Act) (w : World), lh.size = l1.length → wpAny P md l1.toArray (headQ R Q) f lh a w → wpAny P md (l1 ++ l2).toArray Q (f + l2.length) (lh ++ Array.replicate l2.length false) a w := by
  simp only [tlB, Bool.and_eq_true, List.all_eq_true, List.mem_range] at hB
  obtain ⟨⟨hg, hT⟩, hA⟩ := hB
  have hA' : ∀ j o, l1[j]? = some o → ∀ e ∈ o.after, Region.binds md e = true → e.on < j := by
    intro j o ho e he hb
    have h := hA j (List.getElem?_eq_some_iff.1 ho).1
    rw [ho] at h
    simp only [Option.map_some, Option.getD_some, Array.all_eq_true_iff_forall_mem] at h
    have h2 := h e he
    rw [hb] at h2
    simpa using h2
  have hall : ∀ lh : Array Bool, lh.size = l1.length → Region.ready md l1.toArray lh = [] → lh = Array.replicate l1.length true := by
    intro lh hs hr
    have key : ∀ j, j < l1.length → lh.getD j true = true := by
      intro j
      induction j using Nat.strongRecOn with
      | _ j ih =>
        intro hj
        cases hc : lh.getD j true with
        | true => rfl
        | false =>
          exfalso
          have hm : j ∈ Region.ready md l1.toArray lh := mem_ready.2 ⟨hc, l1[j], by simp [hj], fun e he hb => by
            have hlt := hA' j _ (List.getElem?_eq_getElem hj) e he hb
            have h1 := ih e.on hlt (by omega)
            have h2 : e.on < lh.size := by omega
            simpa [Array.getD, h2] using h1⟩
          rw [hr] at hm
          cases hm
    apply Array.ext
    · simpa using hs
    · intro i h1 h2
      have := key i (by omega)
      simpa [Array.getD, h1] using this
  have hend : ∀ (f : Nat) (lh : Array Bool) (a : Act) (w : World), lh.size = l1.length → Region.ready md l1.toArray lh = [] → R a w → wpAny P md (l1 ++ l2).toArray Q (f + l2.length) (lh ++ Array.replicate l2.length false) a w := by
    intro f lh a w hs hr h
    rw [hall lh hs hr]
    exact wpAny_le (hR a w h) f
  intro f
  induction f with
  | zero => intro lh a w hs h; exact hend 0 lh a w hs h.1 h.2
  | succ f ih =>
    intro lh a w hs h
    by_cases hr : Region.ready md l1.toArray lh = []
    · exact hend (f + 1) lh a w hs hr (h.1 hr)
    · obtain ⟨k, hk⟩ := List.exists_mem_of_ne_nil _ hr
      obtain ⟨hk1, ok, hok, _⟩ := mem_ready.1 hk
      have hkl : k < l1.length := by simpa using (Array.getElem?_eq_some_iff.1 hok).1
      have hks : lh[k]? = some false := by
        have h2 : k < lh.size := by omega
        simp [Array.getD, h2] at hk1
        simp [h2, hk1]
      have hmem : ∀ i, i ∈ Region.ready md (l1 ++ l2).toArray (lh ++ Array.replicate l2.length false) → i < l1.length ∧ i ∈ Region.ready md l1.toArray lh := by
        intro i hi
        obtain ⟨h1, o, ho, h3⟩ := mem_ready.1 hi
        by_cases hil : i < l1.length
        · have ho1 : l1[i]? = some o := by
            have : (l1 ++ l2)[i]? = some o := by simpa using ho
            rwa [List.getElem?_append_left hil] at this
          refine ⟨hil, mem_ready.2 ⟨?_, o, by simpa using ho1, fun e he hb => ?_⟩⟩
          · have h2 : i < lh.size := by omega
            simpa [Array.getD_eq_getD_getElem?, Array.getElem?_append_left h2] using h1
          · have hlt := hA' i o ho1 e he hb
            have h2 : e.on < lh.size := by omega
            have h4 := h3 e he hb
            simpa [Array.getD_eq_getD_getElem?, Array.getElem?_append_left h2] using h4
        · exfalso
          have ho2 : o ∈ l2 := by
            have : (l1 ++ l2)[i]? = some o := by simpa using ho
            rw [List.getElem?_append_right (by omega)] at this
            exact List.mem_of_getElem? this
          have h4 := hT o ho2 k hkl
          simp only [Array.any_eq_true', Bool.and_eq_true, beq_iff_eq] at h4
          obtain ⟨e, he, hb, hon⟩ := h4
          have h5 := h3 e he hb
          rw [hon] at h5
          have h2 : k < lh.size := by omega
          simp [Array.getD_eq_getD_getElem?, Array.getElem?_append_left h2, hks] at h5
      rw [show f + 1 + l2.length = (f + l2.length) + 1 from by omega]
      refine ⟨fun hn => ?_, fun i hi => ?_⟩
      · exfalso
        have : k ∈ Region.ready md (l1 ++ l2).toArray (lh ++ Array.replicate l2.length false) := by
          obtain ⟨_, o, ho, h3⟩ := mem_ready.1 hk
          have ho1 : l1[k]? = some o := by simpa using ho
          have h2 : k < lh.size := by omega
          refine mem_ready.2 ⟨by simp [Array.getD_eq_getD_getElem?, Array.getElem?_append_left h2, hks], o, by simp [List.getElem?_append_left hkl, ho1], fun e he hb => ?_⟩
          have hlt := hA' k o ho1 e he hb
          have h6 : e.on < lh.size := by omega
          have h4 := h3 e he hb
          simpa [Array.getD_eq_getD_getElem?, Array.getElem?_append_left h6] using h4
        rw [hn] at this
        cases this
      · obtain ⟨hil, hi2⟩ := hmem i hi
        have hw := h.2 i hi2
        have hl : (l1 ++ l2).toArray[i]? = l1.toArray[i]? := by simp [List.getElem?_append_left hil]
        have hgi : ∀ o, l1.toArray[i]? = some o → o.guard = none := fun o ho => by
          have : o ∈ l1 := List.mem_of_getElem? (by simpa using ho)
          simpa using hg o this
        have hset : (lh ++ Array.replicate l2.length false).setIfInBounds i true = lh.setIfInBounds i true ++ Array.replicate l2.length false := by
          rw [Array.setIfInBounds_append_left (by omega)]
        unfold wpOp at hw ⊢
        rw [hl]
        rw [hset]
        cases ho : l1.toArray[i]? with
        | none => rw [ho] at hw; exact ih _ _ _ (by simpa using hs) hw
        | some o =>
          rw [ho] at hw
          have hgo := hgi o ho
          simp only [Region.wanted, hgo, if_true] at hw ⊢
          rcases hw with hw | ⟨hw1, hw2⟩
          · exact .inl (Oper.wp_mono (fun a' w' h' => ih _ _ _ (by simpa using hs) h') (wp_headQ hw))
          · exact .inr ⟨hw1, hw2⟩
def splitB (l : List Oper) (n : Nat) : Bool :=
  tlB .any (l.take n) (l.drop n) && Region.seqB .any (l.take n ++ l.drop n).toArray (l.drop n).length (l.take n).length (Array.replicate (l.take n).length true ++ Array.replicate (l.drop n).length false)
theorem wp_region_split {id : Nat} {l : List Oper} {S : World → Prop} {a : Act} {w : World} (n : Nat) (hm : P.follows .mixedOrders = true) (hB : splitB l n = true) (hS : S w.drew)
    (h : S w.drew → wpAnyH P .any (l.take n).toArray (headQ (fun a w => wpList P l.toArray Q (l.drop n) a w) Q) S (l.take n).length (Array.replicate (l.take n).length false) a w.drew) :
    (Code.region id l.toArray true).wp P Q a w := by
  simp only [splitB, Bool.and_eq_true] at hB
  obtain ⟨h1, h2⟩ := hB
  have hl : l.take n ++ l.drop n = l := List.take_append_drop n l
  have h3 := wpAny_of_held _ _ _ _ (h hS)
  have h4 := wpAny_split (P := P) (Q := Q) h1 (R := fun a w => wpList P l.toArray Q (l.drop n) a w) (fun a w hw => by
    refine wpAny_of_seq (l.drop n) (l.take n).length _ a w (fun j => ?_) h2 (by rw [hl]; exact hw)
    simp only [List.getElem?_toArray]
    rw [List.getElem?_append_right (by omega)]
    congr 1
    omega) _ _ a w.drew (by simp) h3
  refine wp_region_any hm ?_
  rw [hl] at h4
  have e1 : l.toArray.size = (l.take n).length + (l.drop n).length := by rw [← List.length_append, hl]; simp
  rw [e1]
  have e2 : Array.replicate ((l.take n).length + (l.drop n).length) false = Array.replicate (l.take n).length false ++ Array.replicate (l.drop n).length false := by simp
  rw [e2]
  exact h4
theorem take_held {S : World → Prop} {l rest : List Oper} {oi : Oper} {v : Value} {fuel : Nat} {listed : Array Bool} {a : Act} {w : World} (i : Nat) (hd : l.drop i = oi :: rest)
    (hs : Region.noSelect l.toArray = true) (hf : Region.free md l.toArray listed i = true) (hr : (Region.ready md l.toArray listed).contains i = true)
    (hQ : ∀ c a w, Q (.panic c) (a.put oi.dst v) w → Q (.panic c) a w) (hy : YieldsIf P l.toArray S oi v a) (hS : S w)
    (h : wpAnyH P md l.toArray Q S fuel (listed.setIfInBounds i true) (a.put oi.dst v) w) : wpAnyH P md l.toArray Q S (fuel + 1) listed a w := by
  have hi : l.toArray[i]? = some oi := by
    have : (l.drop i)[0]? = some oi := by rw [hd]; rfl
    simpa using this
  exact wpAnyH_take hi hs hf hr hQ hy hS h
theorem cons_held {S : World → Prop} {l rest : List Oper} {o : Oper} {rs : List Nat} {fuel : Nat} {listed : Array Bool} {a : Act} {w : World} (i : Nat) (hd : l.drop i = o :: rest)
    (h : ∀ K' : Act → World → Prop, Shut (∀ a w, S w → (S w → wpAnyH P md l.toArray Q S fuel (listed.setIfInBounds i true) a w) → K' a w) → if Region.wanted o (yielded l.toArray a.tmps) = true then Oper.wp P o a w K' Q else K' (a.put o.dst undef) w)
    (hs : AllReadyH P md l.toArray Q S fuel listed a w rs) : AllReadyH P md l.toArray Q S fuel listed a w (i :: rs) := by
  have hi : l.toArray[i]? = some o := by
    have : (l.drop i)[0]? = some o := by rw [hd]; rfl
    simpa using this
  exact AllReadyH.cons hi h hs
end
end Go.Proofs.Herb
namespace Go.Proofs.Herb
open Go.RowKit
/-! what a crash leaves -/
def dirAt (s : DS) : Nat → Dir × Nat
  | 0 => (s.sured, s.sclock)
  | j + 1 => match s.changes[j]? with
    | some x => (turnDir (dirAt s j).1 (dirAt s j).2 x, turnClk (dirAt s j).1 (dirAt s j).2 x)
    | none => dirAt s j
theorem cCells_at : ∀ (l : List DC) (j : Nat) (x : DC), l[j]? = some x → (cCells l)[j * 3]? = some (.string x.name) ∧ (cCells l)[j * 3 + 1]? = some (.int .i64 x.file) ∧ (cCells l)[j * 3 + 2]? = some (.string x.gone)
  | [], _, _, h => by simp at h
  | y :: l, 0, x, h => by
    simp only [List.getElem?_cons_zero, Option.some.injEq] at h
    subst h
    exact ⟨rfl, rfl, rfl⟩
  | y :: l, j + 1, x, h => by
    have h2 := cCells_at l j x (by simpa using h)
    have e : cCells (y :: l) = .string y.name :: .int .i64 y.file :: .string y.gone :: cCells l := rfl
    rw [e, show (j + 1) * 3 = j * 3 + 1 + 1 + 1 from by omega]
    simpa using h2
theorem DiskAt.change {w : World} {m : DM} {s : DS} (h : DiskAt w m s) {j : Nat} {x : DC} (hj : s.changes[j]? = some x) :
    ∃ g c, m.cv = .slice (some ⟨g, 0, none⟩) s.changes.length c ∧ w.cell? ⟨g, j * 3, none⟩ = some (.string x.name) ∧ w.cell? ⟨g, j * 3 + 1, none⟩ = some (.int .i64 x.file) ∧ w.cell? ⟨g, j * 3 + 2, none⟩ = some (.string x.gone) := by
  obtain ⟨hl, hx⟩ := h.changes
  rcases hx with ⟨_, h0⟩ | ⟨g, cap, cur, hv, _, hg, hnc, hcm, hcs, ht⟩
  · have := (List.getElem?_eq_some_iff.1 hj).1; omega
  · have hc : ∀ j v, (cCells s.changes)[j]? = some v → w.cell? ⟨g, j, none⟩ = some v := by
      intro j v hj
      rw [cell_of_row w g j _ _ _ hg]
      rw [← ht] at hj
      rw [List.getElem?_take] at hj
      split at hj
      · simpa using hj
      · cases hj
    obtain ⟨a1, a2, a3⟩ := cCells_at _ _ _ hj
    exact ⟨g, cap, hv, hc _ _ a1, hc _ _ a2, hc _ _ a3⟩
end Go.Proofs.Herb
