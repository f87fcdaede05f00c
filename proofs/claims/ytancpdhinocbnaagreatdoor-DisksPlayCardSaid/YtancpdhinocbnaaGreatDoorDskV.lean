/- The contract of the disk's Used. For a disk as DiskAt says. -/
import Derived.Test.YtancpdhinocbnaaGreatDoorDskU
import Derived.Maps.RangeRun
namespace Go.Proofs.Herb
open Go.RowKit
open Go.ChangeMaps (setBlock)
theorem fCells_at : ∀ (bs : List Value) (fs : List DF) (i : Nat), bs.length = fs.length → (fCells bs fs)[2 * i]? = bs[i]? ∧ (fCells bs fs)[2 * i + 1]? = fs[i]?.map (fun f => .int .i64 (f.sure : Int))
  | [], [], _, _ => by simp [fCells]
  | b :: bs, g :: fs, 0, _ => by simp [fCells]
  | b :: bs, g :: fs, i + 1, h => by
    have := fCells_at bs fs i (by simpa using h)
    simpa [fCells, Nat.mul_add, Nat.add_right_comm] using this
  | [], _ :: _, _, h => by cases h
  | _ :: _, [], _, h => by cases h
/-- a file's cells -/
theorem DiskAt.file {w : World} {m : DM} {s : DS} (h : DiskAt w m s) {i : Nat} (hi : i < s.files.length) :
    ∃ g c q k, m.fv = .slice (some ⟨g, 0, none⟩) s.files.length c ∧ s.files.length ≤ c ∧ m.bs[i]? = some (.slice q (s.files[i]).b.length k) ∧ (s.files[i]).b.length ≤ k ∧ k ≤ maxLen ∧ (q = none → k = 0) ∧ w.cell? ⟨g, i * 2, none⟩ = some (.slice q (s.files[i]).b.length k) ∧ w.cell? ⟨g, i * 2 + 1, none⟩ = some (.int .i64 ((s.files[i]).sure : Int)) ∧
      Rd w q ((s.files[i]).b.map bv) ∧ (∀ j, w.frozen? ⟨g, j, none⟩ = false) ∧ g < w.heap.size := by
  have hb : i < m.bs.length := by rw [h.len]; exact hi
  have hof := h.bytes i m.bs[i] s.files[i] (List.getElem?_eq_getElem hb) (List.getElem?_eq_getElem hi)
  obtain ⟨q, k, e1, e2, e3, e4⟩ := own_shape hof
  have hrd : Rd w q ((s.files[i]).b.map bv) := by
    have hh := hof
    rw [e1] at hh
    exact (Fr.of_own hh).rd
  obtain ⟨hl, hx⟩ := h.files
  rcases hx with ⟨_, h0⟩ | ⟨g, cap, cur, hv, _, hg, hnc, hcm, hcs, ht⟩
  · omega
  · have hc : ∀ j v, (fCells m.bs s.files)[j]? = some v → w.cell? ⟨g, j, none⟩ = some v := by
      intro j v hj
      rw [cell_of_row w g j _ _ _ hg]
      rw [← ht] at hj
      rw [List.getElem?_take] at hj
      split at hj
      · simpa using hj
      · cases hj
    have hf := fCells_at m.bs s.files i h.len
    refine ⟨g, cap, q, k, hv, hnc, by rw [List.getElem?_eq_getElem hb, e1], e2, e3, e4, hc _ _ ?_, hc _ _ ?_, hrd, fun j => frozen_of_row w g j _ _ hg, lt_of_block hg⟩
    · rw [Nat.mul_comm, hf.1, List.getElem?_eq_getElem hb, e1]
    · rw [Nat.mul_comm, hf.2, List.getElem?_eq_getElem hi]; rfl
/-! how many bytes there are -/
def lenAt (s : DS) (i : Nat) : Nat := (s.files[i]?.map (·.b.length)).getD 0
def usedN (s : DS) : Nat := (s.names.map fun e => lenAt s e.2.1).sum
structure DirOk (d : Dir) (c n : Nat) : Prop where
  born : ∀ e ∈ d, e.2.2 < c
  once : (d.map (·.2.2)).Nodup
  at_ : ∀ e ∈ d, e.2.1 < n
def lenE (s : DS) : Array MapEntry := (s.names.map fun e => ({ key := .string e.1, val := .int .i64 (lenAt s e.2.1 : Int), born := e.2.2 } : MapEntry)).toArray
theorem lenE_sum (s : DS) : ((lenE s).toList.map fun e => valOf e.val).sum = (usedN s : Int) := by
  unfold lenE usedN
  generalize s.names = l
  induction l with
  | nil => rfl
  | cons e l ih => simp only [List.map_cons, List.sum_cons, Int.natCast_add, ← ih, valOf]
theorem seenSum_range (seen : Array Nat) : ∀ (l : List MapEntry), (∀ e ∈ l, 0 ≤ valOf e.val) → 0 ≤ seenSum l seen ∧ seenSum l seen ≤ (l.map fun e => valOf e.val).sum
  | [], _ => ⟨Int.le_refl _, Int.le_refl _⟩
  | e :: l, h => by
    have h1 := seenSum_range seen l (fun e he => h e (List.mem_cons_of_mem _ he))
    have h2 := h e (by simp)
    simp only [seenSum, List.map_cons, List.sum_cons]
    split <;> omega
theorem left_lenE (s : DS) (seen : Array Nat) : (leftOf (lenE s) seen).size = (leftOf (encDir s.names) seen).size := by
  have e1 : ∀ (es : Array MapEntry) (p : MapEntry → Bool), (es.filter p).size = (es.toList.filter p).length := fun es p => by rw [← Array.toList_filter, Array.length_toList]
  unfold leftOf lenE encDir
  rw [e1, e1]
  simp only [List.filter_map, List.length_map]
  congr 1
theorem enc_mem {d : Dir} {e : MapEntry} (h : e ∈ (encDir d).toList) : ∃ x ∈ d, e = encE x := by
  simp only [encDir, List.toList_toArray, List.mem_map] at h
  obtain ⟨x, hx, rfl⟩ := h
  exact ⟨x, hx, rfl⟩
theorem enc_born (d : Dir) : (encDir d).toList.map (·.born) = d.map (·.2.2) := by simp [encDir, encE, Function.comp_def]
theorem lenE_born (s : DS) : (lenE s).toList.map (·.born) = s.names.map (·.2.2) := by simp [lenE, Function.comp_def]
theorem below_block {B r : Nat} {w w' : World} (h : Below B w w') (hr : B ≤ r) (o : Obj) : Below B w (setBlock w' r o) :=
  ⟨h.os, h.tape, h.output, by have := h.size; simp only [setBlock, Array.size_setIfInBounds]; exact this, fun k hk => by
    rw [← h.block k hk]; simp only [setBlock]; rw [Array.getElem?_setIfInBounds_ne (by omega)]⟩
theorem block_at {w : World} {r : Nat} (h : r < w.heap.size) (o : Obj) : (setBlock w r o).heap[r]? = some o := by simp [setBlock, h]
theorem iterSeen_at {w : World} {r : Nat} {a : Option Nat} {b c : Nat} {sn : Array Nat} (h : w.heap[r]? = some (.mapIter a b sn c)) : w.iterSeen r = sn := by
  unfold World.iterSeen
  rw [h]
set_option maxRecDepth 100000 in
set_option maxHeartbeats 800000 in
theorem used_any (m : DM) (s : DS) (w : World) (h : DiskAt w m s) (hd : DirOk s.names s.nclock s.files.length) (hu : usedN s ≤ 4611686018427387904) :
    Calls Tryz.prog 21 #[.pointer (some ⟨m.D, 0, none⟩)] w fun e w' => e = .returned (.int .i64 (usedN s : Int)) ∧ Below w.heap.size w w' := by
  obtain ⟨_, _, _, c3, c4, _, _⟩ := h.cells
  have hMl := lt_of_block h.names
  have hrg := run_range_map (P := Tryz.prog) w 47 9 3 m.M (encDir s.names) s.nclock Tryz.underlying47 h.names
  have H := hid h
  have HD := hid hd
  clear h hd
  go_enter Tryz.func21, Tryz.ntmps21
  go_wp2_with (go_at_call 27; refine (there_any m s w H.out).mono ?_; rintro e w1 ⟨rfl, rfl⟩)
  go_loopw [2] (fun s2 wr => ∃ (seen : Array Nat), Below w.heap.size w wr ∧ wr.heap[w.heap.size]? = some (.mapIter (some m.M) s.nclock seen s.nclock) ∧ s2 = .int .i64 (seenSum (lenE s).toList seen)) (fun _ wr => (leftOf (encDir s.names) (wr.iterSeen w.heap.size)).size)
  case atStart => exact ⟨#[], (Below.refl _ _).alloc (Nat.le_refl _) _, heap_alloc_new _ _, by rw [seenSum_none]⟩
  case round =>
    obtain ⟨seen, hB, hr, rfl⟩ := hrel
    have law := run_next_at (P := Tryz.prog) wr 0 w.heap.size m.M s.nclock s.nclock seen (encDir s.names) s.nclock hr ((hB.block _ hMl).trans H.out.names) (fun x hx => by obtain ⟨y, hy, rfl⟩ := enc_mem hx; exact HD.out.born y hy) (Nat.le_refl _)
    rcases law with ⟨h0, hrun⟩ | ⟨e, he, w1, hw1, hrun⟩
    · have hnx : ∀ ty, (Instr.next (.pointer (some ⟨w.heap.size, 0, none⟩)) false ty).run Tryz.prog wr = _ := fun _ => hrun
      have HB := hid hB
      have H0 := hid h0
      clear hB h0 hr
      go_wp2
      go_ret
      refine ⟨?_, HB.out⟩
      have h1 : (leftOf (lenE s) seen).size = 0 := by rw [left_lenE]; exact H0.out
      show Ending.returned (.int .i64 (seenSum (lenE s).toList seen)) = _
      rw [seenSum_all _ _ h1, lenE_sum]
    · obtain ⟨y, hy, rfl⟩ := enc_mem (mem_left he).1
      have hya := HD.out.at_ y hy
      have hrl := lt_of_block hr
      have hB1 : Below w.heap.size w w1 := by rcases hw1 with rfl | rfl; exact hB; exact hB.drew
      have hr1 : w.heap.size < w1.heap.size := by rcases hw1 with rfl | rfl <;> exact hrl
      obtain ⟨w2, hw2⟩ : ∃ w2, w2 = setBlock w1 w.heap.size (.mapIter (some m.M) s.nclock (seen.push (encE y).born) s.nclock) := ⟨_, rfl⟩
      rw [← hw2] at hrun
      have hr2 : w2.heap[w.heap.size]? = some (.mapIter (some m.M) s.nclock (seen.push (encE y).born) s.nclock) := by rw [hw2]; exact block_at hr1 _
      have hB2 : Below w.heap.size w w2 := by rw [hw2]; exact below_block hB1 (Nat.le_refl _) _
      have hen := run_entry_at (P := Tryz.prog) w2 w.heap.size m.M s.nclock seen (encDir s.names) s.nclock (encE y) hr2 ((hB2.block _ hMl).trans H.out.names) (mem_left he).1 (by rw [enc_born]; exact HD.out.once)
      have hnx : ∀ ty, (Instr.next (.pointer (some ⟨w.heap.size, 0, none⟩)) false ty).run Tryz.prog wr = _ := fun _ => hrun
      simp only [encE] at hnx hen
      have hdk := H.out.below hB2
      obtain ⟨g, c, q, k, hfv, hc1, hbi, hk1, hk2, hqn, hce, _, hrd, _, hgl⟩ := hdk.file hya
      have c3' := hdk.cells.2.2.2.1
      rw [hfv] at c3'
      have hsum := seenSum_range (seen.push (encE y).born) (lenE s).toList (fun e he => by
        simp only [lenE, List.toList_toArray, List.mem_map] at he
        obtain ⟨x, _, rfl⟩ := he
        exact Int.natCast_nonneg _)
      have hpush := seenSum_push seen { key := .string y.1, val := .int .i64 (lenAt s y.2.1 : Int), born := y.2.2 } (mem_left he).2 (lenE s).toList (by rw [lenE_born]; exact HD.out.once) (by simp only [lenE, List.toList_toArray, List.mem_map]; exact ⟨y, hy, rfl⟩)
      rw [lenE_sum] at hsum
      have hla : lenAt s y.2.1 = (s.files[y.2.1]).b.length := by unfold lenAt; rw [List.getElem?_eq_getElem hya]; rfl
      have hsm0 := seenSum_range seen (lenE s).toList (fun e he => by
        simp only [lenE, List.toList_toArray, List.mem_map] at he
        obtain ⟨x, _, rfl⟩ := he
        exact Int.natCast_nonneg _)
      rw [lenE_sum] at hsm0
      simp only [valOf] at hpush
      change seenSum (lenE s).toList (seen.push y.2.2) = _ at hpush
      change _ ∧ seenSum (lenE s).toList (seen.push y.2.2) ≤ _ at hsum
      rw [hla] at hpush
      rw [hpush] at hsum
      have Hpush := hid hpush
      have HB2 := hid hB2
      have Hr2 := hid hr2
      have Hr := hid hr
      have He := hid he
      clear hpush hB2 hr2 hr he hw2 hw1 hB1 hB hdk hrd hbi
      obtain ⟨S, hS⟩ : ∃ S, S = seenSum (lenE s).toList seen := ⟨_, rfl⟩
      rw [← hS] at hsum hsm0
      rw [← hS] at Hpush
      rw [← hS]
      go_wp2
      go_roundw
      case rel => exact ⟨_, HB2.out, Hr2.out, by show _ = Value.int .i64 (seenSum (lenE s).toList (seen.push y.2.2)); rw [Hpush.out, hS]⟩
      case measure =>
        have e1 := iterSeen_at Hr2.out
        have e2 := iterSeen_at Hr.out
        rw [e1, e2]
        exact left_shrinks _ seen _ He.out
end Go.Proofs.Herb
