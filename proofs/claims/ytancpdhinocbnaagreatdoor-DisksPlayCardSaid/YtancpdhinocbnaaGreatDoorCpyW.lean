/- The contract of the disk's Copy. For a disk as DiskAt says. -/
import Derived.Test.YtancpdhinocbnaaGreatDoorDskY
import Derived.Deep.RegionHeld3
namespace Go.Proofs.Herb
open Go.RowKit
set_option maxRecDepth 100000 in
set_option maxHeartbeats 400000 in
theorem clone_files (a : Option Addr) (n c : Nat) (xs : List Value) (w : World) (hl : xs.length = n * 2) (hc : n ≤ c) (hm : n ≤ 1000000000) (hr : Rd w a xs) (h1 : ∀ u ∈ xs, u.oneCell' = true) (ha : a = none → c = 0) :
    Calls Tryz.prog 28 #[.slice a n c] w fun e w' => ∃ v, e = .returned v ∧ w'.ownsRow w.heap.size 68 2 v n xs ∧ Below w.heap.size w w' := by
  have heq := fun (w : World) (a : Option Addr) (n c : Nat) => Lib.run_eql_slice_nil (P := Tryz.prog) w 48 68 a n c 0 0 Tryz.underlying48
  cases a with
  | none =>
    have Hr := hid hr
    have H1 := hid h1
    have Hl := hid hl
    obtain rfl := ha rfl
    obtain rfl : n = 0 := by omega
    clear hr h1 hl
    go_enter Tryz.func28, Tryz.ntmps28
    go_wp2
    go_ret
    exact ⟨_, rfl, ⟨by simpa using Hl.out, .inl ⟨rfl, rfl⟩⟩, Below.refl _ _⟩
  | some ad =>
    have Hr := hid hr
    have Hl := hid hl
    have H1 := hid h1
    clear hr hl ha h1
    go_enter Tryz.func28, Tryz.ntmps28
    go_wp2_with (refine wpList_append_rd rfl (.tmp 5) (.tmp 6) 48 rfl w.heap.size 68 _ 2 32 Tryz.underlying48 info111 rfl (by decide) (.slice (some ⟨w.heap.size, 0, none⟩) 0 0) 0 [] rfl (World.ownsRow_made w #[] 0 (Nat.le_refl _) (by decide) rfl) _ n c xs rfl (fun h => by cases h) Hl.out (Hr.out.alloc _) H1.out (by unfold maxLen; omega) (by omega) (by simp) ?_; intro v' w1 hown hg hnil)
    go_ret
    refine ⟨_, rfl, by simpa using hown, ?_⟩
    exact ((Below.refl _ _).alloc (Nat.le_refl _) _).grown hg (by simp) (by simp [Value.ownBlock])
set_option maxRecDepth 100000 in
set_option maxHeartbeats 400000 in
theorem clone_changes (a : Option Addr) (n c : Nat) (xs : List Value) (w : World) (hl : xs.length = n * 3) (hc : n ≤ c) (hm : n ≤ 1000000000) (hr : Rd w a xs) (h1 : ∀ u ∈ xs, u.oneCell' = true) (ha : a = none → c = 0) :
    Calls Tryz.prog 31 #[.slice a n c] w fun e w' => ∃ v, e = .returned v ∧ w'.ownsRow w.heap.size 73 3 v n xs ∧ Below w.heap.size w w' := by
  have heq := fun (w : World) (a : Option Addr) (n c : Nat) => Lib.run_eql_slice_nil (P := Tryz.prog) w 49 73 a n c 0 0 Tryz.underlying49
  cases a with
  | none =>
    have Hr := hid hr
    have H1 := hid h1
    have Hl := hid hl
    obtain rfl := ha rfl
    obtain rfl : n = 0 := by omega
    clear hr h1 hl
    go_enter Tryz.func31, Tryz.ntmps31
    go_wp2
    go_ret
    exact ⟨_, rfl, ⟨by simpa using Hl.out, .inl ⟨rfl, rfl⟩⟩, Below.refl _ _⟩
  | some ad =>
    have Hr := hid hr
    have Hl := hid hl
    have H1 := hid h1
    clear hr hl ha h1
    go_enter Tryz.func31, Tryz.ntmps31
    go_wp2_with (refine wpList_append_rd rfl (.tmp 5) (.tmp 6) 49 rfl w.heap.size 73 _ 3 40 Tryz.underlying49 info114 rfl (by decide) (.slice (some ⟨w.heap.size, 0, none⟩) 0 0) 0 [] rfl (World.ownsRow_made w #[] 0 (Nat.le_refl _) (by decide) rfl) _ n c xs rfl (fun h => by cases h) Hl.out (Hr.out.alloc _) H1.out (by unfold maxLen; omega) (by omega) (by simp) ?_; intro v' w1 hown hg hnil)
    go_ret
    refine ⟨_, rfl, by simpa using hown, ?_⟩
    exact ((Below.refl _ _).alloc (Nat.le_refl _) _).grown hg (by simp) (by simp [Value.ownBlock])
theorem fCells_one : ∀ (bs : List Value) (fs : List DF), (∀ (i : Nat) v, bs[i]? = some v → v.oneCell' = true) → ∀ u ∈ fCells bs fs, u.oneCell' = true
  | [], _, _, u, hu => by simp [fCells] at hu
  | b :: bs, [], _, u, hu => by simp [fCells] at hu
  | b :: bs, f :: fs, h, u, hu => by
    simp only [fCells, List.mem_cons] at hu
    rcases hu with rfl | rfl | hu
    · exact h 0 _ rfl
    · rfl
    · exact fCells_one bs fs (fun i v hv => h (i + 1) v (by simpa using hv)) u hu
theorem cCells_one (l : List DC) : ∀ u ∈ cCells l, u.oneCell' = true := by
  intro u hu
  unfold cCells at hu
  rw [List.mem_flatMap] at hu
  obtain ⟨c, _, hc⟩ := hu
  simp only [List.mem_cons, List.not_mem_nil, or_false] at hc
  rcases hc with rfl | rfl | rfl <;> rfl
theorem DiskAt.bsOne {w : World} {m : DM} {s : DS} (h : DiskAt w m s) : ∀ (i : Nat) v, m.bs[i]? = some v → v.oneCell' = true := by
  intro i v hv
  have hi : i < s.files.length := by rw [← h.len]; exact (List.getElem?_eq_some_iff.1 hv).1
  obtain ⟨q, c, rfl, _⟩ := own_shape (h.bytes i v _ hv (List.getElem?_eq_getElem hi))
  rfl
theorem DiskAt.fvRd {w : World} {m : DM} {s : DS} (h : DiskAt w m s) : ∃ q c, m.fv = .slice q s.files.length c ∧ s.files.length ≤ c ∧ (q = none → c = 0) ∧ Rd w q (fCells m.bs s.files) ∧ (fCells m.bs s.files).length = s.files.length * 2 := by
  obtain ⟨q, c, e, h1, _, h3⟩ := own_shape h.files
  have hf := h.files
  rw [e] at hf
  exact ⟨q, c, e, h1, h3, (Fr.of_own hf).rd, hf.1⟩
theorem DiskAt.cvRd {w : World} {m : DM} {s : DS} (h : DiskAt w m s) : ∃ q c, m.cv = .slice q s.changes.length c ∧ s.changes.length ≤ c ∧ (q = none → c = 0) ∧ Rd w q (cCells s.changes) ∧ (cCells s.changes).length = s.changes.length * 3 := by
  obtain ⟨q, c, e, h1, _, h3⟩ := own_shape h.changes
  have hf := h.changes
  rw [e] at hf
  exact ⟨q, c, e, h1, h3, (Fr.of_own hf).rd, hf.1⟩
/-- a copy under way: so many files' bytes are new -/
structure CopySt (w wr : World) (m : DM) (s : DS) (fv2 : Value) (B2 j : Nat) (bl : List Value) : Prop where
  below : Below w.heap.size w wr
  out : wr.heap[w.heap.size]? = some (.cells #[.int .i64 s.room, .int .i64 s.fuse, .bool s.dead, fv2, .map (some m.M), .map (some m.S), m.cv] 51 (0, 0))
  rows : wr.ownsRow (w.heap.size + 1) 68 2 fv2 s.files.length (fCells (bl ++ m.bs.drop j) s.files)
  low : ∀ g, fv2.ownBlock = some g → g < B2
  b2 : w.heap.size + 1 ≤ B2
  len : bl.length = j
  bytes : ∀ (i : Nat) v f, bl[i]? = some v → s.files[i]? = some f → wr.ownsRow B2 5 1 v f.b.length (f.b.map bv)
  nd : (bl.filterMap Value.ownBlock).Nodup
  size : B2 ≤ wr.heap.size
theorem CopySt.step {w wr w3 : World} {m : DM} {s : DS} {fv2 v : Value} {B2 j : Nat} {bl : List Value} (C : CopySt w wr m s fv2 B2 j bl) (hj : j < s.files.length) (hB : Below wr.heap.size wr w3)
    (hv : w3.ownsRow wr.heap.size 5 1 v (s.files[j]).b.length ((s.files[j]).b.map bv)) {g2 c2 : Nat} (hfv : fv2 = .slice (some ⟨g2, 0, none⟩) s.files.length c2) (hml : m.bs.length = s.files.length) :
    CopySt w (w3.setCell ⟨g2, j * 2, none⟩ v) m s fv2 B2 (j + 1) (bl ++ [v]) := by
  have hgo : fv2.ownBlock = some g2 := by rw [hfv]; rfl
  have hg1 : w.heap.size + 1 ≤ g2 := (C.rows.lt g2 hgo).1
  have hg2 := C.low g2 hgo
  have hsz := C.size
  have hz3 := hB.size
  have hvl := hv.lt
  have ho : w3.heap[w.heap.size]? = _ := (hB.block _ (lt_of_block C.out)).trans C.out
  refine ⟨((C.below.trans (hB.mono C.below.size)).setCell (show w.heap.size ≤ g2 by omega) _), (heap_setCell_other _ _ _ _ (show w.heap.size ≠ g2 by omega)).trans ho, ?_, C.low, C.b2, by simp [C.len], ?_, ?_, by simp; omega⟩
  · have h1 := own_below C.rows hB
    have hlen : (fCells (bl ++ m.bs.drop j) s.files).length = s.files.length * 2 := h1.1
    rw [hfv] at h1 ⊢
    have h2 := own_setCell h1 (j * 2) v
    have hjb : j < m.bs.length := by rw [hml]; exact hj
    have e1 : fCells (bl ++ [v] ++ m.bs.drop (j + 1)) s.files = (fCells (bl ++ m.bs.drop j) s.files).set (j * 2) v := by
      have hs := fCells_set (bl ++ m.bs.drop j) s.files j v s.files[j] (by rw [List.length_append, List.length_drop, C.len, hml]; omega) (fun f0 h0 => by rw [List.getElem?_eq_getElem hj] at h0; cases h0; rfl)
      rw [← hs, List.set_getElem_self]
      congr 1
      rw [List.drop_eq_getElem_cons hjb, List.set_append_right _ _ (by rw [C.len]; exact Nat.le_refl _), C.len, Nat.sub_self, List.set_cons_zero]
      simp
    rw [e1]
    exact h2
  · intro i u f hu hf
    by_cases hi : i < j
    · rw [List.getElem?_append_left (by rw [C.len]; exact hi)] at hu
      have h1 := C.bytes i u f hu hf
      refine own_keep (own_below h1 hB) fun g hg => heap_setCell_other _ _ _ _ ?_
      have := (h1.lt g hg).1
      show g ≠ g2
      omega
    · have hij : i = j := by
        have := (List.getElem?_eq_some_iff.1 hu).1
        rw [List.length_append, C.len, List.length_singleton] at this; omega
      subst hij
      rw [List.getElem?_append_right (by rw [C.len]; exact Nat.le_refl _), C.len, Nat.sub_self] at hu
      simp only [List.getElem?_cons_zero, Option.some.injEq] at hu
      subst hu
      rw [List.getElem?_eq_getElem hj] at hf
      cases hf
      refine own_keep (own_mono hv hsz) fun g hg => heap_setCell_other _ _ _ _ ?_
      have := (hvl g hg).1
      show g ≠ g2
      omega
  · rw [List.filterMap_append]
    refine List.nodup_append.2 ⟨C.nd, ?_, ?_⟩
    · cases hvo : v.ownBlock <;> simp [hvo]
    · intro a ha b hb e
      subst e
      obtain ⟨u, hu, hua⟩ := List.mem_filterMap.1 ha
      obtain ⟨i, hi⟩ := List.mem_iff_getElem?.1 hu
      have hil : i < s.files.length := by have := (List.getElem?_eq_some_iff.1 hi).1; rw [C.len] at this; omega
      have h1 := own_lt (C.bytes i u _ hi (List.getElem?_eq_getElem hil)) hua
      obtain ⟨u2, hu2, hub⟩ := List.mem_filterMap.1 hb
      simp only [List.mem_singleton] at hu2
      subst hu2
      have := (hvl a hub).1
      omega
theorem copy_fin {w wr wf : World} {m : DM} {s : DS} {fv2 cv2 : Value} {B2 B3 M' S' : Nat} {bl : List Value} (C : CopySt w wr m s fv2 B2 s.files.length bl) (hml : m.bs.length = s.files.length)
    (hD : wf.heap[w.heap.size]? = some (.cells #[.int .i64 s.room, .int .i64 s.fuse, .bool s.dead, fv2, .map (some M'), .map (some S'), cv2] 51 (0, 0)))
    (hk : ∀ k, k < wr.heap.size → k ≠ w.heap.size → wf.heap[k]? = wr.heap[k]?) (hM : wf.heap[M']? = some (.map (encDir s.names) s.nclock)) (hS : wf.heap[S']? = some (.map (encDir s.sured) s.sclock))
    (hcv : wf.ownsRow B3 73 3 cv2 s.changes.length (cCells s.changes)) (h1 : wr.heap.size ≤ M') (h2 : M' < S') (h3 : S' < B3) :
    DiskAt wf ⟨w.heap.size, M', S', fv2, cv2, bl⟩ s ∧ ∀ k, k ∈ (⟨w.heap.size, M', S', fv2, cv2, bl⟩ : DM).fp → w.heap.size ≤ k := by
  have hO := lt_of_block C.out
  have hfl := C.rows.lt
  have hcl := hcv.lt
  have hbl : ∀ g, g ∈ bl.filterMap Value.ownBlock → B2 ≤ g ∧ g < wr.heap.size := by
    intro g hg
    obtain ⟨u, hu, hug⟩ := List.mem_filterMap.1 hg
    obtain ⟨i, hi⟩ := List.mem_iff_getElem?.1 hu
    have hil : i < s.files.length := by have := (List.getElem?_eq_some_iff.1 hi).1; rw [C.len] at this; exact this
    exact (C.bytes i u _ hi (List.getElem?_eq_getElem hil)).lt g hug
  have hrow : fCells (bl ++ m.bs.drop s.files.length) s.files = fCells bl s.files := by rw [← hml, List.drop_length, List.append_nil]
  have hb2 := C.b2
  refine ⟨⟨hD, hM, hS, ?_, C.len, ?_, own_base hcv, ?_⟩, ?_⟩
  · have hr := C.rows
    rw [hrow] at hr
    refine own_base (own_keep hr fun g hg => hk g (hfl g hg).2 ?_)
    have := (hfl g hg).1; omega
  · intro i u f hu hf
    refine own_base (own_keep (C.bytes i u f hu hf) fun g hg => ?_)
    have := hbl g (List.mem_filterMap.2 ⟨u, List.mem_of_getElem? hu, hg⟩)
    exact hk g this.2 (by omega)
  · simp only [DM.fp, List.nodup_cons, List.mem_cons, List.mem_append, Option.mem_toList, not_or]
    have hf' : ∀ g, fv2.ownBlock = some g → w.heap.size + 1 ≤ g ∧ g < B2 := fun g hg => ⟨(hfl g hg).1, C.low g hg⟩
    have hc' : ∀ g, cv2.ownBlock = some g → B3 ≤ g := fun g hg => (hcl g hg).1
    refine ⟨⟨by omega, by omega, fun h => ?_, fun h => ?_, fun h => ?_⟩, ⟨by omega, fun h => ?_, fun h => ?_, fun h => ?_⟩, ⟨fun h => ?_, fun h => ?_, fun h => ?_⟩, ?_⟩
    · have := hf' _ h; omega
    · have := hc' _ h; omega
    · have := hbl _ h; omega
    · have := hf' _ h; have := C.size; omega
    · have := hc' _ h; omega
    · have := hbl _ h; omega
    · have := hf' _ h; have := C.size; omega
    · have := hc' _ h; omega
    · have := hbl _ h; omega
    · refine List.nodup_append.2 ⟨by cases fv2.ownBlock <;> simp, List.nodup_append.2 ⟨by cases cv2.ownBlock <;> simp, C.nd, ?_⟩, ?_⟩
      · intro a ha b hb e
        subst e
        have := hc' a (by simpa using ha)
        have := hbl a hb
        omega
      · intro a ha b hb e
        subst e
        have h5 := hf' a (by simpa using ha)
        rcases List.mem_append.1 hb with hb | hb
        · have := hc' a (by simpa using hb)
          have := C.size
          omega
        · have := hbl a hb; omega
  · intro k hk'
    simp only [DM.fp, List.mem_cons, List.mem_append, Option.mem_toList] at hk'
    rcases hk' with rfl | rfl | rfl | h | h | h
    · exact Nat.le_refl _
    · omega
    · omega
    · have := (hfl k h).1; omega
    · have := (hcl k h).1; omega
    · have := hbl k h; omega
theorem cell_setCell_else (w : World) {g i b k : Nat} (v : Value) (h : b ≠ g) : (w.setCell ⟨g, i, none⟩ v).cell? ⟨b, k, none⟩ = w.cell? ⟨b, k, none⟩ := by
  simp only [World.cell?, heap_setCell_other _ _ _ _ (show b ≠ (⟨g, i, none⟩ : Addr).block from h)]
theorem copy_start {w w2 : World} {m : DM} {s : DS} {fv0 v2 : Value} (hB : Below (w.heap.size + 1) (w.alloc (.cells #[.int .i64 s.room, .int .i64 s.fuse, .bool s.dead, fv0, .map (some m.M), .map (some m.S), m.cv] 51)) w2)
    (hv : w2.ownsRow (w.heap.size + 1) 68 2 v2 s.files.length (fCells m.bs s.files)) : CopySt w (w2.setCell ⟨w.heap.size, 3, none⟩ v2) m s v2 w2.heap.size 0 [] := by
  have hsz : w.heap.size + 1 ≤ w2.heap.size := by
    have h1 := hB.size
    rw [show (w.alloc (.cells #[.int .i64 s.room, .int .i64 s.fuse, .bool s.dead, fv0, .map (some m.M), .map (some m.S), m.cv] 51)).heap = w.heap.push _ from rfl, Array.size_push] at h1
    exact h1
  have ho : w2.heap[w.heap.size]? = some (.cells #[.int .i64 s.room, .int .i64 s.fuse, .bool s.dead, fv0, .map (some m.M), .map (some m.S), m.cv] 51 (0, 0)) := by
    rw [hB.block _ (Nat.lt_succ_self _)]; exact Array.getElem?_push_size
  refine ⟨?_, ?_, ?_, fun g hg => (hv.lt g hg).2, hsz, rfl, (fun i v f h => by cases h), by simp, by simp⟩
  · exact (((Below.refl w.heap.size w).alloc (Nat.le_refl _) _).trans (hB.mono (Nat.le_succ _))).setCell (Nat.le_refl _) _
  · exact (heap_setCell_same w2 w.heap.size 3 _ _ v2 ho).trans rfl
  · have e1 : fCells ([] ++ m.bs.drop 0) s.files = fCells m.bs s.files := rfl
    rw [e1]
    refine own_keep hv fun g hg => heap_setCell_other _ _ _ _ ?_
    have := (hv.lt g hg).1
    show g ≠ w.heap.size
    omega
theorem copy_end {w wr w7 : World} {m : DM} {s : DS} {fv2 cv2 : Value} {B2 M' S' : Nat} {bl : List Value} (C : CopySt w wr m s fv2 B2 s.files.length bl) (hml : m.bs.length = s.files.length)
    (hB : Below wr.heap.size wr w7) (hM : w7.heap[M']? = some (.map (encDir s.names) s.nclock)) (hS : w7.heap[S']? = some (.map (encDir s.sured) s.sclock)) (e1 : M' = wr.heap.size) (e2 : S' = wr.heap.size + 1)
    (hcv : w7.ownsRow (wr.heap.size + 2) 73 3 cv2 s.changes.length (cCells s.changes)) :
    DiskAt (((w7.setCell ⟨w.heap.size, 4, none⟩ (.map (some M'))).setCell ⟨w.heap.size, 5, none⟩ (.map (some S'))).setCell ⟨w.heap.size, 6, none⟩ cv2) ⟨w.heap.size, M', S', fv2, cv2, bl⟩ s ∧
      Below w.heap.size w (((w7.setCell ⟨w.heap.size, 4, none⟩ (.map (some M'))).setCell ⟨w.heap.size, 5, none⟩ (.map (some S'))).setCell ⟨w.heap.size, 6, none⟩ cv2) ∧ ∀ k, k ∈ (⟨w.heap.size, M', S', fv2, cv2, bl⟩ : DM).fp → w.heap.size ≤ k := by
  have hO := lt_of_block C.out
  have far : ∀ k, k ≠ w.heap.size → (((w7.setCell ⟨w.heap.size, 4, none⟩ (.map (some M'))).setCell ⟨w.heap.size, 5, none⟩ (.map (some S'))).setCell ⟨w.heap.size, 6, none⟩ cv2).heap[k]? = w7.heap[k]? := fun k hk =>
    ((heap_setCell_other _ _ _ _ hk).trans (heap_setCell_other _ _ _ _ hk)).trans (heap_setCell_other _ _ _ _ hk)
  have h7 : w7.heap[w.heap.size]? = some (.cells #[.int .i64 s.room, .int .i64 s.fuse, .bool s.dead, fv2, .map (some m.M), .map (some m.S), m.cv] 51 (0, 0)) := (hB.block _ hO).trans C.out
  have h8 := heap_setCell_same w7 w.heap.size 4 _ _ (.map (some M')) h7
  have h9 := heap_setCell_same _ w.heap.size 5 _ _ (.map (some S')) h8
  have h10 := heap_setCell_same _ w.heap.size 6 _ _ cv2 h9
  have hf := copy_fin C hml (M' := M') (S' := S') (B3 := wr.heap.size + 2) (cv2 := cv2) (h10.trans rfl) (fun k h1 h2 => (far k h2).trans (hB.block k h1)) ((far _ (by omega)).trans hM) ((far _ (by omega)).trans hS)
    (own_keep hcv fun g hg => far g (by have := (hcv.lt g hg).1; omega)) (by omega) (by omega) (by omega)
  exact ⟨hf.1, (((C.below.trans (hB.mono C.below.size)).setCell (Nat.le_refl _) _).setCell (Nat.le_refl _) _).setCell (Nat.le_refl _) _, hf.2⟩
theorem clone_at (M : Nat) (es : Array MapEntry) (c : Nat) (w : World) (hb : w.heap[M]? = some (.map es c)) (n : Nat) (hn : w.heap.size = n) :
    Calls Tryz.prog 30 #[.map (some M)] w fun e w' => e = .returned (.map (some n)) ∧ w'.heap[n]? = some (.map es c) ∧ w'.heap.size = n + 1 ∧ Below w.heap.size w w' := by
  refine (clone_any M es c w hb).mono ?_
  rintro e w' ⟨rfl, rfl⟩
  subst hn
  exact ⟨rfl, heap_alloc_new _ _, by simp, (Below.refl _ _).alloc (Nat.le_refl _) _⟩
set_option maxRecDepth 100000 in
set_option maxHeartbeats 3200000 in
theorem copy_any (m : DM) (s : DS) (w : World) (h : DiskAt w m s) (hfl : s.files.length ≤ 1000000) (hcl : s.changes.length ≤ 1000000) (hb : ∀ f ∈ s.files, f.b.length ≤ 4194304) :
    Calls Tryz.prog 7 #[.pointer (some ⟨m.D, 0, none⟩)] w fun e w' => ∃ m2, e = .returned (.pointer (some ⟨m2.D, 0, none⟩)) ∧ DiskAt w' m2 s ∧ Below w.heap.size w w' ∧ ∀ k, k ∈ m2.fp → w.heap.size ≤ k := by
  obtain ⟨q1, c1, efv, hf1, hf2, hf3, hf4⟩ := h.fvRd
  obtain ⟨q2, c2, ecv, hc1, hc2, hc3, hc4⟩ := h.cvRd
  have H := hid h
  have HB := hid hb
  have HF := hid (And.intro hf3 hf4)
  have HC := hid (And.intro hc3 hc4)
  have HFO := hid (fCells_one m.bs s.files h.bsOne)
  obtain ⟨d0, d1, d2, d3, d4, d5, d6⟩ := h.cells
  rw [efv] at d3
  rw [ecv] at d6
  obtain ⟨NF, hNF⟩ : ∃ N, N = s.files.length := ⟨_, rfl⟩
  obtain ⟨NC, hNC⟩ : ∃ N, N = s.changes.length := ⟨_, rfl⟩
  rw [← hNF] at d3 hf1 hfl
  rw [← hNC] at d6 hc1 hcl
  have HNF := hid hNF
  have HNC := hid hNC
  have HE := hid (And.intro efv ecv)
  have dd3 : ∀ o, (w.alloc o).cell? ⟨m.D, 3, none⟩ = some (.slice q1 NF c1) := fun o => (w.cell?_alloc_some _ o (by rw [d3]; rfl)).trans d3
  clear h hb hf3 hf4 hc3 hc4 hNF hNC efv ecv
  go_enter Tryz.func7, Tryz.ntmps7
  go_wp2_with fail
  refine (there_any m s w H.out).mono ?_
  rintro e w' ⟨rfl, rfl⟩
  go_wp2_with fail
  refine (clone_files q1 NF c1 (fCells m.bs s.files) _ (by rw [HNF.out]; exact HF.out.2) hf1 (by omega) (HF.out.1.alloc _) HFO.out hf2).mono ?_
  rintro e w2 ⟨v2, rfl, hv2, hB2⟩
  have hle : ∀ o, w.heap.size + 1 ≤ (w.alloc o).heap.size := fun o => by show _ ≤ (w.heap.push _).size; rw [Array.size_push]; exact Nat.le_refl _
  have hcs := copy_start (w := w) (w2 := w2) (m := m) (s := s) (fv0 := .slice q1 NF c1) (v2 := v2) (by rw [HE.out.2, ← HNC.out]; exact hB2.mono (hle _)) (by rw [← HNF.out]; exact own_mono hv2 (hle _))
  have HCS := hid hcs
  have hsz2 : w.heap.size < w2.heap.size := by have := hB2.size; have := hle (.cells #[.int .i64 s.room, .int .i64 s.fuse, .bool s.dead, .slice q1 NF c1, .map (some m.M), .map (some m.S), .slice q2 NC c2] 51); omega
  have ho2 : w2.heap[w.heap.size]? = some (.cells #[.int .i64 s.room, .int .i64 s.fuse, .bool s.dead, .slice q1 NF c1, .map (some m.M), .map (some m.S), .slice q2 NC c2] 51 (0, 0)) := (hB2.block _ (hle _)).trans (Array.getElem?_push_size (xs := w.heap))
  have fz := frozen_of_row w2 w.heap.size 3 _ _ ho2
  have k3 := cell_of_row w2 w.heap.size 3 _ _ _ ho2
  obtain ⟨q3, c3, rfl, hn1, hn2, hn3⟩ := own_shape hv2
  have n3 : (w2.setCell ⟨w.heap.size, 3, none⟩ (.slice q3 NF c3)).cell? ⟨w.heap.size, 3, none⟩ = some (.slice q3 NF c3) := cell_of_row _ _ 3 _ _ _ hcs.out
  have HV2 := hid hv2
  have HB2 := hid hB2
  have HO2 := hid ho2
  clear hv2 hB2 hcs ho2
  go_wp2_with fail
  have HN := hid (And.intro hn1 (And.intro hn2 hn3))
  have HD3 := hid (And.intro d3 d6)
  have HDD := hid (And.intro d4 d5)
  clear d0 d1 d2 d3 d4 d5 d6 dd3 fz k3 n3 hle hn1 hn2 hn3
  go_loopw [20] (fun i wr => ∃ (j : Nat) (bl : List Value), i = .int .i64 j ∧ j ≤ NF ∧ CopySt w wr m s (.slice q3 NF c3) w2.heap.size j bl) (fun i _ => NF - (intOf i).toNat)
  case atStart => exact ⟨0, [], rfl, Nat.zero_le _, HCS.out⟩
  case round =>
    obtain ⟨j, bl, rfl, hj, hC⟩ := hrel
    have C := hid hC
    clear hC
    by_cases hlt : j < NF
    · obtain ⟨g, cg, q0, k0, hfv, hcc1, hbi, hk1, hk2, hqn, hce, hsu, hrd, hfr, hgl⟩ := H.out.file (i := j) (by rw [← HNF.out]; exact hlt)
      have hq := HE.out.1
      rw [hfv] at hq
      obtain ⟨rfl, hcg⟩ : some (⟨g, 0, none⟩ : Addr) = q1 ∧ cg = c1 := by injection hq with x1 x2 x3; exact ⟨x1, x3⟩
      subst hcg
      obtain ⟨g3, cur, rfl, hg3, kr⟩ : ∃ g3 cur, q3 = some ⟨g3, 0, none⟩ ∧ wr.heap[g3]? = some (.cells cur 68 (0, 0)) ∧ ∃ v, wr.cell? ⟨g3, j * 2, none⟩ = some v := by
        obtain ⟨hl, hx⟩ := C.out.rows
        rcases hx with ⟨_, h0⟩ | ⟨g3, cap, cu, hv, _, hg, hnc, hcm, hcs, ht⟩
        · rw [← HNF.out] at h0; omega
        · have hjl : j * 2 < (fCells (bl ++ m.bs.drop j) s.files).length := by rw [hl, ← HNF.out]; omega
          have hi := List.getElem?_eq_getElem hjl
          refine ⟨g3, cu, by injection hv, hg, (fCells (bl ++ m.bs.drop j) s.files)[j * 2], ?_⟩
          · generalize (fCells (bl ++ m.bs.drop j) s.files)[j * 2] = u at hi ⊢
            rw [← ht, List.getElem?_take] at hi
            split at hi
            · rw [cell_of_row wr g3 (j * 2) _ _ _ hg]; simpa using hi
            · cases hi
      have hjs : j < s.files.length := by rw [← HNF.out]; exact hlt
      obtain ⟨BB, hBB⟩ : ∃ b, b = (s.files[j]).b := ⟨_, rfl⟩
      obtain ⟨BN, hBN⟩ : ∃ n, n = BB.length := ⟨_, rfl⟩
      have hbm : BN ≤ 4194304 := by rw [hBN, hBB]; exact HB.out _ (List.getElem_mem hjs)
      rw [← hBB, ← hBN] at hk1 hce hbi
      rw [← hBB] at hrd
      have HBB := hid hBB
      have HBN := hid hBN
      have hsd := lt_of_block H.out.disk
      have kn := cell_of_row wr w.heap.size 3 _ _ _ C.out.out
      have kd : wr.cell? ⟨m.D, 3, none⟩ = some (.slice (some ⟨g, 0, none⟩) NF cg) := (C.out.below.cell (p := ⟨m.D, 3, none⟩) hsd).trans HD3.out.1
      have kb : wr.cell? ⟨g, j * 2, none⟩ = some (.slice q0 BN k0) := (C.out.below.cell (p := ⟨g, j * 2, none⟩) hgl).trans hce
      obtain ⟨v0, k2⟩ := kr
      have hk2 : ∀ w', Below wr.heap.size wr w' → w'.cell? ⟨g3, j * 2, none⟩ = some v0 ∧ w'.frozen? ⟨g3, j * 2, none⟩ = false := fun w' hB => ⟨(hB.cell (p := ⟨g3, j * 2, none⟩) (lt_of_block hg3)).trans k2, frozen_of_row w' g3 _ _ _ ((hB.block _ (lt_of_block hg3)).trans hg3)⟩
      have HK2 := hid hk2
      clear k2 hk2 hg3
      have HK := hid (And.intro kn (And.intro kd kb))
      have HRd := hid (hrd.below C.out.below)
      have i0 : (0 : Int) ≤ (j : Int) := by omega
      have i1 : (j : Int) < (NF : Int) := by omega
      have hheld : ∀ w', Below wr.heap.size wr w' → w'.cell? ⟨w.heap.size, 3, none⟩ = some (.slice (some ⟨g3, 0, none⟩) NF c3) ∧ w'.cell? ⟨m.D, 3, none⟩ = some (.slice (some ⟨g, 0, none⟩) NF cg) ∧ w'.cell? ⟨g, j * 2, none⟩ = some (.slice q0 BN k0) := fun w' hB =>
        ⟨(hB.cell (p := ⟨w.heap.size, 3, none⟩) (lt_of_block C.out.out)).trans HK.out.1, (hB.cell (p := ⟨m.D, 3, none⟩) (Nat.lt_of_lt_of_le hsd C.out.below.size)).trans HK.out.2.1, (hB.cell (p := ⟨g, j * 2, none⟩) (Nat.lt_of_lt_of_le hgl C.out.below.size)).trans HK.out.2.2⟩
      have hg3w : w.heap.size + 1 ≤ g3 := (C.out.rows.lt g3 rfl).1
      have hheld2 : ∀ w' v, Below wr.heap.size wr w' → (w'.setCell ⟨g3, j * 2, none⟩ v).cell? ⟨w.heap.size, 3, none⟩ = some (.slice (some ⟨g3, 0, none⟩) NF c3) ∧ (w'.setCell ⟨g3, j * 2, none⟩ v).cell? ⟨m.D, 3, none⟩ = some (.slice (some ⟨g, 0, none⟩) NF cg) ∧ (w'.setCell ⟨g3, j * 2, none⟩ v).cell? ⟨g, j * 2, none⟩ = some (.slice q0 BN k0) := fun w' v hB =>
        ⟨(cell_setCell_else w' v (by omega)).trans (hheld w' hB).1, (cell_setCell_else w' v (by omega)).trans (hheld w' hB).2.1, (cell_setCell_else w' v (by omega)).trans (hheld w' hB).2.2⟩
      have HH := hid hheld
      have HH2 := hid hheld2
      have HZ := hid hsd
      clear hheld hheld2 hg3w hfr hsd hgl hce hsu hrd hq hfv hBB hBN
      go_upto_region 8 with fail
      go_region_held3 (fun w' => w'.cell? ⟨w.heap.size, 3, none⟩ = some (.slice (some ⟨g3, 0, none⟩) NF c3) ∧ w'.cell? ⟨m.D, 3, none⟩ = some (.slice (some ⟨g, 0, none⟩) NF cg) ∧ w'.cell? ⟨g, j * 2, none⟩ = some (.slice q0 BN k0)) (first | exact HH.out _ (Below.refl _ _).drew | exact HH.out _ HB5.out | exact HH2.out _ _ HB5.out) ((go_at_call 29; refine (clone_own q0 BN k0 BB _ HBN.out.symm hk1 hbm (HRd.out.below (Below.refl _ _).drew) hqn).mono ?_; rintro e w5 ⟨v5, rfl, hv5, hB5⟩; obtain ⟨q5, c5, rfl, _, _, _⟩ := own_shape hv5; have HV5 := hid hv5; have HB5 := hid ((Below.refl wr.heap.size wr).drew.trans hB5); clear hv5 hB5; obtain ⟨k5, f5⟩ := HK2.out _ HB5.out; dsimp only))
      have hst := C.out.step (v := .slice q5 BN c5) hjs HB5.out (by rw [← HBB.out, ← HBN.out]; exact HV5.out) (g2 := g3) (c2 := c3) (by rw [← HNF.out]) H.out.len
      have HST := hid hst
      clear hst
      go_wp2_with fail
      go_roundw
      case rel => exact ⟨j + 1, bl ++ [.slice q5 BN c5], by go_num, by omega, HST.out⟩
      case measure => simp [intOf]; omega
    · have hjN : j = NF := by omega
      have hC := C.out
      rw [hjN, HNF.out] at hC
      have C := hid hC
      have hsd := lt_of_block H.out.disk
      have hheld : ∀ w', Below wr.heap.size wr w' → w'.cell? ⟨m.D, 4, none⟩ = some (.map (some m.M)) ∧ w'.cell? ⟨m.D, 5, none⟩ = some (.map (some m.S)) ∧ w'.cell? ⟨m.D, 6, none⟩ = some (.slice q2 NC c2) := fun w' hB =>
        ⟨((C.out.below.trans (hB.mono C.out.below.size)).cell (p := ⟨m.D, 4, none⟩) hsd).trans HDD.out.1, ((C.out.below.trans (hB.mono C.out.below.size)).cell (p := ⟨m.D, 5, none⟩) hsd).trans HDD.out.2, ((C.out.below.trans (hB.mono C.out.below.size)).cell (p := ⟨m.D, 6, none⟩) hsd).trans HD3.out.2⟩
      have hne : m.D ≠ w.heap.size := by omega
      have hheld2 : ∀ w' (v4 v5 v6 : Value), Below wr.heap.size wr w' → ((w'.setCell ⟨w.heap.size, 4, none⟩ v4).cell? ⟨m.D, 4, none⟩ = some (.map (some m.M)) ∧ (w'.setCell ⟨w.heap.size, 4, none⟩ v4).cell? ⟨m.D, 5, none⟩ = some (.map (some m.S)) ∧ (w'.setCell ⟨w.heap.size, 4, none⟩ v4).cell? ⟨m.D, 6, none⟩ = some (.slice q2 NC c2)) ∧
          (((w'.setCell ⟨w.heap.size, 4, none⟩ v4).setCell ⟨w.heap.size, 5, none⟩ v5).cell? ⟨m.D, 4, none⟩ = some (.map (some m.M)) ∧ ((w'.setCell ⟨w.heap.size, 4, none⟩ v4).setCell ⟨w.heap.size, 5, none⟩ v5).cell? ⟨m.D, 5, none⟩ = some (.map (some m.S)) ∧ ((w'.setCell ⟨w.heap.size, 4, none⟩ v4).setCell ⟨w.heap.size, 5, none⟩ v5).cell? ⟨m.D, 6, none⟩ = some (.slice q2 NC c2)) ∧
          ((((w'.setCell ⟨w.heap.size, 4, none⟩ v4).setCell ⟨w.heap.size, 5, none⟩ v5).setCell ⟨w.heap.size, 6, none⟩ v6).cell? ⟨m.D, 4, none⟩ = some (.map (some m.M)) ∧ (((w'.setCell ⟨w.heap.size, 4, none⟩ v4).setCell ⟨w.heap.size, 5, none⟩ v5).setCell ⟨w.heap.size, 6, none⟩ v6).cell? ⟨m.D, 5, none⟩ = some (.map (some m.S)) ∧ (((w'.setCell ⟨w.heap.size, 4, none⟩ v4).setCell ⟨w.heap.size, 5, none⟩ v5).setCell ⟨w.heap.size, 6, none⟩ v6).cell? ⟨m.D, 6, none⟩ = some (.slice q2 NC c2)) := fun w' v4 v5 v6 hB => by
        obtain ⟨a1, a2, a3⟩ := hheld w' hB
        refine ⟨⟨?_, ?_, ?_⟩, ⟨?_, ?_, ?_⟩, ⟨?_, ?_, ?_⟩⟩ <;> simp only [cell_setCell_else _ _ hne, a1, a2, a3]
      have hm1 : ∀ w', Below wr.heap.size wr w' → w'.heap[m.M]? = some (.map (encDir s.names) s.nclock) ∧ w'.heap[m.S]? = some (.map (encDir s.sured) s.sclock) := fun w' hB =>
        ⟨((C.out.below.trans (hB.mono C.out.below.size)).block _ (lt_of_block H.out.names)).trans H.out.names, ((C.out.below.trans (hB.mono C.out.below.size)).block _ (lt_of_block H.out.sured)).trans H.out.sured⟩
      have HM1 := hid hm1
      have HH := hid hheld
      have HH2 := hid hheld2
      have hrc := (HC.out.1.below C.out.below)
      have HRC := hid hrc
      have hone := cCells_one s.changes
      have HONE := hid hone
      have hout := C.out.out
      have hom : w.heap.size < wr.heap.size := lt_of_block hout
      have ho4 : ∀ w', Below wr.heap.size wr w' → (w'.cell? ⟨w.heap.size, 4, none⟩ = some (.map (some m.M)) ∧ w'.cell? ⟨w.heap.size, 5, none⟩ = some (.map (some m.S)) ∧ w'.cell? ⟨w.heap.size, 6, none⟩ = some m.cv) ∧ ∀ i, w'.frozen? ⟨w.heap.size, i, none⟩ = false := fun w' hB => by
        have h1 := (hB.block _ hom).trans hout
        exact ⟨⟨cell_of_row _ _ 4 _ _ _ h1, cell_of_row _ _ 5 _ _ _ h1, cell_of_row _ _ 6 _ _ _ h1⟩, fun i => frozen_of_row _ _ i _ _ h1⟩
      have HO4 := hid ho4
      obtain ⟨MM, hMM⟩ : ∃ M, M = m.M := ⟨_, rfl⟩
      obtain ⟨SS, hSS⟩ : ∃ M, M = m.S := ⟨_, rfl⟩
      obtain ⟨CV, hCV⟩ : ∃ M, M = m.cv := ⟨_, rfl⟩
      rw [← hMM, ← hSS] at HM1 HH HH2 HO4
      rw [← hCV] at HO4
      have hha := fun w' v4 (hB : Below wr.heap.size wr w') => (HH2.out w' v4 v4 v4 hB).1
      have hhb := fun w' v4 v5 (hB : Below wr.heap.size wr w') => (HH2.out w' v4 v5 v5 hB).2.1
      have hhc := fun w' v4 v5 v6 (hB : Below wr.heap.size wr w') => (HH2.out w' v4 v5 v6 hB).2.2
      have HHa := hid hha
      have HHb := hid hhb
      have HHc := hid hhc
      clear hha hhb hhc
      clear hheld hheld2 hm1 hrc hone hout ho4 hMM hSS hCV hne hom hC hsd hjN
      go_upto_region 10 with fail
      go_region_held3 (fun w' => w'.cell? ⟨m.D, 4, none⟩ = some (.map (some MM)) ∧ w'.cell? ⟨m.D, 5, none⟩ = some (.map (some SS)) ∧ w'.cell? ⟨m.D, 6, none⟩ = some (.slice q2 NC c2)) (first | (with_reducible exact HH.out _ HB5.out) | (with_reducible exact HH.out _ HB6.out) | (with_reducible exact HH.out _ HB7.out) | (with_reducible exact HHa.out _ _ HB7.out) | (with_reducible exact HHb.out _ _ _ HB7.out) | (with_reducible exact HHc.out _ _ _ _ HB7.out) | exact HH.out _ (Below.refl _ _).drew)
        ((first
          | (go_at_call 30; (with_reducible refine (clone_at MM _ _ wr.drew (HM1.out wr.drew (Below.refl wr.heap.size wr).drew).1 wr.heap.size rfl).mono ?_); rintro e w5 ⟨rfl, hw5, hz5, hb5⟩; have HW5 := hid (And.intro hw5 hz5); have HB5 := hid ((Below.refl wr.heap.size wr).drew.trans hb5); clear hw5 hz5 hb5; dsimp only)
          | (go_at_call 30; (with_reducible refine (clone_at SS _ _ w5 (HM1.out w5 HB5.out).2 (wr.heap.size + 1) HW5.out.2).mono ?_); rintro e w6 ⟨rfl, hw6, hz6, hb6⟩; have HW6 := hid (And.intro ((hb6.block _ (by rw [HW5.out.2]; omega)).trans HW5.out.1) (And.intro hw6 hz6)); have HB6 := hid (HB5.out.trans (hb6.mono HB5.out.size)); clear hw6 hz6 hb6; dsimp only)
          | (go_at_call 31; (with_reducible refine (clone_changes q2 NC c2 (cCells s.changes) w6 (by rw [HC.out.2, HNC.out]) hc1 (by omega) (HRC.out.below HB6.out) HONE.out hc2).mono ?_); rintro e w7 ⟨v7, rfl, hv7, hB7⟩; obtain ⟨q7, c7, rfl, _, _, _⟩ := own_shape hv7; have HV7 := hid hv7; have hB7x := hB7; have HB7 := hid (HB6.out.trans (hB7.mono HB6.out.size)); have HB67 := hid hB7x; obtain ⟨⟨k4, k5, k6⟩, kf⟩ := HO4.out w7 HB7.out; clear hv7 hB7 hB7x; dsimp only)))
      go_wp2_with fail
      have hfin := copy_end C.out H.out.len HB7.out (M' := wr.heap.size) (S' := wr.heap.size + 1) (cv2 := .slice q7 NC c7) ((HB67.out.block _ (by rw [HW6.out.2.2]; omega)).trans HW6.out.1) ((HB67.out.block _ (by rw [HW6.out.2.2]; omega)).trans HW6.out.2.1) rfl rfl (by rw [← HNC.out, ← HW6.out.2.2]; exact HV7.out)
      have HFIN := hid hfin
      clear hfin
      go_ret
      exact ⟨_, rfl, HFIN.out.1, HFIN.out.2.1, HFIN.out.2.2⟩
end Go.Proofs.Herb
