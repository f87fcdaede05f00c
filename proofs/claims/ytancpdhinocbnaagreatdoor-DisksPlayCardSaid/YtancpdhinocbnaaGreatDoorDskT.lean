/- The contract of the disk's turns. For a disk as DiskAt says. -/
import Derived.Test.YtancpdhinocbnaaGreatDoorDskX
namespace Go.Proofs.Herb
open Go.RowKit
theorem nodup_mid {A B C : List Nat} {g : Nat} (h : (A ++ (B ++ C)).Nodup) (hg : g ∉ A ++ (B ++ C)) : (A ++ ([g] ++ C)).Nodup := by
  simp only [List.nodup_append, List.mem_append, not_or, ne_eq] at h hg ⊢
  obtain ⟨h1, ⟨h2, h3, h4⟩, h5⟩ := h
  refine ⟨h1, ⟨by simp, h3, ?_⟩, ?_⟩
  · intro a ha b hb e
    simp at ha
    subst ha; subst e; exact hg.2.2 hb
  · intro a ha b hb e
    rcases hb with hb | hb
    · simp at hb; subst hb; subst e; exact hg.1 ha
    · exact h5 a ha b (.inr hb) e
theorem DM.fp_eq (m : DM) : m.fp = [m.D, m.M, m.S] ++ (m.fv.ownBlock.toList ++ (m.cv.ownBlock.toList ++ m.bs.filterMap Value.ownBlock)) := rfl
theorem DM.fp_eq2 (m : DM) : m.fp = ([m.D, m.M, m.S] ++ m.fv.ownBlock.toList) ++ (m.cv.ownBlock.toList ++ m.bs.filterMap Value.ownBlock) := by rw [DM.fp_eq]; simp
theorem nodup_cv {m : DM} {v : Value} (h : m.fp.Nodup) (hat : v.ownBlock = m.cv.ownBlock ∨ ∃ g, v.ownBlock = some g ∧ g ∉ m.fp) : ({ m with cv := v } : DM).fp.Nodup := by
  rcases hat with e | ⟨g, e, hg⟩
  · rw [DM.fp_eq2] at h ⊢; rw [show ({ m with cv := v } : DM).cv.ownBlock = m.cv.ownBlock from e]; exact h
  · rw [DM.fp_eq2] at h hg ⊢
    rw [show ({ m with cv := v } : DM).cv.ownBlock = some g from e]
    exact nodup_mid h hg
theorem nodup_fv {m : DM} {v : Value} {bs' : List Value} (h : m.fp.Nodup) (hb : bs'.filterMap Value.ownBlock = m.bs.filterMap Value.ownBlock) (hat : v.ownBlock = m.fv.ownBlock ∨ ∃ g, v.ownBlock = some g ∧ g ∉ m.fp) : ({ m with fv := v, bs := bs' } : DM).fp.Nodup := by
  rcases hat with e | ⟨g, e, hg⟩
  · rw [DM.fp_eq] at h ⊢; rw [show ({ m with fv := v, bs := bs' } : DM).fv.ownBlock = m.fv.ownBlock from e]; dsimp only; rw [hb]; exact h
  · rw [DM.fp_eq] at h hg ⊢
    rw [show ({ m with fv := v, bs := bs' } : DM).fv.ownBlock = some g from e]
    dsimp only; rw [hb]
    exact nodup_mid h hg
theorem set_split {α : Type} {l : List α} {i : Nat} {v : α} (h : l[i]? = some v) : l = l.take i ++ v :: l.drop (i + 1) := by
  obtain ⟨hi, rfl⟩ := List.getElem?_eq_some_iff.1 h
  simp
theorem nodup_b {m : DM} {i : Nat} {v v' : Value} (h : m.fp.Nodup) (hi : m.bs[i]? = some v) (hat : v'.ownBlock = v.ownBlock ∨ ∃ g, v'.ownBlock = some g ∧ g ∉ m.fp) : ({ m with bs := m.bs.set i v' } : DM).fp.Nodup := by
  have hl := (List.getElem?_eq_some_iff.1 hi).1
  have e1 : ∀ u, (m.bs.take i ++ u :: m.bs.drop (i + 1)).filterMap Value.ownBlock = (m.bs.take i).filterMap Value.ownBlock ++ (u.ownBlock.toList ++ (m.bs.drop (i + 1)).filterMap Value.ownBlock) := by
    intro u; cases hu : u.ownBlock <;> simp [List.filterMap_append, hu]
  have e2 : m.bs.set i v' = m.bs.take i ++ v' :: m.bs.drop (i + 1) := by rw [List.set_eq_take_append_cons_drop, if_pos hl]
  have e3 : m.fp = ([m.D, m.M, m.S] ++ m.fv.ownBlock.toList ++ m.cv.ownBlock.toList ++ (m.bs.take i).filterMap Value.ownBlock) ++ (v.ownBlock.toList ++ (m.bs.drop (i + 1)).filterMap Value.ownBlock) := by
    rw [DM.fp_eq]; conv => lhs; rw [set_split hi, e1]
    simp
  have e4 : ({ m with bs := m.bs.set i v' } : DM).fp = ([m.D, m.M, m.S] ++ m.fv.ownBlock.toList ++ m.cv.ownBlock.toList ++ (m.bs.take i).filterMap Value.ownBlock) ++ (v'.ownBlock.toList ++ (m.bs.drop (i + 1)).filterMap Value.ownBlock) := by
    rw [DM.fp_eq]; dsimp only; rw [e2, e1]; simp
  rw [e4]
  rcases hat with e | ⟨g, e, hg⟩
  · rw [e, ← e3]; exact h
  · rw [e]
    rw [e3] at h hg
    exact nodup_mid h hg
theorem DiskAt.turnM {w w' : World} {m : DM} {s : DS} (h : DiskAt w m s) {d : Dir} {c : Nat} (O : OneMap w w' m.M d c) : DiskAt w' m { s with names := d, nclock := c } := by
  obtain ⟨h1, h2, h3, hf, hc, hb⟩ := h.notD
  have hk := fun k (hk : k ∈ m.fp) (hn : k ≠ m.M) => O.other k (h.lt k hk) hn
  exact ⟨(hk _ (by simp [DM.fp]) h1).trans h.disk, O.at_, (hk _ (by simp [DM.fp]) (Ne.symm h3)).trans h.sured, own_keep h.files (fun g hg => hk g (mem_fp_f hg) (hf g hg).2.1), h.len,
    fun i v f hv hff => own_keep (h.bytes i v f hv hff) (fun g hg => hk g (mem_fp_b hv hg) (hb i v g hv hg).2.1), own_keep h.changes (fun g hg => hk g (mem_fp_c hg) (hc g hg).2.1), h.nodup⟩
theorem OneMap.mod {w w' : World} {m : DM} {d : Dir} {c : Nat} (O : OneMap w w' m.M d c) : Mod m.fp m.fp w w' :=
  ⟨O.os, O.tape, O.output, O.size, fun k hk hn => O.other k hk (fun e => hn (by simp [DM.fp, e])), fun _ h => .inl h⟩
theorem DiskAt.setCv {w w' : World} {m : DM} {s : DS} (h : DiskAt w m s) (v' : Value) (l : List DC)
    (hD : w'.heap[m.D]? = some (.cells #[.int .i64 s.room, .int .i64 s.fuse, .bool s.dead, m.fv, .map (some m.M), .map (some m.S), v'] 51 (0, 0)))
    (hk : ∀ k, k ∈ m.fp → k ≠ m.D → m.cv.ownBlock ≠ some k → w'.heap[k]? = w.heap[k]?)
    (hown : w'.ownsRow 0 73 3 v' l.length (cCells l)) (hat : v'.ownBlock = m.cv.ownBlock ∨ ∃ g, v'.ownBlock = some g ∧ g ∉ m.fp) : DiskAt w' { m with cv := v' } { s with changes := l } := by
  obtain ⟨h1, h2, h3, hf, hc, hb⟩ := h.notD
  have hn := h.nodup
  rw [DM.fp_eq2] at hn
  simp only [List.nodup_append, List.mem_append, ne_eq] at hn
  refine ⟨hD, (hk _ (by simp [DM.fp]) (Ne.symm h1) (fun e => (hc _ e).2.1 rfl)).trans h.names, (hk _ (by simp [DM.fp]) (Ne.symm h2) (fun e => (hc _ e).2.2 rfl)).trans h.sured, own_keep h.files (fun g hg => hk g (mem_fp_f hg) (hf g hg).1 ?_), h.len,
    fun i v f hv hff => own_keep (h.bytes i v f hv hff) (fun g hg => hk g (mem_fp_b hv hg) (hb i v g hv hg).1 ?_), hown, nodup_cv h.nodup hat⟩
  · intro e; exact hn.2.2 g (.inr (by simp [hg])) g (.inl (by simp [e])) rfl
  · intro e; exact hn.2.1.2.2 g (by simp [e]) g (List.mem_filterMap.2 ⟨v, List.mem_of_getElem? hv, hg⟩) rfl
def turnS (s : DS) (x : DC) : DS := { s with names := turnDir s.names s.nclock x, nclock := turnClk s.names s.nclock x, changes := s.changes ++ [x] }
theorem mem_fp_cv {m : DM} {v : Value} {k : Nat} (h : k ∈ ({ m with cv := v } : DM).fp) : k ∈ m.fp ∨ v.ownBlock = some k := by
  simp only [DM.fp, List.mem_cons, List.mem_append, Option.mem_toList] at h ⊢
  rcases h with h | h | h | h | h | h
  · exact .inl (.inl h)
  · exact .inl (.inr (.inl h))
  · exact .inl (.inr (.inr (.inl h)))
  · exact .inl (.inr (.inr (.inr (.inl h))))
  · exact .inr h
  · exact .inl (.inr (.inr (.inr (.inr (.inr h)))))
theorem turns_fin (m : DM) (s : DS) (x : DC) (w wc w1 : World) (q : Option Addr) (c : Nat) (lit : Obj)
    (D1 : DiskAt wc m { s with names := turnDir s.names s.nclock x, nclock := turnClk s.names s.nclock x }) (hM : Mod m.fp m.fp w wc) (hcne : some m.D ≠ m.cv.ownBlock)
    (hD : w1.heap[m.D]? = some (.cells #[.int .i64 s.room, .int .i64 s.fuse, .bool s.dead, m.fv, .map (some m.M), .map (some m.S), m.cv] 51 (0, 0)))
    (hown : w1.ownsRow 0 73 3 (.slice q (s.changes.length + 1) c) (s.changes.length + 1) (cCells s.changes ++ [.string x.name, .int .i64 x.file, .string x.gone]))
    (hg : (wc.drew.alloc lit).grownBy w1 m.cv.ownBlock) (hat : (Value.slice q (s.changes.length + 1) c).ownBlock = m.cv.ownBlock ∨ (Value.slice q (s.changes.length + 1) c).ownBlock = some (wc.drew.alloc lit).heap.size) :
    ∃ v, Ending.returned (.tuple #[]) = Ending.returned (.tuple #[]) ∧ DiskAt (w1.setCell ⟨m.D, 6, none⟩ (.slice q (s.changes.length + 1) c)) { m with cv := v } (turnS s x) ∧ Mod m.fp ({ m with cv := v } : DM).fp w (w1.setCell ⟨m.D, 6, none⟩ (.slice q (s.changes.length + 1) c)) := by
  have hlt := D1.lt
  have hDl := lt_of_block D1.disk
  have hsz : (wc.drew.alloc lit).heap.size = wc.heap.size + 1 := by simp
  have hkk : ∀ k, k < wc.heap.size → some k ≠ m.cv.ownBlock → w1.heap[k]? = wc.heap[k]? := fun k hk hn =>
    (hg.block k (by omega) hn).trans (heap_alloc_old wc.drew _ hk)
  have hat' : (Value.slice q (s.changes.length + 1) c).ownBlock = m.cv.ownBlock ∨ ∃ g, (Value.slice q (s.changes.length + 1) c).ownBlock = some g ∧ wc.heap.size ≤ g := by
    rcases hat with e | e
    · exact .inl e
    · exact .inr ⟨_, e, by omega⟩
  refine ⟨.slice q (s.changes.length + 1) c, rfl, ?_, ?_⟩
  · refine DiskAt.setCv D1 _ (s.changes ++ [x]) (heap_setCell_same _ _ _ _ _ _ hD) (fun k hk hn hc => ?_) ?_ ?_
    · exact (heap_setCell_other _ _ _ _ hn).trans (hkk k (hlt k hk) (fun e => hc e.symm))
    · have e : cCells (s.changes ++ [x]) = cCells s.changes ++ [.string x.name, .int .i64 x.file, .string x.gone] := by simp [cCells]
      rw [e, List.length_append, List.length_singleton]
      refine own_keep hown fun g hgo => heap_setCell_other _ _ _ _ ?_
      rcases hat' with e | ⟨g', e, hg'⟩
      · rw [e] at hgo; intro e2; subst e2; exact hcne hgo.symm
      · rw [e] at hgo; have := Option.some.inj hgo; show g ≠ m.D; omega
    · rcases hat' with e | ⟨g', e, hg'⟩
      · exact .inl e
      · exact .inr ⟨g', e, fun h => by have := hlt g' h; omega⟩
  · refine hM.trans ⟨hg.os, hg.tape, hg.output, ?_, fun k hk hn => ?_, fun k hk => ?_⟩
    · have := hg.size; simp; omega
    · exact (heap_setCell_other _ _ _ _ (fun e => hn (by rw [e]; simp [DM.fp]))).trans (hkk k hk (fun e => hn (mem_fp_c e.symm)))
    · rcases mem_fp_cv hk with h | h
      · exact .inl h
      · rcases hat' with e | ⟨g', e, hg'⟩
        · exact .inl (mem_fp_c (e.symm.trans h))
        · rw [e] at h; cases h; exact .inr hg'
set_option maxRecDepth 100000 in
set_option maxHeartbeats 800000 in
theorem turns_any (m : DM) (s : DS) (x : DC) (w : World) (h : DiskAt w m s) (hlen : s.changes.length ≤ 1000000000) :
    Calls Tryz.prog 48 #[.pointer (some ⟨m.D, 0, none⟩), .agg #[.string x.name, .int .i64 x.file, .string x.gone]] w fun e w' => ∃ v, e = .returned (.tuple #[]) ∧ DiskAt w' { m with cv := v } (turnS s x) ∧ Mod m.fp ({ m with cv := v } : DM).fp w w' := by
  have H := hid h
  have hDl := lt_of_block h.disk
  clear h
  go_enter Tryz.func48, Tryz.ntmps48
  go_upto_region 1 with fail
  have e1 : DiskAt (w.alloc (.cells #[.string x.name, .int .i64 x.file, .string x.gone] 73)) m s := H.out.below ((Below.refl _ _).alloc (Nat.le_refl _) _)
  obtain ⟨_, _, _, _, c4, _, c6⟩ := e1.cells
  have E1 := hid e1
  have T := turnDir_any m.M s.names s.nclock x (w.alloc (.cells #[.string x.name, .int .i64 x.file, .string x.gone] 73)).drew E1.out.names
  clear e1
  go_cut [] (fun wc => OneMap w wc m.M (turnDir s.names s.nclock x) (turnClk s.names s.nclock x) ∧ wc.heap[w.heap.size]? = some (.cells #[.string x.name, .int .i64 x.file, .string x.gone] 73 (0, 0)))
  case first =>
    go_region_with (go_at_call 33; refine T.mono ?_; rintro e w1 ⟨rfl, O1⟩; have O1 := hid O1; dsimp only)
    all_goals
      go_wp2_with fail
      go_meet
      exact ⟨⟨O1.out.at_, fun k hk hn => (O1.out.other k (by simp; omega) hn).trans (heap_alloc_old w _ hk), by have := O1.out.size; simp at this; omega, O1.out.os, O1.out.tape, O1.out.output⟩,
        (O1.out.other _ (by simp) (by have := lt_of_block H.out.names; omega)).trans (heap_alloc_new w _)⟩
  case rest =>
    obtain ⟨O, hbx⟩ := hcut
    have D1 := H.out.turnM O
    have hM := O.mod (m := m)
    have r0 := cell_of_row wc w.heap.size 0 _ _ _ hbx
    have r1 := cell_of_row wc w.heap.size 1 _ _ _ hbx
    have r2 := cell_of_row wc w.heap.size 2 _ _ _ hbx
    obtain ⟨_, _, _, _, _, _, c6⟩ := D1.cells
    have f6 := D1.free 6
    have D1 := hid D1
    have HM := hid hM
    have HO := hid O
    clear hM O hbx
    have hown : (wc.drew.alloc (.cells #[.string x.name, .int .i64 x.file, .string x.gone] 73)).ownsRow 0 73 3 m.cv s.changes.length (cCells s.changes) := own_below (D1.out.changes) ((Below.refl _ _).drew.alloc (by simp) _)
    have Hown := hid hown
    clear hown
    have hlo : (wc.drew.alloc (.cells #[.string x.name, .int .i64 x.file, .string x.gone] 73)).heap[m.D]? = some (.cells #[.int .i64 s.room, .int .i64 s.fuse, .bool s.dead, m.fv, .map (some m.M), .map (some m.S), m.cv] 51 (0, 0)) := (heap_alloc_old wc.drew _ (lt_of_block D1.out.disk)).trans D1.out.disk
    have Hlo := hid hlo
    have hDw := lt_of_block D1.out.disk
    have e6 := cell_of_row _ m.D 6 _ _ _ Hlo.out
    have k6 := frozen_of_row _ m.D 6 _ _ Hlo.out
    have hcne : some m.D ≠ m.cv.ownBlock := fun e => (H.out.notD.2.2.2.2.1 m.D e.symm).1 rfl
    have Hcne := hid hcne
    clear hlo hcne
    go_upto_region 2 with fail
    go_region_law (refine step_append_at rfl (.tmp 14) (.tmp 16) 49 rfl 0 73 _ 3 40 Tryz.underlying49 info114 rfl (by decide) m.cv s.changes.length (cCells s.changes) rfl Hown.out (some ⟨wc.heap.size, 0, none⟩) 1 1 [.string x.name, .int .i64 x.file, .string x.gone] rfl (fun h => by cases h) rfl (Rd.new _ _ _) (by simp [Value.oneCell']) (by unfold maxLen; omega) (by omega) (by simp) ?_; intro v1 w1 hown1 hg1 hat1; obtain ⟨q1, k1, rfl, hqk, hqm, hqn⟩ := own_shape hown1; clear hqk hqm hqn; have hD1 := (hg1.block m.D (lt_of_block Hlo.out) Hcne.out).trans Hlo.out; have d6 := cell_of_row w1 m.D 6 _ _ _ hD1; have g6 := frozen_of_row w1 m.D 6 _ _ hD1; have HD1 := hid hD1; have Hown1 := hid hown1; have Hg1 := hid hg1; have Hat1 := hid hat1; clear hD1 hown1 hg1 hat1)
    all_goals
      refine bodyPost_end (results_none rfl _ _ _) rfl ?_
      exact turns_fin m s x w wc w1 _ _ _ D1.out HM.out Hcne.out HD1.out Hown1.out Hg1.out Hat1.out
end Go.Proofs.Herb
