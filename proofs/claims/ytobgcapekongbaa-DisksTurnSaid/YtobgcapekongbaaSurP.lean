/- Disks that no fuse stops; what a crash keeps of what is sure: plain. No condition. -/
import Derived.Test.YtobgcapekongbaaPld
namespace Go.Proofs.Herb
open Go.RowKit Go.Sort
structure Free (s : DS) : Prop where
  dead : s.dead = false
  fuse : s.fuse = -1
theorem Free.letsS {s : DS} (h : Free s) : letsS s = s := by unfold Herb.letsS; rw [if_pos h.fuse]
theorem Free.letsE {s : DS} (h : Free s) : letsE s = 0 := by unfold Herb.letsE; rw [if_neg (by rw [h.fuse]; decide)]
theorem Free.alive {s : DS} (h : Free s) : aliveE s = 0 := by unfold aliveE; rw [h.dead]; rfl
theorem Free.new (room : Int) : Free (newS room) := ⟨rfl, rfl⟩
theorem Free.act {s : DS} (h : Free s) (v : ActV) : Free (actS s v) := by
  unfold actS
  split
  · unfold createS
    rw [h.letsE, h.letsS]
    split
    · exact h
    · rw [if_neg (by decide)]; exact ⟨h.dead, h.fuse⟩
  · unfold appendS
    rw [h.letsE, h.letsS]
    split
    · exact h
    · rw [if_neg (by decide)]; exact ⟨h.dead, h.fuse⟩
  · unfold syncS
    rw [h.letsE, h.letsS]
    split
    · exact h
    · rw [if_neg (by decide)]; exact ⟨h.dead, h.fuse⟩
  · unfold renameS
    rw [h.letsE, h.letsS]
    split
    · exact h
    · rw [if_neg (by decide)]
      split
      · exact h
      · exact ⟨h.dead, h.fuse⟩
  · unfold removeS
    rw [h.letsE, h.letsS]
    split
    · exact h
    · rw [if_neg (by decide)]; exact ⟨h.dead, h.fuse⟩
  · unfold syncDirT
    rw [h.letsE, h.letsS]
    split
    · exact h
    · rw [if_neg (by decide)]; exact ⟨h.dead, h.fuse⟩
  · exact h
theorem Free.play {s : DS} (h : Free s) (l : List ActV) : Free (playS s l) := by
  induction l generalizing s with
  | nil => exact h
  | cons v l ih => exact ih (h.act v)
theorem Free.syncDirE {s : DS} (h : Free s) : syncDirE s = 0 ∧ syncDirT s = syncDirS s := by
  unfold Herb.syncDirE syncDirT
  rw [h.alive, h.letsE, h.letsS, if_neg (by decide), if_neg (by decide), if_neg (by decide)]
  exact ⟨rfl, rfl⟩
/-! a crash of a directory that is sure -/
theorem crashD_sure {s : DS} (hc : s.changes = []) (hs : s.sured = s.names) (dir : Int) : crashD s dir = s.names := by
  have hj : crashJ s dir = 0 := by
    have := crashJ_le s dir
    rw [hc] at this
    exact Nat.le_zero.1 this
  unfold crashD
  rw [hj]
  exact hs
theorem crashD_all {s : DS} {n : Nat} (h : DsOk s n) (dir : Int) (hd : (s.changes.length : Int) ≤ dir) : crashD s dir = s.names := by
  have hj : crashJ s dir = s.changes.length := by unfold crashJ withinI; omega
  unfold crashD
  rw [hj, h.replay]
theorem crash_sure_dir {s : DS} {n : Nat} (h : DsOk s n) (dir : Int) (fl : List Int) : (crashS s dir fl).changes = [] ∧ (crashS s dir fl).sured = (crashS s dir fl).names := ⟨(crash_flags h dir fl).1, rfl⟩
theorem crash_sure_files {s : DS} {n : Nat} (h : DsOk s n) (dir : Int) (fl : List Int) {k : ByteArray} (hk : k ∈ (sortedK (crashS s dir fl).names).map ofL) : (fileAt (crashS s dir fl) k).sure = (fileAt (crashS s dir fl) k).b.length := by
  rw [crash_sorted h dir fl] at hk
  obtain ⟨i, hi⟩ := List.mem_iff_getElem?.1 hk
  obtain ⟨_, _, h3, h4⟩ := crash_read h dir fl (i := i) (k := k) hi
  have := crashF_ok h fl (crashD s dir) i k
  unfold fileAt
  rw [h3, Option.getD_some, h4, Option.getD_some]
  exact this.1.symm
/-- one that loses all, behind which another one comes -/
theorem crash_again {s : DS} {n : Nat} (h : DsOk s n) (dir : Int) (fl : List Int) (dir' : Int) (fl' : List Int) : SameS (crashS (crashS s dir fl) dir' fl') (crashS s dir fl) := by
  obtain ⟨hc, hs⟩ := crash_sure_dir h dir fl
  refine crash_same (h.crash dir fl) (crash_flags h dir fl).2.1 dir' fl' (crashD_sure hc hs dir') fun i k hi => ?_
  exact keep_sure (crash_sure_files h dir fl (List.mem_of_getElem? hi))
/-- one that loses nothing -/
theorem crash_nothing {s : DS} {n : Nat} (h : DsOk s n) (hd : s.dead = false) (dir big : Int) (N : Nat) (h1 : (s.changes.length : Int) ≤ dir) (h2 : 4194304 ≤ big) (h3 : (sortedK s.names).length ≤ N) : SameS (crashS s dir (List.replicate N big)) s := by
  refine crash_same h hd dir _ (crashD_all h dir h1) fun i k hi => ?_
  obtain ⟨a, b⟩ := fileAt_ok h k
  refine keep_all a ⟨big, ?_, by omega⟩
  have hlt := (List.getElem?_eq_some_iff.1 hi).1
  rw [List.length_map] at hlt
  rw [List.getElem?_replicate, if_pos (by omega)]
/-! all files sure -/
theorem syncS_free {s : DS} (h : Free s) {k : ByteArray} (hk : knownE s k = 0) : syncE s k = 0 ∧ syncS s k = { s with files := s.files.modify ((look s.names k).getD 0) fun f => ⟨f.b, f.b.length⟩ } := by
  unfold syncE syncS
  rw [hk, h.letsE, h.letsS]
  exact ⟨rfl, rfl⟩
def syncAll (s : DS) (l : List ByteArray) : DS := l.foldl syncS s
theorem syncAll_snoc (s : DS) (l : List ByteArray) (k : ByteArray) : syncAll s (l ++ [k]) = syncS (syncAll s l) k := by simp [syncAll]
theorem sync_sure {s : DS} {k : ByteArray} (f : Free s) (hk0 : knownE s k = 0) (q : ByteArray) (hq : q = k ∨ (fileAt s q).sure = (fileAt s q).b.length) : (fileAt (syncS s k) q).sure = (fileAt (syncS s k) q).b.length := by
  rw [(syncS_free f hk0).2]
  unfold fileAt
  dsimp only
  rw [List.getElem?_modify]
  by_cases hqk : (look s.names k).getD 0 = (look s.names q).getD 0
  · cases hy : s.files[(look s.names q).getD 0]? with
    | none => rfl
    | some y => simp [hqk]
  · have hq' : (fileAt s q).sure = (fileAt s q).b.length := by
      rcases hq with rfl | hq
      · exact absurd rfl hqk
      · exact hq
    unfold fileAt at hq'
    cases hy : s.files[(look s.names q).getD 0]? with
    | none => rfl
    | some y => rw [hy] at hq'; simpa [hqk] using hq'
theorem syncAll_facts : ∀ (l : List ByteArray) {s : DS} {n : Nat} (_h : DsOk s n) (_hf : Free s), (∀ k ∈ l, k ∈ (sortedK s.names).map ofL) →
    DsOk (syncAll s l) n ∧ Free (syncAll s l) ∧ (syncAll s l).names = s.names ∧ (∀ k, (k ∈ l ∨ (fileAt s k).sure = (fileAt s k).b.length) → (fileAt (syncAll s l) k).sure = (fileAt (syncAll s l) k).b.length) ∧ (syncAll s l).changes = s.changes
  | [], s, n, h, hf, _ => ⟨h, hf, rfl, fun k hk => by rcases hk with hk | hk; cases hk; exact hk, rfl⟩
  | k :: l, s, n, h, hf, hl => by
    have hk := hl k (List.mem_cons_self ..)
    obtain ⟨hk0, _⟩ := sorted_at h hf.dead hk
    obtain ⟨_, e2⟩ := syncS_free hf hk0
    have f2 : Free (syncS s k) := by rw [e2]; exact ⟨hf.dead, hf.fuse⟩
    have n2 : (syncS s k).names = s.names := by rw [e2]
    have c2 : (syncS s k).changes = s.changes := by rw [e2]
    obtain ⟨o, f, hn, hs, hc⟩ := syncAll_facts l (h.sync k) f2 (fun q hq => by rw [n2]; exact hl q (List.mem_cons_of_mem _ hq))
    refine ⟨o, f, hn.trans n2, fun q hq => hs q ?_, hc.trans c2⟩
    rw [List.mem_cons] at hq
    rcases hq with (hq | hq) | hq
    · exact .inr (sync_sure hf hk0 q (.inl hq))
    · exact .inl hq
    · exact .inr (sync_sure hf hk0 q (.inr hq))
/-- of a disk of which all is sure every crash keeps all -/
theorem crash_sure {s : DS} {n : Nat} (h : DsOk s n) (hf : Free s) (dir : Int) (fl : List Int) : SameS (crashS (syncDirS (syncAll s ((sortedK s.names).map ofL))) dir fl) (syncDirS (syncAll s ((sortedK s.names).map ofL))) := by
  obtain ⟨o, f, hn, hs, _⟩ := syncAll_facts _ h hf (fun k hk => hk)
  refine crash_same o.synced f.dead dir fl (crashD_sure rfl rfl dir) fun i k hi => ?_
  refine keep_sure (hs k (.inl ?_))
  have : (sortedK (syncAll s ((sortedK s.names).map ofL)).names) = sortedK s.names := by rw [hn]
  rw [← this]
  exact List.mem_of_getElem? hi
end Go.Proofs.Herb
