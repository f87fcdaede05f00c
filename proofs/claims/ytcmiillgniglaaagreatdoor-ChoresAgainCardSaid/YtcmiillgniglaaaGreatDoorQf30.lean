/- ChoresBack's walk. Facts that are written once more: the second write is OK, too (names, files, room), and what can be read behind it. Plain; for facts as chapter 24's law has them. -/
import Derived.Sort.KeysCollected
import Derived.Shelf.SlIter.Nil
import Derived.Shelf.SortM.Plain
import Derived.Shelf.SortM.SortNone
import Derived.Ground.GgzProg
import Derived.Ground.SlgmProg
import Derived.Test.YtcmiillgniglaaaGreatDoorQf12
import Derived.Test.YtcmiillgniglaaaGreatDoorQf20
import Derived.Test.YtcmiillgniglaaaGreatDoorQf21
import Derived.Test.YtcmiillgniglaaaGreatDoorQf28
import Derived.Test.YtcmiillgniglaaaGreatDoorQf29
namespace Go.Proofs.Herb
open Go.RowKit Go.Sort
theorem tbCells_at {ts : List Tab} {k : Nat} {t : Tab} (h : ts[k]? = some t) (j : Nat) (hj : j < 4) : (tbCells ts)[k * 4 + j]? = t.cells[j]? := by
  induction ts generalizing k with
  | nil => simp at h
  | cons x r ih =>
    have e : tbCells (x :: r) = x.cells ++ tbCells r := rfl
    cases k with
    | zero =>
      rw [List.getElem?_cons_zero] at h
      cases h
      rw [e, List.getElem?_append_left (by simp [Tab.cells]; omega), Nat.zero_mul, Nat.zero_add]
    | succ k =>
      rw [List.getElem?_cons_succ] at h
      rw [e, List.getElem?_append_right (by simp [Tab.cells]; omega), show (k + 1) * 4 + j - x.cells.length = k * 4 + j by simp [Tab.cells]; omega]
      exact ih h
end Go.Proofs.Herb
namespace Go.Proofs.Herb
open Go.RowKit Go.Sort
/-- a table's bytes, at most -/
theorem tab_bound {line : Nat} {fs : List Fact} (hg : GoodF line fs) (h0 : 0 < fs.length) : (tabB line fs).length ≤ 520 * fs.length + 400 := by
  have hil : (itemsF fs).length = fs.length := by simp [itemsF]
  obtain ⟨h1, h2⟩ := fold_le (l := itemsF fs) (B := 335) (fun x hx => by have := good_items hg x hx; omega) (chunksOf (itemsF fs)) 0 ([], []) (chunks_chain _)
  have h1' : (outB fs).length ≤ 0 + ((itemsF fs).length - 0) * (42 + 335) := h1
  have h3 : (idxI fs).length = (chunksOf (itemsF fs)).length := by unfold idxI; exact upB_len2 _ _
  have h4 := bAll_le (l := idxI fs) (B := 99) (fun x hx => by have := good_idx hg x hx; omega)
  have h4' : (idxB fs).length ≤ (idxI fs).length * (31 + 99) + 11 := h4
  have h5 : (filB fs).length = blN (namesF fs).length + 1 := ofF_len _
  have h6 := names_len fs
  have h7 := pp_len2 (propsF line fs)
  have h7' : (tailB2 line fs).length ≤ 80 + (propsF line fs).low.size + (propsF line fs).high.size := h7
  have h8 := props_keys hg h0
  have h9 : blN (namesF fs).length ≤ 2 * fs.length + 40 := by unfold blN; omega
  rw [tab_len]
  omega
/-- parts are few: each one but the last has so many bytes -/
def sumFac (l : List Fact) : Nat → Nat → Nat
  | 0, _ => 0
  | f + 1, k => facAt l k + sumFac l f (k + 1)
theorem ptF_few (l : List Fact) : ∀ (f k from_ size : Nat), (ptF l f k from_ size).length * 2048 ≤ size + sumFac l f k + 2048
  | 0, k, from_, size => by
    unfold ptF
    split
    · rw [List.length_singleton, Nat.one_mul]
      exact Nat.le_add_left _ _
    · rw [List.length_nil, Nat.zero_mul]
      exact Nat.zero_le _
  | f + 1, k, from_, size => by
    unfold ptF sumFac
    split
    · rename_i h
      have h1 := h.1
      have ih := ptF_few l f (k + 1) (k + 1) 0
      rw [List.length_cons, Nat.succ_mul]
      clear h
      generalize (ptF l f (k + 1) (k + 1) 0).length * 2048 = X at *
      omega
    · have ih := ptF_few l f (k + 1) from_ (size + facAt l k)
      omega
theorem sumFac_le (l : List Fact) (h : ∀ f ∈ l, facN f ≤ 304) : ∀ (f k : Nat), sumFac l f k ≤ f * 304
  | 0, _ => by simp [sumFac]
  | f + 1, k => by
    have ih := sumFac_le l h f (k + 1)
    have hk : facAt l k ≤ 304 := by
      unfold facAt
      cases e : l[k]? with
      | none => simp
      | some x => exact h x (List.mem_of_getElem? e)
    unfold sumFac
    omega
theorem parts_few {l : List Fact} (hm : l.length ≤ 120) (h : ∀ f ∈ l, facN f ≤ 304) : (partsL l).length ≤ 18 := by
  have h1 := ptF_few l l.length 0 0 0
  have h2 := sumFac_le l h l.length 0
  have h3 : (partsL l).length = (ptF l l.length 0 0 0).length := by unfold partsL partsI; rw [List.length_map]
  omega
def sumB (l : List (ByteArray × List UInt8)) : Nat := (l.map fun x => x.2.length).sum
theorem put1_used {s : DS} {n : Nat} {k : ByteArray} {b : List UInt8} (ok : DsOk s n) (h : put1E s k b = 0) : usedN (put1S s k b) = usedN s + b.length := by
  unfold put1E at h
  have c0 : createE s k = 0 := by
    by_cases q : createE s k = 0
    · exact q
    · rw [if_pos q] at h; exact absurd h q
  rw [if_neg (fun q => q c0)] at h
  have c1 : appendE (createS s k) k b = 0 := by
    by_cases q : appendE (createS s k) k b = 0
    · exact q
    · rw [if_pos q] at h; exact absurd h q
  unfold put1S
  rw [if_neg (fun q => q c0), if_neg (fun q => q c1), sync_used, append_used (ok.create k), if_pos c1, create_used ok]
theorem room_letsS (s : DS) : (letsS s).room = s.room := by
  unfold letsS
  split
  · rfl
  · split <;> rfl
theorem room_create (s : DS) (k : ByteArray) : (createS s k).room = s.room := by
  unfold createS
  split
  · rfl
  · split
    · exact room_letsS s
    · exact room_letsS s
theorem room_append (s : DS) (k : ByteArray) (b : List UInt8) : (appendS s k b).room = s.room := by
  unfold appendS
  split
  · rfl
  · split <;> exact room_letsS s
theorem room_sync (s : DS) (k : ByteArray) : (syncS s k).room = s.room := by
  unfold syncS
  split
  · rfl
  · split <;> exact room_letsS s
theorem room_put1 (s : DS) (k : ByteArray) (b : List UInt8) : (put1S s k b).room = s.room := by
  unfold put1S
  split
  · exact room_create s k
  · split
    · rw [room_append, room_create]
    · rw [room_sync, room_append, room_create]
theorem put_used : ∀ {l : List (ByteArray × List UInt8)} {s : DS} {n : Nat} (_ : DsOk s n) (_ : putE s l = 0), usedN (putS s l) = usedN s + sumB l ∧ (putS s l).room = s.room
  | [], s, n, _, _ => ⟨rfl, rfl⟩
  | x :: r, s, n, ok, h => by
    unfold putE at h
    have c0 : put1E s x.1 x.2 = 0 := by
      by_cases q : put1E s x.1 x.2 = 0
      · exact q
      · rw [if_pos q] at h; exact absurd h q
    rw [if_neg (fun q => q c0)] at h
    obtain ⟨h1, h2⟩ := put_used (ok.put1 x.1 x.2) h
    have e : putS s (x :: r) = putS (put1S s x.1 x.2) r := by
      show (if put1E s x.1 x.2 ≠ 0 then _ else _) = _
      rw [if_neg (fun q => q c0)]
    have e2 : sumB (x :: r) = x.2.length + sumB r := by simp [sumB]
    rw [e, h1, h2, put1_used ok c0, room_put1, e2]
    exact ⟨by omega, rfl⟩
theorem put1_go {s : DS} {n : Nat} {k : ByteArray} {b : List UInt8} (ok : DsOk s n) (hf : FreeS s) (hm : mayB k = true) (hn : look s.names k = none) (hlt : s.names.length < 200) (hr : (usedN s : Int) + (b.length : Int) ≤ s.room) : put1E s k b = 0 := by
  have hl : letsS s = s := by unfold letsS; rw [if_pos hf.fuse]
  have he : letsE s = 0 := by unfold letsE; rw [if_neg (by rw [hf.fuse]; decide)]
  have hk7 : knownE s k = 7 := by unfold knownE foundE; rw [hf.dead, hm, hn]; rfl
  have c0 : createE s k = 0 := by
    unfold createE
    rw [if_neg (by rw [hk7]; decide), if_neg (fun q => q hk7), if_neg (by omega), he]
  obtain ⟨F, hF⟩ : ∃ F, F = s.files.length := ⟨_, rfl⟩
  have hs1 : createS s k = turnS { s with files := s.files ++ [⟨[], 0⟩] } ⟨k, (s.files.length : Int), ⟨#[]⟩⟩ := by
    unfold createS
    rw [if_neg (by rintro (q | q); exact q hk7; omega), if_neg (fun q => q he), hl]
  have ht : turnDir s.names s.nclock ⟨k, (s.files.length : Int), ⟨#[]⟩⟩ = dirSet s.names s.nclock k s.files.length := by
    unfold turnDir
    dsimp only
    rw [if_neg (by omega), if_neg (by simp), Int.toNat_natCast]
  have hn1 : (createS s k).names = dirSet s.names s.nclock k F := by rw [hs1, hF]; exact ht
  have hd1 : (createS s k).dead = false ∧ (createS s k).fuse = -1 := by rw [hs1]; exact ⟨hf.dead, hf.fuse⟩
  have hkk : look (createS s k).names k = some F := by rw [hn1, look_dirSet, if_pos rfl]
  have hk1 : knownE (createS s k) k = 0 := by unfold knownE foundE; rw [hd1.1, hm, hkk]; rfl
  have hu := create_used ok k
  have hro := room_create s k
  obtain ⟨s1, es1⟩ : ∃ t, t = createS s k := ⟨_, rfl⟩
  rw [← es1] at hd1 hkk hk1 hu hro
  have hl1 : letsS s1 = s1 := by unfold letsS; rw [if_pos hd1.2]
  have he1 : letsE s1 = 0 := by unfold letsE; rw [if_neg (by rw [hd1.2]; decide)]
  have hr1 : ¬ (s1.room - (usedN s1 : Int) < (b.length : Int)) := by rw [hu, hro]; omega
  have c1 : appendE s1 k b = 0 := by
    unfold appendE
    rw [if_neg (fun q => q hk1), if_neg hr1, he1]
  have hs2 : appendS s1 k b = { s1 with files := s1.files.modify ((look s1.names k).getD 0) fun f => ⟨f.b ++ b, f.sure⟩ } := by
    unfold appendS
    rw [if_neg (by rintro (q | q); exact q hk1; exact hr1 q), if_neg (fun q => q he1), hl1]
  have c2 : syncE (appendS s1 k b) k = 0 := by
    rw [hs2]
    unfold syncE
    have hk2 : knownE { s1 with files := s1.files.modify ((look s1.names k).getD 0) fun f => ⟨f.b ++ b, f.sure⟩ } k = 0 := hk1
    rw [if_neg (fun q => q hk2)]
    exact he1
  unfold put1E
  rw [← es1, if_neg (fun q => q c0), if_neg (fun q => q c1), c2]
theorem put_go : ∀ {l : List (ByteArray × List UInt8)} {s : DS} {n : Nat} (_ : DsOk s n) (_ : FreeS s) (_ : ∀ x ∈ l, mayB x.1 = true) (_ : (l.map (·.1)).Nodup) (_ : ∀ x ∈ l, look s.names x.1 = none) (_ : s.names.length + l.length ≤ 200) (_ : (usedN s : Int) + (sumB l : Int) ≤ s.room), putE s l = 0
  | [], _, _, _, _, _, _, _, _, _ => rfl
  | x :: r, s, n, ok, hf, hm, hd, hn, hl, hr => by
    have e2 : sumB (x :: r) = x.2.length + sumB r := by simp [sumB]
    rw [List.length_cons] at hl
    rw [e2] at hr
    have c0 : put1E s x.1 x.2 = 0 := put1_go ok hf (hm x (List.mem_cons_self ..)) (hn x (List.mem_cons_self ..)) (by omega) (by omega)
    have hP := put1_ok ok hf c0
    have hu := put1_used ok c0
    have hro := room_put1 s x.1 x.2
    rw [List.map_cons, List.nodup_cons] at hd
    unfold putE
    rw [if_neg (fun q => q c0)]
    refine put_go (ok.put1 x.1 x.2) hP.free (fun y hy => hm y (List.mem_cons_of_mem _ hy)) hd.2 (fun y hy => ?_) (by rw [hP.many]; omega) (by rw [hu, hro]; omega)
    cases e : look (put1S s x.1 x.2).names y.1 with
    | none => rfl
    | some v =>
      exfalso
      rcases hP.only y.1 (by rw [e]; rfl) with h | h
      · exact hd.1 (by rw [← h]; exact List.mem_map_of_mem hy)
      · rw [hn y (List.mem_cons_of_mem _ hy)] at h; cases h
end Go.Proofs.Herb
