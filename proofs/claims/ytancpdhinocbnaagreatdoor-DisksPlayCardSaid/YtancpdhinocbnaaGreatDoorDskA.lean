/- The contract of the disk's Read. For a disk as DiskAt says. -/
import Derived.Test.YtancpdhinocbnaaGreatDoorDskV
namespace Go.Proofs.Herb
open Go.RowKit
theorem own_setCell {w : World} {base : Nat} {e : TypeId} {k : Nat} {g n c : Nat} {xs : List Value} (h : w.ownsRow base e k (.slice (some ⟨g, 0, none⟩) n c) n xs) (j : Nat) (u : Value) :
    (w.setCell ⟨g, j, none⟩ u).ownsRow base e k (.slice (some ⟨g, 0, none⟩) n c) n (xs.set j u) := by
  obtain ⟨hl, hx⟩ := h
  refine ⟨by simpa using hl, ?_⟩
  rcases hx with ⟨h0, _⟩ | ⟨g', cap, cur, hv, hb, hg, hnc, hcm, hcs, ht⟩
  · cases h0
  · cases hv
    refine .inr ⟨g, c, cur.setIfInBounds j u, rfl, hb, heap_setCell_same _ _ _ _ _ _ hg, hnc, hcm, by simpa using hcs, ?_⟩
    rw [← ht]
    simp only [Array.toList_setIfInBounds]
    rw [List.take_set]
theorem fCells_set : ∀ (bs : List Value) (fs : List DF) (i : Nat) (v : Value) (f : DF), bs.length = fs.length → (∀ f0, fs[i]? = some f0 → f0.sure = f.sure) → fCells (bs.set i v) (fs.set i f) = (fCells bs fs).set (i * 2) v
  | [], [], _, _, _, _, _ => by simp [fCells]
  | b :: bs, g :: fs, 0, v, f, _, h => by
    have := h g rfl
    simp [fCells, this]
  | b :: bs, g :: fs, i + 1, v, f, hl, h => by
    have := fCells_set bs fs i v f (by simpa using hl) (fun f0 h0 => h f0 (by simpa using h0))
    have e : (i + 1) * 2 = i * 2 + 1 + 1 := by omega
    rw [e]
    simp only [List.set_cons_succ, fCells, this]
  | [], _ :: _, _, _, _, h, _ => by cases h
  | _ :: _, [], _, _, _, h, _ => by cases h
theorem look_mem {d : Dir} {k : ByteArray} {i : Nat} (h : look d k = some i) : ∃ e ∈ d, e.2.1 = i := by
  rcases look_cases d k with ⟨_, h2⟩ | ⟨j, e, _, h3, _, h5⟩
  · rw [h2] at h; cases h
  · rw [h5] at h; exact ⟨e, List.mem_of_getElem? h3, Option.some.inj h⟩
theorem known_ok {s : DS} {k : ByteArray} (h : knownE s k = 0) (hd : DirOk s.names s.nclock s.files.length) : ∃ i, look s.names k = some i ∧ knownN s k = (i : Int) ∧ i < s.files.length := by
  unfold knownE at h
  split at h
  · cases h
  · rename_i hdd
    unfold foundE at h
    split at h
    · rename_i hm
      split at h
      · rename_i hs
        obtain ⟨i, hi⟩ := Option.isSome_iff_exists.1 hs
        obtain ⟨e, he, rfl⟩ := look_mem hi
        refine ⟨_, hi, ?_, hd.at_ e he⟩
        unfold knownN foundN
        rw [if_neg hdd, if_pos hm, hi]
        rfl
      · cases h
    · cases h
def fileL (s : DS) (k : ByteArray) : List UInt8 := ((s.files[(look s.names k).getD 0]?).map (·.b)).getD []
def readL (s : DS) (k : ByteArray) : List UInt8 := if knownE s k = 0 then fileL s k else []
set_option maxRecDepth 100000 in
set_option maxHeartbeats 800000 in
theorem read_clip (m : DM) (s : DS) (k : ByteArray) (hk : k.size ≤ maxLen) (w : World) (h : DiskAt w m s) (hd : DirOk s.names s.nclock s.files.length) (hb : ∀ f ∈ s.files, f.b.length ≤ 4194304) :
    Calls Tryz.prog 20 #[.pointer (some ⟨m.D, 0, none⟩), .string k] w fun e w' => ∃ q, e = .returned (.tuple #[.slice q (readL s k).length (readL s k).length, .int .i64 (knownE s k)]) ∧ Fr w' w.heap.size 5 1 (.slice q (readL s k).length (readL s k).length) (readL s k).length ((readL s k).map bv) ∧ Below w.heap.size w w' := by
  by_cases q : knownE s k = 0
  · obtain ⟨i, hi, hn, hil⟩ := known_ok q hd
    obtain ⟨g, c, q0, k0, hfv, hc1, hbi, hk1, hk2, hqn, hce, _, hrd, _, hgl⟩ := h.file hil
    have hrl : readL s k = (s.files[i]).b := by unfold readL fileL; rw [if_pos q, hi, Option.getD_some, List.getElem?_eq_getElem hil]; rfl
    have hbl := hb _ (List.getElem_mem hil)
    have c3 := h.cells.2.2.2.1
    rw [hfv] at c3
    rw [hrl]
    have H := hid h
    have Q := hid q
    have Hn := hid hn
    have Hrd := hid hrd
    have Hqn := hid hqn
    clear h q hn hrd hqn hbi hi hrl hd hb
    go_enter Tryz.func20, Tryz.ntmps20
    go_wp2_with (first
      | (go_at_call 46; refine (known_any m s k hk w H.out).mono ?_; rintro e w' ⟨rfl, rfl⟩; rw [Q.out, Hn.out])
      | (go_at_call 29; refine (clone_bytes q0 _ k0 _ w rfl hk1 hbl Hrd.out Hqn.out).mono ?_; rintro e w1 ⟨v, rfl, hv, hb1⟩; obtain ⟨q1, c1, rfl, hn1, hm1, hr1, hz1⟩ := hv.shape; have Hv := hid hv; have Hb1 := hid hb1; have Hr1 := hid hr1; have Hz1 := hid hz1; clear hv hb1 hr1 hz1)
      | (go_at_call 69; refine (clip_bytes q1 _ c1 w1 hn1 hm1).mono ?_; rintro e w2 ⟨rfl, rfl⟩))
    go_ret2
    exact ⟨_, by rw [Q.out]; rfl, Hv.out.clip, Hb1.out⟩
  · have b1 : (knownE s k != 0) = true := by simpa using q
    have hrl : readL s k = [] := by unfold readL; rw [if_neg q]
    have Hrl := hid hrl
    have H := hid h
    clear h q hrl hd hb
    go_enter Tryz.func20, Tryz.ntmps20
    go_wp2_with (go_at_call 46; refine (known_any m s k hk w H.out).mono ?_; rintro e w' ⟨rfl, rfl⟩)
    go_ret2
    rw [Hrl.out]
    exact ⟨none, rfl, Fr.of_own (own_nil22 _ _), Below.refl _ _⟩
theorem read_any (m : DM) (s : DS) (k : ByteArray) (hk : k.size ≤ maxLen) (w : World) (h : DiskAt w m s) (hd : DirOk s.names s.nclock s.files.length) (hb : ∀ f ∈ s.files, f.b.length ≤ 4194304) :
    Calls Tryz.prog 20 #[.pointer (some ⟨m.D, 0, none⟩), .string k] w fun e w' => ∃ v, e = .returned (.tuple #[v, .int .i64 (knownE s k)]) ∧ Fr w' w.heap.size 5 1 v (readL s k).length ((readL s k).map bv) ∧ Below w.heap.size w w' :=
  (read_clip m s k hk w h hd hb).mono fun _ _ ⟨_, h1, h2, h3⟩ => ⟨_, h1, h2, h3⟩
theorem read_nil (k : ByteArray) (w : World) : Calls Tryz.prog 20 #[.pointer none, .string k] w fun e w' => e = .returned (.tuple #[.slice none 0 0, .int .i64 2]) ∧ w = w' := by
  go_enter Tryz.func20, Tryz.ntmps20
  go_wp2_with (go_at_call 46; refine (known_nil k w).mono ?_; rintro e w' ⟨rfl, rfl⟩)
  go_ret2
  exact ⟨rfl, rfl⟩
theorem mem_fp_bs {m : DM} {i : Nat} {v' : Value} {k : Nat} (h : k ∈ ({ m with bs := m.bs.set i v' } : DM).fp) : k ∈ m.fp ∨ v'.ownBlock = some k := by
  simp only [DM.fp, List.mem_cons, List.mem_append, Option.mem_toList, List.mem_filterMap] at h ⊢
  rcases h with h | h | h | h | h | ⟨u, hu, hk⟩
  · exact .inl (.inl h)
  · exact .inl (.inr (.inl h))
  · exact .inl (.inr (.inr (.inl h)))
  · exact .inl (.inr (.inr (.inr (.inl h))))
  · exact .inl (.inr (.inr (.inr (.inr (.inl h)))))
  · rcases List.mem_or_eq_of_mem_set hu with h | rfl
    · exact .inl (.inr (.inr (.inr (.inr (.inr ⟨u, h, hk⟩)))))
    · exact .inr hk
theorem nodup_two : ∀ {l : List Value}, (l.filterMap Value.ownBlock).Nodup → ∀ {i j : Nat} {u v : Value} {g : Nat}, l[i]? = some u → l[j]? = some v → i ≠ j → u.ownBlock = some g → v.ownBlock = some g → False
  | [], _, _, _, _, _, _, h, _, _, _, _ => by cases h
  | x :: l, hn, i, j, u, v, g, hu, hv, hij, hug, hvg => by
    have hn' : (l.filterMap Value.ownBlock).Nodup := by
      rw [List.filterMap_cons] at hn
      split at hn
      · exact hn
      · exact (List.nodup_cons.1 hn).2
    have key : ∀ {y : Value} {a : Nat}, l[a]? = some y → y.ownBlock = some g → x.ownBlock = some g → False := by
      intro y a hy hyg hxg
      rw [List.filterMap_cons, hxg] at hn
      exact (List.nodup_cons.1 hn).1 (List.mem_filterMap.2 ⟨y, List.mem_of_getElem? hy, hyg⟩)
    cases i with
    | zero =>
      cases j with
      | zero => exact hij rfl
      | succ j => simp at hu hv; subst hu; exact key hv hvg hug
    | succ i =>
      cases j with
      | zero => simp at hu hv; subst hv; exact key hu hug hvg
      | succ j => exact nodup_two hn' (by simpa using hu) (by simpa using hv) (fun e => hij (by rw [e])) hug hvg
theorem append_fin (m : DM) (s : DS) (i : Nat) (hi : i < s.files.length) (w w1 : World) (g c : Nat) (v v' : Value) (b : List UInt8) (D1 : DiskAt w m s)
    (hfv : m.fv = .slice (some ⟨g, 0, none⟩) s.files.length c) (hv : m.bs[i]? = some v)
    (hown : w1.ownsRow 0 5 1 v' ((s.files[i]).b ++ b).length (((s.files[i]).b ++ b).map bv))
    (hg : w.drew.grownBy w1 v.ownBlock) (hat : v'.ownBlock = v.ownBlock ∨ v'.ownBlock = some w.drew.heap.size) :
    DiskAt (w1.setCell ⟨g, i * 2, none⟩ v') { m with bs := m.bs.set i v' } { s with files := s.files.set i ⟨(s.files[i]).b ++ b, (s.files[i]).sure⟩ } ∧
    Mod m.fp ({ m with bs := m.bs.set i v' } : DM).fp w (w1.setCell ⟨g, i * 2, none⟩ v') := by
  have hlt := D1.lt
  obtain ⟨n1, n2, n3, hf, hc, hb⟩ := D1.notD
  have hgo : m.fv.ownBlock = some g := by rw [hfv]; rfl
  have hgf := hf g hgo
  have hsz : w.drew.heap.size = w.heap.size := rfl
  have hnd := D1.nodup
  rw [DM.fp_eq] at hnd
  simp only [List.nodup_append, List.mem_append, ne_eq] at hnd
  have hbl := (List.getElem?_eq_some_iff.1 hv).1
  have hkk : ∀ k, k < w.heap.size → some k ≠ v.ownBlock → w1.heap[k]? = w.heap[k]? := fun k hk hn => hg.block k hk hn
  have hk : ∀ k, k ∈ m.fp → k ≠ g → some k ≠ v.ownBlock → (w1.setCell ⟨g, i * 2, none⟩ v').heap[k]? = w.heap[k]? := fun k hk hn h =>
    (heap_setCell_other _ _ _ _ hn).trans (hkk k (hlt k hk) h)
  have hgv : some g ≠ v.ownBlock := fun e => hnd.2.1.2.2 g (by simp [hgo]) g (.inr (List.mem_filterMap.2 ⟨v, List.mem_of_getElem? hv, e.symm⟩)) rfl
  have hat' : v'.ownBlock = v.ownBlock ∨ ∃ g', v'.ownBlock = some g' ∧ w.heap.size ≤ g' := by
    rcases hat with e | e
    · exact .inl e
    · exact .inr ⟨_, e, by omega⟩
  have hbd := fun (e : some m.D = v.ownBlock) => (hb i v m.D hv e.symm).1 rfl
  have hbm := fun (e : some m.M = v.ownBlock) => (hb i v m.M hv e.symm).2.1 rfl
  have hbs := fun (e : some m.S = v.ownBlock) => (hb i v m.S hv e.symm).2.2 rfl
  refine ⟨⟨(hk _ (by simp [DM.fp]) (Ne.symm hgf.1) hbd).trans D1.disk, (hk _ (by simp [DM.fp]) (Ne.symm hgf.2.1) hbm).trans D1.names, (hk _ (by simp [DM.fp]) (Ne.symm hgf.2.2) hbs).trans D1.sured, ?_, by simp [D1.len], ?_, own_keep D1.changes (fun g' hg' => hk g' (mem_fp_c hg') ?_ ?_), ?_⟩, ?_⟩
  · dsimp only
    rw [List.length_set, fCells_set m.bs s.files i v' _ D1.len (fun f0 h0 => by rw [List.getElem?_eq_getElem hi] at h0; cases h0; rfl), hfv]
    refine own_setCell ?_ _ _
    rw [← hfv]
    exact own_keep D1.files (fun g' hg' => hkk g' (own_lt D1.files hg') (fun e => by rw [hgo] at hg'; cases hg'; exact hgv e))
  · intro j u f hu hff
    by_cases hj : i = j
    · subst hj
      rw [List.getElem?_set_self hbl] at hu
      rw [List.getElem?_set_self hi] at hff
      cases hu; cases hff
      refine own_keep hown (fun g' hg' => heap_setCell_other _ _ _ _ ?_)
      intro e
      rcases hat' with e2 | ⟨g2, e2, hl2⟩
      · rw [e2] at hg'; exact hgv (by rw [hg', e])
      · rw [e2] at hg'
        have := Option.some.inj hg'
        have := own_lt D1.files hgo
        have : g' = g := e
        omega
    · rw [List.getElem?_set_ne hj] at hu
      rw [List.getElem?_set_ne hj] at hff
      refine own_keep (D1.bytes j u f hu hff) (fun g' hg' => hk g' (mem_fp_b hu hg') ?_ ?_)
      · intro e; subst e
        exact hnd.2.1.2.2 g' (by simp [hgo]) g' (.inr (List.mem_filterMap.2 ⟨u, List.mem_of_getElem? hu, hg'⟩)) rfl
      · intro e
        exact nodup_two hnd.2.1.2.1.2.1 hv hu hj e.symm hg'
  · intro e; subst e
    exact hnd.2.1.2.2 g' (by simp [hgo]) g' (.inl (by simp [hg'])) rfl
  · intro e
    exact hnd.2.1.2.1.2.2 g' (by simp [hg']) g' (List.mem_filterMap.2 ⟨v, List.mem_of_getElem? hv, e.symm⟩) rfl
  · refine nodup_b D1.nodup hv ?_
    rcases hat' with e | ⟨g', e, hg'⟩
    · exact .inl e
    · exact .inr ⟨g', e, fun h => by have := hlt g' h; omega⟩
  · refine ⟨hg.os, hg.tape, hg.output, ?_, fun k hk hn => ?_, fun k hk => ?_⟩
    · have := hg.size; simp; omega
    · exact (heap_setCell_other _ _ _ _ (fun e => hn (by rw [e]; exact mem_fp_f hgo))).trans (hkk k hk (fun e => hn (mem_fp_b hv e.symm)))
    · rcases mem_fp_bs hk with h | h
      · exact .inl h
      · rcases hat' with e | ⟨g', e, hg'⟩
        · exact .inl (mem_fp_b hv (e.symm.trans h))
        · rw [e] at h; cases h; exact .inr hg'
end Go.Proofs.Herb
