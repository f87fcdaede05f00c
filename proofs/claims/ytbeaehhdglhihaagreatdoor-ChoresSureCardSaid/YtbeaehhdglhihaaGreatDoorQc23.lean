/- A file more on a disk, with bytes of the call's own; and slices.Clone's bytes, owned. For a disk as DiskAt says. -/
import Derived.Test.YtbeaehhdglhihaaGreatDoorQc22
namespace Go.Proofs.Herb
open Go.RowKit
set_option maxRecDepth 100000 in
set_option maxHeartbeats 400000 in
theorem dclone_own (a : Option Addr) (n c : Nat) (l : List UInt8) (w : World) (hn : l.length = n) (hc : n ≤ c) (hm : n ≤ 4194304) (hr : Rd w a (l.map bv)) (ha : a = none → c = 0) :
    Calls Tryz.prog 63 #[.slice a n c] w fun e w' => ∃ v, e = .returned v ∧ w'.ownsRow w.heap.size 5 1 v n (l.map bv) ∧ Below w.heap.size w w' := by
  have heq := fun (w : World) (a : Option Addr) (n c : Nat) => Lib.run_eql_slice_nil (P := Tryz.prog) w 75 5 a n c 0 0 Tryz.underlying75
  cases a with
  | none =>
    have Hr := hid hr
    clear hr
    obtain rfl := ha rfl
    obtain rfl : n = 0 := by omega
    go_enter Tryz.func63, Tryz.ntmps63
    go_wp2
    go_ret
    exact ⟨_, rfl, ⟨by simp [hn], .inl ⟨rfl, rfl⟩⟩, Below.refl _ _⟩
  | some ad =>
    have Hr := hid hr
    have Hn := hid hn
    clear hr hn ha
    go_enter Tryz.func63, Tryz.ntmps63
    go_wp2_with (refine wpList_append_rd rfl (.tmp 5) (.tmp 6) 75 rfl w.heap.size 5 _ 1 1 Tryz.underlying75 infoU8 rfl (by decide) (.slice (some ⟨w.heap.size, 0, none⟩) 0 0) 0 [] rfl (World.ownsRow_made w #[] 0 (Nat.le_refl _) (by decide) rfl) _ n c (l.map bv) rfl (fun h => by cases h) (by have := Hn.out; simp; omega) (Hr.out.alloc _) bv_one (by unfold maxLen; omega) (by omega) (by simp) ?_; intro v' w1 hown hg hnil)
    go_ret
    refine ⟨_, rfl, by simpa using hown, ?_⟩
    exact ((Below.refl _ _).alloc (Nat.le_refl _) _).grown hg (by simp) (by simp [Value.ownBlock])
theorem own_base {w : World} {base : Nat} {e : TypeId} {k : Nat} {v : Value} {n : Nat} {xs : List Value} (h : w.ownsRow base e k v n xs) : w.ownsRow 0 e k v n xs :=
  ⟨h.1, h.2.imp id fun ⟨g, cap, cur, hv, _, r⟩ => ⟨g, cap, cur, hv, Nat.zero_le _, r⟩⟩
theorem fp_more (m : DM) (fv v : Value) : ({ m with fv := fv, bs := m.bs ++ [v] } : DM).fp = ({ m with fv := fv } : DM).fp ++ v.ownBlock.toList := by
  simp only [DM.fp, List.filterMap_append, List.cons_append, List.append_assoc]
  congr 6
theorem files_more (m : DM) (s : DS) (w0 w w1 : World) (q : Option Addr) (c : Nat) (lit : Obj) (v : Value) (f : DF) (D0 : DiskAt w0 m s) (hB : Below w0.heap.size w0 w)
    (hv : w.ownsRow w0.heap.size 5 1 v f.b.length (f.b.map bv))
    (hown : w1.ownsRow 0 109 2 (.slice q (s.files.length + 1) c) (s.files.length + 1) (dfCells m.bs s.files ++ [v, .int .i64 (f.sure : Int)]))
    (hg : (w.alloc lit).grownBy w1 m.fv.ownBlock) (hat : (Value.slice q (s.files.length + 1) c).ownBlock = m.fv.ownBlock ∨ (Value.slice q (s.files.length + 1) c).ownBlock = some (w.alloc lit).heap.size) :
    DiskAt (w1.setCell ⟨m.D, 3, none⟩ (.slice q (s.files.length + 1) c)) { m with fv := .slice q (s.files.length + 1) c, bs := m.bs ++ [v] } { s with files := s.files ++ [f] } ∧
    Mod m.fp ({ m with fv := .slice q (s.files.length + 1) c, bs := m.bs ++ [v] } : DM).fp w0 (w1.setCell ⟨m.D, 3, none⟩ (.slice q (s.files.length + 1) c)) := by
  have D1 := D0.below hB
  have hlt0 := D0.lt
  have hlt := D1.lt
  have hvl := hv.lt
  obtain ⟨n1, n2, n3, hf, hc, hb⟩ := D1.notD
  have hfne : some m.D ≠ m.fv.ownBlock := fun e => (hf m.D e.symm).1 rfl
  have hDl := lt_of_block D1.disk
  have hsz : (w.alloc lit).heap.size = w.heap.size + 1 := by simp
  have hkk : ∀ k, k < w.heap.size → some k ≠ m.fv.ownBlock → w1.heap[k]? = w.heap[k]? := fun k hk hn =>
    (hg.block k (by omega) hn).trans (by first | exact heap_alloc_old w _ hk | exact heap_alloc_old w _ _ hk)
  have hk : ∀ k, k ∈ m.fp → k ≠ m.D → some k ≠ m.fv.ownBlock → (w1.setCell ⟨m.D, 3, none⟩ (.slice q (s.files.length + 1) c)).heap[k]? = w.heap[k]? := fun k hk hn h =>
    (heap_setCell_other _ _ _ _ hn).trans (hkk k (hlt k hk) h)
  have hat' : (Value.slice q (s.files.length + 1) c).ownBlock = m.fv.ownBlock ∨ ∃ g, (Value.slice q (s.files.length + 1) c).ownBlock = some g ∧ w.heap.size ≤ g := by
    rcases hat with e | e
    · exact .inl e
    · exact .inr ⟨_, e, by omega⟩
  have hvn : ∀ g, v.ownBlock = some g → g ∉ m.fp := fun g hgv hm => by
    have := hlt0 g hm
    have := (hvl g hgv).1
    omega
  have hnd := D1.nodup
  rw [DM.fp_eq] at hnd
  simp only [List.nodup_append, List.mem_append, ne_eq] at hnd
  have hmfv : ∀ k, k ∈ ({ m with fv := .slice q (s.files.length + 1) c } : DM).fp → k ∈ m.fp ∨ (Value.slice q (s.files.length + 1) c).ownBlock = some k := fun k h => mem_fp_fv (bs := m.bs) rfl h
  refine ⟨⟨heap_setCell_same _ _ _ _ _ _ ((hkk _ hDl hfne).trans D1.disk), (hk _ (by simp [DM.fp]) (Ne.symm n1) (fun e => (hf _ e.symm).2.1 rfl)).trans D1.names, (hk _ (by simp [DM.fp]) (Ne.symm n2) (fun e => (hf _ e.symm).2.2 rfl)).trans D1.sured, ?_, by simp [D1.len], ?_, own_keep D1.changes (fun g hg => hk g (mem_fp_c hg) (hc g hg).1 ?_), ?_⟩, ?_⟩
  · dsimp only
    rw [List.length_append, dfCells_append _ _ _ _ D1.len]
    refine own_keep hown fun g hgo => heap_setCell_other _ _ _ _ ?_
    rcases hat' with e | ⟨g', e, hg'⟩
    · rw [e] at hgo; intro e2; subst e2; exact hfne hgo.symm
    · rw [e] at hgo; have := Option.some.inj hgo; show g ≠ m.D; omega
  · intro i u f' hu hff
    by_cases hi : i < m.bs.length
    · have hi2 : i < s.files.length := by rw [← D1.len]; exact hi
      rw [List.getElem?_append_left hi] at hu
      rw [List.getElem?_append_left hi2] at hff
      refine own_keep (D1.bytes i u f' hu hff) (fun g hg => hk g (mem_fp_b hu hg) (hb i u g hu hg).1 ?_)
      intro e
      exact hnd.2.1.2.2 g (by simp [← e]) g (.inr (List.mem_filterMap.2 ⟨u, List.mem_of_getElem? hu, hg⟩)) rfl
    · have hi2 : s.files.length ≤ i := by rw [← D1.len]; omega
      rw [List.getElem?_append_right (by omega)] at hu
      rw [List.getElem?_append_right hi2] at hff
      obtain ⟨h1, rfl⟩ := List.getElem?_eq_some_iff.1 hu
      obtain ⟨h2, rfl⟩ := List.getElem?_eq_some_iff.1 hff
      simp only [List.getElem_singleton] at hu hff ⊢
      refine own_keep (own_base hv) (fun g hgv => (heap_setCell_other _ _ _ _ (fun e => hvn g hgv (by rw [e]; simp [DM.fp]))).trans (hkk g (hvl g hgv).2 (fun e => hvn g hgv (mem_fp_f e.symm))))
  · intro e
    exact hnd.2.1.2.2 g (by simp [← e]) g (.inl (by simp [hg])) rfl
  · rw [fp_more]
    refine List.nodup_append.2 ⟨?_, ?_, ?_⟩
    · refine nodup_fv (bs' := m.bs) D1.nodup rfl ?_
      rcases hat' with e | ⟨g', e, hg'⟩
      · exact .inl e
      · exact .inr ⟨g', e, fun h => by have := hlt g' h; omega⟩
    · cases v.ownBlock <;> simp
    · intro a ha b hb' e
      subst e
      simp only [Option.mem_toList] at hb'
      rcases hmfv a ha with h | h
      · exact hvn a hb' h
      · rcases hat' with e | ⟨g', e, hg'⟩
        · exact hvn a hb' (mem_fp_f (e.symm.trans h))
        · rw [e] at h; cases h; have := (hvl _ hb').2; omega
  · have hz := hB.size
    refine ⟨hg.os.trans hB.os, hg.tape.trans hB.tape, hg.output.trans hB.output, ?_, fun k hk hn => ?_, fun k hk => ?_⟩
    · have := hg.size; simp; omega
    · exact (heap_setCell_other _ _ _ _ (fun e => hn (by rw [e]; simp [DM.fp]))).trans ((hkk k (by omega) (fun e => hn (mem_fp_f e.symm))).trans (hB.block k hk))
    · rw [fp_more, List.mem_append] at hk
      rcases hk with hk | hk
      · rcases hmfv k hk with h | h
        · exact .inl h
        · rcases hat' with e | ⟨g', e, hg'⟩
          · exact .inl (mem_fp_f (e.symm.trans h))
          · rw [e] at h; cases h; exact .inr (by omega)
      · simp only [Option.mem_toList] at hk
        exact .inr (hvl k hk).1
end Go.Proofs.Herb
