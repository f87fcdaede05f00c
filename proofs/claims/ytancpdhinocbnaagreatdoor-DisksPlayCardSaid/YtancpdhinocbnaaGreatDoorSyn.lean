/- The contract of the disk's Sync. For a disk as DiskAt says. -/
import Derived.Test.YtancpdhinocbnaaGreatDoorMap
import Derived.StillTailTactics
namespace Go.Proofs.Herb
open Go.RowKit
theorem fCells_sure : ∀ (bs : List Value) (fs : List DF) (i : Nat) (f : DF), bs.length = fs.length → fCells bs (fs.set i f) = (fCells bs fs).set (i * 2 + 1) (.int .i64 (f.sure : Int))
  | [], [], _, _, _ => by simp [fCells]
  | b :: bs, g :: fs, 0, f, _ => by simp [fCells]
  | b :: bs, g :: fs, i + 1, f, hl => by
    have := fCells_sure bs fs i f (by simpa using hl)
    have e : (i + 1) * 2 + 1 = (i * 2 + 1) + 1 + 1 := by omega
    rw [e]
    simp only [List.set_cons_succ, fCells, this]
  | [], _ :: _, _, _, h => by cases h
  | _ :: _, [], _, _, h => by cases h
theorem DiskAt.fv_own {w : World} {m : DM} {s : DS} (h : DiskAt w m s) {g : Nat} (hg : m.fv.ownBlock = some g) :
    g ≠ m.D ∧ g ≠ m.M ∧ g ≠ m.S ∧ (∀ g', m.cv.ownBlock = some g' → g' ≠ g) ∧ (∀ (i : Nat) v g', m.bs[i]? = some v → v.ownBlock = some g' → g' ≠ g) := by
  obtain ⟨n1, n2, n3, hf, hc, hb⟩ := h.notD
  obtain ⟨a1, a2, a3⟩ := hf g hg
  have hnd := h.nodup
  rw [DM.fp_eq] at hnd
  simp only [List.nodup_append, List.mem_append, ne_eq] at hnd
  refine ⟨a1, a2, a3, fun g' hg' e => ?_, fun i v g' hv hg' e => ?_⟩
  · subst e; exact hnd.2.1.2.2 g' (by simp [hg]) g' (.inl (by simp [hg'])) rfl
  · subst e; exact hnd.2.1.2.2 g' (by simp [hg]) g' (.inr (List.mem_filterMap.2 ⟨v, List.mem_of_getElem? hv, hg'⟩)) rfl
theorem DiskAt.setSure {w : World} {m : DM} {s : DS} (h : DiskAt w m s) {i : Nat} (hi : i < s.files.length) {g c : Nat} (n : Nat)
    (hfv : m.fv = .slice (some ⟨g, 0, none⟩) s.files.length c) :
    DiskAt (w.setCell ⟨g, i * 2 + 1, none⟩ (.int .i64 (n : Int))) m { s with files := s.files.set i ⟨(s.files[i]).b, n⟩ } := by
  have hgo : m.fv.ownBlock = some g := by rw [hfv]; rfl
  obtain ⟨a1, a2, a3, hc, hb⟩ := h.fv_own hgo
  have hk : ∀ k, k ≠ g → (w.setCell ⟨g, i * 2 + 1, none⟩ (.int .i64 (n : Int))).heap[k]? = w.heap[k]? := fun k hk => heap_setCell_other _ _ _ _ hk
  refine ⟨(hk _ (Ne.symm a1)).trans h.disk, (hk _ (Ne.symm a2)).trans h.names, (hk _ (Ne.symm a3)).trans h.sured, ?_, by simp [h.len], ?_, own_keep h.changes (fun g' hg' => hk g' (hc g' hg')), h.nodup⟩
  · dsimp only
    rw [List.length_set, fCells_sure m.bs s.files i _ h.len, hfv]
    refine own_setCell ?_ _ _
    rw [← hfv]
    exact h.files
  · intro j u f hu hff
    dsimp only at hff
    have hbx := h.bytes j u
    by_cases hj : i = j
    · subst hj
      rw [List.getElem?_set_self hi] at hff
      cases hff
      exact own_keep (hbx s.files[i] hu (List.getElem?_eq_getElem hi)) (fun g' hg' => hk g' (hb i u g' hu hg'))
    · rw [List.getElem?_set_ne hj] at hff
      exact own_keep (hbx f hu hff) (fun g' hg' => hk g' (hb j u g' hu hg'))
theorem Mod.at_ {w : World} {m : DM} {g : Nat} (hg : g ∈ m.fp) (j : Nat) (v : Value) : Mod m.fp m.fp w (w.setCell ⟨g, j, none⟩ v) :=
  ⟨rfl, rfl, rfl, by simp, fun k _ hn => heap_setCell_other _ _ _ _ (fun e => hn (by rw [e]; exact hg)), fun _ h => .inl h⟩
def syncE (s : DS) (k : ByteArray) : Int := if knownE s k ≠ 0 then knownE s k else letsE s
def syncS (s : DS) (k : ByteArray) : DS :=
  if knownE s k ≠ 0 then s else if letsE s ≠ 0 then letsS s else { letsS s with files := s.files.modify ((look s.names k).getD 0) fun f => ⟨f.b, f.b.length⟩ }
set_option maxRecDepth 100000 in
set_option maxHeartbeats 1600000 in
theorem sync_any (m : DM) (s : DS) (k : ByteArray) (hk : k.size ≤ maxLen) (w : World) (h : DiskAt w m s) (hd : DirOk s.names s.nclock s.files.length) (h1 : -1 ≤ s.fuse) (h2 : s.fuse ≤ 9223372036854775807) :
    Calls Tryz.prog 18 #[.pointer (some ⟨m.D, 0, none⟩), .string k] w fun e w' => e = .returned (.int .i64 (syncE s k)) ∧ DiskAt w' m (syncS s k) ∧ Mod m.fp m.fp w w' := by
  have hE : syncE s k = if knownE s k ≠ 0 then knownE s k else letsE s := rfl
  have hS : syncS s k = if knownE s k ≠ 0 then s else if letsE s ≠ 0 then letsS s else { letsS s with files := s.files.modify ((look s.names k).getD 0) fun f => ⟨f.b, f.b.length⟩ } := rfl
  by_cases q : knownE s k = 0
  · obtain ⟨i, hi, hkn, hil⟩ := known_ok q hd
    simp only [q, ne_eq, not_true_eq_false, if_false] at hE hS
    have Q := hid q
    have Hkn := hid hkn
    have H := hid h
    clear q hkn h hd
    by_cases q3 : letsE s = 0
    · rw [q3, if_neg (fun h => h rfl), hi, Option.getD_some] at hS
      rw [q3] at hE
      have hE := hid hE
      have hS := hid hS
      have Q3 := hid q3
      clear q3 hi
      go_enter Tryz.func18, Tryz.ntmps18
      go_upto_region 7 with (first
        | (go_at_call 46; refine (known_any m s k hk _ H.out).mono ?_; rintro e w' ⟨rfl, rfl⟩; rw [Q.out, Hkn.out]; dsimp only)
        | (go_at_call 47; refine (lets_any m s _ H.out h1 h2).mono ?_; rintro e w1 ⟨rfl, hD1, hM1⟩; rw [Q3.out]; have hD1 := hid hD1; have hM1 := hid hM1; dsimp only))
      obtain ⟨l1, _⟩ := lets_files s
      have hil1 : i < (letsS s).files.length := by rw [l1]; exact hil
      have hfl : (letsS s).files.length = s.files.length := by rw [l1]
      have i1 : (i : Int) < (s.files.length : Int) := by omega
      have i0 : (0 : Int) ≤ (i : Int) := by omega
      refine wp_region_still_tail 14 (by kernel_rfl) (by kernel_rfl) ?_
      simp only [List.take_succ_cons, List.take_zero, List.drop_succ_cons, List.drop_zero]
      change wpStill Tryz.prog _ w1.drew (fun a' => wpList _ _ _ _ a' w1.drew) _ _
      obtain ⟨w6, hw6, hB6⟩ : ∃ w6, w1.drew = w6 ∧ Below w1.heap.size w1 w6 := ⟨_, rfl, (Below.refl _ _).drew⟩
      rw [hw6]
      have hD6 := hD1.out.below hB6
      have HM6 := hid (hM1.out.trans (Mod.of_below m.fp hB6))
      clear hw6 hB6
      obtain ⟨g, cf, q0, k0, hfv, hc1, hbi, hk1, hk2, hqn, hce, hsu, _, hfr, hgl⟩ := hD6.file hil1
      have d3 := hD6.cells.2.2.2.1
      rw [hfv] at d3
      simp only [l1] at d3 hc1 hk1 hce hbi hsu
      have f3 := hfr (i * 2 + 1)
      have HD6 := hid hD6
      have HFv := hid hfv
      obtain ⟨nb, hnb⟩ : ∃ nb, nb = (s.files[i]).b.length := ⟨_, rfl⟩
      rw [← hnb] at hk1 hce
      have HNb := hid hnb
      clear hbi hfv hD6 hnb hfr
      still_step
      still_step
      still_step
      still_step
      still_step
      still_step
      still_step
      still_step
      still_step
      still_step
      still_step
      still_step
      still_step
      still_step
      refine wpStill_nil ?_
      go_wp2
      go_ret
      have hF := HD6.out.setSure hil1 nb HFv.out
      refine ⟨by rw [hE.out]; rfl, ?_, HM6.out.trans (Mod.at_ (mem_fp_f (by rw [HFv.out]; rfl)) _ _)⟩
      rw [hS.out, modify_set hil]
      simp only [l1] at hF
      rw [HNb.out] at hF ⊢
      exact hF
    · have q4 : letsE s = 10 := by unfold letsE at q3 ⊢; split at q3 <;> simp_all
      rw [if_pos q3] at hS
      rw [q4] at hE
      have Q3 := hid q4
      have hE := hid hE
      have hS := hid hS
      clear q3 q4
      go_enter Tryz.func18, Tryz.ntmps18
      go_wp2_with (first
        | (go_at_call 46; refine (known_any m s k hk _ H.out).mono ?_; rintro e w' ⟨rfl, rfl⟩; rw [Q.out, Hkn.out])
        | (go_at_call 47; refine (lets_any m s _ H.out h1 h2).mono ?_; rintro e w1 ⟨rfl, hD1, hM1⟩; rw [Q3.out]; have hD1 := hid hD1; have hM1 := hid hM1))
      go_ret
      exact ⟨by rw [hE.out]; rfl, by rw [hS.out]; exact hD1.out, hM1.out⟩
  · rw [if_pos q] at hE
    rw [if_pos q] at hS
    have b1 : (knownE s k != 0) = true := by simpa using q
    have hE := hid hE
    have hS := hid hS
    have H := hid h
    clear h q
    go_enter Tryz.func18, Tryz.ntmps18
    go_wp2_with (go_at_call 46; refine (known_any m s k hk w H.out).mono ?_; rintro e w' ⟨rfl, rfl⟩)
    go_ret
    exact ⟨by rw [hE.out]; rfl, by rw [hS.out]; exact H.out, Mod.refl _ _⟩
end Go.Proofs.Herb
