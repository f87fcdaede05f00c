/- The contracts of the disk's SetRoom, Fuse, Remove, Rename, SyncDir and Loose. For a disk as DiskAt says. -/
import Derived.Test.YtancpdhinocbnaaGreatDoorDst
namespace Go.Proofs.Herb
open Go.RowKit
def setRoomE (n : Int) : Int := if n < 0 ∨ 4194304 < n then 1 else 0
def setRoomS (s : DS) (n : Int) : DS := if n < 0 ∨ 4194304 < n then s else { s with room := n }
set_option maxHeartbeats 800000 in
theorem setRoom_any (m : DM) (s : DS) (n : Int) (w : World) (h : DiskAt w m s) :
    Calls Tryz.prog 61 #[.pointer (some ⟨m.D, 0, none⟩), .int .i64 n] w fun e w' => e = .returned (.int .i64 (setRoomE n)) ∧ DiskAt w' m (setRoomS s n) ∧ Mod m.fp m.fp w w' := by
  obtain ⟨c0, _, _, _, _, _, _⟩ := h.cells
  have f0 := h.free 0
  have H := hid h
  clear h
  by_cases h1 : n < 0
  · have b1 : decide (n < 0) = true := by simpa using h1
    have hE : Hid (setRoomE n = 1 ∧ setRoomS s n = s) := hid ⟨if_pos (.inl h1), if_pos (.inl h1)⟩
    clear h1
    go_enter Tryz.func61, Tryz.ntmps61
    go_wp2_with (go_at_call 27; refine (there_any m s w H.out).mono ?_; rintro e w1 ⟨rfl, rfl⟩)
    go_ret
    exact ⟨by rw [hE.out.1]; rfl, by rw [hE.out.2]; exact H.out, Mod.refl _ _⟩
  · have b1 : decide (n < 0) = false := by simpa using h1
    by_cases h2 : 4194304 < n
    · have b2 : decide (4194304 < n) = true := by simpa using h2
      have hE : Hid (setRoomE n = 1 ∧ setRoomS s n = s) := hid ⟨if_pos (.inr h2), if_pos (.inr h2)⟩
      clear h1 h2
      go_enter Tryz.func61, Tryz.ntmps61
      go_wp2_with (go_at_call 27; refine (there_any m s w H.out).mono ?_; rintro e w1 ⟨rfl, rfl⟩)
      go_ret
      exact ⟨by rw [hE.out.1]; rfl, by rw [hE.out.2]; exact H.out, Mod.refl _ _⟩
    · have b2 : decide (4194304 < n) = false := by simpa using h2
      have hE : Hid (setRoomE n = 0 ∧ setRoomS s n = { s with room := n }) := hid ⟨if_neg (by omega), if_neg (by omega)⟩
      clear h1 h2
      go_enter Tryz.func61, Tryz.ntmps61
      go_wp2_with (go_at_call 27; refine (there_any m s w H.out).mono ?_; rintro e w1 ⟨rfl, rfl⟩)
      go_ret
      exact ⟨by rw [hE.out.1]; rfl, by rw [hE.out.2]; exact H.out.turnD n s.fuse s.dead (heap_setCell_same _ _ _ _ _ _ H.out.disk) (fun k hk => heap_setCell_other _ _ _ _ hk), Mod.one (fun k hk => heap_setCell_other _ _ _ _ hk) (by simp) rfl rfl rfl⟩
def fuseE (n : Int) : Int := if n < 0 then 1 else 0
def fuseS (s : DS) (n : Int) : DS := if n < 0 then s else { s with fuse := n }
set_option maxHeartbeats 800000 in
theorem fuseI_any (m : DM) (s : DS) (n : Int) (w : World) (h : DiskAt w m s) :
    Calls Tryz.prog 25 #[.pointer (some ⟨m.D, 0, none⟩), .int .i64 n] w fun e w' => e = .returned (.int .i64 (fuseE n)) ∧ DiskAt w' m (fuseS s n) ∧ Mod m.fp m.fp w w' := by
  by_cases h1 : n < 0
  · have b1 : decide (n < 0) = true := by simpa using h1
    have hE : Hid (fuseE n = 1 ∧ fuseS s n = s) := hid ⟨if_pos h1, if_pos h1⟩
    have H := hid h
    clear h1 h
    go_enter Tryz.func25, Tryz.ntmps25
    go_wp2_with (go_at_call 27; refine (there_any m s w H.out).mono ?_; rintro e w1 ⟨rfl, rfl⟩)
    go_ret
    exact ⟨by rw [hE.out.1]; rfl, by rw [hE.out.2]; exact H.out, Mod.refl _ _⟩
  · obtain ⟨k, rfl⟩ : ∃ k : Nat, n = (k : Int) := ⟨n.toNat, by omega⟩
    refine (fuse_any m s k w h).mono ?_
    rintro e w' ⟨rfl, h2, h3⟩
    exact ⟨by unfold fuseE; rw [if_neg h1], by unfold fuseS; rw [if_neg h1]; exact h2, h3⟩
set_option maxHeartbeats 800000 in
theorem remove_any (m : DM) (s : DS) (k : ByteArray) (hk : k.size ≤ maxLen) (w : World) (h : DiskAt w m s) (h1 : -1 ≤ s.fuse) (h2 : s.fuse ≤ 9223372036854775807) (hl : s.changes.length ≤ 1000000000) :
    Calls Tryz.prog 58 #[.pointer (some ⟨m.D, 0, none⟩), .string k] w fun e w' => ∃ m', e = .returned (.int .i64 (removeE s k)) ∧ DiskAt w' m' (removeS s k) ∧ m'.D = m.D ∧ Mod m.fp m'.fp w w' := by
  have hE : removeE s k = if knownE s k ≠ 0 then knownE s k else letsE s := rfl
  have hS : removeS s k = if knownE s k ≠ 0 then s else if letsE s ≠ 0 then letsS s else turnS (letsS s) ⟨k, -1, ⟨#[]⟩⟩ := rfl
  have H := hid h
  clear h
  by_cases q : knownE s k = 0
  · simp only [q, ne_eq, not_true_eq_false, if_false] at hE hS
    have Q := hid q
    clear q
    by_cases q3 : letsE s = 0
    · rw [q3, if_neg (fun h => h rfl)] at hS
      rw [q3] at hE
      have hE := hid hE
      have hS := hid hS
      have Q3 := hid q3
      have l6 := (lets_files s).2.2.2.2.2.1
      have hl' : Hid ((letsS s).changes.length ≤ 1000000000) := hid (by rw [l6]; exact hl)
      clear q3 l6
      go_enter Tryz.func58, Tryz.ntmps58
      go_wp2_with (first
        | (go_at_call 46; refine (known_any m s k hk _ H.out).mono ?_; rintro e w' ⟨rfl, rfl⟩; rw [Q.out])
        | (go_at_call 47; refine (lets_any m s _ H.out h1 h2).mono ?_; rintro e w1 ⟨rfl, hD1, hM1⟩; rw [Q3.out]; have hD1 := hid hD1; have hM1 := hid hM1)
        | (go_at_call 48; refine (turns_any m (letsS s) ⟨k, -1, ⟨#[]⟩⟩ _ hD1.out hl'.out).mono ?_; rintro e w3 ⟨v3, rfl, hD3, hM3⟩; have hD3 := hid hD3; have hM3 := hid hM3))
      go_ret
      exact ⟨{ m with cv := v3 }, by rw [hE.out]; rfl, by rw [hS.out]; exact hD3.out, rfl, hM1.out.trans hM3.out⟩
    · have q4 : letsE s = 10 := by unfold letsE at q3 ⊢; split at q3 <;> simp_all
      rw [if_pos q3] at hS
      rw [q4] at hE
      have Q3 := hid q4
      have hE := hid hE
      have hS := hid hS
      clear q3 q4
      go_enter Tryz.func58, Tryz.ntmps58
      go_wp2_with (first
        | (go_at_call 46; refine (known_any m s k hk _ H.out).mono ?_; rintro e w' ⟨rfl, rfl⟩; rw [Q.out])
        | (go_at_call 47; refine (lets_any m s _ H.out h1 h2).mono ?_; rintro e w1 ⟨rfl, hD1, hM1⟩; rw [Q3.out]; have hD1 := hid hD1; have hM1 := hid hM1))
      go_ret
      exact ⟨m, by rw [hE.out]; rfl, by rw [hS.out]; exact hD1.out, rfl, hM1.out⟩
  · rw [if_pos q] at hE
    rw [if_pos q] at hS
    have b1 : (knownE s k != 0) = true := by simpa using q
    have hE := hid hE
    have hS := hid hS
    clear q
    go_enter Tryz.func58, Tryz.ntmps58
    go_wp2_with (go_at_call 46; refine (known_any m s k hk w H.out).mono ?_; rintro e w' ⟨rfl, rfl⟩)
    go_ret
    exact ⟨m, by rw [hE.out]; rfl, by rw [hS.out]; exact H.out, rfl, Mod.refl _ _⟩
set_option maxHeartbeats 800000 in
theorem syncDir_any (m : DM) (s : DS) (w : World) (h : DiskAt w m s) (h1 : -1 ≤ s.fuse) (h2 : s.fuse ≤ 9223372036854775807) :
    Calls Tryz.prog 17 #[.pointer (some ⟨m.D, 0, none⟩)] w fun e w' => ∃ m', e = .returned (.int .i64 (syncDirE s)) ∧ DiskAt w' m' (syncDirT s) ∧ m'.D = m.D ∧ Mod m.fp m'.fp w w' := by
  have hE : syncDirE s = if aliveE s ≠ 0 then aliveE s else letsE s := rfl
  have hS : syncDirT s = if aliveE s ≠ 0 then s else if letsE s ≠ 0 then letsS s else syncDirS (letsS s) := rfl
  by_cases q : aliveE s = 0
  · by_cases q3 : letsE s = 0
    · refine (syncDir_ok m s w h h1 h2 q q3).mono ?_
      rintro e w' ⟨n, rfl, hd, hm⟩
      rw [hE, hS, if_neg (by simpa using q), if_neg (by simpa using q), if_neg (by simpa using q3), q3]
      exact ⟨_, rfl, hd, rfl, hm⟩
    · refine (syncDir_lets m s w h h1 h2 q q3).mono ?_
      rintro e w' ⟨rfl, hd, hm⟩
      rw [hE, hS, if_neg (by simpa using q), if_neg (by simpa using q), if_pos q3]
      exact ⟨_, rfl, hd, rfl, hm⟩
  · rw [if_pos q] at hE hS
    have q4 : aliveE s = 10 := by unfold aliveE at q ⊢; split at q <;> simp_all
    rw [q4] at hE
    have Q := hid q4
    have hE := hid hE
    have hS := hid hS
    have H := hid h
    clear q q4 h
    go_enter Tryz.func17, Tryz.ntmps17
    go_wp2_with (go_at_call 67; refine (alive_any m s w H.out).mono ?_; rintro e w1 ⟨rfl, rfl⟩; rw [Q.out])
    go_ret
    exact ⟨m, by rw [hE.out]; rfl, by rw [hS.out]; exact H.out, rfl, Mod.refl _ _⟩
def looseN (s : DS) (k : ByteArray) : Int := if foundE s k = 0 then ((((s.files[(look s.names k).getD 0]?).map (·.b.length)).getD 0 : Nat) : Int) - ((((s.files[(look s.names k).getD 0]?).map (·.sure)).getD 0 : Nat) : Int) else 0
theorem found_ok {s : DS} {k : ByteArray} (h : foundE s k = 0) (hd : DirOk s.names s.nclock s.files.length) : ∃ i, look s.names k = some i ∧ foundN s k = (i : Int) ∧ i < s.files.length := by
  unfold foundE at h
  split at h
  · rename_i hm
    split at h
    · rename_i hs
      obtain ⟨i, hi⟩ := Option.isSome_iff_exists.1 hs
      obtain ⟨e, he, rfl⟩ := look_mem hi
      refine ⟨_, hi, ?_, hd.at_ e he⟩
      unfold foundN
      rw [if_pos hm, hi]
      rfl
    · cases h
  · cases h
set_option maxRecDepth 100000 in
set_option maxHeartbeats 1600000 in
theorem loose_any (m : DM) (s : DS) (k : ByteArray) (hk : k.size ≤ maxLen) (w : World) (h : DiskAt w m s) (hd : DirOk s.names s.nclock s.files.length) (hb : ∀ f ∈ s.files, f.sure ≤ f.b.length ∧ f.b.length ≤ 4194304) :
    Calls Tryz.prog 19 #[.pointer (some ⟨m.D, 0, none⟩), .string k] w fun e w' => e = .returned (.tuple #[.int .i64 (looseN s k), .int .i64 (foundE s k)]) ∧ Below w.heap.size w w' := by
  by_cases q : foundE s k = 0
  · obtain ⟨i, hi, hn, hil⟩ := found_ok q hd
    obtain ⟨g, c, q0, k0, hfv, hc1, hbi, hk1, hk2, hqn, hce, hsu, hrd, _, hgl⟩ := h.file hil
    have hL : looseN s k = ((s.files[i]).b.length : Int) - ((s.files[i]).sure : Int) := by unfold looseN; rw [if_pos q, hi, Option.getD_some, List.getElem?_eq_getElem hil]; rfl
    have hbl := hb _ (List.getElem_mem hil)
    have c3 := h.cells.2.2.2.1
    rw [hfv] at c3
    rw [hL, q]
    obtain ⟨nb, hnb⟩ : ∃ nb, nb = (s.files[i]).b.length := ⟨_, rfl⟩
    obtain ⟨ns, hns⟩ : ∃ ns, ns = (s.files[i]).sure := ⟨_, rfl⟩
    rw [← hnb] at hk1 hce hbl ⊢
    rw [← hns] at hsu hbl ⊢
    have i1 : (i : Int) < (s.files.length : Int) := by omega
    have i0 : (0 : Int) ≤ (i : Int) := by omega
    have hw : IntKind.i64.wrap ((nb : Int) - (ns : Int)) = (nb : Int) - (ns : Int) := by rw [IntKind.wrap_i64]; omega
    have H := hid h
    have Q := hid q
    have Hn := hid hn
    clear h q hn hrd hqn hbi hi hL hd hb hnb hns hfv hbl
    go_enter Tryz.func19, Tryz.ntmps19
    go_wp2_with (go_at_call 68; refine (found_any m s k hk w H.out).mono ?_; rintro e w' ⟨rfl, rfl⟩; rw [Q.out, Hn.out])
    go_quiet (fail)
    go_wp2
    go_ret2
    exact ⟨rfl, below_drewN (Below.refl _ _) _⟩
  · have b1 : (foundE s k != 0) = true := by simpa using q
    have hL : looseN s k = 0 := by unfold looseN; rw [if_neg q]
    rw [hL]
    have H := hid h
    clear h q hL hd hb
    go_enter Tryz.func19, Tryz.ntmps19
    go_wp2_with (go_at_call 68; refine (found_any m s k hk w H.out).mono ?_; rintro e w' ⟨rfl, rfl⟩)
    go_ret2
    exact ⟨rfl, Below.refl _ _⟩
theorem toList_inj {a b : ByteArray} (h : a.toList = b.toList) : a = b := by
  rw [ByteArray.toList_eq, ByteArray.toList_eq] at h
  obtain ⟨⟨a⟩⟩ := a
  obtain ⟨⟨b⟩⟩ := b
  simp only at h
  rw [h]
theorem sne {a b : ByteArray} (h : a ≠ b) : (a.toList == b.toList) = false := beq_eq_false_iff_ne.2 fun e => h (toList_inj e)
theorem seq {a b : ByteArray} (h : a = b) : (a.toList == b.toList) = true := by rw [h]; exact beq_self_eq_true _
set_option maxHeartbeats 1600000 in
theorem rename_any (m : DM) (s : DS) (f t : ByteArray) (hk : f.size ≤ maxLen) (ht : t.size ≤ maxLen) (w : World) (h : DiskAt w m s) (h1 : -1 ≤ s.fuse) (h2 : s.fuse ≤ 9223372036854775807) (hl : s.changes.length ≤ 1000000000) :
    Calls Tryz.prog 56 #[.pointer (some ⟨m.D, 0, none⟩), .string f, .string t] w fun e w' => ∃ m', e = .returned (.int .i64 (renameE s f t)) ∧ DiskAt w' m' (renameS s f t) ∧ m'.D = m.D ∧ Mod m.fp m'.fp w w' := by
  have hE : renameE s f t = if renE s f t ≠ 0 then renE s f t else letsE s := rfl
  have hS : renameS s f t = if renE s f t ≠ 0 then s else if letsE s ≠ 0 then letsS s else if f = t then letsS s else turnS (letsS s) ⟨t, (((look s.names f).getD 0 : Nat) : Int), f⟩ := rfl
  have hR : renE s f t = if (knownE s f = 0 ∨ knownE s f = 7) ∧ mayB t = false then 1 else knownE s f := rfl
  have H := hid h
  clear h
  by_cases q : renE s f t = 0
  · obtain ⟨k0, hm⟩ := renE_zero q
    simp only [q, ne_eq, not_true_eq_false, if_false] at hE hS
    have hkn : knownN s f = (((look s.names f).getD 0 : Nat) : Int) := by
      obtain ⟨hdd, hmf, _⟩ := knownE_zero k0
      unfold knownN foundN
      rw [hdd, hmf]; rfl
    have K0 := hid k0
    have HM := hid hm
    have Hkn := hid hkn
    clear q k0 hm hkn hR
    by_cases q3 : letsE s = 0
    · rw [q3, if_neg (fun h => h rfl)] at hS
      rw [q3] at hE
      have hE := hid hE
      have Q3 := hid q3
      have l6 := (lets_files s).2.2.2.2.2.1
      have hl' : Hid ((letsS s).changes.length ≤ 1000000000) := hid (by rw [l6]; exact hl)
      clear q3 l6
      by_cases hft : f = t
      · rw [if_pos hft] at hS
        have hS := hid hS
        have hb := seq hft
        clear hft
        go_enter Tryz.func56, Tryz.ntmps56
        go_wp2_with (first
          | (go_at_call 46; refine (known_any m s f hk _ H.out).mono ?_; rintro e w' ⟨rfl, rfl⟩; rw [K0.out, Hkn.out])
          | (go_at_call 80; refine (may_any t ht _).mono ?_; rintro e w1 ⟨rfl, rfl⟩; rw [HM.out])
          | (go_at_call 47; refine (lets_any m s _ H.out h1 h2).mono ?_; rintro e w1 ⟨rfl, hD1, hM1⟩; rw [Q3.out]; have hD1 := hid hD1; have hM1 := hid hM1))
        go_ret
        exact ⟨m, by rw [hE.out]; rfl, by rw [hS.out]; exact hD1.out, rfl, hM1.out⟩
      · rw [if_neg hft] at hS
        have hS := hid hS
        have hb := sne hft
        clear hft
        go_enter Tryz.func56, Tryz.ntmps56
        go_wp2_with (first
          | (go_at_call 46; refine (known_any m s f hk _ H.out).mono ?_; rintro e w' ⟨rfl, rfl⟩; rw [K0.out, Hkn.out])
          | (go_at_call 80; refine (may_any t ht _).mono ?_; rintro e w1 ⟨rfl, rfl⟩; rw [HM.out])
          | (go_at_call 47; refine (lets_any m s _ H.out h1 h2).mono ?_; rintro e w1 ⟨rfl, hD1, hM1⟩; rw [Q3.out]; have hD1 := hid hD1; have hM1 := hid hM1)
          | (go_at_call 48; refine (turns_any m (letsS s) ⟨t, (((look s.names f).getD 0 : Nat) : Int), f⟩ _ hD1.out hl'.out).mono ?_; rintro e w3 ⟨v3, rfl, hD3, hM3⟩; have hD3 := hid hD3; have hM3 := hid hM3))
        go_ret
        exact ⟨{ m with cv := v3 }, by rw [hE.out]; rfl, by rw [hS.out]; exact hD3.out, rfl, hM1.out.trans hM3.out⟩
    · have q4 : letsE s = 10 := by unfold letsE at q3 ⊢; split at q3 <;> simp_all
      rw [if_pos q3] at hS
      rw [q4] at hE
      have Q3 := hid q4
      have hE := hid hE
      have hS := hid hS
      clear q3 q4
      go_enter Tryz.func56, Tryz.ntmps56
      go_wp2_with (first
        | (go_at_call 46; refine (known_any m s f hk _ H.out).mono ?_; rintro e w' ⟨rfl, rfl⟩; rw [K0.out, Hkn.out])
        | (go_at_call 80; refine (may_any t ht _).mono ?_; rintro e w1 ⟨rfl, rfl⟩; rw [HM.out])
        | (go_at_call 47; refine (lets_any m s _ H.out h1 h2).mono ?_; rintro e w1 ⟨rfl, hD1, hM1⟩; rw [Q3.out]; have hD1 := hid hD1; have hM1 := hid hM1))
      go_ret
      exact ⟨m, by rw [hE.out]; rfl, by rw [hS.out]; exact hD1.out, rfl, hM1.out⟩
  · rw [if_pos q] at hE hS
    have hE := hid hE
    have hS := hid hS
    have key : (knownE s f = 0 ∧ mayB t = false ∧ renE s f t = 1) ∨ (knownE s f = 7 ∧ mayB t = false ∧ renE s f t = 1) ∨ (knownE s f = 7 ∧ mayB t = true ∧ renE s f t = 7) ∨ (knownE s f ≠ 0 ∧ knownE s f ≠ 7 ∧ renE s f t = knownE s f) := by
      by_cases a : knownE s f = 0
      · cases hm : mayB t
        · exact .inl ⟨a, rfl, by rw [hR, if_pos ⟨.inl a, hm⟩]⟩
        · exact absurd (by rw [hR, if_neg (by simp [hm]), a]) q
      · by_cases b : knownE s f = 7
        · cases hm : mayB t
          · exact .inr (.inl ⟨b, rfl, by rw [hR, if_pos ⟨.inr b, hm⟩]⟩)
          · exact .inr (.inr (.inl ⟨b, rfl, by rw [hR, if_neg (by simp [hm]), b]⟩))
        · exact .inr (.inr (.inr ⟨a, b, by rw [hR, if_neg (by simp [a, b])]⟩))
    clear q hR
    rcases key with ⟨k0, hm, hr⟩ | ⟨k0, hm, hr⟩ | ⟨k0, hm, hr⟩ | ⟨k0, k7, hr⟩
    · have K0 := hid k0
      have HM := hid hm
      have HR := hid hr
      clear k0 hm hr
      go_enter Tryz.func56, Tryz.ntmps56
      go_wp2_with (first
        | (go_at_call 46; refine (known_any m s f hk _ H.out).mono ?_; rintro e w' ⟨rfl, rfl⟩; rw [K0.out])
        | (go_at_call 80; refine (may_any t ht _).mono ?_; rintro e w1 ⟨rfl, rfl⟩; rw [HM.out]))
      go_ret
      exact ⟨m, by rw [hE.out, HR.out]; rfl, by rw [hS.out]; exact H.out, rfl, Mod.refl _ _⟩
    · have K0 := hid k0
      have HM := hid hm
      have HR := hid hr
      clear k0 hm hr
      go_enter Tryz.func56, Tryz.ntmps56
      go_wp2_with (first
        | (go_at_call 46; refine (known_any m s f hk _ H.out).mono ?_; rintro e w' ⟨rfl, rfl⟩; rw [K0.out])
        | (go_at_call 80; refine (may_any t ht _).mono ?_; rintro e w1 ⟨rfl, rfl⟩; rw [HM.out]))
      go_ret
      exact ⟨m, by rw [hE.out, HR.out]; rfl, by rw [hS.out]; exact H.out, rfl, Mod.refl _ _⟩
    · have K0 := hid k0
      have HM := hid hm
      have HR := hid hr
      clear k0 hm hr
      go_enter Tryz.func56, Tryz.ntmps56
      go_wp2_with (first
        | (go_at_call 46; refine (known_any m s f hk _ H.out).mono ?_; rintro e w' ⟨rfl, rfl⟩; rw [K0.out])
        | (go_at_call 80; refine (may_any t ht _).mono ?_; rintro e w1 ⟨rfl, rfl⟩; rw [HM.out]))
      go_ret
      exact ⟨m, by rw [hE.out, HR.out]; rfl, by rw [hS.out]; exact H.out, rfl, Mod.refl _ _⟩
    · have b0 : (knownE s f == 0) = false := by simpa using k0
      have b7 : (knownE s f == 7) = false := by simpa using k7
      have b1 : (knownE s f != 0) = true := by simpa using k0
      have HR := hid hr
      clear k0 k7 hr
      go_enter Tryz.func56, Tryz.ntmps56
      go_wp2_with (first
        | (go_at_call 46; refine (known_any m s f hk _ H.out).mono ?_; rintro e w' ⟨rfl, rfl⟩))
      go_ret
      exact ⟨m, by rw [hE.out, HR.out]; rfl, by rw [hS.out]; exact H.out, rfl, Mod.refl _ _⟩
end Go.Proofs.Herb
