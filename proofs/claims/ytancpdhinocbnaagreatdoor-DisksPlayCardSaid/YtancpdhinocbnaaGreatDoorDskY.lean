/- The contract of the disk's Turn. For a disk as DiskAt says. -/
import Derived.Test.YtancpdhinocbnaaGreatDoorDskM
namespace Go.Proofs.Herb
open Go.RowKit
theorem fCells_keep : ∀ (bs : List Value) (fs : List DF) (i : Nat) (f : DF), (∀ f0, fs[i]? = some f0 → f0.sure = f.sure) → fCells bs (fs.set i f) = fCells bs fs
  | [], _, _, _, _ => by simp [fCells]
  | b :: bs, [], _, _, _ => by simp [fCells]
  | b :: bs, g :: fs, 0, f, h => by
    have := h g rfl
    simp [fCells, this]
  | b :: bs, g :: fs, i + 1, f, h => by
    have := fCells_keep bs fs i f (fun f0 h0 => h f0 (by simpa using h0))
    simp only [List.set_cons_succ, fCells, this]
theorem DiskAt.setByte {w : World} {m : DM} {s : DS} (h : DiskAt w m s) {i : Nat} (hi : i < s.files.length) {g n c : Nat} (hv : m.bs[i]? = some (.slice (some ⟨g, 0, none⟩) n c)) (at_ : Nat) (x : UInt8) :
    DiskAt (w.setCell ⟨g, at_, none⟩ (bv x)) m { s with files := s.files.set i ⟨(s.files[i]).b.set at_ x, (s.files[i]).sure⟩ } ∧ g ∈ m.fp := by
  have hgo : (Value.slice (some ⟨g, 0, none⟩) n c).ownBlock = some g := rfl
  obtain ⟨n1, n2, n3, hf, hc, hb⟩ := h.notD
  obtain ⟨a1, a2, a3⟩ := hb i _ g hv hgo
  have hnd := h.nodup
  rw [DM.fp_eq] at hnd
  simp only [List.nodup_append, List.mem_append, ne_eq] at hnd
  have hk : ∀ k, k ≠ g → (w.setCell ⟨g, at_, none⟩ (bv x)).heap[k]? = w.heap[k]? := fun k hk => heap_setCell_other _ _ _ _ hk
  have hgf : ∀ g', m.fv.ownBlock = some g' → g' ≠ g := fun g' hg' e => by
    subst e
    exact hnd.2.1.2.2 g' (by simp [hg']) g' (.inr (List.mem_filterMap.2 ⟨_, List.mem_of_getElem? hv, hgo⟩)) rfl
  have hgc : ∀ g', m.cv.ownBlock = some g' → g' ≠ g := fun g' hg' e => by
    subst e
    exact hnd.2.1.2.1.2.2 g' (by simp [hg']) g' (List.mem_filterMap.2 ⟨_, List.mem_of_getElem? hv, hgo⟩) rfl
  refine ⟨⟨(hk _ (Ne.symm a1)).trans h.disk, (hk _ (Ne.symm a2)).trans h.names, (hk _ (Ne.symm a3)).trans h.sured, ?_, by simp [h.len], ?_, own_keep h.changes (fun g' hg' => hk g' (hgc g' hg')), h.nodup⟩, mem_fp_b hv hgo⟩
  · dsimp only
    rw [List.length_set, fCells_keep m.bs s.files i _ (fun f0 h0 => by rw [List.getElem?_eq_getElem hi] at h0; cases h0; rfl)]
    exact own_keep h.files (fun g' hg' => hk g' (hgf g' hg'))
  · intro j u f hu hff
    dsimp only at hff
    by_cases hj : i = j
    · subst hj
      rw [List.getElem?_set_self hi] at hff
      rw [hv] at hu
      cases hff; cases hu
      have h0 := h.bytes i _ s.files[i] hv (List.getElem?_eq_getElem hi)
      have hn : n = (s.files[i]).b.length := by
        rcases h0.2 with ⟨e, _⟩ | ⟨g', cap, cur, e, _⟩
        · cases e
        · cases e; rfl
      subst hn
      have h1 := own_setCell h0 at_ (bv x)
      rw [← List.map_set] at h1
      rw [List.length_set]
      exact h1
    · rw [List.getElem?_set_ne hj] at hff
      refine own_keep (h.bytes j u f hu hff) (fun g' hg' => hk g' ?_)
      intro e; subst e
      exact nodup_two hnd.2.1.2.1.2.1 hv hu hj hgo hg'
def turnBE (s : DS) (k : ByteArray) (at_ : Int) : Int := if foundE s k ≠ 0 then foundE s k else if at_ < 0 ∨ ((fileL s k).length : Int) ≤ at_ then 1 else 0
def turnB (f : DF) (at_ : Nat) (by_ : UInt8) : DF := ⟨f.b.set at_ ((f.b.getD at_ 0) ^^^ by_), f.sure⟩
def turnBS (s : DS) (k : ByteArray) (at_ : Int) (by_ : UInt8) : DS := if turnBE s k at_ ≠ 0 then s else { s with files := s.files.modify ((look s.names k).getD 0) fun f => turnB f at_.toNat by_ }
theorem xor_form (x y : UInt8) : bits BinOp.xor IntKind.u8 (x.toNat : Int) (y.toNat : Int) = ((x ^^^ y).toNat : Int) := by
  rw [u8_xor_nat _ _ x.toNat_lt y.toNat_lt, UInt8.toNat_xor]
set_option maxRecDepth 100000 in
set_option maxHeartbeats 1600000 in
theorem turn_any (m : DM) (s : DS) (k : ByteArray) (hk : k.size ≤ maxLen) (at_ : Int) (by_ : UInt8) (w : World) (h : DiskAt w m s) (hd : DirOk s.names s.nclock s.files.length) (hb : ∀ f ∈ s.files, f.b.length ≤ 4194304) :
    Calls Tryz.prog 64 #[.pointer (some ⟨m.D, 0, none⟩), .string k, .int .i64 at_, .int .u8 (by_.toNat : Int)] w fun e w' => e = .returned (.int .i64 (turnBE s k at_)) ∧ DiskAt w' m (turnBS s k at_ by_) ∧ Mod m.fp m.fp w w' := by
  have hE : turnBE s k at_ = if foundE s k ≠ 0 then foundE s k else if at_ < 0 ∨ ((fileL s k).length : Int) ≤ at_ then 1 else 0 := rfl
  have hS : turnBS s k at_ by_ = if turnBE s k at_ ≠ 0 then s else { s with files := s.files.modify ((look s.names k).getD 0) fun f => turnB f at_.toNat by_ } := rfl
  by_cases q : foundE s k = 0
  · obtain ⟨i, hi, hn, hil⟩ := found_ok q hd
    obtain ⟨g, c, q0, k0, hfv, hc1, hbi, hk1, hk2, hqn, hce, hsu, hrd, hfr, hgl⟩ := h.file hil
    have hof := h.bytes i _ s.files[i] hbi (List.getElem?_eq_getElem hil)
    have hfl : fileL s k = (s.files[i]).b := by unfold fileL; rw [hi, Option.getD_some, List.getElem?_eq_getElem hil]; rfl
    have hbl := hb _ (List.getElem_mem hil)
    have c3 := h.cells.2.2.2.1
    rw [hfv] at c3
    rw [if_neg (fun h => h q), hfl] at hE
    obtain ⟨fb, hfb⟩ : ∃ fb, fb = (s.files[i]).b := ⟨_, rfl⟩
    obtain ⟨nb, hnb⟩ : ∃ nb, nb = fb.length := ⟨_, rfl⟩
    rw [← hfb, ← hnb] at hk1 hce hbl hE hbi hof
    rw [← hfb] at hrd
    have i1 : (i : Int) < (s.files.length : Int) := by omega
    have i0 : (0 : Int) ≤ (i : Int) := by omega
    have H := hid h
    have Q := hid q
    have Hn := hid hn
    have Hrd := hid hrd
    have Hbi := hid hbi
    have Hfb := hid hfb
    have Hnb := hid hnb
    have Hi := hid hi
    have Hof := hid hof
    clear h q hn hrd hqn hbi hi hd hb hfb hnb hfv hfl hfr hof
    by_cases a0 : at_ < 0
    · have b0 : decide (at_ < 0) = true := by simpa using a0
      rw [if_pos (.inl a0)] at hE
      rw [hE, if_pos (by decide)] at hS
      have hE := hid hE
      have hS := hid hS
      clear a0
      go_enter Tryz.func64, Tryz.ntmps64
      go_wp2_with (go_at_call 68; refine (found_any m s k hk w H.out).mono ?_; rintro e w' ⟨rfl, rfl⟩; rw [Q.out, Hn.out])
      go_ret
      exact ⟨by rw [hE.out]; rfl, by rw [hS.out]; exact H.out, Mod.refl _ _⟩
    · have b0 : decide (at_ < 0) = false := by simpa using a0
      by_cases a1 : (nb : Int) ≤ at_
      · have b1 : decide ((nb : Int) ≤ at_) = true := by simpa using a1
        rw [if_pos (.inr a1)] at hE
        rw [hE, if_pos (by decide)] at hS
        have hE := hid hE
        have hS := hid hS
        clear a0 a1
        go_enter Tryz.func64, Tryz.ntmps64
        go_wp2_with (go_at_call 68; refine (found_any m s k hk w H.out).mono ?_; rintro e w' ⟨rfl, rfl⟩; rw [Q.out, Hn.out])
        go_ret
        exact ⟨by rw [hE.out]; rfl, by rw [hS.out]; exact H.out, Mod.refl _ _⟩
      · rw [if_neg (by omega)] at hE
        rw [hE, if_neg (by decide), Hi.out, Option.getD_some] at hS
        obtain ⟨j, rfl⟩ : ∃ j : Nat, at_ = (j : Int) := ⟨at_.toNat, by omega⟩
        have hjn : j < nb := by omega
        have b1 : decide ((nb : Int) ≤ (j : Int)) = false := by simp; omega
        have j0 : (0 : Int) ≤ (j : Int) := by omega
        have j1 : (j : Int) < (nb : Int) := by omega
        obtain ⟨gb, cap, cur, e1, _, hgb, _⟩ : ∃ gb cap cur, Value.slice q0 nb k0 = .slice (some ⟨gb, 0, none⟩) nb cap ∧ 0 ≤ gb ∧ w.heap[gb]? = some (.cells cur 5 (0, 0)) ∧ True := by
          rcases Hof.out.2 with ⟨e, h0⟩ | ⟨gb, cap, cur, e, h0, hh, _⟩
          · omega
          · exact ⟨gb, cap, cur, e, h0, hh, trivial⟩
        cases e1
        obtain ⟨b', o', e2, hcj⟩ := Hrd.out.cell (k := j) (by rw [List.length_map, ← Hnb.out]; exact hjn)
        cases e2
        rw [List.getElem_map, Nat.zero_add] at hcj
        have hfj := frozen_of_row w gb j _ _ hgb
        obtain ⟨x, hx⟩ : ∃ x, x = fb[j]'(by rw [← Hnb.out]; exact hjn) := ⟨_, rfl⟩
        rw [← hx] at hcj
        unfold bv at hcj
        have Hx := hid hx
        have hE := hid hE
        have hS := hid hS
        have hxor := xor_form x by_
        clear a0 a1 hx hgb
        go_enter Tryz.func64, Tryz.ntmps64
        go_wp2_with (go_at_call 68; refine (found_any m s k hk w H.out).mono ?_; rintro e w' ⟨rfl, rfl⟩; rw [Q.out, Hn.out])
        go_ret
        obtain ⟨hF, hgm⟩ := H.out.setByte hil Hbi.out j (x ^^^ by_)
        refine ⟨by rw [hE.out]; rfl, ?_, Mod.at_ hgm _ _⟩
        rw [hS.out, modify_set hil]
        unfold turnB
        rw [← Hfb.out, Int.toNat_natCast]
        have hg : fb.getD j 0 = x := by rw [List.getD_eq_getElem?_getD, List.getElem?_eq_getElem (by rw [← Hnb.out]; exact hjn), Option.getD_some, Hx.out]
        rw [hg]
        rw [← Hfb.out] at hF
        exact hF
  · rw [if_pos q] at hE
    rw [hE, if_pos q] at hS
    have b1 : (foundE s k != 0) = true := by simpa using q
    have hE := hid hE
    have hS := hid hS
    have H := hid h
    clear h q hd hb
    go_enter Tryz.func64, Tryz.ntmps64
    go_wp2_with (go_at_call 68; refine (found_any m s k hk w H.out).mono ?_; rintro e w' ⟨rfl, rfl⟩)
    go_ret
    exact ⟨by rw [hE.out]; rfl, by rw [hS.out]; exact H.out, Mod.refl _ _⟩
end Go.Proofs.Herb
