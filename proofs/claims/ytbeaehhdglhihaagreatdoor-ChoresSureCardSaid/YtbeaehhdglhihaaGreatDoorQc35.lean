/- The contract of the disk's Turn. For a disk as DiskAt says. A byte that is turned, and turned back: what a disk tells behind it. Plain lists; no condition. -/
import Derived.Test.YtbeaehhdglhihaaGreatDoorQc25
import Derived.Test.YtbeaehhdglhihaaGreatDoorQc27
namespace Go.Proofs.Herb
open Go.RowKit
theorem fCells_keep : ∀ (bs : List Value) (fs : List DF) (i : Nat) (f : DF), (∀ f0, fs[i]? = some f0 → f0.sure = f.sure) → dfCells bs (fs.set i f) = dfCells bs fs
  | [], _, _, _, _ => by simp [dfCells]
  | b :: bs, [], _, _, _ => by simp [dfCells]
  | b :: bs, g :: fs, 0, f, h => by
    have := h g rfl
    simp [dfCells, this]
  | b :: bs, g :: fs, i + 1, f, h => by
    have := fCells_keep bs fs i f (fun f0 h0 => h f0 (by simpa using h0))
    simp only [List.set_cons_succ, dfCells, this]
theorem DiskAt.setByte {w : World} {m : DM} {s : DS} (h : DiskAt w m s) {i : Nat} (hi : i < s.files.length) {g n c : Nat} (hv : m.bs[i]? = some (.slice (some ⟨g, 0, none⟩) n c)) (at_ : Nat) (x : UInt8) :
    DiskAt (w.setCell ⟨g, at_, none⟩ (bv x)) m { s with files := s.files.set i ⟨(s.files[i]).b.set at_ x, (s.files[i]).sure⟩ } ∧ g ∈ m.fp := by
  have hgo : (Value.slice (some ⟨g, 0, none⟩) n c).ownBlock = some g := rfl
  obtain ⟨n1, n2, n3, hf, hc, hb⟩ := h.notD
  obtain ⟨a1, a2, a3⟩ := hb i _ g hv hgo
  have hnd := h.nodup
  rw [DM.fp_eq] at hnd
  simp only [List.nodup_append, List.mem_append, ne_eq] at hnd
  have hk : ∀ k, k ≠ g → (w.setCell ⟨g, at_, none⟩ (bv x)).heap[k]? = w.heap[k]? := fun k hk => heap_setCell_other _ _ _ _ hk
  have hgf : ∀ g', m.fv.ownBlock = some g' → g' ≠ g := fun g' hg' e => by
    subst e
    exact hnd.2.1.2.2 g' (by simp [hg']) g' (.inr (List.mem_filterMap.2 ⟨_, List.mem_of_getElem? hv, hgo⟩)) rfl
  have hgc : ∀ g', m.cv.ownBlock = some g' → g' ≠ g := fun g' hg' e => by
    subst e
    exact hnd.2.1.2.1.2.2 g' (by simp [hg']) g' (List.mem_filterMap.2 ⟨_, List.mem_of_getElem? hv, hgo⟩) rfl
  refine ⟨⟨(hk _ (Ne.symm a1)).trans h.disk, (hk _ (Ne.symm a2)).trans h.names, (hk _ (Ne.symm a3)).trans h.sured, ?_, by simp [h.len], ?_, own_keep h.changes (fun g' hg' => hk g' (hgc g' hg')), h.nodup⟩, mem_fp_b hv hgo⟩
  · dsimp only
    rw [List.length_set, fCells_keep m.bs s.files i _ (fun f0 h0 => by rw [List.getElem?_eq_getElem hi] at h0; cases h0; rfl)]
    exact own_keep h.files (fun g' hg' => hk g' (hgf g' hg'))
  · intro j u f hu hff
    dsimp only at hff
    by_cases hj : i = j
    · subst hj
      rw [List.getElem?_set_self hi] at hff
      rw [hv] at hu
      cases hff; cases hu
      have h0 := h.bytes i _ s.files[i] hv (List.getElem?_eq_getElem hi)
      have hn : n = (s.files[i]).b.length := by
        rcases h0.2 with ⟨e, _⟩ | ⟨g', cap, cur, e, _⟩
        · cases e
        · cases e; rfl
      subst hn
      have h1 := own_setCell h0 at_ (bv x)
      rw [← List.map_set] at h1
      rw [List.length_set]
      exact h1
    · rw [List.getElem?_set_ne hj] at hff
      refine own_keep (h.bytes j u f hu hff) (fun g' hg' => hk g' ?_)
      intro e; subst e
      exact nodup_two hnd.2.1.2.1.2.1 hv hu hj hgo hg'
def turnBE (s : DS) (k : ByteArray) (at_ : Int) : Int := if foundE s k ≠ 0 then foundE s k else if at_ < 0 ∨ ((fileL s k).length : Int) ≤ at_ then 1 else 0
def turnB (f : DF) (at_ : Nat) (by_ : UInt8) : DF := ⟨f.b.set at_ ((f.b.getD at_ 0) ^^^ by_), f.sure⟩
def turnBS (s : DS) (k : ByteArray) (at_ : Int) (by_ : UInt8) : DS := if turnBE s k at_ ≠ 0 then s else { s with files := s.files.modify ((look s.names k).getD 0) fun f => turnB f at_.toNat by_ }
theorem xor_form (x y : UInt8) : bits BinOp.xor IntKind.u8 (x.toNat : Int) (y.toNat : Int) = ((x ^^^ y).toNat : Int) := by
  rw [u8_xor_nat _ _ x.toNat_lt y.toNat_lt, UInt8.toNat_xor]
set_option maxRecDepth 100000 in
set_option maxHeartbeats 1600000 in
theorem turn_any (m : DM) (s : DS) (k : ByteArray) (hk : k.size ≤ maxLen) (at_ : Int) (by_ : UInt8) (w : World) (h : DiskAt w m s) (hd : DirOk s.names s.nclock s.files.length) (hb : ∀ f ∈ s.files, f.b.length ≤ 4194304) :
    Calls Tryz.prog 22 #[.pointer (some ⟨m.D, 0, none⟩), .string k, .int .i64 at_, .int .u8 (by_.toNat : Int)] w fun e w' => e = .returned (.int .i64 (turnBE s k at_)) ∧ DiskAt w' m (turnBS s k at_ by_) ∧ Mod m.fp m.fp w w' := by
  have hE : turnBE s k at_ = if foundE s k ≠ 0 then foundE s k else if at_ < 0 ∨ ((fileL s k).length : Int) ≤ at_ then 1 else 0 := rfl
  have hS : turnBS s k at_ by_ = if turnBE s k at_ ≠ 0 then s else { s with files := s.files.modify ((look s.names k).getD 0) fun f => turnB f at_.toNat by_ } := rfl
  by_cases q : foundE s k = 0
  · obtain ⟨i, hi, hn, hil⟩ := found_ok q hd
    obtain ⟨g, c, q0, k0, hfv, hc1, hbi, hk1, hk2, hqn, hce, hsu, hrd, hfr, hgl⟩ := h.file hil
    have hof := h.bytes i _ s.files[i] hbi (List.getElem?_eq_getElem hil)
    have hfl : fileL s k = (s.files[i]).b := by unfold fileL; rw [hi, Option.getD_some, List.getElem?_eq_getElem hil]; rfl
    have hbl := hb _ (List.getElem_mem hil)
    have c3 := h.cells.2.2.2.1
    rw [hfv] at c3
    rw [if_neg (fun h => h q), hfl] at hE
    obtain ⟨fb, hfb⟩ : ∃ fb, fb = (s.files[i]).b := ⟨_, rfl⟩
    obtain ⟨nb, hnb⟩ : ∃ nb, nb = fb.length := ⟨_, rfl⟩
    rw [← hfb, ← hnb] at hk1 hce hbl hE hbi hof
    rw [← hfb] at hrd
    have i1 : (i : Int) < (s.files.length : Int) := by omega
    have i0 : (0 : Int) ≤ (i : Int) := by omega
    have H := hid h
    have Q := hid q
    have Hn := hid hn
    have Hrd := hid hrd
    have Hbi := hid hbi
    have Hfb := hid hfb
    have Hnb := hid hnb
    have Hi := hid hi
    have Hof := hid hof
    clear h q hn hrd hqn hbi hi hd hb hfb hnb hfv hfl hfr hof
    by_cases a0 : at_ < 0
    · have b0 : decide (at_ < 0) = true := by simpa using a0
      rw [if_pos (.inl a0)] at hE
      rw [hE, if_pos (by decide)] at hS
      have hE := hid hE
      have hS := hid hS
      clear a0
      go_enter Tryz.func22, Tryz.ntmps22
      go_wp2_with (go_at_call 70; refine (found_any m s k hk w H.out).mono ?_; rintro e w' ⟨rfl, rfl⟩; rw [Q.out, Hn.out])
      go_ret
      exact ⟨by rw [hE.out]; rfl, by rw [hS.out]; exact H.out, Mod.refl _ _⟩
    · have b0 : decide (at_ < 0) = false := by simpa using a0
      by_cases a1 : (nb : Int) ≤ at_
      · have b1 : decide ((nb : Int) ≤ at_) = true := by simpa using a1
        rw [if_pos (.inr a1)] at hE
        rw [hE, if_pos (by decide)] at hS
        have hE := hid hE
        have hS := hid hS
        clear a0 a1
        go_enter Tryz.func22, Tryz.ntmps22
        go_wp2_with (go_at_call 70; refine (found_any m s k hk w H.out).mono ?_; rintro e w' ⟨rfl, rfl⟩; rw [Q.out, Hn.out])
        go_ret
        exact ⟨by rw [hE.out]; rfl, by rw [hS.out]; exact H.out, Mod.refl _ _⟩
      · rw [if_neg (by omega)] at hE
        rw [hE, if_neg (by decide), Hi.out, Option.getD_some] at hS
        obtain ⟨j, rfl⟩ : ∃ j : Nat, at_ = (j : Int) := ⟨at_.toNat, by omega⟩
        have hjn : j < nb := by omega
        have b1 : decide ((nb : Int) ≤ (j : Int)) = false := by simp; omega
        have j0 : (0 : Int) ≤ (j : Int) := by omega
        have j1 : (j : Int) < (nb : Int) := by omega
        obtain ⟨gb, cap, cur, e1, _, hgb, _⟩ : ∃ gb cap cur, Value.slice q0 nb k0 = .slice (some ⟨gb, 0, none⟩) nb cap ∧ 0 ≤ gb ∧ w.heap[gb]? = some (.cells cur 5 (0, 0)) ∧ True := by
          rcases Hof.out.2 with ⟨e, h0⟩ | ⟨gb, cap, cur, e, h0, hh, _⟩
          · omega
          · exact ⟨gb, cap, cur, e, h0, hh, trivial⟩
        cases e1
        obtain ⟨b', o', e2, hcj⟩ := Hrd.out.cell (k := j) (by rw [List.length_map, ← Hnb.out]; exact hjn)
        cases e2
        rw [List.getElem_map, Nat.zero_add] at hcj
        have hfj := frozen_of_row w gb j _ _ hgb
        obtain ⟨x, hx⟩ : ∃ x, x = fb[j]'(by rw [← Hnb.out]; exact hjn) := ⟨_, rfl⟩
        rw [← hx] at hcj
        unfold bv at hcj
        have Hx := hid hx
        have hE := hid hE
        have hS := hid hS
        have hxor := xor_form x by_
        clear a0 a1 hx hgb
        go_enter Tryz.func22, Tryz.ntmps22
        go_wp2_with (go_at_call 70; refine (found_any m s k hk w H.out).mono ?_; rintro e w' ⟨rfl, rfl⟩; rw [Q.out, Hn.out])
        go_ret
        obtain ⟨hF, hgm⟩ := H.out.setByte hil Hbi.out j (x ^^^ by_)
        refine ⟨by rw [hE.out]; rfl, ?_, Mod.at_ hgm _ _⟩
        rw [hS.out, modify_set hil]
        unfold turnB
        rw [← Hfb.out, Int.toNat_natCast]
        have hg : fb.getD j 0 = x := by rw [List.getD_eq_getElem?_getD, List.getElem?_eq_getElem (by rw [← Hnb.out]; exact hjn), Option.getD_some, Hx.out]
        rw [hg]
        rw [← Hfb.out] at hF
        exact hF
  · rw [if_pos q] at hE
    rw [hE, if_pos q] at hS
    have b1 : (foundE s k != 0) = true := by simpa using q
    have hE := hid hE
    have hS := hid hS
    have H := hid h
    clear h q hd hb
    go_enter Tryz.func22, Tryz.ntmps22
    go_wp2_with (go_at_call 70; refine (found_any m s k hk w H.out).mono ?_; rintro e w' ⟨rfl, rfl⟩)
    go_ret
    exact ⟨by rw [hE.out]; rfl, by rw [hS.out]; exact H.out, Mod.refl _ _⟩
end Go.Proofs.Herb
namespace Go.Proofs.Herb
open Go.RowKit Go.Sort
theorem turnB_len (f : DF) (i : Nat) (b : UInt8) : (turnB f i b).b.length = f.b.length ∧ (turnB f i b).sure = f.sure := ⟨by simp [turnB], rfl⟩
theorem modify_at (l : List DF) (i j : Nat) (f : DF → DF) : (l.modify i f)[j]? = if i = j then (l[j]?).map f else l[j]? := by
  rw [List.getElem?_modify]
  by_cases h : i = j
  · simp [h]
  · simp [h]
theorem turn_eq {s : DS} {k : ByteArray} {a : Int} {b : UInt8} (q : turnBE s k a = 0) : turnBS s k a b = { s with files := s.files.modify ((look s.names k).getD 0) fun f => turnB f a.toNat b } := by
  unfold turnBS; rw [if_neg (fun h => h q)]
theorem turn_zero {s : DS} {k : ByteArray} {a : Int} (q : turnBE s k a = 0) : foundE s k = 0 ∧ 0 ≤ a ∧ a < ((fileL s k).length : Int) := by
  unfold turnBE at q
  by_cases h : foundE s k = 0
  · rw [if_neg (fun g => g h)] at q
    split at q
    · cases q
    · exact ⟨h, by omega, by omega⟩
  · rw [if_pos h] at q; exact absurd q h
theorem DsOk.turnB {s : DS} {n : Nat} (h : DsOk s n) (k : ByteArray) (a : Int) (b : UInt8) : DsOk (turnBS s k a b) n := by
  by_cases q : turnBE s k a = 0
  · rw [turn_eq q]
    refine h.modify _ _ fun x hx => ?_
    rw [(turnB_len x a.toNat b).1, (turnB_len x a.toNat b).2]
    exact h.sure x (List.mem_of_getElem? hx)
  · unfold turnBS; rw [if_pos q]; exact h
theorem turn_file {s : DS} {k : ByteArray} {a : Int} {b : UInt8} (q : turnBE s k a = 0) : fileL (turnBS s k a b) k = (fileL s k).set a.toNat ((fileL s k).getD a.toNat 0 ^^^ b) := by
  obtain ⟨q1, q2, q3⟩ := turn_zero q
  rw [turn_eq q]
  unfold fileL
  dsimp only
  unfold fileL at q3
  rw [modify_at, if_pos rfl]
  cases hf : s.files[(look s.names k).getD 0]? with
  | none => rw [hf] at q3; simp at q3; omega
  | some f => rfl
theorem turn_found {s : DS} (k q : ByteArray) (a : Int) (b : UInt8) : foundE (turnBS s k a b) q = foundE s q ∧ knownE (turnBS s k a b) q = knownE s q := by
  unfold turnBS
  split
  · exact ⟨rfl, rfl⟩
  · exact ⟨rfl, rfl⟩
theorem SameS.refl (s : DS) (hn : ∀ k ∈ (sortedK s.names).map ofL, knownE s k = 0) : SameS s s := ⟨rfl, fun k hk => ⟨hn k hk, hn k hk, rfl⟩⟩
end Go.Proofs.Herb
