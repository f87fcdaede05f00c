/- The reference's disk: the contracts of Blown, Dir, Loose, Turn and Copy. For a disk as RefAt says. What is read of a crash's disk: plain. No condition. A byte that is turned, and turned back: what a disk tells behind it. Plain lists; no condition. The contracts of the disk's Dir and Blown. For a disk as DiskAt says. -/
import Derived.Deep.RegionHeld3
import Derived.Test.YtbeaehhdglhihaaGreatDoorQd30
import Derived.Test.YtbeaehhdglhihaaGreatDoorQd31
import Derived.Test.YtbeaehhdglhihaaGreatDoorQd34
namespace Go.Proofs.Herb
open Go.RowKit
def looseNR (r : RS) (k : ByteArray) : Int := if looseRE r k = 0 then ((((r.files[atR r k]?).map (·.b.length)).getD 0 : Nat) : Int) - ((((r.files[atR r k]?).map (·.sure)).getD 0 : Nat) : Int) else 0
theorem looseR_cases (r : RS) (k : ByteArray) : (mayB k = false ∧ looseRE r k = 1) ∨ (mayB k = true ∧ lookI (nowR r) k < 0 ∧ looseRE r k = 7) ∨ (mayB k = true ∧ ¬ lookI (nowR r) k < 0 ∧ looseRE r k = 0) := by
  unfold looseRE
  cases hm : mayB k
  · exact .inl ⟨rfl, rfl⟩
  · by_cases q : lookI (nowR r) k < 0
    · exact .inr (.inl ⟨rfl, q, by simp [q]⟩)
    · exact .inr (.inr ⟨rfl, q, by simp [q]⟩)
set_option maxHeartbeats 800000 in
theorem blownR_any (U : Nat → Prop) (m : RM) (r : RS) (w : World) (h : RefAt w U m r) :
    Calls Tryz.prog 48 #[.pointer (some ⟨m.D, 0, none⟩)] w fun e w' => e = .returned (.bool r.dead) ∧ w = w' := by
  obtain ⟨_, _, c2, _, _⟩ := h.cells
  clear h
  go_enter Tryz.func48, Tryz.ntmps48
  go_wp2
  go_ret
  exact ⟨rfl, rfl⟩
set_option maxHeartbeats 800000 in
theorem dirR_any (U : Nat → Prop) (m : RM) (r : RS) (w : World) (h : RefAt w U m r) (hg : RGood r) :
    Calls Tryz.prog 50 #[.pointer (some ⟨m.D, 0, none⟩)] w fun e w' => e = .returned (.int .i64 ((r.past.length - 1 : Nat) : Int)) ∧ w = w' := by
  obtain ⟨_, _, _, _, c4⟩ := h.cells
  obtain ⟨q, c, hv, _, _, _⟩ := own_shape h.past
  rw [hv] at c4
  have h0 := hg.p0
  have h1 := hg.p1
  obtain ⟨P, hP⟩ : ∃ P, P = r.past.length := ⟨_, rfl⟩
  rw [← hP] at c4 h0 h1 ⊢
  have w1 : IntKind.i64.wrap ((P : Int) - 1) = ((P - 1 : Nat) : Int) := by rw [IntKind.wrap_i64]; omega
  clear h hg hv hP
  go_enter Tryz.func50, Tryz.ntmps50
  go_wp2
  go_ret
  exact ⟨rfl, rfl⟩
set_option maxRecDepth 100000 in
set_option maxHeartbeats 1600000 in
theorem looseR_any (U : Nat → Prop) (m : RM) (r : RS) (k : ByteArray) (hk : k.size ≤ maxLen) (w : World) (h : RefAt w U m r) (hg : RGood r) :
    Calls Tryz.prog 54 #[.pointer (some ⟨m.D, 0, none⟩), .string k] w fun e w' => e = .returned (.tuple #[.int .i64 (looseNR r k), .int .i64 (looseRE r k)]) ∧ Below w.heap.size w w' := by
  have H := hid h
  have HG := hid hg
  clear h hg
  rcases looseR_cases r k with ⟨q1, hE⟩ | ⟨q1, q2, hE⟩ | ⟨q1, q2, hE⟩
  · have hR : looseNR r k = 0 := by unfold looseNR; rw [if_neg (by rw [hE]; decide)]
    rw [hE, hR]
    have Q1 := hid q1
    clear hE hR q1
    go_enter Tryz.func54, Tryz.ntmps54
    go_wp2_with (go_at_call 105; refine (mayR_any k hk w).mono ?_; rintro e w1 ⟨rfl, rfl⟩; rw [Q1.out])
    go_ret2
    exact ⟨rfl, Below.refl _ _⟩
  · have hR : looseNR r k = 0 := by unfold looseNR; rw [if_neg (by rw [hE]; decide)]
    rw [hE, hR]
    have b2 : decide (lookI (nowR r) k < 0) = true := by simpa using q2
    have Q1 := hid q1
    clear hE hR q1 q2
    go_enter Tryz.func54, Tryz.ntmps54
    go_wp2_with (first | (go_at_call 105; refine (mayR_any k hk w).mono ?_; rintro e w1 ⟨rfl, rfl⟩; rw [Q1.out]) | (go_at_call 100; with_reducible refine (nowR_any U m r w H.out HG.out.p0).mono ?_; rintro e w2 ⟨v, rfl, _, hs, hB⟩; obtain ⟨q, c, rfl, _, _, _, hrd⟩ := hs.rd; have hrd := hid hrd; have hB := hid hB; have hD2 := hid (H.out.below hB.out); clear hs) | (go_at_call 99; refine (lookR_any q _ c (nowR r) k _ rfl (by have := HG.out.n1; omega) hrd.out).mono ?_; rintro e w3 ⟨rfl, rfl⟩))
    go_ret2
    exact ⟨rfl, hB.out⟩
  · obtain ⟨i, hL, hat, hi⟩ := look_at HG.out q2
    have hR : looseNR r k = ((r.files[i]).b.length : Int) - ((r.files[i]).sure : Int) := by unfold looseNR; rw [if_pos hE, hat, List.getElem?_eq_getElem hi]; rfl
    rw [hE, hR]
    have HL := hid hL
    have Q1 := hid q1
    have hbl := HG.out.sure _ (List.getElem_mem hi)
    obtain ⟨N, hN⟩ : ∃ N, N = (r.files[i]).b.length := ⟨_, rfl⟩
    obtain ⟨S, hS⟩ : ∃ S, S = (r.files[i]).sure := ⟨_, rfl⟩
    rw [← hN, ← hS]
    rw [← hN, ← hS] at hbl
    have w1 : IntKind.i64.wrap ((N : Int) - (S : Int)) = (N : Int) - (S : Int) := by rw [IntKind.wrap_i64]; omega
    have HN := hid hN
    have HS := hid hS
    clear hN hS
    have b2 : decide ((i : Int) < 0) = false := by simp
    clear hE hR q1 q2 hL hat
    go_enter Tryz.func54, Tryz.ntmps54
    go_upto_region 6 with (first | (go_at_call 105; refine (mayR_any k hk w).mono ?_; rintro e w1 ⟨rfl, rfl⟩; rw [Q1.out]) | (go_at_call 100; with_reducible refine (nowR_any U m r w H.out HG.out.p0).mono ?_; rintro e w2 ⟨v, rfl, _, hs, hB⟩; obtain ⟨q, c, rfl, _, _, _, hrd⟩ := hs.rd; have hrd := hid hrd; have hB := hid hB; have hD2 := hid (H.out.below hB.out); clear hs) | (go_at_call 99; refine (lookR_any q _ c (nowR r) k _ rfl (by have := HG.out.n1; omega) hrd.out).mono ?_; rintro e w3 ⟨rfl, rfl⟩; rw [HL.out]))
    obtain ⟨g, cf, q0, k0, cs, hfv, hf1, hf2, _, hk1, hk2, hq0, hce, hsu, _, _, _, _⟩ := hD2.out.file hi
    have d3 := hD2.out.cells.2.2.2.1
    rw [hfv] at d3
    rw [← HN.out] at hce hk1
    rw [← HS.out] at hsu
    obtain ⟨P, hP⟩ : ∃ P, P = r.files.length := ⟨_, rfl⟩
    rw [← hP] at d3 hi hf1
    have i0 : (0 : Int) ≤ (i : Int) := by omega
    have i1 : (i : Int) < (P : Int) := by omega
    clear hfv hP hq0
    go_quiet (fail)
    go_wp2
    go_ret2
    rename_i nq _
    exact ⟨rfl, below_drewN hB.out nq⟩
end Go.Proofs.Herb
namespace Go.Proofs.Herb
open Go.RowKit
end Go.Proofs.Herb
namespace Go.Proofs.Herb
open Go.RowKit Go.Sort
/-- two disks with the same names, and bytes -/
def SameS (s t : DS) : Prop := sortedK s.names = sortedK t.names ∧ ∀ k, k ∈ (sortedK s.names).map ofL → knownE s k = 0 ∧ knownE t k = 0 ∧ readL s k = readL t k
end Go.Proofs.Herb
namespace Go.Proofs.Herb
open Go.RowKit Go.Sort
theorem SameS.refl (s : DS) (hn : ∀ k ∈ (sortedK s.names).map ofL, knownE s k = 0) : SameS s s := ⟨rfl, fun k hk => ⟨hn k hk, hn k hk, rfl⟩⟩
end Go.Proofs.Herb
namespace Go.Proofs.Herb
open Go.RowKit
set_option maxHeartbeats 800000 in
theorem dir_any (m : DM) (s : DS) (w : World) (h : DiskAt w m s) :
    Calls Tryz.prog 49 #[.pointer (some ⟨m.D, 0, none⟩)] w fun e w' => e = .returned (.int .i64 (s.changes.length : Int)) ∧ w = w' := by
  obtain ⟨_, _, _, _, _, _, c6⟩ := h.cells
  obtain ⟨q, c, hv, _, _, _⟩ := own_shape h.changes
  rw [hv] at c6
  have H := hid h
  clear h hv
  go_enter Tryz.func49, Tryz.ntmps49
  go_wp2_with (go_at_call 60; refine (there_any m s w H.out).mono ?_; rintro e w1 ⟨rfl, rfl⟩)
  go_ret
  exact ⟨rfl, rfl⟩
set_option maxHeartbeats 800000 in
theorem blown_any (m : DM) (s : DS) (w : World) (h : DiskAt w m s) :
    Calls Tryz.prog 47 #[.pointer (some ⟨m.D, 0, none⟩)] w fun e w' => e = .returned (.bool s.dead) ∧ w = w' := by
  obtain ⟨_, _, c2, _, _, _, _⟩ := h.cells
  have H := hid h
  clear h
  go_enter Tryz.func47, Tryz.ntmps47
  go_wp2_with (go_at_call 60; refine (there_any m s w H.out).mono ?_; rintro e w1 ⟨rfl, rfl⟩)
  go_ret
  exact ⟨rfl, rfl⟩
end Go.Proofs.Herb
