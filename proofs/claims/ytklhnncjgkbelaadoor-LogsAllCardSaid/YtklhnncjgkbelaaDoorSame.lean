/- The contract of the laws' SameRecords: two slices of records that read alike are the same. For slices that can be read. -/
import Derived.Test.YtklhnncjgkbelaaDoorSle
import Derived.Test.YtklhnncjgkbelaaDoorLiv
import Derived.Test.YtklhnncjgkbelaaDoorRecL
import Derived.StillTailTactics
namespace Go.Proofs.Herb
open Go.RowKit
/-- records that can be read from an address on -/
def RdRows (w : World) (q : Option Addr) (ls : List (List UInt8)) : Prop :=
  ∀ (i : Nat) (l : List UInt8), ls[i]? = some l → ∃ b off q' c', q = some ⟨b, off, none⟩ ∧ w.cell? ⟨b, off + i, none⟩ = some (.slice q' l.length c') ∧ Rd w q' (l.map bv)
theorem RdRows.below {w w' : World} {q : Option Addr} {ls : List (List UInt8)} (h : RdRows w q ls) (hb : Below w.heap.size w w') : RdRows w' q ls := fun i l hl => by
  obtain ⟨b, off, q', c', h1, h2, h3⟩ := h i l hl
  exact ⟨b, off, q', c', h1, (hb.cell (p := ⟨b, off + i, none⟩) (World.block_lt_of_cell? w _ h2)).trans h2, h3.below hb⟩
theorem RdRows.take {w : World} {q : Option Addr} {ls ks : List (List UInt8)} (h : RdRows w q (ls ++ ks)) : RdRows w q ls := fun i l hl =>
  h i l (by rw [List.getElem?_append_left (List.getElem?_eq_some_iff.1 hl).1]; exact hl)
theorem Rows.rd {w : World} {base : Nat} {v : Value} {ls : List (List UInt8)} (h : Rows w base v ls) : ∃ q c, v = .slice q ls.length c ∧ ls.length ≤ c ∧ c ≤ maxLen ∧ (q = none → c = 0) ∧ RdRows w q ls := by
  obtain ⟨q, c, h1, h2, h3, h4, h5⟩ := h.shape
  refine ⟨q, c, h1, h2, h3, h4, fun i l hl => ?_⟩
  obtain ⟨b, off, q', c', g1, g2, _, _, g3, _⟩ := h5 i l hl
  exact ⟨b, off, q', c', g1, g2, g3⟩
set_option maxRecDepth 100000 in
set_option maxHeartbeats 1600000 in
theorem same_records (q p : Option Addr) (n c d : Nat) (ls : List (List UInt8)) (w : World) (hn : ls.length = n) (hm : n ≤ 4194304) (hl : ∀ l ∈ ls, l.length ≤ 4194304) (h1 : RdRows w q ls) (h2 : RdRows w p ls) :
    Calls Tryd.prog 8 #[.slice q n c, .slice p n d] w fun e w' => e = .returned (.bool true) ∧ Below w.heap.size w w' := by
  have Hn := hid hn
  have Hl := hid hl
  have H1 := hid h1
  have H2 := hid h2
  clear hn hl h1 h2
  go_enter Tryd.func8, Tryd.ntmps8
  go_wp2
  go_loopw [5] (fun i wr => ∃ j : Nat, j ≤ n ∧ i = .int .i64 (j : Int) ∧ Below w.heap.size w wr) (fun i _ => n - (intOf i).toNat)
  case atStart => exact ⟨0, Nat.zero_le _, rfl, Below.refl _ _⟩
  case round =>
    obtain ⟨j, hj, rfl, hB⟩ := hrel
    have HB := hid hB
    clear hB
    by_cases hlt : j < n
    · have hjl : j < ls.length := by rw [Hn.out]; exact hlt
      obtain ⟨b1, o1, q1, c1, rfl, g1, r1⟩ := (H1.out.below HB.out) j _ (List.getElem?_eq_getElem hjl)
      obtain ⟨b2, o2, q2, c2, rfl, g2, r2⟩ := (H2.out.below HB.out) j _ (List.getElem?_eq_getElem hjl)
      obtain ⟨L, hL⟩ : ∃ L, ls[j] = L := ⟨_, rfl⟩
      obtain ⟨N, hN⟩ : ∃ N, L.length = N := ⟨_, rfl⟩
      have hNl : N ≤ 4194304 := by rw [← hN, ← hL]; exact Hl.out _ (List.getElem_mem hjl)
      rw [hL, hN] at g1 g2
      rw [hL] at r1 r2
      have HN := hid hN
      have R1 := hid r1
      have R2 := hid r2
      clear r1 r2 hL hN hjl
      have i0 : (0 : Int) ≤ (j : Int) := by omega
      have i1 : (j : Int) < (n : Int) := by omega
      go_wp2
      refine wp_region_still_tail 8 (by kernel_rfl) (by kernel_rfl) ?_
      simp only [List.take_succ_cons, List.take_zero, List.drop_succ_cons, List.drop_zero]
      change wpStill Tryd.prog _ wr.drew (fun a' => wpList _ _ _ _ a' wr.drew) _ _
      obtain ⟨w6, hw6, hB6⟩ : ∃ w6, wr.drew = w6 ∧ Below wr.heap.size wr w6 := ⟨_, rfl, (Below.refl _ _).drew⟩
      have g1' : w6.cell? ⟨b1, o1 + j, none⟩ = some (.slice q1 N c1) := by rw [← hw6]; exact g1
      have g2' : w6.cell? ⟨b2, o2 + j, none⟩ = some (.slice q2 N c2) := by rw [← hw6]; exact g2
      rw [hw6]
      have HB6 := hid hB6
      clear hw6 hB6 g1 g2
      still_step
      still_step
      still_step
      still_step
      still_step
      still_step
      still_step
      still_step
      refine wpStill_nil ?_
      go_wp2_with (go_at_call 20; refine (equal_bytes q1 q2 N c1 N c2 L L w6 HN.out HN.out (by omega) (by omega) (R1.out.below HB6.out) (R2.out.below HB6.out)).mono ?_; rintro e w7 ⟨rfl, hb7⟩; rw [show (L == L) = true from by simp]; have HB7 := hid (HB.out.trans ((HB6.out.trans (hb7.mono HB6.out.size)).mono HB.out.size)); clear hb7)
      go_roundw
      case rel => exact ⟨j + 1, by omega, by go_num, HB7.out⟩
      case measure => simp [intOf]; omega
    · obtain rfl : j = n := by omega
      go_wp2
      go_ret
      exact ⟨rfl, HB.out⟩
end Go.Proofs.Herb
