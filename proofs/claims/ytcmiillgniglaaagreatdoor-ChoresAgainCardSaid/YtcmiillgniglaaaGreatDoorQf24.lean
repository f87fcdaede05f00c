/- The contracts of chores.rising and of chores.there at a disk. For facts that can be read, and a disk as DiskAt says. -/
import Derived.Test.YtcmiillgniglaaaGreatDoorQf18
import Derived.Test.YtcmiillgniglaaaGreatDoorQf21
import Derived.Test.YtcmiillgniglaaaGreatDoorQf22
import Derived.Test.YtcmiillgniglaaaGreatDoorQf23
namespace Go.Proofs.Herb
open Go.RowKit Go.Sort
noncomputable def riseB (l : List Fact) : Bool := @decide (RiseF l) (Classical.propDecidable _)
theorem riseB_iff {l : List Fact} : riseB l = true ↔ RiseF l := by unfold riseB; exact @decide_eq_true_iff _ (Classical.propDecidable _)
theorem riseB_yes {l : List Fact} (h : RiseF l) : riseB l = true := riseB_iff.2 h
theorem riseB_no {l : List Fact} (h : ¬ RiseF l) : riseB l = false := by
  cases e : riseB l
  · rfl
  · exact absurd (riseB_iff.1 e) h
set_option maxRecDepth 100000 in
set_option maxHeartbeats 4000000 in
theorem rising_any (q : Option Addr) (n c : Nat) (l : List Fact) (w : World) (hn : l.length = n) (hm : n ≤ 6000) (hr : Rd w q (fCells l)) :
    Calls Tryz.prog 31 #[.slice q n c] w fun e w' => e = .returned (.bool (riseB l)) ∧ Below w.heap.size w w' := by
  obtain ⟨RB, hRB⟩ : ∃ b : Bool, Hid (b = riseB l) := ⟨_, hid rfl⟩
  rw [← hRB.out]
  have Hn := hid hn
  have Hr := hid hr
  have w1 : IntKind.i64.wrap ((n : Int) - 1) = (n : Int) - 1 := by rw [IntKind.wrap_i64]; omega
  clear hn hr
  go_enter Tryz.func31, Tryz.ntmps31
  go_wp2
  go_loopw [7] (fun i wr => ∃ k : Nat, i = .int .i64 (k : Int) ∧ (k = 0 ∨ k + 1 ≤ n) ∧ (∀ i (h : i + 1 < l.length), i < k → l[i + 1].line = l[i].line ∧ cmpF (l[i]'(by omega)) l[i + 1] < 0) ∧ Below w.heap.size w wr) (fun i _ => n - (intOf i).toNat)
  case atStart => exact ⟨0, rfl, .inl rfl, fun i _ h => absurd h (Nat.not_lt_zero _), Below.refl _ _⟩
  case round =>
    obtain ⟨k, rfl, hk, hri, hb⟩ := hrel
    have HB := hid hb
    have HR := hid hri
    clear hb hri
    by_cases hlt : k + 1 < n
    · have hkl : k + 1 < l.length := by rw [Hn.out]; exact hlt
      obtain ⟨b, off, rfl, hbl, hfx⟩ := fact_at (Hr.out.below HB.out) (j := k) (by omega)
      obtain ⟨b2, off2, e2, _, hfy⟩ := fact_at (Hr.out.below HB.out) (j := k + 1) hkl
      cases e2
      obtain ⟨x, hx⟩ : ∃ x, x = l[k]'(by omega) := ⟨_, rfl⟩
      obtain ⟨y, hy⟩ : ∃ y, y = l[k + 1] := ⟨_, rfl⟩
      rw [← hx] at hfx
      rw [← hy] at hfy
      have HX := hid hx
      have HY := hid hy
      obtain ⟨C, hC⟩ : ∃ C : Int, Hid (C = cmpF x y) := ⟨_, hid rfl⟩
      have i0 : (0 : Int) ≤ (k : Int) := by omega
      have i1 : (k : Int) < (n : Int) := by omega
      have i2 : (k : Int) < (n : Int) - 1 := by omega
      have i3 : (k : Int) + 1 < (n : Int) := by omega
      have i4 : (0 : Int) ≤ (k : Int) + 1 := by omega
      have wk : IntKind.i64.wrap ((k : Int) + 1) = (k : Int) + 1 := by rw [IntKind.wrap_i64]; omega
      clear hx hy
      go_upto_region 4 with fail
      obtain ⟨TD, D, hD1, hD2⟩ := class_d wr
      have HCm := hid (fun z => calls_d hD1 hD2 (f := 19) (vs := #[.agg #[.string x.key, .int .u32 (x.valid : Int), .int .u64 (x.seq : Int), .int .u64 (x.line : Int), .int .u8 (x.kind : Int), .string x.val], .agg #[.string y.key, .int .u32 (y.valid : Int), .int .u64 (y.seq : Int), .int .u64 (y.line : Int), .int .u8 (y.kind : Int), .string y.val]]) (v := .int .i64 C) (fun w' _ => by rw [hC.out]; exact cmpF_any x y w') z)
      have xx : ∀ (z : TD) (p : Addr) v, wr.cell? p = some v → (D z).cell? p = some v := fun z p v hv => ((hD1 z).cell (World.block_lt_of_cell? wr _ hv)).trans hv
      have x0 : ∀ z, (D z).cell? ⟨b, off + k * 6, none⟩ = some (.string x.key) := fun z => xx z _ _ hfx.c0
      have x1 : ∀ z, (D z).cell? ⟨b, off + k * 6 + 1, none⟩ = some (.int .u32 (x.valid : Int)) := fun z => xx z _ _ hfx.c1
      have x2 : ∀ z, (D z).cell? ⟨b, off + k * 6 + 2, none⟩ = some (.int .u64 (x.seq : Int)) := fun z => xx z _ _ hfx.c2
      have x3 : ∀ z, (D z).cell? ⟨b, off + k * 6 + 3, none⟩ = some (.int .u64 (x.line : Int)) := fun z => xx z _ _ hfx.c3
      have x4 : ∀ z, (D z).cell? ⟨b, off + k * 6 + 4, none⟩ = some (.int .u8 (x.kind : Int)) := fun z => xx z _ _ hfx.c4
      have x5 : ∀ z, (D z).cell? ⟨b, off + k * 6 + 5, none⟩ = some (.string x.val) := fun z => xx z _ _ hfx.c5
      have y0 : ∀ z, (D z).cell? ⟨b, off + (k + 1) * 6, none⟩ = some (.string y.key) := fun z => xx z _ _ hfy.c0
      have y1 : ∀ z, (D z).cell? ⟨b, off + (k + 1) * 6 + 1, none⟩ = some (.int .u32 (y.valid : Int)) := fun z => xx z _ _ hfy.c1
      have y2 : ∀ z, (D z).cell? ⟨b, off + (k + 1) * 6 + 2, none⟩ = some (.int .u64 (y.seq : Int)) := fun z => xx z _ _ hfy.c2
      have y3 : ∀ z, (D z).cell? ⟨b, off + (k + 1) * 6 + 3, none⟩ = some (.int .u64 (y.line : Int)) := fun z => xx z _ _ hfy.c3
      have y4 : ∀ z, (D z).cell? ⟨b, off + (k + 1) * 6 + 4, none⟩ = some (.int .u8 (y.kind : Int)) := fun z => xx z _ _ hfy.c4
      have y5 : ∀ z, (D z).cell? ⟨b, off + (k + 1) * 6 + 5, none⟩ = some (.string y.val) := fun z => xx z _ _ hfy.c5
      obtain ⟨z0, hz0⟩ := hD2 { wr with drawn := wr.drawn + 1 } (Below.refl _ _).drew
      haveI : Nonempty TD := ⟨z0⟩
      have HD1 := hid hD1
      have HFxy := hid (And.intro hfx hfy)
      clear hD1 hD2 xx hfx hfy
      by_cases hl : y.line = x.line
      · have b1 : ((y.line : Int) != (x.line : Int)) = false := by simp [hl]
        have HL := hid hl
        clear hl
        obtain ⟨B, hBd⟩ : ∃ B, B = decide (0 ≤ C) := ⟨_, rfl⟩
        have HBd := hid hBd
        cases B
        · have b2 : decide (0 ≤ C) = false := hBd.symm
          clear hBd
          refine region_quiet_d (D := D) (by kernel_rfl) (by kernel_rfl) z0 hz0 ?_
          repeat (go_big_quiet_step ((go_at_call 19; with_reducible exact HCm.out _)))
          refine wpQuiet_nil ?_
          intro z
          have HB2 := hid (HB.out.trans ((HD1.out z).mono HB.out.size))
          go_wp2
          go_roundw
          case rel => exact ⟨k + 1, by go_num, .inr (by omega), fun i hi hik => by
            by_cases e : i < k
            · exact HR.out i hi e
            · obtain rfl : i = k := by omega
              rw [← HX.out, ← HY.out, ← hC.out]
              exact ⟨HL.out, by have := HBd.out; simp at this; omega⟩, HB2.out⟩
          case measure => simp [intOf]; omega
        · have b2 : decide (0 ≤ C) = true := hBd.symm
          clear hBd
          refine region_quiet_d (D := D) (by kernel_rfl) (by kernel_rfl) z0 hz0 ?_
          repeat (go_big_quiet_step ((go_at_call 19; with_reducible exact HCm.out _)))
          refine wpQuiet_nil ?_
          intro z
          have HB2 := hid (HB.out.trans ((HD1.out z).mono HB.out.size))
          go_wp2
          go_ret
          exact ⟨by rw [hRB.out, riseB_no (fun h => by
            have := (h k hkl).2
            rw [← HX.out, ← HY.out, ← hC.out] at this
            have := HBd.out
            simp at this
            omega)]; rfl, HB2.out⟩
      · have b1 : ((y.line : Int) != (x.line : Int)) = true := by simp; omega
        have HL := hid hl
        clear hl
        refine region_quiet_d (D := D) (by kernel_rfl) (by kernel_rfl) z0 hz0 ?_
        repeat (go_big_quiet_step ((go_at_call 19; with_reducible exact HCm.out _)))
        refine wpQuiet_nil ?_
        intro z
        have HB2 := hid (HB.out.trans ((HD1.out z).mono HB.out.size))
        go_wp2
        go_ret
        exact ⟨by rw [hRB.out, riseB_no (fun h => by
          have := (h k hkl).1
          rw [← HX.out, ← HY.out] at this
          exact absurd this HL.out)]; rfl, HB2.out⟩
    · have i2 : ¬ ((k : Int) < (n : Int) - 1) := by omega
      go_wp2
      go_ret
      exact ⟨by rw [hRB.out, riseB_yes (fun i hi => HR.out i hi (by have := Hn.out; omega))]; rfl, HB.out⟩
set_option maxHeartbeats 1000000 in
theorem cthere_any (md : DM) (s : DS) (n : Nat) (w : World) (h : DiskAt w md s) (ok : DsOk s n) (ht : Pow10 w) :
    Calls Tryz.prog 14 #[.pointer (some ⟨md.D, 0, none⟩)] w fun e w' => e = .returned (.bool true) ∧ Below w.heap.size w w' := by
  have HD := hid h
  have HO := hid ok
  have HT := hid ht
  have hne : (foundE s (nmU 0) != 2) = true := by
    unfold foundE
    split
    · split <;> rfl
    · rfl
  obtain ⟨E, hE⟩ : ∃ E : Int, Hid (E = foundE s (nmU 0)) := ⟨_, hid rfl⟩
  rw [← hE.out] at hne
  clear h ok ht
  go_enter Tryz.func14, Tryz.ntmps14
  go_wp2_with fail
  have h0 := name_any 0 (by decide) w HT.out
  rw [show ((0 : Nat) : Int) = 0 from rfl] at h0
  (with_reducible refine h0.mono ?_)
  clear h0
  rintro e w1 ⟨rfl, hb1⟩
  have HB1 := hid hb1
  clear hb1
  go_wp2_with fail
  (with_reducible refine (loose_any md s (nmU 0) (nm_max 0 (by decide)) w1 (HD.out.below HB1.out) HO.out.good.ok HO.out.sure).mono ?_)
  rintro e w2 ⟨rfl, hb2⟩
  rw [← hE.out]
  have HB2 := hid (HB1.out.trans (hb2.mono HB1.out.size))
  clear hb2
  go_wp2
  go_ret
  exact ⟨rfl, HB2.out⟩
end Go.Proofs.Herb
