/- The functions that chores.Rewrite hands to the library (another line; gone), and slices.DeleteFunc where nothing or all is gone. For facts that can be read. -/
import Derived.Lib.SliceRun
import Derived.Test.YtcmiillgniglaaaGreatDoorQf32
namespace Go.Proofs.Herb
open Go.RowKit Go.Sort
theorem box_fact (w : World) (f : Fact) : FactAt (w.alloc (.cells f.cells.toArray 50)) w.heap.size 0 f := by
  have h1 : Rd (w.alloc (.cells f.cells.toArray 50)) (some ⟨w.heap.size, 0, none⟩) (fCells [f]) := by
    have e : fCells [f] = f.cells := by unfold fCells; simp
    rw [e]
    exact Rd.new w f.cells 50
  obtain ⟨b, off, e, _, h⟩ := fact_at (j := 0) h1 (by simp)
  cases e
  exact h
set_option maxRecDepth 100000 in
set_option maxHeartbeats 2000000 in
theorem lineclos_any (B : Nat) (q : Option Addr) (n c : Nat) (l : List Fact) (f : Fact) (w : World) (hb : w.cell? ⟨B, 0, none⟩ = some (.slice q n c)) (h0 : 0 < l.length) (hn : l.length = n) (hr : Rd w q (fCells l)) (hl : f.line = l[0].line) :
    Calls Tryz.prog 17 #[.agg f.cells.toArray, .pointer (some ⟨B, 0, none⟩)] w fun e w' => e = .returned (.bool false) ∧ Below w.heap.size w w' := by
  obtain ⟨w0, hw0⟩ : ∃ x, x = w.alloc (.cells f.cells.toArray 50) := ⟨_, rfl⟩
  have hb0 : Below w.heap.size w w0 := by rw [hw0]; exact (Below.refl _ _).alloc (Nat.le_refl _) _
  have hf0 : FactAt w0 w.heap.size 0 f := by rw [hw0]; exact box_fact w f
  obtain ⟨bq, off, e, hbl, hfz⟩ := fact_at (hr.below hb0) h0
  subst e
  have cB : w0.cell? ⟨B, 0, none⟩ = some (.slice (some ⟨bq, off, none⟩) n c) := (hb0.cell (p := ⟨B, 0, none⟩) (World.block_lt_of_cell? w _ hb)).trans hb
  have c3 := hf0.c3
  have z3 := hfz.c3
  rw [← hl, Nat.zero_mul, Nat.add_zero] at z3
  rw [Nat.zero_add] at c3
  have i0 : (0 : Int) < (n : Int) := by omega
  have b0 : ((f.line : Int) != (f.line : Int)) = false := by simp
  have HW0 := hid hw0
  have HB0 := hid hb0
  clear hw0 hb0 hf0 hfz hr hl hb h0 hn
  go_enter Tryz.func17, Tryz.ntmps17
  go_upto_region 1 with fail
  rw [← HW0.out]
  obtain ⟨TD, D, hD1, hD2⟩ := class_d w0
  have xx : ∀ (z : TD) (p : Addr) v, w0.cell? p = some v → (D z).cell? p = some v := fun z p v hv => ((hD1 z).cell (World.block_lt_of_cell? w0 _ hv)).trans hv
  have k0 : ∀ z, (D z).cell? ⟨B, 0, none⟩ = some (.slice (some ⟨bq, off, none⟩) n c) := fun z => xx z _ _ cB
  have k1 : ∀ z, (D z).cell? ⟨w.heap.size, 3, none⟩ = some (.int .u64 (f.line : Int)) := fun z => xx z _ _ c3
  have k2 : ∀ z, (D z).cell? ⟨bq, off + 3, none⟩ = some (.int .u64 (f.line : Int)) := fun z => xx z _ _ z3
  obtain ⟨z0, hz0⟩ := hD2 { w0 with drawn := w0.drawn + 1 } (Below.refl _ _).drew
  haveI : Nonempty TD := ⟨z0⟩
  have HD1 := hid hD1
  clear hD1 hD2 xx cB c3 z3
  refine region_quiet_d (D := D) (by kernel_rfl) (by kernel_rfl) z0 hz0 ?_
  repeat (go_big_quiet_step (fail))
  refine wpQuiet_nil ?_
  intro z
  have HB2 := hid (HB0.out.trans ((HD1.out z).mono HB0.out.size))
  clear k0 k1 k2 hz0
  go_wp2
  go_ret
  exact ⟨rfl, HB2.out⟩
set_option maxRecDepth 100000 in
set_option maxHeartbeats 2000000 in
theorem alclos_any (F : Nat) (f g : Fact) (w : World) (hf : FactAt w F 0 f) :
    Calls Tryz.prog 24 #[.agg g.cells.toArray, .pointer (some ⟨F, 0, none⟩)] w fun e w' => e = .returned (.bool (alikeF f g)) ∧ Below w.heap.size w w' := by
  obtain ⟨w0, hw0⟩ : ∃ x, x = w.alloc (.cells g.cells.toArray 50) := ⟨_, rfl⟩
  have hb0 : Below w.heap.size w w0 := by rw [hw0]; exact (Below.refl _ _).alloc (Nat.le_refl _) _
  have hg0 : FactAt w0 w.heap.size 0 g := by rw [hw0]; exact box_fact w g
  have hv : ∀ p v, w.cell? p = some v → w0.cell? p = some v := fun p v h => (hb0.cell (World.block_lt_of_cell? w _ h)).trans h
  obtain ⟨a0, a1, a2, a3, a4, a5⟩ := hf
  replace a0 := hv _ _ a0
  replace a1 := hv _ _ a1
  replace a2 := hv _ _ a2
  replace a3 := hv _ _ a3
  replace a4 := hv _ _ a4
  replace a5 := hv _ _ a5
  obtain ⟨b0, b1, b2, b3, b4, b5⟩ := hg0
  have HC := hid (chalike_any f g w0)
  unfold Fact.cells at HC
  have HW0 := hid hw0
  have HB0 := hid hb0
  clear hw0 hb0 hv
  go_enter Tryz.func24, Tryz.ntmps24
  go_upto_region 1 with fail
  rw [← HW0.out]
  go_wp2_with fail
  refine HC.out.mono ?_
  rintro e w2 ⟨rfl, hb2⟩
  have HB2 := hid (HB0.out.trans (hb2.mono HB0.out.size))
  clear hb2 a0 a1 a2 a3 a4 a5 b0 b1 b2 b3 b4 b5
  go_wp2
  go_ret
  exact ⟨rfl, HB2.out⟩
set_option maxRecDepth 100000 in
set_option maxHeartbeats 2000000 in
theorem delclos_any (B : Nat) (q : Option Addr) (n c : Nat) (l : List Fact) (f : Fact) (w : World) (hb : w.cell? ⟨B, 0, none⟩ = some (.slice q n c)) (hn : l.length = n) (hn6 : n ≤ 1000000) (hr : Rd w q (fCells l)) :
    Calls Tryz.prog 23 #[.agg f.cells.toArray, .pointer (some ⟨B, 0, none⟩)] w fun e w' => e = .returned (.bool (l.any (alikeF f))) ∧ Below w.heap.size w w' := by
  obtain ⟨w0, hw0⟩ : ∃ x, x = w.alloc (.cells f.cells.toArray 50) := ⟨_, rfl⟩
  have hb0 : Below w.heap.size w w0 := by rw [hw0]; exact (Below.refl _ _).alloc (Nat.le_refl _) _
  have hf0 : FactAt w0 w.heap.size 0 f := by rw [hw0]; exact box_fact w f
  have cB : w0.cell? ⟨B, 0, none⟩ = some (.slice q n c) := (hb0.cell (p := ⟨B, 0, none⟩) (World.block_lt_of_cell? w _ hb)).trans hb
  have HC := hid (containsF_any 24 (.pointer (some ⟨w.heap.size, 0, none⟩)) (alikeF f) q n c l w0 hn hn6 (hr.below hb0) (fun _ _ => rfl) (fun g _ W hW => alclos_any w.heap.size f g W (by
    have hv : ∀ p v, w0.cell? p = some v → W.cell? p = some v := fun p v h => (hW.cell (World.block_lt_of_cell? w0 _ h)).trans h
    exact ⟨hv _ _ hf0.c0, hv _ _ hf0.c1, hv _ _ hf0.c2, hv _ _ hf0.c3, hv _ _ hf0.c4, hv _ _ hf0.c5⟩)))
  have HW0 := hid hw0
  have HB0 := hid hb0
  clear hw0 hb0 hf0 hb hr hn
  go_enter Tryz.func23, Tryz.ntmps23
  go_upto_region 1 with fail
  rw [← HW0.out]
  go_wp2_with fail
  refine HC.out.mono ?_
  rintro e w2 ⟨rfl, hb2⟩
  have HB2 := hid (HB0.out.trans (hb2.mono HB0.out.size))
  clear hb2 cB
  go_wp2
  go_ret
  exact ⟨rfl, HB2.out⟩
/-- nothing is gone: the facts stay -/
theorem delete_none (fn : FuncId) (cap : Value) (p : Fact → Bool) (q : Option Addr) (n c : Nat) (l : List Fact) (w : World) (hn : l.length = n) (hn6 : n ≤ 1000000) (hr : Rd w q (fCells l))
    (he : ∀ args W, (callFunc fn args).run Tryz.prog W = .ok (.enter fn args) W)
    (hp : ∀ f ∈ l, ∀ W, Below w.heap.size w W → Calls Tryz.prog fn #[.agg f.cells.toArray, cap] W fun e W' => e = .returned (.bool (p f)) ∧ Below W.heap.size W W') (hz : ∀ f ∈ l, p f = false) :
    Calls Tryz.prog 22 #[.slice q n c, .func (.func fn) #[] #[cap]] w fun e w' => e = .returned (.slice q n c) ∧ Below w.heap.size w w' := by
  have H := hid (indexF_any fn cap p q n c l w hn hn6 hr he hp)
  have Hz := hid hz
  clear hp hr hz
  go_enter Tryz.func22, Tryz.ntmps22
  go_wp2_with fail
  refine H.out.mono ?_
  rintro e w2 ⟨r, rfl, hcase, hb2⟩
  have HB2 := hid hb2
  clear hb2
  rcases hcase with ⟨rfl, hf⟩ | ⟨k, hk, rfl, hp, -⟩
  · clear hf
    go_wp2
    go_ret
    exact ⟨rfl, HB2.out⟩
  · rw [Hz.out _ (List.getElem_mem hk)] at hp
    cases hp
end Go.Proofs.Herb
