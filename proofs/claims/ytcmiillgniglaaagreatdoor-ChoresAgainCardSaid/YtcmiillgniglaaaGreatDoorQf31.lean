/- slices.SortStableFunc at facts, by keys.Cmp, where the facts stand in order already: nothing is turned. For facts that can be read. (printed by gen_sst.py) slices.SortStableFunc at facts, by keys.Cmp, where the facts stand in order already: the contract. For facts that can be read. -/
import Derived.Test.YtcmiillgniglaaaGreatDoorQf04
import Derived.Test.YtcmiillgniglaaaGreatDoorQf24
namespace Go.Proofs.Herb
open Go.RowKit Go.Sort
/-- facts that stand in order: no later one is ahead of an elder one -/
def OrdF (l : List Fact) : Prop := ∀ (i j : Nat) (hi : i ≤ j) (hj : j < l.length), 0 ≤ cmpF l[j] (l[i]'(by omega))
theorem ordF_of {l : List Fact} (h : RiseF l) (hm : ∀ f ∈ l, mayF f = true) (ho : ∀ f ∈ l, f.Ok) : OrdF l := by
  have up : ∀ (d i : Nat) (hj : i + d + 1 < l.length), bL (kput (l[i]'(by omega))) (kput l[i + d + 1]) = true := by
    intro d
    induction d with
    | zero =>
      intro i hj
      exact kput_lt (ho _ (List.getElem_mem _)) (ho _ (List.getElem_mem _)) (hm _ (List.getElem_mem _)) (hm _ (List.getElem_mem _)) (h i hj).2
    | succ d ih =>
      intro i hj
      have h1 := ih i (by omega)
      have h2 := kput_lt (ho _ (List.getElem_mem _)) (ho _ (List.getElem_mem _)) (hm _ (List.getElem_mem _)) (hm _ (List.getElem_mem _)) (h (i + d + 1) (by omega)).2
      exact bl_trans h1 h2
  intro i j hi hj
  rcases Int.lt_or_le (cmpF l[j] (l[i]'(by omega))) 0 with hc | hc
  · exfalso
    have hk := kput_lt (ho _ (List.getElem_mem hj)) (ho _ (List.getElem_mem _)) (hm _ (List.getElem_mem hj)) (hm _ (List.getElem_mem _)) hc
    rcases Nat.lt_or_ge i j with hl | hl
    · have h1 := up (j - i - 1) i (by omega)
      have e : i + (j - i - 1) + 1 = j := by omega
      simp only [e] at h1
      rw [bl_asymm h1] at hk
      cases hk
    · obtain rfl : i = j := by omega
      rw [bl_irrefl] at hk
      cases hk
  · exact hc
abbrev cmpV : Value := .func (.func 19) #[] #[]
set_option maxRecDepth 100000 in
set_option maxHeartbeats 2000000 in
theorem ins_any (q : Option Addr) (n c a m : Nat) (l : List Fact) (w : World) (hn : l.length = n) (hn6 : n ≤ 1000000) (ho : OrdF l) (ha : a ≤ 1000000) (hm : m ≤ n) (hr : Rd w q (fCells l)) :
    Calls Tryz.prog 62 #[.slice q n c, .int .i64 (a : Int), .int .i64 (m : Int), cmpV] w fun e w' => e = .returned (.tuple #[]) ∧ Below w.heap.size w w' := by
  have Hn := hid hn
  have HO := hid ho
  have Hr := hid hr
  clear hn ho hr
  go_enter Tryz.func62, Tryz.ntmps62
  go_wp2_with fail
  go_loopw [8] (fun i wr => ∃ k : Nat, i = .int .i64 (k : Int) ∧ a < k ∧ (k ≤ m ∨ k = a + 1) ∧ Below w.heap.size w wr) (fun i _ => m - (intOf i).toNat)
  case atStart => exact ⟨a + 1, by go_num, by omega, .inr rfl, Below.refl _ _⟩
  case round =>
    obtain ⟨k, rfl, hak, hkm, hB⟩ := hrel
    have HB := hid hB
    clear hB
    by_cases hlt : k < m
    · obtain ⟨j, rfl⟩ : ∃ j, k = j + 1 := ⟨k - 1, by omega⟩
      have hk0 : (a : Int) < (j : Int) + 1 := by omega
      have hk1 : a < j + 1 := hak
      have wj : IntKind.i64.wrap ((j : Int) + 1 - 1) = (j : Int) := by rw [IntKind.wrap_i64]; omega
      go_upto_region 4 with fail
      go_loopw [9] (fun i wr => i = .int .i64 ((j + 1 : Nat) : Int) ∧ Below w.heap.size w wr) (fun _ _ => 0)
      case atStart => exact ⟨by go_num, HB.out⟩
      case round =>
        obtain ⟨rfl, hB⟩ := hrel
        have HB := hid hB
        clear hB
        have hil : (j + 1) < l.length := by rw [Hn.out]; omega
        have hjl : j < l.length := by rw [Hn.out]; omega
        obtain ⟨b, off, eb, hbl, hfx⟩ := fact_at (Hr.out.below HB.out) hil
        obtain ⟨b2, off2, e2, _, hfy⟩ := fact_at (Hr.out.below HB.out) hjl
        rw [eb] at e2
        cases e2
        subst eb
        obtain ⟨x, hx⟩ : ∃ x, x = l[(j + 1)] := ⟨_, rfl⟩
        obtain ⟨y, hy⟩ : ∃ y, y = l[j] := ⟨_, rfl⟩
        have hge := HO.out j (j + 1) (by omega) hil
        rw [← hx] at hfx hge
        rw [← hy] at hfy hge
        obtain ⟨C, hC⟩ : ∃ C : Int, Hid (C = cmpF x y) := ⟨_, hid rfl⟩
        rw [← hC.out] at hge
        have bC : decide (C < 0) = false := by simp; omega
        have i0 : (0 : Int) ≤ ((j + 1) : Int) := by omega
        have i1 : ((j + 1) : Int) < (n : Int) := by omega
        have j0 : (0 : Int) ≤ (j : Int) := by omega
        have j1 : (j : Int) < (n : Int) := by omega
        clear hx hy
        go_upto_region 4 with fail
        obtain ⟨TD, D, hD1, hD2⟩ := class_d wr
        have HCm := hid (fun z => calls_d hD1 hD2 (f := 19) (vs := #[.agg #[.string x.key, .int .u32 (x.valid : Int), .int .u64 (x.seq : Int), .int .u64 (x.line : Int), .int .u8 (x.kind : Int), .string x.val], .agg #[.string y.key, .int .u32 (y.valid : Int), .int .u64 (y.seq : Int), .int .u64 (y.line : Int), .int .u8 (y.kind : Int), .string y.val]]) (v := .int .i64 C) (fun w' _ => by rw [hC.out]; exact cmpF_any x y w') z)
        have xx : ∀ (z : TD) (p : Addr) v, wr.cell? p = some v → (D z).cell? p = some v := fun z p v hv => ((hD1 z).cell (World.block_lt_of_cell? wr _ hv)).trans hv
        have x0 : ∀ z, (D z).cell? ⟨b, off + (j + 1) * 6, none⟩ = some (.string x.key) := fun z => xx z _ _ hfx.c0
        have x1 : ∀ z, (D z).cell? ⟨b, off + (j + 1) * 6 + 1, none⟩ = some (.int .u32 (x.valid : Int)) := fun z => xx z _ _ hfx.c1
        have x2 : ∀ z, (D z).cell? ⟨b, off + (j + 1) * 6 + 2, none⟩ = some (.int .u64 (x.seq : Int)) := fun z => xx z _ _ hfx.c2
        have x3 : ∀ z, (D z).cell? ⟨b, off + (j + 1) * 6 + 3, none⟩ = some (.int .u64 (x.line : Int)) := fun z => xx z _ _ hfx.c3
        have x4 : ∀ z, (D z).cell? ⟨b, off + (j + 1) * 6 + 4, none⟩ = some (.int .u8 (x.kind : Int)) := fun z => xx z _ _ hfx.c4
        have x5 : ∀ z, (D z).cell? ⟨b, off + (j + 1) * 6 + 5, none⟩ = some (.string x.val) := fun z => xx z _ _ hfx.c5
        have y0 : ∀ z, (D z).cell? ⟨b, off + j * 6, none⟩ = some (.string y.key) := fun z => xx z _ _ hfy.c0
        have y1 : ∀ z, (D z).cell? ⟨b, off + j * 6 + 1, none⟩ = some (.int .u32 (y.valid : Int)) := fun z => xx z _ _ hfy.c1
        have y2 : ∀ z, (D z).cell? ⟨b, off + j * 6 + 2, none⟩ = some (.int .u64 (y.seq : Int)) := fun z => xx z _ _ hfy.c2
        have y3 : ∀ z, (D z).cell? ⟨b, off + j * 6 + 3, none⟩ = some (.int .u64 (y.line : Int)) := fun z => xx z _ _ hfy.c3
        have y4 : ∀ z, (D z).cell? ⟨b, off + j * 6 + 4, none⟩ = some (.int .u8 (y.kind : Int)) := fun z => xx z _ _ hfy.c4
        have y5 : ∀ z, (D z).cell? ⟨b, off + j * 6 + 5, none⟩ = some (.string y.val) := fun z => xx z _ _ hfy.c5
        obtain ⟨z0, hz0⟩ := hD2 { wr with drawn := wr.drawn + 1 } (Below.refl _ _).drew
        haveI : Nonempty TD := ⟨z0⟩
        have HD1 := hid hD1
        clear hD1 hD2 xx hfx hfy hge
        refine region_quiet_d (D := D) (by kernel_rfl) (by kernel_rfl) z0 hz0 ?_
        repeat (go_big_quiet_step ((go_at_call 19; with_reducible exact HCm.out _)))
        refine wpQuiet_nil ?_
        intro z
        have HB2 := hid (HB.out.trans ((HD1.out z).mono HB.out.size))
        clear x0 x1 x2 x3 x4 x5 y0 y1 y2 y3 y4 y5 hz0
        go_wp2
        go_roundw
        case rel => exact ⟨j + 1 + 1, by go_num, by omega, .inl (by omega), HB2.out⟩
        case measure => simp [intOf]; omega
    · go_wp2_with fail
      refine bodyPost_end (results_none rfl _ _ _) rfl ?_
      exact ⟨rfl, HB.out⟩
set_option maxRecDepth 100000 in
set_option maxHeartbeats 6400000 in
theorem sym_any (q : Option Addr) (n c : Nat) (l : List Fact) (hn : l.length = n) (hn6 : n ≤ 1000000) (ho : OrdF l) : ∀ (d a m b : Nat), b - a ≤ d → a < m → m < b → b ≤ n → ∀ (w : World), Rd w q (fCells l) →
    Calls Tryz.prog 63 #[.slice q n c, .int .i64 (a : Int), .int .i64 (m : Int), .int .i64 (b : Int), cmpV] w fun e w' => e = .returned (.tuple #[]) ∧ Below w.heap.size w w' := by
  intro d
  induction d with
  | zero => intro a m b h1 h2 h3; omega
  | succ d ih =>
    intro a m b h1 h2 h3 h4 w hr
    have Hn := hid hn
    have HO := hid ho
    have Hr := hid hr
    have Hih := hid ih
    clear hr ih
    by_cases e1 : m = a + 1
    · subst e1
      have g1 : ((a : Int) + 1 - (a : Int) == 1) = true := by rw [beq_iff_eq]; omega
      go_enter Tryz.func63, Tryz.ntmps63
      go_wp2_with fail
      go_loopw [10, 11] (fun i j wr => i = .int .i64 ((a + 1 : Nat) : Int) ∧ ∃ J : Nat, j = .int .i64 (J : Int) ∧ a + 1 ≤ J ∧ J ≤ b ∧ Below w.heap.size w wr) (fun _ j _ => (intOf j).toNat - (a + 1))
      case atStart => exact ⟨rfl, b, rfl, by omega, Nat.le_refl _, Below.refl _ _⟩
      case round =>
        obtain ⟨rfl, J, rfl, hJ1, hJ2, hB⟩ := hrel
        have HB := hid hB
        clear hB
        by_cases hlt : a + 1 < J
        · obtain ⟨X, hX⟩ : ∃ X, X = (a + 1 + J) / 2 := ⟨_, rfl⟩
          have hXi : ((a : Int) + 1 + (J : Int)) / 2 = (X : Int) := by omega
          have hX1 : a + 1 ≤ X ∧ X < J := by omega
          obtain ⟨hX2, hX3⟩ := hX1
          clear hX
          have hil : X < l.length := by rw [Hn.out]; omega
          have hjl : a < l.length := by rw [Hn.out]; omega
          obtain ⟨b, off, eb, hbl, hfx⟩ := fact_at (Hr.out.below HB.out) hil
          obtain ⟨b2, off2, e2, _, hfy⟩ := fact_at (Hr.out.below HB.out) hjl
          rw [eb] at e2
          cases e2
          subst eb
          obtain ⟨x, hx⟩ : ∃ x, x = l[X] := ⟨_, rfl⟩
          obtain ⟨y, hy⟩ : ∃ y, y = l[a] := ⟨_, rfl⟩
          have hge := HO.out a X (by omega) hil
          rw [← hx] at hfx hge
          rw [← hy] at hfy hge
          obtain ⟨C, hC⟩ : ∃ C : Int, Hid (C = cmpF x y) := ⟨_, hid rfl⟩
          rw [← hC.out] at hge
          have bC : decide (C < 0) = false := by simp; omega
          have i0 : (0 : Int) ≤ (X : Int) := by omega
          have i1 : (X : Int) < (n : Int) := by omega
          have j0 : (0 : Int) ≤ (a : Int) := by omega
          have j1 : (a : Int) < (n : Int) := by omega
          clear hx hy
          go_upto_region 5 with fail
          obtain ⟨TD, D, hD1, hD2⟩ := class_d wr
          have HCm := hid (fun z => calls_d hD1 hD2 (f := 19) (vs := #[.agg #[.string x.key, .int .u32 (x.valid : Int), .int .u64 (x.seq : Int), .int .u64 (x.line : Int), .int .u8 (x.kind : Int), .string x.val], .agg #[.string y.key, .int .u32 (y.valid : Int), .int .u64 (y.seq : Int), .int .u64 (y.line : Int), .int .u8 (y.kind : Int), .string y.val]]) (v := .int .i64 C) (fun w' _ => by rw [hC.out]; exact cmpF_any x y w') z)
          have xx : ∀ (z : TD) (p : Addr) v, wr.cell? p = some v → (D z).cell? p = some v := fun z p v hv => ((hD1 z).cell (World.block_lt_of_cell? wr _ hv)).trans hv
          have x0 : ∀ z, (D z).cell? ⟨b, off + X * 6, none⟩ = some (.string x.key) := fun z => xx z _ _ hfx.c0
          have x1 : ∀ z, (D z).cell? ⟨b, off + X * 6 + 1, none⟩ = some (.int .u32 (x.valid : Int)) := fun z => xx z _ _ hfx.c1
          have x2 : ∀ z, (D z).cell? ⟨b, off + X * 6 + 2, none⟩ = some (.int .u64 (x.seq : Int)) := fun z => xx z _ _ hfx.c2
          have x3 : ∀ z, (D z).cell? ⟨b, off + X * 6 + 3, none⟩ = some (.int .u64 (x.line : Int)) := fun z => xx z _ _ hfx.c3
          have x4 : ∀ z, (D z).cell? ⟨b, off + X * 6 + 4, none⟩ = some (.int .u8 (x.kind : Int)) := fun z => xx z _ _ hfx.c4
          have x5 : ∀ z, (D z).cell? ⟨b, off + X * 6 + 5, none⟩ = some (.string x.val) := fun z => xx z _ _ hfx.c5
          have y0 : ∀ z, (D z).cell? ⟨b, off + a * 6, none⟩ = some (.string y.key) := fun z => xx z _ _ hfy.c0
          have y1 : ∀ z, (D z).cell? ⟨b, off + a * 6 + 1, none⟩ = some (.int .u32 (y.valid : Int)) := fun z => xx z _ _ hfy.c1
          have y2 : ∀ z, (D z).cell? ⟨b, off + a * 6 + 2, none⟩ = some (.int .u64 (y.seq : Int)) := fun z => xx z _ _ hfy.c2
          have y3 : ∀ z, (D z).cell? ⟨b, off + a * 6 + 3, none⟩ = some (.int .u64 (y.line : Int)) := fun z => xx z _ _ hfy.c3
          have y4 : ∀ z, (D z).cell? ⟨b, off + a * 6 + 4, none⟩ = some (.int .u8 (y.kind : Int)) := fun z => xx z _ _ hfy.c4
          have y5 : ∀ z, (D z).cell? ⟨b, off + a * 6 + 5, none⟩ = some (.string y.val) := fun z => xx z _ _ hfy.c5
          obtain ⟨z0, hz0⟩ := hD2 { wr with drawn := wr.drawn + 1 } (Below.refl _ _).drew
          haveI : Nonempty TD := ⟨z0⟩
          have HD1 := hid hD1
          clear hD1 hD2 xx hfx hfy hge
          refine region_quiet_d (D := D) (by kernel_rfl) (by kernel_rfl) z0 hz0 ?_
          repeat (go_big_quiet_step ((go_at_call 19; with_reducible exact HCm.out _)))
          refine wpQuiet_nil ?_
          intro z
          have HB2 := hid (HB.out.trans ((HD1.out z).mono HB.out.size))
          clear x0 x1 x2 x3 x4 x5 y0 y1 y2 y3 y4 y5 hz0
          go_wp2
          go_roundw
          case rel => exact ⟨rfl, X, rfl, by omega, by omega, HB2.out⟩
          case measure => simp [intOf]; omega
        · go_wp2_with fail
          go_loopw [13] (fun k wr => k = .int .i64 (a : Int) ∧ Below w.heap.size w wr) (fun _ _ => 0)
          case atStart => exact ⟨rfl, HB.out⟩
          case round =>
            obtain ⟨rfl, hB⟩ := hrel
            have HB := hid hB
            clear hB
            go_wp2_with fail
            refine bodyPost_ret (results_none rfl _ _ _) rfl ?_
            exact ⟨rfl, HB.out⟩
    have g1 : ((m : Int) - (a : Int) == 1) = false := by rw [beq_eq_false_iff_ne]; omega
    by_cases e2 : b = m + 1
    · subst e2
      have g2 : ((m : Int) + 1 - (m : Int) == 1) = true := by rw [beq_iff_eq]; omega
      go_enter Tryz.func63, Tryz.ntmps63
      go_wp2_with fail
      go_loopw [14, 15] (fun i j wr => j = .int .i64 (m : Int) ∧ ∃ J : Nat, i = .int .i64 (J : Int) ∧ a ≤ J ∧ J ≤ m ∧ Below w.heap.size w wr) (fun i _ _ => m - (intOf i).toNat)
      case atStart => exact ⟨rfl, a, rfl, Nat.le_refl _, by omega, Below.refl _ _⟩
      case round =>
        obtain ⟨rfl, J, rfl, hJ1, hJ2, hB⟩ := hrel
        have HB := hid hB
        clear hB
        by_cases hlt : J < m
        · obtain ⟨X, hX⟩ : ∃ X, X = (J + m) / 2 := ⟨_, rfl⟩
          have hXi : ((J : Int) + (m : Int)) / 2 = (X : Int) := by omega
          have hX1 : J ≤ X ∧ X < m := by omega
          obtain ⟨hX2, hX3⟩ := hX1
          clear hX
          have hil : m < l.length := by rw [Hn.out]; omega
          have hjl : X < l.length := by rw [Hn.out]; omega
          obtain ⟨b, off, eb, hbl, hfx⟩ := fact_at (Hr.out.below HB.out) hil
          obtain ⟨b2, off2, e2, _, hfy⟩ := fact_at (Hr.out.below HB.out) hjl
          rw [eb] at e2
          cases e2
          subst eb
          obtain ⟨x, hx⟩ : ∃ x, x = l[m] := ⟨_, rfl⟩
          obtain ⟨y, hy⟩ : ∃ y, y = l[X] := ⟨_, rfl⟩
          have hge := HO.out X m (by omega) hil
          rw [← hx] at hfx hge
          rw [← hy] at hfy hge
          obtain ⟨C, hC⟩ : ∃ C : Int, Hid (C = cmpF x y) := ⟨_, hid rfl⟩
          rw [← hC.out] at hge
          have bC : decide (C < 0) = false := by simp; omega
          have i0 : (0 : Int) ≤ (m : Int) := by omega
          have i1 : (m : Int) < (n : Int) := by omega
          have j0 : (0 : Int) ≤ (X : Int) := by omega
          have j1 : (X : Int) < (n : Int) := by omega
          clear hx hy
          go_upto_region 17 with fail
          obtain ⟨TD, D, hD1, hD2⟩ := class_d wr
          have HCm := hid (fun z => calls_d hD1 hD2 (f := 19) (vs := #[.agg #[.string x.key, .int .u32 (x.valid : Int), .int .u64 (x.seq : Int), .int .u64 (x.line : Int), .int .u8 (x.kind : Int), .string x.val], .agg #[.string y.key, .int .u32 (y.valid : Int), .int .u64 (y.seq : Int), .int .u64 (y.line : Int), .int .u8 (y.kind : Int), .string y.val]]) (v := .int .i64 C) (fun w' _ => by rw [hC.out]; exact cmpF_any x y w') z)
          have xx : ∀ (z : TD) (p : Addr) v, wr.cell? p = some v → (D z).cell? p = some v := fun z p v hv => ((hD1 z).cell (World.block_lt_of_cell? wr _ hv)).trans hv
          have x0 : ∀ z, (D z).cell? ⟨b, off + m * 6, none⟩ = some (.string x.key) := fun z => xx z _ _ hfx.c0
          have x1 : ∀ z, (D z).cell? ⟨b, off + m * 6 + 1, none⟩ = some (.int .u32 (x.valid : Int)) := fun z => xx z _ _ hfx.c1
          have x2 : ∀ z, (D z).cell? ⟨b, off + m * 6 + 2, none⟩ = some (.int .u64 (x.seq : Int)) := fun z => xx z _ _ hfx.c2
          have x3 : ∀ z, (D z).cell? ⟨b, off + m * 6 + 3, none⟩ = some (.int .u64 (x.line : Int)) := fun z => xx z _ _ hfx.c3
          have x4 : ∀ z, (D z).cell? ⟨b, off + m * 6 + 4, none⟩ = some (.int .u8 (x.kind : Int)) := fun z => xx z _ _ hfx.c4
          have x5 : ∀ z, (D z).cell? ⟨b, off + m * 6 + 5, none⟩ = some (.string x.val) := fun z => xx z _ _ hfx.c5
          have y0 : ∀ z, (D z).cell? ⟨b, off + X * 6, none⟩ = some (.string y.key) := fun z => xx z _ _ hfy.c0
          have y1 : ∀ z, (D z).cell? ⟨b, off + X * 6 + 1, none⟩ = some (.int .u32 (y.valid : Int)) := fun z => xx z _ _ hfy.c1
          have y2 : ∀ z, (D z).cell? ⟨b, off + X * 6 + 2, none⟩ = some (.int .u64 (y.seq : Int)) := fun z => xx z _ _ hfy.c2
          have y3 : ∀ z, (D z).cell? ⟨b, off + X * 6 + 3, none⟩ = some (.int .u64 (y.line : Int)) := fun z => xx z _ _ hfy.c3
          have y4 : ∀ z, (D z).cell? ⟨b, off + X * 6 + 4, none⟩ = some (.int .u8 (y.kind : Int)) := fun z => xx z _ _ hfy.c4
          have y5 : ∀ z, (D z).cell? ⟨b, off + X * 6 + 5, none⟩ = some (.string y.val) := fun z => xx z _ _ hfy.c5
          obtain ⟨z0, hz0⟩ := hD2 { wr with drawn := wr.drawn + 1 } (Below.refl _ _).drew
          haveI : Nonempty TD := ⟨z0⟩
          have HD1 := hid hD1
          clear hD1 hD2 xx hfx hfy hge
          refine region_quiet_d (D := D) (by kernel_rfl) (by kernel_rfl) z0 hz0 ?_
          repeat (go_big_quiet_step ((go_at_call 19; with_reducible exact HCm.out _)))
          refine wpQuiet_nil ?_
          intro z
          have HB2 := hid (HB.out.trans ((HD1.out z).mono HB.out.size))
          clear x0 x1 x2 x3 x4 x5 y0 y1 y2 y3 y4 y5 hz0
          go_wp2
          go_roundw
          case rel => exact ⟨rfl, X + 1, by go_num, by omega, by omega, HB2.out⟩
          case measure => simp [intOf]; omega
        · obtain rfl : J = m := by omega
          go_wp2_with fail
          go_loopw [17] (fun k wr => k = .int .i64 (J : Int) ∧ Below w.heap.size w wr) (fun _ _ => 0)
          case atStart => exact ⟨rfl, HB.out⟩
          case round =>
            obtain ⟨rfl, hB⟩ := hrel
            have HB := hid hB
            clear hB
            go_wp2_with fail
            refine bodyPost_ret (results_none rfl _ _ _) rfl ?_
            exact ⟨rfl, HB.out⟩
    have g2 : ((b : Int) - (m : Int) == 1) = false := by rw [beq_eq_false_iff_ne]; omega
    obtain ⟨mid, hmid⟩ : ∃ x, x = (a + b) / 2 := ⟨_, rfl⟩
    have hmi : ((a : Int) + (b : Int)) / 2 = (mid : Int) := by omega
    have hm1 : a < mid := by omega
    have hm2 : mid < b := by omega
    have hm3 : 2 * mid ≤ a + b := by omega
    have hm4 : a + b ≤ 2 * mid + 1 := by omega
    clear hmid
    by_cases hmm : mid < m
    · obtain ⟨S0, hS0⟩ : ∃ x, x + b = mid + m := ⟨mid + m - b, by omega⟩
      obtain ⟨P, hP⟩ : ∃ x, x + 1 = mid + m := ⟨mid + m - 1, by omega⟩
      have wS : IntKind.i64.wrap ((mid : Int) + (m : Int) - (b : Int)) = (S0 : Int) := by rw [IntKind.wrap_i64]; omega
      have wP : IntKind.i64.wrap ((mid : Int) + (m : Int) - 1) = (P : Int) := by rw [IntKind.wrap_i64]; omega
      go_enter Tryz.func63, Tryz.ntmps63
      go_wp2_with fail
      go_loopw [20, 21] (fun i j wr => j = .int .i64 (mid : Int) ∧ ∃ J : Nat, i = .int .i64 (J : Int) ∧ S0 ≤ J ∧ J ≤ mid ∧ Below w.heap.size w wr) (fun i _ _ => mid - (intOf i).toNat)
      case atStart => exact ⟨rfl, S0, rfl, Nat.le_refl _, by omega, Below.refl _ _⟩
      case round =>
        obtain ⟨rfl, J, rfl, hJ1, hJ2, hB⟩ := hrel
        have HB := hid hB
        clear hB
        by_cases hlt : J < mid
        · obtain ⟨X, hX⟩ : ∃ X, X = (J + mid) / 2 := ⟨_, rfl⟩
          have hXi : ((J : Int) + (mid : Int)) / 2 = (X : Int) := by omega
          have hX1 : J ≤ X ∧ X < mid := by omega
          obtain ⟨hX2, hX3⟩ := hX1
          obtain ⟨Y, hY⟩ : ∃ Y, Y + X = P := ⟨P - X, by omega⟩
          have wY : IntKind.i64.wrap ((P : Int) - (X : Int)) = (Y : Int) := by rw [IntKind.wrap_i64]; omega
          clear hX
          have hil : Y < l.length := by rw [Hn.out]; omega
          have hjl : X < l.length := by rw [Hn.out]; omega
          obtain ⟨b, off, eb, hbl, hfx⟩ := fact_at (Hr.out.below HB.out) hil
          obtain ⟨b2, off2, e2, _, hfy⟩ := fact_at (Hr.out.below HB.out) hjl
          rw [eb] at e2
          cases e2
          subst eb
          obtain ⟨x, hx⟩ : ∃ x, x = l[Y] := ⟨_, rfl⟩
          obtain ⟨y, hy⟩ : ∃ y, y = l[X] := ⟨_, rfl⟩
          have hge := HO.out X Y (by omega) hil
          rw [← hx] at hfx hge
          rw [← hy] at hfy hge
          obtain ⟨C, hC⟩ : ∃ C : Int, Hid (C = cmpF x y) := ⟨_, hid rfl⟩
          rw [← hC.out] at hge
          have bC : decide (C < 0) = false := by simp; omega
          have i0 : (0 : Int) ≤ (Y : Int) := by omega
          have i1 : (Y : Int) < (n : Int) := by omega
          have j0 : (0 : Int) ≤ (X : Int) := by omega
          have j1 : (X : Int) < (n : Int) := by omega
          clear hx hy
          go_upto_region 35 with fail
          obtain ⟨TD, D, hD1, hD2⟩ := class_d wr
          have HCm := hid (fun z => calls_d hD1 hD2 (f := 19) (vs := #[.agg #[.string x.key, .int .u32 (x.valid : Int), .int .u64 (x.seq : Int), .int .u64 (x.line : Int), .int .u8 (x.kind : Int), .string x.val], .agg #[.string y.key, .int .u32 (y.valid : Int), .int .u64 (y.seq : Int), .int .u64 (y.line : Int), .int .u8 (y.kind : Int), .string y.val]]) (v := .int .i64 C) (fun w' _ => by rw [hC.out]; exact cmpF_any x y w') z)
          have xx : ∀ (z : TD) (p : Addr) v, wr.cell? p = some v → (D z).cell? p = some v := fun z p v hv => ((hD1 z).cell (World.block_lt_of_cell? wr _ hv)).trans hv
          have x0 : ∀ z, (D z).cell? ⟨b, off + Y * 6, none⟩ = some (.string x.key) := fun z => xx z _ _ hfx.c0
          have x1 : ∀ z, (D z).cell? ⟨b, off + Y * 6 + 1, none⟩ = some (.int .u32 (x.valid : Int)) := fun z => xx z _ _ hfx.c1
          have x2 : ∀ z, (D z).cell? ⟨b, off + Y * 6 + 2, none⟩ = some (.int .u64 (x.seq : Int)) := fun z => xx z _ _ hfx.c2
          have x3 : ∀ z, (D z).cell? ⟨b, off + Y * 6 + 3, none⟩ = some (.int .u64 (x.line : Int)) := fun z => xx z _ _ hfx.c3
          have x4 : ∀ z, (D z).cell? ⟨b, off + Y * 6 + 4, none⟩ = some (.int .u8 (x.kind : Int)) := fun z => xx z _ _ hfx.c4
          have x5 : ∀ z, (D z).cell? ⟨b, off + Y * 6 + 5, none⟩ = some (.string x.val) := fun z => xx z _ _ hfx.c5
          have y0 : ∀ z, (D z).cell? ⟨b, off + X * 6, none⟩ = some (.string y.key) := fun z => xx z _ _ hfy.c0
          have y1 : ∀ z, (D z).cell? ⟨b, off + X * 6 + 1, none⟩ = some (.int .u32 (y.valid : Int)) := fun z => xx z _ _ hfy.c1
          have y2 : ∀ z, (D z).cell? ⟨b, off + X * 6 + 2, none⟩ = some (.int .u64 (y.seq : Int)) := fun z => xx z _ _ hfy.c2
          have y3 : ∀ z, (D z).cell? ⟨b, off + X * 6 + 3, none⟩ = some (.int .u64 (y.line : Int)) := fun z => xx z _ _ hfy.c3
          have y4 : ∀ z, (D z).cell? ⟨b, off + X * 6 + 4, none⟩ = some (.int .u8 (y.kind : Int)) := fun z => xx z _ _ hfy.c4
          have y5 : ∀ z, (D z).cell? ⟨b, off + X * 6 + 5, none⟩ = some (.string y.val) := fun z => xx z _ _ hfy.c5
          obtain ⟨z0, hz0⟩ := hD2 { wr with drawn := wr.drawn + 1 } (Below.refl _ _).drew
          haveI : Nonempty TD := ⟨z0⟩
          have HD1 := hid hD1
          clear hD1 hD2 xx hfx hfy hge
          refine region_quiet_d (D := D) (by kernel_rfl) (by kernel_rfl) z0 hz0 ?_
          repeat (go_big_quiet_step ((go_at_call 19; with_reducible exact HCm.out _)))
          refine wpQuiet_nil ?_
          intro z
          have HB2 := hid (HB.out.trans ((HD1.out z).mono HB.out.size))
          clear x0 x1 x2 x3 x4 x5 y0 y1 y2 y3 y4 y5 hz0
          go_wp2
          go_roundw
          case rel => exact ⟨rfl, X + 1, by go_num, by omega, by omega, HB2.out⟩
          case measure => simp [intOf]; omega
        · obtain rfl : J = mid := by omega
          have wE : IntKind.i64.wrap ((J : Int) + (m : Int) - (J : Int)) = (m : Int) := by rw [IntKind.wrap_i64]; omega
          go_wp2_with fail
          refine (Hih.out J m b (by omega) (by omega) h3 h4 wr (Hr.out.below HB.out)).mono ?_
          rintro e w2 ⟨rfl, hb2⟩
          have HB2 := hid (HB.out.trans (hb2.mono HB.out.size))
          clear hb2
          go_wp2_with fail
          refine bodyPost_end (results_none rfl _ _ _) rfl ?_
          exact ⟨rfl, HB2.out⟩
    · obtain ⟨P, hP⟩ : ∃ x, x + 1 = mid + m := ⟨mid + m - 1, by omega⟩
      have wP : IntKind.i64.wrap ((mid : Int) + (m : Int) - 1) = (P : Int) := by rw [IntKind.wrap_i64]; omega
      go_enter Tryz.func63, Tryz.ntmps63
      go_wp2_with fail
      go_loopw [20, 21] (fun i j wr => j = .int .i64 (m : Int) ∧ ∃ J : Nat, i = .int .i64 (J : Int) ∧ a ≤ J ∧ J ≤ m ∧ Below w.heap.size w wr) (fun i _ _ => m - (intOf i).toNat)
      case atStart => exact ⟨rfl, a, rfl, Nat.le_refl _, by omega, Below.refl _ _⟩
      case round =>
        obtain ⟨rfl, J, rfl, hJ1, hJ2, hB⟩ := hrel
        have HB := hid hB
        clear hB
        by_cases hlt : J < m
        · obtain ⟨X, hX⟩ : ∃ X, X = (J + m) / 2 := ⟨_, rfl⟩
          have hXi : ((J : Int) + (m : Int)) / 2 = (X : Int) := by omega
          have hX1 : J ≤ X ∧ X < m := by omega
          obtain ⟨hX2, hX3⟩ := hX1
          obtain ⟨Y, hY⟩ : ∃ Y, Y + X = P := ⟨P - X, by omega⟩
          have wY : IntKind.i64.wrap ((P : Int) - (X : Int)) = (Y : Int) := by rw [IntKind.wrap_i64]; omega
          clear hX
          have hil : Y < l.length := by rw [Hn.out]; omega
          have hjl : X < l.length := by rw [Hn.out]; omega
          obtain ⟨b, off, eb, hbl, hfx⟩ := fact_at (Hr.out.below HB.out) hil
          obtain ⟨b2, off2, e2, _, hfy⟩ := fact_at (Hr.out.below HB.out) hjl
          rw [eb] at e2
          cases e2
          subst eb
          obtain ⟨x, hx⟩ : ∃ x, x = l[Y] := ⟨_, rfl⟩
          obtain ⟨y, hy⟩ : ∃ y, y = l[X] := ⟨_, rfl⟩
          have hge := HO.out X Y (by omega) hil
          rw [← hx] at hfx hge
          rw [← hy] at hfy hge
          obtain ⟨C, hC⟩ : ∃ C : Int, Hid (C = cmpF x y) := ⟨_, hid rfl⟩
          rw [← hC.out] at hge
          have bC : decide (C < 0) = false := by simp; omega
          have i0 : (0 : Int) ≤ (Y : Int) := by omega
          have i1 : (Y : Int) < (n : Int) := by omega
          have j0 : (0 : Int) ≤ (X : Int) := by omega
          have j1 : (X : Int) < (n : Int) := by omega
          clear hx hy
          go_upto_region 35 with fail
          obtain ⟨TD, D, hD1, hD2⟩ := class_d wr
          have HCm := hid (fun z => calls_d hD1 hD2 (f := 19) (vs := #[.agg #[.string x.key, .int .u32 (x.valid : Int), .int .u64 (x.seq : Int), .int .u64 (x.line : Int), .int .u8 (x.kind : Int), .string x.val], .agg #[.string y.key, .int .u32 (y.valid : Int), .int .u64 (y.seq : Int), .int .u64 (y.line : Int), .int .u8 (y.kind : Int), .string y.val]]) (v := .int .i64 C) (fun w' _ => by rw [hC.out]; exact cmpF_any x y w') z)
          have xx : ∀ (z : TD) (p : Addr) v, wr.cell? p = some v → (D z).cell? p = some v := fun z p v hv => ((hD1 z).cell (World.block_lt_of_cell? wr _ hv)).trans hv
          have x0 : ∀ z, (D z).cell? ⟨b, off + Y * 6, none⟩ = some (.string x.key) := fun z => xx z _ _ hfx.c0
          have x1 : ∀ z, (D z).cell? ⟨b, off + Y * 6 + 1, none⟩ = some (.int .u32 (x.valid : Int)) := fun z => xx z _ _ hfx.c1
          have x2 : ∀ z, (D z).cell? ⟨b, off + Y * 6 + 2, none⟩ = some (.int .u64 (x.seq : Int)) := fun z => xx z _ _ hfx.c2
          have x3 : ∀ z, (D z).cell? ⟨b, off + Y * 6 + 3, none⟩ = some (.int .u64 (x.line : Int)) := fun z => xx z _ _ hfx.c3
          have x4 : ∀ z, (D z).cell? ⟨b, off + Y * 6 + 4, none⟩ = some (.int .u8 (x.kind : Int)) := fun z => xx z _ _ hfx.c4
          have x5 : ∀ z, (D z).cell? ⟨b, off + Y * 6 + 5, none⟩ = some (.string x.val) := fun z => xx z _ _ hfx.c5
          have y0 : ∀ z, (D z).cell? ⟨b, off + X * 6, none⟩ = some (.string y.key) := fun z => xx z _ _ hfy.c0
          have y1 : ∀ z, (D z).cell? ⟨b, off + X * 6 + 1, none⟩ = some (.int .u32 (y.valid : Int)) := fun z => xx z _ _ hfy.c1
          have y2 : ∀ z, (D z).cell? ⟨b, off + X * 6 + 2, none⟩ = some (.int .u64 (y.seq : Int)) := fun z => xx z _ _ hfy.c2
          have y3 : ∀ z, (D z).cell? ⟨b, off + X * 6 + 3, none⟩ = some (.int .u64 (y.line : Int)) := fun z => xx z _ _ hfy.c3
          have y4 : ∀ z, (D z).cell? ⟨b, off + X * 6 + 4, none⟩ = some (.int .u8 (y.kind : Int)) := fun z => xx z _ _ hfy.c4
          have y5 : ∀ z, (D z).cell? ⟨b, off + X * 6 + 5, none⟩ = some (.string y.val) := fun z => xx z _ _ hfy.c5
          obtain ⟨z0, hz0⟩ := hD2 { wr with drawn := wr.drawn + 1 } (Below.refl _ _).drew
          haveI : Nonempty TD := ⟨z0⟩
          have HD1 := hid hD1
          clear hD1 hD2 xx hfx hfy hge
          refine region_quiet_d (D := D) (by kernel_rfl) (by kernel_rfl) z0 hz0 ?_
          repeat (go_big_quiet_step ((go_at_call 19; with_reducible exact HCm.out _)))
          refine wpQuiet_nil ?_
          intro z
          have HB2 := hid (HB.out.trans ((HD1.out z).mono HB.out.size))
          clear x0 x1 x2 x3 x4 x5 y0 y1 y2 y3 y4 y5 hz0
          go_wp2
          go_roundw
          case rel => exact ⟨rfl, X + 1, by go_num, by omega, by omega, HB2.out⟩
          case measure => simp [intOf]; omega
        · obtain rfl : J = m := by omega
          have wE : IntKind.i64.wrap ((mid : Int) + (J : Int) - (J : Int)) = (mid : Int) := by rw [IntKind.wrap_i64]; omega
          by_cases hJm : J < mid
          · go_wp2_with fail
            refine (Hih.out a J mid (by omega) h2 hJm (by omega) wr (Hr.out.below HB.out)).mono ?_
            rintro e w2 ⟨rfl, hb2⟩
            have HB2 := hid (HB.out.trans (hb2.mono HB.out.size))
            clear hb2
            go_wp2_with fail
            refine bodyPost_end (results_none rfl _ _ _) rfl ?_
            exact ⟨rfl, HB2.out⟩
          · go_wp2_with fail
            refine bodyPost_end (results_none rfl _ _ _) rfl ?_
            exact ⟨rfl, HB.out⟩
end Go.Proofs.Herb
namespace Go.Proofs.Herb
open Go.RowKit Go.Sort
set_option maxRecDepth 100000 in
set_option maxHeartbeats 4000000 in
theorem stable_any (q : Option Addr) (n c : Nat) (l : List Fact) (w : World) (hn : l.length = n) (hn6 : n ≤ 900000) (ho : OrdF l) (hr : Rd w q (fCells l)) :
    Calls Tryz.prog 40 #[.slice q n c, .int .i64 (n : Int), cmpV] w fun e w' => e = .returned (.tuple #[]) ∧ Below w.heap.size w w' := by
  have Hn := hid hn
  have HO := hid ho
  have Hr := hid hr
  clear hn ho hr
  go_enter Tryz.func40, Tryz.ntmps40
  go_wp2_with fail
  go_loopw [7, 8] (fun i j wr => ∃ a : Nat, i = .int .i64 (a : Int) ∧ j = .int .i64 ((a + 20 : Nat) : Int) ∧ a ≤ n ∧ Below w.heap.size w wr) (fun i _ _ => n - (intOf i).toNat)
  case atStart => exact ⟨0, rfl, rfl, Nat.zero_le _, Below.refl _ _⟩
  case round =>
    obtain ⟨a, rfl, rfl, ha, hB⟩ := hrel
    have HB := hid hB
    clear hB
    by_cases hlt : a + 20 ≤ n
    · go_wp2_with fail
      refine (ins_any q n c a (a + 20) l wr Hn.out (by omega) HO.out (by omega) hlt (Hr.out.below HB.out)).mono ?_
      rintro e w2 ⟨rfl, hb2⟩
      have HB2 := hid (HB.out.trans (hb2.mono HB.out.size))
      clear hb2
      go_wp2_with fail
      go_roundw
      case rel => exact ⟨a + 20, by go_num, by go_num, hlt, HB2.out⟩
      case measure => simp [intOf]; omega
    · go_wp2_with fail
      refine (ins_any q n c a n l wr Hn.out (by omega) HO.out (by omega) (Nat.le_refl _) (Hr.out.below HB.out)).mono ?_
      rintro e w2 ⟨rfl, hb2⟩
      have HB2 := hid (HB.out.trans (hb2.mono HB.out.size))
      clear hb2
      go_wp2_with fail
      go_loopw [6, 7, 8, 9] (fun s _ _ _ wr => ∃ bs : Nat, s = .int .i64 (bs : Int) ∧ 20 ≤ bs ∧ bs ≤ 2000000 ∧ Below w.heap.size w wr) (fun s _ _ _ _ => n - (intOf s).toNat)
      case atStart => exact ⟨20, rfl, by omega, by omega, HB2.out⟩
      case round =>
        obtain ⟨bs, rfl, hs1, hs2, hB⟩ := hrel
        have HB := hid hB
        clear hB
        by_cases hbn : bs < n
        · go_wp2_with fail
          go_loopw [7, 8] (fun i j wr => ∃ a : Nat, i = .int .i64 (a : Int) ∧ j = .int .i64 ((a + 2 * bs : Nat) : Int) ∧ a ≤ n ∧ Below w.heap.size w wr) (fun i _ _ => n - (intOf i).toNat)
          case atStart => exact ⟨0, rfl, by go_num, Nat.zero_le _, HB.out⟩
          case round =>
            obtain ⟨a, rfl, rfl, ha, hB⟩ := hrel
            have HB := hid hB
            clear hB
            by_cases hle : a + 2 * bs ≤ n
            · go_wp2_with fail
              refine (sym_any q n c l Hn.out (by omega) HO.out _ a (a + bs) (a + 2 * bs) (Nat.le_refl _) (by omega) (by omega) hle wr (Hr.out.below HB.out)).mono ?_
              rintro e w2 ⟨rfl, hb2⟩
              have HB2 := hid (HB.out.trans (hb2.mono HB.out.size))
              clear hb2
              go_wp2_with fail
              go_roundw
              case rel => exact ⟨a + 2 * bs, by go_num, by go_num, hle, HB2.out⟩
              case measure => simp [intOf]; omega
            · by_cases hm : a + bs < n
              · go_wp2_with fail
                refine (sym_any q n c l Hn.out (by omega) HO.out _ a (a + bs) n (Nat.le_refl _) (by omega) hm (Nat.le_refl _) wr (Hr.out.below HB.out)).mono ?_
                rintro e w2 ⟨rfl, hb2⟩
                have HB2 := hid (HB.out.trans (hb2.mono HB.out.size))
                clear hb2
                go_wp2_with fail
                go_roundw
                case rel => exact ⟨bs * 2, by go_num, by omega, by omega, HB2.out⟩
                case measure => simp [intOf]; omega
              · go_wp2_with fail
                go_roundw
                case rel => exact ⟨bs * 2, by go_num, by omega, by omega, HB.out⟩
                case measure => simp [intOf]; omega
        · go_wp2_with fail
          refine bodyPost_end (results_none rfl _ _ _) rfl ?_
          exact ⟨rfl, HB.out⟩
theorem sortStable_any (q : Option Addr) (n c : Nat) (l : List Fact) (w : World) (hn : l.length = n) (hn6 : n ≤ 900000) (ho : OrdF l) (hr : Rd w q (fCells l)) :
    Calls Tryz.prog 18 #[.slice q n c, cmpV] w fun e w' => e = .returned (.tuple #[]) ∧ Below w.heap.size w w' := by
  have H := hid (stable_any q n c l w hn hn6 ho hr)
  clear hn ho hr
  go_enter Tryz.func18, Tryz.ntmps18
  go_wp2_with fail
  refine H.out.mono ?_
  rintro e w2 ⟨rfl, hb2⟩
  have HB2 := hid hb2
  clear hb2
  go_wp2_with fail
  refine bodyPost_end (results_none rfl _ _ _) rfl ?_
  exact ⟨rfl, HB2.out⟩
end Go.Proofs.Herb
