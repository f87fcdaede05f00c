/- What chores.Rewrite calls beside Read, Write and the sort: alike, slices.ContainsFunc, CompactFunc, DeleteFunc at facts; and the law's alike. For facts that can be read. (printed by gen_rwr.py) slices.IndexFunc and ContainsFunc at facts, for a function of the caller's own that looks alone. (printed by gen_rwr.py) -/
import Derived.Test.YtcmiillgniglaaaGreatDoorQf30
import Derived.Test.YtcmiillgniglaaaGreatDoorQf31
namespace Go.Proofs.Herb
open Go.RowKit Go.Sort
/-- alike: of one key, time and commit -/
def alikeF (f g : Fact) : Bool := decide (f.key = g.key) && (decide (f.valid = g.valid) && decide (f.seq = g.seq))
def NoAlK (l : List Fact) (k : Nat) : Prop := ∀ i (h : i + 1 < l.length), i + 1 < k → alikeF l[i + 1] (l[i]'(Nat.lt_of_succ_lt h)) = false
/-- no neighbours alike -/
def NoAl (l : List Fact) : Prop := NoAlK l l.length
theorem alikeF_self (f : Fact) : alikeF f f = true := by simp [alikeF]
set_option maxHeartbeats 1000000 in
theorem chalike_any (f g : Fact) (w : World) :
    Calls Tryz.prog 21 #[.agg f.cells.toArray, .agg g.cells.toArray] w fun e w' => e = .returned (.bool (alikeF f g)) ∧ Below w.heap.size w w' := by
  obtain ⟨k1, v1, s1, l1, d1, x1⟩ := f
  obtain ⟨k2, v2, s2, l2, d2, x2⟩ := g
  unfold alikeF Fact.cells
  dsimp only
  by_cases hk : k1 = k2
  · subst hk
    by_cases hv : v1 = v2
    · subst hv
      by_cases hs : s1 = s2
      · subst hs
        go_enter Tryz.func21, Tryz.ntmps21
        go_wp2
        go_ret
        exact ⟨by simp, ((Below.refl _ _).alloc (Nat.le_refl _) _).alloc (by simp) _⟩
      · have d : ((s1 : Int) == (s2 : Int)) = false := by simp; omega
        go_enter Tryz.func21, Tryz.ntmps21
        go_wp2
        go_ret
        exact ⟨by simp [hs], ((Below.refl _ _).alloc (Nat.le_refl _) _).alloc (by simp) _⟩
    · have d : ((v1 : Int) == (v2 : Int)) = false := by simp; omega
      go_enter Tryz.func21, Tryz.ntmps21
      go_wp2
      go_ret
      exact ⟨by simp [hv], ((Below.refl _ _).alloc (Nat.le_refl _) _).alloc (by simp) _⟩
  · have d : (k1.toList == k2.toList) = false := by
      rw [beq_eq_false_iff_ne]
      exact fun h => hk (ba_ext h)
    go_enter Tryz.func21, Tryz.ntmps21
    go_wp2
    go_ret
    exact ⟨by simp [hk], ((Below.refl _ _).alloc (Nat.le_refl _) _).alloc (by simp) _⟩
set_option maxRecDepth 100000 in
set_option maxHeartbeats 4000000 in
theorem lawalike_any (q : Option Addr) (n c : Nat) (l : List Fact) (w : World) (hn : l.length = n) (hn6 : n ≤ 1000000) (hr : Rd w q (fCells l)) :
    Calls Tryz.prog 5 #[.slice q n c] w fun e w' => ∃ b : Bool, e = .returned (.bool b) ∧ (b = false → NoAl l) ∧ Below w.heap.size w w' := by
  have Hn := hid hn
  have Hr := hid hr
  clear hn hr
  go_enter Tryz.func5, Tryz.ntmps5
  go_wp2_with fail
  go_loopw [3] (fun i wr => ∃ k : Nat, i = .int .i64 (k : Int) ∧ 1 ≤ k ∧ (k = 1 ∨ k ≤ n) ∧ NoAlK l k ∧ Below w.heap.size w wr) (fun i _ => n - (intOf i).toNat)
  case atStart => exact ⟨1, rfl, Nat.le_refl _, .inl rfl, fun i _ h => by omega, Below.refl _ _⟩
  case round =>
    obtain ⟨k, rfl, hk1, hk2, hA, hB⟩ := hrel
    have HB := hid hB
    have HA := hid hA
    clear hB hA
    by_cases hlt : k < n
    · obtain ⟨j, rfl⟩ : ∃ j, k = j + 1 := ⟨k - 1, by omega⟩
      have wj : IntKind.i64.wrap ((j : Int) + 1 - 1) = (j : Int) := by rw [IntKind.wrap_i64]; omega
      have hil : (j + 1) < l.length := by rw [Hn.out]; omega
      have hjl : j < l.length := by rw [Hn.out]; omega
      obtain ⟨b, off, eb, hbl, hfx⟩ := fact_at (Hr.out.below HB.out) hil
      obtain ⟨b2, off2, e2, _, hfy⟩ := fact_at (Hr.out.below HB.out) hjl
      rw [eb] at e2
      cases e2
      subst eb
      obtain ⟨x, hx⟩ : ∃ x, x = l[(j + 1)] := ⟨_, rfl⟩
      obtain ⟨y, hy⟩ : ∃ y, y = l[j] := ⟨_, rfl⟩
      rw [← hx] at hfx
      rw [← hy] at hfy
      have HX := hid hx
      have HY := hid hy
      have i0 : (0 : Int) ≤ ((j + 1) : Int) := by omega
      have i1 : ((j + 1) : Int) < (n : Int) := by omega
      have j0 : (0 : Int) ≤ (j : Int) := by omega
      have j1 : (j : Int) < (n : Int) := by omega
      clear hx hy
      go_upto_region 4 with fail
      obtain ⟨TD, D, hD1, hD2⟩ := class_d wr
      have xx : ∀ (z : TD) (p : Addr) v, wr.cell? p = some v → (D z).cell? p = some v := fun z p v hv => ((hD1 z).cell (World.block_lt_of_cell? wr _ hv)).trans hv
      have x0 : ∀ z, (D z).cell? ⟨b, off + (j + 1) * 6, none⟩ = some (.string x.key) := fun z => xx z _ _ hfx.c0
      have x1 : ∀ z, (D z).cell? ⟨b, off + (j + 1) * 6 + 1, none⟩ = some (.int .u32 (x.valid : Int)) := fun z => xx z _ _ hfx.c1
      have x2 : ∀ z, (D z).cell? ⟨b, off + (j + 1) * 6 + 2, none⟩ = some (.int .u64 (x.seq : Int)) := fun z => xx z _ _ hfx.c2
      have y0 : ∀ z, (D z).cell? ⟨b, off + j * 6, none⟩ = some (.string y.key) := fun z => xx z _ _ hfy.c0
      have y1 : ∀ z, (D z).cell? ⟨b, off + j * 6 + 1, none⟩ = some (.int .u32 (y.valid : Int)) := fun z => xx z _ _ hfy.c1
      have y2 : ∀ z, (D z).cell? ⟨b, off + j * 6 + 2, none⟩ = some (.int .u64 (y.seq : Int)) := fun z => xx z _ _ hfy.c2
      obtain ⟨z0, hz0⟩ := hD2 { wr with drawn := wr.drawn + 1 } (Below.refl _ _).drew
      haveI : Nonempty TD := ⟨z0⟩
      have HD1 := hid hD1
      clear hD1 hD2 xx hfx hfy
      by_cases hk : x.key = y.key
      · have bk : (x.key.toList == y.key.toList) = true := by simp [hk]
        by_cases hv : x.valid = y.valid
        · have bv_ : ((x.valid : Int) == (y.valid : Int)) = true := by simp [hv]
          by_cases hs : x.seq = y.seq
          · have bs_ : ((x.seq : Int) == (y.seq : Int)) = true := by simp [hs]
            clear hk hv hs
            refine region_quiet_d (D := D) (by kernel_rfl) (by kernel_rfl) z0 hz0 ?_
            repeat (go_big_quiet_step (fail))
            refine wpQuiet_nil ?_
            intro z
            have HB2 := hid (HB.out.trans ((HD1.out z).mono HB.out.size))
            clear x0 x1 x2 y0 y1 y2 hz0
            go_wp2
            go_ret
            exact ⟨true, rfl, (fun h => nomatch h), HB2.out⟩
          · have bs_ : ((x.seq : Int) == (y.seq : Int)) = false := by simp; omega
            have HS := hid hs
            clear hk hv hs
            refine region_quiet_d (D := D) (by kernel_rfl) (by kernel_rfl) z0 hz0 ?_
            repeat (go_big_quiet_step (fail))
            refine wpQuiet_nil ?_
            intro z
            have HB2 := hid (HB.out.trans ((HD1.out z).mono HB.out.size))
            clear x0 x1 x2 y0 y1 y2 hz0
            go_wp2
            go_roundw
            case rel =>
              refine ⟨j + 1 + 1, by go_num, by omega, .inr (by omega), fun i hi hij => ?_, HB2.out⟩
              by_cases e : i + 1 < j + 1
              · exact HA.out i hi e
              · obtain rfl : i = j := by omega
                rw [← HX.out, ← HY.out]
                unfold alikeF
                simp [HS.out]
            case measure => simp [intOf]; omega
        · have bv_ : ((x.valid : Int) == (y.valid : Int)) = false := by simp; omega
          have HV := hid hv
          clear hk hv
          refine region_quiet_d (D := D) (by kernel_rfl) (by kernel_rfl) z0 hz0 ?_
          repeat (go_big_quiet_step (fail))
          refine wpQuiet_nil ?_
          intro z
          have HB2 := hid (HB.out.trans ((HD1.out z).mono HB.out.size))
          clear x0 x1 x2 y0 y1 y2 hz0
          go_wp2
          go_roundw
          case rel =>
            refine ⟨j + 1 + 1, by go_num, by omega, .inr (by omega), fun i hi hij => ?_, HB2.out⟩
            by_cases e : i + 1 < j + 1
            · exact HA.out i hi e
            · obtain rfl : i = j := by omega
              rw [← HX.out, ← HY.out]
              unfold alikeF
              simp [HV.out]
          case measure => simp [intOf]; omega
      · have bk : (x.key.toList == y.key.toList) = false := by
          rw [beq_eq_false_iff_ne]
          exact fun h => hk (ba_ext h)
        have HK := hid hk
        clear hk
        refine region_quiet_d (D := D) (by kernel_rfl) (by kernel_rfl) z0 hz0 ?_
        repeat (go_big_quiet_step (fail))
        refine wpQuiet_nil ?_
        intro z
        have HB2 := hid (HB.out.trans ((HD1.out z).mono HB.out.size))
        clear x0 x1 x2 y0 y1 y2 hz0
        go_wp2
        go_roundw
        case rel =>
          refine ⟨j + 1 + 1, by go_num, by omega, .inr (by omega), fun i hi hij => ?_, HB2.out⟩
          by_cases e : i + 1 < j + 1
          · exact HA.out i hi e
          · obtain rfl : i = j := by omega
            rw [← HX.out, ← HY.out]
            unfold alikeF
            simp [HK.out]
        case measure => simp [intOf]; omega
    · go_wp2_with fail
      go_ret
      exact ⟨false, rfl, fun _ i hi _ => HA.out i hi (by have := Hn.out; omega), HB.out⟩
set_option maxRecDepth 100000 in
set_option maxHeartbeats 4000000 in
/-- no neighbours alike: the facts stay -/
theorem compact_any (q : Option Addr) (n c : Nat) (l : List Fact) (w : World) (hn : l.length = n) (hn6 : n ≤ 1000000) (ha : NoAl l) (hr : Rd w q (fCells l)) :
    Calls Tryz.prog 20 #[.slice q n c, .func (.func 21) #[] #[]] w fun e w' => e = .returned (.slice q n c) ∧ Below w.heap.size w w' := by
  have Hn := hid hn
  have Hr := hid hr
  have HA := hid ha
  clear hn hr ha
  by_cases h2 : n < 2
  · go_enter Tryz.func20, Tryz.ntmps20
    go_wp2_with fail
    go_ret
    exact ⟨rfl, Below.refl _ _⟩
  go_enter Tryz.func20, Tryz.ntmps20
  go_wp2_with fail
  go_loopw [5] (fun i wr => ∃ k : Nat, i = .int .i64 (k : Int) ∧ 1 ≤ k ∧ k ≤ n ∧ Below w.heap.size w wr) (fun i _ => n - (intOf i).toNat)
  case atStart => exact ⟨1, rfl, Nat.le_refl _, by omega, Below.refl _ _⟩
  case round =>
    obtain ⟨k, rfl, hk1, hk2, hB⟩ := hrel
    have HB := hid hB
    clear hB
    by_cases hlt : k < n
    · obtain ⟨j, rfl⟩ : ∃ j, k = j + 1 := ⟨k - 1, by omega⟩
      have wj : IntKind.i64.wrap ((j : Int) + 1 - 1) = (j : Int) := by rw [IntKind.wrap_i64]; omega
      have hil : (j + 1) < l.length := by rw [Hn.out]; omega
      have hjl : j < l.length := by rw [Hn.out]; omega
      obtain ⟨b, off, eb, hbl, hfx⟩ := fact_at (Hr.out.below HB.out) hil
      obtain ⟨b2, off2, e2, _, hfy⟩ := fact_at (Hr.out.below HB.out) hjl
      rw [eb] at e2
      cases e2
      subst eb
      obtain ⟨x, hx⟩ : ∃ x, x = l[(j + 1)] := ⟨_, rfl⟩
      obtain ⟨y, hy⟩ : ∃ y, y = l[j] := ⟨_, rfl⟩
      rw [← hx] at hfx
      rw [← hy] at hfy
      have HX := hid hx
      have HY := hid hy
      have i0 : (0 : Int) ≤ ((j + 1) : Int) := by omega
      have i1 : ((j + 1) : Int) < (n : Int) := by omega
      have j0 : (0 : Int) ≤ (j : Int) := by omega
      have j1 : (j : Int) < (n : Int) := by omega
      clear hx hy
      have hal : alikeF x y = false := by rw [HX.out, HY.out]; exact HA.out j hil hil
      have Hal := hid hal
      clear hal
      go_upto_region 6 with fail
      obtain ⟨TD, D, hD1, hD2⟩ := class_d wr
      have xx : ∀ (z : TD) (p : Addr) v, wr.cell? p = some v → (D z).cell? p = some v := fun z p v hv => ((hD1 z).cell (World.block_lt_of_cell? wr _ hv)).trans hv
      have x0 : ∀ z, (D z).cell? ⟨b, off + (j + 1) * 6, none⟩ = some (.string x.key) := fun z => xx z _ _ hfx.c0
      have x1 : ∀ z, (D z).cell? ⟨b, off + (j + 1) * 6 + 1, none⟩ = some (.int .u32 (x.valid : Int)) := fun z => xx z _ _ hfx.c1
      have x2 : ∀ z, (D z).cell? ⟨b, off + (j + 1) * 6 + 2, none⟩ = some (.int .u64 (x.seq : Int)) := fun z => xx z _ _ hfx.c2
      have x3 : ∀ z, (D z).cell? ⟨b, off + (j + 1) * 6 + 3, none⟩ = some (.int .u64 (x.line : Int)) := fun z => xx z _ _ hfx.c3
      have x4 : ∀ z, (D z).cell? ⟨b, off + (j + 1) * 6 + 4, none⟩ = some (.int .u8 (x.kind : Int)) := fun z => xx z _ _ hfx.c4
      have x5 : ∀ z, (D z).cell? ⟨b, off + (j + 1) * 6 + 5, none⟩ = some (.string x.val) := fun z => xx z _ _ hfx.c5
      have y0 : ∀ z, (D z).cell? ⟨b, off + j * 6, none⟩ = some (.string y.key) := fun z => xx z _ _ hfy.c0
      have y1 : ∀ z, (D z).cell? ⟨b, off + j * 6 + 1, none⟩ = some (.int .u32 (y.valid : Int)) := fun z => xx z _ _ hfy.c1
      have y2 : ∀ z, (D z).cell? ⟨b, off + j * 6 + 2, none⟩ = some (.int .u64 (y.seq : Int)) := fun z => xx z _ _ hfy.c2
      have y3 : ∀ z, (D z).cell? ⟨b, off + j * 6 + 3, none⟩ = some (.int .u64 (y.line : Int)) := fun z => xx z _ _ hfy.c3
      have y4 : ∀ z, (D z).cell? ⟨b, off + j * 6 + 4, none⟩ = some (.int .u8 (y.kind : Int)) := fun z => xx z _ _ hfy.c4
      have y5 : ∀ z, (D z).cell? ⟨b, off + j * 6 + 5, none⟩ = some (.string y.val) := fun z => xx z _ _ hfy.c5
      obtain ⟨z0, hz0⟩ := hD2 { wr with drawn := wr.drawn + 1 } (Below.refl _ _).drew
      haveI : Nonempty TD := ⟨z0⟩
      have HD1 := hid hD1
      have HCm := hid (fun z => calls_d hD1 hD2 (f := 21) (vs := #[.agg #[.string x.key, .int .u32 (x.valid : Int), .int .u64 (x.seq : Int), .int .u64 (x.line : Int), .int .u8 (x.kind : Int), .string x.val], .agg #[.string y.key, .int .u32 (y.valid : Int), .int .u64 (y.seq : Int), .int .u64 (y.line : Int), .int .u8 (y.kind : Int), .string y.val]]) (v := .bool false) (fun w' _ => by rw [← Hal.out]; exact chalike_any x y w') z)
      clear hD1 hD2 xx hfx hfy
      refine region_quiet_d (D := D) (by kernel_rfl) (by kernel_rfl) z0 hz0 ?_
      repeat (go_big_quiet_step ((go_at_call 21; with_reducible exact HCm.out _)))
      refine wpQuiet_nil ?_
      intro z
      have HB2 := hid (HB.out.trans ((HD1.out z).mono HB.out.size))
      clear x0 x1 x2 x3 x4 x5 y0 y1 y2 y3 y4 y5 hz0
      go_wp2
      go_roundw
      case rel => exact ⟨j + 1 + 1, by go_num, by omega, by omega, HB2.out⟩
      case measure => simp [intOf]; omega
    · go_wp2_with fail
      go_ret
      exact ⟨rfl, HB.out⟩
end Go.Proofs.Herb
namespace Go.Proofs.Herb
open Go.RowKit Go.Sort
set_option maxRecDepth 100000 in
set_option maxHeartbeats 4000000 in
/-- slices.IndexFunc at facts: where the first one stands that a function of the caller's own says yes to -/
theorem indexF_any (fn : FuncId) (cap : Value) (p : Fact → Bool) (q : Option Addr) (n c : Nat) (l : List Fact) (w : World) (hn : l.length = n) (hn6 : n ≤ 1000000) (hr : Rd w q (fCells l))
    (he : ∀ args W, (callFunc fn args).run Tryz.prog W = .ok (.enter fn args) W)
    (hp : ∀ f ∈ l, ∀ W, Below w.heap.size w W → Calls Tryz.prog fn #[.agg f.cells.toArray, cap] W fun e W' => e = .returned (.bool (p f)) ∧ Below W.heap.size W W') :
    Calls Tryz.prog 39 #[.slice q n c, .func (.func fn) #[] #[cap]] w fun e w' => ∃ r : Int, e = .returned (.int .i64 r) ∧ (r = -1 ∧ (∀ f ∈ l, p f = false) ∨ ∃ (k : Nat) (h : k < l.length), r = (k : Int) ∧ p l[k] = true ∧ ∀ i (hi : i < k), p (l[i]'(Nat.lt_trans hi h)) = false) ∧ Below w.heap.size w w' := by
  have Hn := hid hn
  have Hr := hid hr
  have HP := hid hp
  clear hr hp
  go_enter Tryz.func39, Tryz.ntmps39
  go_wp2_with fail
  go_loopw [8, 5] (fun i _ wr => ∃ k : Nat, i = .int .i64 (k : Int) ∧ k ≤ n ∧ (∀ i (h : i < l.length), i < k → p l[i] = false) ∧ Below w.heap.size w wr) (fun i _ _ => n - (intOf i).toNat)
  case atStart => exact ⟨0, rfl, Nat.zero_le _, fun i _ h => absurd h (Nat.not_lt_zero _), Below.refl _ _⟩
  case round =>
    obtain ⟨k, rfl, hk, hA, hB⟩ := hrel
    have HB := hid hB
    have HA := hid hA
    clear hB hA
    by_cases hlt : k < n
    · have hkl : k < l.length := by rw [Hn.out]; exact hlt
      obtain ⟨b, off, eb, hbl, hfx⟩ := fact_at (Hr.out.below HB.out) hkl
      subst eb
      obtain ⟨x, hx⟩ : ∃ x, x = l[k] := ⟨_, rfl⟩
      rw [← hx] at hfx
      have hc := HP.out x (by rw [hx]; exact List.getElem_mem hkl) wr HB.out
      obtain ⟨B, hBp⟩ : ∃ B, Hid (B = p x) := ⟨_, hid rfl⟩
      rw [← hBp.out] at hc
      have HX := hid hx
      have HC := hid hc
      have i0 : (0 : Int) ≤ (k : Int) := by omega
      have i1 : (k : Int) < (n : Int) := by omega
      obtain ⟨key, valid, seq, fl, kind, val⟩ := x
      obtain ⟨a0, a1, a2, a3, a4, a5⟩ := hfx
      dsimp only at a0 a1 a2 a3 a4 a5
      unfold Fact.cells at HC
      dsimp only at HC
      clear hx hc
      go_wp2_with fail
      refine HC.out.mono ?_
      rintro e w2 ⟨rfl, hb2⟩
      have HB2 := hid (HB.out.trans (hb2.mono HB.out.size))
      clear hb2 a0 a1 a2 a3 a4 a5
      cases B
      · go_wp2
        go_roundw
        case rel => exact ⟨k + 1, by go_num, by omega, fun i hi hik => by
          by_cases e : i < k
          · exact HA.out i hi e
          · obtain rfl : i = k := by omega
            rw [← HX.out, ← hBp.out], HB2.out⟩
        case measure => simp [intOf]; omega
      · go_wp2
        go_ret
        exact ⟨(k : Int), rfl, .inr ⟨k, hkl, rfl, by rw [← HX.out, ← hBp.out], fun i hi => HA.out i (Nat.lt_trans hi hkl) hi⟩, HB2.out⟩
    · go_wp2_with fail
      go_ret
      refine ⟨-1, rfl, .inl ⟨rfl, fun f hf => ?_⟩, HB.out⟩
      obtain ⟨i, hi, rfl⟩ := List.mem_iff_getElem.1 hf
      exact HA.out i hi (by have := Hn.out; omega)
theorem containsF_any (fn : FuncId) (cap : Value) (p : Fact → Bool) (q : Option Addr) (n c : Nat) (l : List Fact) (w : World) (hn : l.length = n) (hn6 : n ≤ 1000000) (hr : Rd w q (fCells l))
    (he : ∀ args W, (callFunc fn args).run Tryz.prog W = .ok (.enter fn args) W)
    (hp : ∀ f ∈ l, ∀ W, Below w.heap.size w W → Calls Tryz.prog fn #[.agg f.cells.toArray, cap] W fun e W' => e = .returned (.bool (p f)) ∧ Below W.heap.size W W') :
    Calls Tryz.prog 16 #[.slice q n c, .func (.func fn) #[] #[cap]] w fun e w' => e = .returned (.bool (l.any p)) ∧ Below w.heap.size w w' := by
  have H := hid (indexF_any fn cap p q n c l w hn hn6 hr he hp)
  clear hp hr
  go_enter Tryz.func16, Tryz.ntmps16
  go_wp2_with fail
  refine H.out.mono ?_
  rintro e w2 ⟨r, rfl, hcase, hb2⟩
  have HB2 := hid hb2
  clear hb2
  rcases hcase with ⟨rfl, hf⟩ | ⟨k, hk, rfl, hp, -⟩
  · have hany : l.any p = false := by rw [List.any_eq_false]; exact fun x hx => by rw [hf x hx]; decide
    have HAny := hid hany
    clear hf hany
    go_wp2
    go_ret
    exact ⟨by rw [HAny.out]; rfl, HB2.out⟩
  · have hany : l.any p = true := by rw [List.any_eq_true]; exact ⟨l[k], List.getElem_mem hk, hp⟩
    have HAny := hid hany
    have b0 : decide ((0 : Int) ≤ (k : Int)) = true := by simp
    clear hp hany hk
    go_wp2
    go_ret
    exact ⟨by rw [HAny.out]; rfl, HB2.out⟩
end Go.Proofs.Herb
