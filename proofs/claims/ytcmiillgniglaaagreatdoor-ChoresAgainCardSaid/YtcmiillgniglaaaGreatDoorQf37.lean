/- The law's Sorted (chapter 23) of facts that stand in order: the same facts, in a row of its own. (printed by gen_srt.py) -/
import Derived.Test.YtcmiillgniglaaaGreatDoorQf31
import Derived.Test.YtcmiillgniglaaaGreatDoorQf36
namespace Go.Proofs.Herb
open Go.RowKit Go.Sort
theorem infoFact6s : (Tryz.prog.info? 50).map (fun i => (i.zero, i.size, i.bytes)) = some (some (.agg #[.string ⟨#[]⟩, .int .u32 0, .int .u64 0, .int .u64 0, .int .u8 0, .string ⟨#[]⟩]), 6, 64) := by kernel_rfl
/-- by key, time and commit -/
def bef3 (f g : Fact) : Bool := if f.key ≠ g.key then Op.bytesLess f.key.toList g.key.toList else if f.valid ≠ g.valid then decide (g.valid < f.valid) else decide (g.seq < f.seq)
set_option maxHeartbeats 1000000 in
theorem before3_any (f g : Fact) (w : World) :
    Calls Tryz.prog 30 #[.agg f.cells.toArray, .agg g.cells.toArray] w fun e w' => e = .returned (.bool (bef3 f g)) ∧ Below w.heap.size w w' := by
  obtain ⟨k1, v1, s1, l1, d1, x1⟩ := f
  obtain ⟨k2, v2, s2, l2, d2, x2⟩ := g
  unfold bef3 Fact.cells
  dsimp only
  by_cases hk : k1 = k2
  · subst hk
    rw [if_neg (fun h => h rfl)]
    by_cases hv : v1 = v2
    · subst hv
      rw [if_neg (fun h => h rfl)]
      go_enter Tryz.func30, Tryz.ntmps30
      go_wp2
      go_ret
      exact ⟨rfl, ((Below.refl _ _).alloc (Nat.le_refl _) _).alloc (by simp) _⟩
    · rw [if_pos hv]
      have d : ((v1 : Int) != (v2 : Int)) = true := by simp; omega
      go_enter Tryz.func30, Tryz.ntmps30
      go_wp2
      go_ret
      exact ⟨rfl, ((Below.refl _ _).alloc (Nat.le_refl _) _).alloc (by simp) _⟩
  · rw [if_pos hk]
    have d : (k1.toList == k2.toList) = false := by
      rw [beq_eq_false_iff_ne]
      intro h
      rw [ByteArray.toList_eq, ByteArray.toList_eq] at h
      apply hk
      obtain ⟨a1⟩ := k1
      obtain ⟨a2⟩ := k2
      exact congrArg ByteArray.mk (Array.toList_inj.1 h)
    go_enter Tryz.func30, Tryz.ntmps30
    go_wp2
    go_ret
    exact ⟨rfl, ((Below.refl _ _).alloc (Nat.le_refl _) _).alloc (by simp) _⟩
theorem FactAt.below {w W : World} {b o : Nat} {f : Fact} (h : FactAt w b o f) (hW : Below w.heap.size w W) : FactAt W b o f :=
  ⟨(hW.cell (World.block_lt_of_cell? w _ h.c0)).trans h.c0, (hW.cell (World.block_lt_of_cell? w _ h.c1)).trans h.c1, (hW.cell (World.block_lt_of_cell? w _ h.c2)).trans h.c2, (hW.cell (World.block_lt_of_cell? w _ h.c3)).trans h.c3, (hW.cell (World.block_lt_of_cell? w _ h.c4)).trans h.c4, (hW.cell (World.block_lt_of_cell? w _ h.c5)).trans h.c5⟩
theorem bef3_no {f g : Fact} (h : 0 ≤ cmpF f g) : bef3 f g = false := by
  cases e : bef3 f g with
  | false => rfl
  | true =>
    exfalso
    have hc : befF f g = true := by
      unfold bef3 at e
      unfold befF
      by_cases hk : f.key = g.key
      · rw [if_neg (fun h => h hk)] at e ⊢
        by_cases hv : f.valid = g.valid
        · rw [if_neg (fun h => h hv)] at e ⊢
          have hs : g.seq < f.seq := by simpa using e
          rw [if_pos (by omega)]
          exact e
        · rw [if_pos hv] at e ⊢
          exact e
      · rw [if_pos hk] at e ⊢
        exact e
    have := (befF_cmp f g).1 hc
    omega
/-- a slice from its end on -/
theorem fact_end {w0 : World} {base : Nat} {q : Option Addr} {k c : Nat} {xs : List Value} (h : w0.ownsRow base 50 6 (.slice q k c) k xs) : ∃ (q1 : Option Addr) (c1 : Nat), (q1 = none → c1 = 0) ∧ ∀ w, (Instr.slice 23 (.slice q k c) (some (.int .i64 (k : Int))) none none).run Tryz.prog w = .ok (.slice q1 0 c1) w := by
  obtain ⟨_, _, e, hc, _, _⟩ := own_shape h
  cases e
  rcases (Fr.of_own h).2 with ⟨e, h0⟩ | ⟨g, cc, cur, e, -⟩
  · cases e
    exact ⟨none, 0, fun _ => rfl, fun w => by go_simp⟩
  · cases e
    have i0 : (0 : Int) ≤ (k : Int) := by omega
    have i1 : (k : Int) ≤ (k : Int) := by omega
    by_cases h : c = k
    · subst h
      refine ⟨some ⟨g, 0, none⟩, 0, (fun h => by cases h), fun w => ?_⟩
      go_simp
    · refine ⟨some ⟨g, 0 + k * 6, none⟩, c - k, (fun h => by cases h), fun w => ?_⟩
      go_simp
set_option maxRecDepth 100000 in
set_option maxHeartbeats 6400000 in
theorem sorted23_any (q : Option Addr) (n c : Nat) (l : List Fact) (w : World) (hn : l.length = n) (hn6 : n ≤ 900000) (ho : OrdF l) (hr : Rd w q (fCells l)) :
    Calls Tryz.prog 10 #[.slice q n c] w fun e w' => ∃ (q2 : Option Addr) (c2 : Nat), e = .returned (.slice q2 n c2) ∧ w'.ownsRow w.heap.size 50 6 (.slice q2 n c2) n (fCells l) ∧ Below w.heap.size w w' := by
  have Hn := hid hn
  have HO := hid ho
  have Hr := hid hr
  clear hn ho hr
  go_enter Tryz.func10, Tryz.ntmps10
  go_wp2_with fail
  go_loopw [3, 4] (fun o i wr => ∃ (k : Nat) (q2 : Option Addr) (c2 : Nat), i = .int .i64 (k : Int) ∧ k ≤ n ∧ o = .slice q2 k c2 ∧ wr.ownsRow w.heap.size 50 6 (.slice q2 k c2) k (fCells (l.take k)) ∧ Below w.heap.size w wr) (fun _ i _ => n - (intOf i).toNat)
  case atStart => exact ⟨0, none, 0, rfl, Nat.zero_le _, rfl, World.ownsRow_nil _ _ _ _, Below.refl _ _⟩
  case round =>
    obtain ⟨k, q2, c2, rfl, hk, rfl, hown, hB⟩ := hrel
    obtain ⟨wo, rfl⟩ : ∃ x, x = wr := ⟨_, rfl⟩
    have HB := hid hB
    have HOw := hid hown
    have hsr := hB.size
    clear hB
    by_cases hlt : k < n
    · have hkl : k < l.length := by rw [Hn.out]; exact hlt
      obtain ⟨b, off, eb, hbl, hfx⟩ := fact_at (Hr.out.below HB.out) hkl
      subst eb
      obtain ⟨x, hx⟩ : ∃ x, Hid (x = l[k]) := ⟨_, hid rfl⟩
      rw [← hx.out] at hfx
      have HTk := hid (show (l.take k).length = k by rw [List.length_take]; omega)
      have HTx := hid (show l.take (k + 1) = l.take k ++ [x] by rw [List.take_succ_eq_append_getElem hkl, hx.out])
      obtain ⟨q1, c1, hq1, hsl⟩ := fact_end hown
      obtain ⟨_, _, he, hc2, _, hq2⟩ := own_shape hown
      cases he
      have HQ2 := hid hq2
      have HQ1 := hid hq1
      have HFx := hid (show ∀ W, Below wo.heap.size wo W → FactAt W b (off + k * 6) x from fun W hW => hfx.below hW)
      have i0 : (0 : Int) ≤ (k : Int) := by omega
      have i1 : (k : Int) < (n : Int) := by omega
      have i2 : (k : Int) ≤ (k : Int) := by omega
      have i3 : (k : Int) ≤ (c2 : Int) := by omega
      clear hown hfx hq1 hq2
      by_cases hk0 : k = 0
      · have b0 : decide ((0 : Int) < (k : Int)) = false := by simp; omega
        have b1 : decide (0 < k) = false := by simp; omega
        clear hk0
        go_upto_region 6 with fail
        go_loopw [5] (fun i wr => i = .int .i64 (k : Int) ∧ Below wo.heap.size wo wr) (fun _ _ => 0)
        case atStart => exact ⟨rfl, Below.refl _ _⟩
        case round =>
          obtain ⟨rfl, hB2⟩ := hrel
          have HB2 := hid hB2
          clear hB2
          go_upto_region 6 with fail
          go_quiet (fail)
          obtain ⟨wb, hwb⟩ : ∃ x, x = wr.drewN nq := ⟨_, rfl⟩
          have HBr := hid (show Below wo.heap.size wo wb from by rw [hwb]; exact below_drewN HB2.out nq)
          rw [← hwb]
          clear hwb
          go_upto_region 8 with fail
          have HSS := hid (show ∀ W, Below wb.heap.size wb W → FactAt W b (off + k * 6) x from fun W hW => HFx.out W (HBr.out.trans (hW.mono HBr.out.size)))
          have HRd := hid (show Rd wb q2 (fCells (l.take k)) from (Fr.of_own (own_below HOw.out HBr.out)).rd)
          have HBb := hid (HB.out.trans (HBr.out.mono HB.out.size))
          refine wp_region_held_drew (S := fun w' => FactAt w' b (off + k * 6) x) (by kernel_rfl) (HSS.out _ (Below.refl _ _).drew) (fun hHeld => ?_)
          refine take_held (v := ?_) 0 rfl (by kernel_rfl) (by kernel_rfl) (by kernel_rfl) (fun _ _ _ h => h) (Or.inl ⟨by rfl, ?_⟩) (by assumption) ?_
          rotate_left
          · intro w hSw
            obtain ⟨s0, s1, s2, s3, s4, s5⟩ := hSw
            go_simp
            try with_reducible rfl
          simp only [Act.put, List.setIfInBounds_toArray, List.set_cons_zero, List.set_cons_succ]
          refine take_held (v := ?_) 1 rfl (by kernel_rfl) (by kernel_rfl) (by kernel_rfl) (fun _ _ _ h => h) (Or.inl ⟨by rfl, ?_⟩) (by assumption) ?_
          rotate_left
          · intro w hSw
            obtain ⟨s0, s1, s2, s3, s4, s5⟩ := hSw
            go_simp
            try with_reducible rfl
          simp only [Act.put, List.setIfInBounds_toArray, List.set_cons_zero, List.set_cons_succ]
          refine take_held (v := ?_) 2 rfl (by kernel_rfl) (by kernel_rfl) (by kernel_rfl) (fun _ _ _ h => h) (Or.inl ⟨by rfl, ?_⟩) (by assumption) ?_
          rotate_left
          · intro w hSw
            obtain ⟨s0, s1, s2, s3, s4, s5⟩ := hSw
            go_simp
            try with_reducible rfl
          simp only [Act.put, List.setIfInBounds_toArray, List.set_cons_zero, List.set_cons_succ]
          refine take_held (v := ?_) 4 rfl (by kernel_rfl) (by kernel_rfl) (by kernel_rfl) (fun _ _ _ h => h) (Or.inl ⟨by rfl, ?_⟩) (by assumption) ?_
          rotate_left
          · intro w hSw
            obtain ⟨s0, s1, s2, s3, s4, s5⟩ := hSw
            go_simp
            try with_reducible rfl
          simp only [Act.put, List.setIfInBounds_toArray, List.set_cons_zero, List.set_cons_succ]
          refine take_held (v := ?_) 5 rfl (by kernel_rfl) (by kernel_rfl) (by kernel_rfl) (fun _ _ _ h => h) (Or.inl ⟨by rfl, ?_⟩) (by assumption) ?_
          rotate_left
          · intro w hSw
            obtain ⟨s0, s1, s2, s3, s4, s5⟩ := hSw
            go_simp
            try with_reducible rfl
          simp only [Act.put, List.setIfInBounds_toArray, List.set_cons_zero, List.set_cons_succ]
          refine take_held (v := ?_) 6 rfl (by kernel_rfl) (by kernel_rfl) (by kernel_rfl) (fun _ _ _ h => h) (Or.inl ⟨by rfl, ?_⟩) (by assumption) ?_
          rotate_left
          · intro w hSw
            obtain ⟨s0, s1, s2, s3, s4, s5⟩ := hSw
            go_simp
            try with_reducible rfl
          simp only [Act.put, List.setIfInBounds_toArray, List.set_cons_zero, List.set_cons_succ]
          refine take_held (v := ?_) 7 rfl (by kernel_rfl) (by kernel_rfl) (by kernel_rfl) (fun _ _ _ h => h) (Or.inl ⟨by rfl, ?_⟩) (by assumption) ?_
          rotate_left
          · intro w hSw
            obtain ⟨s0, s1, s2, s3, s4, s5⟩ := hSw
            go_simp
            try with_reducible rfl
          simp only [Act.put, List.setIfInBounds_toArray, List.set_cons_zero, List.set_cons_succ]
          refine take_held (v := ?_) 10 rfl (by kernel_rfl) (by kernel_rfl) (by kernel_rfl) (fun _ _ _ h => h) (Or.inl ⟨by rfl, ?_⟩) (by assumption) ?_
          rotate_left
          · intro w hSw
            obtain ⟨s0, s1, s2, s3, s4, s5⟩ := hSw
            go_simp
            try with_reducible rfl
          simp only [Act.put, List.setIfInBounds_toArray, List.set_cons_zero, List.set_cons_succ]
          refine take_held (v := ?_) 11 rfl (by kernel_rfl) (by kernel_rfl) (by kernel_rfl) (fun _ _ _ h => h) (Or.inl ⟨by rfl, ?_⟩) (by assumption) ?_
          rotate_left
          · intro w hSw
            obtain ⟨s0, s1, s2, s3, s4, s5⟩ := hSw
            go_simp
            try with_reducible rfl
          simp only [Act.put, List.setIfInBounds_toArray, List.set_cons_zero, List.set_cons_succ]
          refine take_held (v := ?_) 12 rfl (by kernel_rfl) (by kernel_rfl) (by kernel_rfl) (fun _ _ _ h => h) (Or.inl ⟨by rfl, ?_⟩) (by assumption) ?_
          rotate_left
          · intro w hSw
            obtain ⟨s0, s1, s2, s3, s4, s5⟩ := hSw
            go_simp
            try with_reducible rfl
          simp only [Act.put, List.setIfInBounds_toArray, List.set_cons_zero, List.set_cons_succ]
          refine wpAnyH_ready (rs := [3, 8]) (by kernel_rfl) (by simp) ?_
          refine cons_held 3 rfl (fun K hK => ?_) ?_
          · refine step_append_rd rfl (.const (.slice none 0 0)) (.tmp 32) 23 rfl wb.heap.size 50 _ 6 64 Tryz.underlying23 infoFact6s rfl (by decide) (.slice none 0 0) 0 [] rfl (World.ownsRow_nil _ _ _ _) q2 k c2 (fCells (l.take k)) rfl HQ2.out (by rw [fCells_len, HTk.out]) (HRd.out.below (Below.refl _ _).drew) (fCells_one _) (by unfold maxLen; omega) (by omega) (Nat.le_refl _) ?_
            intro v3 w3 hown3 hg3 _
            have hb3 : Below wb.heap.size wb w3 := ((Below.refl wb.heap.size wb).drew).grown hg3 (Nat.le_refl _) (fun g hg => by cases hg)
            refine hK.out _ _ (HSS.out _ hb3) (fun hHeld2 => ?_)
            clear hK K
            refine wpAnyH_ready (rs := [8]) (by kernel_rfl) (by simp) ?_
            refine cons_held 8 rfl (fun K hK => ?_) AllReadyH.nil
            go_simp
            obtain ⟨qb, hqb⟩ : ∃ g, g = w3.heap.size := ⟨_, rfl⟩
            obtain ⟨w4, hw4⟩ : ∃ g, g = w3.alloc (.cells #[.string x.key, .int .u32 (x.valid : Int), .int .u64 (x.seq : Int), .int .u64 (x.line : Int), .int .u8 (x.kind : Int), .string x.val] 50) := ⟨_, rfl⟩
            have hb34 : Below w3.heap.size w3 w4 := by rw [hw4]; exact (Below.refl _ _).alloc (Nat.le_refl _) _
            have hb4 : Below wb.heap.size wb w4 := hb3.trans (hb34.mono hb3.size)
            have hown4 := own_below hown3 hb34
            have hrd4 : Rd w4 (some ⟨qb, 0, none⟩) [.string x.key, .int .u32 (x.valid : Int), .int .u64 (x.seq : Int), .int .u64 (x.line : Int), .int .u8 (x.kind : Int), .string x.val] := by rw [hw4, hqb]; exact Rd.new _ _ _
            rw [← hw4, ← hqb]
            refine hK.out _ _ (HSS.out _ hb4) (fun hHeld3 => ?_)
            clear hK K
            refine wpAnyH_ready (rs := [9]) (by kernel_rfl) (by simp) ?_
            refine cons_held 9 rfl (fun K hK => ?_) AllReadyH.nil
            refine step_append_rd rfl (.tmp 33) (.tmp 38) 23 rfl wb.heap.size 50 _ 6 64 Tryz.underlying23 infoFact6s rfl (by decide) v3 (0 + k) _ rfl hown4 (some ⟨qb, 0, none⟩) 1 1 [.string x.key, .int .u32 (x.valid : Int), .int .u64 (x.seq : Int), .int .u64 (x.line : Int), .int .u8 (x.kind : Int), .string x.val] rfl (fun h => by cases h) rfl hrd4 (by simp [Value.oneCell']) (by unfold maxLen; omega) (by omega) hb4.size ?_
            intro v9 w9 hown9 hg9 _
            have hb9 : Below wb.heap.size wb w9 := hb4.grown hg9 hb4.size (fun g hg => (bown_lt hown4 g hg).1)
            refine hK.out _ _ (HSS.out _ hb9) (fun hHeld5 => ?_)
            clear hK K
            refine wpAnyH_ready (rs := [13]) (by kernel_rfl) (by simp) ?_
            refine cons_held 13 rfl (fun K hK => ?_) AllReadyH.nil
            refine step_append_rd rfl (.tmp 39) (.tmp 42) 23 rfl wb.heap.size 50 _ 6 64 Tryz.underlying23 infoFact6s rfl (by decide) v9 (0 + k + 1) _ rfl hown9 q1 0 c1 [] rfl HQ1.out rfl (.inl rfl) (fun _ h => by cases h) (by unfold maxLen; omega) (by omega) hb9.size ?_
            intro v13 w13 hown13 hg13 _
            have hb13 : Below wb.heap.size wb w13 := hb9.grown hg13 hb9.size (fun g hg => (bown_lt hown9 g hg).1)
            refine hK.out _ _ (HSS.out _ hb13) (fun hHeld6 => ?_)
            clear hK K
            refine take_held (v := ?_) 14 rfl (by kernel_rfl) (by kernel_rfl) (by kernel_rfl) (fun _ _ _ h => h) (Or.inl ⟨by rfl, ?_⟩) (by assumption) ?_
            rotate_left
            · intro w hSw
              obtain ⟨s0, s1, s2, s3, s4, s5⟩ := hSw
              go_simp
              try with_reducible rfl
            simp only [Act.put, List.setIfInBounds_toArray, List.set_cons_zero, List.set_cons_succ]
            refine wpAnyH_done (by kernel_rfl) ?_ _
            have hfin : (([] : List Value) ++ fCells (l.take k)) ++ [.string x.key, .int .u32 (x.valid : Int), .int .u64 (x.seq : Int), .int .u64 (x.line : Int), .int .u8 (x.kind : Int), .string x.val] ++ [] = fCells (l.take (k + 1)) := by rw [HTx.out, fCells_append, List.nil_append, List.append_nil]; rfl
            rw [hfin, Nat.zero_add, Nat.add_zero] at hown13
            obtain ⟨q13, c13, rfl, _, _, _⟩ := own_shape hown13
            have HO13 := hid (own_mono hown13 HBb.out.size)
            have HB13 := hid (HBb.out.trans (hb13.mono HBb.out.size))
            clear hown13 hown9 hown3 hg3 hg9 hg13 hb13 hb9 hfin
            clear hHeld hHeld2 hHeld3 hHeld5 hHeld6
            go_wp2
            go_roundw
            case rel => exact ⟨k + 1, q13, c13, by go_num, by omega, rfl, HO13.out, HB13.out⟩
            case measure => simp [intOf]; omega
          refine cons_held 8 rfl (fun K hK => ?_) AllReadyH.nil
          go_simp
          obtain ⟨qb, hqb⟩ : ∃ g, g = wb.heap.size := ⟨_, rfl⟩
          obtain ⟨w4, hw4⟩ : ∃ g, g = (wb.alloc (.cells #[.string x.key, .int .u32 (x.valid : Int), .int .u64 (x.seq : Int), .int .u64 (x.line : Int), .int .u8 (x.kind : Int), .string x.val] 50)).drew := ⟨_, rfl⟩
          have hb4 : Below wb.heap.size wb w4 := by rw [hw4]; exact ((Below.refl _ _).alloc (Nat.le_refl _) _).drew
          have hrd4 : Rd w4 (some ⟨qb, 0, none⟩) [.string x.key, .int .u32 (x.valid : Int), .int .u64 (x.seq : Int), .int .u64 (x.line : Int), .int .u8 (x.kind : Int), .string x.val] := by rw [hw4, hqb]; exact (Rd.new _ _ _).below (Below.refl _ _).drew
          refine hK.out _ _ (show _ from by rw [← hw4]; exact HSS.out _ hb4) (fun hHeld2 => ?_)
          rw [← hw4, ← hqb]
          clear hK K
          refine wpAnyH_ready (rs := [3]) (by kernel_rfl) (by simp) ?_
          refine cons_held 3 rfl (fun K hK => ?_) AllReadyH.nil
          refine step_append_rd rfl (.const (.slice none 0 0)) (.tmp 32) 23 rfl wb.heap.size 50 _ 6 64 Tryz.underlying23 infoFact6s rfl (by decide) (.slice none 0 0) 0 [] rfl (World.ownsRow_nil _ _ _ _) q2 k c2 (fCells (l.take k)) rfl HQ2.out (by rw [fCells_len, HTk.out]) (HRd.out.below hb4) (fCells_one _) (by unfold maxLen; omega) (by omega) hb4.size ?_
          intro v3 w3 hown3 hg3 _
          have hb3 : Below wb.heap.size wb w3 := hb4.grown hg3 hb4.size (fun g hg => by cases hg)
          have hrd3 : Rd w3 (some ⟨qb, 0, none⟩) [.string x.key, .int .u32 (x.valid : Int), .int .u64 (x.seq : Int), .int .u64 (x.line : Int), .int .u8 (x.kind : Int), .string x.val] := hrd4.below ((Below.refl w4.heap.size w4).grown hg3 (Nat.le_refl _) (fun g hg => by cases hg))
          refine hK.out _ _ (HSS.out _ hb3) (fun hHeld3 => ?_)
          clear hK K
          refine wpAnyH_ready (rs := [9]) (by kernel_rfl) (by simp) ?_
          refine cons_held 9 rfl (fun K hK => ?_) AllReadyH.nil
          refine step_append_rd rfl (.tmp 33) (.tmp 38) 23 rfl wb.heap.size 50 _ 6 64 Tryz.underlying23 infoFact6s rfl (by decide) v3 (0 + k) _ rfl hown3 (some ⟨qb, 0, none⟩) 1 1 [.string x.key, .int .u32 (x.valid : Int), .int .u64 (x.seq : Int), .int .u64 (x.line : Int), .int .u8 (x.kind : Int), .string x.val] rfl (fun h => by cases h) rfl hrd3 (by simp [Value.oneCell']) (by unfold maxLen; omega) (by omega) hb3.size ?_
          intro v9 w9 hown9 hg9 _
          have hb9 : Below wb.heap.size wb w9 := hb3.grown hg9 hb3.size (fun g hg => (bown_lt hown3 g hg).1)
          refine hK.out _ _ (HSS.out _ hb9) (fun hHeld5 => ?_)
          clear hK K
          refine wpAnyH_ready (rs := [13]) (by kernel_rfl) (by simp) ?_
          refine cons_held 13 rfl (fun K hK => ?_) AllReadyH.nil
          refine step_append_rd rfl (.tmp 39) (.tmp 42) 23 rfl wb.heap.size 50 _ 6 64 Tryz.underlying23 infoFact6s rfl (by decide) v9 (0 + k + 1) _ rfl hown9 q1 0 c1 [] rfl HQ1.out rfl (.inl rfl) (fun _ h => by cases h) (by unfold maxLen; omega) (by omega) hb9.size ?_
          intro v13 w13 hown13 hg13 _
          have hb13 : Below wb.heap.size wb w13 := hb9.grown hg13 hb9.size (fun g hg => (bown_lt hown9 g hg).1)
          refine hK.out _ _ (HSS.out _ hb13) (fun hHeld6 => ?_)
          clear hK K
          refine take_held (v := ?_) 14 rfl (by kernel_rfl) (by kernel_rfl) (by kernel_rfl) (fun _ _ _ h => h) (Or.inl ⟨by rfl, ?_⟩) (by assumption) ?_
          rotate_left
          · intro w hSw
            obtain ⟨s0, s1, s2, s3, s4, s5⟩ := hSw
            go_simp
            try with_reducible rfl
          simp only [Act.put, List.setIfInBounds_toArray, List.set_cons_zero, List.set_cons_succ]
          refine wpAnyH_done (by kernel_rfl) ?_ _
          have hfin : (([] : List Value) ++ fCells (l.take k)) ++ [.string x.key, .int .u32 (x.valid : Int), .int .u64 (x.seq : Int), .int .u64 (x.line : Int), .int .u8 (x.kind : Int), .string x.val] ++ [] = fCells (l.take (k + 1)) := by rw [HTx.out, fCells_append, List.nil_append, List.append_nil]; rfl
          rw [hfin, Nat.zero_add, Nat.add_zero] at hown13
          obtain ⟨q13, c13, rfl, _, _, _⟩ := own_shape hown13
          have HO13 := hid (own_mono hown13 HBb.out.size)
          have HB13 := hid (HBb.out.trans (hb13.mono HBb.out.size))
          clear hown13 hown9 hown3 hg3 hg9 hg13 hb13 hb9 hfin
          clear hHeld hHeld2 hHeld3 hHeld5 hHeld6
          go_wp2
          go_roundw
          case rel => exact ⟨k + 1, q13, c13, by go_num, by omega, rfl, HO13.out, HB13.out⟩
          case measure => simp [intOf]; omega
      · obtain ⟨j, hj⟩ : ∃ j, Hid (j + 1 = k) := ⟨k - 1, hid (by omega)⟩
        have hk1 : (0 : Int) < (k : Int) := by omega
        have hk2 : 0 < k := by omega
        have wj : IntKind.i64.wrap ((k : Int) - 1) = (j : Int) := by have := hj.out; rw [IntKind.wrap_i64]; omega
        have j0 : (0 : Int) ≤ (j : Int) := by omega
        have j1 : (j : Int) < (k : Int) := by have := hj.out; omega
        have hjl : j < (l.take k).length := by have := hj.out; rw [HTk.out]; omega
        obtain ⟨b2, o2, e2, _, hfy⟩ := fact_at (Fr.of_own HOw.out).rd hjl
        subst e2
        obtain ⟨y, hy⟩ : ∃ y, y = (l.take k)[j] := ⟨_, rfl⟩
        rw [← hy] at hfy
        have hyl : y = l[j]'(by have := hj.out; rw [Hn.out]; omega) := by rw [hy, List.getElem_take]
        have hge : 0 ≤ cmpF x y := by rw [hyl, hx.out]; exact HO.out j k (by have := hj.out; omega) hkl
        have hbf := bef3_no hge
        have HFy := hid hfy
        clear hy hyl hge hfy hjl hk0
        go_upto_region 6 with fail
        go_loopw [5] (fun i wr => i = .int .i64 (k : Int) ∧ Below wo.heap.size wo wr) (fun _ _ => 0)
        case atStart => exact ⟨rfl, Below.refl _ _⟩
        case round =>
          obtain ⟨rfl, hB2⟩ := hrel
          have HB2 := hid hB2
          clear hB2
          go_upto_region 6 with fail
          obtain ⟨TD, D, hD1, hD2⟩ := class_d wr
          have HCm := hid (fun z => calls_d hD1 hD2 (f := 30) (vs := #[.agg #[.string x.key, .int .u32 (x.valid : Int), .int .u64 (x.seq : Int), .int .u64 (x.line : Int), .int .u8 (x.kind : Int), .string x.val], .agg #[.string y.key, .int .u32 (y.valid : Int), .int .u64 (y.seq : Int), .int .u64 (y.line : Int), .int .u8 (y.kind : Int), .string y.val]]) (v := .bool false) (fun w' _ => by rw [← hbf]; exact before3_any x y w') z)
          have xx : ∀ (z : TD) (p : Addr) v, wo.cell? p = some v → (D z).cell? p = some v := fun z p v hv => ((HB2.out.trans ((hD1 z).mono HB2.out.size)).cell (World.block_lt_of_cell? wo _ hv)).trans hv
          have hfx := HFx.out wo (Below.refl _ _)
          have hfy := HFy.out
          have x0 : ∀ z, (D z).cell? ⟨b, off + k * 6, none⟩ = some (.string x.key) := fun z => xx z _ _ hfx.c0
          have y0 : ∀ z, (D z).cell? ⟨b2, o2 + j * 6, none⟩ = some (.string y.key) := fun z => xx z _ _ hfy.c0
          have x1 : ∀ z, (D z).cell? ⟨b, off + k * 6 + 1, none⟩ = some (.int .u32 (x.valid : Int)) := fun z => xx z _ _ hfx.c1
          have y1 : ∀ z, (D z).cell? ⟨b2, o2 + j * 6 + 1, none⟩ = some (.int .u32 (y.valid : Int)) := fun z => xx z _ _ hfy.c1
          have x2 : ∀ z, (D z).cell? ⟨b, off + k * 6 + 2, none⟩ = some (.int .u64 (x.seq : Int)) := fun z => xx z _ _ hfx.c2
          have y2 : ∀ z, (D z).cell? ⟨b2, o2 + j * 6 + 2, none⟩ = some (.int .u64 (y.seq : Int)) := fun z => xx z _ _ hfy.c2
          have x3 : ∀ z, (D z).cell? ⟨b, off + k * 6 + 3, none⟩ = some (.int .u64 (x.line : Int)) := fun z => xx z _ _ hfx.c3
          have y3 : ∀ z, (D z).cell? ⟨b2, o2 + j * 6 + 3, none⟩ = some (.int .u64 (y.line : Int)) := fun z => xx z _ _ hfy.c3
          have x4 : ∀ z, (D z).cell? ⟨b, off + k * 6 + 4, none⟩ = some (.int .u8 (x.kind : Int)) := fun z => xx z _ _ hfx.c4
          have y4 : ∀ z, (D z).cell? ⟨b2, o2 + j * 6 + 4, none⟩ = some (.int .u8 (y.kind : Int)) := fun z => xx z _ _ hfy.c4
          have x5 : ∀ z, (D z).cell? ⟨b, off + k * 6 + 5, none⟩ = some (.string x.val) := fun z => xx z _ _ hfx.c5
          have y5 : ∀ z, (D z).cell? ⟨b2, o2 + j * 6 + 5, none⟩ = some (.string y.val) := fun z => xx z _ _ hfy.c5
          obtain ⟨z0, hz0⟩ := hD2 { wr with drawn := wr.drawn + 1 } (Below.refl _ _).drew
          haveI : Nonempty TD := ⟨z0⟩
          have HD1 := hid hD1
          clear hD1 hD2 xx hfx hfy hbf
          refine region_quiet_d (D := D) (by kernel_rfl) (by kernel_rfl) z0 hz0 ?_
          repeat (go_big_quiet_step ((go_at_call 30; with_reducible exact HCm.out _)))
          refine wpQuiet_nil ?_
          intro z
          obtain ⟨wb, hwb⟩ : ∃ x, x = D z := ⟨_, rfl⟩
          have HBr := hid (show Below wo.heap.size wo wb from by rw [hwb]; exact HB2.out.trans ((HD1.out z).mono HB2.out.size))
          rw [← hwb]
          clear x0 x1 x2 x3 x4 x5 y0 y1 y2 y3 y4 y5 hz0 hwb
          go_upto_region 8 with fail
          have HSS := hid (show ∀ W, Below wb.heap.size wb W → FactAt W b (off + k * 6) x from fun W hW => HFx.out W (HBr.out.trans (hW.mono HBr.out.size)))
          have HRd := hid (show Rd wb (some ⟨b2, o2, none⟩) (fCells (l.take k)) from (Fr.of_own (own_below HOw.out HBr.out)).rd)
          have HBb := hid (HB.out.trans (HBr.out.mono HB.out.size))
          refine wp_region_held_drew (S := fun w' => FactAt w' b (off + k * 6) x) (by kernel_rfl) (HSS.out _ (Below.refl _ _).drew) (fun hHeld => ?_)
          refine take_held (v := ?_) 0 rfl (by kernel_rfl) (by kernel_rfl) (by kernel_rfl) (fun _ _ _ h => h) (Or.inl ⟨by rfl, ?_⟩) (by assumption) ?_
          rotate_left
          · intro w hSw
            obtain ⟨s0, s1, s2, s3, s4, s5⟩ := hSw
            go_simp
            try with_reducible rfl
          simp only [Act.put, List.setIfInBounds_toArray, List.set_cons_zero, List.set_cons_succ]
          refine take_held (v := ?_) 1 rfl (by kernel_rfl) (by kernel_rfl) (by kernel_rfl) (fun _ _ _ h => h) (Or.inl ⟨by rfl, ?_⟩) (by assumption) ?_
          rotate_left
          · intro w hSw
            obtain ⟨s0, s1, s2, s3, s4, s5⟩ := hSw
            go_simp
            try with_reducible rfl
          simp only [Act.put, List.setIfInBounds_toArray, List.set_cons_zero, List.set_cons_succ]
          refine take_held (v := ?_) 2 rfl (by kernel_rfl) (by kernel_rfl) (by kernel_rfl) (fun _ _ _ h => h) (Or.inl ⟨by rfl, ?_⟩) (by assumption) ?_
          rotate_left
          · intro w hSw
            obtain ⟨s0, s1, s2, s3, s4, s5⟩ := hSw
            go_simp
            try with_reducible rfl
          simp only [Act.put, List.setIfInBounds_toArray, List.set_cons_zero, List.set_cons_succ]
          refine take_held (v := ?_) 4 rfl (by kernel_rfl) (by kernel_rfl) (by kernel_rfl) (fun _ _ _ h => h) (Or.inl ⟨by rfl, ?_⟩) (by assumption) ?_
          rotate_left
          · intro w hSw
            obtain ⟨s0, s1, s2, s3, s4, s5⟩ := hSw
            go_simp
            try with_reducible rfl
          simp only [Act.put, List.setIfInBounds_toArray, List.set_cons_zero, List.set_cons_succ]
          refine take_held (v := ?_) 5 rfl (by kernel_rfl) (by kernel_rfl) (by kernel_rfl) (fun _ _ _ h => h) (Or.inl ⟨by rfl, ?_⟩) (by assumption) ?_
          rotate_left
          · intro w hSw
            obtain ⟨s0, s1, s2, s3, s4, s5⟩ := hSw
            go_simp
            try with_reducible rfl
          simp only [Act.put, List.setIfInBounds_toArray, List.set_cons_zero, List.set_cons_succ]
          refine take_held (v := ?_) 6 rfl (by kernel_rfl) (by kernel_rfl) (by kernel_rfl) (fun _ _ _ h => h) (Or.inl ⟨by rfl, ?_⟩) (by assumption) ?_
          rotate_left
          · intro w hSw
            obtain ⟨s0, s1, s2, s3, s4, s5⟩ := hSw
            go_simp
            try with_reducible rfl
          simp only [Act.put, List.setIfInBounds_toArray, List.set_cons_zero, List.set_cons_succ]
          refine take_held (v := ?_) 7 rfl (by kernel_rfl) (by kernel_rfl) (by kernel_rfl) (fun _ _ _ h => h) (Or.inl ⟨by rfl, ?_⟩) (by assumption) ?_
          rotate_left
          · intro w hSw
            obtain ⟨s0, s1, s2, s3, s4, s5⟩ := hSw
            go_simp
            try with_reducible rfl
          simp only [Act.put, List.setIfInBounds_toArray, List.set_cons_zero, List.set_cons_succ]
          refine take_held (v := ?_) 10 rfl (by kernel_rfl) (by kernel_rfl) (by kernel_rfl) (fun _ _ _ h => h) (Or.inl ⟨by rfl, ?_⟩) (by assumption) ?_
          rotate_left
          · intro w hSw
            obtain ⟨s0, s1, s2, s3, s4, s5⟩ := hSw
            go_simp
            try with_reducible rfl
          simp only [Act.put, List.setIfInBounds_toArray, List.set_cons_zero, List.set_cons_succ]
          refine take_held (v := ?_) 11 rfl (by kernel_rfl) (by kernel_rfl) (by kernel_rfl) (fun _ _ _ h => h) (Or.inl ⟨by rfl, ?_⟩) (by assumption) ?_
          rotate_left
          · intro w hSw
            obtain ⟨s0, s1, s2, s3, s4, s5⟩ := hSw
            go_simp
            try with_reducible rfl
          simp only [Act.put, List.setIfInBounds_toArray, List.set_cons_zero, List.set_cons_succ]
          refine take_held (v := ?_) 12 rfl (by kernel_rfl) (by kernel_rfl) (by kernel_rfl) (fun _ _ _ h => h) (Or.inl ⟨by rfl, ?_⟩) (by assumption) ?_
          rotate_left
          · intro w hSw
            obtain ⟨s0, s1, s2, s3, s4, s5⟩ := hSw
            go_simp
            try with_reducible rfl
          simp only [Act.put, List.setIfInBounds_toArray, List.set_cons_zero, List.set_cons_succ]
          refine wpAnyH_ready (rs := [3, 8]) (by kernel_rfl) (by simp) ?_
          refine cons_held 3 rfl (fun K hK => ?_) ?_
          · refine step_append_rd rfl (.const (.slice none 0 0)) (.tmp 32) 23 rfl wb.heap.size 50 _ 6 64 Tryz.underlying23 infoFact6s rfl (by decide) (.slice none 0 0) 0 [] rfl (World.ownsRow_nil _ _ _ _) (some ⟨b2, o2, none⟩) k c2 (fCells (l.take k)) rfl HQ2.out (by rw [fCells_len, HTk.out]) (HRd.out.below (Below.refl _ _).drew) (fCells_one _) (by unfold maxLen; omega) (by omega) (Nat.le_refl _) ?_
            intro v3 w3 hown3 hg3 _
            have hb3 : Below wb.heap.size wb w3 := ((Below.refl wb.heap.size wb).drew).grown hg3 (Nat.le_refl _) (fun g hg => by cases hg)
            refine hK.out _ _ (HSS.out _ hb3) (fun hHeld2 => ?_)
            clear hK K
            refine wpAnyH_ready (rs := [8]) (by kernel_rfl) (by simp) ?_
            refine cons_held 8 rfl (fun K hK => ?_) AllReadyH.nil
            go_simp
            obtain ⟨qb, hqb⟩ : ∃ g, g = w3.heap.size := ⟨_, rfl⟩
            obtain ⟨w4, hw4⟩ : ∃ g, g = w3.alloc (.cells #[.string x.key, .int .u32 (x.valid : Int), .int .u64 (x.seq : Int), .int .u64 (x.line : Int), .int .u8 (x.kind : Int), .string x.val] 50) := ⟨_, rfl⟩
            have hb34 : Below w3.heap.size w3 w4 := by rw [hw4]; exact (Below.refl _ _).alloc (Nat.le_refl _) _
            have hb4 : Below wb.heap.size wb w4 := hb3.trans (hb34.mono hb3.size)
            have hown4 := own_below hown3 hb34
            have hrd4 : Rd w4 (some ⟨qb, 0, none⟩) [.string x.key, .int .u32 (x.valid : Int), .int .u64 (x.seq : Int), .int .u64 (x.line : Int), .int .u8 (x.kind : Int), .string x.val] := by rw [hw4, hqb]; exact Rd.new _ _ _
            rw [← hw4, ← hqb]
            refine hK.out _ _ (HSS.out _ hb4) (fun hHeld3 => ?_)
            clear hK K
            refine wpAnyH_ready (rs := [9]) (by kernel_rfl) (by simp) ?_
            refine cons_held 9 rfl (fun K hK => ?_) AllReadyH.nil
            refine step_append_rd rfl (.tmp 33) (.tmp 38) 23 rfl wb.heap.size 50 _ 6 64 Tryz.underlying23 infoFact6s rfl (by decide) v3 (0 + k) _ rfl hown4 (some ⟨qb, 0, none⟩) 1 1 [.string x.key, .int .u32 (x.valid : Int), .int .u64 (x.seq : Int), .int .u64 (x.line : Int), .int .u8 (x.kind : Int), .string x.val] rfl (fun h => by cases h) rfl hrd4 (by simp [Value.oneCell']) (by unfold maxLen; omega) (by omega) hb4.size ?_
            intro v9 w9 hown9 hg9 _
            have hb9 : Below wb.heap.size wb w9 := hb4.grown hg9 hb4.size (fun g hg => (bown_lt hown4 g hg).1)
            refine hK.out _ _ (HSS.out _ hb9) (fun hHeld5 => ?_)
            clear hK K
            refine wpAnyH_ready (rs := [13]) (by kernel_rfl) (by simp) ?_
            refine cons_held 13 rfl (fun K hK => ?_) AllReadyH.nil
            refine step_append_rd rfl (.tmp 39) (.tmp 42) 23 rfl wb.heap.size 50 _ 6 64 Tryz.underlying23 infoFact6s rfl (by decide) v9 (0 + k + 1) _ rfl hown9 q1 0 c1 [] rfl HQ1.out rfl (.inl rfl) (fun _ h => by cases h) (by unfold maxLen; omega) (by omega) hb9.size ?_
            intro v13 w13 hown13 hg13 _
            have hb13 : Below wb.heap.size wb w13 := hb9.grown hg13 hb9.size (fun g hg => (bown_lt hown9 g hg).1)
            refine hK.out _ _ (HSS.out _ hb13) (fun hHeld6 => ?_)
            clear hK K
            refine take_held (v := ?_) 14 rfl (by kernel_rfl) (by kernel_rfl) (by kernel_rfl) (fun _ _ _ h => h) (Or.inl ⟨by rfl, ?_⟩) (by assumption) ?_
            rotate_left
            · intro w hSw
              obtain ⟨s0, s1, s2, s3, s4, s5⟩ := hSw
              go_simp
              try with_reducible rfl
            simp only [Act.put, List.setIfInBounds_toArray, List.set_cons_zero, List.set_cons_succ]
            refine wpAnyH_done (by kernel_rfl) ?_ _
            have hfin : (([] : List Value) ++ fCells (l.take k)) ++ [.string x.key, .int .u32 (x.valid : Int), .int .u64 (x.seq : Int), .int .u64 (x.line : Int), .int .u8 (x.kind : Int), .string x.val] ++ [] = fCells (l.take (k + 1)) := by rw [HTx.out, fCells_append, List.nil_append, List.append_nil]; rfl
            rw [hfin, Nat.zero_add, Nat.add_zero] at hown13
            obtain ⟨q13, c13, rfl, _, _, _⟩ := own_shape hown13
            have HO13 := hid (own_mono hown13 HBb.out.size)
            have HB13 := hid (HBb.out.trans (hb13.mono HBb.out.size))
            clear hown13 hown9 hown3 hg3 hg9 hg13 hb13 hb9 hfin
            clear hHeld hHeld2 hHeld3 hHeld5 hHeld6
            go_wp2
            go_roundw
            case rel => exact ⟨k + 1, q13, c13, by go_num, by omega, rfl, HO13.out, HB13.out⟩
            case measure => simp [intOf]; omega
          refine cons_held 8 rfl (fun K hK => ?_) AllReadyH.nil
          go_simp
          obtain ⟨qb, hqb⟩ : ∃ g, g = wb.heap.size := ⟨_, rfl⟩
          obtain ⟨w4, hw4⟩ : ∃ g, g = (wb.alloc (.cells #[.string x.key, .int .u32 (x.valid : Int), .int .u64 (x.seq : Int), .int .u64 (x.line : Int), .int .u8 (x.kind : Int), .string x.val] 50)).drew := ⟨_, rfl⟩
          have hb4 : Below wb.heap.size wb w4 := by rw [hw4]; exact ((Below.refl _ _).alloc (Nat.le_refl _) _).drew
          have hrd4 : Rd w4 (some ⟨qb, 0, none⟩) [.string x.key, .int .u32 (x.valid : Int), .int .u64 (x.seq : Int), .int .u64 (x.line : Int), .int .u8 (x.kind : Int), .string x.val] := by rw [hw4, hqb]; exact (Rd.new _ _ _).below (Below.refl _ _).drew
          refine hK.out _ _ (show _ from by rw [← hw4]; exact HSS.out _ hb4) (fun hHeld2 => ?_)
          rw [← hw4, ← hqb]
          clear hK K
          refine wpAnyH_ready (rs := [3]) (by kernel_rfl) (by simp) ?_
          refine cons_held 3 rfl (fun K hK => ?_) AllReadyH.nil
          refine step_append_rd rfl (.const (.slice none 0 0)) (.tmp 32) 23 rfl wb.heap.size 50 _ 6 64 Tryz.underlying23 infoFact6s rfl (by decide) (.slice none 0 0) 0 [] rfl (World.ownsRow_nil _ _ _ _) (some ⟨b2, o2, none⟩) k c2 (fCells (l.take k)) rfl HQ2.out (by rw [fCells_len, HTk.out]) (HRd.out.below hb4) (fCells_one _) (by unfold maxLen; omega) (by omega) hb4.size ?_
          intro v3 w3 hown3 hg3 _
          have hb3 : Below wb.heap.size wb w3 := hb4.grown hg3 hb4.size (fun g hg => by cases hg)
          have hrd3 : Rd w3 (some ⟨qb, 0, none⟩) [.string x.key, .int .u32 (x.valid : Int), .int .u64 (x.seq : Int), .int .u64 (x.line : Int), .int .u8 (x.kind : Int), .string x.val] := hrd4.below ((Below.refl w4.heap.size w4).grown hg3 (Nat.le_refl _) (fun g hg => by cases hg))
          refine hK.out _ _ (HSS.out _ hb3) (fun hHeld3 => ?_)
          clear hK K
          refine wpAnyH_ready (rs := [9]) (by kernel_rfl) (by simp) ?_
          refine cons_held 9 rfl (fun K hK => ?_) AllReadyH.nil
          refine step_append_rd rfl (.tmp 33) (.tmp 38) 23 rfl wb.heap.size 50 _ 6 64 Tryz.underlying23 infoFact6s rfl (by decide) v3 (0 + k) _ rfl hown3 (some ⟨qb, 0, none⟩) 1 1 [.string x.key, .int .u32 (x.valid : Int), .int .u64 (x.seq : Int), .int .u64 (x.line : Int), .int .u8 (x.kind : Int), .string x.val] rfl (fun h => by cases h) rfl hrd3 (by simp [Value.oneCell']) (by unfold maxLen; omega) (by omega) hb3.size ?_
          intro v9 w9 hown9 hg9 _
          have hb9 : Below wb.heap.size wb w9 := hb3.grown hg9 hb3.size (fun g hg => (bown_lt hown3 g hg).1)
          refine hK.out _ _ (HSS.out _ hb9) (fun hHeld5 => ?_)
          clear hK K
          refine wpAnyH_ready (rs := [13]) (by kernel_rfl) (by simp) ?_
          refine cons_held 13 rfl (fun K hK => ?_) AllReadyH.nil
          refine step_append_rd rfl (.tmp 39) (.tmp 42) 23 rfl wb.heap.size 50 _ 6 64 Tryz.underlying23 infoFact6s rfl (by decide) v9 (0 + k + 1) _ rfl hown9 q1 0 c1 [] rfl HQ1.out rfl (.inl rfl) (fun _ h => by cases h) (by unfold maxLen; omega) (by omega) hb9.size ?_
          intro v13 w13 hown13 hg13 _
          have hb13 : Below wb.heap.size wb w13 := hb9.grown hg13 hb9.size (fun g hg => (bown_lt hown9 g hg).1)
          refine hK.out _ _ (HSS.out _ hb13) (fun hHeld6 => ?_)
          clear hK K
          refine take_held (v := ?_) 14 rfl (by kernel_rfl) (by kernel_rfl) (by kernel_rfl) (fun _ _ _ h => h) (Or.inl ⟨by rfl, ?_⟩) (by assumption) ?_
          rotate_left
          · intro w hSw
            obtain ⟨s0, s1, s2, s3, s4, s5⟩ := hSw
            go_simp
            try with_reducible rfl
          simp only [Act.put, List.setIfInBounds_toArray, List.set_cons_zero, List.set_cons_succ]
          refine wpAnyH_done (by kernel_rfl) ?_ _
          have hfin : (([] : List Value) ++ fCells (l.take k)) ++ [.string x.key, .int .u32 (x.valid : Int), .int .u64 (x.seq : Int), .int .u64 (x.line : Int), .int .u8 (x.kind : Int), .string x.val] ++ [] = fCells (l.take (k + 1)) := by rw [HTx.out, fCells_append, List.nil_append, List.append_nil]; rfl
          rw [hfin, Nat.zero_add, Nat.add_zero] at hown13
          obtain ⟨q13, c13, rfl, _, _, _⟩ := own_shape hown13
          have HO13 := hid (own_mono hown13 HBb.out.size)
          have HB13 := hid (HBb.out.trans (hb13.mono HBb.out.size))
          clear hown13 hown9 hown3 hg3 hg9 hg13 hb13 hb9 hfin
          clear hHeld hHeld2 hHeld3 hHeld5 hHeld6
          go_wp2
          go_roundw
          case rel => exact ⟨k + 1, q13, c13, by go_num, by omega, rfl, HO13.out, HB13.out⟩
          case measure => simp [intOf]; omega
    · obtain rfl : k = n := by omega
      have e : l.take k = l := List.take_of_length_le (by rw [Hn.out]; exact Nat.le_refl _)
      have hown := HOw.out
      rw [e] at hown
      have HOl := hid hown
      clear hown
      go_wp2_with fail
      go_ret
      exact ⟨q2, c2, rfl, HOl.out, HB.out⟩
end Go.Proofs.Herb
