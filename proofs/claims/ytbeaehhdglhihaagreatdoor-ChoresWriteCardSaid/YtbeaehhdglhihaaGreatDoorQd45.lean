/- ChoresBack's walk. The contracts of the law's two, sameTables and sameDisk (chapter 24). For tables that are alike, and a disk beside the reference's disk of one state. -/
import Derived.Test.YtbeaehhdglhihaaGreatDoorQd20
import Derived.Test.YtbeaehhdglhihaaGreatDoorQd22
import Derived.Test.YtbeaehhdglhihaaGreatDoorQd23
import Derived.Test.YtbeaehhdglhihaaGreatDoorQd29
import Derived.Test.YtbeaehhdglhihaaGreatDoorQd39
import Derived.Test.YtbeaehhdglhihaaGreatDoorQd43
import Derived.Test.YtbeaehhdglhihaaGreatDoorQd44
namespace Go.Proofs.Herb
open Go.RowKit Go.Sort
theorem tbCells_at {ts : List Tab} {k : Nat} {t : Tab} (h : ts[k]? = some t) (j : Nat) (hj : j < 4) : (tbCells ts)[k * 4 + j]? = t.cells[j]? := by
  induction ts generalizing k with
  | nil => simp at h
  | cons x r ih =>
    have e : tbCells (x :: r) = x.cells ++ tbCells r := rfl
    cases k with
    | zero =>
      rw [List.getElem?_cons_zero] at h
      cases h
      rw [e, List.getElem?_append_left (by simp [Tab.cells]; omega), Nat.zero_mul, Nat.zero_add]
    | succ k =>
      rw [List.getElem?_cons_succ] at h
      rw [e, List.getElem?_append_right (by simp [Tab.cells]; omega), show (k + 1) * 4 + j - x.cells.length = k * 4 + j by simp [Tab.cells]; omega]
      exact ih h
end Go.Proofs.Herb
namespace Go.Proofs.Herb
open Go.RowKit Go.Sort
theorem sorted_many24 {s : DS} {n : Nat} (h : DsOk s n) : (sortedK s.names).length ≤ n := by rw [sortedK_len]; exact h.good.many
theorem textE_ents24 (d : Dir) : textE (entsOf d) = (sortedK d).map encStr := by
  unfold textE entsOf
  rw [List.map_map]
  rfl
theorem readL_le24 {s : DS} {n : Nat} (h : DsOk s n) (k : ByteArray) : (readL s k).length ≤ 4194304 := by
  unfold readL fileL
  split
  · cases hf : s.files[(look s.names k).getD 0]? with
    | none => simp
    | some f => simpa using (h.sure f (List.mem_of_getElem? hf)).2
  · simp
theorem neqTab (w : World) (t : Tab) : (binOp .neq 54 (.agg t.cells.toArray) (.agg t.cells.toArray)).run Tryz.prog w = .ok (.bool false) w := by
  unfold Tab.cells
  go_simp
set_option maxRecDepth 100000 in
set_option maxHeartbeats 4000000 in
theorem sameTables_true (a b : Option Addr) (n c d : Nat) (ts : List Tab) (w : World) (hn : ts.length = n) (hm : n ≤ 4611686018427387904) (ha : Rd w a (tbCells ts)) (hb : Rd w b (tbCells ts)) :
    Calls Tryz.prog 13 #[.slice a n c, .slice b n d] w fun e w' => e = .returned (.bool true) ∧ Below w.heap.size w w' := by
  have Hn := hid hn
  have Ha := hid ha
  have Hb := hid hb
  clear hn ha hb
  have z1 : ((n : Int) != (n : Int)) = false := by simp
  go_enter Tryz.func13, Tryz.ntmps13
  go_wp2_with fail
  go_loopw [5] (fun i wr => ∃ k : Nat, i = .int .i64 (k : Int) ∧ k ≤ n ∧ Below w.heap.size w wr) (fun i _ => n - (intOf i).toNat)
  case atStart => exact ⟨0, rfl, Nat.zero_le _, Below.refl _ _⟩
  case round =>
    obtain ⟨k, rfl, hk, hB⟩ := hrel
    have HB := hid hB
    clear hB
    by_cases hlt : k < n
    · have hkl : k < ts.length := by rw [Hn.out]; exact hlt
      obtain ⟨t, ht⟩ : ∃ t, t = ts[k] := ⟨_, rfl⟩
      have htk : ts[k]? = some t := by rw [List.getElem?_eq_getElem hkl, ht]
      have hcells : ∀ q, Rd w q (tbCells ts) → ∃ b off, q = some ⟨b, off, none⟩ ∧ ∀ W, Below w.heap.size w W → W.cell? ⟨b, off + k * 4, none⟩ = some (.int .u64 (t.file : Int)) ∧ W.cell? ⟨b, off + k * 4 + 1, none⟩ = some (.int .u32 (t.bytes : Int)) ∧ W.cell? ⟨b, off + k * 4 + 2, none⟩ = some (.string t.low) ∧ W.cell? ⟨b, off + k * 4 + 3, none⟩ = some (.string t.high) := fun q h => by
        have g0 := tbCells_at htk 0 (by decide)
        have hlen : k * 4 + 3 < (tbCells ts).length := by
          have g3 := tbCells_at htk 3 (by decide)
          exact (List.getElem?_eq_some_iff.1 (g3.trans (show t.cells[3]? = some (.string t.high) from rfl))).1
        obtain ⟨b, off, e, hc0⟩ := h.cell (k := k * 4) (by omega)
        refine ⟨b, off, e, fun W hW => ?_⟩
        have hh := h.below hW
        have one : ∀ j v, j < 4 → t.cells[j]? = some v → W.cell? ⟨b, off + (k * 4 + j), none⟩ = some v := fun j v hj hv => by
          obtain ⟨b', off', e', hc⟩ := hh.cell (k := k * 4 + j) (by omega)
          rw [e] at e'
          cases e'
          rw [hc]
          have := tbCells_at htk j hj
          rw [hv] at this
          exact congrArg some (List.getElem?_eq_some_iff.1 this).2
        exact ⟨one 0 _ (by decide) rfl, (by have := one 1 _ (by decide) rfl; rwa [← Nat.add_assoc] at this), (by have := one 2 _ (by decide) rfl; rwa [← Nat.add_assoc] at this), (by have := one 3 _ (by decide) rfl; rwa [← Nat.add_assoc] at this)⟩
      obtain ⟨ba, oa, ea, hca⟩ := hcells a Ha.out
      obtain ⟨bb, ob, eb, hcb⟩ := hcells b Hb.out
      subst ea
      subst eb
      have i0 : (0 : Int) ≤ (k : Int) := by omega
      have i1 : (k : Int) < (n : Int) := by omega
      clear hcells htk ht
      go_upto_region 6 with fail
      obtain ⟨TD, D, hD1, hD2⟩ := class_d wr
      have hbd : ∀ d, Below w.heap.size w (D d) := fun d => HB.out.trans ((hD1 d).mono HB.out.size)
      have a0 : ∀ d, (D d).cell? ⟨ba, oa + k * 4, none⟩ = some (.int .u64 (t.file : Int)) := fun d => (hca _ (hbd d)).1
      have a1 : ∀ d, (D d).cell? ⟨ba, oa + k * 4 + 1, none⟩ = some (.int .u32 (t.bytes : Int)) := fun d => (hca _ (hbd d)).2.1
      have a2 : ∀ d, (D d).cell? ⟨ba, oa + k * 4 + 2, none⟩ = some (.string t.low) := fun d => (hca _ (hbd d)).2.2.1
      have a3 : ∀ d, (D d).cell? ⟨ba, oa + k * 4 + 3, none⟩ = some (.string t.high) := fun d => (hca _ (hbd d)).2.2.2
      have b0 : ∀ d, (D d).cell? ⟨bb, ob + k * 4, none⟩ = some (.int .u64 (t.file : Int)) := fun d => (hcb _ (hbd d)).1
      have b1 : ∀ d, (D d).cell? ⟨bb, ob + k * 4 + 1, none⟩ = some (.int .u32 (t.bytes : Int)) := fun d => (hcb _ (hbd d)).2.1
      have b2 : ∀ d, (D d).cell? ⟨bb, ob + k * 4 + 2, none⟩ = some (.string t.low) := fun d => (hcb _ (hbd d)).2.2.1
      have b3 : ∀ d, (D d).cell? ⟨bb, ob + k * 4 + 3, none⟩ = some (.string t.high) := fun d => (hcb _ (hbd d)).2.2.2
      have hne : ∀ d, (binOp .neq 54 (.agg #[.int .u64 (t.file : Int), .int .u32 (t.bytes : Int), .string t.low, .string t.high]) (.agg #[.int .u64 (t.file : Int), .int .u32 (t.bytes : Int), .string t.low, .string t.high])).run Tryz.prog (D d) = .ok (.bool false) (D d) := fun d => neqTab (D d) t
      obtain ⟨z0, hz0⟩ := hD2 { wr with drawn := wr.drawn + 1 } (Below.refl _ _).drew
      haveI : Nonempty TD := ⟨z0⟩
      have Hbd := hid hbd
      clear hD1 hD2 hca hcb hbd
      refine region_quiet_d (D := D) (by kernel_rfl) (by kernel_rfl) z0 hz0 ?_
      repeat (go_big_quiet_step (fail))
      refine wpQuiet_nil ?_
      intro z
      have HB2 := hid (Hbd.out z)
      clear a0 a1 a2 a3 b0 b1 b2 b3 hne hz0
      go_wp2
      go_roundw
      case rel => exact ⟨k + 1, by go_num, by omega, HB2.out⟩
      case measure => simp [intOf]; omega
    · obtain rfl : k = n := by omega
      go_wp2
      go_ret
      exact ⟨rfl, HB.out⟩
set_option maxRecDepth 100000 in
set_option maxHeartbeats 4000000 in
theorem sameDisk_true {I : Nat → Prop} {w0 w : World} {md : DM} {s : DS} {mr : RM} {n : Nat} (T : Two I w0 w md s mr s n) (hn : n ≤ 900000) :
    Calls Tryz.prog 14 #[.pointer (some ⟨md.D, 0, none⟩), .pointer (some ⟨mr.D, 0, none⟩)] w fun e w' => e = .returned (.bool true) ∧ Below w.heap.size w w' := by
  have hkk := T.okd.good.keysOk (Nat.le_trans T.okd.files (by omega : n ≤ 1000000000)) (by omega)
  have hm := sorted_many24 T.okd
  obtain ⟨N, hN⟩ : ∃ N, N = (sortedK s.names).length := ⟨_, rfl⟩
  rw [← hN] at hm
  have hN9 : N ≤ 900000 := by omega
  have hlen := sortedK_len s.names
  obtain ⟨C, hC⟩ : ∃ C : Int, Hid (C = (s.changes.length : Int)) := ⟨_, hid rfl⟩
  obtain ⟨DD, hDD⟩ : ∃ D : Bool, Hid (D = s.dead) := ⟨_, hid rfl⟩
  have HT := hid T
  have HK := hid hkk
  have HN := hid hN
  have Hlen := hid hlen
  have hSz := hid (show ∀ K ∈ (sortedK s.names).map ofL, K.size ≤ maxLen from fun K hk => by
    obtain ⟨v, hv⟩ := Option.isSome_iff_exists.1 (mem_sortedK.1 hk)
    obtain ⟨e, he, rfl, _⟩ := look_mem' hv
    have := (may_size (T.okd.good.may e he)).2
    unfold maxLen; omega)
  have z0 : ((N : Int) != (N : Int)) = false := by simp
  have hz2 : (C != C) = false := by simp
  have hz3 : (DD != DD) = false := by simp
  clear T hkk hN hm hlen
  go_enter Tryz.func14, Tryz.ntmps14
  go_wp2_with fail
  (with_reducible refine (list_any md s w HT.out.disk HK.out).mono ?_)
  rintro e w1 ⟨q1, rfl, hF1, hB1⟩
  rw [← HN.out] at hF1 ⊢
  have HF1 := hid hF1
  have HB1 := hid hB1
  clear hF1 hB1
  go_wp2_with fail
  (with_reducible refine ((HT.out.below' HB1.out).listR hn).mono ?_)
  rintro e w2 ⟨v2, rfl, ho2, hB2⟩
  rw [textE_ents24, ← Hlen.out, ← HN.out] at ho2
  obtain ⟨q2, c2, rfl, _, _, _⟩ := own_shape ho2
  have HF2 := hid (HF1.out.below hB2)
  have HO2 := hid (Fr.of_own ho2).rd
  have ez2 := hB2.size
  have HB2 := hid (HB1.out.trans (hB2.mono HB1.out.size))
  clear ho2 hB2 HF1
  go_wp2_with fail
  (with_reducible refine (blown_any md s w2 (HT.out.below' HB2.out).disk).mono ?_)
  rintro e w6 ⟨rfl, rfl⟩
  rw [← hDD.out]
  go_wp2_with fail
  (with_reducible refine ((HT.out.below' HB2.out).blownR).mono ?_)
  rintro e w6 ⟨rfl, rfl⟩
  rw [← hDD.out]
  go_wp2_with fail
  (with_reducible refine (dir_any md s w2 (HT.out.below' HB2.out).disk).mono ?_)
  rintro e w6 ⟨rfl, rfl⟩
  rw [← hC.out]
  go_wp2_with fail
  (with_reducible refine ((HT.out.below' HB2.out).dirR hn).mono ?_)
  rintro e w6 ⟨rfl, rfl⟩
  rw [← hC.out]
  go_wp2_with fail
  go_loopw [7] (fun i wr => ∃ k : Nat, k ≤ N ∧ i = .int .i64 (k : Int) ∧ Below w2.heap.size w2 wr) (fun i _ => N - (intOf i).toNat)
  case atStart => exact ⟨0, Nat.zero_le _, rfl, Below.refl _ _⟩
  case round =>
    obtain ⟨k, hk, rfl, hI⟩ := hrel
    have HI := hid hI
    have hsz := hI.size
    have HbI := hid (HB2.out.trans (hI.mono HB2.out.size))
    clear hI
    by_cases hlt : k < N
    · have hkl : k < ((sortedK s.names).map ofL).length := by rw [List.length_map, ← HN.out]; exact hlt
      obtain ⟨K, hK⟩ : ∃ K, K = ((sortedK s.names).map ofL)[k] := ⟨_, rfl⟩
      have hKs : K.size ≤ maxLen := hSz.out K (by rw [hK]; exact List.getElem_mem _)
      have hcell : ∀ q, Rd w2 q ((sortedK s.names).map encStr) → ∃ nb no, q = some ⟨nb, no, none⟩ ∧ ∀ W, Below w2.heap.size w2 W → W.cell? ⟨nb, no + k, none⟩ = some (.string K) := fun q h => by
        have hkl2 : k < ((sortedK s.names).map encStr).length := by rw [List.length_map, ← HN.out]; exact hlt
        obtain ⟨nb, no, e8, hc⟩ := h.cell hkl2
        refine ⟨nb, no, e8, fun W hW => ?_⟩
        rw [hW.cell (World.block_lt_of_cell? w2 _ hc), hc, hK, List.getElem_map, List.getElem_map]
        rfl
      obtain ⟨nb, no, e8, hc⟩ := hcell q1 HF2.out.rd
      obtain ⟨nb2, no2, e9, hd⟩ := hcell q2 HO2.out
      subst e8
      subst e9
      have HC := hid hc
      have HDc := hid hd
      have c1 := hc wr HI.out
      have i0 : (0 : Int) ≤ (k : Int) := by omega
      have i1 : (k : Int) < (N : Int) := by omega
      obtain ⟨R, hR⟩ : ∃ R, Hid (R = readL s K) := ⟨_, hid rfl⟩
      obtain ⟨rn, hrn⟩ : ∃ rn, Hid (rn = R.length) := ⟨_, hid rfl⟩
      have hrn2 : rn ≤ 4194304 := by rw [hrn.out, hR.out]; exact readL_le24 HT.out.okd K
      obtain ⟨E1, hE1⟩ : ∃ E : Int, Hid (E = knownE s K) := ⟨_, hid rfl⟩
      obtain ⟨E2, hE2⟩ : ∃ E : Int, Hid (E = foundE s K) := ⟨_, hid rfl⟩
      obtain ⟨E3, hE3⟩ : ∃ E : Int, Hid (E = looseN s K) := ⟨_, hid rfl⟩
      have z1 : (E1 != E1) = false := by simp
      have z2 : (E2 != E2) = false := by simp
      have z3 : (E3 != E3) = false := by simp
      have z4 : (K.toList != K.toList) = false := by simp
      clear hK hc hd hcell hkl
      go_wp2_with fail
      (with_reducible refine (read_clip md s K hKs wr (HT.out.disk.below HbI.out) HT.out.okd.good.ok (fun f hf => (HT.out.okd.sure f hf).2)).mono ?_)
      rintro e w10 ⟨q10, rfl, hF10, hB10⟩
      rw [← hR.out, ← hrn.out] at hF10 ⊢
      rw [← hE1.out]
      have HF10 := hid hF10
      have HI10 := hid (HI.out.trans (hB10.mono hsz))
      have HB10 := hid (HbI.out.trans (hB10.mono HbI.out.size))
      have c2 := HDc.out w10 HI10.out
      have s10 := HI10.out.size
      clear hF10 hB10 c1
      go_wp2_with fail
      (with_reducible refine ((HT.out.below' HB10.out).readR hn K hKs).mono ?_)
      rintro e w11 ⟨v11, rfl, ho11, hB11⟩
      rw [← hR.out, ← hrn.out] at ho11
      rw [← hE1.out]
      obtain ⟨q11, c11, rfl, _, _, _⟩ := own_shape ho11
      have HO11 := hid (Fr.of_own ho11).rd
      have HF11 := hid (HF10.out.below hB11)
      have HI11 := hid (HI10.out.trans (hB11.mono s10))
      have HB11 := hid (HB10.out.trans (hB11.mono HB10.out.size))
      have c3 := HC.out w11 HI11.out
      have s11 := HI11.out.size
      clear ho11 hB11 c2 HF10
      go_wp2_with fail
      (with_reducible refine ((HT.out.below' HB11.out).looseD K hKs).mono ?_)
      rintro e w12 ⟨rfl, hB12⟩
      rw [← hE2.out, ← hE3.out]
      have HO12 := hid (HO11.out.below hB12)
      have HF12 := hid (HF11.out.below hB12)
      have HI12 := hid (HI11.out.trans (hB12.mono s11))
      have HB12 := hid (HB11.out.trans (hB12.mono HB11.out.size))
      have c4 := HDc.out w12 HI12.out
      have s12 := HI12.out.size
      clear hB12 c3 HF11 HO11
      go_wp2_with fail
      (with_reducible refine ((HT.out.below' HB12.out).looseR hn K hKs).mono ?_)
      rintro e w13 ⟨rfl, hB13⟩
      rw [← hE2.out, ← hE3.out]
      have HO13 := hid (HO12.out.below hB13)
      have HF13 := hid (HF12.out.below hB13)
      have HI13 := hid (HI12.out.trans (hB13.mono s12))
      have HB13 := hid (HB12.out.trans (hB13.mono HB12.out.size))
      have s13 := HI13.out.size
      clear hB13 c4 HF12 HO12
      go_upto_region 12 with fail
      obtain ⟨TD, D, hD1, hD2⟩ := class_d w13
      have k1 : ∀ d, (D d).cell? ⟨nb, no + k, none⟩ = some (.string K) := fun d => HC.out _ (HI13.out.trans ((hD1 d).mono s13))
      have k2 : ∀ d, (D d).cell? ⟨nb2, no2 + k, none⟩ = some (.string K) := fun d => HDc.out _ (HI13.out.trans ((hD1 d).mono s13))
      have HSb := hid (fun d => calls_d hD1 hD2 (fun W hW => sameB_true q10 q11 rn rn c11 R W hrn.out.symm (by omega) (HF13.out.rd.below hW) (HO13.out.below hW)) d)
      have HBD := hid (fun d => HI13.out.trans ((hD1 d).mono s13))
      obtain ⟨z0, hz0⟩ := hD2 { w13 with drawn := w13.drawn + 1 } (Below.refl _ _).drew
      haveI : Nonempty TD := ⟨z0⟩
      clear hD1 hD2
      refine region_quiet_d (D := D) (by kernel_rfl) (by kernel_rfl) z0 hz0 ?_
      repeat (go_big_quiet_step ((go_at_call 55; with_reducible exact HSb.out _)))
      refine wpQuiet_nil ?_
      intro d
      have HBd := hid (HBD.out d)
      clear k1 k2 hz0
      go_wp2
      go_roundw
      case rel => exact ⟨k + 1, by omega, by go_num, HBd.out⟩
      case measure => simp [intOf]; omega
    · obtain rfl : k = N := by omega
      go_wp2
      go_ret
      exact ⟨rfl, HbI.out⟩
set_option maxRecDepth 100000 in
set_option maxHeartbeats 4000000 in
theorem two_any (room fuse : Int) (next : Nat) (q : Option Addr) (n c : Nat) (w : World) (hf0 : -9223372036854775808 ≤ fuse) (hf1 : fuse ≤ 9223372036854775807) :
    Calls Tryz.prog 9 #[giv room fuse next q n c] w fun e w' => ∃ (md : DM) (mr : RM) (s : DS), e = .returned (.tuple #[.pointer (some ⟨md.D, 0, none⟩), .pointer (some ⟨mr.D, 0, none⟩)]) ∧ Two (fun _ => False) w w' md s mr s 0 := by
  unfold giv
  obtain ⟨w0, hw0, hbk, hb0⟩ : ∃ w0, w0 = w.alloc (.cells #[.int .i64 room, .int .i64 fuse, .int .u64 (next : Int), .slice q n c] 25) ∧ w0.heap[w.heap.size]? = some (.cells #[.int .i64 room, .int .i64 fuse, .int .u64 (next : Int), .slice q n c] 25 (0, 0)) ∧ Below w.heap.size w w0 := ⟨_, rfl, heap_alloc_new _ _, (Below.refl _ _).alloc (Nat.le_refl _) _⟩
  have y0 := cell_of_row w0 w.heap.size 0 _ _ _ hbk
  have y1 := cell_of_row w0 w.heap.size 1 _ _ _ hbk
  have HW0 := hid hw0
  have HBk := hid hbk
  have HB0 := hid hb0
  have hk0 := lt_of_block hbk
  clear hw0 hbk hb0
  obtain ⟨R, hR⟩ : ∃ R : Int, R = max 0 (room.tmod 4194304) := ⟨_, rfl⟩
  have hR0 : 0 ≤ R := by omega
  have hR1 : R ≤ 4194304 := by
    have := Int.tmod_lt_of_pos room (show (0 : Int) < 4194304 by decide)
    omega
  have HR := hid hR
  go_enter Tryz.func9, Tryz.ntmps9
  go_upto_region 1 with fail
  rw [← HW0.out]
  go_wp2_with fail
  rw [← HR.out]
  (with_reducible refine (new_any R hR0 hR1 w0).mono ?_)
  rintro e w1 ⟨rfl, hD1, hB1⟩
  have HD1 := hid hD1
  have HB01 := hid hB1
  have HB1 := hid (HB0.out.trans (hB1.mono HB0.out.size))
  have x0 := cell_of_row w1 w.heap.size 0 _ _ _ ((hB1.block _ hk0).trans HBk.out)
  have hk1 : w.heap.size < w1.heap.size := Nat.lt_of_lt_of_le hk0 hB1.size
  clear hD1 hB1 y0 y1
  go_wp2_with fail
  rw [← HR.out]
  (with_reducible refine (newR_any R w1).mono ?_)
  rintro e w2 ⟨hB2, ⟨hE, _⟩ | ⟨_, rfl, hRf⟩⟩
  · exfalso
    have := show newE R = 0 from if_neg (by omega)
    rw [this] at hE
    cases hE
  have hT : Two (fun _ => False) w0 w2 (newM w0.heap.size) (newS R) (newRM w1.heap.size) (newS R) 0 :=
    ⟨HD1.out.below hB2, ⟨_, _, hRf, Sim.new, fun k hk => ⟨.inr (Nat.le_trans HB01.out.size hk.1), fun e => by have := HD1.out.lt k e; have := hk.1; omega⟩⟩, DsOk.new hR0 hR1, DsOk.new hR0 hR1, fun k hk => .inr (newM_fresh _ k hk), (RMod.of_below _ HB01.out).seq (RMod.of_below _ hB2)⟩
  obtain ⟨md, hmd⟩ : ∃ x, x = newM w0.heap.size := ⟨_, rfl⟩
  obtain ⟨mr, hmr⟩ : ∃ x, x = newRM w1.heap.size := ⟨_, rfl⟩
  rw [← hmd, ← hmr] at hT ⊢
  have HT := hid hT
  have HBack := hid (fun (W : World) (s : DS) (T : Two (fun _ => False) w0 W md s mr s 0) => T.back (I := fun _ => False) (w0 := w) (RMod.of_below _ HB0.out) (fun k h => .inl h))
  have y1 := cell_of_row w2 w.heap.size 1 _ _ _ (hT.keepAt HBk.out id)
  clear hT hRf hB2 x0 hmd hmr
  by_cases hfu : 0 ≤ fuse
  · obtain ⟨V, hV⟩ : ∃ V : Int, V = fuse % 20 := ⟨_, rfl⟩
    have hV1 : V ≤ 9223372036854775807 := by omega
    have HV := hid hV
    clear hV
    go_wp2_with fail
    rw [← HV.out]
    (with_reducible refine (HT.out.fuseD V hV1).mono ?_)
    rintro e w3 ⟨rfl, hT3⟩
    have HT3 := hid hT3
    have y1' := cell_of_row w3 w.heap.size 1 _ _ _ (hT3.keepAt HBk.out id)
    clear hT3 y1
    go_wp2_with fail
    rw [← HV.out]
    (with_reducible refine (HT3.out.fuseR V hV1).mono ?_)
    rintro e w4 ⟨rfl, hT4⟩
    have HT4 := hid hT4
    clear hT4 y1'
    go_wp2
    go_ret2
    exact ⟨md, mr, _, rfl, HBack.out _ _ HT4.out⟩
  · go_wp2
    go_ret2
    exact ⟨md, mr, _, rfl, HBack.out _ _ HT.out⟩
end Go.Proofs.Herb
