/- The law TablesProps. For facts that can be read. -/
import Derived.Test.YtljdlilcpcokhaaPrpP
import Derived.Test.YtljdlilcpcokhaaOth
import Derived.ChangeKeysEq
namespace Go.Proofs.Herb
open Go.RowKit
theorem leS_false {a b : ByteArray} (h : bL b.data.toList a.data.toList = false) : (Op.bytesLess a.toList b.toList || a.toList == b.toList) = true := by
  rw [ByteArray.toList_eq, ByteArray.toList_eq, Bool.or_eq_true]
  by_cases e : a.data.toList = b.data.toList
  · exact .inr (by rw [e]; exact beq_self_eq_true _)
  · exact .inl (bl_total h (fun h => e h.symm))
theorem cast_beq (a b : Nat) : (((a : Int)) == (b : Int)) = (a == b) := by
  rw [Bool.eq_iff_iff, beq_iff_eq, beq_iff_eq]; omega
/-- the ends that some of these facts are -/
def ends4 (p : Props) (l : List Fact) : Array Value := #[.bool (l.any fun f => f.seq == p.least), .bool (l.any fun f => f.seq == p.greatest), .bool (l.any fun f => f.valid == p.early), .bool (l.any fun f => f.valid == p.late)]
theorem eqlEnds (w : World) : (binOp .eql 42 (.agg #[.bool true, .bool true, .bool true, .bool true]) (.agg #[.bool true, .bool true, .bool true, .bool true])).run Try.prog w = .ok (.bool true) w := by
  have hs : (Try.prog.info? 4).isSome = true := by kernel_rfl
  obtain ⟨i, hi⟩ := Option.isSome_iff_exists.1 hs
  have hc : Try.prog.cellsOf 4 = 1 := by kernel_rfl
  have hp : ∀ k, k < 4 → (part 4 #[.bool true, .bool true, .bool true, .bool true] k).run Try.prog w = .ok (.bool true) w := by
    intro k hk
    rcases (show k = 0 ∨ k = 1 ∨ k = 2 ∨ k = 3 by omega) with rfl | rfl | rfl | rfl <;> go_simp
  rw [run_eql_struct, run_equalIn_array w 9999 _ _ Try.underlying42 hi]
  simp [List.range, List.range.loop, Op.eqItems, hc, hp, run_equalIn_bool' w _ 4 true true Try.underlying4]
theorem infoEnds : (Try.prog.info? 42).map (·.size) = some 4 := by kernel_rfl
set_option maxRecDepth 100000 in
set_option maxHeartbeats 4000000 in
theorem propsLaw_any (line : Nat) (q : Option Addr) (n c : Nat) (l : List Fact) (w : World) (hn : l.length = n) (hm : n ≤ 9223372036854775807) (hr : Rd w q (fCells l)) (ho : ∀ f ∈ l, f.Ok) (hs : ∀ f ∈ l, f.key.size ≤ 140737488355328 ∧ f.val.size ≤ 140737488355328) :
    Calls Try.prog 5 #[.int .u64 (line : Int), .slice q n c] w fun e w' => e = .returned (.bool true) ∧ Below w.heap.size w w' := by
  have HG := hid (great_any q n c l w hn hm hr hs)
  have Hn := hid hn
  have Hr := hid hr
  have Ho := hid ho
  clear hn hr ho hs
  go_enter Try.func5, Try.ntmps5
  go_wp2_with fail
  refine HG.out.mono ?_
  rintro e w1 ⟨b, rfl, hb, hB1⟩
  have HB1 := hid hB1
  have Hb := hid hb
  have hs1 := hB1.size
  clear HG hB1 hb
  cases b with
  | true =>
    go_wp2_with fail
    refine (lives_any w1).mono ?_
    rintro e w2 ⟨rfl, hb2⟩
    have HB2 := hid (HB1.out.trans (hb2.mono hs1))
    clear hb2
    go_wp2
    go_ret
    exact ⟨rfl, HB2.out⟩
  | false =>
    have hk1 : n ≤ 6000 := great_small Hn.out (fun h => by have := Hb.out.2 h; cases this)
    obtain ⟨E1, hE1⟩ : ∃ E, E = buildE line l := ⟨_, rfl⟩
    have HE1 := hid hE1
    clear hE1
    go_wp2_with fail
    refine (build_x line q n c l w1 Hn.out hk1 (Hr.out.below HB1.out) Ho.out).mono ?_
    rintro e w3 ⟨p3, m3, d3, arr3, rfl, h8, h1, hb3, hx3⟩
    rw [← HE1.out] at hx3 ⊢
    have H8 := hid (show zProps.size = arr3.size by rw [h8]; rfl)
    have infoP8 := hid (show (Try.prog.info? 29).map (·.size) = some arr3.size by rw [h8]; exact infoProps)
    have H1 := hid h1
    have hs3 := hb3.size
    have HB3 := hid (HB1.out.trans (hb3.mono hs1))
    have HX3 := hid hx3
    clear h8 h1 hb3 hx3
    obtain ⟨P, hP⟩ : ∃ x, x = w3.heap.size := ⟨_, rfl⟩
    obtain ⟨w4, hw4⟩ : ∃ x, x = (w3.alloc (.cells zProps 29)).setRow w3.heap.size arr3 := ⟨_, rfl⟩
    have hb4 : Below w3.heap.size w3 w4 := by rw [hw4]; exact below_setRow ((Below.refl _ _).alloc (Nat.le_refl _) _) (Nat.le_refl _) _
    have hr4 : w4.heap[P]? = some (.cells arr3 29 (0, 0)) := by rw [hw4, hP]; exact setRow_heap _ _ _ _ _ _ (heap_alloc_new _ _)
    unfold zProps at hw4
    have HB4 := hid (HB3.out.trans (hb4.mono (by omega)))
    have HB34 := hid hb4
    have HR4 := hid hr4
    have HW4 := hid hw4
    have HP := hid hP
    have hs4 := hb4.size
    clear hb4 hw4 hr4 hP
    by_cases hz1 : E1 = 0
    · have e1 : (E1 != 0) = false := by simpa using hz1
      obtain ⟨rfl, rfl, r3, harr⟩ := HX3.out hz1
      obtain ⟨⟨g1, g2⟩, t1⟩ := buildE_zero.1 (HE1.out.symm.trans hz1)
      obtain ⟨k1, k2, k3⟩ := tab_parts line l t1 1 (by decide)
      have hT := tab_len line l
      obtain ⟨T, hTe⟩ : ∃ T, T = (tabB line l).length := ⟨_, rfl⟩
      rw [← hTe] at k1 k2 t1 hT ⊢
      have k2' : num4 (tabB line l) (T - 36 + 8 * 1 + 4) = (filB l).length := k2
      have k3' : ((tabB line l).drop (partAt l 1)).take (filB l).length = filB l := k3
      have hpl : partAt l 1 = (outB l).length + (idxB l).length := by show (outB l ++ idxB l).length = _; rw [List.length_append]
      have HPart := hid (part_any p3 T T 1 (T - 36 + 8 * 1) (tabB line l) w4 hTe.symm (by omega) (by omega) (Nat.le_refl _) (by unfold maxLen; omega) (by decide) rfl (by rw [k1, k2', hpl]; omega) (r3.below HB34.out))
      rw [k1, k2', k3'] at HPart
      have hPr := props_good g1 g2
      have hRow := HR4.out
      rw [harr] at hRow
      obtain ⟨pp, hpp⟩ : ∃ p, p = propsF line l := ⟨_, rfl⟩
      rw [← hpp] at hPr hRow
      have HPr := hid hPr
      have HRow := hid hRow
      have HG1 := hid g1
      have HArr := hid harr
      have HTe := hid hTe
      rw [show ((1 : Nat) : Int) = 1 from rfl] at HPart
      clear hTe k1 k2 k3 k2' k3' hT r3 hPr hRow hpp harr g1 hz1 hpl
      go_upto_region 4 with (refine wpList_store_block rfl 29 _ _ rfl _ _ _ _ rfl rfl (heap_alloc_new _ _) H8.out infoP8.out H1.out ?_)
      rw [← HW4.out, ← HP.out]
      clear HW4 HP
      go_wp2_with fail
      (with_reducible refine HPart.out.mono ?_)
      rintro e w5 ⟨⟨q5, rfl, hq5⟩, hb5⟩
      have hrow5 := (hb5.block P (lt_of_block HRow.out)).trans HRow.out
      have hrd5 := Hr.out.below (HB4.out.trans (hb5.mono (by omega)))
      have HB5 := hid (HB4.out.trans (hb5.mono (by omega)))
      have HQ5 := hid hq5
      have HRow5 := hid hrow5
      have y0 : w5.cell? ⟨P, 0, none⟩ = some (.int .u64 (pp.line : Int)) := (cell_of_row w5 P 0 _ _ _ hrow5).trans rfl
      have y1 : w5.cell? ⟨P, 1, none⟩ = some (.int .u64 (pp.many : Int)) := (cell_of_row w5 P 1 _ _ _ hrow5).trans rfl
      have y2 : w5.cell? ⟨P, 2, none⟩ = some (.string pp.low) := (cell_of_row w5 P 2 _ _ _ hrow5).trans rfl
      have y3 : w5.cell? ⟨P, 3, none⟩ = some (.string pp.high) := (cell_of_row w5 P 3 _ _ _ hrow5).trans rfl
      obtain ⟨bl, off, rfl, hbl, a0⟩ := fact_at (j := 0) hrd5 g2
      obtain ⟨b', off', e', _, al⟩ := fact_at (j := n - 1) hrd5 (by have := Hn.out; omega)
      cases e'
      rw [Nat.zero_mul, Nat.add_zero] at a0
      have z0 := a0.c0
      have zl := al.c0
      have hlow := HPr.out.low g2
      have hhigh := HPr.out.high g2
      have hhigh' : pp.high = (l[n - 1]'(by have := Hn.out; omega)).key := by rw [hhigh]; simp only [Hn.out]
      rw [← hlow] at z0
      rw [← hhigh'] at zl
      have hln : pp.line = line := HPr.out.line
      have hmn : pp.many = n := by rw [HPr.out.many, Hn.out]
      rw [hln] at y0
      rw [hmn] at y1
      obtain ⟨L, hL⟩ : ∃ L, L = n - 1 := ⟨_, rfl⟩
      rw [← hL] at zl
      have s1 : IntKind.i64.wrap ((n : Int) - 1) = (L : Int) := by have := Hn.out; rw [IntWalk.i64_in _ (by omega)]; omega
      have i0 : (0 : Int) ≤ (L : Int) := by omega
      have i1 : (L : Int) < (n : Int) := by have := Hn.out; omega
      have i2 : (0 : Int) < (n : Int) := by have := Hn.out; omega
      have i3 : (n : Int) % 18446744073709551616 = (n : Int) := by omega
      have HLow := hid hlow
      have hs5 := HB5.out.size
      clear hb5 hq5 hrow5 hrd5 a0 al hlow hhigh hhigh' hln hmn hL
      go_upto_region 7 with (fail)
      go_quiet (fail)
      go_wp2_with (refine wpList_store_block rfl 42 _ _ rfl _ _ _ _ rfl rfl (heap_alloc_new _ _) rfl infoEnds (by simp [Value.oneCell']) ?_)
      obtain ⟨E, hE⟩ : ∃ x, x = w5.heap.size := ⟨_, rfl⟩
      obtain ⟨w6, hw6⟩ : ∃ x, x = ((w5.drewN nq).alloc (.cells #[.bool false, .bool false, .bool false, .bool false] 42)).setRow w5.heap.size #[.bool false, .bool false, .bool false, .bool false] := ⟨_, rfl⟩
      have hb56 : Below w5.heap.size w5 w6 := by rw [hw6]; exact below_setRow ((below_drewN (Below.refl _ _) nq).alloc (Nat.le_refl _) _) (Nat.le_refl _) _
      have hE6 : w6.heap[E]? = some (.cells (ends4 pp []) 42 (0, 0)) := by rw [hw6, hE]; exact setRow_heap _ _ _ _ _ _ (heap_alloc_new _ _)
      rw [← hw6, ← hE]
      have hb6 : Below w.heap.size w w6 := HB5.out.trans (hb56.mono hs5)
      have hk6 : ∀ g, g < E → w6.heap[g]? = w5.heap[g]? := fun g hg => hb56.block g (by omega)
      have hwE : w.heap.size ≤ E := by omega
      have hPE : P < E := by rw [hE]; exact lt_of_block HRow5.out
      have hqE : ∀ a, q5 = some a → a.block < E := fun a ha => by
        rcases HQ5.out with h | ⟨b, o, e, hc⟩
        · have h1 := congrArg List.length h
          rw [List.length_map] at h1
          have h2 : (filB l).length = blN (namesF l).length + 1 := ofF_len _
          have h3 : ([] : List Value).length = 0 := rfl
          omega
        · rw [e] at ha
          cases ha
          rw [hE]
          have h2 : (filB l).length = blN (namesF l).length + 1 := ofF_len _
          exact World.block_lt_of_cell? w5 _ (hc 0 _ (List.getElem?_eq_getElem (show 0 < ((filB l).map bv).length by rw [List.length_map]; omega)))
      have HE := hid hE
      have HE6 := hid hE6
      have HB6 := hid hb6
      have HK6 := hid hk6
      have HqE := hid hqE
      clear hE hw6 hb56 hE6 hb6 hk6 hqE y0 y1 y2 y3 z0 zl s1 i0 i1 i3
      go_loopw [11] (fun i wr => ∃ k : Nat, k ≤ n ∧ i = .int .i64 (k : Int) ∧ wr.heap[E]? = some (.cells (ends4 pp (l.take k)) 42 (0, 0)) ∧ (∀ g, g < E → wr.heap[g]? = w5.heap[g]?) ∧ Below w.heap.size w wr) (fun i _ => n - (intOf i).toNat)
      case atStart => exact ⟨0, Nat.zero_le _, rfl, HE6.out, HK6.out, HB6.out⟩
      case round =>
        obtain ⟨k, hk, rfl, hEr, hkr, hbr⟩ := hrel
        have HEr := hid hEr
        have HKr := hid hkr
        have HBr := hid hbr
        have hsr := hbr.size
        clear hEr hkr hbr HE6 HB6 HK6
        by_cases hlt : k < n
        · have hkl : k < l.length := by rw [Hn.out]; exact hlt
          obtain ⟨b', off', e', _, hfa⟩ := fact_at (Hr.out.below HBr.out) hkl
          cases e'
          obtain ⟨f, hf⟩ : ∃ f, f = l[k] := ⟨_, rfl⟩
          rw [← hf] at hfa
          have hfm : f ∈ l := by rw [hf]; exact List.getElem_mem hkl
          have heach := HPr.out.each f hfm
          have hhas := fil_has f hfm
          obtain ⟨_, gm, gl, _, _⟩ := HG1.out k hkl
          rw [← hf] at gl gm
          have hksz : f.key.size ≤ 32 := by unfold mayF at gm; exact (of_decide_eq_true gm).2.1
          have hEl := lt_of_block HEr.out
          obtain ⟨x0, x1, x2, x3, x4, x5⟩ := hfa
          have i4 : (0 : Int) ≤ (k : Int) := by omega
          have i5 : (k : Int) < (n : Int) := by omega
          have HF := hid hf
          clear hf hfm gm
          go_upto_region 14 with (fail)
          clear x0 x1 x2 x3 x4 x5
          obtain ⟨X, hX⟩ : ∃ X, X = wr.heap.size := ⟨_, rfl⟩
          obtain ⟨wa, hwa⟩ : ∃ x, x = wr.alloc (.cells #[.string f.key, .int .u32 (f.valid : Int), .int .u64 (f.seq : Int), .int .u64 (line : Int), .int .u8 (f.kind : Int), .string f.val] 41) := ⟨_, rfl⟩
          have hXa : wa.heap[X]? = some (.cells #[.string f.key, .int .u32 (f.valid : Int), .int .u64 (f.seq : Int), .int .u64 (line : Int), .int .u8 (f.kind : Int), .string f.val] 41 (0, 0)) := by rw [hwa, hX]; exact heap_alloc_new _ _
          have hBa : Below wr.heap.size wr wa := by rw [hwa]; exact (Below.refl _ _).alloc (Nat.le_refl _) _
          rw [← hwa, ← hX]
          have hPa : wa.heap[P]? = _ := ((hBa.block P (by omega)).trans (HKr.out P hPE)).trans HRow5.out
          have hEa : wa.heap[E]? = _ := (hBa.block E hEl).trans HEr.out
          have hqa : Rd wa q5 ((filB l).map bv) := rd_far HQ5.out (fun a ha => by have := HqE.out a ha; exact (hBa.block _ (by omega)).trans (HKr.out _ this))
          have hBwa := HBr.out.trans (hBa.mono hsr)
          have HXa := hid hXa
          have HPa := hid hPa
          have HEa := hid hEa
          have HBwa := hid hBwa
          have HKa := hid (show ∀ g, g < E → wa.heap[g]? = w5.heap[g]? from fun g hg => (hBa.block g (by omega)).trans (HKr.out g hg))
          have HHas := hid (has_any q5 (filB l).length (T - partAt l 1) (filB l) f.key wa rfl (by have h2 : (filB l).length = blN (namesF l).length + 1 := ofF_len _; have := names_len l; have := Hn.out; unfold blN at h2; omega) (by omega) hqa)
          rw [hhas] at HHas
          have hEX : E < X := by omega
          have v0 : wa.cell? ⟨X, 0, none⟩ = some (.string f.key) := (cell_of_row wa X 0 _ _ _ hXa).trans rfl
          have v1 : wa.cell? ⟨X, 1, none⟩ = some (.int .u32 (f.valid : Int)) := (cell_of_row wa X 1 _ _ _ hXa).trans rfl
          have v2 : wa.cell? ⟨X, 2, none⟩ = some (.int .u64 (f.seq : Int)) := (cell_of_row wa X 2 _ _ _ hXa).trans rfl
          have v3 : wa.cell? ⟨X, 3, none⟩ = some (.int .u64 (line : Int)) := (cell_of_row wa X 3 _ _ _ hXa).trans rfl
          have p2 : wa.cell? ⟨P, 2, none⟩ = some (.string pp.low) := (cell_of_row wa P 2 _ _ _ hPa).trans rfl
          have p3' : wa.cell? ⟨P, 3, none⟩ = some (.string pp.high) := (cell_of_row wa P 3 _ _ _ hPa).trans rfl
          have p4 : wa.cell? ⟨P, 4, none⟩ = some (.int .u64 (pp.least : Int)) := (cell_of_row wa P 4 _ _ _ hPa).trans rfl
          have p5 : wa.cell? ⟨P, 5, none⟩ = some (.int .u64 (pp.greatest : Int)) := (cell_of_row wa P 5 _ _ _ hPa).trans rfl
          have p6 : wa.cell? ⟨P, 6, none⟩ = some (.int .u32 (pp.early : Int)) := (cell_of_row wa P 6 _ _ _ hPa).trans rfl
          have p7 : wa.cell? ⟨P, 7, none⟩ = some (.int .u32 (pp.late : Int)) := (cell_of_row wa P 7 _ _ _ hPa).trans rfl
          obtain ⟨u1, u2, u3, u4, u5, u6⟩ := heach
          have c1 : Op.bytesLess f.key.toList pp.low.toList = false := by rw [ByteArray.toList_eq, ByteArray.toList_eq]; exact u1
          have c2 := leS_false u2
          have c3 : decide ((f.seq : Int) < (pp.least : Int)) = false := by simp; omega
          have c4 : decide ((pp.greatest : Int) < (f.seq : Int)) = false := by simp; omega
          have c5 : decide ((f.valid : Int) < (pp.early : Int)) = false := by simp; omega
          have c6 : decide ((pp.late : Int) < (f.valid : Int)) = false := by simp; omega
          clear hwa hXa hBa hPa hEa hqa hBwa hX u1 u2 hhas gl
          go_wp2_with fail
--ENDS
          (with_reducible refine HHas.out.mono ?_)
          rintro e wb ⟨rfl, hbb⟩
          have hXb := (hbb.block X (lt_of_block HXa.out)).trans HXa.out
          have hEb := (hbb.block E (lt_of_block HEa.out)).trans HEa.out
          have hKb : ∀ g, g < E → wb.heap[g]? = w5.heap[g]? := fun g hg => (hbb.block g (by have := lt_of_block HEa.out; omega)).trans (HKa.out g hg)
          have hBb := HBwa.out.trans (hbb.mono HBwa.out.size)
          obtain ⟨A0, hA0⟩ : ∃ b, b = (l.take k).any fun f => f.seq == pp.least := ⟨_, rfl⟩
          obtain ⟨A1, hA1⟩ : ∃ b, b = (l.take k).any fun f => f.seq == pp.greatest := ⟨_, rfl⟩
          obtain ⟨A2, hA2⟩ : ∃ b, b = (l.take k).any fun f => f.valid == pp.early := ⟨_, rfl⟩
          obtain ⟨A3, hA3⟩ : ∃ b, b = (l.take k).any fun f => f.valid == pp.late := ⟨_, rfl⟩
          have hnext : (#[.bool (A0 || ((f.seq : Int) == (pp.least : Int))), .bool (A1 || ((f.seq : Int) == (pp.greatest : Int))), .bool (A2 || ((f.valid : Int) == (pp.early : Int))), .bool (A3 || ((f.valid : Int) == (pp.late : Int)))] : Array Value) = ends4 pp (l.take (k + 1)) := by
            rw [hA0, hA1, hA2, hA3]
            unfold ends4
            rw [List.take_succ_eq_append_getElem hkl, ← HF.out]
            simp only [List.any_append, List.any_cons, List.any_nil, Bool.or_false, cast_beq]
          unfold ends4 at hEb
          rw [← hA0, ← hA1, ← hA2, ← hA3] at hEb
          have HNext := hid hnext
          have HXc := hid hXb
          have HEc := hid hEb
          have HKc := hid hKb
          have HBc := hid hBb
          clear v0 v1 v2 v3 p2 p3' p4 p5 p6 p7
          clear hXb hEb hKb hBb hbb hnext hA0 hA1 hA2 hA3 HHas HXa HEa HKa HBwa HPa
          go_upto_region 16 with (fail)
          clear c1 c2 c3 c4 c5 c6 u3 u4 u5 u6
          have hP0 : wb.heap[P]? = _ := (HKc.out P hPE).trans HRow5.out
          have v0 : wb.cell? ⟨X, 2, none⟩ = some (.int .u64 (f.seq : Int)) := (cell_of_row _ X 2 _ _ _ HXc.out).trans rfl
          have p0 : wb.cell? ⟨P, 4, none⟩ = some (.int .u64 (pp.least : Int)) := (cell_of_row _ P 4 _ _ _ hP0).trans rfl
          have e0' : wb.cell? ⟨E, 0, none⟩ = some (.bool A0) := (cell_of_row _ E 0 _ _ _ HEc.out).trans rfl
          have f0' : wb.frozen? ⟨E, 0, none⟩ = false := frozen_of_row _ _ _ _ _ HEc.out
          have key : ∀ b : Bool, b = (A0 || ((f.seq : Int) == (pp.least : Int))) → ((wb.setCell ⟨E, 0, none⟩ (.bool b)).heap[E]? = some (.cells #[.bool (A0 || ((f.seq : Int) == (pp.least : Int))), .bool A1, .bool A2, .bool A3] 42 (0, 0)) ∧ (wb.setCell ⟨E, 0, none⟩ (.bool b)).heap[X]? = some (.cells #[.string f.key, .int .u32 (f.valid : Int), .int .u64 (f.seq : Int), .int .u64 (line : Int), .int .u8 (f.kind : Int), .string f.val] 41 (0, 0)) ∧ (∀ g, g < E → (wb.setCell ⟨E, 0, none⟩ (.bool b)).heap[g]? = w5.heap[g]?) ∧ Below w.heap.size w (wb.setCell ⟨E, 0, none⟩ (.bool b)))
            := by
            rintro b rfl
            exact ⟨(heap_setCell_same _ _ 0 _ _ _ HEc.out).trans rfl, (heap_setCell_other _ _ _ _ (show X ≠ E by omega)).trans HXc.out, fun g hg => (heap_setCell_other _ _ _ _ (show g ≠ E by omega)).trans (HKc.out g hg), HBc.out.setCell (p := ⟨E, 0, none⟩) hwE _⟩
          have KEY0 := hid key
          clear key hP0
          go_cut [] (fun wc => wc.heap[E]? = some (.cells #[.bool (A0 || ((f.seq : Int) == (pp.least : Int))), .bool A1, .bool A2, .bool A3] 42 (0, 0)) ∧ wc.heap[X]? = some (.cells #[.string f.key, .int .u32 (f.valid : Int), .int .u64 (f.seq : Int), .int .u64 (line : Int), .int .u8 (f.kind : Int), .string f.val] 41 (0, 0)) ∧ (∀ g, g < E → wc.heap[g]? = w5.heap[g]?) ∧ Below w.heap.size w wc)
          case first =>
            cases A0
            all_goals (go_wp2; go_meet; (case rel => exact KEY0.out _ rfl))
          case rest =>
            obtain ⟨hE2, hX2, hK2, hB2⟩ := hcut
            clear HEc HXc HKc HBc KEY0 v0 p0 e0' f0'
            have HEc := hid hE2
            have HXc := hid hX2
            have HKc := hid hK2
            have HBc := hid hB2
            clear hE2 hX2 hK2 hB2
            go_upto_region 17 with (fail)
            obtain ⟨wc0, hwc⟩ : ∃ x, x = wc := ⟨_, rfl⟩
            subst hwc
            have hP1 : wc0.heap[P]? = _ := (HKc.out P hPE).trans HRow5.out
            have v1 : wc0.cell? ⟨X, 2, none⟩ = some (.int .u64 (f.seq : Int)) := (cell_of_row _ X 2 _ _ _ HXc.out).trans rfl
            have p1 : wc0.cell? ⟨P, 5, none⟩ = some (.int .u64 (pp.greatest : Int)) := (cell_of_row _ P 5 _ _ _ hP1).trans rfl
            have e1' : wc0.cell? ⟨E, 1, none⟩ = some (.bool A1) := (cell_of_row _ E 1 _ _ _ HEc.out).trans rfl
            have f1' : wc0.frozen? ⟨E, 1, none⟩ = false := frozen_of_row _ _ _ _ _ HEc.out
            have key : ∀ b : Bool, b = (A1 || ((f.seq : Int) == (pp.greatest : Int))) → ((wc0.setCell ⟨E, 1, none⟩ (.bool b)).heap[E]? = some (.cells #[.bool (A0 || ((f.seq : Int) == (pp.least : Int))), .bool (A1 || ((f.seq : Int) == (pp.greatest : Int))), .bool A2, .bool A3] 42 (0, 0)) ∧ (wc0.setCell ⟨E, 1, none⟩ (.bool b)).heap[X]? = some (.cells #[.string f.key, .int .u32 (f.valid : Int), .int .u64 (f.seq : Int), .int .u64 (line : Int), .int .u8 (f.kind : Int), .string f.val] 41 (0, 0)) ∧ (∀ g, g < E → (wc0.setCell ⟨E, 1, none⟩ (.bool b)).heap[g]? = w5.heap[g]?) ∧ Below w.heap.size w (wc0.setCell ⟨E, 1, none⟩ (.bool b)))
              := by
              rintro b rfl
              exact ⟨(heap_setCell_same _ _ 1 _ _ _ HEc.out).trans rfl, (heap_setCell_other _ _ _ _ (show X ≠ E by omega)).trans HXc.out, fun g hg => (heap_setCell_other _ _ _ _ (show g ≠ E by omega)).trans (HKc.out g hg), HBc.out.setCell (p := ⟨E, 1, none⟩) hwE _⟩
            have KEY1 := hid key
            clear key hP1
            go_cut [] (fun wc => wc.heap[E]? = some (.cells #[.bool (A0 || ((f.seq : Int) == (pp.least : Int))), .bool (A1 || ((f.seq : Int) == (pp.greatest : Int))), .bool A2, .bool A3] 42 (0, 0)) ∧ wc.heap[X]? = some (.cells #[.string f.key, .int .u32 (f.valid : Int), .int .u64 (f.seq : Int), .int .u64 (line : Int), .int .u8 (f.kind : Int), .string f.val] 41 (0, 0)) ∧ (∀ g, g < E → wc.heap[g]? = w5.heap[g]?) ∧ Below w.heap.size w wc)
            case first =>
              cases A1
              all_goals (go_wp2; go_meet; (case rel => exact KEY1.out _ rfl))
            case rest =>
              obtain ⟨hE2, hX2, hK2, hB2⟩ := hcut
              clear HEc HXc HKc HBc KEY1 v1 p1 e1' f1'
              have HEc := hid hE2
              have HXc := hid hX2
              have HKc := hid hK2
              have HBc := hid hB2
              clear hE2 hX2 hK2 hB2
              go_upto_region 18 with (fail)
              obtain ⟨wc1, hwc⟩ : ∃ x, x = wc := ⟨_, rfl⟩
              subst hwc
              have hP2 : wc1.heap[P]? = _ := (HKc.out P hPE).trans HRow5.out
              have v2 : wc1.cell? ⟨X, 1, none⟩ = some (.int .u32 (f.valid : Int)) := (cell_of_row _ X 1 _ _ _ HXc.out).trans rfl
              have p2 : wc1.cell? ⟨P, 6, none⟩ = some (.int .u32 (pp.early : Int)) := (cell_of_row _ P 6 _ _ _ hP2).trans rfl
              have e2' : wc1.cell? ⟨E, 2, none⟩ = some (.bool A2) := (cell_of_row _ E 2 _ _ _ HEc.out).trans rfl
              have f2' : wc1.frozen? ⟨E, 2, none⟩ = false := frozen_of_row _ _ _ _ _ HEc.out
              have key : ∀ b : Bool, b = (A2 || ((f.valid : Int) == (pp.early : Int))) → ((wc1.setCell ⟨E, 2, none⟩ (.bool b)).heap[E]? = some (.cells #[.bool (A0 || ((f.seq : Int) == (pp.least : Int))), .bool (A1 || ((f.seq : Int) == (pp.greatest : Int))), .bool (A2 || ((f.valid : Int) == (pp.early : Int))), .bool A3] 42 (0, 0)) ∧ (wc1.setCell ⟨E, 2, none⟩ (.bool b)).heap[X]? = some (.cells #[.string f.key, .int .u32 (f.valid : Int), .int .u64 (f.seq : Int), .int .u64 (line : Int), .int .u8 (f.kind : Int), .string f.val] 41 (0, 0)) ∧ (∀ g, g < E → (wc1.setCell ⟨E, 2, none⟩ (.bool b)).heap[g]? = w5.heap[g]?) ∧ Below w.heap.size w (wc1.setCell ⟨E, 2, none⟩ (.bool b)))
                := by
                rintro b rfl
                exact ⟨(heap_setCell_same _ _ 2 _ _ _ HEc.out).trans rfl, (heap_setCell_other _ _ _ _ (show X ≠ E by omega)).trans HXc.out, fun g hg => (heap_setCell_other _ _ _ _ (show g ≠ E by omega)).trans (HKc.out g hg), HBc.out.setCell (p := ⟨E, 2, none⟩) hwE _⟩
              have KEY2 := hid key
              clear key hP2
              go_cut [] (fun wc => wc.heap[E]? = some (.cells #[.bool (A0 || ((f.seq : Int) == (pp.least : Int))), .bool (A1 || ((f.seq : Int) == (pp.greatest : Int))), .bool (A2 || ((f.valid : Int) == (pp.early : Int))), .bool A3] 42 (0, 0)) ∧ wc.heap[X]? = some (.cells #[.string f.key, .int .u32 (f.valid : Int), .int .u64 (f.seq : Int), .int .u64 (line : Int), .int .u8 (f.kind : Int), .string f.val] 41 (0, 0)) ∧ (∀ g, g < E → wc.heap[g]? = w5.heap[g]?) ∧ Below w.heap.size w wc)
              case first =>
                cases A2
                all_goals (go_wp2; go_meet; (case rel => exact KEY2.out _ rfl))
              case rest =>
                obtain ⟨hE2, hX2, hK2, hB2⟩ := hcut
                clear HEc HXc HKc HBc KEY2 v2 p2 e2' f2'
                have HEc := hid hE2
                have HXc := hid hX2
                have HKc := hid hK2
                have HBc := hid hB2
                clear hE2 hX2 hK2 hB2
                go_upto_region 19 with (fail)
                obtain ⟨wc2, hwc⟩ : ∃ x, x = wc := ⟨_, rfl⟩
                subst hwc
                have hP3 : wc2.heap[P]? = _ := (HKc.out P hPE).trans HRow5.out
                have v3 : wc2.cell? ⟨X, 1, none⟩ = some (.int .u32 (f.valid : Int)) := (cell_of_row _ X 1 _ _ _ HXc.out).trans rfl
                have p3 : wc2.cell? ⟨P, 7, none⟩ = some (.int .u32 (pp.late : Int)) := (cell_of_row _ P 7 _ _ _ hP3).trans rfl
                have e3' : wc2.cell? ⟨E, 3, none⟩ = some (.bool A3) := (cell_of_row _ E 3 _ _ _ HEc.out).trans rfl
                have f3' : wc2.frozen? ⟨E, 3, none⟩ = false := frozen_of_row _ _ _ _ _ HEc.out
                have key : ∀ b : Bool, b = (A3 || ((f.valid : Int) == (pp.late : Int))) → ((wc2.setCell ⟨E, 3, none⟩ (.bool b)).heap[E]? = some (.cells #[.bool (A0 || ((f.seq : Int) == (pp.least : Int))), .bool (A1 || ((f.seq : Int) == (pp.greatest : Int))), .bool (A2 || ((f.valid : Int) == (pp.early : Int))), .bool (A3 || ((f.valid : Int) == (pp.late : Int)))] 42 (0, 0)) ∧ (wc2.setCell ⟨E, 3, none⟩ (.bool b)).heap[X]? = some (.cells #[.string f.key, .int .u32 (f.valid : Int), .int .u64 (f.seq : Int), .int .u64 (line : Int), .int .u8 (f.kind : Int), .string f.val] 41 (0, 0)) ∧ (∀ g, g < E → (wc2.setCell ⟨E, 3, none⟩ (.bool b)).heap[g]? = w5.heap[g]?) ∧ Below w.heap.size w (wc2.setCell ⟨E, 3, none⟩ (.bool b)))
                  := by
                  rintro b rfl
                  exact ⟨(heap_setCell_same _ _ 3 _ _ _ HEc.out).trans rfl, (heap_setCell_other _ _ _ _ (show X ≠ E by omega)).trans HXc.out, fun g hg => (heap_setCell_other _ _ _ _ (show g ≠ E by omega)).trans (HKc.out g hg), HBc.out.setCell (p := ⟨E, 3, none⟩) hwE _⟩
                have KEY3 := hid key
                clear key hP3
                cases A3
                all_goals
                  go_wp2
                  obtain ⟨k1, _, k3, k4⟩ := KEY3.out _ rfl
                  go_roundw
                  case rel => exact ⟨k + 1, by omega, by go_num, by rw [← HNext.out]; exact k1, k3, k4⟩
                  case measure => simp [intOf]; omega
--ENDSEND
        · obtain rfl : k = n := by omega
          have htk : l.take k = l := List.take_of_length_le (by rw [Hn.out]; exact Nat.le_refl _)
          have hall : ends4 pp l = #[.bool true, .bool true, .bool true, .bool true] := by
            obtain ⟨⟨f1, h1, k1⟩, ⟨f2, h2, k2⟩, ⟨f3, h3, k3⟩, ⟨f4, h4, k4⟩⟩ := HPr.out.some
            unfold ends4
            rw [List.any_eq_true.2 ⟨f1, h1, by rw [k1]; exact beq_self_eq_true _⟩, List.any_eq_true.2 ⟨f2, h2, by rw [k2]; exact beq_self_eq_true _⟩, List.any_eq_true.2 ⟨f3, h3, by rw [k3]; exact beq_self_eq_true _⟩, List.any_eq_true.2 ⟨f4, h4, by rw [k4]; exact beq_self_eq_true _⟩]
          have hEr := HEr.out
          rw [htk, hall] at hEr
          have e0 : wr.cell? ⟨E, 0, none⟩ = some (.bool true) := (cell_of_row _ E 0 _ _ _ hEr).trans rfl
          have e1 : wr.cell? ⟨E, 1, none⟩ = some (.bool true) := (cell_of_row _ E 1 _ _ _ hEr).trans rfl
          have e2 : wr.cell? ⟨E, 2, none⟩ = some (.bool true) := (cell_of_row _ E 2 _ _ _ hEr).trans rfl
          have e3 : wr.cell? ⟨E, 3, none⟩ = some (.bool true) := (cell_of_row _ E 3 _ _ _ hEr).trans rfl
          have heq := eqlEnds
          clear htk hall hEr
          go_wp2_with fail
          refine (lives_any wr).mono ?_
          rintro e w7 ⟨rfl, hb7⟩
          have HB7 := hid (HBr.out.trans (hb7.mono hsr))
          clear hb7
          go_wp2
          go_ret
          exact ⟨rfl, HB7.out⟩
    · have e1 : (E1 != 0) = true := by simpa using hz1
      clear hz1
      go_upto_region 5 with (refine wpList_store_block rfl 29 _ _ rfl _ _ _ _ rfl rfl (heap_alloc_new _ _) H8.out infoP8.out H1.out ?_)
      rw [← HW4.out]
      go_wp2_with fail
      refine (lives_any w4).mono ?_
      rintro e w7 ⟨rfl, hb7⟩
      have HB7 := hid (HB4.out.trans (hb7.mono (by omega)))
      clear hb7
      go_wp2
      go_ret
      exact ⟨rfl, HB7.out⟩
end Go.Proofs.Herb
