/- The contract of tables.props. For facts that can be read. -/
import Derived.StillTailTactics
import Derived.Deep.RegionHeld3
import Derived.Deep.DeepCutAuto
import Derived.IntWalk
import Derived.Test.YtbeaehhdglhihaaGreatDoorQd01
namespace Go.Proofs.Herb
open Go.RowKit
structure Props where
  line : Nat
  many : Nat
  low : ByteArray
  high : ByteArray
  least : Nat
  greatest : Nat
  early : Nat
  late : Nat
def Props.cells (p : Props) : List Value := [.int .u64 (p.line : Int), .int .u64 (p.many : Int), .string p.low, .string p.high, .int .u64 (p.least : Int), .int .u64 (p.greatest : Int), .int .u32 (p.early : Int), .int .u32 (p.late : Int)]
/-- props of the first facts -/
def propsT (line n : Nat) (f0 fl : Fact) (l : List Fact) : Props :=
  ⟨line, n, f0.key, fl.key, l.foldl (fun a f => min a f.seq) f0.seq, l.foldl (fun a f => max a f.seq) 0, l.foldl (fun a f => min a f.valid) f0.valid, l.foldl (fun a f => max a f.valid) 0⟩
def propsF (line : Nat) (fs : List Fact) : Props := match fs with
  | [] => ⟨line, 0, ⟨#[]⟩, ⟨#[]⟩, 0, 0, 0, 0⟩
  | f0 :: r => propsT line (f0 :: r).length f0 ((f0 :: r).getLast (by simp)) (f0 :: r)
theorem infoProps : (Tryz.prog.info? 87).map (·.size) = some 8 := by kernel_rfl
theorem grownBy_at (W : World) (b o : Nat) (v : Value) : W.grownBy (W.setCell ⟨b, o, none⟩ v) (some b) :=
  ⟨rfl, rfl, rfl, by rw [World.size_setCell]; exact Nat.le_refl _, fun k _ hne => Below.heap_setCell _ _ _ k (fun e => hne (by rw [e]))⟩
set_option maxRecDepth 100000 in
set_option maxHeartbeats 2000000 in
theorem props_any (line : Nat) (q : Option Addr) (n c : Nat) (fs : List Fact) (w : World) (hn : fs.length = n) (h0 : 0 < n) (hm : n ≤ 6000) (hr : Rd w q (fCells fs)) (ho : ∀ f ∈ fs, f.Ok) :
    Calls Tryz.prog 131 #[.int .u64 (line : Int), .slice q n c] w fun e w' => e = .returned (.agg (propsF line fs).cells.toArray) ∧ Below w.heap.size w w' := by
  obtain ⟨f0, hf0⟩ : ∃ f, f = fs[0]'(by omega) := ⟨_, rfl⟩
  obtain ⟨fl, hfl⟩ : ∃ f, f = fs[n - 1]'(by omega) := ⟨_, rfl⟩
  have hp : propsF line fs = propsT line n f0 fl fs := by
    cases fs with
    | nil => simp at hn; omega
    | cons a r =>
      have e1 : f0 = a := hf0
      have e2 : (a :: r).getLast (by simp) = fl := by
        rw [hfl, List.getLast_eq_getElem]
        congr 1
        omega
      show propsT line (a :: r).length a ((a :: r).getLast (by simp)) (a :: r) = _
      rw [e2, e1, hn]
  rw [hp]
  obtain ⟨b, off, hq, hbl, a0⟩ := fact_at (j := 0) hr (by omega)
  subst hq
  obtain ⟨b', off', e, _, al⟩ := fact_at (j := n - 1) hr (by omega)
  cases e
  rw [← hf0, Nat.zero_mul, Nat.add_zero] at a0
  rw [← hfl] at al
  obtain ⟨L, hL⟩ : ∃ L, L = n - 1 := ⟨_, rfl⟩
  rw [← hL] at al
  have s1 : IntKind.i64.wrap ((n : Int) - 1) = (L : Int) := by rw [IntWalk.i64_in _ (by omega)]; omega
  have i0 : (0 : Int) ≤ (L : Int) := by omega
  have i1 : (L : Int) < (n : Int) := by omega
  have i2 : (0 : Int) < (n : Int) := by omega
  have i3 : (n : Int) % 18446744073709551616 = (n : Int) := by omega
  have Hn := hid hn
  have Hr := hid hr
  have Ho := hid ho
  have HS : Hid (∀ w', Below w.heap.size w w' → w'.cell? ⟨b, off, none⟩ = some (.string f0.key) ∧ w'.cell? ⟨b, off + 1, none⟩ = some (.int .u32 (f0.valid : Int)) ∧ w'.cell? ⟨b, off + 2, none⟩ = some (.int .u64 (f0.seq : Int)) ∧ w'.cell? ⟨b, off + L * 6, none⟩ = some (.string fl.key)) := hid fun w' hb =>
    have k : ∀ o v, w.cell? ⟨b, o, none⟩ = some v → w'.cell? ⟨b, o, none⟩ = some v := fun o v h => (hb.cell (p := ⟨b, o, none⟩) hbl).trans h
    ⟨k _ _ a0.c0, k _ _ a0.c1, k _ _ a0.c2, k _ _ al.c0⟩
  clear hn hr ho hp hf0 hfl hL al a0
  go_enter Tryz.func131, Tryz.ntmps131
  go_upto_region 1 with (fail)
  go_region_held3 (fun w' => w'.cell? ⟨b, off, none⟩ = some (.string f0.key) ∧ w'.cell? ⟨b, off + 1, none⟩ = some (.int .u32 (f0.valid : Int)) ∧ w'.cell? ⟨b, off + 2, none⟩ = some (.int .u64 (f0.seq : Int)) ∧ w'.cell? ⟨b, off + L * 6, none⟩ = some (.string fl.key)) (first | exact HS.out _ ((Below.refl _ _).alloc (Nat.le_refl _) _).drew | exact HS.out _ (((Below.refl _ _).alloc (Nat.le_refl _) _).drew.alloc (by simp) _)) (fail)
  all_goals (go_wp2_with fail)
  obtain ⟨P, hP⟩ : ∃ P, P = w.heap.size + 1 := ⟨_, rfl⟩
  generalize hw1 : ((w.alloc (.cells #[.int .u64 0, .int .u64 0, .string ⟨#[]⟩, .string ⟨#[]⟩, .int .u64 0, .int .u64 0, .int .u32 0, .int .u32 0] 87)).alloc (.cells #[.int .u64 (line : Int), .int .u64 (n : Int), .string f0.key, .string fl.key, .int .u64 (f0.seq : Int), .int .u64 0, .int .u32 (f0.valid : Int), .int .u32 0] 87)).drew = w1
  have hB1 : Below w.heap.size w w1 := by rw [← hw1]; exact (((Below.refl _ _).alloc (Nat.le_refl _) _).alloc (by simp) _).drew
  have hR1 : w1.heap[w.heap.size]? = some (.cells #[.int .u64 0, .int .u64 0, .string ⟨#[]⟩, .string ⟨#[]⟩, .int .u64 0, .int .u64 0, .int .u32 0, .int .u32 0] 87 (0, 0)) := by
    rw [← hw1]; exact (Below.heap_alloc _ _ _ (by simp)).trans (heap_alloc_new w _)
  have hP1 : w1.heap[P]? = some (.cells (propsT line n f0 fl []).cells.toArray 87 (0, 0)) := by
    rw [← hw1, hP]
    have := heap_alloc_new (w.alloc (.cells #[.int .u64 0, .int .u64 0, .string ⟨#[]⟩, .string ⟨#[]⟩, .int .u64 0, .int .u64 0, .int .u32 0, .int .u32 0] 87)) (.cells #[.int .u64 (line : Int), .int .u64 (n : Int), .string f0.key, .string fl.key, .int .u64 (f0.seq : Int), .int .u64 0, .int .u32 (f0.valid : Int), .int .u32 0] 87)
    rw [World.size_alloc] at this
    exact this
  rw [← hP]
  have HB1 := hid hB1
  have HR1 := hid hR1
  have HP1 := hid hP1
  have hwP : w.heap.size < P := by omega
  clear hB1 hR1 hP1 hw1 hP s1 i3
  go_loopw [34] (fun i wr => ∃ k : Nat, k ≤ n ∧ i = .int .i64 (k : Int) ∧ wr.heap[P]? = some (.cells (propsT line n f0 fl (fs.take k)).cells.toArray 87 (0, 0)) ∧
      wr.heap[w.heap.size]? = some (.cells #[.int .u64 0, .int .u64 0, .string ⟨#[]⟩, .string ⟨#[]⟩, .int .u64 0, .int .u64 0, .int .u32 0, .int .u32 0] 87 (0, 0)) ∧ Below w.heap.size w wr) (fun i _ => n - (intOf i).toNat)
  case atStart => exact ⟨0, Nat.zero_le _, rfl, HP1.out, HR1.out, HB1.out⟩
  case round =>
    obtain ⟨k, hk, rfl, hp, hz, hB⟩ := hrel
    have hbs := hB.size
    have hPl := lt_of_block hp
    have HZ := hid hz
    have HB := hid hB
    clear HP1 HR1 HB1 hB hz
    by_cases hlt : k < n
    · have hkl : k < fs.length := by rw [Hn.out]; exact hlt
      obtain ⟨b', off', e, _, hfa⟩ := fact_at (j := k) (Hr.out.below HB.out) hkl
      cases e
      obtain ⟨f, hf⟩ : ∃ f, f = fs[k] := ⟨_, rfl⟩
      rw [← hf] at hfa
      have hok := Ho.out _ (List.getElem_mem hkl)
      rw [← hf] at hok
      obtain ⟨p, hpp⟩ : ∃ p, p = propsT line n f0 fl (fs.take k) := ⟨_, rfl⟩
      have hnx : propsT line n f0 fl (fs.take (k + 1)) = { p with least := min p.least f.seq, greatest := max p.greatest f.seq, early := min p.early f.valid, late := max p.late f.valid } := by
        rw [List.take_succ_eq_append_getElem hkl, ← hf, hpp]
        unfold propsT
        simp only [List.foldl_append, List.foldl_cons, List.foldl_nil]
      rw [← hpp] at hp
      have HNX := hid hnx
      have HP := hid hp
      obtain ⟨key, valid, seq, fline, kind, val⟩ := f
      obtain ⟨x0, x1, x2, x3, x4, x5⟩ := hfa
      obtain ⟨pl, pm, plo, phi, ple, pgr, pea, pla⟩ := p
      dsimp only at x0 x1 x2 x3 x4 x5
      unfold Props.cells at hp
      dsimp only at hp
      have i4 : (0 : Int) ≤ (k : Int) := by omega
      have i5 : (k : Int) < (n : Int) := by omega
      clear hpp hnx hf hok i0 i1 hp
      go_upto_region 5 with (fail)
      obtain ⟨X, hX⟩ : ∃ X, X = wr.heap.size := ⟨_, rfl⟩
      have hba : (wr.alloc (.cells #[.string key, .int .u32 (valid : Int), .int .u64 (seq : Int), .int .u64 (fline : Int), .int .u8 (kind : Int), .string val] 65)).heap[wr.heap.size]? = some (.cells #[.string key, .int .u32 (valid : Int), .int .u64 (seq : Int), .int .u64 (fline : Int), .int .u8 (kind : Int), .string val] 65 (0, 0)) := heap_alloc_new _ _
      have hBa : Below wr.heap.size wr (wr.alloc (.cells #[.string key, .int .u32 (valid : Int), .int .u64 (seq : Int), .int .u64 (fline : Int), .int .u8 (kind : Int), .string val] 65)) := (Below.refl _ _).alloc (Nat.le_refl _) _
      generalize wr.alloc (.cells #[.string key, .int .u32 (valid : Int), .int .u64 (seq : Int), .int .u64 (fline : Int), .int .u8 (kind : Int), .string val] 65) = wa at hba hBa
      have hPa := (hBa.block P hPl).trans HP.out
      have hZa := (hBa.block _ (by omega)).trans HZ.out
      have hBw := HB.out.trans (hBa.mono hbs)
      rw [← hX] at hba ⊢
      unfold Props.cells at hPa
      dsimp only at hPa
      have hXP : X ≠ P := by omega
      have hwX : w.heap.size ≠ P := by omega
      have y4 : wa.cell? ⟨P, 4, none⟩ = some (.int .u64 (ple : Int)) := (cell_of_row wa _ _ _ _ _ hPa).trans rfl
      have y5 : wa.cell? ⟨P, 5, none⟩ = some (.int .u64 (pgr : Int)) := (cell_of_row wa _ _ _ _ _ hPa).trans rfl
      have x2 : wa.cell? ⟨X, 2, none⟩ = some (.int .u64 (seq : Int)) := (cell_of_row wa _ _ _ _ _ hba).trans rfl
      have z4 : wa.frozen? ⟨P, 4, none⟩ = false := frozen_of_row _ _ _ _ _ hPa
      have z5 : wa.frozen? ⟨P, 5, none⟩ = false := frozen_of_row _ _ _ _ _ hPa
      have key1 : ∀ a b : Int, a = ((min ple seq : Nat) : Int) → b = ((max pgr seq : Nat) : Int) → (((wa.setCell ⟨P, 4, none⟩ (.int .u64 a)).setCell ⟨P, 5, none⟩ (.int .u64 b)).drew.heap[P]? = some (.cells #[.int .u64 (pl : Int), .int .u64 (pm : Int), .string plo, .string phi, .int .u64 ((min ple seq : Nat) : Int), .int .u64 ((max pgr seq : Nat) : Int), .int .u32 (pea : Int), .int .u32 (pla : Int)] 87 (0, 0)) ∧
          ((wa.setCell ⟨P, 4, none⟩ (.int .u64 a)).setCell ⟨P, 5, none⟩ (.int .u64 b)).drew.heap[X]? = some (.cells #[.string key, .int .u32 (valid : Int), .int .u64 (seq : Int), .int .u64 (fline : Int), .int .u8 (kind : Int), .string val] 65 (0, 0)) ∧
          ((wa.setCell ⟨P, 4, none⟩ (.int .u64 a)).setCell ⟨P, 5, none⟩ (.int .u64 b)).drew.heap[w.heap.size]? = some (.cells #[.int .u64 0, .int .u64 0, .string ⟨#[]⟩, .string ⟨#[]⟩, .int .u64 0, .int .u64 0, .int .u32 0, .int .u32 0] 87 (0, 0)) ∧
          Below w.heap.size w ((wa.setCell ⟨P, 4, none⟩ (.int .u64 a)).setCell ⟨P, 5, none⟩ (.int .u64 b)).drew) := by
        rintro a b rfl rfl
        refine ⟨(heap_setCell_same _ _ 5 _ _ _ (heap_setCell_same _ _ 4 _ _ _ hPa)).trans rfl, ?_, ?_, ((hBw.setCell (p := ⟨P, 4, none⟩) (by show w.heap.size ≤ P; omega) _).setCell (p := ⟨P, 5, none⟩) (by show w.heap.size ≤ P; omega) _).drew⟩
        · exact ((grownBy_at _ P 5 _).block X (by rw [World.size_setCell]; exact lt_of_block hba) (fun e => hXP (by cases e; rfl))).trans (((grownBy_at _ P 4 _).block X (lt_of_block hba) (fun e => hXP (by cases e; rfl))).trans hba)
        · exact ((grownBy_at _ P 5 _).block _ (by rw [World.size_setCell]; exact lt_of_block hZa) (fun e => hwX (by cases e; rfl))).trans (((grownBy_at _ P 4 _).block _ (lt_of_block hZa) (fun e => hwX (by cases e; rfl))).trans hZa)
      have KEY1 := hid key1
      clear hba hBa hPa hZa hBw key1 x0 x1 x3 x4 x5 hX
      go_cut [] (fun wc => wc.heap[P]? = some (.cells #[.int .u64 (pl : Int), .int .u64 (pm : Int), .string plo, .string phi, .int .u64 ((min ple seq : Nat) : Int), .int .u64 ((max pgr seq : Nat) : Int), .int .u32 (pea : Int), .int .u32 (pla : Int)] 87 (0, 0)) ∧
          wc.heap[X]? = some (.cells #[.string key, .int .u32 (valid : Int), .int .u64 (seq : Int), .int .u64 (fline : Int), .int .u8 (kind : Int), .string val] 65 (0, 0)) ∧
          wc.heap[w.heap.size]? = some (.cells #[.int .u64 0, .int .u64 0, .string ⟨#[]⟩, .string ⟨#[]⟩, .int .u64 0, .int .u64 0, .int .u32 0, .int .u32 0] 87 (0, 0)) ∧ Below w.heap.size w wc)
      case first =>
        go_region
        go_wp2_with fail
        all_goals (go_meet; case rel => exact KEY1.out _ _ (by omega) (by omega))
      case rest =>
        obtain ⟨hPc, hXc, hZc, hBc⟩ := hcut
        have y6 : wc.cell? ⟨P, 6, none⟩ = some (.int .u32 (pea : Int)) := (cell_of_row wc _ _ _ _ _ hPc).trans rfl
        have y7 : wc.cell? ⟨P, 7, none⟩ = some (.int .u32 (pla : Int)) := (cell_of_row wc _ _ _ _ _ hPc).trans rfl
        have x1 : wc.cell? ⟨X, 1, none⟩ = some (.int .u32 (valid : Int)) := (cell_of_row wc _ _ _ _ _ hXc).trans rfl
        have z6 : wc.frozen? ⟨P, 6, none⟩ = false := frozen_of_row _ _ _ _ _ hPc
        have z7 : wc.frozen? ⟨P, 7, none⟩ = false := frozen_of_row _ _ _ _ _ hPc
        have key2 : ∀ a b : Int, a = ((min pea valid : Nat) : Int) → b = ((max pla valid : Nat) : Int) → (((wc.setCell ⟨P, 6, none⟩ (.int .u32 a)).setCell ⟨P, 7, none⟩ (.int .u32 b)).drew.heap[P]? = some (.cells (propsT line n f0 fl (fs.take (k + 1))).cells.toArray 87 (0, 0)) ∧
            ((wc.setCell ⟨P, 6, none⟩ (.int .u32 a)).setCell ⟨P, 7, none⟩ (.int .u32 b)).drew.heap[w.heap.size]? = some (.cells #[.int .u64 0, .int .u64 0, .string ⟨#[]⟩, .string ⟨#[]⟩, .int .u64 0, .int .u64 0, .int .u32 0, .int .u32 0] 87 (0, 0)) ∧
            Below w.heap.size w ((wc.setCell ⟨P, 6, none⟩ (.int .u32 a)).setCell ⟨P, 7, none⟩ (.int .u32 b)).drew) := by
          rintro a b rfl rfl
          rw [HNX.out]
          refine ⟨(heap_setCell_same _ _ 7 _ _ _ (heap_setCell_same _ _ 6 _ _ _ hPc)).trans rfl, ?_, ((hBc.setCell (p := ⟨P, 6, none⟩) (by show w.heap.size ≤ P; omega) _).setCell (p := ⟨P, 7, none⟩) (by show w.heap.size ≤ P; omega) _).drew⟩
          exact ((grownBy_at _ P 7 _).block _ (by rw [World.size_setCell]; exact lt_of_block hZc) (fun e => hwX (by cases e; rfl))).trans (((grownBy_at _ P 6 _).block _ (lt_of_block hZc) (fun e => hwX (by cases e; rfl))).trans hZc)
        have KEY2 := hid key2
        clear hPc hXc hZc hBc key2
        go_upto_region 6 with (fail)
        go_region
        go_wp2_with fail
        all_goals (go_roundw; (case rel => refine ⟨k + 1, by omega, by go_num, ?_⟩; exact KEY2.out _ _ (by omega) (by omega)); (case measure => simp [intOf]; omega))
    · obtain rfl : k = n := by omega
      have htk : fs.take k = fs := List.take_of_length_le (by rw [Hn.out]; exact Nat.le_refl _)
      rw [htk] at hp
      obtain ⟨cs, hcs⟩ : ∃ cs, cs = (propsT line k f0 fl fs).cells.toArray := ⟨_, rfl⟩
      rw [← hcs] at hp
      have HCS := hid hcs
      have hcl : cs.size = 8 := by rw [hcs]; rfl
      have hc1 : ∀ v ∈ cs.toList, v.oneCell' = true := by rw [hcs]; intro v hv; simp only [Props.cells, List.mem_cons, List.not_mem_nil, or_false] at hv; rcases hv with rfl | rfl | rfl | rfl | rfl | rfl | rfl | rfl <;> rfl
      have HP := hid hp
      have Hcl := hid hcl
      have Hc1 := hid hc1
      clear hp hcs hcl hc1 htk
      have HR5 := hid (setRow_heap wr _ _ cs _ _ HZ.out)
      go_wp2_with (first | (refine wpList_load_row rfl 87 _ rfl _ rfl _ _ _ _ HP.out Tryz.underlying87 rfl (by rw [Hcl.out]; exact infoProps) ?_) | (refine wpList_store_block rfl 87 _ _ rfl _ _ _ _ rfl rfl HZ.out Hcl.out.symm (by rw [Hcl.out]; exact infoProps) Hc1.out ?_))
      refine bodyPost_ret (results_cell_row rfl _ _ _ _ _ _ _ rfl HR5.out Tryz.underlying87 rfl (by rw [Hcl.out]; exact infoProps)) rfl ?_
      exact ⟨by rw [HCS.out], below_setRow HB.out (Nat.le_refl _) _⟩
end Go.Proofs.Herb
