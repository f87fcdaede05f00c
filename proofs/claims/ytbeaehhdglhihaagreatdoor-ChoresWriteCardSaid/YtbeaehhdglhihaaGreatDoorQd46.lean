/- The contracts of the reference's Name, Cmp and Write (chapter 24). For facts that can be read, on the reference's disk beside a disk, in worlds where the library's table of powers of ten reads as it was laid. -/
import Derived.Test.YtbeaehhdglhihaaGreatDoorQd26
import Derived.Test.YtbeaehhdglhihaaGreatDoorQd45
namespace Go.Proofs.Herb
open Go.RowKit Go.Sort
theorem refName_any (u : Nat) (hu : u < 18446744073709551616) (w : World) (ht : Pow10 w) :
    Calls Tryz.prog 42 #[.int .u64 (u : Int)] w fun e w' => e = .returned (.string (nmU u)) ∧ Below w.heap.size w w' := by
  have H := hid (fmtP_any u hu w ht)
  have hl := dec_len u hu
  obtain ⟨S, hS⟩ : ∃ S : ByteArray, S = ⟨(Lib.decDigits u).toArray⟩ := ⟨_, rfl⟩
  have hSz : S.size ≤ 20 := by rw [hS]; show (Lib.decDigits u).toArray.size ≤ 20; simp; omega
  have hN : (⟨#[116, 45]⟩ ++ S : ByteArray) = nmU u := by
    rw [hS]
    unfold nmU
    apply ByteArray.ext
    rw [ByteArray.data_append]
    simp
  have HN := hid hN
  have HS := hid hS
  clear ht hN hS
  go_enter Tryz.func42, Tryz.ntmps42
  go_wp2_with (go_at_call 86; refine H.out.mono ?_; rintro e w1 ⟨rfl, hb⟩; rw [← HS.out])
  go_ret
  exact ⟨by rw [← HN.out]; rfl, hb⟩
/-- what the reference's Cmp answers -/
def cmR (f g : Fact) : Int := if befF f g then -1 else if befF g f then 1 else 0
theorem cmR_neg (f g : Fact) : 0 ≤ cmR f g ↔ ¬ cmpF f g < 0 := by
  unfold cmR
  rw [← befF_cmp]
  cases befF f g
  · cases befF g f <;> simp
  · simp
set_option maxHeartbeats 1000000 in
theorem refCmp_any (f g : Fact) (w : World) :
    Calls Tryz.prog 39 #[.agg f.cells.toArray, .agg g.cells.toArray] w fun e w' => e = .returned (.int .i64 (cmR f g)) ∧ Below w.heap.size w w' := by
  obtain ⟨Y, hY⟩ : ∃ Y, Hid (Y = cmR f g) := ⟨_, hid rfl⟩
  rw [← hY.out]
  obtain ⟨wa, hwa⟩ : ∃ x, x = w.alloc (.cells f.cells.toArray 65) := ⟨_, rfl⟩
  obtain ⟨wb, hwb⟩ : ∃ x, x = wa.alloc (.cells g.cells.toArray 65) := ⟨_, rfl⟩
  have hab : Below w.heap.size w wa := by rw [hwa]; exact (Below.refl _ _).alloc (Nat.le_refl _) _
  have hbb : Below w.heap.size w wb := by rw [hwb]; exact hab.alloc hab.size _
  have ha : Rd wb (some ⟨w.heap.size, 0, none⟩) f.cells := by
    have h1 := Rd.new w f.cells 65
    rw [← hwa] at h1
    exact h1.below (by rw [hwb]; exact (Below.refl _ _).alloc (Nat.le_refl _) _)
  have hb : Rd wb (some ⟨wa.heap.size, 0, none⟩) g.cells := by rw [hwb]; exact Rd.new wa g.cells 65
  have hA : FactAt wb w.heap.size 0 f := by
    have h1 : Rd wb (some ⟨w.heap.size, 0, none⟩) (fCells [f]) := by
      have e : fCells [f] = f.cells := by unfold fCells; simp
      rw [e]; exact ha
    obtain ⟨b, off, e, _, h⟩ := fact_at (j := 0) h1 (by simp)
    cases e
    exact h
  have hB : FactAt wb wa.heap.size 0 g := by
    have h1 : Rd wb (some ⟨wa.heap.size, 0, none⟩) (fCells [g]) := by
      have e : fCells [g] = g.cells := by unfold fCells; simp
      rw [e]; exact hb
    obtain ⟨b, off, e, _, h⟩ := fact_at (j := 0) h1 (by simp)
    cases e
    exact h
  have hsz : w.heap.size < wb.heap.size ∧ wa.heap.size < wb.heap.size := by
    have h1 : wb.heap.size = wa.heap.size + 1 := by rw [hwb]; exact Array.size_push _
    have h2 : wa.heap.size = w.heap.size + 1 := by rw [hwa]; exact Array.size_push _
    omega
  have hwz : wa.heap.size = w.heap.size + 1 := by rw [hwa]; exact Array.size_push _
  rw [hwz] at hB hsz
  have HWab := hid (And.intro hwa hwb)
  have HBb := hid hbb
  have HA := hid hA
  have HB := hid hB
  obtain ⟨hsz1, hsz2⟩ := hsz
  obtain ⟨a0, a1, a2, a3, a4, a5⟩ := hA
  obtain ⟨b0, b1, b2, b3, b4, b5⟩ := hB
  obtain ⟨B1, hB1⟩ : ∃ b, Hid (b = befF f g) := ⟨_, hid rfl⟩
  obtain ⟨B2, hB2⟩ : ∃ b, Hid (b = befF g f) := ⟨_, hid rfl⟩
  have HK1 := hid (ref_before f g wb)
  have HK2 := hid (fun W => ref_before g f W)
  unfold Fact.cells at HK1 HK2
  rw [← hB1.out] at HK1
  rw [← hB2.out] at HK2
  clear hwa hwb hab hbb ha hb hwz
  go_enter Tryz.func39, Tryz.ntmps39
  go_upto_region 1 with fail
  rw [← HWab.out.1, ← HWab.out.2]
  go_wp2_with fail
  refine HK1.out.mono ?_
  rintro e w1 ⟨rfl, hb1⟩
  have HB1 := hid (HBb.out.trans (hb1.mono HBb.out.size))
  have mv : ∀ (b o : Nat) v, b < wb.heap.size → wb.cell? ⟨b, o, none⟩ = some v → w1.cell? ⟨b, o, none⟩ = some v := fun b o v hb hv => (hb1.cell (p := ⟨b, o, none⟩) hb).trans hv
  replace a0 := mv _ _ _ hsz1 a0
  replace a1 := mv _ _ _ hsz1 a1
  replace a2 := mv _ _ _ hsz1 a2
  replace a3 := mv _ _ _ hsz1 a3
  replace a4 := mv _ _ _ hsz1 a4
  replace a5 := mv _ _ _ hsz1 a5
  replace b0 := mv _ _ _ hsz2 b0
  replace b1 := mv _ _ _ hsz2 b1
  replace b2 := mv _ _ _ hsz2 b2
  replace b3 := mv _ _ _ hsz2 b3
  replace b4 := mv _ _ _ hsz2 b4
  replace b5 := mv _ _ _ hsz2 b5
  clear hb1 mv
  cases B1
  · go_wp2_with fail
    refine (HK2.out w1).mono ?_
    rintro e w2 ⟨rfl, hb2⟩
    have HB2 := hid (HB1.out.trans (hb2.mono HB1.out.size))
    clear hb2
    have hYv : Y = if B2 then 1 else 0 := by
      rw [hY.out]
      unfold cmR
      rw [← hB1.out, ← hB2.out]
      rfl
    have HYv := hid hYv
    clear hYv
    cases B2
    · go_wp2
      go_ret
      exact ⟨by rw [HYv.out]; rfl, HB2.out⟩
    · go_wp2
      go_ret
      exact ⟨by rw [HYv.out]; rfl, HB2.out⟩
  · have hYv : Y = -1 := by
      rw [hY.out]
      unfold cmR
      rw [← hB1.out]
      rfl
    have HYv := hid hYv
    clear hYv
    go_wp2
    go_ret
    exact ⟨by rw [HYv.out]; rfl, HB1.out⟩
theorem keep_kind24 {w w' : World} {b2 : Nat} {e e2 : TypeId} {k2 : Nat} {v2 : Value} {n2 : Nat} {ys : List Value} (h2 : w.ownsRow b2 e2 k2 v2 n2 ys) (he : e ≠ e2) (hg : w.grownBy w' v2.ownBlock) (g : Nat) (cs : Array Value) (h : w.heap[g]? = some (.cells cs e (0, 0))) : w'.heap[g]? = w.heap[g]? := by
  refine hg.block g (lt_of_block h) fun hh => ?_
  obtain ⟨_, h3⟩ := h2
  rcases h3 with ⟨hv, _⟩ | ⟨g', cap, cur, hv, _, hh', _⟩
  · rw [hv] at hh; cases hh
  · rw [hv] at hh
    cases hh
    rw [h] at hh'
    cases hh'
    exact he rfl
theorem infoSlU : (Tryz.prog.info? 75).map (fun i => (i.zero, i.size, i.bytes)) = some (some (.slice none 0 0), 1, 24) := by kernel_rfl
/-- where the files' bytes of parts lie -/
def RowsC (W : World) (base : Nat) (vs : List Value) (ps : List (List Fact)) : Prop :=
  vs.length = ps.length ∧ ∀ (i : Nat) v p, vs[i]? = some v → ps[i]? = some p → ∃ a c, v = .slice a (tabB (lineF p) p).length c ∧ Fr W base 5 1 v (tabB (lineF p) p).length ((tabB (lineF p) p).map bv)
theorem RowsC.stay {A W : World} {base : Nat} {vs : List Value} {ps : List (List Fact)} (h : RowsC A base vs ps) (hk : ∀ g cs, base ≤ g → A.heap[g]? = some (.cells cs 5 (0, 0)) → W.heap[g]? = A.heap[g]?) : RowsC W base vs ps := by
  refine ⟨h.1, fun i v p h1 h2 => ?_⟩
  obtain ⟨a, c, e, f2⟩ := h.2 i v p h1 h2
  refine ⟨a, c, e, ?_⟩
  obtain ⟨f1, f2⟩ := f2
  refine ⟨f1, ?_⟩
  rcases f2 with f2 | ⟨g, cap, cur, hv, hg, hh, r⟩
  · exact .inl f2
  · exact .inr ⟨g, cap, cur, hv, hg, (hk g cur hg hh).trans hh, r⟩
theorem RowsC.below {A W : World} {base : Nat} {vs : List Value} {ps : List (List Fact)} (h : RowsC A base vs ps) (hb : Below A.heap.size A W) : RowsC W base vs ps := h.stay fun g _ _ hh => hb.block g (lt_of_block hh)
theorem RowsC.snoc {W : World} {base : Nat} {vs : List Value} {ps : List (List Fact)} (h : RowsC W base vs ps) {a : Option Addr} {c : Nat} {p : List Fact} (hf : Fr W base 5 1 (.slice a (tabB (lineF p) p).length c) (tabB (lineF p) p).length ((tabB (lineF p) p).map bv)) : RowsC W base (vs ++ [.slice a (tabB (lineF p) p).length c]) (ps ++ [p]) := by
  refine ⟨by rw [List.length_append, List.length_append, h.1]; rfl, fun i v p' h1 h2 => ?_⟩
  by_cases hi : i < ps.length
  · rw [List.getElem?_append_left (by rw [h.1]; exact hi)] at h1
    rw [List.getElem?_append_left hi] at h2
    exact h.2 i v p' h1 h2
  · rw [List.getElem?_append_right (by rw [h.1]; omega), h.1] at h1
    rw [List.getElem?_append_right (by omega)] at h2
    have hz : i - ps.length = 0 := by have := (List.getElem?_eq_some_iff.1 h2).1; simp at this; omega
    rw [hz] at h1 h2
    simp at h1 h2
    subst h1 h2
    exact ⟨a, c, rfl, hf⟩
theorem Pow10.kept {w w' : World} (h : Pow10 w) (hk : w'.heap[0]? = w.heap[0]?) : Pow10 w' := by
  unfold Pow10 Lib.TabIs World.var? at *
  rw [gPow10] at *
  simp only [Option.bind_some] at *
  rw [hk]
  exact h
theorem step_store_block {P : Program} {ops : Array Oper} {op : Oper} {a : Act} {w : World} {K : Act → World → Prop} {Q : Exit → Act → World → Prop} {E : Prop} (hgd : op.guard = none) (ty : TypeId) (x y : Operand) (ho : op.op = .store ty x y)
    (g : Nat) (t : TypeId) (cur cells : Array Value) (hx : a.eval x = .pointer (some ⟨g, 0, none⟩)) (hy : a.eval y = .agg cells)
    (hg : w.heap[g]? = some (.cells cur t (0, 0))) (hs : cur.size = cells.size)
    (hi : (P.info? ty).map (·.size) = some cells.size) (h1 : ∀ v ∈ cells.toList, v.oneCell' = true)
    (h : K (a.put op.dst undef) (w.setRow g cells)) : if Region.wanted op (yielded ops a.tmps) = true then Oper.wp P op a w K Q else E := by
  rw [if_pos (by simp [Region.wanted, hgd])]
  exact wp_store_block ty x y ho g t cur cells hx hy hg hs hi h1 h
/-- what the reference's Build answers -/
def BldD (line : Nat) (fs : List Fact) (w : World) (e : Ending) (w' : World) : Prop :=
  ∃ (q : Option Addr) (c : Nat) (T : List UInt8) (p : Props), e = .returned (.tuple #[.slice q T.length c, .agg p.cells.toArray, .int .i64 (buildE line fs)]) ∧ Fr w' w.heap.size 5 1 (.slice q T.length c) T.length (T.map bv) ∧ Below w.heap.size w w' ∧ (buildE line fs = 0 → T = tabB line fs ∧ p = propsF line fs)
theorem ref_build_d (line : Nat) (q : Option Addr) (n c : Nat) (fs : List Fact) (w : World) (hn : fs.length = n) (hm : n ≤ 6000) (hr : Rd w q (fCells fs)) (ho : ∀ f ∈ fs, f.Ok) :
    Calls Tryz.prog 41 #[.int .u64 (line : Int), .slice q n c] w (BldD line fs w) := by
  refine (ref_build line q n c fs w hn hm hr ho).mono fun e w' ⟨hb, hc⟩ => ?_
  have nilf : Fr w' w.heap.size 5 1 (.slice none 0 0) 0 (([] : List UInt8).map bv) := Fr.of_own (World.ownsRow_nil w' w.heap.size 5 1)
  rcases hc with ⟨h1, h2⟩ | ⟨h1, h2, h3, h4⟩ | ⟨h1, h2, h3, q', c', h4, h5⟩
  · have hE : buildE line fs = 1 := by unfold buildE; rw [if_neg h1]
    exact ⟨none, 0, [], ⟨0, 0, ⟨#[]⟩, ⟨#[]⟩, 0, 0, 0, 0⟩, by rw [hE]; exact h2, nilf, hb, fun h => by rw [hE] at h; cases h⟩
  · have hE : buildE line fs = 3 := by unfold buildE; rw [if_pos ⟨h1, h2⟩, if_neg (by omega)]
    exact ⟨none, 0, [], ⟨0, 0, ⟨#[]⟩, ⟨#[]⟩, 0, 0, 0, 0⟩, by rw [hE]; exact h4, nilf, hb, fun h => by rw [hE] at h; cases h⟩
  · have hE : buildE line fs = 0 := by unfold buildE; rw [if_pos ⟨h1, h2⟩, if_pos h3]
    exact ⟨q', c', tabB line fs, propsF line fs, by rw [hE]; exact h4, h5, hb, fun _ => ⟨rfl, rfl⟩⟩
theorem infoProps24 : (Tryz.prog.info? 87).map (·.size) = some 8 := by kernel_rfl
/-- what the reference's Write leaves -/
def RWriteC (I : Nat → Prop) (w0 : World) (md : DM) (s : DS) (mr : RM) (t : DS) (n next : Nat) (l : List Fact) (w : World) (e : Ending) (w' : World) : Prop :=
  ∃ mr' : RM, mr'.D = mr.D ∧ Two I w0 w' md s mr' (cwS t next l) (n + 2 * (partsL l).length) ∧ ((cwE t next l ≠ 0 ∧ e = .returned (.tuple #[.slice none 0 0, .int .u64 0, .int .i64 (cwE t next l)])) ∨
    (cwE t next l = 0 ∧ ∃ a c, e = .returned (.tuple #[.slice a (partsL l).length c, .int .u64 ((next + (partsL l).length : Nat) : Int), .int .i64 0]) ∧ Fr w' w.heap.size 54 4 (.slice a (partsL l).length c) (partsL l).length (tbCells (tabsF next (partsL l)))))
set_option maxRecDepth 100000 in
set_option maxHeartbeats 6400000 in
theorem refWrite_any {I : Nat → Prop} {w0 w : World} {md : DM} {s : DS} {mr : RM} {t : DS} {n : Nat} (T : Two I w0 w md s mr t n) (hn : n ≤ 800000) (next : Nat) (hnx : next + 6001 < 18446744073709551616) (q : Option Addr) (nl c : Nat) (l : List Fact) (hl : l.length = nl) (hm : nl ≤ 6000) (hr : Rd w q (fCells l)) (ho : ∀ f ∈ l, f.Ok) (hz : ∀ f ∈ l, f.key.size ≤ 140737488355328 ∧ f.val.size ≤ 140737488355328) (hp : Pow10 w0) (hgI : ¬ I 0) :
    Calls Tryz.prog 12 #[.pointer (some ⟨mr.D, 0, none⟩), .int .u64 (next : Int), .slice q nl c] w (RWriteC I w0 md s mr t n next l w) := by
  have HT := hid T
  have HL := hid hl
  have HR := hid hr
  have Ho := hid ho
  have Hz := hid hz
  have HP := hid hp
  have HgI := hid hgI
  obtain ⟨RB, hRB⟩ : ∃ b : Bool, Hid (b = riseB l) := ⟨_, hid rfl⟩
  clear T hl hr ho hz hp hgI
  unfold RWriteC
  go_enter Tryz.func12, Tryz.ntmps12
  go_wp2_with fail
  go_loopw [9] (fun i wr => ∃ j : Nat, i = .int .i64 (j : Int) ∧ 1 ≤ j ∧ (j = 1 ∨ j ≤ nl) ∧ (∀ i (h : i + 1 < l.length), i + 1 < j → l[i + 1].line = (l[0]'(by omega)).line ∧ cmpF (l[i]'(by omega)) l[i + 1] < 0) ∧ Below w.heap.size w wr) (fun i _ => nl - (intOf i).toNat)
  case atStart => exact ⟨1, rfl, Nat.le_refl _, .inl rfl, fun i _ h => by omega, Below.refl _ _⟩
  case round =>
    obtain ⟨j, rfl, hj1, hj2, hri, hb⟩ := hrel
    have HB := hid hb
    have HRi := hid hri
    clear hb hri
    by_cases hlt : j < nl
    · have hjl : j < l.length := by rw [HL.out]; exact hlt
      obtain ⟨i, rfl⟩ : ∃ i, j = i + 1 := ⟨j - 1, by omega⟩
      obtain ⟨b, off, rfl, hbl, hfy⟩ := fact_at (HR.out.below HB.out) hjl
      obtain ⟨_, _, e2, _, hfx⟩ := fact_at (HR.out.below HB.out) (j := i) (by omega)
      cases e2
      obtain ⟨_, _, e2, _, hfz⟩ := fact_at (HR.out.below HB.out) (j := 0) (by omega)
      cases e2
      obtain ⟨x, hx⟩ : ∃ x, x = l[i]'(by omega) := ⟨_, rfl⟩
      obtain ⟨y, hy⟩ : ∃ y, y = l[i + 1] := ⟨_, rfl⟩
      obtain ⟨z, hz⟩ : ∃ z, z = l[0]'(by omega) := ⟨_, rfl⟩
      rw [← hx] at hfx
      rw [← hy] at hfy
      rw [← hz] at hfz
      have HX := hid hx
      have HY := hid hy
      have HZ := hid hz
      obtain ⟨C, hC⟩ : ∃ C : Int, Hid (C = cmR x y) := ⟨_, hid rfl⟩
      have i0 : (0 : Int) ≤ (i : Int) := by omega
      have i1 : (i : Int) + 1 < (nl : Int) := by omega
      have i2 : (i : Int) < (nl : Int) := by omega
      have i4 : (0 : Int) ≤ (i : Int) + 1 := by omega
      have i5 : (0 : Int) < (nl : Int) := by omega
      have wi : IntKind.i64.wrap ((i : Int) + 1 - 1) = (i : Int) := by rw [IntKind.wrap_i64]; omega
      have wi2 : IntKind.i64.wrap (((i + 1 : Nat) : Int) - 1) = (i : Int) := by rw [IntKind.wrap_i64]; omega
      clear hx hy hz
      go_upto_region 4 with fail
      obtain ⟨TD, D, hD1, hD2⟩ := class_d wr
      have HCm := hid (fun d => calls_d hD1 hD2 (f := 39) (vs := #[.agg #[.string x.key, .int .u32 (x.valid : Int), .int .u64 (x.seq : Int), .int .u64 (x.line : Int), .int .u8 (x.kind : Int), .string x.val], .agg #[.string y.key, .int .u32 (y.valid : Int), .int .u64 (y.seq : Int), .int .u64 (y.line : Int), .int .u8 (y.kind : Int), .string y.val]]) (v := .int .i64 C) (fun w' _ => by rw [hC.out]; exact refCmp_any x y w') d)
      have xx : ∀ (z : TD) (p : Addr) v, wr.cell? p = some v → (D z).cell? p = some v := fun z p v hv => ((hD1 z).cell (World.block_lt_of_cell? wr _ hv)).trans hv
      have x0 : ∀ d, (D d).cell? ⟨b, off + i * 6, none⟩ = some (.string x.key) := fun d => xx d _ _ hfx.c0
      have x1 : ∀ d, (D d).cell? ⟨b, off + i * 6 + 1, none⟩ = some (.int .u32 (x.valid : Int)) := fun d => xx d _ _ hfx.c1
      have x2 : ∀ d, (D d).cell? ⟨b, off + i * 6 + 2, none⟩ = some (.int .u64 (x.seq : Int)) := fun d => xx d _ _ hfx.c2
      have x3 : ∀ d, (D d).cell? ⟨b, off + i * 6 + 3, none⟩ = some (.int .u64 (x.line : Int)) := fun d => xx d _ _ hfx.c3
      have x4 : ∀ d, (D d).cell? ⟨b, off + i * 6 + 4, none⟩ = some (.int .u8 (x.kind : Int)) := fun d => xx d _ _ hfx.c4
      have x5 : ∀ d, (D d).cell? ⟨b, off + i * 6 + 5, none⟩ = some (.string x.val) := fun d => xx d _ _ hfx.c5
      have y0 : ∀ d, (D d).cell? ⟨b, off + (i + 1) * 6, none⟩ = some (.string y.key) := fun d => xx d _ _ hfy.c0
      have y1 : ∀ d, (D d).cell? ⟨b, off + (i + 1) * 6 + 1, none⟩ = some (.int .u32 (y.valid : Int)) := fun d => xx d _ _ hfy.c1
      have y2 : ∀ d, (D d).cell? ⟨b, off + (i + 1) * 6 + 2, none⟩ = some (.int .u64 (y.seq : Int)) := fun d => xx d _ _ hfy.c2
      have y3 : ∀ d, (D d).cell? ⟨b, off + (i + 1) * 6 + 3, none⟩ = some (.int .u64 (y.line : Int)) := fun d => xx d _ _ hfy.c3
      have y4 : ∀ d, (D d).cell? ⟨b, off + (i + 1) * 6 + 4, none⟩ = some (.int .u8 (y.kind : Int)) := fun d => xx d _ _ hfy.c4
      have y5 : ∀ d, (D d).cell? ⟨b, off + (i + 1) * 6 + 5, none⟩ = some (.string y.val) := fun d => xx d _ _ hfy.c5
      have z3 : ∀ d, (D d).cell? ⟨b, off + 3, none⟩ = some (.int .u64 (z.line : Int)) := fun d => xx d _ _ (by have := hfz.c3; rwa [Nat.zero_mul, Nat.add_zero] at this)
      obtain ⟨d0, hd0⟩ := hD2 { wr with drawn := wr.drawn + 1 } (Below.refl _ _).drew
      haveI : Nonempty TD := ⟨d0⟩
      have HD1 := hid hD1
      clear hD1 hD2 xx hfx hfy hfz
      by_cases hl : y.line = z.line
      · have b1 : ((y.line : Int) != (z.line : Int)) = false := by simp [hl]
        have HLe := hid hl
        clear hl
        by_cases hC0 : 0 ≤ C
        · have b2 : decide (0 ≤ C) = true := by simp [hC0]
          have HC0 := hid hC0
          clear hC0
          refine region_quiet_d (D := D) (by kernel_rfl) (by kernel_rfl) d0 hd0 ?_
          repeat (go_big_quiet_step ((go_at_call 39; with_reducible exact HCm.out _)))
          refine wpQuiet_nil ?_
          intro d
          have HB2 := hid (HB.out.trans ((HD1.out d).mono HB.out.size))
          have hRf : riseB l = false := riseB_no (fun h => by
            have := (h i hjl).2
            rw [← HX.out, ← HY.out] at this
            have h2 := HC0.out
            rw [hC.out, cmR_neg] at h2
            exact h2 this)
          have HRf := hid hRf
          clear hRf x0 x1 x2 x3 x4 x5 y0 y1 y2 y3 y4 y5 z3 hd0
          go_wp2
          go_ret3
          refine ⟨mr, rfl, ?_, .inl ?_⟩
          · unfold cwS
            rw [if_pos HRf.out]
            exact (HT.out.below' HB2.out).mono (by omega)
          · unfold cwE
            rw [if_pos HRf.out]
            exact ⟨by decide, rfl⟩
        · have b2 : decide (0 ≤ C) = false := by simp [hC0]
          have HC0 := hid hC0
          clear hC0
          refine region_quiet_d (D := D) (by kernel_rfl) (by kernel_rfl) d0 hd0 ?_
          repeat (go_big_quiet_step ((go_at_call 39; with_reducible exact HCm.out _)))
          refine wpQuiet_nil ?_
          intro d
          have HB2 := hid (HB.out.trans ((HD1.out d).mono HB.out.size))
          clear x0 x1 x2 x3 x4 x5 y0 y1 y2 y3 y4 y5 z3 hd0
          go_wp2
          go_roundw
          case rel =>
            refine ⟨i + 1 + 1, by go_num, by omega, .inr (by omega), fun k hk hki => ?_, HB2.out⟩
            by_cases e : k + 1 < i + 1
            · exact HRi.out k hk e
            · obtain rfl : k = i := by omega
              rw [← HX.out, ← HY.out, ← HZ.out]
              refine ⟨HLe.out, ?_⟩
              have h2 := HC0.out
              rw [hC.out, cmR_neg] at h2
              exact Classical.not_not.1 h2
          case measure => simp [intOf]; omega
      · have b1 : ((y.line : Int) != (z.line : Int)) = true := by simp; omega
        have HLe := hid hl
        clear hl
        refine region_quiet_d (D := D) (by kernel_rfl) (by kernel_rfl) d0 hd0 ?_
        repeat (go_big_quiet_step ((go_at_call 39; with_reducible exact HCm.out _)))
        refine wpQuiet_nil ?_
        intro d
        have HB2 := hid (HB.out.trans ((HD1.out d).mono HB.out.size))
        have hRf : riseB l = false := riseB_no (fun h => by
          have := h.line (i + 1) hjl
          rw [← HY.out, ← HZ.out] at this
          exact HLe.out this)
        have HRf := hid hRf
        clear hRf x0 x1 x2 x3 x4 x5 y0 y1 y2 y3 y4 y5 z3 hd0
        go_wp2
        go_ret3
        refine ⟨mr, rfl, ?_, .inl ?_⟩
        · unfold cwS
          rw [if_pos HRf.out]
          exact (HT.out.below' HB2.out).mono (by omega)
        · unfold cwE
          rw [if_pos HRf.out]
          exact ⟨by decide, rfl⟩
    · have hrise : riseB l = true := riseB_yes (fun i hi => by
        have h1 := HRi.out i hi (by have := HL.out; omega)
        refine ⟨?_, h1.2⟩
        rw [h1.1]
        cases i with
        | zero => rfl
        | succ k => exact (HRi.out k (by omega) (by have := HL.out; omega)).1.symm)
      have HRise := hid hrise
      have i2 : ¬ ((j : Int) < (nl : Int)) := by omega
      clear hrise
      go_wp2_with fail
      refine (ref_parts q nl c l wr HL.out hm (HR.out.below HB.out) Hz.out).mono ?_
      rintro e w1 ⟨o, oc, vs, rfl, hown1, hpt1, hb1⟩
      obtain ⟨ps, hps⟩ : ∃ ps, Hid (ps = partsL l) := ⟨_, hid rfl⟩
      obtain ⟨N, hN⟩ : ∃ N, N = (partsI l).length := ⟨_, rfl⟩
      have hNps : N = ps.length := by rw [hN, hps.out]; unfold partsL; rw [List.length_map]
      have hNl : N ≤ nl := by
        have := partsL_len l
        rw [← hps.out, ← hNps, HL.out] at this
        exact this
      have HEach := hid (parts_ok l).each
      rw [← hN] at hown1 ⊢
      have HN := hid hN
      have HNps := hid hNps
      have HOwn1 := hid hown1
      have HPt1 := hid hpt1
      have HB1 := hid (HB.out.trans (hb1.mono HB.out.size))
      obtain ⟨qo, co, eo, hco1, hco2, hco3⟩ := own_shape hown1
      cases eo
      have HPs := hid (show ∀ (k : Nat) (hk : k < N), ∃ (a : Option Addr) (cc : Nat) (x : Nat × Nat) (p : List Fact), ps[k]? = some p ∧ 0 < p.length ∧ p.length ≤ nl ∧ vs[k]? = some (.slice a p.length cc) ∧ Rd w1 a (fCells p) ∧ (∀ f ∈ p, f.Ok) from fun k hk => by
        have hki : k < (partsI l).length := by rw [← HN.out]; exact hk
        have hkv : k < vs.length := by rw [HPt1.out.1]; exact hki
        obtain ⟨x, hx⟩ : ∃ x, x = (partsI l)[k] := ⟨_, rfl⟩
        have hxk : (partsI l)[k]? = some x := by rw [List.getElem?_eq_getElem hki, hx]
        obtain ⟨h1, h2, a, cc, h3, h4⟩ := HPt1.out.2 k _ x (List.getElem?_eq_getElem hkv) hxk
        have hln : (subF l x).length = x.2 - x.1 := subF_len h2
        refine ⟨a, cc, x, subF l x, ?_, by omega, by have := HL.out; omega, ?_, ?_, fun f hf => ?_⟩
        · rw [hps.out]; unfold partsL; rw [List.getElem?_map, hxk]; rfl
        · rw [List.getElem?_eq_getElem hkv, h3, hln]
        · exact (Fr.of_own h4).rd
        · unfold subF at hf
          exact Ho.out f (List.mem_of_mem_take (List.mem_of_mem_drop hf)))
      clear hown1 hpt1 hb1 hN hNps
      have hs1 := HB1.out.size
      go_upto_region 10 with fail
      go_loopw [11, 12, 13] (fun v11 v12 i wr => ∃ (k cf ct : Nat) (qf qt : Option Addr) (bs : List Value), i = .int .i64 (k : Int) ∧ k ≤ N ∧ v11 = .slice qf k cf ∧ v12 = .slice qt k ct ∧ wr.ownsRow w1.heap.size 75 1 (.slice qf k cf) k bs ∧ RowsC wr w1.heap.size bs (ps.take k) ∧ wr.ownsRow w1.heap.size 54 4 (.slice qt k ct) k (tbCells (tabsF next (ps.take k))) ∧ (∀ p ∈ ps.take k, buildE (lineF p) p = 0) ∧ Below w1.heap.size w1 wr) (fun _ _ i _ => N - (intOf i).toNat)
      case atStart => exact ⟨0, 0, 0, none, none, [], rfl, Nat.zero_le _, rfl, rfl, World.ownsRow_nil _ _ _ _, ⟨rfl, fun i v p h => by simp at h⟩, World.ownsRow_nil _ _ _ _, fun p hp => by simp at hp, Below.refl _ _⟩
      case round =>
        obtain ⟨k, cf, ct, qf, qt, bs, rfl, hk, rfl, rfl, hof, hrc, hot, hbz, hbr⟩ := hrel
        have HOf := hid hof
        have HRc := hid hrc
        have HOt := hid hot
        have HBz := hid hbz
        have HBr := hid hbr
        have hsr := hbr.size
        clear hof hrc hot hbz hbr
        by_cases hlt : k < N
        · obtain ⟨a, cc, x, p, hpk, hp0, hpl, hvk, hrdp, hokp⟩ := HPs.out k hlt
          obtain ⟨ba, oa, ea, _, hfa⟩ := fact_at hrdp hp0
          subst ea
          obtain ⟨LN, hLN⟩ : ∃ x, x = lineF p := ⟨_, rfl⟩
          have hln : p[0].line = LN := by rw [hLN]; unfold lineF; rw [List.head?_eq_getElem?, List.getElem?_eq_getElem hp0]; rfl
          have c3 := hfa.c3
          rw [hln, Nat.zero_mul, Nat.add_zero] at c3
          obtain ⟨bo, oo, eo, hco⟩ := (Fr.of_own HOwn1.out).rd.cell (k := k) (List.getElem?_eq_some_iff.1 hvk).1
          subst eo
          have hco' : w1.cell? ⟨bo, oo + k, none⟩ = some (.slice (some ⟨ba, oa, none⟩) p.length cc) := by rw [hco]; exact congrArg some (List.getElem?_eq_some_iff.1 hvk).2
          obtain ⟨E, hE⟩ : ∃ E : Int, Hid (E = buildE LN p) := ⟨_, hid rfl⟩
          obtain ⟨PL, hPL⟩ : ∃ x, x = p.length := ⟨_, rfl⟩
          rw [← hPL] at hco' hp0 hpl
          have HBu := hid (fun W hW => ref_build_d LN (some ⟨ba, oa, none⟩) PL cc p W hPL.symm (by omega) (hrdp.below hW) hokp)
          have HSS := hid (show ∀ W, Below w1.heap.size w1 W → W.cell? ⟨bo, oo + k, none⟩ = some (.slice (some ⟨ba, oa, none⟩) PL cc) ∧ W.cell? ⟨ba, oa + 3, none⟩ = some (.int .u64 (LN : Int)) from fun W hW => ⟨(hW.cell (World.block_lt_of_cell? w1 _ hco')).trans hco', (hW.cell (World.block_lt_of_cell? w1 _ c3)).trans c3⟩)
          have HPL := hid hPL
          have HLN := hid hLN
          have HPk := hid hpk
          have HRr := hid (HBr.out.trans ((Below.refl wr.heap.size wr).drew.mono hsr))
          have i0 : (0 : Int) ≤ (k : Int) := by omega
          have i1 : (k : Int) < (N : Int) := by omega
          have i2 : (0 : Int) < (PL : Int) := by omega
          clear hpk hvk hrdp hokp hfa hln c3 hco hco' hPL hLN
          go_upto_region 12 with fail
          go_cut [14, 15, 16] (fun v14 v15 v16 wc => ∃ (Bk c5 LT : Nat) (q5 : Option Addr) (T : List UInt8) (P5 : Props), v14 = .slice q5 LT c5 ∧ LT = T.length ∧ v15 = .pointer (some ⟨Bk, 0, none⟩) ∧ v16 = .int .i64 E ∧ wr.heap.size ≤ Bk ∧ wc.heap[Bk]? = some (.cells P5.cells.toArray 87 (0, 0)) ∧ Fr wc wr.heap.size 5 1 (.slice q5 LT c5) LT (T.map bv) ∧ (E = 0 → T = tabB LN p ∧ P5 = propsF LN p) ∧ Below wr.heap.size wr wc)
          case first =>
            refine wp_region_held_drew (S := fun w' => w'.cell? ⟨bo, oo + k, none⟩ = some (.slice (some ⟨ba, oa, none⟩) PL cc) ∧ w'.cell? ⟨ba, oa + 3, none⟩ = some (.int .u64 (LN : Int))) (by kernel_rfl) (HSS.out _ HRr.out) (fun hHeld => ?_)
            refine take_held (v := ?_) 0 rfl (by kernel_rfl) (by kernel_rfl) (by kernel_rfl) (fun _ _ _ h => h) (Or.inl ⟨by rfl, ?_⟩) (by assumption) ?_
            rotate_left
            · intro w hSw
              obtain ⟨s0, s1⟩ := hSw
              go_simp
              try with_reducible rfl
            simp only [Act.put, List.setIfInBounds_toArray, List.set_cons_zero, List.set_cons_succ]
            refine take_held (v := ?_) 1 rfl (by kernel_rfl) (by kernel_rfl) (by kernel_rfl) (fun _ _ _ h => h) (Or.inl ⟨by rfl, ?_⟩) (by assumption) ?_
            rotate_left
            · intro w hSw
              obtain ⟨s0, s1⟩ := hSw
              go_simp
              try with_reducible rfl
            simp only [Act.put, List.setIfInBounds_toArray, List.set_cons_zero, List.set_cons_succ]
            refine take_held (v := ?_) 2 rfl (by kernel_rfl) (by kernel_rfl) (by kernel_rfl) (fun _ _ _ h => h) (Or.inl ⟨by rfl, ?_⟩) (by assumption) ?_
            rotate_left
            · intro w hSw
              obtain ⟨s0, s1⟩ := hSw
              go_simp
              try with_reducible rfl
            simp only [Act.put, List.setIfInBounds_toArray, List.set_cons_zero, List.set_cons_succ]
            refine take_held (v := ?_) 3 rfl (by kernel_rfl) (by kernel_rfl) (by kernel_rfl) (fun _ _ _ h => h) (Or.inl ⟨by rfl, ?_⟩) (by assumption) ?_
            rotate_left
            · intro w hSw
              obtain ⟨s0, s1⟩ := hSw
              go_simp
              try with_reducible rfl
            simp only [Act.put, List.setIfInBounds_toArray, List.set_cons_zero, List.set_cons_succ]
            refine take_held (v := ?_) 4 rfl (by kernel_rfl) (by kernel_rfl) (by kernel_rfl) (fun _ _ _ h => h) (Or.inl ⟨by rfl, ?_⟩) (by assumption) ?_
            rotate_left
            · intro w hSw
              obtain ⟨s0, s1⟩ := hSw
              go_simp
              try with_reducible rfl
            simp only [Act.put, List.setIfInBounds_toArray, List.set_cons_zero, List.set_cons_succ]
            refine take_held (v := ?_) 5 rfl (by kernel_rfl) (by kernel_rfl) (by kernel_rfl) (fun _ _ _ h => h) (Or.inl ⟨by rfl, ?_⟩) (by assumption) ?_
            rotate_left
            · intro w hSw
              obtain ⟨s0, s1⟩ := hSw
              go_simp
              try with_reducible rfl
            simp only [Act.put, List.setIfInBounds_toArray, List.set_cons_zero, List.set_cons_succ]
            refine take_held (v := ?_) 6 rfl (by kernel_rfl) (by kernel_rfl) (by kernel_rfl) (fun _ _ _ h => h) (Or.inl ⟨by rfl, ?_⟩) (by assumption) ?_
            rotate_left
            · intro w hSw
              obtain ⟨s0, s1⟩ := hSw
              go_simp
              try with_reducible rfl
            simp only [Act.put, List.setIfInBounds_toArray, List.set_cons_zero, List.set_cons_succ]
            refine take_held (v := ?_) 7 rfl (by kernel_rfl) (by kernel_rfl) (by kernel_rfl) (fun _ _ _ h => h) (Or.inl ⟨by rfl, ?_⟩) (by assumption) ?_
            rotate_left
            · intro w hSw
              obtain ⟨s0, s1⟩ := hSw
              go_simp
              try with_reducible rfl
            simp only [Act.put, List.setIfInBounds_toArray, List.set_cons_zero, List.set_cons_succ]
            refine take_held (v := ?_) 8 rfl (by kernel_rfl) (by kernel_rfl) (by kernel_rfl) (fun _ _ _ h => h) (Or.inl ⟨by rfl, ?_⟩) (by assumption) ?_
            rotate_left
            · intro w hSw
              obtain ⟨s0, s1⟩ := hSw
              go_simp
              try with_reducible rfl
            simp only [Act.put, List.setIfInBounds_toArray, List.set_cons_zero, List.set_cons_succ]
            refine take_held (v := ?_) 9 rfl (by kernel_rfl) (by kernel_rfl) (by kernel_rfl) (fun _ _ _ h => h) (Or.inl ⟨by rfl, ?_⟩) (by assumption) ?_
            rotate_left
            · intro w hSw
              obtain ⟨s0, s1⟩ := hSw
              go_simp
              try with_reducible rfl
            simp only [Act.put, List.setIfInBounds_toArray, List.set_cons_zero, List.set_cons_succ]
            refine take_held (v := ?_) 10 rfl (by kernel_rfl) (by kernel_rfl) (by kernel_rfl) (fun _ _ _ h => h) (Or.inl ⟨by rfl, ?_⟩) (by assumption) ?_
            rotate_left
            · intro w hSw
              obtain ⟨s0, s1⟩ := hSw
              go_simp
              try with_reducible rfl
            simp only [Act.put, List.setIfInBounds_toArray, List.set_cons_zero, List.set_cons_succ]
            refine wpAnyH_ready (rs := [11, 16]) (by kernel_rfl) (by simp) ?_
            refine cons_held 11 rfl (fun K hK => ?_) ?_
            · go_simp
              refine (HBu.out _ HRr.out).mono ?_
              rintro e w5 ⟨q5, c5, T5, P5, rfl, hf5, hb5, hz5⟩
              have hb5' : Below wr.heap.size wr w5 := (Below.refl _ _).drew.trans hb5
              have HBb5 := hid hb5'
              have HB5 := hid (HBr.out.trans (hb5'.mono hsr))
              have HF5 := hid hf5
              have HZ5 := hid hz5
              clear hf5 hb5 hb5' hz5
              refine hK.out _ _ (HSS.out _ HB5.out) (fun hHeld2 => ?_)
              clear hK K
              refine take_held (v := ?_) 12 rfl (by kernel_rfl) (by kernel_rfl) (by kernel_rfl) (fun _ _ _ h => h) (Or.inl ⟨by rfl, ?_⟩) (by assumption) ?_
              rotate_left
              · intro w hSw
                obtain ⟨s0, s1⟩ := hSw
                go_simp
                try with_reducible rfl
              simp only [Act.put, List.setIfInBounds_toArray, List.set_cons_zero, List.set_cons_succ]
              refine take_held (v := ?_) 13 rfl (by kernel_rfl) (by kernel_rfl) (by kernel_rfl) (fun _ _ _ h => h) (Or.inl ⟨by rfl, ?_⟩) (by assumption) ?_
              rotate_left
              · intro w hSw
                obtain ⟨s0, s1⟩ := hSw
                go_simp
                try with_reducible rfl
              simp only [Act.put, List.setIfInBounds_toArray, List.set_cons_zero, List.set_cons_succ]
              refine take_held (v := ?_) 14 rfl (by kernel_rfl) (by kernel_rfl) (by kernel_rfl) (fun _ _ _ h => h) (Or.inl ⟨by rfl, ?_⟩) (by assumption) ?_
              rotate_left
              · intro w hSw
                obtain ⟨s0, s1⟩ := hSw
                go_simp
                try with_reducible rfl
              simp only [Act.put, List.setIfInBounds_toArray, List.set_cons_zero, List.set_cons_succ]
              refine take_held (v := ?_) 15 rfl (by kernel_rfl) (by kernel_rfl) (by kernel_rfl) (fun _ _ _ h => h) (Or.inl ⟨by rfl, ?_⟩) (by assumption) ?_
              rotate_left
              · intro w hSw
                obtain ⟨s0, s1⟩ := hSw
                go_simp
                try with_reducible rfl
              simp only [Act.put, List.setIfInBounds_toArray, List.set_cons_zero, List.set_cons_succ]
              refine wpAnyH_ready (rs := [16]) (by kernel_rfl) (by simp) ?_
              refine cons_held 16 rfl (fun K hK => ?_) AllReadyH.nil
              go_simp
              have HB6 := hid (HBb5.out.alloc HBb5.out.size (.cells #[.int .u64 0, .int .u64 0, .string ⟨#[]⟩, .string ⟨#[]⟩, .int .u64 0, .int .u64 0, .int .u32 0, .int .u32 0] 87))
              have HB6' := hid (HBr.out.trans (HB6.out.mono hsr))
              refine hK.out _ _ (HSS.out _ HB6'.out) (fun hHeld3 => ?_)
              clear hK K
              have HX5 := hid (heap_alloc_new w5 (.cells #[.int .u64 0, .int .u64 0, .string ⟨#[]⟩, .string ⟨#[]⟩, .int .u64 0, .int .u64 0, .int .u32 0, .int .u32 0] 87))
              have HB7 := hid (below_setRow HB6.out HBb5.out.size P5.cells.toArray)
              have HB8 := hid (HBr.out.trans (HB7.out.mono hsr))
              refine take_held (v := ?_) 17 rfl (by kernel_rfl) (by kernel_rfl) (by kernel_rfl) (fun _ _ _ h => h) (Or.inl ⟨by rfl, ?_⟩) (by assumption) ?_
              rotate_left
              · intro w hSw
                obtain ⟨s0, s1⟩ := hSw
                go_simp
                try with_reducible rfl
              simp only [Act.put, List.setIfInBounds_toArray, List.set_cons_zero, List.set_cons_succ]
              refine wpAnyH_ready (rs := [18]) (by kernel_rfl) (by simp) ?_
              refine cons_held 18 rfl (fun K hK => ?_) AllReadyH.nil
              refine step_store_block rfl 87 _ _ rfl _ _ _ _ rfl rfl HX5.out rfl infoProps24 (props_cells8 _).2 ?_
              refine hK.out _ _ (HSS.out _ HB8.out) (fun hHeld4 => ?_)
              clear hK K
              refine take_held (v := ?_) 19 rfl (by kernel_rfl) (by kernel_rfl) (by kernel_rfl) (fun _ _ _ h => h) (Or.inl ⟨by rfl, ?_⟩) (by assumption) ?_
              rotate_left
              · intro w hSw
                obtain ⟨s0, s1⟩ := hSw
                go_simp
                try with_reducible rfl
              simp only [Act.put, List.setIfInBounds_toArray, List.set_cons_zero, List.set_cons_succ]
              refine wpAnyH_done (by kernel_rfl) ?_ _
              go_wp2
              go_meet
              refine ⟨w5.heap.size, c5, T5.length, q5, T5, P5, rfl, rfl, rfl, by rw [hE.out], HBb5.out.size, setRow_heap _ _ _ _ _ _ HX5.out, ?_, fun h => HZ5.out (by rw [← hE.out]; exact h), HB7.out⟩
              exact HF5.out.below (below_setRow ((Below.refl w5.heap.size w5).alloc (Nat.le_refl _) _) (Nat.le_refl _) _)
            refine cons_held 16 rfl (fun K hK => ?_) AllReadyH.nil
            go_simp
            have hba := ((Below.refl wr.heap.size wr).alloc (Nat.le_refl _) (.cells #[.int .u64 0, .int .u64 0, .string ⟨#[]⟩, .string ⟨#[]⟩, .int .u64 0, .int .u64 0, .int .u32 0, .int .u32 0] 87)).drew
            obtain ⟨wa, hwa⟩ : ∃ x, x = (wr.alloc (.cells #[.int .u64 0, .int .u64 0, .string ⟨#[]⟩, .string ⟨#[]⟩, .int .u64 0, .int .u64 0, .int .u32 0, .int .u32 0] 87)).drew := ⟨_, rfl⟩
            rw [← hwa] at hba
            have hxa : wa.heap[wr.heap.size]? = some (.cells #[.int .u64 0, .int .u64 0, .string ⟨#[]⟩, .string ⟨#[]⟩, .int .u64 0, .int .u64 0, .int .u32 0, .int .u32 0] 87 (0, 0)) := by rw [hwa]; exact heap_alloc_new wr (.cells #[.int .u64 0, .int .u64 0, .string ⟨#[]⟩, .string ⟨#[]⟩, .int .u64 0, .int .u64 0, .int .u32 0, .int .u32 0] 87)
            have HBa := hid hba
            have HRa := hid (HBr.out.trans (hba.mono hsr))
            refine hK.out _ _ (show _ from by rw [← hwa]; exact HSS.out _ HRa.out) (fun hHeld2 => ?_)
            rw [← hwa]
            clear hK K hwa
            refine wpAnyH_ready (rs := [11]) (by kernel_rfl) (by simp) ?_
            refine cons_held 11 rfl (fun K hK => ?_) AllReadyH.nil
            go_simp
            refine (HBu.out _ HRa.out).mono ?_
            rintro e w5 ⟨q5, c5, T5, P5, rfl, hf5, hb5, hz5⟩
            have hb5' : Below wr.heap.size wr w5 := HBa.out.trans (hb5.mono HBa.out.size)
            have HBb5 := hid hb5'
            have HB5 := hid (HBr.out.trans (hb5'.mono hsr))
            have HF5 := hid (hf5.mono HBa.out.size)
            have HZ5 := hid hz5
            have HX5 := hid ((hb5.block _ (lt_of_block hxa)).trans hxa)
            have HXw := hid (show ∀ g, wa.heap.size ≤ g → g ≠ wr.heap.size from fun g hg e => by have := lt_of_block hxa; omega)
            clear hb5 hb5' hz5
            refine hK.out _ _ (HSS.out _ HB5.out) (fun hHeld2 => ?_)
            clear hK K hba
            refine take_held (v := ?_) 12 rfl (by kernel_rfl) (by kernel_rfl) (by kernel_rfl) (fun _ _ _ h => h) (Or.inl ⟨by rfl, ?_⟩) (by assumption) ?_
            rotate_left
            · intro w hSw
              obtain ⟨s0, s1⟩ := hSw
              go_simp
              try with_reducible rfl
            simp only [Act.put, List.setIfInBounds_toArray, List.set_cons_zero, List.set_cons_succ]
            refine take_held (v := ?_) 13 rfl (by kernel_rfl) (by kernel_rfl) (by kernel_rfl) (fun _ _ _ h => h) (Or.inl ⟨by rfl, ?_⟩) (by assumption) ?_
            rotate_left
            · intro w hSw
              obtain ⟨s0, s1⟩ := hSw
              go_simp
              try with_reducible rfl
            simp only [Act.put, List.setIfInBounds_toArray, List.set_cons_zero, List.set_cons_succ]
            refine take_held (v := ?_) 14 rfl (by kernel_rfl) (by kernel_rfl) (by kernel_rfl) (fun _ _ _ h => h) (Or.inl ⟨by rfl, ?_⟩) (by assumption) ?_
            rotate_left
            · intro w hSw
              obtain ⟨s0, s1⟩ := hSw
              go_simp
              try with_reducible rfl
            simp only [Act.put, List.setIfInBounds_toArray, List.set_cons_zero, List.set_cons_succ]
            refine take_held (v := ?_) 15 rfl (by kernel_rfl) (by kernel_rfl) (by kernel_rfl) (fun _ _ _ h => h) (Or.inl ⟨by rfl, ?_⟩) (by assumption) ?_
            rotate_left
            · intro w hSw
              obtain ⟨s0, s1⟩ := hSw
              go_simp
              try with_reducible rfl
            simp only [Act.put, List.setIfInBounds_toArray, List.set_cons_zero, List.set_cons_succ]
            have HB7 := hid (below_setRow HBb5.out (Nat.le_refl _) P5.cells.toArray)
            have HB8 := hid (HBr.out.trans (HB7.out.mono hsr))
            refine take_held (v := ?_) 17 rfl (by kernel_rfl) (by kernel_rfl) (by kernel_rfl) (fun _ _ _ h => h) (Or.inl ⟨by rfl, ?_⟩) (by assumption) ?_
            rotate_left
            · intro w hSw
              obtain ⟨s0, s1⟩ := hSw
              go_simp
              try with_reducible rfl
            simp only [Act.put, List.setIfInBounds_toArray, List.set_cons_zero, List.set_cons_succ]
            refine wpAnyH_ready (rs := [18]) (by kernel_rfl) (by simp) ?_
            refine cons_held 18 rfl (fun K hK => ?_) AllReadyH.nil
            refine step_store_block rfl 87 _ _ rfl _ _ _ _ rfl rfl HX5.out rfl infoProps24 (props_cells8 _).2 ?_
            refine hK.out _ _ (HSS.out _ HB8.out) (fun hHeld4 => ?_)
            clear hK K
            refine take_held (v := ?_) 19 rfl (by kernel_rfl) (by kernel_rfl) (by kernel_rfl) (fun _ _ _ h => h) (Or.inl ⟨by rfl, ?_⟩) (by assumption) ?_
            rotate_left
            · intro w hSw
              obtain ⟨s0, s1⟩ := hSw
              go_simp
              try with_reducible rfl
            simp only [Act.put, List.setIfInBounds_toArray, List.set_cons_zero, List.set_cons_succ]
            refine wpAnyH_done (by kernel_rfl) ?_ _
            go_wp2
            go_meet
            refine ⟨wr.heap.size, c5, T5.length, q5, T5, P5, rfl, rfl, rfl, by rw [hE.out], Nat.le_refl _, setRow_heap _ _ _ _ _ _ HX5.out, ?_, fun h => HZ5.out (by rw [← hE.out]; exact h), HB7.out⟩
            exact (hf5.kept (fun g hg _ => setRow_other _ _ _ _ (HXw.out g hg))).mono HBa.out.size
          obtain ⟨Bk, c5, LT, q5, T, P5, rfl, hLT, rfl, rfl, hBk, hrow, hf5, hz5, hb5⟩ := hcut
          have HB5 := hid (HBr.out.trans (hb5.mono hsr))
          have HOf5 := hid (own_below HOf.out hb5)
          have HOt5 := hid (own_below HOt.out hb5)
          have HRc5 := hid (HRc.out.below hb5)
          have HF5 := hid (fr_mono hf5 hsr)
          have HZ5 := hid hz5
          have HLT := hid hLT
          have HRow := hid hrow
          have hs5 := HB5.out.size
          have hBk1 : w1.heap.size ≤ Bk := by omega
          have hsp : ps = ps.take k ++ p :: ps.drop (k + 1) := by
            obtain ⟨h1, h2⟩ := List.getElem?_eq_some_iff.1 HPk.out
            rw [← h2, ← List.drop_eq_getElem_cons h1, List.take_append_drop]
          have HSp := hid hsp
          clear hf5 hz5 hb5 hrow hLT hsp
          rename_i hK
          refine hK _ _ ?_
          clear hK
          by_cases hE0 : E = 0
          · have bE : (E != 0) = false := by simp [hE0]
            have hzz := HZ5.out hE0
            have HT5 := hid hzz.1
            have HP5 := hid hzz.2
            have hbz : buildE (lineF p) p = 0 := by rw [← HLN.out, ← hE.out]; exact hE0
            have hLT6 : LT ≤ 65536 := by
              rw [HLT.out, hzz.1, HLN.out]
              exact (buildE_zero.1 hbz).2
            have HBzp := hid hbz
            obtain ⟨NX, hNX⟩ : ∃ x, x = next + k := ⟨_, rfl⟩
            have wk : IntKind.u64.wrap (k : Int) = (k : Int) := by rw [IntKind.wrap_u64]; omega
            have wn : IntKind.u64.wrap ((next : Int) + (k : Int)) = (NX : Int) := by rw [IntKind.wrap_u64]; omega
            have wl : IntKind.u32.wrap (LT : Int) = (LT : Int) := by rw [IntKind.wrap_u32]; omega
            have HNX := hid hNX
            clear hE0 hzz hbz hNX
            have HSr6 := hid (src_rd (P := Tryz.prog) (size := 1) (by decide) (tx := 85) (e' := 75) Tryz.underlying85 (w := wc.alloc (.cells #[.slice q5 LT c5] 75)) (ad := some ⟨wc.heap.size, 0, none⟩) (m := 1) 1 (news := [.slice q5 LT c5]) rfl (Rd.new wc [.slice q5 LT c5] 75) (by simp [Value.oneCell']))
            have hA6 : Below wc.heap.size wc (wc.alloc (.cells #[.slice q5 LT c5] 75)) := (Below.refl _ _).alloc (Nat.le_refl _) _
            have HA6 := hid hA6
            have HOfa := hid (own_below HOf5.out hA6)
            have hM1 : k + 1 ≤ maxLen := by unfold maxLen; omega
            have hM2 : (k + 1) * 24 ≤ 140737488355328 := by omega
            have HM3 := hid (show w1.heap.size ≤ (wc.alloc (.cells #[.slice q5 LT c5] 75)).heap.size from (HB5.out.trans (hA6.mono HB5.out.size)).size)
            clear hA6
            go_upto_region 16 with (refine wpList_append_src rfl (.tmp 76) (.tmp 78) 85 85 rfl w1.heap.size 75 (.slice none 0 0) 1 24 Tryz.underlying85 infoSlU rfl (by decide) qf k cf _ rfl HOfa.out _ 1 [.slice q5 LT c5] rfl HSr6.out hM1 hM2 HM3.out ?_; intro q7 c7 w7 k1 k2 k3; have K1 := hid k1; have K2 := hid k2; clear k1 k2 k3)
            have HB7 := hid (Below.grown' (HB5.out.trans (HA6.out.mono HB5.out.size)) HOfa.out K2.out HM3.out)
            have HOt7 := hid (own_kinds (own_below HOt5.out HA6.out) HOfa.out (by decide) K2.out)
            have hrc7 : RowsC w7 w1.heap.size bs (ps.take k) := (HRc5.out.below HA6.out).stay fun g cs _ h => keep_kind24 HOfa.out (by decide) K2.out g cs h
            have hf7 : Fr w7 w1.heap.size 5 1 (.slice q5 LT c5) LT (T.map bv) := by
              have h := HF5.out.below HA6.out
              obtain ⟨f1, f2⟩ := h
              refine ⟨f1, ?_⟩
              rcases f2 with f2 | ⟨g, cap, cur, hv, hg, hh, r⟩
              · exact .inl f2
              · exact .inr ⟨g, cap, cur, hv, hg, (keep_kind24 HOfa.out (by decide) K2.out g cur hh).trans hh, r⟩
            rw [HLT.out, HT5.out, HLN.out] at hf7
            have HRc7 := hid (hrc7.snoc hf7)
            have hrow7 : w7.heap[Bk]? = some (.cells P5.cells.toArray 87 (0, 0)) := by
              have h := (HA6.out.block _ (lt_of_block HRow.out)).trans HRow.out
              exact (keep_kind24 HOfa.out (by decide) K2.out Bk _ h).trans h
            have HOf7 := hid K1.out
            have b2 := cell_of_row w7 Bk 2 _ _ _ hrow7
            have b3 := cell_of_row w7 Bk 3 _ _ _ hrow7
            replace b2 : w7.cell? ⟨Bk, 2, none⟩ = some (.string P5.low) := b2
            replace b3 : w7.cell? ⟨Bk, 3, none⟩ = some (.string P5.high) := b3
            clear K1 HSr6 HOfa HM3 hrc7 hf7 hrow7 hM1 hM2
            have HSr8 := hid (src_rd (P := Tryz.prog) (size := 4) (by decide) (tx := 33) (e' := 54) Tryz.underlying33 (w := w7.alloc (.cells #[.int .u64 (NX : Int), .int .u32 (LT : Int), .string P5.low, .string P5.high] 54)) (ad := some ⟨w7.heap.size, 0, none⟩) (m := 1) 1 (news := [.int .u64 (NX : Int), .int .u32 (LT : Int), .string P5.low, .string P5.high]) rfl (Rd.new w7 [.int .u64 (NX : Int), .int .u32 (LT : Int), .string P5.low, .string P5.high] 54) (by simp [Value.oneCell']))
            have hA8 : Below w7.heap.size w7 (w7.alloc (.cells #[.int .u64 (NX : Int), .int .u32 (LT : Int), .string P5.low, .string P5.high] 54)) := (Below.refl _ _).alloc (Nat.le_refl _) _
            have HA8 := hid hA8
            have HOta := hid (own_below HOt7.out hA8)
            have hM1 : k + 1 ≤ maxLen := by unfold maxLen; omega
            have hM2 : (k + 1) * 48 ≤ 140737488355328 := by omega
            have HM3 := hid (show w1.heap.size ≤ (w7.alloc (.cells #[.int .u64 (NX : Int), .int .u32 (LT : Int), .string P5.low, .string P5.high] 54)).heap.size from (HB7.out.trans (hA8.mono HB7.out.size)).size)
            clear hA8
            go_wp2_with (refine wpList_append_src rfl (.tmp 80) (.tmp 93) 33 33 rfl w1.heap.size 54 (.agg #[.int .u64 0, .int .u32 0, .string ⟨#[]⟩, .string ⟨#[]⟩]) 4 48 Tryz.underlying33 infoTb rfl (by decide) qt k ct _ rfl HOta.out _ 1 [.int .u64 (NX : Int), .int .u32 (LT : Int), .string P5.low, .string P5.high] rfl HSr8.out hM1 hM2 HM3.out ?_; intro q9 c9 w9 k1 k2 k3; have K1 := hid k1; have K2 := hid k2; clear k1 k2 k3)
            have HB9 := hid (Below.grown' (HB7.out.trans (HA8.out.mono HB7.out.size)) HOta.out K2.out HM3.out)
            have HOf9 := hid (own_kinds (own_below HOf7.out HA8.out) HOta.out (by decide) K2.out)
            have HRc9 := hid ((HRc7.out.below HA8.out).stay fun g cs _ h => keep_kind24 HOta.out (by decide) K2.out g cs h)
            have hTk : ps.take (k + 1) = ps.take k ++ [p] := by
              obtain ⟨h1, h2⟩ := List.getElem?_eq_some_iff.1 HPk.out
              rw [List.take_succ_eq_append_getElem h1, h2]
            have HTk := hid hTk
            clear hTk b2 b3
            go_roundw
            case rel =>
              have hkl : (ps.take k).length = k := by rw [List.length_take, ← HNps.out]; omega
              refine ⟨k + 1, c7, c9, q7, q9, bs ++ [.slice q5 (tabB (lineF p) p).length c5], by go_num, by omega, rfl, rfl, ?_, ?_, ?_, ?_, HB9.out⟩
              · have h := HOf9.out
                rw [HLT.out, HT5.out, HLN.out] at h
                exact h
              · rw [HTk.out]
                exact HRc9.out
              · rw [HTk.out, tabsF_snoc, tbCells_append, hkl]
                have h := K1.out
                rw [HLT.out, HT5.out, HLN.out, HP5.out, HLN.out, HNX.out] at h
                exact h
              · rw [HTk.out]
                intro p' hp'
                rcases List.mem_append.1 hp' with h | h
                · exact HBz.out p' h
                · rw [List.mem_singleton.1 h]; exact HBzp.out
            case measure => simp [intOf]; omega
          · have bE : (E != 0) = true := by simpa using hE0
            have hbt : builtE ps = E := by
              rw [HSp.out, builtE_snoc HBz.out p _ (by rw [← HLN.out, ← hE.out]; exact hE0), ← HLN.out, ← hE.out]
            have HBt := hid hbt
            have HE0 := hid hE0
            have HBw := hid (HB1.out.trans (HB5.out.mono hs1))
            clear hE0 hbt
            go_wp2
            go_ret3
            have hr1 : ¬ riseB l = false := by rw [HRise.out]; decide
            refine ⟨mr, rfl, ?_, .inl ?_⟩
            · unfold cwS
              rw [if_neg hr1, ← hps.out, HBt.out, if_pos HE0.out]
              exact (HT.out.below' HBw.out).mono (by omega)
            · unfold cwE
              rw [if_neg hr1, ← hps.out, HBt.out, if_pos HE0.out]
              exact ⟨HE0.out, rfl⟩
        · obtain rfl : k = N := by omega
          obtain ⟨w3, rfl⟩ : ∃ x, x = wr := ⟨_, rfl⟩
          have hpsk : ps.take k = ps := List.take_of_length_le (by rw [← HNps.out]; exact Nat.le_refl _)
          have hb0 : builtE ps = 0 := builtE_all (fun p hp => HBz.out p (by rw [hpsk]; exact hp))
          obtain ⟨fs, hfs⟩ : ∃ fs, Hid (fs = filesF next ps) := ⟨_, hid rfl⟩
          have hfl : fs.length = k := by rw [hfs.out, filesF_len, ← HNps.out]
          have hr1 : ¬ riseB l = false := by rw [HRise.out]; decide
          have hcE : cwE t next l = putE t fs := by
            unfold cwE
            rw [if_neg hr1, ← hps.out, hb0, if_neg (fun h => h rfl), hfs.out]
          have hcS : cwS t next l = putS t fs := by
            unfold cwS
            rw [if_neg hr1, ← hps.out, hb0, if_neg (fun h => h rfl), hfs.out]
          have HBw := hid (HB1.out.trans (HBr.out.mono hs1))
          obtain ⟨I', hT3, hI3⟩ := HT.out.rebase' HBw.out
          have HT3 := hid hT3
          have HI3 := hid hI3
          have HPow := hid (show ∀ (W : World) (mr' : RM) (t' : DS) (n' : Nat), Two I' w3 W md s mr' t' n' → Pow10 W from fun W mr' t' n' T' => by
            have hg := HP.out.lt
            have hg2 := Nat.lt_of_lt_of_le hg HT.out.mod.size
            have e1 := HT.out.mod.block _ hg HgI.out
            have e2 := HBw.out.block _ hg2
            have e3 := T'.mod.block _ (Nat.lt_of_lt_of_le hg2 HBw.out.size) (fun h => by
              rcases (hI3 _ h).1 with q | q
              · exact HgI.out q
              · omega)
            exact HP.out.kept (e3.trans (e2.trans e1)))
          have HBack := hid (show ∀ (W : World) (mr' : RM) (t' : DS) (n' : Nat), Two I' w3 W md s mr' t' n' → Two I w0 W md s mr' t' n' from fun W mr' t' n' T' => T'.back (HT.out.mod.seq (RMod.of_below _ HBw.out)) (fun k h => (hI3 k h).1))
          have HKeep := hid (show ∀ (W : World) (mr' : RM) (t' : DS) (n' : Nat), Two I' w3 W md s mr' t' n' → ∀ g, w1.heap.size ≤ g → g < w3.heap.size → W.heap[g]? = w3.heap[g]? from fun W mr' t' n' T' g h1 h2 => T'.mod.block g h2 (fun h => by
            have := (hI3 g h).2
            omega))
          have Hfl := hid hfl
          have HcE := hid hcE
          have HcS := hid hcS
          have HRcA := hid (show RowsC w3 w1.heap.size bs ps from by have h := HRc.out; rw [hpsk] at h; exact h)
          have HOtA := hid (show w3.ownsRow w1.heap.size 54 4 (.slice qt k ct) k (tbCells (tabsF next ps)) from by have h := HOt.out; rw [hpsk] at h; exact h)
          have hkps : (partsL l).length = k := by rw [← hps.out, ← HNps.out]
          have HKps := hid hkps
          clear hpsk hb0 hfl hr1 hcE hcS hT3 hI3 hkps HRc HOt
          go_wp2_with fail
          go_loopw [17] (fun i wz => ∃ (m : Nat) (mr' : RM), i = .int .i64 (m : Int) ∧ m ≤ k ∧ mr'.D = mr.D ∧ Two I' w3 wz md s mr' (putS t (fs.take m)) (n + 2 * m) ∧ putE t (fs.take m) = 0) (fun i _ => k - (intOf i).toNat)
          case atStart => exact ⟨0, mr, rfl, Nat.zero_le _, rfl, HT3.out, rfl⟩
          case round =>
            obtain ⟨m, mr', rfl, hmk, hD, hTz, hpz⟩ := hrel
            have HTz := hid hTz
            have HPz := hid hpz
            have HD := hid hD
            clear hTz hpz
            clear hD
            by_cases hlm : m < k
            · have hmf : m < fs.length := by rw [Hfl.out]; exact hlm
              obtain ⟨p, hp⟩ : ∃ p, ps[m]? = some p := ⟨_, List.getElem?_eq_getElem (by rw [← HNps.out]; exact hlm)⟩
              have hxm : fs[m]? = some (nmU (next + m), tabB (lineF p) p) := by rw [hfs.out, filesF_get, hp]; rfl
              have hfsp : fs = fs.take m ++ (nmU (next + m), tabB (lineF p) p) :: fs.drop (m + 1) := by
                obtain ⟨h1, h2⟩ := List.getElem?_eq_some_iff.1 hxm
                rw [← h2, ← List.drop_eq_getElem_cons h1, List.take_append_drop]
              have hftk : fs.take (m + 1) = fs.take m ++ [(nmU (next + m), tabB (lineF p) p)] := by
                obtain ⟨h1, h2⟩ := List.getElem?_eq_some_iff.1 hxm
                rw [List.take_succ_eq_append_getElem h1, h2]
              obtain ⟨K, hK⟩ : ∃ K, Hid (K = nmU (next + m)) := ⟨_, hid rfl⟩
              obtain ⟨TB, hTB⟩ : ∃ T, Hid (T = tabB (lineF p) p) := ⟨_, hid rfl⟩
              rw [← hK.out, ← hTB.out] at hfsp hftk
              have hKm : K.size ≤ maxLen := by rw [hK.out]; exact nm_max _ (by omega)
              have hbm : m < bs.length := by rw [HRcA.out.1, ← HNps.out]; exact hlm
              obtain ⟨av, cv, hev, hfv⟩ := HRcA.out.2 m _ p (List.getElem?_eq_getElem hbm) hp
              rw [← hTB.out] at hev hfv
              obtain ⟨LT, hLT⟩ : ∃ x, x = TB.length := ⟨_, rfl⟩
              rw [← hLT] at hev hfv
              have hLT6 : LT ≤ 65536 := by
                have := HBz.out p (List.mem_of_getElem? (by rw [List.getElem?_take_of_lt hlm]; exact hp))
                rw [hLT, hTB.out]
                exact (buildE_zero.1 this).2
              obtain ⟨fb, fo, ef, hfc⟩ := (Fr.of_own HOf.out).rd.cell (k := m) hbm
              have hfo := fr_lo (Fr.of_own HOf.out) _ ef
              subst ef
              rw [hev] at hfc hfv
              have hfb := fr_lo hfv
              obtain ⟨av', cv', ev', hcv1, hcv2, hrv, hcv3⟩ := hfv.shape
              cases ev'
              have HFile := hid (show ∀ (W : World) (mr' : RM) (t' : DS) (n' : Nat), Two I' w3 W md s mr' t' n' → W.cell? ⟨fb, fo + m, none⟩ = some (.slice av LT cv) ∧ Rd W av (TB.map bv) from fun W mr' t' n' T' => ⟨(World.cell?_of_block (w := w3) (a := ⟨fb, fo + m, none⟩) (HKeep.out _ _ _ _ T' fb hfo.1 hfo.2)).trans hfc, rd_same hrv fun x e _ => HKeep.out _ _ _ _ T' x.block (hfb x e).1 (hfb x e).2⟩)
              have HAp := hid (show TB ≠ [] → ∀ b off, av = some ⟨b, off, none⟩ → b < w3.heap.size ∧ ¬ I' b from fun _ b off e => ⟨(hfb _ e).2, fun h => by
                have h1 := (HI3.out b h).2
                have h2 : w1.heap.size ≤ b := (hfb _ e).1
                omega⟩)
              obtain ⟨t', ht'⟩ : ∃ x, Hid (x = putS t (fs.take m)) := ⟨_, hid rfl⟩
              rw [← ht'.out] at HTz
              have hps1 := put_snoc HPz.out (K, TB) (fs.drop (m + 1))
              rw [← ht'.out, ← hfsp, ← hftk] at hps1
              have HPs1 := hid hps1
              obtain ⟨NX, hNX⟩ : ∃ x, x = next + m := ⟨_, rfl⟩
              have wk : IntKind.u64.wrap (m : Int) = (m : Int) := by rw [IntKind.wrap_u64]; omega
              have wn : IntKind.u64.wrap ((next : Int) + (m : Int)) = (NX : Int) := by rw [IntKind.wrap_u64]; omega
              have HNm := hid (show ∀ W, Pow10 W → Calls Tryz.prog 42 #[.int .u64 (NX : Int)] W fun e w' => e = .returned (.string K) ∧ Below W.heap.size W w' from fun W h => by rw [hK.out, ← hNX]; exact refName_any NX (by omega) W h)
              have HLT := hid hLT
              have i0 : (0 : Int) ≤ (m : Int) := by omega
              have i1 : (m : Int) < (k : Int) := by omega
              have hcvh := hid hcv3
              clear hmf hp hxm hfsp hftk hbm hev hfv hfc hfo hfb hrv hps1 hLT hcv3 hNX
              go_wp2_with fail
              (with_reducible refine (HNm.out _ (HPow.out _ _ _ _ HTz.out)).mono ?_)
              rintro e wa ⟨rfl, hba⟩
              have HTa := hid (HTz.out.below' hba)
              clear hba
              go_wp2_with fail
              have hcr := HTa.out.createR (by omega) K hKm
              rw [HD.out] at hcr
              (with_reducible refine hcr.mono ?_)
              clear hcr
              rintro e wb ⟨mr2, rfl, hD2, hT2⟩
              have HT2 := hid hT2
              have HD2 := hid hD2
              obtain ⟨E1, hE1⟩ : ∃ E : Int, Hid (E = createE t' K) := ⟨_, hid rfl⟩
              rw [← hE1.out]
              have HErr := hid (show ∀ (W : World) (mr3 : RM) (E : Int) (s3 : DS) (nn : Nat), mr3.D = mr.D → E ≠ 0 → put1E t' K TB = E → put1S t' K TB = s3 → nn ≤ n + 2 * k → Two I' w3 W md s mr3 s3 nn → ∃ mr', mr'.D = mr.D ∧ Two I w0 W md s mr' (cwS t next l) (n + 2 * (partsL l).length) ∧ ((cwE t next l ≠ 0 ∧ Ending.returned (.tuple #[.slice none 0 0, .int .u64 0, .int .i64 E]) = .returned (.tuple #[.slice none 0 0, .int .u64 0, .int .i64 (cwE t next l)])) ∨ (cwE t next l = 0 ∧ ∃ a c, Ending.returned (.tuple #[.slice none 0 0, .int .u64 0, .int .i64 E]) = .returned (.tuple #[.slice a (partsL l).length c, .int .u64 ((next + (partsL l).length : Nat) : Int), .int .i64 0]) ∧ Fr W w.heap.size 54 4 (.slice a (partsL l).length c) (partsL l).length (tbCells (tabsF next (partsL l))))) from fun W mr3 E s3 nn h1 h2 h3 h4 h5 h6 => by
                obtain ⟨g1, g2⟩ := HPs1.out.2 (by rw [h3]; exact h2)
                refine ⟨mr3, h1, ?_, .inl ?_⟩
                · rw [HcS.out, g2, h4, HKps.out]
                  exact (HBack.out _ _ _ _ h6).mono h5
                · rw [HcE.out, g1, h3]
                  exact ⟨h2, rfl⟩)
              clear hT2 hD2
              by_cases hq1 : E1 = 0
              · have b1 : (E1 != 0) = false := by simp [hq1]
                have Hq1 := hid hq1
                obtain ⟨hfc, hrv⟩ := HFile.out _ _ _ _ HT2.out
                have HRv := hid hrv
                clear hq1 hrv
                go_wp2_with fail
                have hcr := HT2.out.appendR (by omega) K hKm av LT cv TB HLT.out.symm hcv1 hcv2 HRv.out (fun h => (hcvh.out h).2) (by omega) HAp.out
                rw [HD2.out] at hcr
                (with_reducible refine hcr.mono ?_)
                clear hcr
                rintro e wd ⟨mr4, rfl, hD4, hT4⟩
                have HT4 := hid hT4
                have HD4 := hid hD4
                obtain ⟨E2, hE2⟩ : ∃ E : Int, Hid (E = appendE (createS t' K) K TB) := ⟨_, hid rfl⟩
                rw [← hE2.out]
                clear hT4 hD4 hfc
                by_cases hq2 : E2 = 0
                · have b2 : (E2 != 0) = false := by simp [hq2]
                  have Hq2 := hid hq2
                  clear hq2
                  go_wp2_with fail
                  have hcr := HT4.out.syncR (by omega) K hKm
                  rw [HD4.out] at hcr
                  (with_reducible refine hcr.mono ?_)
                  clear hcr
                  rintro e we ⟨mr5, rfl, hD5, hT5⟩
                  have HT5 := hid hT5
                  have HD5 := hid hD5
                  obtain ⟨E3, hE3⟩ : ∃ E : Int, Hid (E = syncE (appendS (createS t' K) K TB) K) := ⟨_, hid rfl⟩
                  rw [← hE3.out]
                  have hp1E : put1E t' K TB = E3 := by
                    unfold put1E
                    rw [← hE1.out, ← hE2.out, Hq1.out, Hq2.out, if_neg (fun h => h rfl), if_neg (fun h => h rfl), hE3.out]
                  have hp1S : put1S t' K TB = syncS (appendS (createS t' K) K TB) K := by
                    unfold put1S
                    rw [← hE1.out, ← hE2.out, Hq1.out, Hq2.out, if_neg (fun h => h rfl), if_neg (fun h => h rfl)]
                  have Hp1E := hid hp1E
                  have Hp1S := hid hp1S
                  clear hT5 hD5 hp1E hp1S
                  by_cases hq3 : E3 = 0
                  · have b3 : (E3 != 0) = false := by simp [hq3]
                    have Hq3 := hid hq3
                    clear hq3
                    go_wp2_with fail
                    go_roundw
                    case rel =>
                      obtain ⟨g1, g2⟩ := HPs1.out.1 (by rw [Hp1E.out]; exact Hq3.out)
                      refine ⟨m + 1, mr5, by go_num, by omega, HD5.out, ?_, g1⟩
                      rw [g2, Hp1S.out]
                      exact HT5.out.mono (by omega)
                    case measure => simp [intOf]; omega
                  · have b3 : (E3 != 0) = true := by simpa using hq3
                    have Hq3 := hid hq3
                    clear hq3
                    go_wp2
                    go_ret3
                    exact HErr.out _ mr5 E3 _ _ HD5.out Hq3.out Hp1E.out Hp1S.out (by omega) HT5.out
                · have b2 : (E2 != 0) = true := by simpa using hq2
                  have Hq2 := hid hq2
                  clear hq2
                  go_wp2
                  go_ret3
                  refine HErr.out _ mr4 E2 (appendS (createS t' K) K TB) _ HD4.out Hq2.out ?_ ?_ (by omega) HT4.out
                  · unfold put1E
                    rw [← hE1.out, ← hE2.out, Hq1.out, if_neg (fun h => h rfl), if_pos Hq2.out]
                  · unfold put1S
                    rw [← hE1.out, ← hE2.out, Hq1.out, if_neg (fun h => h rfl), if_pos Hq2.out]
              · have b1 : (E1 != 0) = true := by simpa using hq1
                have Hq1 := hid hq1
                clear hq1
                go_wp2
                go_ret3
                refine HErr.out _ mr2 E1 (createS t' K) _ HD2.out Hq1.out ?_ ?_ (by omega) HT2.out
                · unfold put1E
                  rw [← hE1.out, if_pos Hq1.out]
                · unfold put1S
                  rw [← hE1.out, if_pos Hq1.out]
            · obtain rfl : m = k := by omega
              have hft : fs.take m = fs := List.take_of_length_le (by rw [Hfl.out]; exact Nat.le_refl _)
              have HFt := hid hft
              obtain ⟨NX, hNX⟩ : ∃ x, x = next + m := ⟨_, rfl⟩
              have wk : IntKind.u64.wrap (m : Int) = (m : Int) := by rw [IntKind.wrap_u64]; omega
              have wn : IntKind.u64.wrap ((next : Int) + (m : Int)) = (NX : Int) := by rw [IntKind.wrap_u64]; omega
              have HNX := hid hNX
              clear hft hNX
              go_wp2
              go_ret3
              refine ⟨mr', HD.out, ?_, .inr ⟨?_, qt, ct, ?_, ?_⟩⟩
              · rw [HcS.out, HKps.out]
                have h := HBack.out _ _ _ _ HTz.out
                rw [HFt.out] at h
                exact h
              · rw [HcE.out]
                have h := HPz.out
                rw [HFt.out] at h
                exact h
              · rw [HKps.out, ← HNX.out]
                rfl
              · rw [HKps.out, ← hps.out]
                exact fr_mono (Fr.of_own (bown_keep HOtA.out fun g hg => HKeep.out _ _ _ _ HTz.out g (bown_lt HOtA.out g hg).1 (bown_lt HOtA.out g hg).2)) hs1
end Go.Proofs.Herb
