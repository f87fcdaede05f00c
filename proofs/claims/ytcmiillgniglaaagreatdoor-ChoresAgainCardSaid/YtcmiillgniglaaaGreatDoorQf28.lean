/- The contract of chores.Read: the facts of a table, or why there are none. For a disk as DiskAt says, in worlds where the library's table of powers of ten reads as it was laid, and where what can be opened is not too great. The contract of chores.Write: facts as tables on a disk, or why not. For a disk as DiskAt says, and facts that can be read, in worlds where the library's table of powers of ten reads as it was laid. (printed by gen_chw.py) What a call turned, of a disk that is new: plain. No condition. The contracts of the law's great, written and lives (chapter 24), and of chores.Read at no disk. For facts that can be read, in worlds where the library's table of powers of ten reads as it was laid. The contract of the law's lives (chapter 24): it answers true. For worlds in which the library's table of powers of ten reads as it was laid. What is written is read: what chapter 24's write makes of a new disk when it answers OK. Plain; for facts that can be read. -/
import Derived.Test.YtcmiillgniglaaaGreatDoorQf14
import Derived.Test.YtcmiillgniglaaaGreatDoorQf18
import Derived.Test.YtcmiillgniglaaaGreatDoorQf19
import Derived.Test.YtcmiillgniglaaaGreatDoorQf20
import Derived.Test.YtcmiillgniglaaaGreatDoorQf21
import Derived.Test.YtcmiillgniglaaaGreatDoorQf22
import Derived.Test.YtcmiillgniglaaaGreatDoorQf24
import Derived.Test.YtcmiillgniglaaaGreatDoorQf27
namespace Go.Proofs.Herb
open Go.RowKit Go.Sort
/-- bytes are a table's, of these facts -/
def TabIs (bs : List UInt8) (t : Tab) (fs : List Fact) : Prop :=
  bs.length = t.bytes ∧ (∃ r, Opens bs r ∧ AllR r fs) ∧ ∃ f g, fs.head? = some f ∧ fs.getLast? = some g ∧ f.key = t.low ∧ g.key = t.high
theorem TabIs.one {bs : List UInt8} {t : Tab} {a b : List Fact} (h : TabIs bs t a) (k : TabIs bs t b) : a = b := by
  obtain ⟨_, ⟨r, h1, h2⟩, _⟩ := h
  obtain ⟨_, ⟨r', k1, k2⟩, _⟩ := k
  obtain rfl := h1.one k1
  exact h2.1.one k2.1
def ReadC (s : DS) (t : Tab) (w : World) (e : Ending) (w' : World) : Prop :=
  Below w.heap.size w w' ∧ ((knownE s (nmU t.file) = 10 ∧ e = .returned (.tuple #[.slice none 0 0, .int .i64 10])) ∨
    (knownE s (nmU t.file) ≠ 10 ∧ (¬ ∃ fs, knownE s (nmU t.file) = 0 ∧ TabIs (readL s (nmU t.file)) t fs) ∧ e = .returned (.tuple #[.slice none 0 0, .int .i64 13])) ∨
    ∃ fs, knownE s (nmU t.file) = 0 ∧ TabIs (readL s (nmU t.file)) t fs ∧ ∃ q, e = .returned (.tuple #[.slice q fs.length fs.length, .int .i64 0]) ∧ Fr w' w.heap.size 50 6 (.slice q fs.length fs.length) fs.length (fCells fs))
theorem nm_may (u : Nat) (h : u < 18446744073709551616) : mayB (nmU u) = true := by
  have := nm_size u h
  unfold mayB
  rw [Bool.and_eq_true, decide_eq_true_iff, decide_eq_true_iff]
  omega
theorem nm_known (s : DS) (u : Nat) (h : u < 18446744073709551616) : knownE s (nmU u) = 10 ∨ knownE s (nmU u) = 7 ∨ knownE s (nmU u) = 0 := by
  unfold knownE foundE
  rw [nm_may u h]
  cases s.dead
  · cases (look s.names (nmU u)).isSome
    · exact .inr (.inl rfl)
    · exact .inr (.inr rfl)
  · exact .inl rfl
theorem frq_none {w : World} {base : Nat} {e : TypeId} {k : Nat} {q : Option Addr} {n c : Nat} {xs : List Value} (h : Fr w base e k (.slice q n c) n xs) : q = none → c = 0 := by
  rintro rfl
  rcases h.2 with ⟨e1, _⟩ | ⟨g, cap, cur, e1, _⟩
  · cases e1; rfl
  · cases e1
set_option maxRecDepth 100000 in
set_option maxHeartbeats 4000000 in
theorem chread_any (md : DM) (s : DS) (n : Nat) (t : Tab) (w : World) (h : DiskAt w md s) (ok : DsOk s n) (hf : t.file < 18446744073709551616) (hb : t.bytes < 4294967296) (hfit : ∀ r, Opens (readL s (nmU t.file)) r → r.Fit) (ht : Pow10 w) :
    Calls Tryz.prog 8 #[.pointer (some ⟨md.D, 0, none⟩), .agg #[.int .u64 (t.file : Int), .int .u32 (t.bytes : Int), .string t.low, .string t.high]] w (ReadC s t w) := by
  obtain ⟨w0, hw0, hbk, hb0⟩ : ∃ w0, w0 = w.alloc (.cells #[.int .u64 (t.file : Int), .int .u32 (t.bytes : Int), .string t.low, .string t.high] 41) ∧ w0.heap[w.heap.size]? = some (.cells #[.int .u64 (t.file : Int), .int .u32 (t.bytes : Int), .string t.low, .string t.high] 41 (0, 0)) ∧ Below w.heap.size w w0 := ⟨_, rfl, heap_alloc_new _ _, (Below.refl _ _).alloc (Nat.le_refl _) _⟩
  have y0 := cell_of_row w0 w.heap.size 0 _ _ _ hbk
  have HW0 := hid hw0
  have HBk := hid hbk
  have HB0 := hid hb0
  have HD := hid h
  have HO := hid ok
  have HFit := hid hfit
  have HT := hid ht
  have hks := nm_max t.file hf
  have hkn := nm_known s t.file hf
  obtain ⟨E, hE⟩ : ∃ E : Int, Hid (E = knownE s (nmU t.file)) := ⟨_, hid rfl⟩
  obtain ⟨R, hR⟩ : ∃ R, Hid (R = readL s (nmU t.file)) := ⟨_, hid rfl⟩
  obtain ⟨rn, hrn⟩ : ∃ rn, Hid (rn = R.length) := ⟨_, hid rfl⟩
  have hrn2 : rn ≤ 4194304 := by
    rw [hrn.out, hR.out]
    unfold readL fileL
    split
    · cases hf : s.files[(look s.names (nmU t.file)).getD 0]? with
      | none => simp
      | some f => simpa using (ok.sure f (List.mem_of_getElem? hf)).2
    · simp
  rw [← hE.out] at hkn
  clear hw0 hbk hb0 h ok hfit ht
  unfold ReadC
  rw [← hE.out, ← hR.out]
  go_enter Tryz.func8, Tryz.ntmps8
  go_upto_region 1 with fail
  rw [← HW0.out]
  go_wp2_with fail
  (with_reducible refine (name_any t.file hf w0 (HT.out.below HB0.out (Nat.le_refl _))).mono ?_)
  rintro e w1 ⟨rfl, hb1⟩
  have HB1 := hid (HB0.out.trans (hb1.mono HB0.out.size))
  have bk1 := (hb1.block _ (lt_of_block HBk.out)).trans HBk.out
  have HBk1 := hid bk1
  clear hb1 bk1 y0
  go_wp2_with fail
  (with_reducible refine (read_clip md s (nmU t.file) hks w1 (HD.out.below HB1.out) HO.out.good.ok (fun f hf => (HO.out.sure f hf).2)).mono ?_)
  rintro e w2 ⟨q2, rfl, hF2, hB2⟩
  rw [← hR.out, ← hrn.out] at hF2 ⊢
  rw [← hE.out]
  have HF2 := hid hF2
  have HB2 := hid (HB1.out.trans (hB2.mono HB1.out.size))
  have bk2 := (hB2.block _ (lt_of_block HBk1.out)).trans HBk1.out
  have y1 := cell_of_row w2 w.heap.size 1 _ _ _ bk2
  have HBk2 := hid bk2
  clear hF2 hB2 bk2
  by_cases e10 : E = 10
  · have b1 : (E == 10) = true := by simp [e10]
    have He := hid e10
    clear e10
    go_wp2
    go_ret2
    exact ⟨HB2.out, .inl ⟨He.out, by rw [He.out]; rfl⟩⟩
  have b1 : (E == 10) = false := by simpa using e10
  have b2 : (E == 2) = false := by simp; omega
  have HE10 := hid e10
  by_cases e0 : E = 0
  · have b3 : (E != 0) = false := by simp [e0]
    have HE0 := hid e0
    have wc1 : IntKind.u64.wrap (rn : Int) = (rn : Int) := by rw [IntKind.wrap_u64]; omega
    have wc2 : IntKind.u64.wrap (t.bytes : Int) = (t.bytes : Int) := by rw [IntKind.wrap_u64]; omega
    clear e0 e10 hkn
    by_cases el : rn = t.bytes
    · have b4 : ((rn : Int) != (t.bytes : Int)) = false := by simp; omega
      have HEl := hid el
      clear el
      go_wp2_with fail
      (with_reducible refine (opn_any q2 rn rn R w2 hrn.out.symm (Nat.le_refl _) hrn2 (frq_none HF2.out) HF2.out.rd).mono ?_)
      rintro e w3 ⟨hb3, ⟨hno, rfl⟩ | ⟨r, RA, hop, rfl, hat⟩⟩
      · have HB3 := hid (HB2.out.trans (hb3.mono HB2.out.size))
        have HNo := hid hno
        clear hb3 hno
        go_wp2
        go_ret2
        exact ⟨HB3.out, .inr (.inl ⟨HE10.out, fun ⟨fs, _, _, ⟨r, h1, _⟩, _⟩ => HNo.out ⟨r, h1⟩, rfl⟩)⟩
      have HB3 := hid (HB2.out.trans (hb3.mono HB2.out.size))
      have bk3 := (hb3.block _ (lt_of_block HBk2.out)).trans HBk2.out
      have HBk3 := hid bk3
      have HOp := hid hop
      have HAt := hid hat
      have HFr := hid (HFit.out r (by rw [← hR.out]; exact hop))
      clear hb3 bk3 hop hat y1
      go_wp2_with fail
      (with_reducible refine (allr_any RA r w3 HAt.out HFr.out).mono ?_)
      rintro e w4 ⟨hb4, ⟨hno, rfl⟩ | ⟨fs, hall, q4, rfl, hF4⟩⟩
      · have HB4 := hid (HB3.out.trans (hb4.mono HB3.out.size))
        have HNo := hid hno
        clear hb4 hno
        go_upto_region 11 with fail
        go_quiet (fail)
        have HB5 := hid (below_drewN HB4.out nq)
        obtain ⟨w5, hw5⟩ : ∃ w5, w5 = w4.drewN nq := ⟨_, rfl⟩
        rw [← hw5] at HB5 ⊢
        clear hw5
        go_wp2
        go_ret2
        exact ⟨HB5.out, .inr (.inl ⟨HE10.out, fun ⟨fs, _, _, ⟨r', h1, h2⟩, _⟩ => by
          obtain rfl := HOp.out.one h1
          exact HNo.out ⟨fs, h2⟩, rfl⟩)⟩
      have HB4 := hid (HB3.out.trans (hb4.mono HB3.out.size))
      have bk4 := (hb4.block _ (lt_of_block HBk3.out)).trans HBk3.out
      have y2 := cell_of_row w4 w.heap.size 2 _ _ _ bk4
      have y3 := cell_of_row w4 w.heap.size 3 _ _ _ bk4
      have HAll := hid hall
      have HF4 := hid hF4
      have hpos := hall.2.1.2
      obtain ⟨M, hM⟩ : ∃ M, M = fs.length - 1 := ⟨_, rfl⟩
      obtain ⟨N, hN⟩ : ∃ N, N = fs.length := ⟨_, rfl⟩
      have hNM : N = M + 1 := by omega
      have hMl : M < fs.length := by omega
      obtain ⟨b4, o4, e4, _, hf0⟩ := fact_at hF4.rd hpos
      obtain ⟨b5, o5, e5, _, hf1⟩ := fact_at hF4.rd hMl
      rw [e4] at e5
      cases e5
      obtain ⟨f, hf⟩ : ∃ f, f = fs[0] := ⟨_, rfl⟩
      obtain ⟨g, hg⟩ : ∃ g, g = fs[M] := ⟨_, rfl⟩
      rw [← hf, Nat.zero_mul, Nat.add_zero] at hf0
      rw [← hg] at hf1
      have k0 := hf0.c0
      have k1 := hf1.c0
      have hhead : fs.head? = some f := by rw [hf, List.head?_eq_getElem?, List.getElem?_eq_getElem hpos]
      have hlast : fs.getLast? = some g := by rw [hg, List.getLast?_eq_getElem?, ← hM, List.getElem?_eq_getElem hMl]
      rw [← hN, e4]
      have HE4 := hid e4
      have HN := hid hN
      have HHd := hid hhead
      have HLs := hid hlast
      have i0 : (0 : Int) < (N : Int) := by omega
      have i1 : (0 : Int) ≤ (M : Int) := by omega
      have i2 : (M : Int) < (N : Int) := by omega
      have z0 : ((N : Int) == 0) = false := by simp; omega
      have wM : IntKind.i64.wrap ((N : Int) - 1) = (M : Int) := by
        have h1 : fs.length ≤ 6000 := HFr.out.few fs HAll.out.1
        rw [IntKind.wrap_i64]; omega
      have HFk := hid (show ∀ fs', TabIs R t fs' → fs' = fs from fun fs' ⟨_, ⟨r', h1, h2⟩, _⟩ => by
        obtain rfl := HOp.out.one h1
        exact h2.1.one HAll.out.1)
      clear hb4 bk4 hall hF4 hpos hM hN hNM hMl e4 hf0 hf1 hf hg hhead hlast
      by_cases n0 : f.key = t.low
      · have p1 : (f.key.toList == t.low.toList) = true := by rw [n0]; exact beq_self_eq_true _
        have p2 : (f.key.toList != t.low.toList) = false := by rw [n0]; simp
        have HN0 := hid n0
        clear n0
        by_cases n1 : g.key = t.high
        · have p3 : (g.key.toList == t.high.toList) = true := by rw [n1]; exact beq_self_eq_true _
          have p4 : (g.key.toList != t.high.toList) = false := by rw [n1]; simp
          have HN1 := hid n1
          clear n1
          go_upto_region 11 with fail
          go_quiet (fail)
          have HB5 := hid (below_drewN HB4.out nq)
          have HF5 := hid (show Fr (w4.drewN nq) w3.heap.size 50 6 (.slice q4 fs.length fs.length) fs.length (fCells fs) from HF4.out)
          obtain ⟨w5, hw5⟩ : ∃ w5, w5 = w4.drewN nq := ⟨_, rfl⟩
          rw [← hw5] at HB5 HF5 ⊢
          clear hw5
          go_wp2
          go_ret2
          refine ⟨HB5.out, .inr (.inr ⟨fs, HE0.out, ⟨by rw [← hrn.out]; exact HEl.out, ⟨r, HOp.out, HAll.out⟩, f, g, HHd.out, HLs.out, HN0.out, HN1.out⟩, q4, by rw [← HN.out, HE4.out]; rfl, ?_⟩)⟩
          exact ⟨HF5.out.1, HF5.out.2.imp id fun ⟨g, cap, cur, h1, h2, h3⟩ => ⟨g, cap, cur, h1, Nat.le_trans HB3.out.size h2, h3⟩⟩
        · have p3 : (g.key.toList == t.high.toList) = false := by
            cases h : g.key.toList == t.high.toList
            · rfl
            · exact absurd (ba_ext (by simpa using h)) n1
          have p4 : (g.key.toList != t.high.toList) = true := by simpa [bne] using p3
          have HN1 := hid n1
          clear n1
          go_upto_region 11 with fail
          go_quiet (fail)
          have HB5 := hid (below_drewN HB4.out nq)
          obtain ⟨w5, hw5⟩ : ∃ w5, w5 = w4.drewN nq := ⟨_, rfl⟩
          rw [← hw5] at HB5 ⊢
          clear hw5
          go_wp2
          go_ret2
          exact ⟨HB5.out, .inr (.inl ⟨HE10.out, fun ⟨fs', _, h⟩ => by
            obtain rfl := HFk.out fs' h
            obtain ⟨_, _, f', g', _, h2, _, h4⟩ := h
            rw [HLs.out] at h2
            cases h2
            exact HN1.out h4, rfl⟩)⟩
      · have p1 : (f.key.toList == t.low.toList) = false := by
          cases h : f.key.toList == t.low.toList
          · rfl
          · exact absurd (ba_ext (by simpa using h)) n0
        have p2 : (f.key.toList != t.low.toList) = true := by simpa [bne] using p1
        have HN0 := hid n0
        clear n0
        go_upto_region 11 with fail
        go_quiet (fail)
        have HB5 := hid (below_drewN HB4.out nq)
        obtain ⟨w5, hw5⟩ : ∃ w5, w5 = w4.drewN nq := ⟨_, rfl⟩
        rw [← hw5] at HB5 ⊢
        clear hw5
        go_wp2
        go_ret2
        exact ⟨HB5.out, .inr (.inl ⟨HE10.out, fun ⟨fs', _, h⟩ => by
          obtain rfl := HFk.out fs' h
          obtain ⟨_, _, f', g', h1, _, h3, _⟩ := h
          rw [HHd.out] at h1
          cases h1
          exact HN0.out h3, rfl⟩)⟩
    · have b4 : ((rn : Int) != (t.bytes : Int)) = true := by simp; omega
      have HEl := hid el
      clear el
      go_wp2
      go_ret2
      exact ⟨HB2.out, .inr (.inl ⟨HE10.out, fun ⟨fs, _, h1, _⟩ => HEl.out (by rw [hrn.out]; exact h1), rfl⟩)⟩
  · have b3 : (E != 0) = true := by simpa using e0
    have HE0 := hid e0
    clear e0 e10 hkn
    go_wp2
    go_ret2
    exact ⟨HB2.out, .inr (.inl ⟨HE10.out, fun ⟨fs, h0, _⟩ => HE0.out h0, rfl⟩)⟩
end Go.Proofs.Herb
namespace Go.Proofs.Herb
open Go.RowKit Go.Sort
def filesF (next : Nat) : List (List Fact) → List (ByteArray × List UInt8)
  | [] => []
  | p :: r => (nmU next, tabB (lineF p) p) :: filesF (next + 1) r
theorem filesF_len (next : Nat) (ps : List (List Fact)) : (filesF next ps).length = ps.length := by
  induction ps generalizing next with
  | nil => rfl
  | cons p r ih => rw [filesF, List.length_cons, List.length_cons, ih]
theorem filesF_get (next : Nat) (ps : List (List Fact)) (i : Nat) : (filesF next ps)[i]? = (ps[i]?).map fun p => (nmU (next + i), tabB (lineF p) p) := by
  induction ps generalizing next i with
  | nil => rfl
  | cons p r ih =>
    cases i with
    | zero => rfl
    | succ i => rw [filesF, List.getElem?_cons_succ, List.getElem?_cons_succ, ih, show next + 1 + i = next + (i + 1) by omega]
noncomputable def cwE (s : DS) (next : Nat) (l : List Fact) : Int := if riseB l = false then 1 else if builtE (partsL l) ≠ 0 then builtE (partsL l) else putE s (filesF next (partsL l))
noncomputable def cwS (s : DS) (next : Nat) (l : List Fact) : DS := if riseB l = false then s else if builtE (partsL l) ≠ 0 then s else putS s (filesF next (partsL l))
theorem put_snoc : ∀ {l : List (ByteArray × List UInt8)} {s : DS} (_ : putE s l = 0) (x : ByteArray × List UInt8) (r : List (ByteArray × List UInt8)),
    (put1E (putS s l) x.1 x.2 = 0 → putE s (l ++ [x]) = 0 ∧ putS s (l ++ [x]) = put1S (putS s l) x.1 x.2) ∧ (put1E (putS s l) x.1 x.2 ≠ 0 → putE s (l ++ x :: r) = put1E (putS s l) x.1 x.2 ∧ putS s (l ++ x :: r) = put1S (putS s l) x.1 x.2)
  | [], s, _, x, r => by
    show (put1E s x.1 x.2 = 0 → (if put1E s x.1 x.2 ≠ 0 then put1E s x.1 x.2 else 0) = 0 ∧ (if put1E s x.1 x.2 ≠ 0 then put1S s x.1 x.2 else put1S s x.1 x.2) = _) ∧ (put1E s x.1 x.2 ≠ 0 → (if put1E s x.1 x.2 ≠ 0 then put1E s x.1 x.2 else _) = _ ∧ (if put1E s x.1 x.2 ≠ 0 then put1S s x.1 x.2 else _) = _)
    exact ⟨fun h => ⟨by rw [if_neg (fun q => q h)], by rw [if_neg (fun q => q h)]; rfl⟩, fun h => ⟨by rw [if_pos h]; rfl, by rw [if_pos h]; rfl⟩⟩
  | y :: t, s, h, x, r => by
    unfold putE at h
    have c0 : put1E s y.1 y.2 = 0 := by
      by_cases q : put1E s y.1 y.2 = 0
      · exact q
      · rw [if_pos q] at h; exact absurd h q
    rw [if_neg (fun q => q c0)] at h
    have ih := put_snoc h x r
    have e : ∀ u, putS s (y :: u) = putS (put1S s y.1 y.2) u := fun u => by
      show (if put1E s y.1 y.2 ≠ 0 then _ else _) = _
      rw [if_neg (fun q => q c0)]
    have e2 : ∀ u, putE s (y :: u) = putE (put1S s y.1 y.2) u := fun u => by
      show (if put1E s y.1 y.2 ≠ 0 then _ else _) = _
      rw [if_neg (fun q => q c0)]
    rw [List.cons_append, List.cons_append, e, e, e, e2, e2]
    exact ih
def tbCells (l : List Tab) : List Value := l.flatMap Tab.cells
theorem tbCells_append (a b : List Tab) : tbCells (a ++ b) = tbCells a ++ tbCells b := by simp [tbCells]
theorem flCells_at : ∀ (n : Nat) (ps : List (List Fact)) (vs : List Value) (i : Nat) (p : List Fact) (v : Value), ps[i]? = some p → vs[i]? = some v → ∀ j, j < 5 → (flCells n ps vs)[i * 5 + j]? = ((tabOf (n + i) p).cells ++ [v])[j]?
  | n, [], _, i, _, _, h, _, _, _ => by simp at h
  | n, _ :: _, [], i, _, _, _, h, _, _ => by simp at h
  | n, q :: ps, u :: vs, 0, p, v, h1, h2, j, hj => by
    simp only [List.getElem?_cons_zero, Option.some.injEq] at h1 h2
    subst h1 h2
    show ((tabOf n q).cells ++ u :: flCells (n + 1) ps vs)[0 * 5 + j]? = _
    rw [Nat.zero_mul, Nat.zero_add, show (tabOf n q).cells ++ u :: flCells (n + 1) ps vs = ((tabOf n q).cells ++ [u]) ++ flCells (n + 1) ps vs by simp]
    rw [List.getElem?_append_left (by simp [Tab.cells]; omega)]
    rfl
  | n, q :: ps, u :: vs, i + 1, p, v, h1, h2, j, hj => by
    rw [List.getElem?_cons_succ] at h1 h2
    show ((tabOf n q).cells ++ u :: flCells (n + 1) ps vs)[(i + 1) * 5 + j]? = _
    rw [show (tabOf n q).cells ++ u :: flCells (n + 1) ps vs = ((tabOf n q).cells ++ [u]) ++ flCells (n + 1) ps vs by simp]
    rw [List.getElem?_append_right (by simp [Tab.cells]; omega), show (i + 1) * 5 + j - ((tabOf n q).cells ++ [u]).length = i * 5 + j by simp [Tab.cells]; omega]
    rw [flCells_at (n + 1) ps vs i p v h1 h2 j hj, show n + 1 + i = n + (i + 1) by omega]
theorem clip_tables (a : Option Addr) (n c : Nat) (w : World) (hn : n ≤ c) (_hc : c ≤ maxLen) :
    Calls Tryz.prog 36 #[.slice a n c] w fun e w' => e = .returned (.slice a n n) ∧ w = w' := by
  unfold maxLen at _hc
  go_enter Tryz.func36, Tryz.ntmps36
  go_wp2
  go_ret
  exact ⟨rfl, rfl⟩
theorem infoTb : (Tryz.prog.info? 41).map (fun i => (i.zero, i.size, i.bytes)) = some (some (.agg #[.int .u64 0, .int .u32 0, .string ⟨#[]⟩, .string ⟨#[]⟩]), 4, 48) := by kernel_rfl
theorem Mod.atc {fp fp' : List Nat} {w w' : World} (h : Mod fp fp' w w') {g : Nat} {o : Obj} (hg : w.heap[g]? = some o) (hn : g ∉ fp) : w'.heap[g]? = some o ∧ g ∉ fp' :=
  ⟨(h.block g (lt_of_block hg) hn).trans hg, fun e => by
    rcases h.grow g e with q | q
    · exact hn q
    · have := lt_of_block hg; omega⟩
theorem Pow10.lt {w : World} (h : Pow10 w) : 0 < w.heap.size := by
  unfold Pow10 Lib.TabIs World.var? at h
  rw [gPow10] at h
  simp only [Option.bind_some] at h
  rcases Nat.lt_or_ge 0 w.heap.size with q | q
  · exact q
  · rw [Array.getElem?_eq_none q] at h; cases h
theorem Pow10.mod {w w' : World} {fp fp' : List Nat} (h : Pow10 w) (hm : Mod fp fp' w w') (hg : 0 ∉ fp) : Pow10 w' := by
  have hl := h.lt
  unfold Pow10 Lib.TabIs World.var? at *
  rw [gPow10] at *
  simp only [Option.bind_some] at *
  rw [hm.block _ hl hg]
  exact h
theorem Mod.of_below' {fp : List Nat} {w w' : World} (h : Below w.heap.size w w') : Mod fp fp w w' := ⟨h.os, h.tape, h.output, h.size, fun k hk _ => h.block k hk, fun _ hk => .inl hk⟩
/-- where the loop stands -/
structure CwI (wB : World) (md : DM) (s : DS) (fs : List (ByteArray × List UInt8)) (ts : List Tab) (k : Nat) (md' : DM) (o : Value) (wr : World) : Prop where
  disk : DiskAt wr md' (putS s (fs.take k))
  hD : md'.D = md.D
  mod : Mod md.fp md'.fp wB wr
  own : wr.ownsRow wB.heap.size 41 4 o k (tbCells (ts.take k))
  apart : ∀ g, o.ownBlock = some g → g ∉ md'.fp
  ok : putE s (fs.take k) = 0
def WriteC (md : DM) (s : DS) (next : Nat) (l : List Fact) (w : World) (e : Ending) (w' : World) : Prop :=
  ∃ md' : DM, DiskAt w' md' (cwS s next l) ∧ md'.D = md.D ∧ Mod md.fp md'.fp w w' ∧ ((cwE s next l ≠ 0 ∧ e = .returned (.tuple #[.slice none 0 0, .int .u64 0, .int .i64 (cwE s next l)])) ∨
    (cwE s next l = 0 ∧ ∃ a, e = .returned (.tuple #[.slice a (partsL l).length (partsL l).length, .int .u64 ((next + (partsL l).length : Nat) : Int), .int .i64 0]) ∧ Fr w' w.heap.size 41 4 (.slice a (partsL l).length (partsL l).length) (partsL l).length (tbCells (tabsF next (partsL l))) ∧ ∀ b off, a = some ⟨b, off, none⟩ → b ∉ md'.fp))
theorem partsL_len (l : List Fact) : (partsL l).length ≤ l.length := by
  unfold partsL
  rw [List.length_map]
  exact (parts_ok l).len
set_option maxRecDepth 100000 in
set_option maxHeartbeats 6400000 in
theorem chw_any (md : DM) (s : DS) (n next : Nat) (q : Option Addr) (nl c : Nat) (l : List Fact) (w : World) (h : DiskAt w md s) (ok : DsOk s n) (hn : n ≤ 800000) (hnx : next + 6001 < 18446744073709551616) (hl : l.length = nl) (hm : nl ≤ 6000) (hc : nl ≤ c) (hr : Rd w q (fCells l)) (ho : ∀ f ∈ l, f.Ok) (hz : ∀ f ∈ l, f.key.size ≤ 140737488355328 ∧ f.val.size ≤ 140737488355328) (ht : Pow10 w) (hgp : 0 ∉ md.fp) :
    Calls Tryz.prog 13 #[.pointer (some ⟨md.D, 0, none⟩), .int .u64 (next : Int), .slice q nl c] w (WriteC md s next l w) := by
  have HD := hid h
  have HO := hid ok
  have HL := hid hl
  have HR := hid hr
  have Ho := hid ho
  have Hz := hid hz
  have HT := hid ht
  obtain ⟨RB, hRB⟩ : ∃ b : Bool, Hid (b = riseB l) := ⟨_, hid rfl⟩
  have HGp := hid hgp
  clear h ok hl hr ho hz ht hgp
  unfold WriteC
  go_enter Tryz.func13, Tryz.ntmps13
  go_wp2_with fail
  (with_reducible refine (cthere_any md s n w HD.out HO.out HT.out).mono ?_)
  rintro e w1 ⟨rfl, hb1⟩
  have HB1 := hid hb1
  clear hb1
  go_wp2_with fail
  (with_reducible refine (rising_any q nl c l w1 HL.out hm (HR.out.below HB1.out)).mono ?_)
  rintro e w2 ⟨rfl, hb2⟩
  rw [← hRB.out]
  have HB2 := hid (HB1.out.trans (hb2.mono HB1.out.size))
  clear hb2
  cases RB
  · have hE : cwE s next l = 1 := by unfold cwE; rw [if_pos hRB.out.symm]
    have hS : cwS s next l = s := by unfold cwS; rw [if_pos hRB.out.symm]
    have HE := hid hE
    have HS := hid hS
    clear hE hS
    go_wp2
    go_ret3
    exact ⟨md, by rw [HS.out]; exact HD.out.below HB2.out, rfl, Mod.of_below' HB2.out, .inl ⟨by rw [HE.out]; decide, by rw [HE.out]; rfl⟩⟩
  go_wp2_with fail
  (with_reducible refine (built_any next q nl c l w2 hnx HL.out hm hc (HR.out.below HB2.out) Ho.out Hz.out).mono ?_)
  rintro e w3 ⟨hb3, ⟨hE, rfl⟩ | ⟨hE0, a, ca, vs, rfl, hown, hrows⟩⟩
  · have HB3 := hid (HB2.out.trans (hb3.mono HB2.out.size))
    obtain ⟨E, hEd⟩ : ∃ E : Int, Hid (E = builtE (partsL l)) := ⟨_, hid rfl⟩
    have hCE : cwE s next l = E := by unfold cwE; rw [if_neg (by rw [← hRB.out]; decide), if_pos hE, hEd.out]
    have hCS : cwS s next l = s := by unfold cwS; rw [if_neg (by rw [← hRB.out]; decide), if_pos hE]
    rw [← hEd.out] at hE ⊢
    have bE : (E != 0) = true := by simpa using hE
    have HE := hid hE
    have HCE := hid hCE
    have HCS := hid hCS
    clear hb3 hE hCE hCS
    go_wp2
    go_ret3
    exact ⟨md, by rw [HCS.out]; exact HD.out.below HB3.out, rfl, Mod.of_below' HB3.out, .inl ⟨by rw [HCE.out]; exact HE.out, by rw [HCE.out]; rfl⟩⟩
  have HB3 := hid (HB2.out.trans (hb3.mono HB2.out.size))
  obtain ⟨ps, hps⟩ : ∃ ps, Hid (ps = partsL l) := ⟨_, hid rfl⟩
  have hCE : cwE s next l = putE s (filesF next ps) := by unfold cwE; rw [if_neg (by rw [← hRB.out]; decide), if_neg (fun h => h hE0), hps.out]
  have hCS : cwS s next l = putS s (filesF next ps) := by unfold cwS; rw [if_neg (by rw [← hRB.out]; decide), if_neg (fun h => h hE0), hps.out]
  have hpl := partsL_len l
  have hTLs : ∀ p ∈ ps, (tabB (lineF p) p).length ≤ 65536 := fun p hp => (buildE_zero.1 (built_zero hE0 p (by rw [← hps.out]; exact hp))).2
  rw [← hps.out] at hown hrows hpl ⊢
  have hs23 := HB2.out.size
  have hown0 := fr_mono (Fr.of_own hown) hs23
  have hrows0 := hrows.mono hs23
  obtain ⟨N, hN⟩ : ∃ N, N = ps.length := ⟨_, rfl⟩
  rw [← hN] at hown0 hpl ⊢
  have hN6 : N ≤ 6000 := by have := HL.out; omega
  have hD3 := HD.out.below HB3.out
  have HD3 := hid hD3
  have HCE := hid hCE
  have HCS := hid hCS
  have HTl := hid hTLs
  have HFl := hid hown0
  have HRw := hid hrows0
  have HN := hid hN
  have HLt := hid (fun (k : Nat) => HD.out.lt k)
  have hs03 := HB3.out.size
  have bE : ((0 : Int) != 0) = false := rfl
  clear hb3 hE0 hCE hCS hown hrows hown0 hrows0 hN hD3 hTLs
  obtain ⟨FS, hFS⟩ : ∃ FS, Hid (FS = filesF next ps) := ⟨_, hid rfl⟩
  obtain ⟨TS, hTS⟩ : ∃ TS, Hid (TS = tabsF next ps) := ⟨_, hid rfl⟩
  have HI0 := hid (show CwI w3 md s FS TS 0 md (.slice none 0 0) w3 from ⟨by rw [List.take_zero]; exact HD3.out, rfl, Mod.refl _ _, World.ownsRow_nil _ _ _ _, fun g hg => (by cases hg), by rw [List.take_zero]; rfl⟩)
  go_wp2_with fail
  go_loopw [11, 34] (fun o i wr => ∃ (k : Nat) (md' : DM), i = .int .i64 (k : Int) ∧ k ≤ N ∧ CwI w3 md s FS TS k md' o wr) (fun _ i _ => N - (intOf i).toNat)
  case atStart => exact ⟨0, md, rfl, Nat.zero_le _, HI0.out⟩
  case round =>
    obtain ⟨k, md', rfl, hk, hI⟩ := hrel
    obtain ⟨qo, co, rfl, hco1, hco2, hco3⟩ := own_shape hI.own
    have HI := hid hI
    clear hI
    by_cases hlt : k < N
    · have hkp : k < ps.length := by rw [← HN.out]; exact hlt
      obtain ⟨p, hp⟩ : ∃ p, p = ps[k] := ⟨_, rfl⟩
      have hpk : ps[k]? = some p := by rw [List.getElem?_eq_getElem hkp, hp]
      have hvk : k < vs.length := by rw [HRw.out.1]; exact hkp
      obtain ⟨pa, hpv, hpf⟩ := HRw.out.2 k vs[k] p (List.getElem?_eq_getElem hvk) hpk
      have hcells := flCells_at next ps vs k p vs[k] hpk (List.getElem?_eq_getElem hvk)
      have hTL := HTl.out p (List.mem_of_getElem? hpk)
      rw [hpv] at hpf hcells
      obtain ⟨BB, hBB⟩ : ∃ BB, Hid (BB = tabB (lineF p) p) := ⟨_, hid rfl⟩
      obtain ⟨TL, hTLd⟩ : ∃ TL, Hid (TL = BB.length) := ⟨_, hid rfl⟩
      rw [← hBB.out, ← hTLd.out] at hpf hcells hTL
      obtain ⟨lo, hlo⟩ : ∃ lo, Hid (lo = (propsF (lineF p) p).low) := ⟨_, hid rfl⟩
      obtain ⟨hi, hhi⟩ : ∃ hi, Hid (hi = (propsF (lineF p) p).high) := ⟨_, hid rfl⟩
      obtain ⟨NX, hNX⟩ : ∃ NX, NX = next + k := ⟨_, rfl⟩
      have hNXl : NX < 18446744073709551616 := by omega
      -- the file's cells where the loop stands
      have hsame : ∀ g, w.heap.size ≤ g → g < w3.heap.size → wr.heap[g]? = w3.heap[g]? ∧ g ∉ md'.fp := fun g e1 e2 => by
        have hnot : g ∉ md.fp := fun e => by have := HLt.out g e; omega
        refine ⟨HI.out.mod.block g e2 hnot, fun e => ?_⟩
        rcases HI.out.mod.grow g e with h | h
        · exact hnot h
        · omega
      have hcell : ∃ fb : Nat, a = some ⟨fb, 0, none⟩ ∧ ∀ j u, j < 5 → ((tabOf (next + k) p).cells ++ [Value.slice pa TL TL])[j]? = some u → wr.cell? ⟨fb, k * 5 + j, none⟩ = some u := by
        rcases HFl.out.2 with ⟨_, h0⟩ | ⟨g, cap, cur, e, hge, hh, _, _, _, hcur⟩
        · omega
        · cases e
          refine ⟨g, rfl, fun j u hj hu => ?_⟩
          have h1 := hcells j hj
          unfold tabOf at h1 hu
          rw [← hBB.out, ← hTLd.out] at h1 hu
          rw [hu] at h1
          have hrow := (hsame g hge (lt_of_block hh)).1.trans hh
          rw [cell_of_row wr g _ _ _ _ hrow]
          obtain ⟨hlt2, hval⟩ := List.getElem?_eq_some_iff.1 h1
          exact (by rw [← hcur, List.getElem?_take_of_lt (by omega)] at h1; simpa using h1)
      obtain ⟨fb, ea, hcc⟩ := hcell
      subst ea
      have ht5 : (tabOf (next + k) p).cells ++ [Value.slice pa TL TL] = [.int .u64 (NX : Int), .int .u32 (TL : Int), .string lo, .string hi, .slice pa TL TL] := by
        unfold tabOf Tab.cells
        dsimp only
        rw [← hBB.out, ← hTLd.out, ← hlo.out, ← hhi.out, ← hNX]
        rfl
      rw [ht5] at hcc
      have c0 : wr.cell? ⟨fb, k * 5, none⟩ = some (.int .u64 (NX : Int)) := hcc 0 _ (by omega) rfl
      have c1 : wr.cell? ⟨fb, k * 5 + 1, none⟩ = some (.int .u32 (TL : Int)) := hcc 1 _ (by omega) rfl
      have c2 : wr.cell? ⟨fb, k * 5 + 2, none⟩ = some (.string lo) := hcc 2 _ (by omega) rfl
      have c3 : wr.cell? ⟨fb, k * 5 + 3, none⟩ = some (.string hi) := hcc 3 _ (by omega) rfl
      have c4 : wr.cell? ⟨fb, k * 5 + 4, none⟩ = some (.slice pa TL TL) := hcc 4 _ (by omega) rfl
      have i0 : (0 : Int) ≤ (k : Int) := by omega
      have i1 : (k : Int) < (N : Int) := by omega
      obtain ⟨S0, hS0⟩ : ∃ S0, Hid (S0 = putS s (FS.take k)) := ⟨_, hid rfl⟩
      have hO0 : DsOk S0 (n + 12000) := by
        rw [hS0.out]
        refine (HO.out.put (FS.take k)).mono ?_
        have h1 : (FS.take k).length ≤ k := by rw [List.length_take]; omega
        omega
      have HO0 := hid hO0
      have hg0 : 0 ∉ md'.fp := fun e => by
        rcases HI.out.mod.grow _ e with q | q
        · exact HGp.out q
        · have := HT.out.lt; omega
      have HPr := hid ((HT.out.below HB3.out (Nat.le_refl _)).mod HI.out.mod HGp.out)
      have HGm := hid hg0
      have HSame := hid hsame
      have HPf := hid hpf
      have HPk := hid hpk
      have HNX := hid hNX
      have hFk : FS[k]? = some (nmU NX, BB) := by rw [hFS.out, filesF_get, hpk, hNX, hBB.out]; rfl
      have hTk : TS[k]? = some ⟨NX, TL, lo, hi⟩ := by
        rw [hTS.out, tabsF_get, hpk, hNX]
        show some (tabOf (next + k) p) = _
        unfold tabOf
        rw [← hBB.out, ← hTLd.out, ← hlo.out, ← hhi.out]
      have HFk := hid hFk
      have HTk := hid hTk
      clear hsame hpf hpk hp hkp hvk hpv hcells hcc ht5 hO0 hg0 hFk hTk hNX
      go_upto_region 12 with fail
      obtain ⟨Wf, hWf⟩ : ∃ Wf, Wf = wr.alloc (.cells #[.int .u64 (NX : Int), .int .u32 (TL : Int), .string lo, .string hi, .slice pa TL TL] 78) := ⟨_, rfl⟩
      have hbf : Below wr.heap.size wr Wf := by rw [hWf]; exact (Below.refl _ _).alloc (Nat.le_refl _) _
      have hbox : Wf.heap[wr.heap.size]? = some (.cells #[.int .u64 (NX : Int), .int .u32 (TL : Int), .string lo, .string hi, .slice pa TL TL] 78 (0, 0)) := by rw [hWf]; exact heap_alloc_new _ _
      have z0 := cell_of_row Wf wr.heap.size 0 _ _ _ hbox
      have hbn : wr.heap.size ∉ md'.fp := fun e => by have := HI.out.disk.lt _ e; omega
      rw [← hWf]
      have HBf := hid hbf
      have HBx := hid hbox
      have HBn := hid hbn
      clear hWf hbf hbox hbn c0 c1 c2 c3 c4
      go_wp2_with fail
      (with_reducible refine (name_any NX hNXl Wf (HPr.out.below HBf.out (Nat.le_refl _))).mono ?_)
      rintro e w4 ⟨rfl, hb4⟩
      have HB4 := hid (HBf.out.trans (hb4.mono HBf.out.size))
      have hbx4 := (hb4.block _ (lt_of_block HBx.out)).trans HBx.out
      have HBx4 := hid hbx4
      clear hb4 hbx4 z0
      have hcr := create_any md' S0 (nmU NX) w4 (by rw [hS0.out]; exact HI.out.disk.below HB4.out) (nm_max NX hNXl) HO0.out.f0 HO0.out.f1 (by have := HO0.out.files; omega) (by have := HO0.out.changes; omega) (by have := HO0.out.good.many; omega)
      rw [HI.out.hD] at hcr
      obtain ⟨E1, hE1⟩ : ∃ E : Int, Hid (E = createE S0 (nmU NX)) := ⟨_, hid rfl⟩
      obtain ⟨S1, hS1⟩ : ∃ S, Hid (S = createS S0 (nmU NX)) := ⟨_, hid rfl⟩
      rw [← hE1.out, ← hS1.out] at hcr
      have HCr := hid hcr
      clear hcr
      go_wp2_with fail
      (with_reducible refine HCr.out.mono ?_)
      rintro e w5 ⟨md1, rfl, hd1, hDD1, hM1⟩
      have HD1 := hid hd1
      have HDD1 := hid hDD1
      have HM5 := hid ((HI.out.mod.trans (Mod.of_below' HB4.out)).trans hM1)
      have hx5 := hM1.atc HBx4.out HBn.out
      have HX5 := hid hx5
      have HG1 := hid ((HPr.out.below HB4.out (Nat.le_refl _)).mod hM1 HGm.out)
      have HGm1 := hid (show 0 ∉ md1.fp from fun e => by
        rcases HM5.out.grow _ e with q | q
        · exact HGp.out q
        · have := HT.out.lt; omega)
      have HBk5 := hid (show ∀ (g : Nat) (o : Obj), w.heap.size ≤ g → w3.heap[g]? = some o → w5.heap[g]? = some o ∧ g ∉ md1.fp from fun g o e1 e2 => by
        have h1 := HSame.out g e1 (lt_of_block e2)
        have h2 := (HB4.out.block g (by have := HI.out.mod.size; have := lt_of_block e2; omega)).trans (h1.1.trans e2)
        exact hM1.atc h2 h1.2)
      have HOw5 := hid (show w5.ownsRow w3.heap.size 41 4 (.slice qo k co) k (tbCells (TS.take k)) ∧ ∀ g, (Value.slice qo k co).ownBlock = some g → g ∉ md1.fp from by
        have h0 := own_below HI.out.own HB4.out
        refine ⟨own_keep h0 fun g hg => hM1.block g (bown_lt h0 g hg).2 (HI.out.apart g hg), fun g hg e => ?_⟩
        rcases hM1.grow g e with q | q
        · exact HI.out.apart g hg q
        · have := (bown_lt h0 g hg).2; omega)
      clear hd1 hDD1 hM1 hx5 HCr
      have HFSk := hid (show FS = FS.take k ++ (nmU NX, BB) :: FS.drop (k + 1) by
        have hk2 := (List.getElem?_eq_some_iff.1 HFk.out)
        obtain ⟨hk3, hk4⟩ := hk2
        rw [← hk4, ← List.drop_eq_getElem_cons hk3, List.take_append_drop])
      by_cases q1 : E1 = 0
      · have b1 : (E1 == 0) = true := by simpa using q1
        have HQ1 := hid q1
        have ec : createE S0 (nmU NX) = 0 := by rw [← hE1.out]; exact q1
        have Hec := hid ec
        clear q1 ec
        have y0 := cell_of_row w5 wr.heap.size 0 _ _ _ HX5.out.1
        have y4 := cell_of_row w5 wr.heap.size 4 _ _ _ HX5.out.1
        have hO1 : DsOk S1 (n + 12002) := by rw [hS1.out]; exact (HO0.out.create _).mono (by omega)
        have HO1 := hid hO1
        have hap := append_any md1 S1 (nmU NX) (nm_max NX hNXl) pa TL TL BB
        have HAp := hid hap
        clear hO1 hap
        go_upto_region 14 with fail
        refine wp_region_split (S := fun w' => w'.cell? ⟨wr.heap.size, 0, none⟩ = some (.int .u64 (NX : Int)) ∧ w'.cell? ⟨wr.heap.size, 4, none⟩ = some (.slice pa TL TL)) 8 (by kernel_rfl) (by kernel_rfl) ⟨y0, y4⟩ (fun hHeld => ?_)
        simp only [List.take_succ_cons, List.take_zero, List.drop_succ_cons, List.drop_zero]
        refine take_held (v := ?_) 0 rfl (by kernel_rfl) (by kernel_rfl) (by kernel_rfl) (fun _ _ _ h => h) (Or.inl ⟨by rfl, ?_⟩) (by assumption) ?_
        rotate_left
        · intro wS hSw
          obtain ⟨s0, s1⟩ := hSw
          go_simp
          try with_reducible rfl
        simp only [Act.put, List.setIfInBounds_toArray, List.set_cons_zero, List.set_cons_succ]
        refine take_held (v := ?_) 1 rfl (by kernel_rfl) (by kernel_rfl) (by kernel_rfl) (fun _ _ _ h => h) (Or.inl ⟨by rfl, ?_⟩) (by assumption) ?_
        rotate_left
        · intro wS hSw
          obtain ⟨s0, s1⟩ := hSw
          go_simp
          try with_reducible rfl
        simp only [Act.put, List.setIfInBounds_toArray, List.set_cons_zero, List.set_cons_succ]
        refine take_held (v := ?_) 2 rfl (by kernel_rfl) (by kernel_rfl) (by kernel_rfl) (fun _ _ _ h => h) (Or.inl ⟨by rfl, ?_⟩) (by assumption) ?_
        rotate_left
        · intro wS hSw
          obtain ⟨s0, s1⟩ := hSw
          go_simp
          try with_reducible rfl
        simp only [Act.put, List.setIfInBounds_toArray, List.set_cons_zero, List.set_cons_succ]
        refine take_held (v := ?_) 3 rfl (by kernel_rfl) (by kernel_rfl) (by kernel_rfl) (fun _ _ _ h => h) (Or.inl ⟨by rfl, ?_⟩) (by assumption) ?_
        rotate_left
        · intro wS hSw
          obtain ⟨s0, s1⟩ := hSw
          go_simp
          try with_reducible rfl
        simp only [Act.put, List.setIfInBounds_toArray, List.set_cons_zero, List.set_cons_succ]
        refine take_held (v := ?_) 5 rfl (by kernel_rfl) (by kernel_rfl) (by kernel_rfl) (fun _ _ _ h => h) (Or.inl ⟨by rfl, ?_⟩) (by assumption) ?_
        rotate_left
        · intro wS hSw
          obtain ⟨s0, s1⟩ := hSw
          go_simp
          try with_reducible rfl
        simp only [Act.put, List.setIfInBounds_toArray, List.set_cons_zero, List.set_cons_succ]
        refine take_held (v := ?_) 6 rfl (by kernel_rfl) (by kernel_rfl) (by kernel_rfl) (fun _ _ _ h => h) (Or.inl ⟨by rfl, ?_⟩) (by assumption) ?_
        rotate_left
        · intro wS hSw
          obtain ⟨s0, s1⟩ := hSw
          go_simp
          try with_reducible rfl
        simp only [Act.put, List.setIfInBounds_toArray, List.set_cons_zero, List.set_cons_succ]
        refine wpAnyH_ready (rs := [4]) (by kernel_rfl) (by simp) ?_
        refine cons_held 4 rfl (fun K hK => ?_) AllReadyH.nil
        go_simp
        refine (name_any NX hNXl _ (HG1.out.below (Below.refl _ _).drew (Nat.le_refl _))).mono ?_
        rintro e w6 ⟨rfl, hb6⟩
        have hb6 : Below w5.heap.size w5 w6 := (Below.refl _ _).drew.trans hb6
        have HB6 := hid hb6
        have k0 : w6.cell? ⟨wr.heap.size, 0, none⟩ = some (.int .u64 (NX : Int)) := (hb6.cell (World.block_lt_of_cell? w5 _ y0)).trans y0
        have k4 : w6.cell? ⟨wr.heap.size, 4, none⟩ = some (.slice pa TL TL) := (hb6.cell (World.block_lt_of_cell? w5 _ y4)).trans y4
        refine hK.out _ _ ⟨k0, k4⟩ (fun hHeld2 => ?_)
        clear hK K hb6 y0 y4
        refine wpAnyH_ready (rs := [7]) (by kernel_rfl) (by simp) ?_
        refine cons_held 7 rfl (fun K hK => ?_) AllReadyH.nil
        go_simp
        have hrow6 : Fr w6 w.heap.size 5 1 (.slice pa TL TL) TL (BB.map bv) ∧ ∀ b off, pa = some ⟨b, off, none⟩ → b ∉ md1.fp := by
          have hf := HPf.out
          refine ⟨⟨hf.1, ?_⟩, fun b off e => ?_⟩
          · rcases hf.2 with h | ⟨g, cap, cur, hv, hg, hh, r⟩
            · exact .inl h
            · exact .inr ⟨g, cap, cur, hv, hg, (HB6.out.block g (lt_of_block (HBk5.out g _ (by omega) hh).1)).trans (HBk5.out g _ (by omega) hh).1, r⟩
          · rcases hf.2 with ⟨h, _⟩ | ⟨g, cap, cur, hv, hg, hh, r⟩
            · rw [e] at h; cases h
            · rw [e] at hv
              cases hv
              exact (HBk5.out b _ (by omega) hh).2
        have hap2 := HAp.out w6 (HD1.out.below HB6.out) HO1.out.good.ok (Nat.le_trans (used_le HO1.out) (by have : (n + 12002) * 4194304 ≤ 900000 * 4194304 := Nat.mul_le_mul_right _ (by omega); omega)) HO1.out.f0 HO1.out.f1 HO1.out.r0 HO1.out.r1 hTLd.out.symm (Nat.le_refl _) (by unfold maxLen; omega) hrow6.1.rd (frq_none hrow6.1) (fun _ b off e => hrow6.2 b off e) (fun f hf => by have := (HO1.out.sure f hf).2; omega)
        rw [HDD1.out] at hap2
        obtain ⟨E2, hE2⟩ : ∃ E : Int, Hid (E = appendE S1 (nmU NX) BB) := ⟨_, hid rfl⟩
        obtain ⟨S2, hS2⟩ : ∃ S, Hid (S = appendS S1 (nmU NX) BB) := ⟨_, hid rfl⟩
        rw [← hE2.out, ← hS2.out] at hap2
        refine hap2.mono ?_
        clear hap2 hrow6
        rintro e w7 ⟨md2, rfl, hd2, hDD2, hM2⟩
        have HD2 := hid hd2
        have HDD2 := hid hDD2
        have HM7 := hid ((HM5.out.trans (Mod.of_below' HB6.out)).trans hM2)
        have hx7 := hM2.atc ((HB6.out.block _ (lt_of_block HX5.out.1)).trans HX5.out.1) HX5.out.2
        have HX7 := hid hx7
        have HG2 := hid ((HG1.out.below HB6.out (Nat.le_refl _)).mod hM2 HGm1.out)
        have HGm2 := hid (show 0 ∉ md2.fp from fun e => by
          rcases HM7.out.grow _ e with q | q
          · exact HGp.out q
          · have := HT.out.lt; omega)
        have HOw7 := hid (show w7.ownsRow w3.heap.size 41 4 (.slice qo k co) k (tbCells (TS.take k)) ∧ ∀ g, (Value.slice qo k co).ownBlock = some g → g ∉ md2.fp from by
          have h0 := own_below HOw5.out.1 HB6.out
          refine ⟨own_keep h0 fun g hg => hM2.block g (bown_lt h0 g hg).2 (HOw5.out.2 g hg), fun g hg e => ?_⟩
          rcases hM2.grow g e with q | q
          · exact HOw5.out.2 g hg q
          · have := (bown_lt h0 g hg).2; omega)
        have k0 := cell_of_row w7 wr.heap.size 0 _ _ _ hx7.1
        have k4 := cell_of_row w7 wr.heap.size 4 _ _ _ hx7.1
        clear hd2 hDD2 hM2 hx7
        refine hK.out _ _ ⟨k0, k4⟩ (fun hHeld3 => ?_)
        clear hK K
        try simp only [Act.put, List.setIfInBounds_toArray, List.set_cons_zero, List.set_cons_succ]
        refine wpAnyH_done (by kernel_rfl) ?_ _
        rw [headQ_normal]
        by_cases q2 : E2 = 0
        · have b2 : (E2 == 0) = true := by simpa using q2
          have HQ2 := hid q2
          have ea : appendE S1 (nmU NX) BB = 0 := by rw [← hE2.out]; exact q2
          have Hea := hid ea
          have hO2 : DsOk S2 (n + 12002) := by rw [hS2.out]; exact HO1.out.append _ _
          have HO2 := hid hO2
          clear q2 ea hO2 k4
          go_wp2_with fail
          (with_reducible refine (name_any NX hNXl w7 HG2.out).mono ?_)
          rintro e w8 ⟨rfl, hb8⟩
          have HB8 := hid hb8
          clear hb8 k0
          have hsy := sync_any md2 S2 (nmU NX) (nm_max NX hNXl) w8 (HD2.out.below HB8.out) HO2.out.good.ok HO2.out.f0 HO2.out.f1
          rw [HDD2.out] at hsy
          obtain ⟨E3, hE3⟩ : ∃ E : Int, Hid (E = syncE S2 (nmU NX)) := ⟨_, hid rfl⟩
          obtain ⟨S3, hS3⟩ : ∃ S, Hid (S = syncS S2 (nmU NX)) := ⟨_, hid rfl⟩
          rw [← hE3.out, ← hS3.out] at hsy
          have HSy := hid hsy
          clear hsy
          go_wp2_with fail
          (with_reducible refine HSy.out.mono ?_)
          rintro e w9 ⟨rfl, hd3, hM3⟩
          have HD3' := hid hd3
          have HM9 := hid ((HM7.out.trans (Mod.of_below' HB8.out)).trans hM3)
          have hx9 := hM3.atc ((HB8.out.block _ (lt_of_block HX7.out.1)).trans HX7.out.1) HX7.out.2
          have HX9 := hid hx9
          have HOw9 := hid (show w9.ownsRow w3.heap.size 41 4 (.slice qo k co) k (tbCells (TS.take k)) from by
            have h0 := own_below HOw7.out.1 HB8.out
            exact own_keep h0 fun g hg => hM3.block g (bown_lt h0 g hg).2 (HOw7.out.2 g hg))
          have HLt9 := hid (show w3.heap.size ≤ w9.heap.size from HM9.out.size)
          clear hd3 hM3 hx9 HSy
          by_cases q3 : E3 = 0
          · have b3 : (E3 == 0) = true := by simpa using q3
            have b4 : (E3 != 0) = false := by simp [q3]
            have e1 : put1E S0 (nmU NX) BB = 0 := by unfold put1E; rw [if_neg (fun q => q Hec.out), ← hS1.out, if_neg (fun q => q Hea.out), ← hS2.out, ← hE3.out]; exact q3
            have e2 : put1S S0 (nmU NX) BB = S3 := by unfold put1S; rw [if_neg (fun q => q Hec.out), ← hS1.out, if_neg (fun q => q Hea.out), ← hS2.out, ← hS3.out]
            have hfin := (put_snoc HI.out.ok (nmU NX, BB) []).1 (by rw [← hS0.out]; exact e1)
            rw [← hS0.out] at hfin
            dsimp only at hfin
            rw [e2] at hfin
            have hk2 := List.getElem?_eq_some_iff.1 HFk.out
            obtain ⟨hk3, hk4⟩ := hk2
            have hft : FS.take (k + 1) = FS.take k ++ [(nmU NX, BB)] := by rw [List.take_succ_eq_append_getElem hk3, hk4]
            have hk5 := List.getElem?_eq_some_iff.1 HTk.out
            obtain ⟨hk6, hk7⟩ := hk5
            have htt : tbCells (TS.take (k + 1)) = tbCells (TS.take k) ++ [.int .u64 (NX : Int), .int .u32 (TL : Int), .string lo, .string hi] := by
              rw [List.take_succ_eq_append_getElem hk6, hk7, tbCells_append]
              rfl
            rw [← hft] at hfin
            have HFin := hid hfin
            have HTt := hid htt
            have z0 := cell_of_row w9 wr.heap.size 0 _ _ _ HX9.out.1
            have z1 := cell_of_row w9 wr.heap.size 1 _ _ _ HX9.out.1
            have z2 := cell_of_row w9 wr.heap.size 2 _ _ _ HX9.out.1
            have z3 := cell_of_row w9 wr.heap.size 3 _ _ _ HX9.out.1
            clear e1 e2 hfin hk3 hk4 hft hk6 hk7 htt q3
            go_wp2_with (refine wpList_append_at rfl (.tmp 65) (.tmp 68) 27 rfl w3.heap.size 41 _ 4 48 Tryz.underlying27 infoTb rfl (by decide) (.slice qo k co) k (tbCells (TS.take k)) rfl (own_below HOw9.out ((Below.refl w9.heap.size w9).alloc (Nat.le_refl _) _)) (some ⟨w9.heap.size, 0, none⟩) 1 1 [.int .u64 (NX : Int), .int .u32 (TL : Int), .string lo, .string hi] rfl (fun h => by cases h) rfl (Rd.new _ _ _) (by simp [Value.oneCell']) (by unfold maxLen; omega) (by omega) (by simp; have := HLt9.out; omega) ?_; intro v10 w10 hown10 hg10 hat10; have hown10 := hid hown10; have hg10 := hid hg10; have hat10 := hid hat10)
            have hz9 : (w9.alloc (.cells #[.int .u64 (NX : Int), .int .u32 (TL : Int), .string lo, .string hi] 41)).heap.size = w9.heap.size + 1 := by simp
            have hfar : ∀ g, g < w9.heap.size → (Value.slice qo k co).ownBlock ≠ some g → w10.heap[g]? = w9.heap[g]? := fun g e1 e2 => (hg10.out.block g (by rw [hz9]; omega) (fun e => e2 e.symm)).trans (Below.heap_alloc _ _ _ e1)
            have hdk : DiskAt w10 md2 S3 := HD3'.out.keep fun g hg => hfar g (HD3'.out.lt g hg) (fun e => HOw7.out.2 g e hg)
            have hs10 : w9.heap.size ≤ w10.heap.size := by have := hg10.out.size; omega
            have hmd : Mod md2.fp md2.fp w9 w10 → True := fun _ => trivial
            have hm10 : Mod md.fp md2.fp w3 w10 := by
              refine ⟨hg10.out.os.trans HM9.out.os, hg10.out.tape.trans HM9.out.tape, hg10.out.output.trans HM9.out.output, Nat.le_trans HM9.out.size hs10, fun g e1 e2 => ?_, HM9.out.grow⟩
              refine (hfar g (by have := HLt9.out; omega) (fun e => ?_)).trans (HM9.out.block g e1 e2)
              have := (bown_lt HOw9.out g e).1
              omega
            have HDk := hid hdk
            have HM10 := hid hm10
            have HAp10 := hid (show ∀ g, v10.ownBlock = some g → g ∉ md2.fp from fun g hg e => by
              rcases hat10.out with h | h
              · exact HOw7.out.2 g (h.symm.trans hg) e
              · rw [h] at hg
                have h2 : (w9.alloc (.cells #[.int .u64 (NX : Int), .int .u32 (TL : Int), .string lo, .string hi] 41)).heap.size = g := Option.some.inj hg
                have := HD3'.out.lt g e
                omega)
            clear hfar hdk hm10 hs10 hz9 hmd
            obtain ⟨q10, c10, rfl, _, _, _⟩ := own_shape hown10.out
            go_roundw
            case rel => exact ⟨k + 1, md2, by go_num, by omega, ⟨by rw [HFin.out.2]; exact HDk.out, HDD2.out, HM10.out, by rw [HTt.out]; exact hown10.out, HAp10.out, HFin.out.1⟩⟩
            case measure => simp [intOf]; omega
          · have b1 : (E3 == 0) = false := by simpa using q3
            have b2 : (E3 != 0) = true := by simpa using q3
            have e1 : put1E S0 (nmU NX) BB = E3 := by unfold put1E; rw [if_neg (fun q => q Hec.out), ← hS1.out, if_neg (fun q => q Hea.out), ← hS2.out, ← hE3.out]
            have e2 : put1S S0 (nmU NX) BB = S3 := by unfold put1S; rw [if_neg (fun q => q Hec.out), ← hS1.out, if_neg (fun q => q Hea.out), ← hS2.out, ← hS3.out]
            have hfin := (put_snoc HI.out.ok (nmU NX, BB) (FS.drop (k + 1))).2 (by
              rw [← hS0.out]
              show put1E S0 (nmU NX) BB ≠ 0
              rw [e1]
              exact q3)
            rw [← HFSk.out, ← hS0.out] at hfin
            dsimp only at hfin
            rw [e1, e2] at hfin
            have hce : cwE s next l = E3 := by rw [HCE.out, ← hFS.out]; exact hfin.1
            have hcs : cwS s next l = S3 := by rw [HCS.out, ← hFS.out]; exact hfin.2
            have HCe := hid hce
            have HCs := hid hcs
            have HQ := hid q3
            clear hfin e1 e2 hce hcs q3
            go_wp2
            go_ret3
            exact ⟨md2, by rw [HCs.out]; exact HD3'.out, HDD2.out, (Mod.of_below' HB3.out).trans HM9.out, .inl ⟨by rw [HCe.out]; exact HQ.out, by rw [HCe.out]; rfl⟩⟩
        · have b1 : (E2 == 0) = false := by simpa using q2
          have b2 : (E2 != 0) = true := by simpa using q2
          have e1 : put1E S0 (nmU NX) BB = E2 := by unfold put1E; rw [if_neg (fun q => q Hec.out), ← hS1.out, ← hE2.out, if_pos q2]
          have e2 : put1S S0 (nmU NX) BB = S2 := by unfold put1S; rw [if_neg (fun q => q Hec.out), ← hS1.out, ← hE2.out, if_pos q2, ← hS2.out]
          have hfin := (put_snoc HI.out.ok (nmU NX, BB) (FS.drop (k + 1))).2 (by
            rw [← hS0.out]
            show put1E S0 (nmU NX) BB ≠ 0
            rw [e1]
            exact q2)
          rw [← HFSk.out, ← hS0.out] at hfin
          dsimp only at hfin
          rw [e1, e2] at hfin
          have hce : cwE s next l = E2 := by rw [HCE.out, ← hFS.out]; exact hfin.1
          have hcs : cwS s next l = S2 := by rw [HCS.out, ← hFS.out]; exact hfin.2
          have HCe := hid hce
          have HCs := hid hcs
          have HQ := hid q2
          clear hfin e1 e2 hce hcs q2
          go_wp2
          go_ret3
          exact ⟨md2, by rw [HCs.out]; exact HD2.out, HDD2.out, (Mod.of_below' HB3.out).trans HM7.out, .inl ⟨by rw [HCe.out]; exact HQ.out, by rw [HCe.out]; rfl⟩⟩
      · have b1 : (E1 == 0) = false := by simpa using q1
        have b2 : (E1 != 0) = true := by simpa using q1
        have hfin := (put_snoc HI.out.ok (nmU NX, BB) (FS.drop (k + 1))).2 (by
          rw [← hS0.out]
          show put1E S0 (nmU NX) BB ≠ 0
          unfold put1E
          rw [if_pos (by rw [← hE1.out]; exact q1), ← hE1.out]
          exact q1)
        rw [← HFSk.out, ← hS0.out] at hfin
        have e1 : put1E S0 (nmU NX) BB = E1 := by unfold put1E; rw [if_pos (by rw [← hE1.out]; exact q1), ← hE1.out]
        have e2 : put1S S0 (nmU NX) BB = S1 := by unfold put1S; rw [if_pos (by rw [← hE1.out]; exact q1), ← hS1.out]
        dsimp only at hfin
        rw [e1, e2] at hfin
        have hce : cwE s next l = E1 := by rw [HCE.out, ← hFS.out]; exact hfin.1
        have hcs : cwS s next l = S1 := by rw [HCS.out, ← hFS.out]; exact hfin.2
        have HCe := hid hce
        have HCs := hid hcs
        have HQ1 := hid q1
        clear hfin e1 e2 hce hcs q1
        go_wp2
        go_ret3
        exact ⟨md1, by rw [HCs.out]; exact HD1.out, HDD1.out, (Mod.of_below' HB3.out).trans HM5.out, .inl ⟨by rw [HCe.out]; exact HQ1.out, by rw [HCe.out]; rfl⟩⟩
    · obtain rfl : k = N := by omega
      have hFl : FS.take k = FS := List.take_of_length_le (by rw [hFS.out, filesF_len, ← HN.out]; exact Nat.le_refl _)
      have hTl : TS.take k = TS := List.take_of_length_le (by rw [hTS.out, tabsF_len, ← HN.out]; exact Nat.le_refl _)
      have hce : cwE s next l = 0 := by rw [HCE.out, ← hFS.out, ← hFl]; exact HI.out.ok
      have hcs : cwS s next l = putS s FS := by rw [HCS.out, ← hFS.out]
      have hdk := HI.out.disk
      rw [hFl, ← hcs] at hdk
      have how := HI.out.own
      rw [hTl, hTS.out] at how
      have wn : IntKind.u64.wrap (k : Int) = (k : Int) := by rw [IntKind.wrap_u64]; omega
      have wn2 : IntKind.u64.wrap ((next : Int) + (k : Int)) = (next : Int) + (k : Int) := by rw [IntKind.wrap_u64]; omega
      have HDk := hid hdk
      have HOw := hid how
      have HCe := hid hce
      have hcl := clip_tables qo k co wr hco1 hco2
      have HCl := hid hcl
      clear hFl hTl hce hcs hdk how hcl
      go_wp2_with fail
      refine HCl.out.mono ?_
      rintro e w9 ⟨rfl, rfl⟩
      go_wp2
      go_ret3
      rw [← hps.out, ← HN.out]
      refine ⟨md', HDk.out, HI.out.hD, (Mod.of_below' HB3.out).trans HI.out.mod, .inr ⟨HCe.out, qo, ?_, ?_, fun b off e => ?_⟩⟩
      · rw [Int.natCast_add]; rfl
      · have h := Fr.of_own HOw.out
        refine ⟨h.1, ?_⟩
        rcases h.2 with ⟨h1, h2⟩ | ⟨g, cap, cur, hv, hg, hh, e1, e2, e3, e4⟩
        · cases h1
          exact .inl ⟨by rw [h2], h2⟩
        · cases hv
          exact .inr ⟨g, k, cur, rfl, by omega, hh, Nat.le_refl _, by omega, Nat.le_trans (Nat.mul_le_mul_right 4 e1) e3, e4⟩
      · refine HI.out.apart b ?_
        rw [e]
        rcases (Fr.of_own HOw.out).2 with ⟨h1, _⟩ | ⟨g, cap, cur, hv, _⟩
        · rw [e] at h1; cases h1
        · rw [e] at hv; cases hv; rfl
end Go.Proofs.Herb
namespace Go.Proofs.Herb
open Go.RowKit
theorem newM_fresh (n : Nat) : ∀ k, k ∈ (newM n).fp → n ≤ k := by
  intro k hk
  simp [DM.fp, newM, Value.ownBlock] at hk
  omega
end Go.Proofs.Herb
namespace Go.Proofs.Herb
open Go.RowKit Go.Sort
theorem Mod.belowB {fp fp' : List Nat} {w w' : World} {B : Nat} (h : Mod fp fp' w w') (hf : ∀ k, k ∈ fp → B ≤ k) (hB : B ≤ w.heap.size) : Below B w w' ∧ ∀ k, k ∈ fp' → B ≤ k :=
  ⟨⟨h.os, h.tape, h.output, h.size, fun k hk => h.block k (by omega) (fun e => by have := hf k e; omega)⟩, fun k hk => by
    rcases h.grow k hk with q | q
    · exact hf k q
    · omega⟩
set_option maxRecDepth 100000 in
set_option maxHeartbeats 1000000 in
theorem chread_nil (u t : Nat) (a b : ByteArray) (hu : u < 18446744073709551616) (w : World) (ht : Pow10 w) :
    Calls Tryz.prog 8 #[.pointer none, .agg #[.int .u64 (u : Int), .int .u32 (t : Int), .string a, .string b]] w fun e w' => e = .returned (.tuple #[.slice none 0 0, .int .i64 2]) ∧ Below w.heap.size w w' := by
  obtain ⟨w0, hw0, hbk, hb0⟩ : ∃ w0, w0 = w.alloc (.cells #[.int .u64 (u : Int), .int .u32 (t : Int), .string a, .string b] 41) ∧ w0.heap[w.heap.size]? = some (.cells #[.int .u64 (u : Int), .int .u32 (t : Int), .string a, .string b] 41 (0, 0)) ∧ Below w.heap.size w w0 := ⟨_, rfl, heap_alloc_new _ _, (Below.refl _ _).alloc (Nat.le_refl _) _⟩
  have y0 := cell_of_row w0 w.heap.size 0 _ _ _ hbk
  have HW0 := hid hw0
  have HB0 := hid hb0
  have HT := hid ht
  clear hw0 hbk hb0 ht
  go_enter Tryz.func8, Tryz.ntmps8
  go_upto_region 1 with fail
  rw [← HW0.out]
  go_wp2_with fail
  (with_reducible refine (name_any u hu w0 (HT.out.below HB0.out (Nat.le_refl _))).mono ?_)
  rintro e w1 ⟨rfl, hb1⟩
  have HB1 := hid (HB0.out.trans (hb1.mono HB0.out.size))
  clear hb1 y0
  go_wp2_with fail
  (with_reducible refine (read_nil (nmU u) w1).mono ?_)
  rintro e w2 ⟨rfl, rfl⟩
  go_wp2
  go_ret2
  exact ⟨rfl, HB1.out⟩
theorem opens_nil {r : Rdr} (h : Opens [] r) : False := by
  obtain ⟨h0, h1, _⟩ := h.facts
  have := h1 _ (List.getElem_mem h0)
  simp at this
  omega
set_option maxRecDepth 100000 in
set_option maxHeartbeats 1000000 in
theorem greatC_any (room fuse : Int) (next : Nat) (q : Option Addr) (n c : Nat) (w : World) :
    Calls Tryz.prog 11 #[.agg #[.int .i64 room, .int .i64 fuse, .int .u64 (next : Int), .slice q n c]] w fun e w' => e = .returned (.bool (decide (120 < n) || decide (1099511627776 < next))) ∧ Below w.heap.size w w' := by
  obtain ⟨B, hB⟩ : ∃ B, B = (decide (120 < n) || decide (1099511627776 < next)) := ⟨_, rfl⟩
  have HB := hid hB
  rw [← hB]
  by_cases h1 : 120 < n
  · have b1 : decide ((120 : Int) < (n : Int)) = true := by simp; omega
    have hBt : B = true := by rw [hB]; simp; omega
    clear hB
    subst hBt
    go_enter Tryz.func11, Tryz.ntmps11
    go_wp2
    go_ret
    exact ⟨rfl, (Below.refl _ _).alloc (Nat.le_refl _) _⟩
  · have b1 : decide ((120 : Int) < (n : Int)) = false := by simp; omega
    have b2 : decide ((1099511627776 : Int) < (next : Int)) = B := by
      rw [hB]
      by_cases h2 : 1099511627776 < next
      · simp [h1, h2]; omega
      · simp [h1, h2]; omega
    clear hB
    go_enter Tryz.func11, Tryz.ntmps11
    go_wp2
    go_ret
    exact ⟨rfl, (Below.refl _ _).alloc (Nat.le_refl _) _⟩
def WrittenC (next n : Nat) (l : List Fact) (w : World) (e : Ending) (w' : World) : Prop :=
  Below w.heap.size w w' ∧ (((120 < n ∨ 1099511627776 < next) ∧ e = .returned (.tuple #[.pointer none, .slice none 0 0, .bool false])) ∨
    (n ≤ 120 ∧ next ≤ 1099511627776 ∧ ∃ md : DM, DiskAt w' md (cwS (newS 1048576) next l) ∧ (∀ k, k ∈ md.fp → w.heap.size ≤ k) ∧
      ((cwE (newS 1048576) next l ≠ 0 ∧ e = .returned (.tuple #[.pointer (some ⟨md.D, 0, none⟩), .slice none 0 0, .bool false])) ∨
        (cwE (newS 1048576) next l = 0 ∧ ∃ a, e = .returned (.tuple #[.pointer (some ⟨md.D, 0, none⟩), .slice a (partsL l).length (partsL l).length, .bool true]) ∧ Fr w' w.heap.size 41 4 (.slice a (partsL l).length (partsL l).length) (partsL l).length (tbCells (tabsF next (partsL l))) ∧ ∀ b off, a = some ⟨b, off, none⟩ → b ∉ md.fp))))
set_option maxRecDepth 100000 in
set_option maxHeartbeats 2000000 in
theorem written_any (room fuse : Int) (next : Nat) (q : Option Addr) (n c : Nat) (l : List Fact) (w : World) (hl : l.length = n) (hc : n ≤ c) (hr : Rd w q (fCells l)) (ho : ∀ f ∈ l, f.Ok) (hz : ∀ f ∈ l, f.key.size ≤ 140737488355328 ∧ f.val.size ≤ 140737488355328) (ht : Pow10 w) :
    Calls Tryz.prog 4 #[.agg #[.int .i64 room, .int .i64 fuse, .int .u64 (next : Int), .slice q n c]] w (WrittenC next n l w) := by
  obtain ⟨w0, hw0, hbk, hb0⟩ : ∃ w0, w0 = w.alloc (.cells #[.int .i64 room, .int .i64 fuse, .int .u64 (next : Int), .slice q n c] 25) ∧ w0.heap[w.heap.size]? = some (.cells #[.int .i64 room, .int .i64 fuse, .int .u64 (next : Int), .slice q n c] 25 (0, 0)) ∧ Below w.heap.size w w0 := ⟨_, rfl, heap_alloc_new _ _, (Below.refl _ _).alloc (Nat.le_refl _) _⟩
  have y0 := cell_of_row w0 w.heap.size 0 _ _ _ hbk
  have y1 := cell_of_row w0 w.heap.size 1 _ _ _ hbk
  have y2 := cell_of_row w0 w.heap.size 2 _ _ _ hbk
  have y3 := cell_of_row w0 w.heap.size 3 _ _ _ hbk
  have HW0 := hid hw0
  have HB0 := hid hb0
  have HBk := hid hbk
  have HL := hid hl
  have HR := hid hr
  have Ho := hid ho
  have Hz := hid hz
  have HT := hid ht
  clear hw0 hbk hb0 hl hr ho hz ht
  unfold WrittenC
  by_cases hgr : 120 < n ∨ 1099511627776 < next
  · have hgb : (decide (120 < n) || decide (1099511627776 < next)) = true := by simpa using hgr
    have Hgr := hid hgr
    clear hgr
    go_enter Tryz.func4, Tryz.ntmps4
    go_upto_region 1 with fail
    rw [← HW0.out]
    go_wp2_with fail
    refine (greatC_any room fuse next q n c w0).mono ?_
    rintro e w1 ⟨rfl, hb1⟩
    rw [hgb]
    have HB1 := hid (HB0.out.trans (hb1.mono HB0.out.size))
    clear hb1
    go_wp2
    go_ret3
    exact ⟨HB1.out, .inl ⟨Hgr.out, rfl⟩⟩
  · have hgb : (decide (120 < n) || decide (1099511627776 < next)) = false := by simp; omega
    have hn120 : n ≤ 120 := by omega
    have hnx : next ≤ 1099511627776 := by omega
    clear hgr
    go_enter Tryz.func4, Tryz.ntmps4
    go_upto_region 1 with fail
    rw [← HW0.out]
    go_wp2_with fail
    refine (greatC_any room fuse next q n c w0).mono ?_
    rintro e w1 ⟨rfl, hb1⟩
    rw [hgb]
    have HB1 := hid (HB0.out.trans (hb1.mono HB0.out.size))
    have bk1 := (hb1.block _ (lt_of_block HBk.out)).trans HBk.out
    have HBk1 := hid bk1
    clear hb1 bk1 y0 y1 y2 y3
    go_wp2_with fail
    refine (new_any 1048576 (by decide) (by decide) w1).mono ?_
    rintro e w2 ⟨rfl, hd2, hb2⟩
    have HD2 := hid hd2
    have HB2 := hid (HB1.out.trans (hb2.mono HB1.out.size))
    have bk2 := (hb2.block _ (lt_of_block HBk1.out)).trans HBk1.out
    have y2 := cell_of_row w2 w.heap.size 2 _ _ _ bk2
    have y3 := cell_of_row w2 w.heap.size 3 _ _ _ bk2
    have HFr := hid (newM_fresh w1.heap.size)
    have hs1 := HB1.out.size
    clear hd2 hb2 bk2
    have hcw := chw_any (newM w1.heap.size) (newS 1048576) 0 next q n c l w2 HD2.out (DsOk.new (by decide) (by decide)) (by omega) (by omega) HL.out (by omega) hc (HR.out.below HB2.out) Ho.out Hz.out (HT.out.below HB2.out (Nat.le_refl _)) (fun e => by have := HFr.out _ e; have := HT.out.lt; omega)
    have HCw := hid hcw
    clear hcw
    go_wp2_with fail
    refine HCw.out.mono ?_
    rintro e w3 ⟨md', hd3, hD3, hM3, hcase⟩
    have hB := hM3.belowB (B := w.heap.size) (fun k hk => by have := HFr.out k hk; omega) HB2.out.size
    have HB3 := hid (HB2.out.trans hB.1)
    have HF3 := hid hB.2
    have HD3 := hid hd3
    have HDD := hid hD3
    clear hd3 hM3 hB
    rcases hcase with ⟨hE, rfl⟩ | ⟨hE, a, rfl, hfr, hnot⟩
    · obtain ⟨E, hEd⟩ : ∃ E : Int, Hid (E = cwE (newS 1048576) next l) := ⟨_, hid rfl⟩
      rw [← hEd.out] at hE ⊢
      have bE : (E == 0) = false := by simpa using hE
      have HE := hid hE
      clear hE
      go_wp2
      go_ret3
      exact ⟨HB3.out, .inr ⟨hn120, hnx, md', HD3.out, HF3.out, .inl ⟨by rw [← hEd.out]; exact HE.out, by rw [HDD.out]; rfl⟩⟩⟩
    · have HE := hid hE
      have HFr3 := hid (fr_mono hfr HB2.out.size)
      have HNt := hid hnot
      clear hE hfr hnot
      go_wp2
      go_ret3
      exact ⟨HB3.out, .inr ⟨hn120, hnx, md', HD3.out, HF3.out, .inr ⟨HE.out, a, by rw [HDD.out]; rfl, HFr3.out, HNt.out⟩⟩⟩
end Go.Proofs.Herb
namespace Go.Proofs.Herb
open Go.RowKit Go.Sort
set_option maxRecDepth 100000 in
set_option maxHeartbeats 2000000 in
theorem lives24_any (w : World) (ht : Pow10 w) : Calls Tryz.prog 6 #[] w fun e w' => e = .returned (.bool true) ∧ Below w.heap.size w w' := by
  have HT := hid ht
  have hE : cwE (newS 1000) 7 [] = 0 := by
    unfold cwE
    rw [if_neg (by rw [riseB_yes (fun i h => absurd h (by simp))]; decide), if_neg (fun h => h rfl)]
    rfl
  have hS : cwS (newS 1000) 7 [] = newS 1000 := by
    unfold cwS
    rw [if_neg (by rw [riseB_yes (fun i h => absurd h (by simp))]; decide), if_neg (fun h => h rfl)]
    rfl
  have hP : partsL [] = [] := rfl
  have HE := hid hE
  have HS := hid hS
  have hK : knownE (newS 1000) (nmU 7) = 7 := by
    unfold knownE foundE
    rw [nm_may 7 (by decide)]
    rfl
  have HK := hid hK
  clear ht hE hS hK
  go_enter Tryz.func6, Tryz.ntmps6
  go_wp2_with fail
  refine (new_any 1000 (by decide) (by decide) w).mono ?_
  rintro e w2 ⟨rfl, hd2, hb2⟩
  have HD2 := hid hd2
  have HB2 := hid hb2
  have HFr := hid (newM_fresh w.heap.size)
  clear hd2 hb2
  have hcw := chw_any (newM w.heap.size) (newS 1000) 0 7 none 0 0 [] w2 HD2.out (DsOk.new (by decide) (by decide)) (by omega) (by omega) rfl (by omega) (Nat.le_refl _) (.inl rfl) (fun f hf => by cases hf) (fun f hf => by cases hf) (HT.out.below HB2.out (Nat.le_refl _)) (fun e => by have := HFr.out _ e; have := HT.out.lt; omega)
  have HCw := hid hcw
  clear hcw
  go_wp2_with fail
  refine HCw.out.mono ?_
  rintro e w3 ⟨md', hd3, hD3, hM3, ⟨hE3, rfl⟩ | ⟨_, a, rfl, _, _⟩⟩
  · exact absurd HE.out hE3
  rw [HS.out] at hd3
  have hB := hM3.belowB (B := w.heap.size) HFr.out HB2.out.size
  have HB3 := hid (HB2.out.trans hB.1)
  have HD3 := hid hd3
  have HDD := hid hD3
  rw [hP]
  clear hd3 hD3 hM3 hB hP
  have hrd := chread_any md' (newS 1000) 0 ⟨7, 0, ⟨#[]⟩, ⟨#[]⟩⟩ w3 HD3.out (DsOk.new (by decide) (by decide)) (by decide) (by decide) (fun r h => by
    have e : readL (newS 1000) (nmU 7) = [] := by unfold readL; rw [if_neg (by rw [HK.out]; decide)]
    rw [e] at h
    exact (opens_nil h).elim) (HT.out.below HB3.out (Nat.le_refl _))
  unfold ReadC at hrd
  rw [HDD.out, HK.out] at hrd
  have HRd := hid hrd
  clear hrd
  go_wp2_with fail
  refine HRd.out.mono ?_
  rintro e w4 ⟨hb4, ⟨h, _⟩ | ⟨_, _, rfl⟩ | ⟨fs, h, _⟩⟩
  · cases h
  · have HB4 := hid (HB3.out.trans (hb4.mono HB3.out.size))
    clear hb4
    go_wp2_with fail
    refine (chread_nil 0 0 ⟨#[]⟩ ⟨#[]⟩ (by decide) w4 (HT.out.below HB4.out (Nat.le_refl _))).mono ?_
    rintro e w5 ⟨rfl, hb5⟩
    have HB5 := hid (HB4.out.trans (hb5.mono HB4.out.size))
    clear hb5
    go_wp2
    go_ret
    exact ⟨rfl, HB5.out⟩
  · cases h
end Go.Proofs.Herb
namespace Go.Proofs.Herb
open Go.RowKit Go.Sort
structure BackP (next : Nat) (l : List Fact) (s : DS) : Prop where
  ok : ∃ n, n ≤ 20000 ∧ DsOk s n
  free : FreeS s
  many : s.names.length = (partsL l).length
  has : ∀ x ∈ filesF next (partsL l), HasF s x.1 x.2
  only : ∀ q, (look s.names q).isSome = true → ∃ x ∈ filesF next (partsL l), x.1 = q
  join : (partsL l).flatten = l
  rise : RiseF l
  each : ∀ k p, (partsL l)[k]? = some p → 0 < p.length ∧ p.length ≤ l.length ∧ buildE (lineF p) p = 0 ∧ (∀ f ∈ p, f ∈ l) ∧ knownE s (nmU (next + k)) = 0 ∧ TabIs (readL s (nmU (next + k))) (tabOf (next + k) p) p ∧ (∀ r, Opens (readL s (nmU (next + k))) r → r.Fit) ∧ readL s (nmU (next + k)) = tabB (lineF p) p
  ends : ∀ k p, (partsL l)[k]? = some p → ∃ f g, p[0]? = some f ∧ p[p.length - 1]? = some g ∧ f.key = (tabOf (next + k) p).low ∧ g.key = (tabOf (next + k) p).high
  border : ∀ k p q, (partsL l)[k]? = some p → (partsL l)[k + 1]? = some q → Op.bytesLess (tabOf (next + k) p).high.toList (tabOf (next + (k + 1)) q).low.toList = true
theorem tabIs_tab (n : Nat) {p : List Fact} (hb : buildE (lineF p) p = 0) (ho : ∀ f ∈ p, f.Ok) (hm : p.length ≤ 6000) : TabIs (tabB (lineF p) p) (tabOf n p) p ∧ ∀ r, Opens (tabB (lineF p) p) r → r.Fit := by
  obtain ⟨hg, hl⟩ := buildE_zero.1 hb
  have hop := opens_tab hg ho hm hl
  have hal := all_tab hg ho hl
  have hp := props_good hg.1 hg.2
  have e : (rdrF (lineF p) p).props.line = lineF p := hp.line
  refine ⟨⟨rfl, ⟨_, hop, hal, ?_⟩, p[0]'hg.2, p[p.length - 1]'(by have := hg.2; omega), by rw [List.head?_eq_getElem?, List.getElem?_eq_getElem hg.2], by rw [List.getLast?_eq_getElem?, List.getElem?_eq_getElem (by have := hg.2; omega)], (hp.low hg.2).symm, (hp.high hg.2).symm⟩, fun r hr => ?_⟩
  · rw [e]
    exact ⟨hg, hl, rfl⟩
  · obtain rfl := hop.one hr
    refine fit_of hop (by omega) fun fs hfs => ?_
    rw [hfs.one hal]
    exact hm
theorem back_ok {next : Nat} {l : List Fact} (hm : l.length ≤ 6000) (ho : ∀ f ∈ l, f.Ok) (h : cwE (newS 1048576) next l = 0) : BackP next l (cwS (newS 1048576) next l) := by
  have c0 : riseB l = true := by
    cases q : riseB l
    · unfold cwE at h; rw [if_pos q] at h; cases h
    · rfl
  have hr : RiseF l := riseB_iff.1 c0
  have c1 : builtE (partsL l) = 0 := by
    by_cases q : builtE (partsL l) = 0
    · exact q
    · unfold cwE at h; rw [if_neg (by rw [c0]; decide), if_pos q] at h; exact absurd h q
  have hE : putE (newS 1048576) (filesF next (partsL l)) = 0 := by
    unfold cwE at h
    rw [if_neg (by rw [c0]; decide), if_neg (fun q => q c1)] at h
    exact h
  have hS : cwS (newS 1048576) next l = putS (newS 1048576) (filesF next (partsL l)) := by
    unfold cwS
    rw [if_neg (by rw [c0]; decide), if_neg (fun q => q c1)]
  have hpl : (partsL l).length ≤ l.length := partsL_len l
  have ok0 : DsOk (newS 1048576) 0 := DsOk.new (by decide) (by decide)
  have fr0 : FreeS (newS 1048576) := ⟨rfl, rfl⟩
  have hP := put_ok ok0 fr0 hE
  have hOk := ok0.put (filesF next (partsL l))
  rw [hS]
  have hbz := built_zero c1
  have hok := parts_ok l
  have hget : ∀ (k : Nat) (p : List Fact), (partsL l)[k]? = some p → ∃ x, (partsI l)[k]? = some x ∧ p = subF l x ∧ x.1 < x.2 ∧ x.2 ≤ l.length := by
    intro k p hk
    unfold partsL at hk
    rw [List.getElem?_map] at hk
    cases e : (partsI l)[k]? with
    | none => rw [e] at hk; cases hk
    | some x =>
      rw [e] at hk
      cases hk
      exact ⟨x, rfl, rfl, (hok.each x (List.mem_of_getElem? e)).2⟩
  have each : ∀ (k : Nat) (p : List Fact), (partsL l)[k]? = some p → 0 < p.length ∧ p.length ≤ l.length ∧ buildE (lineF p) p = 0 ∧ (∀ f ∈ p, f ∈ l) ∧ knownE (putS (newS 1048576) (filesF next (partsL l))) (nmU (next + k)) = 0 ∧ TabIs (readL (putS (newS 1048576) (filesF next (partsL l))) (nmU (next + k))) (tabOf (next + k) p) p ∧ (∀ r, Opens (readL (putS (newS 1048576) (filesF next (partsL l))) (nmU (next + k))) r → r.Fit) ∧ readL (putS (newS 1048576) (filesF next (partsL l))) (nmU (next + k)) = tabB (lineF p) p := by
    intro k p hk
    obtain ⟨x, hx, rfl, h1, h2⟩ := hget k p hk
    have hmem : ∀ f ∈ subF l x, f ∈ l := fun f hf => by
      unfold subF at hf
      exact List.mem_of_mem_take (List.mem_of_mem_drop hf)
    have hlen := subF_len h2
    have hfile : (nmU (next + k), tabB (lineF (subF l x)) (subF l x)) ∈ filesF next (partsL l) := by
      refine List.mem_of_getElem? (i := k) ?_
      rw [filesF_get, hk]
      rfl
    obtain ⟨h3, h4⟩ := (hP.has _ hfile).known hP.free
    have h5 := hbz _ (List.mem_of_getElem? hk)
    obtain ⟨h6, h7⟩ := tabIs_tab (next + k) h5 (fun f hf => ho f (hmem f hf)) (by omega)
    dsimp only at h3 h4
    rw [h4]
    exact ⟨by omega, by omega, h5, hmem, h3, h6, h7, rfl⟩
  have ends : ∀ (k : Nat) (p : List Fact), (partsL l)[k]? = some p → ∃ f g, p[0]? = some f ∧ p[p.length - 1]? = some g ∧ f.key = (tabOf (next + k) p).low ∧ g.key = (tabOf (next + k) p).high := by
    intro k p hk
    obtain ⟨_, _, _, _, _, ⟨_, _, f, g, h1, h2, h3, h4⟩, _⟩ := each k p hk
    exact ⟨f, g, by rw [← List.head?_eq_getElem?]; exact h1, by rw [← List.getLast?_eq_getElem?]; exact h2, h3, h4⟩
  refine ⟨⟨_, ?_, hOk⟩, hP.free, by rw [hP.many, filesF_len]; simp [newS], hP.has, fun q hq => ?_, ?_, hr, each, ends, ?_⟩
  · rw [filesF_len]; omega
  · rcases hP.only q hq with h | h
    · exact h
    · exact absurd h (by simp [newS, look])
  · have := hok.join
    rw [List.drop_zero] at this
    exact this
  · intro k p q hp hq
    obtain ⟨x, hx, rfl, h1, h2⟩ := hget k p hp
    obtain ⟨y, hy, rfl, g1, g2⟩ := hget _ q hq
    obtain ⟨e1, e2⟩ := hok.next k x y hx hy
    obtain ⟨_, g, _, i2, _, i4⟩ := ends k _ hp
    obtain ⟨f, _, j1, _, j3, _⟩ := ends _ _ hq
    rw [← i4, ← j3]
    rw [subF_len h2, subF_get h2 (by omega)] at i2
    rw [subF_get g2 (by omega)] at j1
    have a2 : x.1 + (x.2 - x.1 - 1) = y.1 - 1 := by omega
    have a1 : y.1 - 1 + 1 = y.1 := by omega
    rw [a2] at i2
    rw [Nat.add_zero] at j1
    have hlt : y.1 - 1 + 1 < l.length := by omega
    have hrs := (hr (y.1 - 1) hlt).2
    have b1 : l[y.1 - 1]'(by omega) = g := by
      rw [List.getElem?_eq_getElem (by omega)] at i2
      exact Option.some.inj i2
    have b2 : l[y.1 - 1 + 1]'hlt = f := by
      have : l[y.1 - 1 + 1]? = some f := by rw [a1]; exact j1
      rw [List.getElem?_eq_getElem hlt] at this
      exact Option.some.inj this
    rw [b1, b2] at hrs
    refine cmpF_less hrs fun hk => e2 ?_
    unfold keyAt
    rw [i2, j1]
    show some f.key = some g.key
    rw [hk]
end Go.Proofs.Herb
