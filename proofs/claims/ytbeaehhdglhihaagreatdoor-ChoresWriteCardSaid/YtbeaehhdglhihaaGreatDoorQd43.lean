/- The contract of chores.Read: the facts of a table, or why there are none. For a disk as DiskAt says, in worlds where the library's table of powers of ten reads as it was laid, and where what can be opened is not too great. The contract of chores.Write: facts as tables on a disk, or why not. For a disk as DiskAt says, and facts that can be read, in worlds where the library's table of powers of ten reads as it was laid. (printed by gen_chw.py) The contracts of the law's great, written and lives (chapter 24), and of chores.Read at no disk. For facts that can be read, in worlds where the library's table of powers of ten reads as it was laid. -/
import Derived.Test.YtbeaehhdglhihaaGreatDoorQd09
import Derived.Test.YtbeaehhdglhihaaGreatDoorQd24
import Derived.Test.YtbeaehhdglhihaaGreatDoorQd25
import Derived.Test.YtbeaehhdglhihaaGreatDoorQd28
import Derived.Test.YtbeaehhdglhihaaGreatDoorQd29
import Derived.Test.YtbeaehhdglhihaaGreatDoorQd30
import Derived.Test.YtbeaehhdglhihaaGreatDoorQd39
import Derived.Test.YtbeaehhdglhihaaGreatDoorQd40
import Derived.Test.YtbeaehhdglhihaaGreatDoorQd41
import Derived.Test.YtbeaehhdglhihaaGreatDoorQd42
namespace Go.Proofs.Herb
open Go.RowKit Go.Sort
/-- bytes are a table's, of these facts -/
def TabIs (bs : List UInt8) (t : Tab) (fs : List Fact) : Prop :=
  bs.length = t.bytes ∧ (∃ r, Opens bs r ∧ AllR r fs) ∧ ∃ f g, fs.head? = some f ∧ fs.getLast? = some g ∧ f.key = t.low ∧ g.key = t.high
theorem TabIs.one {bs : List UInt8} {t : Tab} {a b : List Fact} (h : TabIs bs t a) (k : TabIs bs t b) : a = b := by
  obtain ⟨_, ⟨r, h1, h2⟩, _⟩ := h
  obtain ⟨_, ⟨r', k1, k2⟩, _⟩ := k
  obtain rfl := h1.one k1
  exact h2.1.one k2.1
theorem nm_may (u : Nat) (h : u < 18446744073709551616) : mayB (nmU u) = true := by
  have := nm_size u h
  unfold mayB
  rw [Bool.and_eq_true, decide_eq_true_iff, decide_eq_true_iff]
  omega
theorem frq_none {w : World} {base : Nat} {e : TypeId} {k : Nat} {q : Option Addr} {n c : Nat} {xs : List Value} (h : Fr w base e k (.slice q n c) n xs) : q = none → c = 0 := by
  rintro rfl
  rcases h.2 with ⟨e1, _⟩ | ⟨g, cap, cur, e1, _⟩
  · cases e1; rfl
  · cases e1
end Go.Proofs.Herb
namespace Go.Proofs.Herb
open Go.RowKit Go.Sort
def filesF (next : Nat) : List (List Fact) → List (ByteArray × List UInt8)
  | [] => []
  | p :: r => (nmU next, tabB (lineF p) p) :: filesF (next + 1) r
theorem filesF_len (next : Nat) (ps : List (List Fact)) : (filesF next ps).length = ps.length := by
  induction ps generalizing next with
  | nil => rfl
  | cons p r ih => rw [filesF, List.length_cons, List.length_cons, ih]
theorem filesF_get (next : Nat) (ps : List (List Fact)) (i : Nat) : (filesF next ps)[i]? = (ps[i]?).map fun p => (nmU (next + i), tabB (lineF p) p) := by
  induction ps generalizing next i with
  | nil => rfl
  | cons p r ih =>
    cases i with
    | zero => rfl
    | succ i => rw [filesF, List.getElem?_cons_succ, List.getElem?_cons_succ, ih, show next + 1 + i = next + (i + 1) by omega]
noncomputable def cwE (s : DS) (next : Nat) (l : List Fact) : Int := if riseB l = false then 1 else if builtE (partsL l) ≠ 0 then builtE (partsL l) else putE s (filesF next (partsL l))
noncomputable def cwS (s : DS) (next : Nat) (l : List Fact) : DS := if riseB l = false then s else if builtE (partsL l) ≠ 0 then s else putS s (filesF next (partsL l))
theorem put_snoc : ∀ {l : List (ByteArray × List UInt8)} {s : DS} (_ : putE s l = 0) (x : ByteArray × List UInt8) (r : List (ByteArray × List UInt8)),
    (put1E (putS s l) x.1 x.2 = 0 → putE s (l ++ [x]) = 0 ∧ putS s (l ++ [x]) = put1S (putS s l) x.1 x.2) ∧ (put1E (putS s l) x.1 x.2 ≠ 0 → putE s (l ++ x :: r) = put1E (putS s l) x.1 x.2 ∧ putS s (l ++ x :: r) = put1S (putS s l) x.1 x.2)
  | [], s, _, x, r => by
    show (put1E s x.1 x.2 = 0 → (if put1E s x.1 x.2 ≠ 0 then put1E s x.1 x.2 else 0) = 0 ∧ (if put1E s x.1 x.2 ≠ 0 then put1S s x.1 x.2 else put1S s x.1 x.2) = _) ∧ (put1E s x.1 x.2 ≠ 0 → (if put1E s x.1 x.2 ≠ 0 then put1E s x.1 x.2 else _) = _ ∧ (if put1E s x.1 x.2 ≠ 0 then put1S s x.1 x.2 else _) = _)
    exact ⟨fun h => ⟨by rw [if_neg (fun q => q h)], by rw [if_neg (fun q => q h)]; rfl⟩, fun h => ⟨by rw [if_pos h]; rfl, by rw [if_pos h]; rfl⟩⟩
  | y :: t, s, h, x, r => by
    unfold putE at h
    have c0 : put1E s y.1 y.2 = 0 := by
      by_cases q : put1E s y.1 y.2 = 0
      · exact q
      · rw [if_pos q] at h; exact absurd h q
    rw [if_neg (fun q => q c0)] at h
    have ih := put_snoc h x r
    have e : ∀ u, putS s (y :: u) = putS (put1S s y.1 y.2) u := fun u => by
      show (if put1E s y.1 y.2 ≠ 0 then _ else _) = _
      rw [if_neg (fun q => q c0)]
    have e2 : ∀ u, putE s (y :: u) = putE (put1S s y.1 y.2) u := fun u => by
      show (if put1E s y.1 y.2 ≠ 0 then _ else _) = _
      rw [if_neg (fun q => q c0)]
    rw [List.cons_append, List.cons_append, e, e, e, e2, e2]
    exact ih
def tbCells (l : List Tab) : List Value := l.flatMap Tab.cells
theorem tbCells_append (a b : List Tab) : tbCells (a ++ b) = tbCells a ++ tbCells b := by simp [tbCells]
theorem flCells_at : ∀ (n : Nat) (ps : List (List Fact)) (vs : List Value) (i : Nat) (p : List Fact) (v : Value), ps[i]? = some p → vs[i]? = some v → ∀ j, j < 5 → (flCells n ps vs)[i * 5 + j]? = ((tabOf (n + i) p).cells ++ [v])[j]?
  | n, [], _, i, _, _, h, _, _, _ => by simp at h
  | n, _ :: _, [], i, _, _, _, h, _, _ => by simp at h
  | n, q :: ps, u :: vs, 0, p, v, h1, h2, j, hj => by
    simp only [List.getElem?_cons_zero, Option.some.injEq] at h1 h2
    subst h1 h2
    show ((tabOf n q).cells ++ u :: flCells (n + 1) ps vs)[0 * 5 + j]? = _
    rw [Nat.zero_mul, Nat.zero_add, show (tabOf n q).cells ++ u :: flCells (n + 1) ps vs = ((tabOf n q).cells ++ [u]) ++ flCells (n + 1) ps vs by simp]
    rw [List.getElem?_append_left (by simp [Tab.cells]; omega)]
    rfl
  | n, q :: ps, u :: vs, i + 1, p, v, h1, h2, j, hj => by
    rw [List.getElem?_cons_succ] at h1 h2
    show ((tabOf n q).cells ++ u :: flCells (n + 1) ps vs)[(i + 1) * 5 + j]? = _
    rw [show (tabOf n q).cells ++ u :: flCells (n + 1) ps vs = ((tabOf n q).cells ++ [u]) ++ flCells (n + 1) ps vs by simp]
    rw [List.getElem?_append_right (by simp [Tab.cells]; omega), show (i + 1) * 5 + j - ((tabOf n q).cells ++ [u]).length = i * 5 + j by simp [Tab.cells]; omega]
    rw [flCells_at (n + 1) ps vs i p v h1 h2 j hj, show n + 1 + i = n + (i + 1) by omega]
theorem clip_tables (a : Option Addr) (n c : Nat) (w : World) (hn : n ≤ c) (_hc : c ≤ maxLen) :
    Calls Tryz.prog 38 #[.slice a n c] w fun e w' => e = .returned (.slice a n n) ∧ w = w' := by
  unfold maxLen at _hc
  go_enter Tryz.func38, Tryz.ntmps38
  go_wp2
  go_ret
  exact ⟨rfl, rfl⟩
theorem infoTb : (Tryz.prog.info? 54).map (fun i => (i.zero, i.size, i.bytes)) = some (some (.agg #[.int .u64 0, .int .u32 0, .string ⟨#[]⟩, .string ⟨#[]⟩]), 4, 48) := by kernel_rfl
theorem Mod.atc {fp fp' : List Nat} {w w' : World} (h : Mod fp fp' w w') {g : Nat} {o : Obj} (hg : w.heap[g]? = some o) (hn : g ∉ fp) : w'.heap[g]? = some o ∧ g ∉ fp' :=
  ⟨(h.block g (lt_of_block hg) hn).trans hg, fun e => by
    rcases h.grow g e with q | q
    · exact hn q
    · have := lt_of_block hg; omega⟩
theorem Pow10.lt {w : World} (h : Pow10 w) : 0 < w.heap.size := by
  unfold Pow10 Lib.TabIs World.var? at h
  rw [gPow10] at h
  simp only [Option.bind_some] at h
  rcases Nat.lt_or_ge 0 w.heap.size with q | q
  · exact q
  · rw [Array.getElem?_eq_none q] at h; cases h
theorem Pow10.mod {w w' : World} {fp fp' : List Nat} (h : Pow10 w) (hm : Mod fp fp' w w') (hg : 0 ∉ fp) : Pow10 w' := by
  have hl := h.lt
  unfold Pow10 Lib.TabIs World.var? at *
  rw [gPow10] at *
  simp only [Option.bind_some] at *
  rw [hm.block _ hl hg]
  exact h
theorem Mod.of_below' {fp : List Nat} {w w' : World} (h : Below w.heap.size w w') : Mod fp fp w w' := ⟨h.os, h.tape, h.output, h.size, fun k hk _ => h.block k hk, fun _ hk => .inl hk⟩
/-- where the loop stands -/
structure CwI (wB : World) (md : DM) (s : DS) (fs : List (ByteArray × List UInt8)) (ts : List Tab) (k : Nat) (md' : DM) (o : Value) (wr : World) : Prop where
  disk : DiskAt wr md' (putS s (fs.take k))
  hD : md'.D = md.D
  mod : Mod md.fp md'.fp wB wr
  own : wr.ownsRow wB.heap.size 54 4 o k (tbCells (ts.take k))
  apart : ∀ g, o.ownBlock = some g → g ∉ md'.fp
  ok : putE s (fs.take k) = 0
def WriteC (md : DM) (s : DS) (next : Nat) (l : List Fact) (w : World) (e : Ending) (w' : World) : Prop :=
  ∃ md' : DM, DiskAt w' md' (cwS s next l) ∧ md'.D = md.D ∧ Mod md.fp md'.fp w w' ∧ ((cwE s next l ≠ 0 ∧ e = .returned (.tuple #[.slice none 0 0, .int .u64 0, .int .i64 (cwE s next l)])) ∨
    (cwE s next l = 0 ∧ ∃ a, e = .returned (.tuple #[.slice a (partsL l).length (partsL l).length, .int .u64 ((next + (partsL l).length : Nat) : Int), .int .i64 0]) ∧ Fr w' w.heap.size 54 4 (.slice a (partsL l).length (partsL l).length) (partsL l).length (tbCells (tabsF next (partsL l))) ∧ ∀ b off, a = some ⟨b, off, none⟩ → b ∉ md'.fp))
theorem partsL_len (l : List Fact) : (partsL l).length ≤ l.length := by
  unfold partsL
  rw [List.length_map]
  exact (parts_ok l).len
set_option maxRecDepth 100000 in
set_option maxHeartbeats 6400000 in
theorem chw_any (md : DM) (s : DS) (n next : Nat) (q : Option Addr) (nl c : Nat) (l : List Fact) (w : World) (h : DiskAt w md s) (ok : DsOk s n) (hn : n ≤ 800000) (hnx : next + 6001 < 18446744073709551616) (hl : l.length = nl) (hm : nl ≤ 6000) (hc : nl ≤ c) (hr : Rd w q (fCells l)) (ho : ∀ f ∈ l, f.Ok) (hz : ∀ f ∈ l, f.key.size ≤ 140737488355328 ∧ f.val.size ≤ 140737488355328) (ht : Pow10 w) (hgp : 0 ∉ md.fp) :
    Calls Tryz.prog 11 #[.pointer (some ⟨md.D, 0, none⟩), .int .u64 (next : Int), .slice q nl c] w (WriteC md s next l w) := by
  have HD := hid h
  have HO := hid ok
  have HL := hid hl
  have HR := hid hr
  have Ho := hid ho
  have Hz := hid hz
  have HT := hid ht
  obtain ⟨RB, hRB⟩ : ∃ b : Bool, Hid (b = riseB l) := ⟨_, hid rfl⟩
  have HGp := hid hgp
  clear h ok hl hr ho hz ht hgp
  unfold WriteC
  go_enter Tryz.func11, Tryz.ntmps11
  go_wp2_with fail
  (with_reducible refine (cthere_any md s n w HD.out HO.out HT.out).mono ?_)
  rintro e w1 ⟨rfl, hb1⟩
  have HB1 := hid hb1
  clear hb1
  go_wp2_with fail
  (with_reducible refine (rising_any q nl c l w1 HL.out hm (HR.out.below HB1.out)).mono ?_)
  rintro e w2 ⟨rfl, hb2⟩
  rw [← hRB.out]
  have HB2 := hid (HB1.out.trans (hb2.mono HB1.out.size))
  clear hb2
  cases RB
  · have hE : cwE s next l = 1 := by unfold cwE; rw [if_pos hRB.out.symm]
    have hS : cwS s next l = s := by unfold cwS; rw [if_pos hRB.out.symm]
    have HE := hid hE
    have HS := hid hS
    clear hE hS
    go_wp2
    go_ret3
    exact ⟨md, by rw [HS.out]; exact HD.out.below HB2.out, rfl, Mod.of_below' HB2.out, .inl ⟨by rw [HE.out]; decide, by rw [HE.out]; rfl⟩⟩
  go_wp2_with fail
  (with_reducible refine (built_any next q nl c l w2 hnx HL.out hm hc (HR.out.below HB2.out) Ho.out Hz.out).mono ?_)
  rintro e w3 ⟨hb3, ⟨hE, rfl⟩ | ⟨hE0, a, ca, vs, rfl, hown, hrows⟩⟩
  · have HB3 := hid (HB2.out.trans (hb3.mono HB2.out.size))
    obtain ⟨E, hEd⟩ : ∃ E : Int, Hid (E = builtE (partsL l)) := ⟨_, hid rfl⟩
    have hCE : cwE s next l = E := by unfold cwE; rw [if_neg (by rw [← hRB.out]; decide), if_pos hE, hEd.out]
    have hCS : cwS s next l = s := by unfold cwS; rw [if_neg (by rw [← hRB.out]; decide), if_pos hE]
    rw [← hEd.out] at hE ⊢
    have bE : (E != 0) = true := by simpa using hE
    have HE := hid hE
    have HCE := hid hCE
    have HCS := hid hCS
    clear hb3 hE hCE hCS
    go_wp2
    go_ret3
    exact ⟨md, by rw [HCS.out]; exact HD.out.below HB3.out, rfl, Mod.of_below' HB3.out, .inl ⟨by rw [HCE.out]; exact HE.out, by rw [HCE.out]; rfl⟩⟩
  have HB3 := hid (HB2.out.trans (hb3.mono HB2.out.size))
  obtain ⟨ps, hps⟩ : ∃ ps, Hid (ps = partsL l) := ⟨_, hid rfl⟩
  have hCE : cwE s next l = putE s (filesF next ps) := by unfold cwE; rw [if_neg (by rw [← hRB.out]; decide), if_neg (fun h => h hE0), hps.out]
  have hCS : cwS s next l = putS s (filesF next ps) := by unfold cwS; rw [if_neg (by rw [← hRB.out]; decide), if_neg (fun h => h hE0), hps.out]
  have hpl := partsL_len l
  have hTLs : ∀ p ∈ ps, (tabB (lineF p) p).length ≤ 65536 := fun p hp => (buildE_zero.1 (built_zero hE0 p (by rw [← hps.out]; exact hp))).2
  rw [← hps.out] at hown hrows hpl ⊢
  have hs23 := HB2.out.size
  have hown0 := fr_mono (Fr.of_own hown) hs23
  have hrows0 := hrows.mono hs23
  obtain ⟨N, hN⟩ : ∃ N, N = ps.length := ⟨_, rfl⟩
  rw [← hN] at hown0 hpl ⊢
  have hN6 : N ≤ 6000 := by have := HL.out; omega
  have hD3 := HD.out.below HB3.out
  have HD3 := hid hD3
  have HCE := hid hCE
  have HCS := hid hCS
  have HTl := hid hTLs
  have HFl := hid hown0
  have HRw := hid hrows0
  have HN := hid hN
  have HLt := hid (fun (k : Nat) => HD.out.lt k)
  have hs03 := HB3.out.size
  have bE : ((0 : Int) != 0) = false := rfl
  clear hb3 hE0 hCE hCS hown hrows hown0 hrows0 hN hD3 hTLs
  obtain ⟨FS, hFS⟩ : ∃ FS, Hid (FS = filesF next ps) := ⟨_, hid rfl⟩
  obtain ⟨TS, hTS⟩ : ∃ TS, Hid (TS = tabsF next ps) := ⟨_, hid rfl⟩
  have HI0 := hid (show CwI w3 md s FS TS 0 md (.slice none 0 0) w3 from ⟨by rw [List.take_zero]; exact HD3.out, rfl, Mod.refl _ _, World.ownsRow_nil _ _ _ _, fun g hg => (by cases hg), by rw [List.take_zero]; rfl⟩)
  go_wp2_with fail
  go_loopw [11, 34] (fun o i wr => ∃ (k : Nat) (md' : DM), i = .int .i64 (k : Int) ∧ k ≤ N ∧ CwI w3 md s FS TS k md' o wr) (fun _ i _ => N - (intOf i).toNat)
  case atStart => exact ⟨0, md, rfl, Nat.zero_le _, HI0.out⟩
  case round =>
    obtain ⟨k, md', rfl, hk, hI⟩ := hrel
    obtain ⟨qo, co, rfl, hco1, hco2, hco3⟩ := own_shape hI.own
    have HI := hid hI
    clear hI
    by_cases hlt : k < N
    · have hkp : k < ps.length := by rw [← HN.out]; exact hlt
      obtain ⟨p, hp⟩ : ∃ p, p = ps[k] := ⟨_, rfl⟩
      have hpk : ps[k]? = some p := by rw [List.getElem?_eq_getElem hkp, hp]
      have hvk : k < vs.length := by rw [HRw.out.1]; exact hkp
      obtain ⟨pa, hpv, hpf⟩ := HRw.out.2 k vs[k] p (List.getElem?_eq_getElem hvk) hpk
      have hcells := flCells_at next ps vs k p vs[k] hpk (List.getElem?_eq_getElem hvk)
      have hTL := HTl.out p (List.mem_of_getElem? hpk)
      rw [hpv] at hpf hcells
      obtain ⟨BB, hBB⟩ : ∃ BB, Hid (BB = tabB (lineF p) p) := ⟨_, hid rfl⟩
      obtain ⟨TL, hTLd⟩ : ∃ TL, Hid (TL = BB.length) := ⟨_, hid rfl⟩
      rw [← hBB.out, ← hTLd.out] at hpf hcells hTL
      obtain ⟨lo, hlo⟩ : ∃ lo, Hid (lo = (propsF (lineF p) p).low) := ⟨_, hid rfl⟩
      obtain ⟨hi, hhi⟩ : ∃ hi, Hid (hi = (propsF (lineF p) p).high) := ⟨_, hid rfl⟩
      obtain ⟨NX, hNX⟩ : ∃ NX, NX = next + k := ⟨_, rfl⟩
      have hNXl : NX < 18446744073709551616 := by omega
      -- the file's cells where the loop stands
      have hsame : ∀ g, w.heap.size ≤ g → g < w3.heap.size → wr.heap[g]? = w3.heap[g]? ∧ g ∉ md'.fp := fun g e1 e2 => by
        have hnot : g ∉ md.fp := fun e => by have := HLt.out g e; omega
        refine ⟨HI.out.mod.block g e2 hnot, fun e => ?_⟩
        rcases HI.out.mod.grow g e with h | h
        · exact hnot h
        · omega
      have hcell : ∃ fb : Nat, a = some ⟨fb, 0, none⟩ ∧ ∀ j u, j < 5 → ((tabOf (next + k) p).cells ++ [Value.slice pa TL TL])[j]? = some u → wr.cell? ⟨fb, k * 5 + j, none⟩ = some u := by
        rcases HFl.out.2 with ⟨_, h0⟩ | ⟨g, cap, cur, e, hge, hh, _, _, _, hcur⟩
        · omega
        · cases e
          refine ⟨g, rfl, fun j u hj hu => ?_⟩
          have h1 := hcells j hj
          unfold tabOf at h1 hu
          rw [← hBB.out, ← hTLd.out] at h1 hu
          rw [hu] at h1
          have hrow := (hsame g hge (lt_of_block hh)).1.trans hh
          rw [cell_of_row wr g _ _ _ _ hrow]
          obtain ⟨hlt2, hval⟩ := List.getElem?_eq_some_iff.1 h1
          exact (by rw [← hcur, List.getElem?_take_of_lt (by omega)] at h1; simpa using h1)
      obtain ⟨fb, ea, hcc⟩ := hcell
      subst ea
      have ht5 : (tabOf (next + k) p).cells ++ [Value.slice pa TL TL] = [.int .u64 (NX : Int), .int .u32 (TL : Int), .string lo, .string hi, .slice pa TL TL] := by
        unfold tabOf Tab.cells
        dsimp only
        rw [← hBB.out, ← hTLd.out, ← hlo.out, ← hhi.out, ← hNX]
        rfl
      rw [ht5] at hcc
      have c0 : wr.cell? ⟨fb, k * 5, none⟩ = some (.int .u64 (NX : Int)) := hcc 0 _ (by omega) rfl
      have c1 : wr.cell? ⟨fb, k * 5 + 1, none⟩ = some (.int .u32 (TL : Int)) := hcc 1 _ (by omega) rfl
      have c2 : wr.cell? ⟨fb, k * 5 + 2, none⟩ = some (.string lo) := hcc 2 _ (by omega) rfl
      have c3 : wr.cell? ⟨fb, k * 5 + 3, none⟩ = some (.string hi) := hcc 3 _ (by omega) rfl
      have c4 : wr.cell? ⟨fb, k * 5 + 4, none⟩ = some (.slice pa TL TL) := hcc 4 _ (by omega) rfl
      have i0 : (0 : Int) ≤ (k : Int) := by omega
      have i1 : (k : Int) < (N : Int) := by omega
      obtain ⟨S0, hS0⟩ : ∃ S0, Hid (S0 = putS s (FS.take k)) := ⟨_, hid rfl⟩
      have hO0 : DsOk S0 (n + 12000) := by
        rw [hS0.out]
        refine (HO.out.put (FS.take k)).mono ?_
        have h1 : (FS.take k).length ≤ k := by rw [List.length_take]; omega
        omega
      have HO0 := hid hO0
      have hg0 : 0 ∉ md'.fp := fun e => by
        rcases HI.out.mod.grow _ e with q | q
        · exact HGp.out q
        · have := HT.out.lt; omega
      have HPr := hid ((HT.out.below HB3.out (Nat.le_refl _)).mod HI.out.mod HGp.out)
      have HGm := hid hg0
      have HSame := hid hsame
      have HPf := hid hpf
      have HPk := hid hpk
      have HNX := hid hNX
      have hFk : FS[k]? = some (nmU NX, BB) := by rw [hFS.out, filesF_get, hpk, hNX, hBB.out]; rfl
      have hTk : TS[k]? = some ⟨NX, TL, lo, hi⟩ := by
        rw [hTS.out, tabsF_get, hpk, hNX]
        show some (tabOf (next + k) p) = _
        unfold tabOf
        rw [← hBB.out, ← hTLd.out, ← hlo.out, ← hhi.out]
      have HFk := hid hFk
      have HTk := hid hTk
      clear hsame hpf hpk hp hkp hvk hpv hcells hcc ht5 hO0 hg0 hFk hTk hNX
      go_upto_region 12 with fail
      obtain ⟨Wf, hWf⟩ : ∃ Wf, Wf = wr.alloc (.cells #[.int .u64 (NX : Int), .int .u32 (TL : Int), .string lo, .string hi, .slice pa TL TL] 77) := ⟨_, rfl⟩
      have hbf : Below wr.heap.size wr Wf := by rw [hWf]; exact (Below.refl _ _).alloc (Nat.le_refl _) _
      have hbox : Wf.heap[wr.heap.size]? = some (.cells #[.int .u64 (NX : Int), .int .u32 (TL : Int), .string lo, .string hi, .slice pa TL TL] 77 (0, 0)) := by rw [hWf]; exact heap_alloc_new _ _
      have z0 := cell_of_row Wf wr.heap.size 0 _ _ _ hbox
      have hbn : wr.heap.size ∉ md'.fp := fun e => by have := HI.out.disk.lt _ e; omega
      rw [← hWf]
      have HBf := hid hbf
      have HBx := hid hbox
      have HBn := hid hbn
      clear hWf hbf hbox hbn c0 c1 c2 c3 c4
      go_wp2_with fail
      (with_reducible refine (name_any NX hNXl Wf (HPr.out.below HBf.out (Nat.le_refl _))).mono ?_)
      rintro e w4 ⟨rfl, hb4⟩
      have HB4 := hid (HBf.out.trans (hb4.mono HBf.out.size))
      have hbx4 := (hb4.block _ (lt_of_block HBx.out)).trans HBx.out
      have HBx4 := hid hbx4
      clear hb4 hbx4 z0
      have hcr := create_any md' S0 (nmU NX) w4 (by rw [hS0.out]; exact HI.out.disk.below HB4.out) (nm_max NX hNXl) HO0.out.f0 HO0.out.f1 (by have := HO0.out.files; omega) (by have := HO0.out.changes; omega) (by have := HO0.out.good.many; omega)
      rw [HI.out.hD] at hcr
      obtain ⟨E1, hE1⟩ : ∃ E : Int, Hid (E = createE S0 (nmU NX)) := ⟨_, hid rfl⟩
      obtain ⟨S1, hS1⟩ : ∃ S, Hid (S = createS S0 (nmU NX)) := ⟨_, hid rfl⟩
      rw [← hE1.out, ← hS1.out] at hcr
      have HCr := hid hcr
      clear hcr
      go_wp2_with fail
      (with_reducible refine HCr.out.mono ?_)
      rintro e w5 ⟨md1, rfl, hd1, hDD1, hM1⟩
      have HD1 := hid hd1
      have HDD1 := hid hDD1
      have HM5 := hid ((HI.out.mod.trans (Mod.of_below' HB4.out)).trans hM1)
      have hx5 := hM1.atc HBx4.out HBn.out
      have HX5 := hid hx5
      have HG1 := hid ((HPr.out.below HB4.out (Nat.le_refl _)).mod hM1 HGm.out)
      have HGm1 := hid (show 0 ∉ md1.fp from fun e => by
        rcases HM5.out.grow _ e with q | q
        · exact HGp.out q
        · have := HT.out.lt; omega)
      have HBk5 := hid (show ∀ (g : Nat) (o : Obj), w.heap.size ≤ g → w3.heap[g]? = some o → w5.heap[g]? = some o ∧ g ∉ md1.fp from fun g o e1 e2 => by
        have h1 := HSame.out g e1 (lt_of_block e2)
        have h2 := (HB4.out.block g (by have := HI.out.mod.size; have := lt_of_block e2; omega)).trans (h1.1.trans e2)
        exact hM1.atc h2 h1.2)
      have HOw5 := hid (show w5.ownsRow w3.heap.size 54 4 (.slice qo k co) k (tbCells (TS.take k)) ∧ ∀ g, (Value.slice qo k co).ownBlock = some g → g ∉ md1.fp from by
        have h0 := own_below HI.out.own HB4.out
        refine ⟨own_keep h0 fun g hg => hM1.block g (bown_lt h0 g hg).2 (HI.out.apart g hg), fun g hg e => ?_⟩
        rcases hM1.grow g e with q | q
        · exact HI.out.apart g hg q
        · have := (bown_lt h0 g hg).2; omega)
      clear hd1 hDD1 hM1 hx5 HCr
      have HFSk := hid (show FS = FS.take k ++ (nmU NX, BB) :: FS.drop (k + 1) by
        have hk2 := (List.getElem?_eq_some_iff.1 HFk.out)
        obtain ⟨hk3, hk4⟩ := hk2
        rw [← hk4, ← List.drop_eq_getElem_cons hk3, List.take_append_drop])
      by_cases q1 : E1 = 0
      · have b1 : (E1 == 0) = true := by simpa using q1
        have HQ1 := hid q1
        have ec : createE S0 (nmU NX) = 0 := by rw [← hE1.out]; exact q1
        have Hec := hid ec
        clear q1 ec
        have y0 := cell_of_row w5 wr.heap.size 0 _ _ _ HX5.out.1
        have y4 := cell_of_row w5 wr.heap.size 4 _ _ _ HX5.out.1
        have hO1 : DsOk S1 (n + 12002) := by rw [hS1.out]; exact (HO0.out.create _).mono (by omega)
        have HO1 := hid hO1
        have hap := append_any md1 S1 (nmU NX) (nm_max NX hNXl) pa TL TL BB
        have HAp := hid hap
        clear hO1 hap
        go_upto_region 14 with fail
        refine wp_region_split (S := fun w' => w'.cell? ⟨wr.heap.size, 0, none⟩ = some (.int .u64 (NX : Int)) ∧ w'.cell? ⟨wr.heap.size, 4, none⟩ = some (.slice pa TL TL)) 8 (by kernel_rfl) (by kernel_rfl) ⟨y0, y4⟩ (fun hHeld => ?_)
        simp only [List.take_succ_cons, List.take_zero, List.drop_succ_cons, List.drop_zero]
        refine take_held (v := ?_) 0 rfl (by kernel_rfl) (by kernel_rfl) (by kernel_rfl) (fun _ _ _ h => h) (Or.inl ⟨by rfl, ?_⟩) (by assumption) ?_
        rotate_left
        · intro wS hSw
          obtain ⟨s0, s1⟩ := hSw
          go_simp
          try with_reducible rfl
        simp only [Act.put, List.setIfInBounds_toArray, List.set_cons_zero, List.set_cons_succ]
        refine take_held (v := ?_) 1 rfl (by kernel_rfl) (by kernel_rfl) (by kernel_rfl) (fun _ _ _ h => h) (Or.inl ⟨by rfl, ?_⟩) (by assumption) ?_
        rotate_left
        · intro wS hSw
          obtain ⟨s0, s1⟩ := hSw
          go_simp
          try with_reducible rfl
        simp only [Act.put, List.setIfInBounds_toArray, List.set_cons_zero, List.set_cons_succ]
        refine take_held (v := ?_) 2 rfl (by kernel_rfl) (by kernel_rfl) (by kernel_rfl) (fun _ _ _ h => h) (Or.inl ⟨by rfl, ?_⟩) (by assumption) ?_
        rotate_left
        · intro wS hSw
          obtain ⟨s0, s1⟩ := hSw
          go_simp
          try with_reducible rfl
        simp only [Act.put, List.setIfInBounds_toArray, List.set_cons_zero, List.set_cons_succ]
        refine take_held (v := ?_) 3 rfl (by kernel_rfl) (by kernel_rfl) (by kernel_rfl) (fun _ _ _ h => h) (Or.inl ⟨by rfl, ?_⟩) (by assumption) ?_
        rotate_left
        · intro wS hSw
          obtain ⟨s0, s1⟩ := hSw
          go_simp
          try with_reducible rfl
        simp only [Act.put, List.setIfInBounds_toArray, List.set_cons_zero, List.set_cons_succ]
        refine take_held (v := ?_) 5 rfl (by kernel_rfl) (by kernel_rfl) (by kernel_rfl) (fun _ _ _ h => h) (Or.inl ⟨by rfl, ?_⟩) (by assumption) ?_
        rotate_left
        · intro wS hSw
          obtain ⟨s0, s1⟩ := hSw
          go_simp
          try with_reducible rfl
        simp only [Act.put, List.setIfInBounds_toArray, List.set_cons_zero, List.set_cons_succ]
        refine take_held (v := ?_) 6 rfl (by kernel_rfl) (by kernel_rfl) (by kernel_rfl) (fun _ _ _ h => h) (Or.inl ⟨by rfl, ?_⟩) (by assumption) ?_
        rotate_left
        · intro wS hSw
          obtain ⟨s0, s1⟩ := hSw
          go_simp
          try with_reducible rfl
        simp only [Act.put, List.setIfInBounds_toArray, List.set_cons_zero, List.set_cons_succ]
        refine wpAnyH_ready (rs := [4]) (by kernel_rfl) (by simp) ?_
        refine cons_held 4 rfl (fun K hK => ?_) AllReadyH.nil
        go_simp
        refine (name_any NX hNXl _ (HG1.out.below (Below.refl _ _).drew (Nat.le_refl _))).mono ?_
        rintro e w6 ⟨rfl, hb6⟩
        have hb6 : Below w5.heap.size w5 w6 := (Below.refl _ _).drew.trans hb6
        have HB6 := hid hb6
        have k0 : w6.cell? ⟨wr.heap.size, 0, none⟩ = some (.int .u64 (NX : Int)) := (hb6.cell (World.block_lt_of_cell? w5 _ y0)).trans y0
        have k4 : w6.cell? ⟨wr.heap.size, 4, none⟩ = some (.slice pa TL TL) := (hb6.cell (World.block_lt_of_cell? w5 _ y4)).trans y4
        refine hK.out _ _ ⟨k0, k4⟩ (fun hHeld2 => ?_)
        clear hK K hb6 y0 y4
        refine wpAnyH_ready (rs := [7]) (by kernel_rfl) (by simp) ?_
        refine cons_held 7 rfl (fun K hK => ?_) AllReadyH.nil
        go_simp
        have hrow6 : Fr w6 w.heap.size 5 1 (.slice pa TL TL) TL (BB.map bv) ∧ ∀ b off, pa = some ⟨b, off, none⟩ → b ∉ md1.fp := by
          have hf := HPf.out
          refine ⟨⟨hf.1, ?_⟩, fun b off e => ?_⟩
          · rcases hf.2 with h | ⟨g, cap, cur, hv, hg, hh, r⟩
            · exact .inl h
            · exact .inr ⟨g, cap, cur, hv, hg, (HB6.out.block g (lt_of_block (HBk5.out g _ (by omega) hh).1)).trans (HBk5.out g _ (by omega) hh).1, r⟩
          · rcases hf.2 with ⟨h, _⟩ | ⟨g, cap, cur, hv, hg, hh, r⟩
            · rw [e] at h; cases h
            · rw [e] at hv
              cases hv
              exact (HBk5.out b _ (by omega) hh).2
        have hap2 := HAp.out w6 (HD1.out.below HB6.out) HO1.out.good.ok (Nat.le_trans (used_le HO1.out) (by have : (n + 12002) * 4194304 ≤ 900000 * 4194304 := Nat.mul_le_mul_right _ (by omega); omega)) HO1.out.f0 HO1.out.f1 HO1.out.r0 HO1.out.r1 hTLd.out.symm (Nat.le_refl _) (by unfold maxLen; omega) hrow6.1.rd (frq_none hrow6.1) (fun _ b off e => hrow6.2 b off e) (fun f hf => by have := (HO1.out.sure f hf).2; omega)
        rw [HDD1.out] at hap2
        obtain ⟨E2, hE2⟩ : ∃ E : Int, Hid (E = appendE S1 (nmU NX) BB) := ⟨_, hid rfl⟩
        obtain ⟨S2, hS2⟩ : ∃ S, Hid (S = appendS S1 (nmU NX) BB) := ⟨_, hid rfl⟩
        rw [← hE2.out, ← hS2.out] at hap2
        refine hap2.mono ?_
        clear hap2 hrow6
        rintro e w7 ⟨md2, rfl, hd2, hDD2, hM2⟩
        have HD2 := hid hd2
        have HDD2 := hid hDD2
        have HM7 := hid ((HM5.out.trans (Mod.of_below' HB6.out)).trans hM2)
        have hx7 := hM2.atc ((HB6.out.block _ (lt_of_block HX5.out.1)).trans HX5.out.1) HX5.out.2
        have HX7 := hid hx7
        have HG2 := hid ((HG1.out.below HB6.out (Nat.le_refl _)).mod hM2 HGm1.out)
        have HGm2 := hid (show 0 ∉ md2.fp from fun e => by
          rcases HM7.out.grow _ e with q | q
          · exact HGp.out q
          · have := HT.out.lt; omega)
        have HOw7 := hid (show w7.ownsRow w3.heap.size 54 4 (.slice qo k co) k (tbCells (TS.take k)) ∧ ∀ g, (Value.slice qo k co).ownBlock = some g → g ∉ md2.fp from by
          have h0 := own_below HOw5.out.1 HB6.out
          refine ⟨own_keep h0 fun g hg => hM2.block g (bown_lt h0 g hg).2 (HOw5.out.2 g hg), fun g hg e => ?_⟩
          rcases hM2.grow g e with q | q
          · exact HOw5.out.2 g hg q
          · have := (bown_lt h0 g hg).2; omega)
        have k0 := cell_of_row w7 wr.heap.size 0 _ _ _ hx7.1
        have k4 := cell_of_row w7 wr.heap.size 4 _ _ _ hx7.1
        clear hd2 hDD2 hM2 hx7
        refine hK.out _ _ ⟨k0, k4⟩ (fun hHeld3 => ?_)
        clear hK K
        try simp only [Act.put, List.setIfInBounds_toArray, List.set_cons_zero, List.set_cons_succ]
        refine wpAnyH_done (by kernel_rfl) ?_ _
        rw [headQ_normal]
        by_cases q2 : E2 = 0
        · have b2 : (E2 == 0) = true := by simpa using q2
          have HQ2 := hid q2
          have ea : appendE S1 (nmU NX) BB = 0 := by rw [← hE2.out]; exact q2
          have Hea := hid ea
          have hO2 : DsOk S2 (n + 12002) := by rw [hS2.out]; exact HO1.out.append _ _
          have HO2 := hid hO2
          clear q2 ea hO2 k4
          go_wp2_with fail
          (with_reducible refine (name_any NX hNXl w7 HG2.out).mono ?_)
          rintro e w8 ⟨rfl, hb8⟩
          have HB8 := hid hb8
          clear hb8 k0
          have hsy := sync_any md2 S2 (nmU NX) (nm_max NX hNXl) w8 (HD2.out.below HB8.out) HO2.out.good.ok HO2.out.f0 HO2.out.f1
          rw [HDD2.out] at hsy
          obtain ⟨E3, hE3⟩ : ∃ E : Int, Hid (E = syncE S2 (nmU NX)) := ⟨_, hid rfl⟩
          obtain ⟨S3, hS3⟩ : ∃ S, Hid (S = syncS S2 (nmU NX)) := ⟨_, hid rfl⟩
          rw [← hE3.out, ← hS3.out] at hsy
          have HSy := hid hsy
          clear hsy
          go_wp2_with fail
          (with_reducible refine HSy.out.mono ?_)
          rintro e w9 ⟨rfl, hd3, hM3⟩
          have HD3' := hid hd3
          have HM9 := hid ((HM7.out.trans (Mod.of_below' HB8.out)).trans hM3)
          have hx9 := hM3.atc ((HB8.out.block _ (lt_of_block HX7.out.1)).trans HX7.out.1) HX7.out.2
          have HX9 := hid hx9
          have HOw9 := hid (show w9.ownsRow w3.heap.size 54 4 (.slice qo k co) k (tbCells (TS.take k)) from by
            have h0 := own_below HOw7.out.1 HB8.out
            exact own_keep h0 fun g hg => hM3.block g (bown_lt h0 g hg).2 (HOw7.out.2 g hg))
          have HLt9 := hid (show w3.heap.size ≤ w9.heap.size from HM9.out.size)
          clear hd3 hM3 hx9 HSy
          by_cases q3 : E3 = 0
          · have b3 : (E3 == 0) = true := by simpa using q3
            have b4 : (E3 != 0) = false := by simp [q3]
            have e1 : put1E S0 (nmU NX) BB = 0 := by unfold put1E; rw [if_neg (fun q => q Hec.out), ← hS1.out, if_neg (fun q => q Hea.out), ← hS2.out, ← hE3.out]; exact q3
            have e2 : put1S S0 (nmU NX) BB = S3 := by unfold put1S; rw [if_neg (fun q => q Hec.out), ← hS1.out, if_neg (fun q => q Hea.out), ← hS2.out, ← hS3.out]
            have hfin := (put_snoc HI.out.ok (nmU NX, BB) []).1 (by rw [← hS0.out]; exact e1)
            rw [← hS0.out] at hfin
            dsimp only at hfin
            rw [e2] at hfin
            have hk2 := List.getElem?_eq_some_iff.1 HFk.out
            obtain ⟨hk3, hk4⟩ := hk2
            have hft : FS.take (k + 1) = FS.take k ++ [(nmU NX, BB)] := by rw [List.take_succ_eq_append_getElem hk3, hk4]
            have hk5 := List.getElem?_eq_some_iff.1 HTk.out
            obtain ⟨hk6, hk7⟩ := hk5
            have htt : tbCells (TS.take (k + 1)) = tbCells (TS.take k) ++ [.int .u64 (NX : Int), .int .u32 (TL : Int), .string lo, .string hi] := by
              rw [List.take_succ_eq_append_getElem hk6, hk7, tbCells_append]
              rfl
            rw [← hft] at hfin
            have HFin := hid hfin
            have HTt := hid htt
            have z0 := cell_of_row w9 wr.heap.size 0 _ _ _ HX9.out.1
            have z1 := cell_of_row w9 wr.heap.size 1 _ _ _ HX9.out.1
            have z2 := cell_of_row w9 wr.heap.size 2 _ _ _ HX9.out.1
            have z3 := cell_of_row w9 wr.heap.size 3 _ _ _ HX9.out.1
            clear e1 e2 hfin hk3 hk4 hft hk6 hk7 htt q3
            go_wp2_with (refine wpList_append_at rfl (.tmp 65) (.tmp 68) 33 rfl w3.heap.size 54 _ 4 48 Tryz.underlying33 infoTb rfl (by decide) (.slice qo k co) k (tbCells (TS.take k)) rfl (own_below HOw9.out ((Below.refl w9.heap.size w9).alloc (Nat.le_refl _) _)) (some ⟨w9.heap.size, 0, none⟩) 1 1 [.int .u64 (NX : Int), .int .u32 (TL : Int), .string lo, .string hi] rfl (fun h => by cases h) rfl (Rd.new _ _ _) (by simp [Value.oneCell']) (by unfold maxLen; omega) (by omega) (by simp; have := HLt9.out; omega) ?_; intro v10 w10 hown10 hg10 hat10; have hown10 := hid hown10; have hg10 := hid hg10; have hat10 := hid hat10)
            have hz9 : (w9.alloc (.cells #[.int .u64 (NX : Int), .int .u32 (TL : Int), .string lo, .string hi] 54)).heap.size = w9.heap.size + 1 := by simp
            have hfar : ∀ g, g < w9.heap.size → (Value.slice qo k co).ownBlock ≠ some g → w10.heap[g]? = w9.heap[g]? := fun g e1 e2 => (hg10.out.block g (by rw [hz9]; omega) (fun e => e2 e.symm)).trans (Below.heap_alloc _ _ _ e1)
            have hdk : DiskAt w10 md2 S3 := HD3'.out.keep fun g hg => hfar g (HD3'.out.lt g hg) (fun e => HOw7.out.2 g e hg)
            have hs10 : w9.heap.size ≤ w10.heap.size := by have := hg10.out.size; omega
            have hmd : Mod md2.fp md2.fp w9 w10 → True := fun _ => trivial
            have hm10 : Mod md.fp md2.fp w3 w10 := by
              refine ⟨hg10.out.os.trans HM9.out.os, hg10.out.tape.trans HM9.out.tape, hg10.out.output.trans HM9.out.output, Nat.le_trans HM9.out.size hs10, fun g e1 e2 => ?_, HM9.out.grow⟩
              refine (hfar g (by have := HLt9.out; omega) (fun e => ?_)).trans (HM9.out.block g e1 e2)
              have := (bown_lt HOw9.out g e).1
              omega
            have HDk := hid hdk
            have HM10 := hid hm10
            have HAp10 := hid (show ∀ g, v10.ownBlock = some g → g ∉ md2.fp from fun g hg e => by
              rcases hat10.out with h | h
              · exact HOw7.out.2 g (h.symm.trans hg) e
              · rw [h] at hg
                have h2 : (w9.alloc (.cells #[.int .u64 (NX : Int), .int .u32 (TL : Int), .string lo, .string hi] 54)).heap.size = g := Option.some.inj hg
                have := HD3'.out.lt g e
                omega)
            clear hfar hdk hm10 hs10 hz9 hmd
            obtain ⟨q10, c10, rfl, _, _, _⟩ := own_shape hown10.out
            go_roundw
            case rel => exact ⟨k + 1, md2, by go_num, by omega, ⟨by rw [HFin.out.2]; exact HDk.out, HDD2.out, HM10.out, by rw [HTt.out]; exact hown10.out, HAp10.out, HFin.out.1⟩⟩
            case measure => simp [intOf]; omega
          · have b1 : (E3 == 0) = false := by simpa using q3
            have b2 : (E3 != 0) = true := by simpa using q3
            have e1 : put1E S0 (nmU NX) BB = E3 := by unfold put1E; rw [if_neg (fun q => q Hec.out), ← hS1.out, if_neg (fun q => q Hea.out), ← hS2.out, ← hE3.out]
            have e2 : put1S S0 (nmU NX) BB = S3 := by unfold put1S; rw [if_neg (fun q => q Hec.out), ← hS1.out, if_neg (fun q => q Hea.out), ← hS2.out, ← hS3.out]
            have hfin := (put_snoc HI.out.ok (nmU NX, BB) (FS.drop (k + 1))).2 (by
              rw [← hS0.out]
              show put1E S0 (nmU NX) BB ≠ 0
              rw [e1]
              exact q3)
            rw [← HFSk.out, ← hS0.out] at hfin
            dsimp only at hfin
            rw [e1, e2] at hfin
            have hce : cwE s next l = E3 := by rw [HCE.out, ← hFS.out]; exact hfin.1
            have hcs : cwS s next l = S3 := by rw [HCS.out, ← hFS.out]; exact hfin.2
            have HCe := hid hce
            have HCs := hid hcs
            have HQ := hid q3
            clear hfin e1 e2 hce hcs q3
            go_wp2
            go_ret3
            exact ⟨md2, by rw [HCs.out]; exact HD3'.out, HDD2.out, (Mod.of_below' HB3.out).trans HM9.out, .inl ⟨by rw [HCe.out]; exact HQ.out, by rw [HCe.out]; rfl⟩⟩
        · have b1 : (E2 == 0) = false := by simpa using q2
          have b2 : (E2 != 0) = true := by simpa using q2
          have e1 : put1E S0 (nmU NX) BB = E2 := by unfold put1E; rw [if_neg (fun q => q Hec.out), ← hS1.out, ← hE2.out, if_pos q2]
          have e2 : put1S S0 (nmU NX) BB = S2 := by unfold put1S; rw [if_neg (fun q => q Hec.out), ← hS1.out, ← hE2.out, if_pos q2, ← hS2.out]
          have hfin := (put_snoc HI.out.ok (nmU NX, BB) (FS.drop (k + 1))).2 (by
            rw [← hS0.out]
            show put1E S0 (nmU NX) BB ≠ 0
            rw [e1]
            exact q2)
          rw [← HFSk.out, ← hS0.out] at hfin
          dsimp only at hfin
          rw [e1, e2] at hfin
          have hce : cwE s next l = E2 := by rw [HCE.out, ← hFS.out]; exact hfin.1
          have hcs : cwS s next l = S2 := by rw [HCS.out, ← hFS.out]; exact hfin.2
          have HCe := hid hce
          have HCs := hid hcs
          have HQ := hid q2
          clear hfin e1 e2 hce hcs q2
          go_wp2
          go_ret3
          exact ⟨md2, by rw [HCs.out]; exact HD2.out, HDD2.out, (Mod.of_below' HB3.out).trans HM7.out, .inl ⟨by rw [HCe.out]; exact HQ.out, by rw [HCe.out]; rfl⟩⟩
      · have b1 : (E1 == 0) = false := by simpa using q1
        have b2 : (E1 != 0) = true := by simpa using q1
        have hfin := (put_snoc HI.out.ok (nmU NX, BB) (FS.drop (k + 1))).2 (by
          rw [← hS0.out]
          show put1E S0 (nmU NX) BB ≠ 0
          unfold put1E
          rw [if_pos (by rw [← hE1.out]; exact q1), ← hE1.out]
          exact q1)
        rw [← HFSk.out, ← hS0.out] at hfin
        have e1 : put1E S0 (nmU NX) BB = E1 := by unfold put1E; rw [if_pos (by rw [← hE1.out]; exact q1), ← hE1.out]
        have e2 : put1S S0 (nmU NX) BB = S1 := by unfold put1S; rw [if_pos (by rw [← hE1.out]; exact q1), ← hS1.out]
        dsimp only at hfin
        rw [e1, e2] at hfin
        have hce : cwE s next l = E1 := by rw [HCE.out, ← hFS.out]; exact hfin.1
        have hcs : cwS s next l = S1 := by rw [HCS.out, ← hFS.out]; exact hfin.2
        have HCe := hid hce
        have HCs := hid hcs
        have HQ1 := hid q1
        clear hfin e1 e2 hce hcs q1
        go_wp2
        go_ret3
        exact ⟨md1, by rw [HCs.out]; exact HD1.out, HDD1.out, (Mod.of_below' HB3.out).trans HM5.out, .inl ⟨by rw [HCe.out]; exact HQ1.out, by rw [HCe.out]; rfl⟩⟩
    · obtain rfl : k = N := by omega
      have hFl : FS.take k = FS := List.take_of_length_le (by rw [hFS.out, filesF_len, ← HN.out]; exact Nat.le_refl _)
      have hTl : TS.take k = TS := List.take_of_length_le (by rw [hTS.out, tabsF_len, ← HN.out]; exact Nat.le_refl _)
      have hce : cwE s next l = 0 := by rw [HCE.out, ← hFS.out, ← hFl]; exact HI.out.ok
      have hcs : cwS s next l = putS s FS := by rw [HCS.out, ← hFS.out]
      have hdk := HI.out.disk
      rw [hFl, ← hcs] at hdk
      have how := HI.out.own
      rw [hTl, hTS.out] at how
      have wn : IntKind.u64.wrap (k : Int) = (k : Int) := by rw [IntKind.wrap_u64]; omega
      have wn2 : IntKind.u64.wrap ((next : Int) + (k : Int)) = (next : Int) + (k : Int) := by rw [IntKind.wrap_u64]; omega
      have HDk := hid hdk
      have HOw := hid how
      have HCe := hid hce
      have hcl := clip_tables qo k co wr hco1 hco2
      have HCl := hid hcl
      clear hFl hTl hce hcs hdk how hcl
      go_wp2_with fail
      refine HCl.out.mono ?_
      rintro e w9 ⟨rfl, rfl⟩
      go_wp2
      go_ret3
      rw [← hps.out, ← HN.out]
      refine ⟨md', HDk.out, HI.out.hD, (Mod.of_below' HB3.out).trans HI.out.mod, .inr ⟨HCe.out, qo, ?_, ?_, fun b off e => ?_⟩⟩
      · rw [Int.natCast_add]; rfl
      · have h := Fr.of_own HOw.out
        refine ⟨h.1, ?_⟩
        rcases h.2 with ⟨h1, h2⟩ | ⟨g, cap, cur, hv, hg, hh, e1, e2, e3, e4⟩
        · cases h1
          exact .inl ⟨by rw [h2], h2⟩
        · cases hv
          exact .inr ⟨g, k, cur, rfl, by omega, hh, Nat.le_refl _, by omega, Nat.le_trans (Nat.mul_le_mul_right 4 e1) e3, e4⟩
      · refine HI.out.apart b ?_
        rw [e]
        rcases (Fr.of_own HOw.out).2 with ⟨h1, _⟩ | ⟨g, cap, cur, hv, _⟩
        · rw [e] at h1; cases h1
        · rw [e] at hv; cases hv; rfl
end Go.Proofs.Herb
namespace Go.Proofs.Herb
open Go.RowKit Go.Sort
theorem Mod.belowB {fp fp' : List Nat} {w w' : World} {B : Nat} (h : Mod fp fp' w w') (hf : ∀ k, k ∈ fp → B ≤ k) (hB : B ≤ w.heap.size) : Below B w w' ∧ ∀ k, k ∈ fp' → B ≤ k :=
  ⟨⟨h.os, h.tape, h.output, h.size, fun k hk => h.block k (by omega) (fun e => by have := hf k e; omega)⟩, fun k hk => by
    rcases h.grow k hk with q | q
    · exact hf k q
    · omega⟩
set_option maxRecDepth 100000 in
set_option maxHeartbeats 1000000 in
theorem chread_nil (u t : Nat) (a b : ByteArray) (hu : u < 18446744073709551616) (w : World) (ht : Pow10 w) :
    Calls Tryz.prog 19 #[.pointer none, .agg #[.int .u64 (u : Int), .int .u32 (t : Int), .string a, .string b]] w fun e w' => e = .returned (.tuple #[.slice none 0 0, .int .i64 2]) ∧ Below w.heap.size w w' := by
  obtain ⟨w0, hw0, hbk, hb0⟩ : ∃ w0, w0 = w.alloc (.cells #[.int .u64 (u : Int), .int .u32 (t : Int), .string a, .string b] 54) ∧ w0.heap[w.heap.size]? = some (.cells #[.int .u64 (u : Int), .int .u32 (t : Int), .string a, .string b] 54 (0, 0)) ∧ Below w.heap.size w w0 := ⟨_, rfl, heap_alloc_new _ _, (Below.refl _ _).alloc (Nat.le_refl _) _⟩
  have y0 := cell_of_row w0 w.heap.size 0 _ _ _ hbk
  have HW0 := hid hw0
  have HB0 := hid hb0
  have HT := hid ht
  clear hw0 hbk hb0 ht
  go_enter Tryz.func19, Tryz.ntmps19
  go_upto_region 1 with fail
  rw [← HW0.out]
  go_wp2_with fail
  (with_reducible refine (name_any u hu w0 (HT.out.below HB0.out (Nat.le_refl _))).mono ?_)
  rintro e w1 ⟨rfl, hb1⟩
  have HB1 := hid (HB0.out.trans (hb1.mono HB0.out.size))
  clear hb1 y0
  go_wp2_with fail
  (with_reducible refine (read_nil (nmU u) w1).mono ?_)
  rintro e w2 ⟨rfl, rfl⟩
  go_wp2
  go_ret2
  exact ⟨rfl, HB1.out⟩
def giv (room fuse : Int) (next : Nat) (q : Option Addr) (n c : Nat) : Value := .agg #[.int .i64 room, .int .i64 fuse, .int .u64 (next : Int), .slice q n c]
set_option maxRecDepth 100000 in
set_option maxHeartbeats 1000000 in
theorem greatC_any (room fuse : Int) (next : Nat) (q : Option Addr) (n c : Nat) (w : World) :
    Calls Tryz.prog 7 #[.agg #[.int .i64 room, .int .i64 fuse, .int .u64 (next : Int), .slice q n c]] w fun e w' => e = .returned (.bool (decide (120 < n) || decide (1099511627776 < next))) ∧ Below w.heap.size w w' := by
  obtain ⟨B, hB⟩ : ∃ B, B = (decide (120 < n) || decide (1099511627776 < next)) := ⟨_, rfl⟩
  have HB := hid hB
  rw [← hB]
  by_cases h1 : 120 < n
  · have b1 : decide ((120 : Int) < (n : Int)) = true := by simp; omega
    have hBt : B = true := by rw [hB]; simp; omega
    clear hB
    subst hBt
    go_enter Tryz.func7, Tryz.ntmps7
    go_wp2
    go_ret
    exact ⟨rfl, (Below.refl _ _).alloc (Nat.le_refl _) _⟩
  · have b1 : decide ((120 : Int) < (n : Int)) = false := by simp; omega
    have b2 : decide ((1099511627776 : Int) < (next : Int)) = B := by
      rw [hB]
      by_cases h2 : 1099511627776 < next
      · simp [h1, h2]; omega
      · simp [h1, h2]; omega
    clear hB
    go_enter Tryz.func7, Tryz.ntmps7
    go_wp2
    go_ret
    exact ⟨rfl, (Below.refl _ _).alloc (Nat.le_refl _) _⟩
end Go.Proofs.Herb
