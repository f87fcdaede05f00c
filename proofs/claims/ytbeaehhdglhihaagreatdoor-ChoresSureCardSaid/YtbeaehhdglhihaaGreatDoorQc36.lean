/- What is written is sure, but for the directory: what a crash behind a directory that is made sure leaves, and what a byte that is turned makes of a table. Plain. ChoresSure's walk. -/
import Derived.Test.YtbeaehhdglhihaaGreatDoorQc32
import Derived.Test.YtbeaehhdglhihaaGreatDoorQc34
import Derived.Test.YtbeaehhdglhihaaGreatDoorQc35
namespace Go.Proofs.Herb
open Go.RowKit Go.Sort
theorem xor_other {x y : UInt8} (h : y ≠ 0) : x ≠ x ^^^ y := fun e => h (by
  have h1 : x ^^^ (x ^^^ y) = x ^^^ x := by rw [← e]
  rw [← UInt8.xor_assoc, UInt8.xor_self, UInt8.zero_xor] at h1
  exact h1)
theorem sync_alive {s : DS} (h : FreeS s) : aliveE s = 0 ∧ letsE s = 0 ∧ letsS s = s := by
  refine ⟨?_, ?_, ?_⟩
  · unfold aliveE; rw [h.dead]; rfl
  · unfold letsE; rw [if_neg (by rw [h.fuse]; decide)]
  · unfold letsS; rw [if_pos h.fuse]
def surS (s : DS) : DS := crashS (syncDirS s) 0 []
structure SurP (next : Nat) (l : List Fact) (s : DS) : Prop where
  ok1 : ∃ n, n ≤ 20000 ∧ DsOk (syncDirS s) n
  ok2 : ∃ n, n ≤ 20000 ∧ DsOk (surS s) n
  known1 : ∀ k, knownE (syncDirS s) k = knownE s k ∧ readL (syncDirS s) k = readL s k
  known2 : ∀ x ∈ filesF next (partsL l), knownE (surS s) x.1 = 0 ∧ readL (surS s) x.1 = x.2
  many : (sortedK (surS s).names).length = (partsL l).length
  mem : ∀ x ∈ filesF next (partsL l), keyL x.1 ∈ sortedK (surS s).names
theorem sur_ok {next : Nat} {l : List Fact} {s : DS} (h : BackP next l s) : SurP next l s := by
  obtain ⟨n, hn, ok⟩ := h.ok
  have ok1 : DsOk (syncDirS s) n := ok.synced
  have ok2 : DsOk (surS s) n := ok1.crash 0 []
  have hk1 : ∀ k, knownE (syncDirS s) k = knownE s k ∧ readL (syncDirS s) k = readL s k := fun k => ⟨rfl, rfl⟩
  have hdir : crashD (syncDirS s) 0 = (syncDirS s).names := by
    have : crashJ (syncDirS s) 0 = 0 := by
      have := crashJ_le (syncDirS s) 0
      have h2 : (syncDirS s).changes.length = 0 := rfl
      omega
    unfold crashD
    rw [this]
    rfl
  have hsame : SameS (surS s) (syncDirS s) := by
    refine crash_same ok1 h.free.dead 0 [] hdir fun i k hk => ?_
    have hs := sortedK_mem hk
    obtain ⟨x, hx, rfl⟩ := h.only k hs
    obtain ⟨_, j, h1, h2⟩ := h.has x hx
    refine keep_sure ?_
    unfold fileAt
    have h1' : look (syncDirS s).names x.1 = some j := h1
    have h2' : (syncDirS s).files[j]? = some ⟨x.2, x.2.length⟩ := h2
    rw [h1', Option.getD_some, h2']
    rfl
  have hmem : ∀ x ∈ filesF next (partsL l), x.1 ∈ (sortedK (surS s).names).map ofL := fun x hx => by
    rw [hsame.1]
    obtain ⟨_, j, h1, _⟩ := h.has x hx
    refine mem_sortedK.2 ?_
    have h1' : look (syncDirS s).names x.1 = some j := h1
    rw [h1']
    rfl
  refine ⟨⟨n, hn, ok1⟩, ⟨n, hn, ok2⟩, hk1, fun x hx => ?_, ?_, fun x hx => ?_⟩
  · obtain ⟨h1, _, h3⟩ := hsame.2 x.1 (hmem x hx)
    refine ⟨h1, ?_⟩
    rw [h3, (hk1 x.1).2]
    exact ((h.has x hx).known h.free).2
  · rw [hsame.1, sortedK_len]
    exact h.many
  · obtain ⟨y, hy, e⟩ := List.mem_map.1 (hmem x hx)
    rw [← e, keyL_ofL]
    exact hy
/-- a byte of the table that is turned: it is no table any more -/
theorem turned_none {line : Nat} {p : List Fact} (hb : buildE line p = 0) (ho : ∀ f ∈ p, f.Ok) (hm : p.length ≤ 6000) {i : Nat} {y : UInt8} (hi : i < (tabB line p).length) (hy : y ≠ 0) :
    (∀ t fs, ¬ TabIs ((tabB line p).set i ((tabB line p).getD i 0 ^^^ y)) t fs) ∧ ∀ r, Opens ((tabB line p).set i ((tabB line p).getD i 0 ^^^ y)) r → r.Fit := by
  obtain ⟨hg, hl⟩ := buildE_zero.1 hb
  refine ⟨fun t fs h => ?_, fun r hr => ?_⟩
  · obtain ⟨_, ⟨r, h1, h2⟩, _⟩ := h
    exact (turn_tab hg ho hm hl hi (xor_other hy) h1).1 ⟨fs, h2⟩
  · refine fit_of hr (by rw [List.length_set]; omega) ?_
    obtain ⟨_, m, _, _, h3⟩ := turn_tab hg ho hm hl hi (xor_other hy) hr
    exact h3
theorem low_more {k : ByteArray} : k ++ ⟨#[120]⟩ ≠ k := fun e => by
  have h : (k ++ (⟨#[120]⟩ : ByteArray)).size = k.size := by rw [e]
  rw [ByteArray.size_append] at h
  have : (⟨#[120]⟩ : ByteArray).size = 1 := rfl
  omega
end Go.Proofs.Herb
namespace Go.Proofs.Herb
open Go.RowKit Go.Sort
theorem infoTb4 : (Tryz.prog.info? 54).map (·.size) = some 4 := by kernel_rfl
theorem sur_more {B : List UInt8} {t : Tab} {p : List Fact} (h : TabIs B t p) : ¬ ∃ fs, TabIs B ⟨t.file, t.bytes + 1, t.low, t.high⟩ fs := fun ⟨_, k, _⟩ => by
  have h1 := h.1
  have h2 : B.length = t.bytes + 1 := k
  omega
theorem sur_low {B : List UInt8} {t : Tab} {p : List Fact} (h : TabIs B t p) : ¬ ∃ fs, TabIs B ⟨t.file, t.bytes, t.low ++ ⟨#[120]⟩, t.high⟩ fs := fun ⟨fs, _, ⟨r, k1, k2⟩, f, g, k3, _, k5, _⟩ => by
  obtain ⟨_, ⟨r', h1, h2⟩, f', _, h3, _, h5, _⟩ := h
  obtain rfl := h1.one k1
  obtain rfl := h2.1.one k2.1
  rw [h3] at k3
  cases k3
  rw [h5] at k5
  exact low_more k5.symm
set_option maxRecDepth 100000 in
set_option maxHeartbeats 6400000 in
theorem choresSure_any (room fuse : Int) (next : Nat) (q : Option Addr) (n c : Nat) (l : List Fact) (at_ : Nat) (by_ : UInt8) (w : World) (hn64 : next < 18446744073709551616) (hat : at_ < 65536) (hl : l.length = n) (hc : n ≤ c) (hr : Rd w q (fCells l)) (ho : ∀ f ∈ l, f.Ok) (hz : ∀ f ∈ l, f.key.size ≤ 140737488355328 ∧ f.val.size ≤ 140737488355328) (ht : Pow10 w) :
    Calls Tryz.prog 4 #[.agg #[.int .i64 room, .int .i64 fuse, .int .u64 (next : Int), .slice q n c], .int .u16 (at_ : Int), .int .u8 (by_.toNat : Int)] w fun e w' => e = .returned (.bool true) ∧ Below w.heap.size w w' := by
  obtain ⟨w0, hw0, hbk, hb0⟩ : ∃ w0, w0 = w.alloc (.cells #[.int .i64 room, .int .i64 fuse, .int .u64 (next : Int), .slice q n c] 25) ∧ w0.heap[w.heap.size]? = some (.cells #[.int .i64 room, .int .i64 fuse, .int .u64 (next : Int), .slice q n c] 25 (0, 0)) ∧ Below w.heap.size w w0 := ⟨_, rfl, heap_alloc_new _ _, (Below.refl _ _).alloc (Nat.le_refl _) _⟩
  have y0 := cell_of_row w0 w.heap.size 0 _ _ _ hbk
  have y1 := cell_of_row w0 w.heap.size 1 _ _ _ hbk
  have y2 := cell_of_row w0 w.heap.size 2 _ _ _ hbk
  have y3 := cell_of_row w0 w.heap.size 3 _ _ _ hbk
  have HW0 := hid hw0
  have HB0 := hid hb0
  have HL := hid hl
  have HR := hid hr
  have Ho := hid ho
  have Hz := hid hz
  have HT := hid ht
  clear hw0 hbk hb0 hl hr ho hz ht
  go_enter Tryz.func4, Tryz.ntmps4
  go_upto_region 1 with fail
  rw [← HW0.out]
  go_wp2_with fail
  refine (written_any room fuse next q n c l w0 HL.out hc (HR.out.below HB0.out) Ho.out Hz.out (HT.out.below HB0.out (Nat.le_refl _))).mono ?_
  clear y0 y1 y2 y3
  rintro e w1 ⟨hb1, ⟨_, rfl⟩ | ⟨hn120, hnx, md, hd, hfp, ⟨_, rfl⟩ | ⟨hE, a, rfl, hfr, hnt⟩⟩⟩
  · have HB1 := hid (HB0.out.trans (hb1.mono HB0.out.size))
    clear hb1
    go_wp2_with fail
    refine (lives24_any w1 (HT.out.below HB1.out (Nat.le_refl _))).mono ?_
    rintro e w2 ⟨rfl, hb2⟩
    have HB2 := hid (HB1.out.trans (hb2.mono HB1.out.size))
    clear hb2
    go_wp2
    go_ret
    exact ⟨rfl, HB2.out⟩
  · have HB1 := hid (HB0.out.trans (hb1.mono HB0.out.size))
    clear hb1 hd hfp
    go_wp2_with fail
    refine (lives24_any w1 (HT.out.below HB1.out (Nat.le_refl _))).mono ?_
    rintro e w2 ⟨rfl, hb2⟩
    have HB2 := hid (HB1.out.trans (hb2.mono HB1.out.size))
    clear hb2
    go_wp2
    go_ret
    exact ⟨rfl, HB2.out⟩
  have hP := back_ok (next := next) (l := l) (by have := HL.out; omega) Ho.out hE
  obtain ⟨S, hS⟩ : ∃ S, Hid (S = cwS (newS 1048576) next l) := ⟨_, hid rfl⟩
  obtain ⟨ps, hps⟩ : ∃ ps, Hid (ps = partsL l) := ⟨_, hid rfl⟩
  rw [← hS.out] at hP hd
  rw [← hps.out] at hfr
  obtain ⟨TS, hTS⟩ : ∃ TS, Hid (TS = tabsF next ps) := ⟨_, hid rfl⟩
  rw [← hTS.out] at hfr
  obtain ⟨N, hN⟩ : ∃ N, N = ps.length := ⟨_, rfl⟩
  rw [← hN] at hfr
  rw [← hps.out, ← hN]
  have HB1 := hid (HB0.out.trans (hb1.mono HB0.out.size))
  have HP := hid hP
  have HD := hid hd
  have HFp := hid hfp
  have HFr := hid (fr_mono hfr HB0.out.size)
  have HNt := hid hnt
  have HN := hid hN
  clear hb1 hd hfp hE hfr hP hnt
  by_cases hN0 : N = 0
  · have bN : ((N : Int) == 0) = true := by simp [hN0]
    clear hN hN0
    go_wp2_with fail
    refine (lives24_any w1 (HT.out.below HB1.out (Nat.le_refl _))).mono ?_
    rintro e w2 ⟨rfl, hb2⟩
    have HB2 := hid (HB1.out.trans (hb2.mono HB1.out.size))
    clear hb2
    go_wp2
    go_ret
    exact ⟨rfl, HB2.out⟩
  have bN : ((N : Int) == 0) = false := by simpa using hN0
  have hkp : 0 < ps.length := by omega
  obtain ⟨p, hp⟩ : ∃ p, p = ps[0] := ⟨_, rfl⟩
  have hpk : ps[0]? = some p := by rw [List.getElem?_eq_getElem hkp, hp]
  obtain ⟨t, ht⟩ : ∃ t, Hid (t = tabOf next p) := ⟨_, hid rfl⟩
  have htk : TS[0]? = some t := by rw [hTS.out, tabsF_get, hpk, ht.out]; rfl
  obtain ⟨e1, e2, e3, e4, e5, e6, e7, e8⟩ := HP.out.each 0 p (by rw [← hps.out]; exact hpk)
  rw [Nat.add_zero, ← ht.out] at e6
  rw [Nat.add_zero] at e5 e7 e8
  obtain ⟨_, _, hfk, _, hlow, _⟩ := HP.out.ends 0 p (by rw [← hps.out]; exact hpk)
  have hSP := sur_ok HP.out
  obtain ⟨NO, hNO, ok1⟩ := hSP.ok1
  obtain ⟨NO2, hNO2, ok2⟩ := hSP.ok2
  obtain ⟨k0, hk0⟩ : ∃ k, Hid (k = nmU next) := ⟨_, hid rfl⟩
  obtain ⟨T0, hT0⟩ : ∃ T, Hid (T = tabB (lineF p) p) := ⟨_, hid rfl⟩
  have hfile : (k0, T0) ∈ filesF next (partsL l) := by
    refine List.mem_of_getElem? (i := 0) ?_
    rw [filesF_get, ← hps.out, hpk, hk0.out, hT0.out]
    rfl
  obtain ⟨S1, hS1⟩ : ∃ S1, Hid (S1 = syncDirS S) := ⟨_, hid rfl⟩
  obtain ⟨O, hO⟩ : ∃ O, Hid (O = surS S) := ⟨_, hid rfl⟩
  obtain ⟨ha1, ha2, ha3⟩ := sync_alive HP.out.free
  rw [← hk0.out] at e5 e6 e7 e8
  rw [← hT0.out] at e8
  rw [e8] at e6 e7
  have kn1 : knownE S1 k0 = 0 := by rw [hS1.out, (hSP.known1 k0).1]; exact e5
  have rd1 : readL S1 k0 = T0 := by rw [hS1.out, (hSP.known1 k0).2]; exact e8
  have kn2 : knownE O k0 = 0 := by rw [hO.out]; exact (hSP.known2 _ hfile).1
  have rd2 : readL O k0 = T0 := by rw [hO.out]; exact (hSP.known2 _ hfile).2
  have hmany : (sortedK O.names).length = N := by rw [hO.out, hSP.many, ← hps.out, hN]
  have hmem : keyL k0 ∈ sortedK O.names := by rw [hO.out]; exact hSP.mem _ hfile
  rw [← hS1.out] at ok1
  rw [← hO.out] at ok2
  have htb : t.bytes ≤ 65536 := by rw [ht.out]; exact (buildE_zero.1 e3).2
  have htb0 : 40 ≤ t.bytes := by
    obtain ⟨r, hop, _⟩ := e6.2.1
    rw [← e6.1]
    exact hop.len
  have htf : t.file = next := by rw [ht.out]; rfl
  have HTf := hid htf
  have ht64 : t.file < 18446744073709551616 := by omega
  have hlow32 : t.low.size ≤ 32 := by
    rw [ht.out]
    have hg := (buildE_zero.1 e3).1
    show (propsF (lineF p) p).low.size ≤ 32
    rw [(props_good hg.1 hg.2).low hg.2]
    obtain ⟨h, h1, -⟩ := hg.1 0 hg.2
    unfold mayF at h1
    rw [decide_eq_true_eq] at h1
    exact h1.2.1
  have hf1 := HP.out.free
  obtain ⟨tb, ea, hge, htl, hcells⟩ := tab_at HFr.out (show 0 < N by omega)
  subst ea
  obtain ⟨c0, c1, c2, c3⟩ := hcells 0 t htk (by omega)
  rw [Nat.zero_mul] at c0
  rw [Nat.zero_mul, Nat.zero_add] at c1 c2 c3
  have hnt' : tb ∉ md.fp := HNt.out tb 0 rfl
  obtain ⟨C0, hC0⟩ : ∃ X, Hid (X = (Value.int .u64 (t.file : Int))) := ⟨_, hid rfl⟩
  have HTab := hid (show ∀ W : World, (∀ j, W.cell? ⟨tb, j, none⟩ = w1.cell? ⟨tb, j, none⟩) → W.cell? ⟨tb, 0, none⟩ = some (.int .u64 (t.file : Int)) ∧ W.cell? ⟨tb, 1, none⟩ = some (.int .u32 (t.bytes : Int)) ∧ W.cell? ⟨tb, 2, none⟩ = some (.string t.low) ∧ W.cell? ⟨tb, 3, none⟩ = some (.string t.high) from fun W h => ⟨(h 0).trans c0, (h 1).trans c1, (h 2).trans c2, (h 3).trans c3⟩)
  have HE3 := hid e3
  have HE6 := hid e6
  have HE7 := hid e7
  have Hk1 := hid kn1
  have Hr1 := hid rd1
  have Hk2 := hid kn2
  have Hr2 := hid rd2
  have HMany := hid hmany
  have HMem := hid hmem
  have HO1 := hid ok1
  have HO2 := hid ok2
  have HNp := hid (show p.length ≤ 120 by have := HL.out; omega)
  have HOp := hid (show ∀ f ∈ p, f.Ok from fun f hf => Ho.out f (e4 f hf))
  have i0 : (0 : Int) < (N : Int) := by omega
  have hsd := syncDir_ok md S w1 HD.out (by rw [hf1.fuse]; decide) (by rw [hf1.fuse]; decide) ha1 ha2
  rw [ha3, ← hS1.out] at hsd
  have HSd := hid hsd
  clear e1 e2 e3 e4 e5 e6 e7 e8 hcells htk hpk hp hkp hfk hlow hSP hfile ha1 ha2 ha3 kn1 rd1 kn2 rd2 hmany hmem ok1 ok2 hN hf1 hsd hN0 htf
  go_wp2_with fail
  refine HSd.out.mono ?_
  rintro e w2 ⟨nS, rfl, hd2, hM2⟩
  have HM2 := hid hM2
  have hB2 := hM2.belowB (B := w.heap.size) (fun k hk => by have := HFp.out k hk; have := HB0.out.size; omega) HB1.out.size
  have HB2 := hid (HB1.out.trans hB2.1)
  have htb2 : ∀ j, w2.cell? ⟨tb, j, none⟩ = w1.cell? ⟨tb, j, none⟩ := fun j => World.cell?_of_block (w := w1) (a := ⟨tb, j, none⟩) (hM2.block tb htl hnt')
  have hs2 : w1.heap.size ≤ w2.heap.size := hM2.size
  have HTb2 := hid htb2
  have HD2 := hid hd2
  clear hd2 hM2 hB2 htb2 c0 c1 c2 c3 HSd
  have hcr := crash_any _ S1 0 none 0 0 [] w2 HD2.out rfl (.inl rfl) (by have := HO1.out.changes; omega) (HO1.out.crashOk (by omega) 0 [])
  rw [show crashS S1 0 [] = O from by rw [hO.out, hS1.out]; rfl] at hcr
  have HCr := hid hcr
  clear hcr
  go_wp2_with fail
  refine HCr.out.mono ?_
  rintro e w3 ⟨mo, rfl, hd3, hb3, hf3⟩
  have HB3 := hid (HB2.out.trans (hb3.mono HB2.out.size))
  have HB23 := hid hb3
  have HD3 := hid hd3
  have HF3 := hid hf3
  have hs3 := hb3.size
  obtain ⟨c0, c1, c2, c3⟩ := HTab.out w3 fun j => (hb3.cell (p := ⟨tb, j, none⟩) (show tb < w2.heap.size by omega)).trans (HTb2.out j)
  have hrd3 := chread_any mo O NO2 t w3 HD3.out HO2.out ht64 (by omega) (by rw [HTf.out, ← hk0.out, Hr2.out]; exact HE7.out) (HT.out.below HB3.out (Nat.le_refl _))
  unfold ReadC at hrd3
  rw [HTf.out, ← hk0.out, Hr2.out, Hk2.out, ← HTf.out] at hrd3
  have HRd3 := hid hrd3
  clear hb3 hd3 hf3 HCr hrd3
  go_wp2_with fail
  refine HRd3.out.mono ?_
  rintro e w4 ⟨hb4, hcase⟩
  obtain ⟨qf, rfl, hF4⟩ : ∃ qp, e = .returned (.tuple #[.slice qp p.length p.length, .int .i64 0]) ∧ Fr w4 w3.heap.size 65 6 (.slice qp p.length p.length) p.length (fCells p) := by
    rcases hcase with ⟨h, _⟩ | ⟨_, h, _⟩ | ⟨fs, _, h, qp, h2, h3⟩
    · cases h
    · exact absurd ⟨p, (by trivial), HE6.out⟩ h
    · obtain rfl := h.one HE6.out
      exact ⟨qp, h2, h3⟩
  obtain ⟨M, hM⟩ : ∃ M, Hid (M = p.length) := ⟨_, hid rfl⟩
  rw [← hM.out] at hF4 ⊢
  have hM6 : M ≤ 120 := by rw [hM.out]; exact HNp.out
  have HB4 := hid (HB3.out.trans (hb4.mono HB3.out.size))
  have HB34 := hid hb4
  have HF4 := hid hF4
  have hs4 := hb4.size
  have HB24 := hid (HB23.out.trans (hb4.mono HB23.out.size))
  obtain ⟨d0, d1, d2, d3⟩ := HTab.out w4 fun j => (HB24.out.cell (p := ⟨tb, j, none⟩) (show tb < w2.heap.size by omega)).trans (HTb2.out j)
  have hrd4 := chread_any _ S1 NO t w4 (HD2.out.below HB24.out) HO1.out ht64 (by omega) (by rw [HTf.out, ← hk0.out, Hr1.out]; exact HE7.out) (HT.out.below HB4.out (Nat.le_refl _))
  unfold ReadC at hrd4
  rw [HTf.out, ← hk0.out, Hr1.out, Hk1.out, ← HTf.out] at hrd4
  have HRd4 := hid hrd4
  clear hb4 hF4 hcase hrd4 HRd3 c0 c1 c2 c3
  go_wp2_with fail
  refine HRd4.out.mono ?_
  rintro e w5 ⟨hb5, hcase⟩
  obtain ⟨qg, rfl, hF5⟩ : ∃ qp, e = .returned (.tuple #[.slice qp M M, .int .i64 0]) ∧ Fr w5 w4.heap.size 65 6 (.slice qp M M) M (fCells p) := by
    rcases hcase with ⟨h, _⟩ | ⟨_, h, _⟩ | ⟨fs, _, h, qp, h2, h3⟩
    · cases h
    · exact absurd ⟨p, (by trivial), HE6.out⟩ h
    · obtain rfl := h.one HE6.out
      exact ⟨qp, by rw [hM.out]; exact h2, by rw [hM.out]; exact h3⟩
  have HB5 := hid (HB4.out.trans (hb5.mono HB4.out.size))
  have HB25 := hid (HB24.out.trans (hb5.mono HB24.out.size))
  have HB35 := hid (HB34.out.trans (hb5.mono HB34.out.size))
  have hs5 := hb5.size
  have HSf := hid (same_facts qf qg M M M M p p w5 hM.out.symm hM.out.symm (by omega) (by omega) (HF4.out.rd.below hb5) hF5.rd)
  clear hb5 hF5 hcase HRd4 d0 d1 d2 d3
  go_wp2_with fail
  refine HSf.out.mono ?_
  rintro e w6 ⟨x, rfl, hx, hb6⟩
  obtain rfl : x = true := by simpa using hx
  have HB6 := hid (HB5.out.trans (hb6.mono HB5.out.size))
  have HB26 := hid (HB25.out.trans (hb6.mono HB25.out.size))
  have HB36 := hid (HB35.out.trans (hb6.mono HB35.out.size))
  have hs6 := hb6.size
  obtain ⟨c0, c1, c2, c3⟩ := HTab.out w6 fun j => (HB26.out.cell (p := ⟨tb, j, none⟩) (show tb < w2.heap.size by omega)).trans (HTb2.out j)
  have wb : IntKind.u32.wrap ((t.bytes : Int) + 1) = ((t.bytes + 1 : Nat) : Int) := by rw [IntKind.wrap_u32]; omega
  clear hb6 hx HSf
  go_upto_region 13 with fail
  obtain ⟨w7, hw7, hbk7, hb7⟩ : ∃ w7, w6.alloc (.cells #[.int .u64 (t.file : Int), .int .u32 ((t.bytes : Int) + 1), .string t.low, .string t.high] 54) = w7 ∧ w7.heap[w6.heap.size]? = some (.cells #[.int .u64 (t.file : Int), .int .u32 ((t.bytes : Int) + 1), .string t.low, .string t.high] 54 (0, 0)) ∧ Below w6.heap.size w6 w7 := ⟨_, rfl, heap_alloc_new _ _, (Below.refl _ _).alloc (Nat.le_refl _) _⟩
  rw [hw7]
  have HB7 := hid (HB6.out.trans (hb7.mono HB6.out.size))
  have HB27 := hid (HB26.out.trans (hb7.mono HB26.out.size))
  have HB37 := hid (HB36.out.trans (hb7.mono HB36.out.size))
  obtain ⟨X, hX⟩ : ∃ X, X = w6.heap.size := ⟨_, rfl⟩
  rw [← hX] at hbk7 ⊢
  have hX7 : X < w7.heap.size := lt_of_block hbk7
  have HX := hid hX
  have y0 := cell_of_row w7 X 0 _ _ _ hbk7
  have y1 := cell_of_row w7 X 1 _ _ _ hbk7
  have y2 := cell_of_row w7 X 2 _ _ _ hbk7
  have y3 := cell_of_row w7 X 3 _ _ _ hbk7
  have HBk7 := hid hbk7
  have hn1 := sur_more HE6.out
  have hn2 := sur_low HE6.out
  have hrd5 := chread_any mo O NO2 ⟨t.file, t.bytes + 1, t.low, t.high⟩ w7 (HD3.out.below HB37.out) HO2.out ht64 (by show t.bytes + 1 < 4294967296; omega) (by rw [HTf.out, ← hk0.out, Hr2.out]; exact HE7.out) (HT.out.below HB7.out (Nat.le_refl _))
  unfold ReadC at hrd5
  dsimp only at hrd5
  rw [HTf.out, ← hk0.out, Hr2.out, Hk2.out, ← HTf.out, show ((t.bytes + 1 : Nat) : Int) = (t.bytes : Int) + 1 by omega] at hrd5
  have HRd5 := hid hrd5
  have HN1 := hid hn1
  have HN2 := hid hn2
  clear hw7 hX hbk7 hb7 hrd5 hn1 hn2 c0 c1 c2 c3
  go_wp2_with fail
  refine HRd5.out.mono ?_
  rintro e w8 ⟨hb8, hcase⟩
  obtain rfl : e = .returned (.tuple #[.slice none 0 0, .int .i64 13]) := by
    rcases hcase with ⟨h, _⟩ | ⟨_, _, h⟩ | ⟨fs, _, h, _⟩
    · cases h
    · exact h
    · exact absurd ⟨fs, h⟩ HN1.out
  have HB8 := hid (HB7.out.trans (hb8.mono HB7.out.size))
  have HB28 := hid (HB27.out.trans (hb8.mono HB27.out.size))
  have HB38 := hid (HB37.out.trans (hb8.mono HB37.out.size))
  have bk8 := (hb8.block _ hX7).trans HBk7.out
  have hX8 : X < w8.heap.size := lt_of_block bk8
  obtain ⟨c0, c1, c2, c3⟩ := HTab.out w8 fun j => (HB28.out.cell (p := ⟨tb, j, none⟩) (show tb < w2.heap.size by omega)).trans (HTb2.out j)
  have z0 := cell_of_row w8 X 0 _ _ _ bk8
  have z1 := cell_of_row w8 X 1 _ _ _ bk8
  have z2 := cell_of_row w8 X 2 _ _ _ bk8
  have z3 := cell_of_row w8 X 3 _ _ _ bk8
  have HBk8 := hid bk8
  clear hcase hb8 y0 y1 y2 y3 HRd5 bk8
  go_upto_region 15 with (refine wpList_store_block rfl 54 _ _ rfl _ _ _ _ rfl rfl HBk8.out rfl infoTb4 (by simp [Value.oneCell']) ?_)
  obtain ⟨w9, hw9⟩ : ∃ x, x = w8.setRow X #[.int .u64 (t.file : Int), .int .u32 (t.bytes : Int), .string t.low, .string t.high] := ⟨_, rfl⟩
  rw [← hw9]
  have hX6 : w.heap.size ≤ X := by have := HB6.out.size; have := HX.out; omega
  have hX2 : w2.heap.size ≤ X := by have := HB26.out.size; have := HX.out; omega
  have hX3 : w3.heap.size ≤ X := by have := HB36.out.size; have := HX.out; omega
  have HB9 := hid (show Below w.heap.size w w9 from by rw [hw9]; exact below_setRow HB8.out hX6 _)
  have HB29 := hid (show Below w2.heap.size w2 w9 from by rw [hw9]; exact below_setRow HB28.out hX2 _)
  have HB39 := hid (show Below w3.heap.size w3 w9 from by rw [hw9]; exact below_setRow HB38.out hX3 _)
  have bk9 : w9.heap[X]? = some (.cells #[.int .u64 (t.file : Int), .int .u32 (t.bytes : Int), .string t.low, .string t.high] 54 (0, 0)) := by rw [hw9]; exact setRow_heap _ _ _ _ _ _ HBk8.out
  have hX9 : X < w9.heap.size := lt_of_block bk9
  clear hw9 z0 z1 z2 z3 c0 c1 c2 c3
  have z0 := cell_of_row w9 X 0 _ _ _ bk9
  have z1 := cell_of_row w9 X 1 _ _ _ bk9
  have z2 := cell_of_row w9 X 2 _ _ _ bk9
  have z3 := cell_of_row w9 X 3 _ _ _ bk9
  have fz : w9.frozen? ⟨X, 2, none⟩ = false := by unfold World.frozen?; dsimp only; rw [bk9]; rfl
  have HBk9 := hid bk9
  clear bk9
  go_upto_region 16 with fail
  obtain ⟨LX, hLX⟩ : ∃ x, Hid (x = t.low ++ (⟨#[120]⟩ : ByteArray)) := ⟨_, hid rfl⟩
  rw [← hLX.out]
  obtain ⟨w10, hw10⟩ : ∃ x, x = w9.setCell ⟨X, 2, none⟩ (.string LX) := ⟨_, rfl⟩
  rw [← hw10]
  have HB10 := hid (show Below w.heap.size w w10 from by rw [hw10]; exact HB9.out.setCell (p := ⟨X, 2, none⟩) hX6 _)
  have HB210 := hid (show Below w2.heap.size w2 w10 from by rw [hw10]; exact HB29.out.setCell (p := ⟨X, 2, none⟩) hX2 _)
  have HB310 := hid (show Below w3.heap.size w3 w10 from by rw [hw10]; exact HB39.out.setCell (p := ⟨X, 2, none⟩) hX3 _)
  have bk10 : w10.heap[X]? = some (.cells #[.int .u64 (t.file : Int), .int .u32 (t.bytes : Int), .string LX, .string t.high] 54 (0, 0)) := by rw [hw10]; exact (heap_setCell_same _ _ _ _ _ _ HBk9.out).trans rfl
  clear hw10 z0 z1 z2 z3 fz
  have z0 := cell_of_row w10 X 0 _ _ _ bk10
  have z1 := cell_of_row w10 X 1 _ _ _ bk10
  have z2 := cell_of_row w10 X 2 _ _ _ bk10
  have z3 := cell_of_row w10 X 3 _ _ _ bk10
  have hrd6 := chread_any mo O NO2 ⟨t.file, t.bytes, LX, t.high⟩ w10 (HD3.out.below HB310.out) HO2.out ht64 (by show t.bytes < 4294967296; omega) (by rw [HTf.out, ← hk0.out, Hr2.out]; exact HE7.out) (HT.out.below HB10.out (Nat.le_refl _))
  unfold ReadC at hrd6
  dsimp only at hrd6
  rw [HTf.out, ← hk0.out, Hr2.out, Hk2.out, ← HTf.out, hLX.out] at hrd6
  have HRd6 := hid hrd6
  rw [← hLX.out] at HRd6
  clear hrd6 bk10
  go_wp2_with fail
  refine HRd6.out.mono ?_
  rintro e w11 ⟨hb11, hcase⟩
  obtain rfl : e = .returned (.tuple #[.slice none 0 0, .int .i64 13]) := by
    rcases hcase with ⟨h, _⟩ | ⟨_, _, h⟩ | ⟨fs, _, h, _⟩
    · cases h
    · exact h
    · rw [hLX.out] at h
      exact absurd ⟨fs, h⟩ HN2.out
  have HB11 := hid (HB10.out.trans (hb11.mono HB10.out.size))
  have HB211 := hid (HB210.out.trans (hb11.mono HB210.out.size))
  have HB311 := hid (HB310.out.trans (hb11.mono HB310.out.size))
  clear hcase hb11 z0 z1 z2 z3 HRd6 hX7 hX8 hX9
  have HKeys := hid (HO2.out.good.keysOk (by have := HO2.out.files; omega) (by omega))
  go_wp2_with fail
  refine (list_any mo O w11 (HD3.out.below HB311.out) HKeys.out).mono ?_
  rintro e w12 ⟨q12, rfl, hF12, hb12⟩
  rw [HMany.out] at hF12 ⊢
  have HB12 := hid (HB11.out.trans (hb12.mono HB11.out.size))
  have HB212 := hid (HB211.out.trans (hb12.mono HB211.out.size))
  have HB312 := hid (HB311.out.trans (hb12.mono HB311.out.size))
  have hs12 := HB212.out.size
  obtain ⟨nb, no, e12, hnc⟩ := hF12.rd.cell (k := 0) (by rw [List.length_map, HMany.out]; omega)
  subst e12
  rw [List.getElem_map] at hnc
  have hkz : 0 < (sortedK O.names).length := by rw [HMany.out]; omega
  obtain ⟨K0, hK0⟩ : ∃ K : ByteArray, Hid (K = ofL ((sortedK O.names)[0])) := ⟨_, hid rfl⟩
  have hnc' : w12.cell? ⟨nb, no, none⟩ = some (.string K0) := by rw [hK0.out]; exact hnc
  obtain ⟨c0, c1, c2, c3⟩ := HTab.out w12 fun j => (HB212.out.cell (p := ⟨tb, j, none⟩) (show tb < w2.heap.size by omega)).trans (HTb2.out j)
  have bT : ((t.bytes : Int) == 0) = false := by simp; omega
  obtain ⟨A, hA⟩ : ∃ A, A = at_ % t.bytes := ⟨_, rfl⟩
  have wr1 : IntKind.i64.wrap (at_ : Int) = (at_ : Int) := by rw [IntKind.wrap_i64]; omega
  have wr2 : IntKind.i64.wrap (t.bytes : Int) = (t.bytes : Int) := by rw [IntKind.wrap_i64]; omega
  have tm : (at_ : Int).tmod (t.bytes : Int) = (A : Int) := by rw [hA]; rfl
  have HA := hid hA
  have hAl : A < t.bytes := by rw [hA]; exact Nat.mod_lt _ (by omega)
  clear hF12 hb12 hnc hA
  by_cases hby : by_ = 0
  · have bB : (((by_.toNat : Nat) : Int) != 0) = false := by rw [hby]; rfl
    clear hby wr1 wr2 tm c0 c2 c3
    go_wp2_with fail
    go_quiet (fail)
    obtain ⟨w13, hw13⟩ : ∃ x, x = w12.drewN nq := ⟨_, rfl⟩
    rw [← hw13]
    have HB13 := hid (show Below w.heap.size w w13 from by rw [hw13]; exact below_drewN HB12.out nq)
    clear hw13
    go_wp2_with fail
    refine (lives24_any w13 (HT.out.below HB13.out (Nat.le_refl _))).mono ?_
    rintro e w14 ⟨rfl, hb14⟩
    have HB14 := hid (HB13.out.trans (hb14.mono HB13.out.size))
    clear hb14
    go_wp2
    go_ret
    exact ⟨rfl, HB14.out⟩
  have bB : (((by_.toNat : Nat) : Int) != 0) = true := by
    rw [bne_iff_ne]
    intro h
    exact hby (UInt8.toNat_inj.1 (by have : (0 : UInt8).toNat = 0 := rfl; omega))
  have hKm : K0 ∈ (sortedK O.names).map ofL := by rw [hK0.out]; exact List.mem_map_of_mem (List.getElem_mem _)
  have HKs := hid (show K0.size ≤ maxLen from by
    obtain ⟨v, hv⟩ := Option.isSome_iff_exists.1 (mem_sortedK.1 hKm)
    obtain ⟨e, he, rfl, _⟩ := look_mem' hv
    have := (may_size (HO2.out.good.may e he)).2
    unfold maxLen; omega)
  have HTu := hid (fun W hd => turn_any mo O K0 HKs.out (A : Int) by_ W hd HO2.out.good.ok (fun f hf => (HO2.out.sure f hf).2))
  obtain ⟨E, hE⟩ : ∃ E : Int, Hid (E = turnBE O K0 (A : Int)) := ⟨_, hid rfl⟩
  rw [← hE.out] at HTu
  have HD12 := hid (HD3.out.below HB312.out)
  have HFp3 := hid (show ∀ k, k ∈ mo.fp → w2.heap.size < k from HF3.out)
  clear hKm
  go_upto_region 22 with fail
  obtain ⟨TD, D, hD1, hD2⟩ := class_d w12
  have k0 : ∀ d, (D d).cell? ⟨nb, no, none⟩ = some (.string K0) := fun d => ((hD1 d).cell (World.block_lt_of_cell? w12 _ hnc')).trans hnc'
  have k1 : ∀ d, (D d).cell? ⟨tb, 1, none⟩ = some (.int .u32 (t.bytes : Int)) := fun d => ((hD1 d).cell (World.block_lt_of_cell? w12 _ c1)).trans c1
  obtain ⟨x0, hx0⟩ := hD2 { w12 with drawn := w12.drawn + 1 } (Below.refl _ _).drew
  haveI : Nonempty TD := ⟨x0⟩
  have HD1 := hid hD1
  clear hD1 hD2 c0 c1 c2 c3 hnc'
  refine region_last_d (D := D) 16 (by kernel_rfl) (by kernel_rfl) (by kernel_rfl) x0 hx0 ?_
  simp only [List.take_succ_cons, List.take_zero, List.drop_succ_cons, List.drop_zero]
  repeat (go_big_quiet_step (fail))
  refine wpQuiet_nil ?_
  intro d
  obtain ⟨w13, hw13⟩ : ∃ x, x = D d := ⟨_, rfl⟩
  rw [← hw13]
  have hb13 : Below w12.heap.size w12 w13 := by rw [hw13]; exact HD1.out d
  have HB13 := hid (HB12.out.trans (hb13.mono HB12.out.size))
  have HB213 := hid (HB212.out.trans (hb13.mono HB212.out.size))
  have hs13 := HB213.out.size
  have HTu13 := hid (HTu.out w13 (HD12.out.below hb13))
  clear hw13 hb13 k0 k1 hx0
  go_wp2_with fail
  refine HTu13.out.mono ?_
  rintro e w14 ⟨rfl, hd14, hM14⟩
  have hB14 := hM14.belowB (B := w.heap.size) (fun k hk => by have := HFp3.out k hk; have := HB0.out.size; have := HB2.out.size; omega) HB13.out.size
  have HB14 := hid (HB13.out.trans hB14.1)
  have HD14 := hid hd14
  have HTb14 := hid (show ∀ j, w14.cell? ⟨tb, j, none⟩ = w1.cell? ⟨tb, j, none⟩ from fun j => ((World.cell?_of_block (w := w13) (a := ⟨tb, j, none⟩) (hM14.block tb (by omega) (fun h => by have := HFp3.out tb h; omega))).trans (HB213.out.cell (p := ⟨tb, j, none⟩) (show tb < w2.heap.size by omega))).trans (HTb2.out j))
  clear hd14 hM14 hB14 HTu13
  by_cases hE0 : E = 0
  · by_cases hN1 : N = 1
    · have bE : (E == 0) = true := by simp [hE0]
      have bN1 : ((N : Int) == 1) = true := by simp [hN1]
      have hKk : K0 = k0 := by
        have hl : (sortedK O.names).length = 1 := by rw [HMany.out, hN1]
        obtain ⟨z, hz⟩ := List.length_eq_one_iff.1 hl
        have h1 := HMem.out
        rw [hz, List.mem_singleton] at h1
        rw [hK0.out]
        have h2 : (sortedK O.names)[0] = z := by simp [hz]
        rw [h2, ← h1, ofL_keyL]
      obtain ⟨O2, hO2⟩ : ∃ x, Hid (x = turnBS O K0 (A : Int) by_) := ⟨_, hid rfl⟩
      have hq : turnBE O k0 (A : Int) = 0 := by rw [← hKk, ← hE.out, hE0]
      have Ho2 := hid (HO2.out.turnB K0 (A : Int) by_)
      rw [← hO2.out] at Ho2 HD14
      have hkn : knownE O2 k0 = 0 := by rw [hO2.out, (turn_found K0 k0 (A : Int) by_).2]; exact Hk2.out
      have hff : readL O k0 = fileL O k0 ∧ readL O2 k0 = fileL O2 k0 := by
        constructor
        · unfold readL; rw [if_pos Hk2.out]
        · unfold readL; rw [if_pos hkn]
      have hrd2 : readL O2 k0 = T0.set A (T0.getD A 0 ^^^ by_) := by
        rw [hff.2, hO2.out, hKk, turn_file hq, ← hff.1, Hr2.out, Int.toNat_natCast]
      have hTl : T0.length = t.bytes := HE6.out.1
      have htn := turned_none HE3.out HOp.out (by have := HNp.out; omega) (i := A) (y := by_) (by rw [← hT0.out, hTl]; exact hAl) hby
      rw [← hT0.out, ← hrd2] at htn
      have Htn := hid htn
      have Hkn := hid hkn
      obtain ⟨c0, c1, c2, c3⟩ := HTab.out w14 HTb14.out
      have hrd7 := chread_any mo O2 NO2 t w14 HD14.out Ho2.out ht64 (by omega) (by rw [HTf.out, ← hk0.out]; exact Htn.out.2) (HT.out.below HB14.out (Nat.le_refl _))
      unfold ReadC at hrd7
      rw [HTf.out, ← hk0.out, Hkn.out, ← HTf.out] at hrd7
      have HRd7 := hid hrd7
      clear hE0 hN1 hKk hq hkn hff hrd2 hTl htn hrd7
      go_wp2_with fail
      refine HRd7.out.mono ?_
      rintro e w15 ⟨hb15, hcase⟩
      obtain rfl : e = .returned (.tuple #[.slice none 0 0, .int .i64 13]) := by
        rcases hcase with ⟨h, _⟩ | ⟨_, _, h⟩ | ⟨fs, _, h, _⟩
        · cases h
        · exact h
        · exact absurd h (Htn.out.1 t fs)
      have HB15 := hid (HB14.out.trans (hb15.mono HB14.out.size))
      clear hcase hb15 c0 c1 c2 c3 HRd7
      go_wp2_with fail
      refine (lives24_any w15 (HT.out.below HB15.out (Nat.le_refl _))).mono ?_
      rintro e w16 ⟨rfl, hb16⟩
      have HB16 := hid (HB15.out.trans (hb16.mono HB15.out.size))
      clear hb16
      go_wp2
      go_ret
      exact ⟨rfl, HB16.out⟩
    · have bE : (E == 0) = true := by simp [hE0]
      have bN1 : ((N : Int) == 1) = false := by simp; omega
      clear hE0 hN1
      go_wp2_with fail
      refine (lives24_any w14 (HT.out.below HB14.out (Nat.le_refl _))).mono ?_
      rintro e w16 ⟨rfl, hb16⟩
      have HB16 := hid (HB14.out.trans (hb16.mono HB14.out.size))
      clear hb16
      go_wp2
      go_ret
      exact ⟨rfl, HB16.out⟩
  · have bE : (E == 0) = false := by simpa using hE0
    clear hE0
    go_wp2_with fail
    refine (lives24_any w14 (HT.out.below HB14.out (Nat.le_refl _))).mono ?_
    rintro e w16 ⟨rfl, hb16⟩
    have HB16 := hid (HB14.out.trans (hb16.mono HB14.out.size))
    clear hb16
    go_wp2
    go_ret
    exact ⟨rfl, HB16.out⟩
theorem choresSure_all (room fuse : Int) (next : Nat) (q : Option Addr) (n c : Nat) (l : List Fact) (at_ b : Nat) (w : World) (hn64 : next < 18446744073709551616) (hat : at_ < 65536) (hb : b < 256) (hl : l.length = n) (hc : n ≤ c) (hr : Rd w q (fCells l)) (ho : ∀ f ∈ l, f.Ok) (hz : ∀ f ∈ l, f.key.size ≤ 140737488355328 ∧ f.val.size ≤ 140737488355328) (ht : Pow10 w) :
    Calls Tryz.prog 4 #[.agg #[.int .i64 room, .int .i64 fuse, .int .u64 (next : Int), .slice q n c], .int .u16 (at_ : Int), .int .u8 (b : Int)] w fun e w' => e = .returned (.bool true) ∧ Below w.heap.size w w' := by
  have e : (UInt8.ofNat b).toNat = b := by rw [UInt8.toNat_ofNat']; omega
  have h := choresSure_any room fuse next q n c l at_ (UInt8.ofNat b) w hn64 hat hl hc hr ho hz ht
  rw [e] at h
  exact h
end Go.Proofs.Herb
