/- The contract of chores.Rewrite for tables that can be read, whose facts stand in order, no neighbours alike, where nothing or all is gone. For a disk as DiskAt says, in worlds where the library's table of powers of ten reads as it was laid. Facts that are written, and written once more: what can be read behind each write. Plain; for facts as chapter 24's law has them. The contracts of the reference's Bytes, Put and PutText (varints). For slices that can be read. The contracts of the reference's May and Before (keys). For facts whose keys are strings of Go's. The contracts of the reference's turned, key, Seek and Put (keys). For facts whose keys are short. The contracts of the reference's four, Sum and Put (blocks). For items that can be read, of so many bytes. The contract of the reference's May (tables). For facts that can be read. -/
import Derived.Deep.RegionHeld3
import Derived.WalkLawsBesides
import Derived.WalkSpells
import Derived.Outline
import Derived.Deep.LoopGhost
import Derived.Deep.QuietTactic
import Derived.Deep.DeepCutAuto
import Derived.BigQuiet
import Derived.Test.YtcmiillgniglaaaGreatDoorQf01
import Derived.Test.YtcmiillgniglaaaGreatDoorQf02
import Derived.Test.YtcmiillgniglaaaGreatDoorQf03
import Derived.Test.YtcmiillgniglaaaGreatDoorQf04
import Derived.Test.YtcmiillgniglaaaGreatDoorQf07
import Derived.Test.YtcmiillgniglaaaGreatDoorQf22
import Derived.Test.YtcmiillgniglaaaGreatDoorQf30
import Derived.Test.YtcmiillgniglaaaGreatDoorQf34
import Derived.Test.YtcmiillgniglaaaGreatDoorQf35
namespace Go.Proofs.Herb
open Go.RowKit Go.Sort
theorem infoFact6w : (Tryz.prog.info? 50).map (fun i => (i.zero, i.size, i.bytes)) = some (some (.agg #[.string ⟨#[]⟩, .int .u32 0, .int .u64 0, .int .u64 0, .int .u8 0, .string ⟨#[]⟩]), 6, 64) := by kernel_rfl
/-- where the reading loop stands: the facts' box A, the others as they were -/
structure RwI (w w4 : World) (A : Nat) (l : List Fact) (wr : World) : Prop where
  below : Below w.heap.size w wr
  size : w4.heap.size ≤ wr.heap.size
  other : ∀ g, g < w4.heap.size → g ≠ A → wr.heap[g]? = w4.heap[g]?
  box : ∃ (q : Option Addr) (c : Nat), wr.heap[A]? = some (.cells #[.slice q l.length c] 23 (0, 0)) ∧ wr.ownsRow w4.heap.size 50 6 (.slice q l.length c) l.length (fCells l)
theorem fr_lo24 {w : World} {base : Nat} {e : TypeId} {k : Nat} {q : Option Addr} {n c : Nat} {xs : List Value} (h : Fr w base e k (.slice q n c) n xs) : ∀ a, q = some a → base ≤ a.block ∧ a.block < w.heap.size := by
  rcases h.2 with ⟨h, _⟩ | ⟨g, cap, cur, hv, hb, hh, _⟩
  · cases h; intro a e; cases e
  · cases hv; intro a e; cases e; exact ⟨hb, lt_of_block hh⟩
theorem tabRd_at {W : World} {q : Option Addr} {ts : List Tab} {k : Nat} {t : Tab} (h : Rd W q (tbCells ts)) (htk : ts[k]? = some t) : ∃ b off, q = some ⟨b, off, none⟩ ∧ b < W.heap.size ∧ W.cell? ⟨b, off + k * 4, none⟩ = some (.int .u64 (t.file : Int)) ∧ W.cell? ⟨b, off + k * 4 + 1, none⟩ = some (.int .u32 (t.bytes : Int)) ∧ W.cell? ⟨b, off + k * 4 + 2, none⟩ = some (.string t.low) ∧ W.cell? ⟨b, off + k * 4 + 3, none⟩ = some (.string t.high) := by
  have hlen : k * 4 + 3 < (tbCells ts).length := by
    have := (List.getElem?_eq_some_iff.1 htk).1
    rw [tbCells_len]
    omega
  obtain ⟨b, off, e, hc0⟩ := h.cell (k := k * 4) (by omega)
  have one : ∀ j v, j < 4 → t.cells[j]? = some v → W.cell? ⟨b, off + (k * 4 + j), none⟩ = some v := fun j v hj hv => by
    obtain ⟨b', off', e', hc⟩ := h.cell (k := k * 4 + j) (by omega)
    rw [e] at e'
    cases e'
    rw [hc]
    have := tbCells_at htk j hj
    rw [hv] at this
    exact congrArg some (List.getElem?_eq_some_iff.1 this).2
  exact ⟨b, off, e, World.block_lt_of_cell? _ _ hc0, one 0 _ (by decide) rfl, (by have := one 1 _ (by decide) rfl; rwa [← Nat.add_assoc] at this), (by have := one 2 _ (by decide) rfl; rwa [← Nat.add_assoc] at this), (by have := one 3 _ (by decide) rfl; rwa [← Nat.add_assoc] at this)⟩
structure RwP (s : DS) (ts : List Tab) (ps : List (List Fact)) : Prop where
  len : ps.length = ts.length
  each : ∀ (k : Nat) (t : Tab), ts[k]? = some t → ∃ p, ps[k]? = some p ∧ t.file < 18446744073709551616 ∧ t.bytes < 4294967296 ∧ knownE s (nmU t.file) = 0 ∧ TabIs (readL s (nmU t.file)) t p ∧ ∀ r, Opens (readL s (nmU t.file)) r → r.Fit
set_option maxRecDepth 100000 in
set_option maxHeartbeats 6400000 in
theorem rewrite_any (md : DM) (s : DS) (n next : Nat) (f1 f2 : Int) (a : Option Addr) (N ca : Nat) (ts : List Tab) (ps : List (List Fact)) (L : List Fact) (qg : Option Addr) (ng cg : Nat) (G : List Fact) (gone : Bool) (w : World)
    (h : DiskAt w md s) (ok : DsOk s n) (hn : n ≤ 800000) (hnx : next + 6001 < 18446744073709551616) (hts : ts.length = N) (hN : N ≤ 6000) (hac : a = none → ca = 0) (hra : Rd w a (tbCells ts)) (hP : RwP s ts ps) (hL : ps.flatten = L) (hLl : L.length ≤ 6000)
    (hri : RiseF L) (hor : OrdF L) (hal : NoAl L) (ho : ∀ f ∈ L, f.Ok) (hz : ∀ f ∈ L, f.key.size ≤ 140737488355328 ∧ f.val.size ≤ 140737488355328)
    (hg : G.length = ng) (hg6 : ng ≤ 1000000) (hrg : Rd w qg (fCells G)) (hgone : ∀ f ∈ L, G.any (alikeF f) = gone) (ht : Pow10 w) (hgp : 0 ∉ md.fp) :
    Calls Tryz.prog 7 #[.pointer (some ⟨md.D, 0, none⟩), .int .u64 (next : Int), .agg #[.int .i64 f1, .int .i64 f2, .slice a N ca, .slice none 0 0], .slice qg ng cg] w (WriteC md s next (if gone then [] else L) w) := by
  obtain ⟨L2, hL2⟩ : ∃ x, Hid (x = if gone then [] else L) := ⟨_, hid rfl⟩
  rw [← hL2.out]
  obtain ⟨wa, hwa⟩ : ∃ x, x = w.alloc (.cells #[.int .i64 f1, .int .i64 f2, .slice a N ca, .slice none 0 0] 36) := ⟨_, rfl⟩
  obtain ⟨w0, hw0⟩ : ∃ x, x = wa.alloc (.cells #[.slice qg ng cg] 23) := ⟨_, rfl⟩
  have hba : Below w.heap.size w wa := by rw [hwa]; exact (Below.refl _ _).alloc (Nat.le_refl _) _
  have hb0 : Below w.heap.size w w0 := by rw [hw0]; exact hba.alloc hba.size _
  have hwz : wa.heap.size = w.heap.size + 1 := by rw [hwa]; exact Array.size_push _
  have hkP : w0.heap[w.heap.size]? = some (.cells #[.int .i64 f1, .int .i64 f2, .slice a N ca, .slice none 0 0] 36 (0, 0)) := by
    rw [hw0, heap_alloc_old wa _ (by omega), hwa]
    exact heap_alloc_new _ _
  have hkQ : w0.heap[w.heap.size + 1]? = some (.cells #[.slice qg ng cg] 23 (0, 0)) := by
    rw [hw0, ← hwz]
    exact heap_alloc_new _ _
  have HW0 := hid (And.intro hwa hw0)
  have HB0 := hid hb0
  have HkP := hid hkP
  have HkQ := hid hkQ
  have HD := hid h
  have HO := hid ok
  have HT := hid ht
  have HP := hid hP
  have HL := hid hL
  have HRi := hid hri
  have HOr := hid hor
  have HAl := hid hal
  have Ho := hid ho
  have Hz := hid hz
  have HRa := hid hra
  have HRg := hid hrg
  have HGo := hid hgone
  have HGp := hid hgp
  have Hts := hid hts
  have HGl := hid hg
  have Hac := hid hac
  clear hwa hw0 hba hb0 hwz hkP hkQ h ok ht hP hL hri hor hal ho hz hra hrg hgone hgp hts hg hac
  go_enter Tryz.func7, Tryz.ntmps7
  go_upto_region 1 with fail
  rw [← HW0.out.1, ← HW0.out.2]
  go_wp2_with fail
  refine (cthere_any md s n w0 (HD.out.below HB0.out) HO.out (HT.out.below HB0.out (Nat.le_refl _))).mono ?_
  rintro e w1 ⟨rfl, hb1⟩
  have HB1 := hid (HB0.out.trans (hb1.mono HB0.out.size))
  have HkP1 := hid ((hb1.block _ (lt_of_block HkP.out)).trans HkP.out)
  have HkQ1 := hid ((hb1.block _ (lt_of_block HkQ.out)).trans HkQ.out)
  clear hb1
  have hPw : w.heap.size < w1.heap.size := lt_of_block HkP1.out
  have hQw : w.heap.size + 1 < w1.heap.size := lt_of_block HkQ1.out
  obtain ⟨A, hA⟩ : ∃ A, A = w1.heap.size := ⟨_, rfl⟩
  obtain ⟨w2, hw2⟩ : ∃ x, x = w1.alloc (.cells #[.slice none 0 0] 23) := ⟨_, rfl⟩
  have hb2 : Below w1.heap.size w1 w2 := by rw [hw2]; exact (Below.refl _ _).alloc (Nat.le_refl _) _
  have hkA2 : w2.heap[A]? = some (.cells #[.slice none 0 0] 23 (0, 0)) := by rw [hw2, hA]; exact heap_alloc_new _ _
  have HB2 := hid (HB1.out.trans (hb2.mono HB1.out.size))
  have hkP2 := (hb2.block _ hPw).trans HkP1.out
  have hkQ2 := (hb2.block _ hQw).trans HkQ1.out
  have p2 := cell_of_row w2 w.heap.size 2 _ _ _ hkP2
  have p3 := cell_of_row w2 w.heap.size 3 _ _ _ hkP2
  obtain ⟨w3, hw3⟩ : ∃ x, x = w2.alloc (.cells #[.slice a N ca, .slice none 0 0] 27) := ⟨_, rfl⟩
  have hb3 : Below w2.heap.size w2 w3 := by rw [hw3]; exact (Below.refl _ _).alloc (Nat.le_refl _) _
  have hk3 : w3.heap[w2.heap.size]? = some (.cells #[.slice a N ca, .slice none 0 0] 27 (0, 0)) := by rw [hw3]; exact heap_alloc_new _ _
  have HB3 := hid (HB2.out.trans (hb3.mono HB2.out.size))
  have hcc := concat_any a N ca ts w2.heap.size w3 Hts.out (by omega) Hac.out (HRa.out.below HB3.out) hk3
  have HCc := hid hcc
  have hAw : A < w2.heap.size := lt_of_block hkA2
  have hkA3 := (hb3.block _ hAw).trans hkA2
  have hkQ3 := (hb3.block _ (lt_of_block hkQ2)).trans hkQ2
  have hAl : w.heap.size ≤ A := by omega
  have hQA : w.heap.size + 1 ≠ A := by omega
  have hs23 := hb3.size
  have HkA3 := hid hkA3
  have HkQ3 := hid hkQ3
  have HW2 := hid (And.intro hw2 hw3)
  have HA := hid hA
  clear hb2 hkA2 hkP2 hkQ2 hb3 hk3 hcc hkA3 hkQ3 hw2 hw3 hA
  go_upto_region 4 with fail
  rw [← HW2.out.1, ← HA.out]
  go_wp2_with fail
  rw [← HW2.out.2]
  refine HCc.out.mono ?_
  rintro e w4 ⟨q4, c4, rfl, hf4, hb4⟩
  have HB4 := hid (HB3.out.trans (hb4.mono HB3.out.size))
  have hs4 := hb4.size
  have HkA4 := hid ((hb4.block _ (lt_of_block HkA3.out)).trans HkA3.out)
  have HkQ4 := hid ((hb4.block _ (lt_of_block HkQ3.out)).trans HkQ3.out)
  have HF4 := hid hf4
  clear hf4 hb4 p2 p3 HCc
  have HI0 := hid (show RwI w w4 A ((ps.take 0).flatten) w4 from ⟨HB4.out, Nat.le_refl _, fun _ _ _ => rfl, none, 0, HkA4.out, World.ownsRow_nil _ _ _ _⟩)
  have hq4 := fr_lo24 HF4.out
  have HQ4 := hid hq4
  clear hq4
  go_wp2_with fail
  go_loopw [26, 13, 14, 15] (fun i _ _ _ wr => ∃ k : Nat, i = .int .i64 (k : Int) ∧ k ≤ N ∧ RwI w w4 A ((ps.take k).flatten) wr) (fun i _ _ _ _ => N - (intOf i).toNat)
  case atStart => exact ⟨0, rfl, Nat.zero_le _, HI0.out⟩
  case round =>
    obtain ⟨k, rfl, hk, hIb, hIs, hIo, qa, cA, hbox, hown⟩ := hrel
    obtain ⟨DL, hDL⟩ : ∃ x, Hid (x = ((ps.take k).flatten).length) := ⟨_, hid rfl⟩
    rw [← hDL.out] at hbox hown
    have HIb := hid hIb
    have HIo := hid hIo
    have HBox := hid hbox
    have HOwn := hid hown
    have hDl6 : DL ≤ 6000 := by
      have h := HL.out
      rw [← List.take_append_drop k ps, List.flatten_append] at h
      rw [hDL.out]
      have := congrArg List.length h
      rw [List.length_append] at this
      omega
    have hAr : A < wr.heap.size := lt_of_block hbox
    have hnA : some A ≠ (Value.slice qa DL cA).ownBlock := fun e => by
      have := (bown_lt hown A e.symm).1
      omega
    have HnA := hid hnA
    clear hIb hIo hbox hown hnA
    by_cases hlt : k < N
    · have hkt : k < ts.length := by rw [Hts.out]; exact hlt
      obtain ⟨t, htk⟩ : ∃ t, ts[k]? = some t := ⟨_, List.getElem?_eq_getElem hkt⟩
      obtain ⟨p, hpk, hf64, hb32, hkn, htab, hfit⟩ := HP.out.each k t htk
      obtain ⟨tb, to_, eq4, htl, c0, c1, c2, c3⟩ := tabRd_at HF4.out.rd htk
      have htA : tb ≠ A := fun e => by
        have := (HQ4.out _ eq4).1
        have h2 : w3.heap.size ≤ tb := this
        omega
      have mv : ∀ j, wr.cell? ⟨tb, j, none⟩ = w4.cell? ⟨tb, j, none⟩ := fun j => World.cell?_of_block (w := w4) (a := ⟨tb, j, none⟩) (HIo.out tb htl htA)
      rw [← mv] at c0 c1 c2 c3
      rw [eq4]
      have i0 : (0 : Int) ≤ (k : Int) := by omega
      have i1 : (k : Int) < (N : Int) := by omega
      obtain ⟨wX, hwX⟩ : ∃ x, x = wr.alloc (.cells #[.int .u64 (t.file : Int), .int .u32 (t.bytes : Int), .string t.low, .string t.high] 41) := ⟨_, rfl⟩
      have hbX : Below wr.heap.size wr wX := by rw [hwX]; exact (Below.refl _ _).alloc (Nat.le_refl _) _
      have HBX := hid hbX
      have hkX : wX.heap[wr.heap.size]? = some (.cells #[.int .u64 (t.file : Int), .int .u32 (t.bytes : Int), .string t.low, .string t.high] 41 (0, 0)) := by rw [hwX]; exact heap_alloc_new _ _
      have x0 := cell_of_row wX wr.heap.size 0 _ _ _ hkX
      have x1 := cell_of_row wX wr.heap.size 1 _ _ _ hkX
      have x2 := cell_of_row wX wr.heap.size 2 _ _ _ hkX
      have x3 := cell_of_row wX wr.heap.size 3 _ _ _ hkX
      have HBwX := hid (HIb.out.trans (hbX.mono HIb.out.size))
      have hrd := chread_any md s n t wX (HD.out.below HBwX.out) HO.out hf64 hb32 hfit (HT.out.below HBwX.out (Nat.le_refl _))
      have HRd := hid hrd
      have HTab := hid htab
      have HKn := hid hkn
      have HWX := hid hwX
      have HPk := hid hpk
      have HFile := hid (show ∀ j, wr.cell? ⟨tb, j, none⟩ = w4.cell? ⟨tb, j, none⟩ from mv)
      clear hwX hbX hkX hrd htab hkn hpk hkt htk hfit mv
      go_upto_region 7 with fail
      rw [← HWX.out]
      go_wp2_with fail
      refine HRd.out.mono ?_
      rintro e w5 ⟨hb5, hcase⟩
      obtain ⟨M, hM⟩ : ∃ M, Hid (M = p.length) := ⟨_, hid rfl⟩
      obtain ⟨qp, rfl, hF5⟩ : ∃ qp, e = .returned (.tuple #[.slice qp M M, .int .i64 0]) ∧ Fr w5 wX.heap.size 50 6 (.slice qp M M) M (fCells p) := by
        rcases hcase with ⟨h, _⟩ | ⟨_, h, _⟩ | ⟨fs, _, h, qp, h2, h3⟩
        · rw [HKn.out] at h; cases h
        · exact absurd ⟨p, HKn.out, HTab.out⟩ h
        · obtain rfl := h.one HTab.out
          exact ⟨qp, by rw [hM.out]; exact h2, by rw [hM.out]; exact h3⟩
      have hb5r : Below wr.heap.size wr w5 := HBX.out.trans (hb5.mono HBX.out.size)
      have HB5 := hid (HIb.out.trans (hb5r.mono HIb.out.size))
      have HB5r := hid hb5r
      have hbx5 := (hb5r.block _ hAr).trans HBox.out
      have HBx5 := hid hbx5
      have HOw5 := hid (own_below HOwn.out hb5r)
      have HF5 := hid hF5
      have a0 := cell_of_row w5 A 0 _ _ _ hbx5
      have hs5 := hb5r.size
      have hfk : (ps.take (k + 1)).flatten = (ps.take k).flatten ++ p := by
        obtain ⟨h1, h2⟩ := List.getElem?_eq_some_iff.1 HPk.out
        rw [List.take_succ_eq_append_getElem h1, h2, List.flatten_append, List.flatten_cons, List.flatten_nil, List.append_nil]
      have hDM : DL + M = ((ps.take (k + 1)).flatten).length := by rw [hfk, List.length_append, ← hDL.out, ← hM.out]
      have hDM6 : DL + M ≤ 6000 := by
        have h := HL.out
        rw [← List.take_append_drop (k + 1) ps, List.flatten_append] at h
        rw [hDM]
        have := congrArg List.length h
        rw [List.length_append] at this
        omega
      have HFk := hid hfk
      have HDM := hid hDM
      have HQn := hid (frq_none hF5)
      have HSt := hid (show ∀ W7 : World, w5.grownBy W7 (Value.slice qa DL cA).ownBlock → W7.heap[A]? = some (.cells #[.slice qa DL cA] 23 (0, 0)) from fun W7 hg => (hg.block A (by omega) HnA.out).trans HBx5.out)
      clear hb5 hcase hF5 hb5r hbx5 hfk hDM x0 x1 x2 x3 c0 c1 c2 c3
      go_wp2_with (refine wpList_append_rd rfl (.tmp 39) (.tmp 40) 23 rfl w4.heap.size 50 _ 6 64 Tryz.underlying23 infoFact6w rfl (by decide) (.slice qa DL cA) DL (fCells ((ps.take k).flatten)) rfl HOw5.out qp M M (fCells p) rfl HQn.out (by rw [fCells_len, ← hM.out]) HF5.out.rd (fCells_one p) (by unfold maxLen; omega) (by omega) (by omega) ?_; intro v7 w7 hown7 hg7 _; have HG7 := hid hg7; have g0 := cell_of_row w7 A 0 _ _ _ (HSt.out w7 hg7); have g1 := frozen_of_row w7 A 0 _ _ (HSt.out w7 hg7); obtain ⟨q7, c7, rfl, _, _, _⟩ := own_shape hown7; have HO7 := hid hown7; clear hown7 hg7)
      refine ⟨⟨k + 1, by go_num, by omega, ?_⟩, by simp [intOf]; omega⟩
      have hb7 : Below w.heap.size w w7 := HB5.out.grown HG7.out HB5.out.size (fun b hb => by have := (bown_lt HOw5.out b hb).1; have := HB4.out.size; omega)
      have hA7 := HSt.out w7 HG7.out
      have h7s : w5.heap.size ≤ w7.heap.size := HG7.out.size
      have hown7 := HO7.out
      rw [← fCells_append, ← HFk.out, HDM.out] at hown7
      rw [HDM.out]
      have hq7 : ∀ g, (Value.slice q7 ((ps.take (k + 1)).flatten).length c7).ownBlock = some g → g ≠ A := fun g hg e => by
        have := (bown_lt hown7 g hg).1
        omega
      refine ⟨hb7.setCell (p := ⟨A, 0, none⟩) hAl _, ?_, fun g h1 h2 => ?_, q7, c7, (heap_setCell_same _ _ _ _ _ _ hA7).trans rfl, bown_keep hown7 fun g hg => heap_setCell_other _ _ _ _ (hq7 g hg)⟩
      · show w4.heap.size ≤ (w7.setCell _ _).heap.size
        rw [World.size_setCell]
        omega
      · rw [heap_setCell_other _ _ _ _ h2, HG7.out.block g (by omega) (fun e => by have := (bown_lt HOw5.out g e.symm).1; omega), HB5r.out.block g (by omega), HIo.out g h1 h2]
    · obtain rfl : k = N := by omega
      have hall : (ps.take k).flatten = L := by
        rw [List.take_of_length_le (by rw [HP.out.len, Hts.out]; exact Nat.le_refl _)]
        exact HL.out
      rw [hall] at HOwn hDL
      have hLn : L.length = DL := hDL.out.symm
      have a0 := cell_of_row wr A 0 _ _ _ HBox.out
      have HLn := hid hLn
      have HRdL := hid (Fr.of_own HOwn.out).rd
      have hco := containsF_any 17 (.pointer (some ⟨A, 0, none⟩)) (fun _ => false) qa DL cA L wr hLn (by omega) HRdL.out (fun _ _ => rfl) (fun f hf W hW => by
        have h0 : 0 < L.length := List.length_pos_of_mem hf
        obtain ⟨i, hi, rfl⟩ := List.mem_iff_getElem.1 hf
        exact lineclos_any A qa DL cA L _ W ((hW.cell (p := ⟨A, 0, none⟩) hAr).trans a0) h0 hLn (HRdL.out.below hW) (HRi.out.line i hi))
      have hfalse : (L.any fun _ => false) = false := by rw [List.any_eq_false]; exact fun _ _ => by decide
      rw [hfalse] at hco
      have HCo := hid hco
      clear hall hLn hco hfalse
      go_wp2_with fail
      refine HCo.out.mono ?_
      rintro e w5 ⟨rfl, hb5⟩
      have HB5 := hid (HIb.out.trans (hb5.mono HIb.out.size))
      have HR5 := hid (HRdL.out.below hb5)
      have HX5 := hid ((hb5.block _ hAr).trans HBox.out)
      have HOw5 := hid (own_below HOwn.out hb5)
      have b0 := cell_of_row w5 A 0 _ _ _ HX5.out
      have s5 := hb5.size
      have HQ5 := hid ((hb5.block (w.heap.size + 1) (by have := lt_of_block HkQ4.out; omega)).trans ((HIo.out (w.heap.size + 1) (lt_of_block HkQ4.out) hQA).trans HkQ4.out))
      clear hb5 a0 HCo
      go_wp2_with fail
      refine (sortStable_any qa DL cA L w5 HLn.out (by omega) HOr.out HR5.out).mono ?_
      rintro e w6 ⟨rfl, hb6⟩
      have HB6 := hid (HB5.out.trans (hb6.mono HB5.out.size))
      have HR6 := hid (HR5.out.below hb6)
      have HX6 := hid ((hb6.block _ (lt_of_block HX5.out)).trans HX5.out)
      have HOw6 := hid (own_below HOw5.out hb6)
      have HQ6 := hid ((hb6.block _ (lt_of_block HQ5.out)).trans HQ5.out)
      have c0 := cell_of_row w6 A 0 _ _ _ HX6.out
      have s6 := hb6.size
      clear hb6 b0
      go_wp2_with fail
      refine (compact_any qa DL cA L w6 HLn.out (by omega) HAl.out HR6.out).mono ?_
      rintro e w7 ⟨rfl, hb7⟩
      have HB7 := hid (HB6.out.trans (hb7.mono HB6.out.size))
      have hx7 := (hb7.block _ (lt_of_block HX6.out)).trans HX6.out
      have HX7 := hid hx7
      have HOw7 := hid (own_below HOw6.out hb7)
      have HQ7 := hid ((hb7.block _ (lt_of_block HQ6.out)).trans HQ6.out)
      have d0 := cell_of_row w7 A 0 _ _ _ hx7
      have d1 := frozen_of_row w7 A 0 _ _ hx7
      have s7 := hb7.size
      obtain ⟨w8, hw8⟩ : ∃ x, x = w7.setCell ⟨A, 0, none⟩ (.slice qa DL cA) := ⟨_, rfl⟩
      have HB8 := hid (show Below w.heap.size w w8 from by rw [hw8]; exact HB7.out.setCell (p := ⟨A, 0, none⟩) hAl _)
      have hx8 : w8.heap[A]? = some (.cells #[.slice qa DL cA] 23 (0, 0)) := by rw [hw8]; exact (heap_setCell_same _ _ _ _ _ _ hx7).trans rfl
      have hq8 : w8.heap[w.heap.size + 1]? = some (.cells #[.slice qg ng cg] 23 (0, 0)) := by rw [hw8, heap_setCell_other _ _ _ _ hQA]; exact HQ7.out
      have ho8 : w8.ownsRow w4.heap.size 50 6 (.slice qa DL cA) DL (fCells L) := by
        rw [hw8]
        exact bown_keep HOw7.out fun g hg => heap_setCell_other _ _ _ _ (fun (e : g = A) => HnA.out (by rw [← e]; exact hg.symm))
      have s8 : w4.heap.size ≤ w8.heap.size := by rw [hw8, World.size_setCell]; omega
      have e0 := cell_of_row w8 A 0 _ _ _ hx8
      have eq0 := cell_of_row w8 (w.heap.size + 1) 0 _ _ _ hq8
      have hp : ∀ f ∈ L, ∀ W, Below w8.heap.size w8 W → Calls Tryz.prog 23 #[.agg f.cells.toArray, .pointer (some ⟨w.heap.size + 1, 0, none⟩)] W fun e W' => e = .returned (.bool (G.any (alikeF f))) ∧ Below W.heap.size W W' := fun f _ W hW =>
        delclos_any (w.heap.size + 1) qg ng cg G f W ((hW.cell (p := ⟨w.heap.size + 1, 0, none⟩) (lt_of_block hq8)).trans eq0) HGl.out hg6 (HRg.out.below (HB8.out.trans (hW.mono HB8.out.size)))
      have hdel : Calls Tryz.prog 22 #[.slice qa DL cA, .func (.func 23) #[] #[.pointer (some ⟨w.heap.size + 1, 0, none⟩)]] w8 fun e w9 => ∃ (q9 : Option Addr) (n9 c9 : Nat), e = .returned (.slice q9 n9 c9) ∧ L2.length = n9 ∧ n9 ≤ c9 ∧ (∀ W : World, (∀ g, g ≠ A → W.heap[g]? = w9.heap[g]?) → Rd W q9 (fCells L2)) ∧ Below w4.heap.size w8 w9 := by
        cases gone
        · have h2 : L2 = L := by rw [hL2.out]; rfl
          refine (delete_none 23 (.pointer (some ⟨w.heap.size + 1, 0, none⟩)) (fun f => G.any (alikeF f)) qa DL cA L w8 HLn.out (by omega) (Fr.of_own ho8).rd (fun _ _ => rfl) hp HGo.out).mono ?_
          rintro e w9 ⟨rfl, hb9⟩
          obtain ⟨_, _, ee, hcc, _, _⟩ := own_shape ho8
          cases ee
          exact ⟨qa, DL, cA, rfl, by rw [h2, HLn.out], hcc, fun W hW => by rw [h2]; exact (Fr.of_own (bown_keep (own_below ho8 hb9) fun g hg => hW g (fun (e : g = A) => HnA.out (by rw [← e]; exact hg.symm)))).rd, hb9.mono s8⟩
        · have h2 : L2 = [] := by rw [hL2.out]; rfl
          refine (delete_all 23 (.pointer (some ⟨w.heap.size + 1, 0, none⟩)) (fun f => G.any (alikeF f)) w4.heap.size qa DL cA L w8 HLn.out (by omega) ho8 s8 (fun _ _ => rfl) hp HGo.out).mono ?_
          rintro e w9 ⟨q9, c9, rfl, hb9⟩
          exact ⟨q9, 0, c9, rfl, by rw [h2]; rfl, Nat.zero_le _, fun _ _ => by rw [h2]; exact .inl rfl, hb9⟩
      have HDel := hid hdel
      have HW8 := hid hw8
      have HX8 := hid hx8
      have hA4 : A < w4.heap.size := lt_of_block HkA4.out
      clear hb7 hw8 hx8 hq8 ho8 hp hdel hx7 c0
      go_upto_region 16 with fail
      rw [← HW8.out]
      go_wp2_with fail
      refine HDel.out.mono ?_
      rintro e w9 ⟨q9, n9, c9, rfl, hl9, hc9, hr9, hb9⟩
      have HB9 := hid (HB8.out.trans (hb9.mono (by have := HB4.out.size; omega)))
      have hx9 := (hb9.block A hA4).trans HX8.out
      have f0 := cell_of_row w9 A 0 _ _ _ hx9
      have f1 := frozen_of_row w9 A 0 _ _ hx9
      obtain ⟨wF, hwF⟩ : ∃ x, x = w9.setCell ⟨A, 0, none⟩ (.slice q9 n9 c9) := ⟨_, rfl⟩
      have HBF := hid (show Below w.heap.size w wF from by rw [hwF]; exact HB9.out.setCell (p := ⟨A, 0, none⟩) hAl _)
      have hxF : wF.heap[A]? = some (.cells #[.slice q9 n9 c9] 23 (0, 0)) := by rw [hwF]; exact (heap_setCell_same _ _ _ _ _ _ hx9).trans rfl
      have z0 := cell_of_row wF A 0 _ _ _ hxF
      have hmem : ∀ f ∈ L2, f ∈ L := fun f hf => by
        rw [hL2.out] at hf
        cases gone
        · exact hf
        · cases hf
      have hl2 : L2.length ≤ 6000 := by
        rw [hL2.out]
        cases gone
        · exact hLl
        · exact Nat.zero_le _
      have hrF : Rd wF q9 (fCells L2) := hr9 wF fun g hg => by rw [hwF]; exact heap_setCell_other _ _ _ _ hg
      have hcw := chw_any md s n next q9 n9 c9 L2 wF (HD.out.below HBF.out) HO.out hn hnx hl9 (by omega) hc9 hrF (fun f hf => Ho.out f (hmem f hf)) (fun f hf => Hz.out f (hmem f hf)) (HT.out.below HBF.out (Nat.le_refl _)) HGp.out
      have HCw := hid hcw
      have HWF := hid hwF
      clear hwF hxF hmem hl2 hrF hcw hr9 hb9 hx9
      go_upto_region 17 with fail
      rw [← HWF.out]
      go_wp2_with fail
      refine HCw.out.mono ?_
      rintro e wZ ⟨md', hdZ, hDZ, hMZ, hcase⟩
      have HdZ := hid hdZ
      have HDZ := hid hDZ
      have HMZ := hid (Mod.trans (Mod.of_below' HBF.out) hMZ)
      clear hdZ hDZ hMZ z0 f0 f1
      rcases hcase with ⟨hE, rfl⟩ | ⟨hE, aZ, rfl, hfZ, hnZ⟩
      · have HE := hid hE
        obtain ⟨EE, hEE⟩ : ∃ E : Int, Hid (E = cwE s next L2) := ⟨_, hid rfl⟩
        rw [← hEE.out]
        clear hE
        go_wp2
        go_ret3
        exact ⟨md', HdZ.out, HDZ.out, HMZ.out, .inl ⟨HE.out, by rw [hEE.out]; rfl⟩⟩
      · have HE := hid hE
        have HfZ := hid (fr_mono hfZ HBF.out.size)
        have HnZ := hid hnZ
        clear hE hfZ hnZ
        go_wp2
        go_ret3
        exact ⟨md', HdZ.out, HDZ.out, HMZ.out, .inr ⟨HE.out, aZ, rfl, HfZ.out, HnZ.out⟩⟩
end Go.Proofs.Herb
namespace Go.Proofs.Herb
open Go.RowKit Go.Sort
theorem filesF_name {nx : Nat} {ps : List (List Fact)} {x : ByteArray × List UInt8} (h : x ∈ filesF nx ps) : ∃ i p, ps[i]? = some p ∧ x = (nmU (nx + i), tabB (lineF p) p) := by
  obtain ⟨i, hi⟩ := List.mem_iff_getElem?.1 h
  rw [filesF_get] at hi
  cases e : ps[i]? with
  | none => rw [e] at hi; cases hi
  | some p => rw [e] at hi; cases hi; exact ⟨i, p, e, rfl⟩
theorem filesF_nodup : ∀ (nx : Nat) (ps : List (List Fact)), ((filesF nx ps).map (·.1)).Nodup
  | _, [] => List.nodup_nil
  | nx, p :: r => by
    rw [filesF, List.map_cons, List.nodup_cons]
    refine ⟨fun h => ?_, filesF_nodup (nx + 1) r⟩
    obtain ⟨x, hx, he⟩ := List.mem_map.1 h
    obtain ⟨i, q, _, rfl⟩ := filesF_name hx
    have := nm_inj he
    omega
theorem sumB_files : ∀ (nx : Nat) (ps : List (List Fact)) (_ : ∀ p ∈ ps, (tabB (lineF p) p).length ≤ 520 * p.length + 400), sumB (filesF nx ps) ≤ 520 * ps.flatten.length + 400 * ps.length
  | _, [], _ => by simp [sumB, filesF]
  | nx, p :: r, h => by
    have ih := sumB_files (nx + 1) r fun q hq => h q (List.mem_cons_of_mem _ hq)
    have h1 := h p (List.mem_cons_self ..)
    have e : sumB (filesF nx (p :: r)) = (tabB (lineF p) p).length + sumB (filesF (nx + 1) r) := by simp [sumB, filesF]
    rw [e, List.flatten_cons, List.length_append, List.length_cons]
    omega
theorem rwP_of {s : DS} {nx : Nat} {l : List Fact} (hf : FreeS s) (hh : ∀ x ∈ filesF nx (partsL l), HasF s x.1 x.2) (hbz : ∀ p ∈ partsL l, buildE (lineF p) p = 0) (hsub : ∀ p ∈ partsL l, ∀ f ∈ p, f ∈ l) (hlen : ∀ p ∈ partsL l, p.length ≤ 6000) (ho : ∀ f ∈ l, f.Ok) (hnx : nx + (partsL l).length < 18446744073709551616) : RwP s (tabsF nx (partsL l)) (partsL l) := by
  refine ⟨(tabsF_len nx _).symm, fun k t ht => ?_⟩
  rw [tabsF_get] at ht
  cases e : (partsL l)[k]? with
  | none => rw [e] at ht; cases ht
  | some p =>
    rw [e] at ht
    cases ht
    have hp := List.mem_of_getElem? e
    have hk := (List.getElem?_eq_some_iff.1 e).1
    have hfile : (nmU (nx + k), tabB (lineF p) p) ∈ filesF nx (partsL l) := by
      refine List.mem_of_getElem? (i := k) ?_
      rw [filesF_get, e]
      rfl
    obtain ⟨h3, h4⟩ := (hh _ hfile).known hf
    obtain ⟨h6, h7⟩ := tabIs_tab (nx + k) (hbz p hp) (fun f hf => ho f (hsub p hp f hf)) (hlen p hp)
    dsimp only at h3 h4
    refine ⟨p, rfl, by show nx + k < _; omega, ?_, h3, ?_, ?_⟩
    · have := (buildE_zero.1 (hbz p hp)).2
      show (tabB (lineF p) p).length < 4294967296
      omega
    · show TabIs (readL s (nmU (nx + k))) _ _
      rw [h4]
      exact h6
    · show ∀ r, Opens (readL s (nmU (nx + k))) r → r.Fit
      rw [h4]
      exact h7
structure AgP (next : Nat) (l : List Fact) (S1 S2 : DS) : Prop where
  few : (partsL l).length ≤ 18
  second : cwE S1 (next + (partsL l).length) l = 0
  is : S2 = cwS S1 (next + (partsL l).length) l
  ok1 : ∃ n, n ≤ 20000 ∧ DsOk S1 n
  ok2 : ∃ n, n ≤ 20000 ∧ DsOk S2 n
  r1 : RwP S1 (tabsF next (partsL l)) (partsL l)
  r2 : RwP S2 (tabsF next (partsL l)) (partsL l)
  r3 : RwP S2 (tabsF (next + (partsL l).length) (partsL l)) (partsL l)
  may : ∀ f ∈ l, mayF f = true
theorem again_ok {next : Nat} {l : List Fact} (hm : l.length ≤ 120) (hnx : next ≤ 1099511627776) (ho : ∀ f ∈ l, f.Ok) (h : cwE (newS 1048576) next l = 0) : AgP next l (cwS (newS 1048576) next l) (cwS (cwS (newS 1048576) next l) (next + (partsL l).length) l) := by
  have hB := back_ok (by omega) ho h
  have c0 : riseB l = true := riseB_yes hB.rise
  have hpl : (partsL l).length ≤ l.length := partsL_len l
  have hbz : ∀ p ∈ partsL l, buildE (lineF p) p = 0 := fun p hp => by
    obtain ⟨k, hk⟩ := List.mem_iff_getElem?.1 hp
    exact (hB.each k p hk).2.2.1
  have hsub : ∀ p ∈ partsL l, ∀ f ∈ p, f ∈ l := fun p hp => by
    obtain ⟨k, hk⟩ := List.mem_iff_getElem?.1 hp
    exact (hB.each k p hk).2.2.2.1
  have hlen : ∀ p ∈ partsL l, p.length ≤ 6000 := fun p hp => by
    obtain ⟨k, hk⟩ := List.mem_iff_getElem?.1 hp
    have := (hB.each k p hk).2.1
    omega
  have hgood : ∀ f ∈ l, mayF f = true ∧ f.val.size ≤ 256 := fun f hf => by
    rw [← hB.join] at hf
    obtain ⟨p, hp, hfp⟩ := List.mem_flatten.1 hf
    obtain ⟨⟨hg, _⟩, _⟩ := buildE_zero.1 (hbz p hp)
    obtain ⟨i, hi, rfl⟩ := List.mem_iff_getElem.1 hfp
    obtain ⟨_, h1, _, h3, _⟩ := hg i hi
    exact ⟨h1, h3⟩
  have hfac : ∀ f ∈ l, facN f ≤ 304 := fun f hf => by
    obtain ⟨h1, h2⟩ := hgood f hf
    unfold mayF at h1
    rw [decide_eq_true_eq] at h1
    unfold facN
    omega
  have hfew := parts_few hm hfac
  have c1 : builtE (partsL l) = 0 := builtE_all hbz
  have hE : putE (newS 1048576) (filesF next (partsL l)) = 0 := by
    unfold cwE at h
    rw [if_neg (by rw [c0]; decide), if_neg (fun q => q c1)] at h
    exact h
  have hS : cwS (newS 1048576) next l = putS (newS 1048576) (filesF next (partsL l)) := by
    unfold cwS
    rw [if_neg (by rw [c0]; decide), if_neg (fun q => q c1)]
  have hS2 : ∀ S n, cwS S n l = putS S (filesF n (partsL l)) := fun S n => by
    unfold cwS
    rw [if_neg (by rw [c0]; decide), if_neg (fun q => q c1)]
  have hE2 : ∀ S n, cwE S n l = putE S (filesF n (partsL l)) := fun S n => by
    unfold cwE
    rw [if_neg (by rw [c0]; decide), if_neg (fun q => q c1)]
  have hbound : ∀ p ∈ partsL l, (tabB (lineF p) p).length ≤ 520 * p.length + 400 := fun p hp => by
    obtain ⟨⟨hg, h0⟩, _⟩ := buildE_zero.1 (hbz p hp)
    exact tab_bound hg h0
  have hsum : ∀ n, sumB (filesF n (partsL l)) ≤ 69600 := fun n => by
    have := sumB_files n (partsL l) hbound
    rw [hB.join] at this
    omega
  obtain ⟨hu, hro⟩ := put_used (DsOk.new (by decide) (by decide) : DsOk (newS 1048576) 0) hE
  rw [← hS] at hu hro
  have hu0 : usedN (newS 1048576) = 0 := rfl
  have hr0 : (newS 1048576).room = 1048576 := rfl
  rw [hu0] at hu
  rw [hr0] at hro
  obtain ⟨n1, hn1, ok1⟩ := hB.ok
  have hmay : ∀ (n : Nat), n + (partsL l).length < 18446744073709551616 → ∀ x ∈ filesF n (partsL l), mayB x.1 = true := fun n hn x hx => by
    obtain ⟨i, p, hi, rfl⟩ := filesF_name hx
    have := (List.getElem?_eq_some_iff.1 hi).1
    exact nm_may (n + i) (by omega)
  have hgo : putE (cwS (newS 1048576) next l) (filesF (next + (partsL l).length) (partsL l)) = 0 := by
    refine put_go ok1 hB.free (hmay _ (by omega)) (filesF_nodup _ _) (fun x hx => ?_) (by rw [hB.many, filesF_len]; omega) ?_
    · cases e : look (cwS (newS 1048576) next l).names x.1 with
      | none => rfl
      | some v =>
        exfalso
        obtain ⟨y, hy, he⟩ := hB.only x.1 (by rw [e]; rfl)
        obtain ⟨i, _, hi, rfl⟩ := filesF_name hx
        obtain ⟨j, _, hj, rfl⟩ := filesF_name hy
        have h1 := nm_inj he
        have h2 := (List.getElem?_eq_some_iff.1 hj).1
        omega
    · have h1 := hsum next
      have h2 := hsum (next + (partsL l).length)
      rw [hu, hro]
      omega
  have hP2 := put_ok ok1 hB.free hgo
  have ok2 := ok1.put (filesF (next + (partsL l).length) (partsL l))
  rw [← hS2] at ok2
  rw [← hS2] at hP2
  refine ⟨hfew, by rw [hE2]; exact hgo, rfl, ⟨n1, hn1, ok1⟩, ?_, rwP_of hB.free hB.has hbz hsub hlen ho (by omega), rwP_of hP2.free (fun x hx => hP2.keep _ _ (hB.has x hx)) hbz hsub hlen ho (by omega), rwP_of hP2.free hP2.has hbz hsub hlen ho (by omega), fun f hf => (hgood f hf).1⟩
  obtain ⟨n0, hn0, ok0⟩ : ∃ n, n ≤ 40 ∧ DsOk (cwS (newS 1048576) next l) n := by
    have := (DsOk.new (by decide) (by decide) : DsOk (newS 1048576) 0).put (filesF next (partsL l))
    rw [filesF_len, ← hS] at this
    exact ⟨_, by omega, this⟩
  have := ok0.put (filesF (next + (partsL l).length) (partsL l))
  rw [filesF_len, ← hS2] at this
  exact ⟨_, by omega, this⟩
end Go.Proofs.Herb
namespace Go.Proofs.Herb
open Go.RowKit
end Go.Proofs.Herb
namespace Go.Proofs.Herb
open Go.RowKit
/-- one fact stands ahead of another one -/
def befF (f g : Fact) : Bool := if f.key ≠ g.key then Op.bytesLess f.key.toList g.key.toList else if f.valid ≠ g.valid then decide (g.valid < f.valid) else if f.seq ≠ g.seq then decide (g.seq < f.seq) else decide (f.kind < g.kind)
theorem befF_cmp (f g : Fact) : befF f g = true ↔ cmpF f g < 0 := by
  unfold befF cmpF
  simp only [orZ_cons]
  by_cases hk : f.key = g.key
  · rw [if_neg (fun h => h hk), if_pos (cmpS_zero.2 hk)]
    by_cases hv : f.valid = g.valid
    · rw [if_neg (fun h => h hv), if_pos (cmpN_zero.2 hv.symm)]
      by_cases hs : f.seq = g.seq
      · rw [if_neg (fun h => h hs), if_pos (cmpN_zero.2 hs.symm)]
        by_cases hd : f.kind = g.kind
        · rw [if_pos (cmpN_zero.2 hd)]
          simp [orZ, hd]
        · rw [if_neg (fun h => hd (cmpN_zero.1 h)), cmpN_neg]
          simp
      · rw [if_pos hs, if_neg (fun h => hs (cmpN_zero.1 h).symm), cmpN_neg]
        simp
    · rw [if_pos hv, if_neg (fun h => hv (cmpN_zero.1 h).symm), cmpN_neg]
      simp
  · rw [if_pos hk, if_neg (fun h => hk (cmpS_zero.1 h)), cmpS_neg, ByteArray.toList_eq, ByteArray.toList_eq]
end Go.Proofs.Herb
namespace Go.Proofs.Herb
open Go.RowKit
end Go.Proofs.Herb
namespace Go.Proofs.Herb
open Go.RowKit
end Go.Proofs.Herb
namespace Go.Proofs.Herb
open Go.RowKit
end Go.Proofs.Herb
