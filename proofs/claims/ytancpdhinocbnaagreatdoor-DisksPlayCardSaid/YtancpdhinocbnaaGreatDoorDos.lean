/- The contract of the law's does (chapter 04): it answers true. For a disk and the reference's disk side by side of one state, and an act that can be read, no crash and no copy. (printed by gen_dos.py) -/
import Derived.Test.YtancpdhinocbnaaGreatDoorTwe
import Derived.Test.YtancpdhinocbnaaGreatDoorSlk
import Derived.Test.YtancpdhinocbnaaGreatDoorLh5
namespace Go.Proofs.Herb
open Go.RowKit Go.Sort
set_option maxRecDepth 100000 in
set_option maxHeartbeats 6400000 in
theorem does_any {I : Nat → Prop} {w0 w : World} {md : DM} {s : DS} {mr : RM} {n : Nat} (T : Two I w0 w md s mr s n) (hn : n ≤ 800000) (v : ActV) (hv : ActOk w v) (hdn : v.dn ≤ 140737488355328) (hw9 : v.what % 11 < 9)
    (hap : v.data ≠ [] → ∀ b off, v.dq = some ⟨b, off, none⟩ → ¬ I b ∧ b < w0.heap.size) :
    Calls Tryz.prog 16 #[.pointer (some ⟨md.D, 0, none⟩), .pointer (some ⟨mr.D, 0, none⟩), .agg #[.int .u8 (v.what : Int), .string v.a, .string v.b, .int .i64 v.n, .slice v.dq v.dn v.dc, .int .i64 v.dir, .slice v.fq v.fn v.fc]] w
      fun e w' => ∃ (md' : DM) (mr' : RM) (s' : DS), e = .returned (.bool true) ∧ md'.D = md.D ∧ mr'.D = mr.D ∧ Two I w0 w' md' s' mr' s' (n + 4) := by
  obtain ⟨wX, hwX, hbk, hbX⟩ : ∃ wX, wX = w.alloc (.cells #[.int .u8 (v.what : Int), .string v.a, .string v.b, .int .i64 v.n, .slice v.dq v.dn v.dc, .int .i64 v.dir, .slice v.fq v.fn v.fc] 36) ∧ wX.heap[w.heap.size]? = some (.cells #[.int .u8 (v.what : Int), .string v.a, .string v.b, .int .i64 v.n, .slice v.dq v.dn v.dc, .int .i64 v.dir, .slice v.fq v.fn v.fc] 36 (0, 0)) ∧ Below w.heap.size w wX := ⟨_, rfl, heap_alloc_new _ _, (Below.refl _ _).alloc (Nat.le_refl _) _⟩
  have y4 := cell_of_row wX w.heap.size 4 _ _ _ hbk
  have HT := hid T
  have HOk := hid hv
  have Hap := hid hap
  have HwX := hid hwX
  have HbX := hid hbX
  have Hbk := hid hbk
  clear T hv hap hwX hbX hbk
  go_enter Tryz.func16, Tryz.ntmps16
  go_upto_region 1 with fail
  rw [← HwX.out]
  go_wp2_with fail
  (with_reducible refine (twinB_any v.dq v.dn v.dc v.data wX HOk.out.d0 hdn (HOk.out.d3.below HbX.out)).mono ?_)
  rintro e w2 ⟨g, rfl, hg, hgh, hb2⟩
  have hz1 := lt_of_block Hbk.out
  have hgl := lt_of_block hgh
  have HGh := hid hgh
  have hbk2 := (hb2.block _ hz1).trans Hbk.out
  have HB := hid (HbX.out.trans (hb2.mono HbX.out.size))
  obtain ⟨I', hTI, hI⟩ := HT.out.rebase' HB.out
  have HnI := hid (show ¬ I' w.heap.size from fun h => by have := (hI _ h).2; omega)
  have HnG := hid (show ¬ I' g from fun h => by have := (hI _ h).2; omega)
  have HBk := hid hbk2
  have TI := hid hTI
  have HMd := hid (show RMod I w0 w2 from HT.out.mod.seq (RMod.of_below _ HB.out))
  have HI := hid (show ∀ k, I' k → I k ∨ w0.heap.size ≤ k from fun k hk => (hI k hk).1)
  have Hdp := hid (show v.data ≠ [] → ∀ b off, v.dq = some ⟨b, off, none⟩ → b < w2.heap.size ∧ ¬ I' b from fun hd b off hq => by
    have h1 := HOk.out.d3.lt hq (by simpa using List.length_pos_iff.2 hd)
    have h2 := HB.out.size
    have h3 := Hap.out hd b off hq
    exact ⟨by omega, fun h => by rcases HI.out b h with q | q; exact h3.1 q; omega⟩)
  have Hrd := hid (HOk.out.d3.below HB.out)
  have hwb := HOk.out.what
  have y0 := cell_of_row w2 w.heap.size 0 _ _ _ hbk2
  have y1 := cell_of_row w2 w.heap.size 1 _ _ _ hbk2
  have y2 := cell_of_row w2 w.heap.size 2 _ _ _ hbk2
  have y3 := cell_of_row w2 w.heap.size 3 _ _ _ hbk2
  have y4 := cell_of_row w2 w.heap.size 4 _ _ _ hbk2
  clear hgh hb2 hbk2 hTI hI y4 HbX HwX
  have y4 := cell_of_row w2 w.heap.size 4 _ _ _ HBk.out
  go_upto_region 3 with fail
  go_cut [8, 9] (fun g8 h9 wc => g8 = .int .i64 0 ∧ h9 = .int .i64 0 ∧ w2 = wc)
  case first =>
    go_wp2
    go_meet
    exact ⟨rfl, rfl, rfl⟩
  obtain ⟨rfl, rfl, hwc⟩ := hcut
  subst hwc
  rename_i hK
  refine hK _ _ ?_
  clear hK
  refine wp_seq_k ?_
  intro K1 hK1
  go_cut [8, 9] (fun g8 h9 wd => ∃ (md' : DM) (mr' : RM) (s' : DS) (E : Int), g8 = .int .i64 E ∧ h9 = .int .i64 E ∧ md'.D = md.D ∧ mr'.D = mr.D ∧ Two I' w2 wd md' s' mr' s' (n + 4))
  case first =>
    have hw8 : v.what % 11 = 0 ∨ v.what % 11 = 1 ∨ v.what % 11 = 2 ∨ v.what % 11 = 3 ∨ v.what % 11 = 4 ∨ v.what % 11 = 5 ∨ v.what % 11 = 6 ∨ v.what % 11 = 7 ∨ v.what % 11 = 8 := by omega
    rcases hw8 with h8 | h8 | h8 | h8 | h8 | h8 | h8 | h8 | h8
    · have hr : (v.what : Int) % 11 = 0 := by omega
      clear h8 hw9
      as_aux_lemma =>
        go_wp2_with fail
        (with_reducible refine (TI.out.createD (by omega) v.a HOk.out.a).mono ?_)
        rintro e w3 ⟨md3, rfl, hD, hT⟩
        have D3 := hid hD
        clear hD
        have T3 := hid hT
        clear hT
        have bk := (T3.out).keepAt HBk.out HnI.out
        have x1 := cell_of_row w3 w.heap.size 1 _ _ _ bk
        clear bk
        go_wp2_with fail
        (with_reducible refine (T3.out.createR (by omega) v.a HOk.out.a).mono ?_)
        rintro e w4 ⟨mr4, rfl, hD, hT⟩
        have D4 := hid hD
        clear hD
        have T4 := hid hT
        clear hT
        go_wp2_with fail
        go_meet
        exact ⟨md3, mr4, createS s v.a, createE s v.a, rfl, rfl, D3.out, D4.out, T4.out.mono (by omega)⟩
    · have hr : (v.what : Int) % 11 = 1 := by omega
      clear h8 hw9
      as_aux_lemma =>
        go_wp2_with fail
        (with_reducible refine (TI.out.appendD (by omega) v.a HOk.out.a (some ⟨g, 0, none⟩) v.dn (v.dn + 2) v.data HOk.out.d0 (by omega) (by unfold maxLen; omega) (twin_rd HGh.out) (fun h => by cases h) (fun _ b off e => by cases e; exact ⟨hgl, HnG.out⟩)).mono ?_)
        rintro e w3 ⟨md3, rfl, hD, hT⟩
        have D3 := hid hD
        clear hD
        have T3 := hid hT
        clear hT
        have bk := (T3.out).keepAt HBk.out HnI.out
        have x1 := cell_of_row w3 w.heap.size 1 _ _ _ bk
        have x4 := cell_of_row w3 w.heap.size 4 _ _ _ bk
        clear bk
        go_wp2_with fail
        (with_reducible refine (T3.out.appendR (by omega) v.a HOk.out.a v.dq v.dn v.dc v.data HOk.out.d0 HOk.out.d1 HOk.out.d2 (Hrd.out.rmod T3.out.mod (fun hx b off e => (Hdp.out (fun e0 => absurd (show List.map bv v.data = [] by rw [e0, List.map_nil]) hx) b off e).2)) HOk.out.d4 (by omega) Hdp.out).mono ?_)
        rintro e w4 ⟨mr4, rfl, hD, hT⟩
        have D4 := hid hD
        clear hD
        have T4 := hid hT
        clear hT
        go_wp2_with fail
        go_meet
        exact ⟨md3, mr4, appendS s v.a v.data, appendE s v.a v.data, rfl, rfl, D3.out, D4.out, T4.out.mono (by omega)⟩
    · have hr : (v.what : Int) % 11 = 2 := by omega
      clear h8 hw9
      as_aux_lemma =>
        go_wp2_with fail
        (with_reducible refine (TI.out.syncD v.a HOk.out.a).mono ?_)
        rintro e w3 ⟨rfl, hT⟩
        have T3 := hid hT
        clear hT
        have bk := (T3.out).keepAt HBk.out HnI.out
        have x1 := cell_of_row w3 w.heap.size 1 _ _ _ bk
        clear bk
        go_wp2_with fail
        (with_reducible refine (T3.out.syncR (by omega) v.a HOk.out.a).mono ?_)
        rintro e w4 ⟨mr4, rfl, hD, hT⟩
        have D4 := hid hD
        clear hD
        have T4 := hid hT
        clear hT
        go_wp2_with fail
        go_meet
        exact ⟨md, mr4, syncS s v.a, syncE s v.a, rfl, rfl, rfl, D4.out, T4.out.mono (by omega)⟩
    · have hr : (v.what : Int) % 11 = 3 := by omega
      clear h8 hw9
      as_aux_lemma =>
        go_wp2_with fail
        (with_reducible refine (TI.out.renameD (by omega) v.a v.b HOk.out.a HOk.out.b).mono ?_)
        rintro e w3 ⟨md3, rfl, hD, hT⟩
        have D3 := hid hD
        clear hD
        have T3 := hid hT
        clear hT
        have bk := (T3.out).keepAt HBk.out HnI.out
        have x1 := cell_of_row w3 w.heap.size 1 _ _ _ bk
        have x2 := cell_of_row w3 w.heap.size 2 _ _ _ bk
        clear bk
        go_wp2_with fail
        (with_reducible refine (T3.out.renameR (by omega) v.a v.b HOk.out.a HOk.out.b).mono ?_)
        rintro e w4 ⟨mr4, rfl, hD, hT⟩
        have D4 := hid hD
        clear hD
        have T4 := hid hT
        clear hT
        go_wp2_with fail
        go_meet
        exact ⟨md3, mr4, renameS s v.a v.b, renameE s v.a v.b, rfl, rfl, D3.out, D4.out, T4.out.mono (by omega)⟩
    · have hr : (v.what : Int) % 11 = 4 := by omega
      clear h8 hw9
      as_aux_lemma =>
        go_wp2_with fail
        (with_reducible refine (TI.out.removeD (by omega) v.a HOk.out.a).mono ?_)
        rintro e w3 ⟨md3, rfl, hD, hT⟩
        have D3 := hid hD
        clear hD
        have T3 := hid hT
        clear hT
        have bk := (T3.out).keepAt HBk.out HnI.out
        have x1 := cell_of_row w3 w.heap.size 1 _ _ _ bk
        clear bk
        go_wp2_with fail
        (with_reducible refine (T3.out.removeR (by omega) v.a HOk.out.a).mono ?_)
        rintro e w4 ⟨mr4, rfl, hD, hT⟩
        have D4 := hid hD
        clear hD
        have T4 := hid hT
        clear hT
        go_wp2_with fail
        go_meet
        exact ⟨md3, mr4, removeS s v.a, removeE s v.a, rfl, rfl, D3.out, D4.out, T4.out.mono (by omega)⟩
    · have hr : (v.what : Int) % 11 = 5 := by omega
      clear h8 hw9
      as_aux_lemma =>
        go_wp2_with fail
        (with_reducible refine (TI.out.syncDirD).mono ?_)
        rintro e w3 ⟨md3, rfl, hD, hT⟩
        have D3 := hid hD
        clear hD
        have T3 := hid hT
        clear hT
        have bk := (T3.out).keepAt HBk.out HnI.out
        clear bk
        go_wp2_with fail
        (with_reducible refine (T3.out.syncDirR (by omega)).mono ?_)
        rintro e w4 ⟨mr4, rfl, hD, hT⟩
        have D4 := hid hD
        clear hD
        have T4 := hid hT
        clear hT
        go_wp2_with fail
        go_meet
        exact ⟨md3, mr4, syncDirT s, syncDirE s, rfl, rfl, D3.out, D4.out, T4.out.mono (by omega)⟩
    · have hr : (v.what : Int) % 11 = 6 := by omega
      clear h8 hw9
      as_aux_lemma =>
        go_wp2_with fail
        (with_reducible refine (TI.out.setRoomD v.n).mono ?_)
        rintro e w3 ⟨rfl, hT⟩
        have T3 := hid hT
        clear hT
        have bk := (T3.out).keepAt HBk.out HnI.out
        have x3 := cell_of_row w3 w.heap.size 3 _ _ _ bk
        clear bk
        go_wp2_with fail
        (with_reducible refine (T3.out.setRoomR v.n).mono ?_)
        rintro e w4 ⟨rfl, hT⟩
        have T4 := hid hT
        clear hT
        go_wp2_with fail
        go_meet
        exact ⟨md, mr, setRoomS s v.n, setRoomE v.n, rfl, rfl, rfl, rfl, T4.out.mono (by omega)⟩
    · have hr : (v.what : Int) % 11 = 7 := by omega
      clear h8 hw9
      as_aux_lemma =>
        go_wp2_with fail
        (with_reducible refine (TI.out.fuseD v.n HOk.out.n1).mono ?_)
        rintro e w3 ⟨rfl, hT⟩
        have T3 := hid hT
        clear hT
        have bk := (T3.out).keepAt HBk.out HnI.out
        have x3 := cell_of_row w3 w.heap.size 3 _ _ _ bk
        clear bk
        go_wp2_with fail
        (with_reducible refine (T3.out.fuseR v.n HOk.out.n1).mono ?_)
        rintro e w4 ⟨rfl, hT⟩
        have T4 := hid hT
        clear hT
        go_wp2_with fail
        go_meet
        exact ⟨md, mr, fuseS s v.n, fuseE v.n, rfl, rfl, rfl, rfl, T4.out.mono (by omega)⟩
    · have hr : (v.what : Int) % 11 = 8 := by omega
      clear h8 hw9
      as_aux_lemma =>
        go_upto_region 30 with fail
        go_cut [10] (fun b10 wd => b10 = .int .u8 7 ∧ w2 = wd)
        case first =>
          go_wp2
          go_meet
          exact ⟨rfl, rfl⟩
        obtain ⟨rfl, hwd⟩ := hcut
        subst hwd
        rename_i hK
        refine hK _ _ ?_
        clear hK
        refine wp_seq_k ?_
        intro K2 hK2
        go_cut [10] (fun b10 wd => ∃ b : UInt8, b10 = .int .u8 (b.toNat : Int) ∧ w2 = wd)
        case first =>
          by_cases h0 : v.dn = 0
          · have b0 : decide ((0 : Int) < (v.dn : Int)) = false := by simp; omega
            go_wp2_with fail
            go_meet
            exact ⟨7, rfl, rfl⟩
          · have b0 : decide ((0 : Int) < (v.dn : Int)) = true := by simp; omega
            have i0 : (0 : Int) < (v.dn : Int) := by omega
            obtain ⟨bb, oo, hq, hc0⟩ := Hrd.out.cell (k := 0) (by rw [List.length_map, HOk.out.d0]; omega)
            rw [List.getElem_map, Nat.add_zero] at hc0
            obtain ⟨z, hz⟩ : ∃ z, z = v.data[0]'(by rw [HOk.out.d0]; omega) := ⟨_, rfl⟩
            rw [← hz] at hc0
            unfold bv at hc0
            rw [hq] at y4
            clear hz hq
            go_wp2_with fail
            go_meet
            exact ⟨z, rfl, rfl⟩
        obtain ⟨b, rfl, hwd⟩ := hcut
        subst hwd
        refine hK2 _ _ ?_
        clear hK2
        go_wp2_with fail
        (with_reducible refine (TI.out.turnD v.a HOk.out.a v.n b).mono ?_)
        rintro e w3 ⟨rfl, hT⟩
        have T3 := hid hT
        clear hT
        have bk := (T3.out).keepAt HBk.out HnI.out
        have x1 := cell_of_row w3 w.heap.size 1 _ _ _ bk
        have x3 := cell_of_row w3 w.heap.size 3 _ _ _ bk
        clear bk
        go_wp2_with fail
        (with_reducible refine (T3.out.turnR (by omega) v.a HOk.out.a v.n b).mono ?_)
        rintro e w4 ⟨mr4, rfl, hD, hT⟩
        have D4 := hid hD
        clear hD
        have T4 := hid hT
        clear hT
        go_wp2_with fail
        go_meet
        exact ⟨md, mr4, turnBS s v.a v.n b, turnBE s v.a v.n, rfl, rfl, rfl, D4.out, T4.out.mono (by omega)⟩
  obtain ⟨md', mr', s', E, rfl, rfl, hD, hR, hT⟩ := hcut
  have TF := hid hT
  have gk := hid (hT.keepAt HGh.out HnG.out)
  have bk := hT.keepAt HBk.out HnI.out
  have x4 := cell_of_row _ w.heap.size 4 _ _ _ bk
  have ee : (E == E) = true := by simp
  have rdF := hid (Hrd.out.rmod hT.mod (fun hx b off e => (Hdp.out (fun e0 => absurd (show List.map bv v.data = [] by rw [e0, List.map_nil]) hx) b off e).2))
  clear hT bk y0 y1 y2 y3 y4
  refine hK1 _ _ ?_
  clear hK1
  go_wp2_with fail
  (with_reducible refine (leftB_any v.dq g v.dn v.dc v.data _ HOk.out.d0 hdn rdF.out gk.out).mono ?_)
  rintro e w9 ⟨rfl, hb9⟩
  have T9 := hid ((TF.out.below' hb9).back HMd.out HI.out)
  clear hb9
  go_wp2
  go_ret
  exact ⟨md', mr', s', rfl, hD, hR, T9.out⟩
end Go.Proofs.Herb
