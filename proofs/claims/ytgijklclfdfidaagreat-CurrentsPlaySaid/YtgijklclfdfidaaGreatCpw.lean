/- The contract of CurrentsPlay: it answers true. For acts that can be read. (printed by gen_cpw.py) -/
import Derived.Test.YtgijklclfdfidaaGreatTwd
import Derived.Test.YtgijklclfdfidaaGreatOpP
namespace Go.Proofs.Herb
open Go.RowKit
theorem Two.bel {w0 w : World} {md : DM} {s t : DS} {mr : RM} {n : Nat} (T : Two (fun _ => False) w0 w md s mr t n) : Below w0.heap.size w0 w :=
  ⟨T.mod.os, T.mod.tape, T.mod.output, T.mod.size, fun k hk => T.mod.block k hk (fun h => h)⟩
set_option maxRecDepth 100000 in
set_option maxHeartbeats 6400000 in
theorem currentsPlay_any (room : Int) (a : Option Addr) (len cap : Nat) (l : List CAct) (w : World) (h : CActsAt w a len l) (hlm : len ≤ 9223372036854775807) :
    Calls Tryz.prog 3 #[.int .i64 room, .slice a len cap] w fun e w' => e = .returned (.bool true) ∧ Below w.heap.size w w' := by
  have HA := hid h
  clear h
  by_cases h60 : 60 < len
  · have b0 : decide ((60 : Int) < (len : Int)) = true := by simp; omega
    clear h60
    go_enter Tryz.func3, Tryz.ntmps3
    go_wp2_with (go_at_call 4; refine (livesC_any w).mono ?_; rintro e w1 ⟨rfl, hB⟩)
    go_ret
    exact ⟨rfl, hB⟩
  have b0 : decide ((60 : Int) < (len : Int)) = false := by simp; omega
  by_cases hr1 : 100000 < room
  · have b1 : decide ((100000 : Int) < room) = true := by simpa using hr1
    clear hr1
    go_enter Tryz.func3, Tryz.ntmps3
    go_wp2_with (go_at_call 4; refine (livesC_any w).mono ?_; rintro e w1 ⟨rfl, hB⟩)
    go_ret
    exact ⟨rfl, hB⟩
  have b1 : decide ((100000 : Int) < room) = false := by simpa using hr1
  by_cases hr0 : room < 0
  · go_enter Tryz.func3, Tryz.ntmps3
    go_wp2_with fail
    (with_reducible refine (new_no room (.inl hr0) w).mono ?_)
    rintro e w1 ⟨rfl, rfl⟩
    go_wp2_with fail
    (with_reducible refine (newR_any room w).mono ?_)
    rintro e w1 ⟨hB, ⟨_, rfl⟩ | ⟨hE, _⟩⟩
    · have HB := hid hB
      clear hB
      go_wp2_with fail
      go_loop [9] (fun i => i = .int .i64 0) (fun _ => 0)
      case atStart => rfl
      case round =>
        subst hrel
        by_cases hl0 : 0 < len
        · have bl : decide ((0 : Int) < (len : Int)) = true := by simp; omega
          go_wp2_with fail
          have h1 := setC_nil 1 w1
          rw [show (((1 : Nat) : Int)) = 1 from rfl] at h1
          (with_reducible refine h1.mono ?_)
          clear h1
          rintro e w3 ⟨rfl, hB3⟩
          have HB3 := hid (HB.out.trans (hB3.mono HB.out.size))
          clear hB3
          go_wp2_with fail
          (with_reducible refine (livesC_any w3).mono ?_)
          rintro e w4 ⟨rfl, hB4⟩
          have HB4 := hid (HB3.out.trans (hB4.mono HB3.out.size))
          clear hB4
          go_wp2_with fail
          go_ret
          exact ⟨rfl, HB4.out⟩
        · have bl : decide ((0 : Int) < (len : Int)) = false := by simp; omega
          go_wp2_with fail
          have h1 := setC_nil 1 w1
          rw [show (((1 : Nat) : Int)) = 1 from rfl] at h1
          (with_reducible refine h1.mono ?_)
          clear h1
          rintro e w3 ⟨rfl, hB3⟩
          have HB3 := hid (HB.out.trans (hB3.mono HB.out.size))
          clear hB3
          go_wp2_with fail
          (with_reducible refine (livesC_any w3).mono ?_)
          rintro e w4 ⟨rfl, hB4⟩
          have HB4 := hid (HB3.out.trans (hB4.mono HB3.out.size))
          clear hB4
          go_wp2_with fail
          go_ret
          exact ⟨rfl, HB4.out⟩
    · have := show newE room = 1 from if_pos (.inl hr0)
      rw [this] at hE
      cases hE
  have hr2 : 0 ≤ room := by omega
  have hr3 : room ≤ 4194304 := by omega
  go_enter Tryz.func3, Tryz.ntmps3
  go_wp2_with fail
  (with_reducible refine (new_any room hr2 hr3 w).mono ?_)
  rintro e w1 ⟨rfl, hD1, hB1⟩
  have HD1 := hid hD1
  have HB1 := hid hB1
  clear hD1 hB1
  go_wp2_with fail
  (with_reducible refine (newR_any room w1).mono ?_)
  rintro e w2 ⟨hB2, ⟨hE, _⟩ | ⟨_, rfl, hR⟩⟩
  · exfalso
    have := show newE room = 0 from if_neg (by omega)
    rw [this] at hE
    cases hE
  have hT : Two (fun _ => False) w w2 (newM w.heap.size) (newS room) (newRM w1.heap.size) (newS room) 0 :=
    ⟨HD1.out.below hB2, ⟨_, _, hR, Sim.new, fun k hk => ⟨.inr (Nat.le_trans HB1.out.size hk.1), fun e => by have := HD1.out.lt k e; have := hk.1; omega⟩⟩, DsOk.new hr2 hr3, DsOk.new hr2 hr3, fun k hk => .inr (newM_fresh _ k hk), (RMod.of_below _ HB1.out).seq (RMod.of_below _ hB2)⟩
  have HT := hid hT
  clear hT hR hB2 HD1 HB1
  go_wp2_with fail
  go_loopw [5, 7, 9] (fun d m i wr => ∃ (j : Nat) (md : DM) (mr : RM) (s : DS) (n : Nat), d = .pointer (some ⟨md.D, 0, none⟩) ∧ m = .pointer (some ⟨mr.D, 0, none⟩) ∧ i = .int .i64 (j : Int) ∧ j ≤ len ∧ n ≤ 40 * j ∧ Two (fun _ => False) w wr md s mr s n) (fun _ _ i _ => len - (intOf i).toNat)
  case atStart => exact ⟨0, _, _, _, 0, rfl, rfl, rfl, Nat.zero_le _, Nat.zero_le _, HT.out⟩
  case round =>
    obtain ⟨j, md, mr, s, n, rfl, rfl, rfl, hj, hn, T⟩ := hrel
    have hB := T.bel
    have HB := hid hB
    have HT := hid T
    clear T
    by_cases hlt : j < len
    · obtain ⟨b, off, v, rfl, hv, hok, hbl, hcs⟩ := (HA.out.below hB).cells hlt
      have hokw : CActOk w v := by
        have hjl : j < l.length := by rw [HA.out.1]; exact hlt
        have e : l[j]? = some l[j] := List.getElem?_eq_getElem hjl
        rw [hv] at e
        cases e
        exact HA.out.2.1 _ (List.getElem_mem hjl)
      have HOk := hid hokw
      have c0 : wr.cell? ⟨b, off + j * 5, none⟩ = some (.int .u8 (v.what : Int)) := hcs 0 _ rfl
      have c1 : wr.cell? ⟨b, off + j * 5 + 1, none⟩ = some (.int .u64 (v.n : Int)) := by rw [Nat.add_assoc]; exact hcs 1 _ rfl
      have c2 : wr.cell? ⟨b, off + j * 5 + 2, none⟩ = some (.slice v.dq v.dn v.dc) := by rw [Nat.add_assoc]; exact hcs 2 _ rfl
      have c3 : wr.cell? ⟨b, off + j * 5 + 3, none⟩ = some (.int .i64 v.dir) := by rw [Nat.add_assoc]; exact hcs 3 _ rfl
      have c4 : wr.cell? ⟨b, off + j * 5 + 4, none⟩ = some (.slice v.fq v.fn v.fc) := by rw [Nat.add_assoc]; exact hcs 4 _ rfl
      have i0 : (0 : Int) ≤ (j : Int) := by omega
      have i1 : (j : Int) < (len : Int) := by omega
      clear hcs hv hokw hB hok
      go_upto_region 11 with fail
      have hbX : Below wr.heap.size wr (wr.alloc (.cells #[.int .u8 (v.what : Int), .int .u64 (v.n : Int), .slice v.dq v.dn v.dc, .int .i64 v.dir, .slice v.fq v.fn v.fc] 37)) := (Below.refl _ _).alloc (Nat.le_refl _) _
      have hbk : (wr.alloc (.cells #[.int .u8 (v.what : Int), .int .u64 (v.n : Int), .slice v.dq v.dn v.dc, .int .i64 v.dir, .slice v.fq v.fn v.fc] 37)).heap[wr.heap.size]? = some (.cells #[.int .u8 (v.what : Int), .int .u64 (v.n : Int), .slice v.dq v.dn v.dc, .int .i64 v.dir, .slice v.fq v.fn v.fc] 37 (0, 0)) := heap_alloc_new _ _
      obtain ⟨wX, hwX⟩ : ∃ wX, wX = wr.alloc (.cells #[.int .u8 (v.what : Int), .int .u64 (v.n : Int), .slice v.dq v.dn v.dc, .int .i64 v.dir, .slice v.fq v.fn v.fc] 37) := ⟨_, rfl⟩
      rw [← hwX] at hbX hbk ⊢
      clear hwX c0 c1 c2 c3 c4
      obtain ⟨I, hTI, hI⟩ := HT.out.rebase' hbX
      have hnI : ¬ I wr.heap.size := fun h => by have := (hI _ h).2; omega
      have HnI := hid hnI
      have HBk := hid hbk
      have TI := hid hTI
      have HMd := hid (show RMod (fun _ => False) w wX from HT.out.mod.seq (RMod.of_below _ hbX))
      have HI := hid (show ∀ k, I k → False ∨ w.heap.size ≤ k from fun k hk => (hI k hk).1)
      have HBX := hid (HB.out.trans (hbX.mono HB.out.size))
      have Hap := hid (show v.data ≠ [] → ∀ b off, v.dq = some ⟨b, off, none⟩ → b < wX.heap.size ∧ ¬ I b from fun hd b off hq => by
        have h1 := HOk.out.d3.lt hq (by simpa using List.length_pos_iff.2 hd)
        have h2 := HBX.out.size
        exact ⟨by omega, fun h => by rcases HI.out b h with q | q; exact q; omega⟩)
      have y0 := cell_of_row wX wr.heap.size 0 _ _ _ hbk
      have y1 := cell_of_row wX wr.heap.size 1 _ _ _ hbk
      have y2 := cell_of_row wX wr.heap.size 2 _ _ _ hbk
      have y3 := cell_of_row wX wr.heap.size 3 _ _ _ hbk
      have y4 := cell_of_row wX wr.heap.size 4 _ _ _ hbk
      have hnn : n ≤ 2400 := by omega
      clear hbX hbk hnI hI hTI
      go_cut [11, 12] (fun g h wc => g = .int .i64 0 ∧ h = .int .i64 0 ∧ wc = wX)
      case first =>
        go_wp2
        go_meet
        exact ⟨rfl, rfl, rfl⟩
      obtain ⟨rfl, rfl, hwc⟩ := hcut
      subst hwc
      rename_i hK
      refine hK _ _ ?_
      clear hK
      refine wp_seq_k ?_
      intro K1 hK1
      go_cut [5, 7, 11, 12] (fun d m g h wd => ∃ (md' : DM) (mr' : RM) (s' : DS) (E : Int), d = .pointer (some ⟨md'.D, 0, none⟩) ∧ m = .pointer (some ⟨mr'.D, 0, none⟩) ∧ g = .int .i64 E ∧ h = .int .i64 E ∧ Two (fun _ => False) w wd md' s' mr' s' (n + 40))
      case first =>
        have hw8 : v.what % 8 = 0 ∨ v.what % 8 = 1 ∨ v.what % 8 = 2 ∨ v.what % 8 = 3 ∨ v.what % 8 = 4 ∨ v.what % 8 = 5 ∨ v.what % 8 = 6 ∨ v.what % 8 = 7 := by omega
        rcases hw8 with h8 | h8 | h8 | h8 | h8 | h8 | h8 | h8
        · have hr : (v.what : Int) % 8 = 0 := by omega
          clear h8
          as_aux_lemma =>
            go_wp2_with fail
            (with_reducible refine (TI.out.setD (by omega) v.n HOk.out.n0).mono ?_)
            rintro e w2 ⟨md2, rfl, hD2, hT2⟩
            have D2 := hid hD2
            clear hD2
            have T2 := hid hT2
            clear hT2
            have b2 := (T2.out).keepAt HBk.out HnI.out
            have x21 := cell_of_row w2 wr.heap.size 1 _ _ _ b2
            clear b2
            go_wp2_with fail
            (with_reducible refine (T2.out.setR (by omega) v.n HOk.out.n0).mono ?_)
            rintro e w3 ⟨mr3, rfl, hD3, hT3⟩
            have D3 := hid hD3
            clear hD3
            have T3 := hid hT3
            clear hT3
            go_wp2_with fail
            go_meet
            exact ⟨md2, mr3, setS s v.n, setE s v.n, by rw [D2.out], by rw [D3.out], rfl, rfl, (T3.out.mono (by omega)).back HMd.out HI.out⟩
        · have hr : (v.what : Int) % 8 = 1 := by omega
          clear h8
          as_aux_lemma =>
            go_wp2_with fail
            (with_reducible refine (TI.out.setD (by omega) v.n HOk.out.n0).mono ?_)
            rintro e w2 ⟨md2, rfl, hD2, hT2⟩
            have D2 := hid hD2
            clear hD2
            have T2 := hid hT2
            clear hT2
            have b2 := (T2.out).keepAt HBk.out HnI.out
            have x21 := cell_of_row w2 wr.heap.size 1 _ _ _ b2
            clear b2
            go_wp2_with fail
            (with_reducible refine (T2.out.setR (by omega) v.n HOk.out.n0).mono ?_)
            rintro e w3 ⟨mr3, rfl, hD3, hT3⟩
            have D3 := hid hD3
            clear hD3
            have T3 := hid hT3
            clear hT3
            go_wp2_with fail
            go_meet
            exact ⟨md2, mr3, setS s v.n, setE s v.n, by rw [D2.out], by rw [D3.out], rfl, rfl, (T3.out.mono (by omega)).back HMd.out HI.out⟩
        · have hr : (v.what : Int) % 8 = 2 := by omega
          clear h8
          as_aux_lemma =>
            go_wp2_with fail
            (with_reducible refine (name_any v.n HOk.out.n0 _).mono ?_)
            rintro e w5 ⟨rfl, hb5⟩
            have T5 := hid (TI.out.below' hb5)
            clear hb5
            go_wp2_with fail
            (with_reducible refine (T5.out.createD (by omega) (nameL v.n) (nameL_size _)).mono ?_)
            rintro e w2 ⟨md2, rfl, hD2, hT2⟩
            have D2 := hid hD2
            clear hD2
            have T2 := hid hT2
            clear hT2
            have b2 := (T2.out).keepAt HBk.out HnI.out
            have x21 := cell_of_row w2 wr.heap.size 1 _ _ _ b2
            clear b2
            go_wp2_with fail
            (with_reducible refine (name_any v.n HOk.out.n0 w2).mono ?_)
            rintro e w6 ⟨rfl, hb6⟩
            have T6 := hid (T2.out.below' hb6)
            clear hb6
            go_wp2_with fail
            (with_reducible refine (T6.out.createR (by omega) (nameL v.n) (nameL_size _)).mono ?_)
            rintro e w3 ⟨mr3, rfl, hD3, hT3⟩
            have D3 := hid hD3
            clear hD3
            have T3 := hid hT3
            clear hT3
            go_wp2_with fail
            go_meet
            exact ⟨md2, mr3, createS s (nameL v.n), createE s (nameL v.n), by rw [D2.out], by rw [D3.out], rfl, rfl, (T3.out.mono (by omega)).back HMd.out HI.out⟩
        · have hr : (v.what : Int) % 8 = 3 := by omega
          clear h8
          as_aux_lemma =>
            by_cases h300 : 300 < v.dn
            · have b3 : decide ((300 : Int) < (v.dn : Int)) = true := by simp; omega
              go_wp2_with fail
              (with_reducible refine (livesC_any _).mono ?_)
              rintro e w4 ⟨rfl, hB4⟩
              have HB4 := hid (HBX.out.trans (hB4.mono HBX.out.size))
              clear hB4
              go_wp2_with fail
              go_ret
              exact ⟨rfl, HB4.out⟩
            · have b3 : decide ((300 : Int) < (v.dn : Int)) = false := by simp; omega
              go_upto_region 32 with fail
              refine wp_region_split (S := fun w' => w'.cell? ⟨wr.heap.size, 1, none⟩ = some (.int .u64 (v.n : Int)) ∧ w'.cell? ⟨wr.heap.size, 2, none⟩ = some (.slice v.dq v.dn v.dc)) 7 (by kernel_rfl) (by kernel_rfl) ⟨y1, y2⟩ (fun hHeld => ?_)
              simp only [List.take_succ_cons, List.take_zero, List.drop_succ_cons, List.drop_zero]
              refine take_held (v := ?_) 0 rfl (by kernel_rfl) (by kernel_rfl) (by kernel_rfl) (fun _ _ _ h => h) (Or.inl ⟨by rfl, ?_⟩) (by assumption) ?_
              rotate_left
              · intro wS hSw
                obtain ⟨s0, s1⟩ := hSw
                go_simp
                try with_reducible rfl
              simp only [Act.put, List.setIfInBounds_toArray, List.set_cons_zero, List.set_cons_succ]
              refine take_held (v := ?_) 1 rfl (by kernel_rfl) (by kernel_rfl) (by kernel_rfl) (fun _ _ _ h => h) (Or.inl ⟨by rfl, ?_⟩) (by assumption) ?_
              rotate_left
              · intro wS hSw
                obtain ⟨s0, s1⟩ := hSw
                go_simp
                try with_reducible rfl
              simp only [Act.put, List.setIfInBounds_toArray, List.set_cons_zero, List.set_cons_succ]
              refine take_held (v := ?_) 2 rfl (by kernel_rfl) (by kernel_rfl) (by kernel_rfl) (fun _ _ _ h => h) (Or.inl ⟨by rfl, ?_⟩) (by assumption) ?_
              rotate_left
              · intro wS hSw
                obtain ⟨s0, s1⟩ := hSw
                go_simp
                try with_reducible rfl
              simp only [Act.put, List.setIfInBounds_toArray, List.set_cons_zero, List.set_cons_succ]
              refine take_held (v := ?_) 4 rfl (by kernel_rfl) (by kernel_rfl) (by kernel_rfl) (fun _ _ _ h => h) (Or.inl ⟨by rfl, ?_⟩) (by assumption) ?_
              rotate_left
              · intro wS hSw
                obtain ⟨s0, s1⟩ := hSw
                go_simp
                try with_reducible rfl
              simp only [Act.put, List.setIfInBounds_toArray, List.set_cons_zero, List.set_cons_succ]
              refine take_held (v := ?_) 5 rfl (by kernel_rfl) (by kernel_rfl) (by kernel_rfl) (fun _ _ _ h => h) (Or.inl ⟨by rfl, ?_⟩) (by assumption) ?_
              rotate_left
              · intro wS hSw
                obtain ⟨s0, s1⟩ := hSw
                go_simp
                try with_reducible rfl
              simp only [Act.put, List.setIfInBounds_toArray, List.set_cons_zero, List.set_cons_succ]
              refine wpAnyH_ready (rs := [3]) (by kernel_rfl) (by simp) ?_
              refine cons_held 3 rfl (fun K hK => ?_) AllReadyH.nil
              go_simp
              refine (name_any v.n HOk.out.n0 _).mono ?_
              rintro e w5 ⟨rfl, hb5⟩
              have hb5 : Below wc.heap.size wc w5 := (Below.refl _ _).drew.trans hb5
              have T5 := hid (TI.out.below' hb5)
              refine hK.out _ _ ⟨below_at hb5 y1, below_at hb5 y2⟩ (fun hHeld2 => ?_)
              clear hK K hb5
              refine wpAnyH_ready (rs := [6]) (by kernel_rfl) (by simp) ?_
              refine cons_held 6 rfl (fun K hK => ?_) AllReadyH.nil
              go_simp
              refine (T5.out.appendD (by omega) (nameL v.n) (nameL_size _) v.dq v.dn v.dc v.data HOk.out.d0 HOk.out.d1 HOk.out.d2 (HOk.out.d3.below (T5.out.back HMd.out HI.out).bel) HOk.out.d4 Hap.out).mono ?_
              rintro e w2 ⟨md2, rfl, hd, ht⟩
              have D2 := hid hd
              have T2 := hid ht
              clear hd ht
              have b2 := T2.out.keepAt HBk.out HnI.out
              have x21 := cell_of_row w2 wr.heap.size 1 _ _ _ b2
              have x22 := cell_of_row w2 wr.heap.size 2 _ _ _ b2
              clear b2
              refine hK.out _ _ ⟨x21, x22⟩ (fun hHeld3 => ?_)
              clear hK K
              try simp only [Act.put, List.setIfInBounds_toArray, List.set_cons_zero, List.set_cons_succ]
              refine wpAnyH_done (by kernel_rfl) ?_ _
              rw [headQ_normal]
              go_upto_region 33 with fail
              refine wp_region_split (S := fun w' => w'.cell? ⟨wr.heap.size, 1, none⟩ = some (.int .u64 (v.n : Int)) ∧ w'.cell? ⟨wr.heap.size, 2, none⟩ = some (.slice v.dq v.dn v.dc)) 7 (by kernel_rfl) (by kernel_rfl) ⟨x21, x22⟩ (fun hHeld => ?_)
              simp only [List.take_succ_cons, List.take_zero, List.drop_succ_cons, List.drop_zero]
              refine take_held (v := ?_) 0 rfl (by kernel_rfl) (by kernel_rfl) (by kernel_rfl) (fun _ _ _ h => h) (Or.inl ⟨by rfl, ?_⟩) (by assumption) ?_
              rotate_left
              · intro wS hSw
                obtain ⟨s0, s1⟩ := hSw
                go_simp
                try with_reducible rfl
              simp only [Act.put, List.setIfInBounds_toArray, List.set_cons_zero, List.set_cons_succ]
              refine take_held (v := ?_) 1 rfl (by kernel_rfl) (by kernel_rfl) (by kernel_rfl) (fun _ _ _ h => h) (Or.inl ⟨by rfl, ?_⟩) (by assumption) ?_
              rotate_left
              · intro wS hSw
                obtain ⟨s0, s1⟩ := hSw
                go_simp
                try with_reducible rfl
              simp only [Act.put, List.setIfInBounds_toArray, List.set_cons_zero, List.set_cons_succ]
              refine take_held (v := ?_) 2 rfl (by kernel_rfl) (by kernel_rfl) (by kernel_rfl) (fun _ _ _ h => h) (Or.inl ⟨by rfl, ?_⟩) (by assumption) ?_
              rotate_left
              · intro wS hSw
                obtain ⟨s0, s1⟩ := hSw
                go_simp
                try with_reducible rfl
              simp only [Act.put, List.setIfInBounds_toArray, List.set_cons_zero, List.set_cons_succ]
              refine take_held (v := ?_) 4 rfl (by kernel_rfl) (by kernel_rfl) (by kernel_rfl) (fun _ _ _ h => h) (Or.inl ⟨by rfl, ?_⟩) (by assumption) ?_
              rotate_left
              · intro wS hSw
                obtain ⟨s0, s1⟩ := hSw
                go_simp
                try with_reducible rfl
              simp only [Act.put, List.setIfInBounds_toArray, List.set_cons_zero, List.set_cons_succ]
              refine take_held (v := ?_) 5 rfl (by kernel_rfl) (by kernel_rfl) (by kernel_rfl) (fun _ _ _ h => h) (Or.inl ⟨by rfl, ?_⟩) (by assumption) ?_
              rotate_left
              · intro wS hSw
                obtain ⟨s0, s1⟩ := hSw
                go_simp
                try with_reducible rfl
              simp only [Act.put, List.setIfInBounds_toArray, List.set_cons_zero, List.set_cons_succ]
              refine wpAnyH_ready (rs := [3]) (by kernel_rfl) (by simp) ?_
              refine cons_held 3 rfl (fun K hK => ?_) AllReadyH.nil
              go_simp
              refine (name_any v.n HOk.out.n0 _).mono ?_
              rintro e w6 ⟨rfl, hb6⟩
              have hb6 : Below w2.heap.size w2 w6 := (Below.refl _ _).drew.trans hb6
              have T6 := hid (T2.out.below' hb6)
              refine hK.out _ _ ⟨below_at hb6 x21, below_at hb6 x22⟩ (fun hHeld2 => ?_)
              clear hK K hb6
              refine wpAnyH_ready (rs := [6]) (by kernel_rfl) (by simp) ?_
              refine cons_held 6 rfl (fun K hK => ?_) AllReadyH.nil
              go_simp
              refine (T6.out.appendR (by omega) (nameL v.n) (nameL_size _) v.dq v.dn v.dc v.data HOk.out.d0 HOk.out.d1 HOk.out.d2 (HOk.out.d3.below (T6.out.back HMd.out HI.out).bel) HOk.out.d4 (by omega) Hap.out).mono ?_
              rintro e w3 ⟨mr3, rfl, hd, ht⟩
              have D3 := hid hd
              have T3 := hid ht
              clear hd ht
              have b3 := T3.out.keepAt HBk.out HnI.out
              have x31 := cell_of_row w3 wr.heap.size 1 _ _ _ b3
              have x32 := cell_of_row w3 wr.heap.size 2 _ _ _ b3
              clear b3
              refine hK.out _ _ ⟨x31, x32⟩ (fun hHeld3 => ?_)
              clear hK K
              try simp only [Act.put, List.setIfInBounds_toArray, List.set_cons_zero, List.set_cons_succ]
              refine wpAnyH_done (by kernel_rfl) ?_ _
              rw [headQ_normal]
              go_wp2_with fail
              go_meet
              exact ⟨md2, mr3, appendS s (nameL v.n) v.data, appendE s (nameL v.n) v.data, by rw [D2.out], by rw [D3.out], rfl, rfl, (T3.out.mono (by omega)).back HMd.out HI.out⟩
        · have hr : (v.what : Int) % 8 = 4 := by omega
          clear h8
          as_aux_lemma =>
            go_wp2_with fail
            (with_reducible refine (name_any v.n HOk.out.n0 _).mono ?_)
            rintro e w5 ⟨rfl, hb5⟩
            have T5 := hid (TI.out.below' hb5)
            clear hb5
            go_wp2_with fail
            (with_reducible refine (T5.out.removeD (by omega) (nameL v.n) (nameL_size _)).mono ?_)
            rintro e w2 ⟨md2, rfl, hD2, hT2⟩
            have D2 := hid hD2
            clear hD2
            have T2 := hid hT2
            clear hT2
            have b2 := (T2.out).keepAt HBk.out HnI.out
            have x21 := cell_of_row w2 wr.heap.size 1 _ _ _ b2
            clear b2
            go_wp2_with fail
            (with_reducible refine (name_any v.n HOk.out.n0 w2).mono ?_)
            rintro e w6 ⟨rfl, hb6⟩
            have T6 := hid (T2.out.below' hb6)
            clear hb6
            go_wp2_with fail
            (with_reducible refine (T6.out.removeR (by omega) (nameL v.n) (nameL_size _)).mono ?_)
            rintro e w3 ⟨mr3, rfl, hD3, hT3⟩
            have D3 := hid hD3
            clear hD3
            have T3 := hid hT3
            clear hT3
            go_wp2_with fail
            go_meet
            exact ⟨md2, mr3, removeS s (nameL v.n), removeE s (nameL v.n), by rw [D2.out], by rw [D3.out], rfl, rfl, (T3.out.mono (by omega)).back HMd.out HI.out⟩
        · have hr : (v.what : Int) % 8 = 5 := by omega
          clear h8
          as_aux_lemma =>
            have wm : IntKind.i64.wrap ((v.n : Int) % 300) = (v.n : Int) % 300 := by rw [IntKind.wrap_i64]; omega
            go_wp2_with fail
            (with_reducible refine (TI.out.setRoomD ((v.n : Int) % 300)).mono ?_)
            rintro e w2 ⟨rfl, hT2⟩
            have T2 := hid hT2
            clear hT2
            have b2 := (T2.out).keepAt HBk.out HnI.out
            have x21 := cell_of_row w2 wr.heap.size 1 _ _ _ b2
            clear b2
            go_wp2_with fail
            (with_reducible refine (T2.out.setRoomR ((v.n : Int) % 300)).mono ?_)
            rintro e w3 ⟨rfl, hT3⟩
            have T3 := hid hT3
            clear hT3
            go_wp2_with fail
            go_meet
            exact ⟨md, mr, setRoomS s ((v.n : Int) % 300), setRoomE ((v.n : Int) % 300), rfl, rfl, rfl, rfl, (T3.out.mono (by omega)).back HMd.out HI.out⟩
        · have hr : (v.what : Int) % 8 = 6 := by omega
          clear h8
          as_aux_lemma =>
            have wm : IntKind.i64.wrap ((v.n : Int) % 9) = (v.n : Int) % 9 := by rw [IntKind.wrap_i64]; omega
            go_wp2_with fail
            (with_reducible refine (TI.out.fuseD ((v.n : Int) % 9) (by omega)).mono ?_)
            rintro e w2 ⟨rfl, hT2⟩
            have T2 := hid hT2
            clear hT2
            have b2 := (T2.out).keepAt HBk.out HnI.out
            have x21 := cell_of_row w2 wr.heap.size 1 _ _ _ b2
            clear b2
            go_wp2_with fail
            (with_reducible refine (T2.out.fuseR ((v.n : Int) % 9) (by omega)).mono ?_)
            rintro e w3 ⟨rfl, hT3⟩
            have T3 := hid hT3
            clear hT3
            go_wp2_with fail
            go_meet
            exact ⟨md, mr, fuseS s ((v.n : Int) % 9), fuseE ((v.n : Int) % 9), rfl, rfl, rfl, rfl, (T3.out.mono (by omega)).back HMd.out HI.out⟩
        · have hr : (v.what : Int) % 8 = 7 := by omega
          clear h8
          as_aux_lemma =>
            by_cases h20 : 20 < v.fn
            · have b3 : decide ((20 : Int) < (v.fn : Int)) = true := by simp; omega
              go_wp2_with fail
              (with_reducible refine (livesC_any _).mono ?_)
              rintro e w4 ⟨rfl, hB4⟩
              have HB4 := hid (HBX.out.trans (hB4.mono HBX.out.size))
              clear hB4
              go_wp2_with fail
              go_ret
              exact ⟨rfl, HB4.out⟩
            · have b3 : decide ((20 : Int) < (v.fn : Int)) = false := by simp; omega
              go_wp2_with fail
              (with_reducible refine (TI.out.crashD (by omega) v.dir v.fq v.fn v.fc v.files HOk.out.f0 (HOk.out.f3.below HBX.out)).mono ?_)
              rintro e w2 ⟨mo, rfl, hd2, hb2, hf2⟩
              have Hd2 := hid hd2
              have Hb2 := hid hb2
              have Hf2 := hid hf2
              have T2 := hid (TI.out.below' hb2)
              clear hd2 hb2 hf2
              have b2 := (T2.out).keepAt HBk.out HnI.out
              have x23 := cell_of_row w2 wr.heap.size 3 _ _ _ b2
              have x24 := cell_of_row w2 wr.heap.size 4 _ _ _ b2
              clear b2
              go_wp2_with fail
              (with_reducible refine (T2.out.crashR (by omega) v.dir v.fq v.fn v.fc v.files HOk.out.f0 ((HOk.out.f3.below HBX.out).below Hb2.out)).mono ?_)
              rintro e w3 ⟨mr3, rfl, hb3, r3, hr3, hs3⟩
              have T3 := hid (TI.out.crashed v.dir v.files Hd2.out Hb2.out Hf2.out hb3 hr3 hs3)
              clear hb3 hr3 hs3
              go_wp2_with fail
              go_meet
              exact ⟨mo, mr3, crashS s v.dir v.files, 0, rfl, rfl, rfl, rfl, (T3.out.mono (by omega)).back HMd.out HI.out⟩
      obtain ⟨md', mr', s', E, rfl, rfl, rfl, rfl, T'⟩ := hcut
      as_aux_lemma =>
        have HT2 := hid T'
        clear T' TI HBk y0 y1 y2 y3 y4 HnI HI Hap HMd HBX HOk
        go_wp2_with fail
        (with_reducible refine (HT2.out.getD (by omega)).mono ?_)
        rintro e w2 ⟨rfl, hb2⟩
        have T2 := hid (HT2.out.below' hb2)
        clear hb2
        go_wp2_with fail
        (with_reducible refine (T2.out.getR (by omega)).mono ?_)
        rintro e w3 ⟨rfl, hb3⟩
        have T3 := hid (T2.out.below' hb3)
        clear hb3
        go_wp2_with fail
        go_loopw [21] (fun q wr2 => ∃ c : Nat, c ≤ 3 ∧ q = .int .u64 (c : Int) ∧ Below w3.heap.size w3 wr2) (fun q _ => 3 - (intOf q).toNat)
        case atStart => exact ⟨0, by omega, rfl, Below.refl _ _⟩
        case round =>
          obtain ⟨c, hc, rfl, hbc⟩ := hrel
          have T4 := hid (T3.out.below' hbc)
          have Hbc := hid hbc
          clear hbc
          by_cases hl : c < 3
          · have bl : decide ((c : Int) < 3) = true := by simp; omega
            obtain ⟨R, hR⟩ : ∃ R, R = readL s' (nameL c) := ⟨_, rfl⟩
            obtain ⟨L, hL⟩ : ∃ L, L = R.length := ⟨_, rfl⟩
            have hLl : L ≤ 4194304 := by
              rw [hL, hR]; unfold readL
              split
              · rw [fileAt_b]; exact (fileAt_ok T4.out.okr _).2
              · simp
            have HR := hid hR
            have HL := hid hL
            clear hR hL
            go_wp2_with fail
            (with_reducible refine (name_any c (by omega) _).mono ?_)
            rintro e w5 ⟨rfl, hb5⟩
            have T5 := hid (T4.out.below' hb5)
            have Hb5 := hid (Hbc.out.trans (hb5.mono Hbc.out.size))
            clear hb5
            go_wp2_with fail
            (with_reducible refine (T5.out.readD (nameL c) (nameL_size _)).mono ?_)
            rintro e w6 ⟨q6, rfl, hrd6, hb6⟩
            rw [← HR.out] at hrd6 ⊢
            rw [← HL.out]
            have T6 := hid (T5.out.below' hb6)
            have Hb6 := hid (Hb5.out.trans (hb6.mono Hb5.out.size))
            have Hrd6 := hid hrd6
            clear hb6 hrd6
            go_wp2_with fail
            (with_reducible refine (name_any c (by omega) _).mono ?_)
            rintro e w7 ⟨rfl, hb7⟩
            have T7 := hid (T6.out.below' hb7)
            have Hb7 := hid (Hb6.out.trans (hb7.mono Hb6.out.size))
            have Hrd7 := hid (Hrd6.out.below hb7)
            clear hb7
            go_wp2_with fail
            (with_reducible refine (T7.out.readR (by omega) (nameL c) (nameL_size _)).mono ?_)
            rintro e w8 ⟨v8, rfl, ho8, hb8⟩
            rw [← HR.out, ← HL.out] at ho8
            obtain ⟨q8, c8, rfl, _, _, _⟩ := own_shape ho8
            have Ho8 := hid (Fr.of_own ho8).rd
            have Hb8 := hid (Hb7.out.trans (hb8.mono Hb7.out.size))
            have Hrd8 := hid (Hrd7.out.below hb8)
            clear ho8 hb8
            go_wp2_with fail
            (with_reducible refine (sameB_true q6 q8 L L c8 R w8 HL.out.symm (by omega) Hrd8.out Ho8.out).mono ?_)
            rintro e w9 ⟨rfl, hb9⟩
            have Hb9 := hid (Hb8.out.trans (hb9.mono Hb8.out.size))
            clear hb9
            go_wp2_with fail
            go_roundw
            case rel => exact ⟨c + 1, by omega, by go_num, Hb9.out⟩
            case measure => simp [intOf]; omega
          · have bl : decide ((c : Int) < 3) = false := by simp; omega
            go_wp2_with fail
            go_roundw
            case rel => exact ⟨j + 1, md', mr', s', n + 40, rfl, rfl, by go_num, by omega, by omega, T4.out⟩
            case measure => simp [intOf]; omega
    · have hjN : j = len := by omega
      have bl : decide ((j : Int) < (len : Int)) = false := by simp; omega
      have hB := HB
      go_wp2_with fail
      have h1 := setC_nil 1 wr
      rw [show (((1 : Nat) : Int)) = 1 from rfl] at h1
      (with_reducible refine h1.mono ?_)
      clear h1
      rintro e w3 ⟨rfl, hB3⟩
      have HB3 := hid (HB.out.trans (hB3.mono HB.out.size))
      clear hB3
      go_wp2_with fail
      (with_reducible refine (livesC_any w3).mono ?_)
      rintro e w4 ⟨rfl, hB4⟩
      have HB4 := hid (HB3.out.trans (hB4.mono HB3.out.size))
      clear hB4
      go_wp2_with fail
      go_ret
      exact ⟨rfl, HB4.out⟩
end Go.Proofs.Herb
