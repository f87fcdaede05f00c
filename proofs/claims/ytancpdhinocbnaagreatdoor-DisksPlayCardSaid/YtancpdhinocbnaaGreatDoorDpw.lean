/- The contract of the law DisksPlay: it answers true. For acts that can be read, of 2^47 bytes at most, in worlds where strconv's table of powers of ten reads as it was laid. -/
import Derived.Test.YtancpdhinocbnaaGreatDoorAlk
import Derived.Test.YtancpdhinocbnaaGreatDoorDos
import Derived.Test.YtancpdhinocbnaaGreatDoorLiv4
namespace Go.Proofs.Herb
open Go.RowKit Go.Sort
theorem Mod.belowB {fp fp' : List Nat} {w w' : World} {B : Nat} (h : Mod fp fp' w w') (hf : ∀ k, k ∈ fp → B ≤ k) (hB : B ≤ w.heap.size) : Below B w w' ∧ ∀ k, k ∈ fp' → B ≤ k :=
  ⟨⟨h.os, h.tape, h.output, h.size, fun k hk => h.block k (by omega) (fun e => by have := hf k e; omega)⟩, fun k hk => by
    rcases h.grow k hk with q | q
    · exact hf k q
    · omega⟩
theorem Two.belI {w0 w : World} {md : DM} {s t : DS} {mr : RM} {n : Nat} (T : Two (fun _ => False) w0 w md s mr t n) : Below w0.heap.size w0 w :=
  ⟨T.mod.os, T.mod.tape, T.mod.output, T.mod.size, fun k hk => T.mod.block k hk (fun h => h)⟩
theorem Two.createD2 {I : Nat → Prop} {w0 w : World} {md : DM} {s t : DS} {mr : RM} {n B : Nat} (T : Two I w0 w md s mr t n) (hn : n ≤ 900000) (k : ByteArray) (hk : k.size ≤ maxLen) (hf : ∀ k, k ∈ md.fp → B ≤ k) (hB : B ≤ w.heap.size) :
    Calls Tryz.prog 12 #[.pointer (some ⟨md.D, 0, none⟩), .string k] w fun e w' => ∃ md', e = .returned (.int .i64 (createE s k)) ∧ md'.D = md.D ∧ Two I w0 w' md' (createS s k) mr t (n + 2) ∧ Below B w w' ∧ ∀ k, k ∈ md'.fp → B ≤ k := by
  refine (create_any md s k w T.disk hk T.okd.f0 T.okd.f1 (by have := T.okd.files; omega) (by have := T.okd.changes; omega) (by have := T.okd.good.many; omega)).mono ?_
  rintro e w' ⟨md', rfl, hd, hD, hM⟩
  exact ⟨md', rfl, hD, T.move hd hM (T.okd.create k) (by omega), (hM.belowB hf hB).1, (hM.belowB hf hB).2⟩
theorem Two.appendD2 {I : Nat → Prop} {w0 w wp : World} {md : DM} {s t : DS} {mr : RM} {n B : Nat} (T : Two I w0 wp md s mr t n) (hb : Below wp.heap.size wp w) (hn : n ≤ 900000) (k : ByteArray) (hk : k.size ≤ maxLen) (v : Value) (l : List UInt8) (m : Nat) (hl : l.length = m)
    (ho : w.ownsRow wp.heap.size 5 1 v m (l.map bv)) (hf : ∀ k, k ∈ md.fp → B ≤ k) (hB : B ≤ wp.heap.size) :
    Calls Tryz.prog 13 #[.pointer (some ⟨md.D, 0, none⟩), .string k, v] w fun e w' => ∃ md', e = .returned (.int .i64 (appendE s k l)) ∧ md'.D = md.D ∧ Two I w0 w' md' (appendS s k l) mr t n ∧ Below B wp w' := by
  have hu := used_le T.okd
  have hd0 := T.disk.below hb
  obtain ⟨q, c, rfl, hc, hcm, hq⟩ := own_shape ho
  refine (append_any md s k hk q m c l w hd0 T.okd.good.ok (Nat.le_trans hu (by have : n * 4194304 ≤ 900000 * 4194304 := Nat.mul_le_mul_right _ hn; omega)) T.okd.f0 T.okd.f1 T.okd.r0 T.okd.r1 hl hc hcm (Fr.of_own ho).rd hq (fun _ b off e hm => by
    have h1 := T.disk.lt b hm
    have h2 := fr_base (Fr.of_own ho) e
    omega) (fun f hf => by have := (T.okd.sure f hf).2; omega)).mono ?_
  rintro e w' ⟨md', rfl, hd, hD, hM⟩
  exact ⟨md', rfl, hD, (T.below' hb).move hd hM (T.okd.append k l) (Nat.le_refl _), (hb.mono hB).trans (hM.belowB hf (Nat.le_trans hB hb.size)).1⟩
theorem own_new (w : World) (x : Value) (e : TypeId) : (w.alloc (.cells #[x] e)).ownsRow w.heap.size e 1 (.slice (some ⟨w.heap.size, 0, none⟩) 1 1) 1 [x] :=
  ⟨rfl, .inr ⟨w.heap.size, 1, #[x], rfl, Nat.le_refl _, heap_alloc_new w _, Nat.le_refl _, by unfold maxLen; omega, rfl, rfl⟩⟩
theorem zz_size : (⟨#[122, 122]⟩ : ByteArray).size ≤ maxLen := by unfold maxLen; decide
theorem ActOk.belowA {w w' : World} {v : ActV} (h : ActOk w v) (hb : Below w.heap.size w w') : ActOk w' v := h.below hb
/-- behind a crash, or a copy: the disk that was, and the one that goes on -/
structure TwoS (w wr wd : World) (md : DM) (s : DS) (mr : RM) (n : Nat) (mo : DM) (m' : RM) (s2 : DS) : Prop where
  two : Two (fun _ => False) w wd mo s2 m' s2 n
  bel : Below wr.heap.size wr wd
  fp : ∀ k, k ∈ mo.fp → wr.heap.size ≤ k
set_option maxRecDepth 100000 in
set_option maxHeartbeats 6400000 in
theorem disksPlay_any (room : Int) (a : Option Addr) (len cap : Nat) (l : List ActV) (w : World) (h : ActsAt w a len l) (hlm : len ≤ 9223372036854775807) (hz : ∀ v ∈ l, v.dn ≤ 140737488355328) (ht : Pow10 w) :
    Calls Tryz.prog 3 #[.int .i64 room, .slice a len cap] w fun e w' => e = .returned (.bool true) ∧ Below w.heap.size w w' := by
  have HA := hid h
  have HZ := hid hz
  have HP := hid ht
  clear h hz ht
  by_cases hrm : room < 0 ∨ 4194304 < room
  · have hE : newE room = 1 := if_pos hrm
    go_enter Tryz.func3, Tryz.ntmps3
    go_wp2_with fail
    (with_reducible refine (new_no room hrm w).mono ?_)
    rintro e w1 ⟨rfl, rfl⟩
    go_wp2_with fail
    (with_reducible refine (newR_any room w).mono ?_)
    rintro e w1 ⟨hB, ⟨_, rfl⟩ | ⟨hE2, _⟩⟩
    · have HB := hid hB
      clear hB
      go_wp2_with fail
      (with_reducible refine (lives4_any w1).mono ?_)
      rintro e w4 ⟨rfl, hB4⟩
      have HB4 := hid (HB.out.trans (hB4.mono HB.out.size))
      clear hB4
      go_wp2_with fail
      go_ret
      exact ⟨rfl, HB4.out⟩
    · rw [hE] at hE2
      cases hE2
  have hr2 : 0 ≤ room := by omega
  have hr3 : room ≤ 4194304 := by omega
  go_enter Tryz.func3, Tryz.ntmps3
  go_wp2_with fail
  (with_reducible refine (new_any room hr2 hr3 w).mono ?_)
  rintro e w1 ⟨rfl, hD1, hB1⟩
  have HD1 := hid hD1
  have HB1 := hid hB1
  clear hD1 hB1
  go_wp2_with fail
  (with_reducible refine (newR_any room w1).mono ?_)
  rintro e w2 ⟨hB2, ⟨hE, _⟩ | ⟨_, rfl, hR⟩⟩
  · exfalso
    have := show newE room = 0 from if_neg (by omega)
    rw [this] at hE
    cases hE
  have hT : Two (fun _ => False) w w2 (newM w.heap.size) (newS room) (newRM w1.heap.size) (newS room) 0 :=
    ⟨HD1.out.below hB2, ⟨_, _, hR, Sim.new, fun k hk => ⟨.inr (Nat.le_trans HB1.out.size hk.1), fun e => by have := HD1.out.lt k e; have := hk.1; omega⟩⟩, DsOk.new hr2 hr3, DsOk.new hr2 hr3, fun k hk => .inr (newM_fresh _ k hk), (RMod.of_below _ HB1.out).seq (RMod.of_below _ hB2)⟩
  have HT := hid hT
  clear hT hR hB2 HD1 HB1
  by_cases h60 : 60 < len
  · have b0 : decide ((60 : Int) < (len : Int)) = true := by simp; omega
    clear h60
    go_wp2_with fail
    (with_reducible refine (lives4_any w2).mono ?_)
    rintro e w4 ⟨rfl, hB4⟩
    have HB4 := hid (HT.out.belI.trans (hB4.mono HT.out.belI.size))
    clear hB4
    go_wp2_with fail
    go_ret
    exact ⟨rfl, HB4.out⟩
  have b0 : decide ((60 : Int) < (len : Int)) = false := by simp; omega
  go_wp2_with fail
  go_loopw [5, 6, 7, 8, 9] (fun d e m f i wr => ∃ (j : Nat) (md : DM) (mr : RM) (s : DS) (n : Nat), d = .pointer (some ⟨md.D, 0, none⟩) ∧ e = .int .i64 0 ∧ m = .pointer (some ⟨mr.D, 0, none⟩) ∧ f = .int .i64 0 ∧ i = .int .i64 (j : Int) ∧ j ≤ len ∧ n ≤ 8 * j ∧ Two (fun _ => False) w wr md s mr s n) (fun _ _ _ _ i _ => len - (intOf i).toNat)
  case atStart => exact ⟨0, _, _, _, 0, rfl, rfl, rfl, rfl, rfl, Nat.zero_le _, Nat.zero_le _, HT.out⟩
  case round =>
    obtain ⟨j, md, mr, s, n, rfl, rfl, rfl, rfl, rfl, hj, hn, T⟩ := hrel
    have hB := T.belI
    have HB := hid hB
    have HT := hid T
    clear T
    by_cases hlt : j < len
    · obtain ⟨b, off, v, rfl, hv, hok, hbl, hcs⟩ := (HA.out.below hB).cells hlt
      have hvl : v ∈ l := List.mem_of_getElem? hv
      have hdn := HZ.out v hvl
      have HOk := hid (HA.out.2.1 v hvl)
      have HOr := hid hok
      have c0 : wr.cell? ⟨b, off + j * 7, none⟩ = some (.int .u8 (v.what : Int)) := hcs 0 _ rfl
      have c1 : wr.cell? ⟨b, off + j * 7 + 1, none⟩ = some (.string v.a) := by rw [Nat.add_assoc]; exact hcs 1 _ rfl
      have c2 : wr.cell? ⟨b, off + j * 7 + 2, none⟩ = some (.string v.b) := by rw [Nat.add_assoc]; exact hcs 2 _ rfl
      have c3 : wr.cell? ⟨b, off + j * 7 + 3, none⟩ = some (.int .i64 v.n) := by rw [Nat.add_assoc]; exact hcs 3 _ rfl
      have c4 : wr.cell? ⟨b, off + j * 7 + 4, none⟩ = some (.slice v.dq v.dn v.dc) := by rw [Nat.add_assoc]; exact hcs 4 _ rfl
      have c5 : wr.cell? ⟨b, off + j * 7 + 5, none⟩ = some (.int .i64 v.dir) := by rw [Nat.add_assoc]; exact hcs 5 _ rfl
      have c6 : wr.cell? ⟨b, off + j * 7 + 6, none⟩ = some (.slice v.fq v.fn v.fc) := by rw [Nat.add_assoc]; exact hcs 6 _ rfl
      have i0 : (0 : Int) ≤ (j : Int) := by omega
      have i1 : (j : Int) < (len : Int) := by omega
      have hnn : n ≤ 480 := by omega
      have hwb := HOk.out.what
      obtain ⟨b', off', v', e1, hv', _, hbl', hcs'⟩ := HA.out.cells hlt
      cases e1
      rw [hv] at hv'
      cases hv'
      have HC1 := hid (show ∀ W, Below w.heap.size w W → W.cell? ⟨b, off + j * 7 + 1, none⟩ = some (.string v.a) from fun W hW => (hW.cell (p := ⟨b, off + j * 7 + 1, none⟩) hbl').trans (by rw [Nat.add_assoc]; exact hcs' 1 _ rfl))
      have HC3 := hid (show ∀ W, Below w.heap.size w W → W.cell? ⟨b, off + j * 7 + 3, none⟩ = some (.int .i64 v.n) from fun W hW => (hW.cell (p := ⟨b, off + j * 7 + 3, none⟩) hbl').trans (by rw [Nat.add_assoc]; exact hcs' 3 _ rfl))
      have HC5 := hid (show ∀ W, Below w.heap.size w W → W.cell? ⟨b, off + j * 7 + 5, none⟩ = some (.int .i64 v.dir) from fun W hW => (hW.cell (p := ⟨b, off + j * 7 + 5, none⟩) hbl').trans (by rw [Nat.add_assoc]; exact hcs' 5 _ rfl))
      have HC6 := hid (show ∀ W, Below w.heap.size w W → W.cell? ⟨b, off + j * 7 + 6, none⟩ = some (.slice v.fq v.fn v.fc) from fun W hW => (hW.cell (p := ⟨b, off + j * 7 + 6, none⟩) hbl').trans (by rw [Nat.add_assoc]; exact hcs' 6 _ rfl))
      clear hcs hv hB hok hvl hcs' hbl'
      go_upto_region 10 with fail
      go_cut [10] (fun t wc => t = .int .u8 ((v.what : Int) % 11) ∧ wr = wc)
      case first =>
        go_wp2
        go_meet
        exact ⟨rfl, rfl⟩
      obtain ⟨rfl, hwc⟩ := hcut
      subst hwc
      rename_i hK
      refine hK _ _ ?_
      clear hK
      refine wp_seq_k ?_
      intro K1 hK1
      go_cut [5, 6, 7, 8] (fun d e m f wd => ∃ (md' : DM) (mr' : RM) (s' : DS), d = .pointer (some ⟨md'.D, 0, none⟩) ∧ e = .int .i64 0 ∧ m = .pointer (some ⟨mr'.D, 0, none⟩) ∧ f = .int .i64 0 ∧ Two (fun _ => False) w wd md' s' mr' s' (n + 8))
      case first =>
        by_cases h9 : v.what % 11 < 9
        · have e9 : ((v.what : Int) % 11 == 9) = false := by simp; omega
          have e10 : ((v.what : Int) % 11 == 10) = false := by simp; omega
          as_aux_lemma =>
            go_wp2_with fail
            (with_reducible refine (does_any HT.out (by omega) v HOr.out hdn h9 (fun hd b off hq => ⟨fun h => h, HOk.out.d3.lt hq (by simpa using List.length_pos_iff.2 hd)⟩)).mono ?_)
            rintro e w3 ⟨md3, mr3, s3, rfl, hD3, hR3, hT3⟩
            have D3 := hid hD3
            have R3 := hid hR3
            have T3 := hid hT3
            clear hD3 hR3 hT3
            go_wp2_with fail
            go_meet
            exact ⟨md3, mr3, s3, by rw [D3.out], rfl, by rw [R3.out], rfl, T3.out.mono (by omega)⟩
        · clear c0 c1 c2 c3 c4 c5 c6
          as_aux_lemma =>
            go_upto_region 11 with fail
            go_cut [59] (fun t wc => t = .bool true ∧ wr = wc)
            case first =>
              by_cases hc : v.what % 11 = 9
              · have e9 : ((v.what : Int) % 11 == 9) = true := by simp; omega
                go_wp2
                go_meet
                exact ⟨rfl, rfl⟩
              · have e9 : ((v.what : Int) % 11 == 9) = false := by simp; omega
                have e10 : ((v.what : Int) % 11 == 10) = true := by simp; omega
                go_wp2
                go_meet
                exact ⟨rfl, rfl⟩
            obtain ⟨rfl, hwc⟩ := hcut
            subst hwc
            rename_i hK
            refine hK _ _ ?_
            clear hK
            go_wp2_with fail
            (with_reducible refine (HT.out.copyD (by omega)).mono ?_)
            rintro e w2 ⟨mo, rfl, hd2, hb2, hf2⟩
            have Hd2 := hid hd2
            have Hb2 := hid hb2
            have Hf2 := hid hf2
            clear hd2 hb2 hf2
            go_upto_region 15 with fail
            go_cut [7] (fun t7 wc => ∃ m' : RM, t7 = .pointer (some ⟨m'.D, 0, none⟩) ∧ TwoS w wr wc md s mr n mo m' s)
            case first =>
              go_wp2_with fail
              (with_reducible refine (HT.out.copyR Hb2.out (by omega)).mono ?_)
              rintro e w3 ⟨m', rfl, hb3, U, r', hr', hs', hu⟩
              have TS := hid (show TwoS w wr w3 md s mr n mo m' s from ⟨HT.out.copied Hd2.out Hb2.out Hf2.out hb3 hr' hs' hu, Hb2.out.trans (hb3.mono Hb2.out.size), Hf2.out⟩)
              clear hb3 hr' hs' hu
              go_wp2_with fail
              go_meet
              exact ⟨m', rfl, TS.out⟩
            obtain ⟨m', rfl, hTS⟩ := hcut
            have TS := hid hTS
            clear hTS
            rename_i hK
            refine hK _ _ ?_
            clear hK
            refine wp_seq_k ?_
            intro K2 hK2
            go_cut [5, 6, 7, 8] (fun d e m f wd => ∃ (mo : DM) (m' : RM) (s2 : DS), d = .pointer (some ⟨mo.D, 0, none⟩) ∧ e = .int .i64 0 ∧ m = .pointer (some ⟨m'.D, 0, none⟩) ∧ f = .int .i64 0 ∧ TwoS w wr wd md s mr n mo m' s2)
            case first =>
              by_cases hc : v.what % 11 = 9
              · have e9 : ((v.what : Int) % 11 == 9) = true := by simp; omega
                have c5 := HC5.out _ TS.out.two.belI
                have c6 := HC6.out _ TS.out.two.belI
                go_wp2_with fail
                (with_reducible refine ((HT.out.below' TS.out.bel).crashD (by omega) v.dir v.fq v.fn v.fc v.files HOk.out.f0 (HOk.out.f3.below TS.out.two.belI)).mono ?_)
                rintro e w4 ⟨mo4, rfl, hd4, hb4, hf4⟩
                have c5' := HC5.out _ (TS.out.two.below' hb4).belI
                have c6' := HC6.out _ (TS.out.two.below' hb4).belI
                have Hd4 := hid hd4
                have Hb4 := hid hb4
                have Hf4 := hid hf4
                clear hd4 hb4 hf4 c5 c6
                go_wp2_with fail
                (with_reducible refine (((HT.out.below' TS.out.bel).below' Hb4.out).crashR (by omega) v.dir v.fq v.fn v.fc v.files HOk.out.f0 (HOk.out.f3.below (TS.out.two.below' Hb4.out).belI)).mono ?_)
                rintro e w5 ⟨m5, rfl, hb5, r5, hr5, hs5⟩
                have T5 := hid ((HT.out.below' TS.out.bel).crashed v.dir v.files Hd4.out Hb4.out Hf4.out hb5 hr5 hs5)
                have TS5 := hid (show TwoS w wr w5 md s mr n mo4 m5 (crashS s v.dir v.files) from ⟨T5.out, (TS.out.bel.trans (Hb4.out.mono TS.out.bel.size)).trans (hb5.mono (Nat.le_trans TS.out.bel.size Hb4.out.size)), fun k hk => by have := Hf4.out k hk; have := TS.out.bel.size; omega⟩)
                clear hb5 hr5 hs5 T5 c5' c6'
                go_wp2_with fail
                go_meet
                exact ⟨mo4, m5, _, rfl, rfl, rfl, rfl, TS5.out⟩
              · have e9 : ((v.what : Int) % 11 == 9) = false := by simp; omega
                go_wp2_with fail
                go_meet
                exact ⟨mo, m', s, rfl, rfl, rfl, rfl, TS.out⟩
            clear TS Hd2 Hb2 Hf2
            obtain ⟨mo, m', s2, rfl, rfl, rfl, rfl, hTS⟩ := hcut
            have TS := hid hTS
            clear hTS
            refine hK2 _ _ ?_
            clear hK2
            have c1 := HC1.out _ TS.out.two.belI
            go_wp2_with fail
            (with_reducible refine (alike_any (HT.out.below' TS.out.bel) (by omega) v.a HOk.out.a (HP.out.below TS.out.two.belI (Nat.le_refl _))).mono ?_)
            rintro e w6 ⟨rfl, hb6⟩
            have T6 := hid (TS.out.two.below' hb6)
            have B6 := hid (TS.out.bel.trans (hb6.mono TS.out.bel.size))
            clear hb6 c1
            have c3 := HC3.out _ T6.out.belI
            by_cases h3 : v.n.tmod 3 = 0
            · have t3 : (v.n.tmod 3 == 0) = true := by simpa using h3
              clear h3
              go_wp2_with fail
              (with_reducible refine (T6.out.createD2 (B := wr.heap.size) (by omega) ⟨#[122, 122]⟩ zz_size TS.out.fp B6.out.size).mono ?_)
              rintro e w7 ⟨md7, rfl, hD7, hT7, hb7, hf7⟩
              have T7 := hid hT7
              have B7 := hid (B6.out.trans hb7)
              have F7 := hid hf7
              have D7 := hid hD7
              rw [← hD7]
              clear hD7 hT7 hb7 hf7 c3
              go_wp2_with fail
              (with_reducible refine (T7.out.appendD2 (B := wr.heap.size) ((Below.refl _ _).alloc (Nat.le_refl _) _) (by omega) ⟨#[122, 122]⟩ zz_size _ [1] 1 rfl (own_new w7 (.int .u8 1) 5) F7.out B7.out.size).mono ?_)
              rintro e w8 ⟨md8, rfl, hD8, hT8, hb8⟩
              have T8 := hid hT8
              have B8 := hid (B7.out.trans hb8)
              have D8 := hid hD8
              clear hD8 hT8 hb8
              go_wp2_with fail
              (with_reducible refine (alike_any (HT.out.below' B8.out) (by omega) ⟨#[122, 122]⟩ zz_size (HP.out.below T8.out.belI (Nat.le_refl _))).mono ?_)
              rintro e w9 ⟨rfl, hb9⟩
              have T9 := hid (T8.out.below' hb9)
              clear hb9
              go_wp2_with fail
              (with_reducible refine (T9.out.createR (by omega) ⟨#[122, 122]⟩ zz_size).mono ?_)
              rintro e w10 ⟨mr10, rfl, hR10, hT10⟩
              have T10 := hid hT10
              have R10 := hid hR10
              rw [← hR10]
              clear hR10 hT10
              go_wp2_with fail
              (with_reducible refine (T10.out.appendR' ((Below.refl _ _).alloc (Nat.le_refl _) _) (by omega) ⟨#[122, 122]⟩ zz_size _ [1] 1 rfl (own_new w10 (.int .u8 1) 5) (by omega)).mono ?_)
              rintro e w11 ⟨mr11, rfl, hR11, hT11⟩
              have T11 := hid hT11
              have R11 := hid hR11
              clear hR11 hT11
              go_wp2_with fail
              go_meet
              exact ⟨md8, mr11, _, by rw [D8.out, D7.out], rfl, by rw [R11.out, R10.out], rfl, T11.out.mono (by omega)⟩
            · have t3 : (v.n.tmod 3 == 0) = false := by simpa using h3
              clear h3
              go_wp2_with fail
              go_meet
              exact ⟨mo, m', s2, rfl, rfl, rfl, rfl, T6.out.mono (by omega)⟩
      obtain ⟨md', mr', s', rfl, rfl, rfl, rfl, T'⟩ := hcut
      have HT2 := hid T'
      have c1' := HC1.out _ T'.belI
      clear T' c0 c1 c2 c3 c4 c5 c6 HOr HC1 HC3 HC5 HC6
      refine hK1 _ _ ?_
      clear hK1
      as_aux_lemma =>
        go_wp2_with fail
        (with_reducible refine (alike_any HT2.out (by omega) v.a HOk.out.a (HP.out.below HT2.out.belI (Nat.le_refl _))).mono ?_)
        rintro e w9 ⟨rfl, hb9⟩
        have T9 := hid (HT2.out.below' hb9)
        clear hb9
        go_wp2_with fail
        go_roundw
        case rel => exact ⟨j + 1, md', mr', s', n + 8, rfl, rfl, rfl, rfl, by go_num, by omega, by omega, T9.out⟩
        case measure => simp [intOf]; omega
    · have hjN : j = len := by omega
      have bl : decide ((j : Int) < (len : Int)) = false := by simp; omega
      go_wp2_with fail
      (with_reducible refine (lives4_any wr).mono ?_)
      rintro e w4 ⟨rfl, hB4⟩
      have HB4 := hid (HB.out.trans (hB4.mono HB.out.size))
      clear hB4
      go_wp2_with fail
      go_ret
      exact ⟨rfl, HB4.out⟩
end Go.Proofs.Herb
