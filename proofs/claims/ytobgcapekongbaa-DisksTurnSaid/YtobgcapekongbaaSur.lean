/- The contract of DisksSure: it answers true. For acts, and a loss, that can be read. -/
import Derived.Test.YtobgcapekongbaaSurP
import Derived.Test.YtobgcapekongbaaLiv4
namespace Go.Proofs.Herb
open Go.RowKit Go.Sort
theorem infoInt : (Try.prog.info? 3).map (fun i => (i.zero, i.size, i.bytes)) = some (some (.int .i64 0), 1, 8) := by kernel_rfl
theorem replicate_snoc {α : Type} (j : Nat) (x : α) : List.replicate (j + 1) x = List.replicate j x ++ [x] := by
  rw [List.replicate_succ']
theorem sure_ok {room : Int} (h0 : 0 ≤ room) (h1 : room ≤ 4194304) {l : List ActV} (hl : l.length ≤ 40) : DsOk (playS (newS room) l) 80 := ((DsOk.new h0 h1).play l).mono (by omega)
/-- a loss in memory -/
theorem loss_cells {w : World} {L : Nat} {dir : Int} {fa : Option Addr} {fn fc : Nat} (h : w.heap[L]? = some (.cells #[.int .i64 dir, .slice fa fn fc] 25 (0, 0))) : w.cell? ⟨L, 0, none⟩ = some (.int .i64 dir) ∧ w.cell? ⟨L, 1, none⟩ = some (.slice fa fn fc) :=
  ⟨cell_of_row w L 0 _ _ _ h, cell_of_row w L 1 _ _ _ h⟩
theorem below_on {B : Nat} {a w w' : World} (h : Below B a w) (hB : B ≤ a.heap.size) (k : Below w.heap.size w w') : Below B a w' := h.trans (k.mono (Nat.le_trans hB h.size))
theorem keysOf {s : DS} {n : Nat} (h : DsOk s n) (hn : n ≤ 1000000000) : DirKeys s.names s.nclock := h.good.keysOk (Nat.le_trans h.files hn) hn
set_option maxRecDepth 100000 in
set_option maxHeartbeats 6400000 in
theorem disksSure_small (a : Option Addr) (len cap : Nat) (l : List ActV) (dir : Int) (fa : Option Addr) (fn fc : Nat) (fl : List Int) (w : World) (h : ActsAt w a len l) (hn : fl.length = fn) (hr : Rd w fa (fl.map (Value.int .i64))) (hlen : len ≤ 40) :
    Calls Try.prog 3 #[.slice a len cap, .agg #[.int .i64 dir, .slice fa fn fc]] w fun e w' => e = .returned (.bool true) ∧ Below w.heap.size w w' := by
  have hO := sure_ok (room := 1048576) (by decide) (by decide) (l := l) (by rw [h.1]; exact hlen)
  have hF := (Free.new 1048576).play l
  obtain ⟨S, hS⟩ : ∃ S, S = playS (newS 1048576) l := ⟨_, rfl⟩
  rw [← hS] at hO hF
  obtain ⟨N, hN⟩ : ∃ N, N = (sortedK S.names).length := ⟨_, rfl⟩
  have hN80 : N ≤ 80 := by rw [hN]; exact sorted_many hO
  obtain ⟨w0, hw0, hL, hA⟩ : ∃ w0, w0 = w.alloc (.cells #[.int .i64 dir, .slice fa fn fc] 25) ∧ w0.heap[w.heap.size]? = some (.cells #[.int .i64 dir, .slice fa fn fc] 25 (0, 0)) ∧ Below w.heap.size w w0 := ⟨_, rfl, heap_alloc_new _ _, (Below.refl w.heap.size w).alloc (Nat.le_refl _) _⟩
  have H := hid (h.below hA)
  have Hn := hid hn
  have Hr := hid (hr.below hA)
  have O := hid hO
  have F := hid hF
  have HS := hid hS
  have HL := hid hL
  have HA := hid hA
  have HN := hid hN
  have HW := hid hw0
  have b1 : decide ((40 : Int) < (len : Int)) = false := by simp; omega
  clear h hn hr hO hF hS hL hA hN hw0
  go_enter Try.func3, Try.ntmps3
  go_wp2_with fail
  rw [← HW.out]
  refine (played_any 1048576 (by decide) (by decide) a len cap l w0 H.out (by omega)).mono ?_
  rintro e w1 ⟨m, rfl, hD, hB, hFp⟩
  rw [← HS.out] at hD
  have HD := hid hD
  have HB := hid hB
  have HFp := hid hFp
  clear hD hB hFp
  go_wp2_with fail
  go_loopw [6, 7] (fun v i wr => ∃ (j : Nat), i = .int .i64 j ∧ j ≤ N ∧ Below w1.heap.size w1 wr ∧ wr.ownsRow w1.heap.size 3 1 v j (List.replicate j (.int .i64 1073741824))) (fun _ i _ => N - (intOf i).toNat)
  case atStart => exact ⟨0, rfl, Nat.zero_le _, Below.refl _ _, World.ownsRow_nil _ _ _ _⟩
  case round =>
    obtain ⟨j, rfl, hj, hb, hown⟩ := hrel
    have Hb := hid hb
    obtain ⟨q, c, rfl, hqc, hcm, hqn⟩ := own_shape hown
    have Hown := hid hown
    clear hb hown hqn
    go_wp2_with fail
    refine (list_any m S wr (HD.out.below Hb.out) (keysOf O.out (by decide))).mono ?_
    rintro e w2 ⟨q2, rfl, _, hB2⟩
    rw [← HN.out]
    have HB2 := hid hB2
    clear hB2
    by_cases hlt : j < N
    · go_wp2_with (refine wpList_append_rd rfl (.tmp 33) (.tmp 34) 23 rfl w1.heap.size 3 _ 1 8 Try.underlying23 infoInt rfl (by decide) (.slice q j c) j (List.replicate j (.int .i64 1073741824)) rfl (own_below Hown.out (HB2.out.alloc HB2.out.size _)) (some ⟨w2.heap.size, 0, none⟩) 1 1 [.int .i64 1073741824] rfl (fun h => by cases h) rfl (Rd.new _ _ _) (by simp [Value.oneCell']) (by unfold maxLen; omega) (by omega) (by simp; exact Nat.le_trans Hb.out.size (Nat.le_trans HB2.out.size (Nat.le_succ _))) ?_; intro v3 w3 hown3 hg3 _)
      go_roundw
      case rel =>
        refine ⟨j + 1, by go_num, by omega, ?_, ?_⟩
        · exact ((Hb.out.trans (HB2.out.mono Hb.out.size)).alloc (Nat.le_trans Hb.out.size HB2.out.size) _).grown hg3 (by simp; exact Nat.le_trans Hb.out.size (Nat.le_trans HB2.out.size (Nat.le_succ _))) (fun k hk => (Hown.out.lt k hk).1)
        · rw [replicate_snoc]; exact hown3
      case measure => simp [intOf]; omega
    · have hjN : j = N := by omega
      have hown2 := own_below Hown.out HB2.out
      rw [hjN] at hown2 hqc ⊢
      have HM := hid (HD.out.below (below_on Hb.out (Nat.le_refl _) HB2.out))
      have HB3 := hid (below_on HB.out (Nat.le_refl _) (below_on Hb.out (Nat.le_refl _) HB2.out))
      have hrq : Rd w2 q ((List.replicate N (1073741824 : Int)).map (Value.int .i64)) := by
        rw [List.map_replicate]; exact (Fr.of_own hown2).rd
      have Hrq := hid hrq
      clear hown2 hrq Hown Hb HB2 HB HD hlt hjN hj
      go_wp2_with fail
      refine (crash_any m S 1073741824 q N c (List.replicate N 1073741824) w2 HM.out (by simp) Hrq.out (Nat.le_trans O.out.changes (by decide)) (O.out.crashOk (by decide) _ _)).mono ?_
      rintro e w3 ⟨ma, rfl, hX, hB4, _⟩
      have HXa := hid hX
      have HM := hid (HM.out.below hB4)
      have HB3 := hid (below_on HB3.out (Nat.le_refl _) hB4)
      clear hX hB4 Hrq
      obtain ⟨c0, c1⟩ := loss_cells ((HB3.out.block _ (lt_of_block HL.out)).trans HL.out)
      go_wp2_with fail
      refine (crash_any m S dir fa fn fc fl w3 HM.out Hn.out (Hr.out.below HB3.out) (Nat.le_trans O.out.changes (by decide)) (O.out.crashOk (by decide) _ _)).mono ?_
      rintro e w4 ⟨ms, rfl, hX, hB4, _⟩
      have HXs := hid hX
      have HXa := hid (HXa.out.below hB4)
      have HM := hid (HM.out.below hB4)
      have HB3 := hid (below_on HB3.out (Nat.le_refl _) hB4)
      clear hX hB4 c0 c1
      go_wp2_with fail
      refine (same_true ma m (crashS S 1073741824 (List.replicate N 1073741824)) S 80 80 w4 HXa.out HM.out (O.out.crash _ _) O.out (by decide) (by decide) (crash_nothing O.out F.out.dead _ _ N (by have := O.out.changes; omega) (by decide) (by rw [← HN.out]; exact Nat.le_refl _))).mono ?_
      rintro e w5 ⟨rfl, hB5⟩
      have HXs := hid (HXs.out.below hB5)
      have HM := hid (HM.out.below hB5)
      have HB3 := hid (below_on HB3.out (Nat.le_refl _) hB5)
      clear hB5 HXa
      go_wp2_with fail
      refine (dir_any ms (crashS S dir fl) w5 HXs.out).mono ?_
      rintro e w' ⟨rfl, rfl⟩
      rw [show ((crashS S dir fl).changes.length : Int) = 0 from by rw [(crash_flags O.out dir fl).1]; rfl]
      go_wp2_with fail
      refine (crash_any ms (crashS S dir fl) 0 none 0 0 [] w5 HXs.out rfl (.inl rfl) (Nat.le_trans (O.out.crash dir fl).changes (by decide)) ((O.out.crash dir fl).crashOk (by decide) _ _)).mono ?_
      rintro e w6 ⟨mg, rfl, hX, hB5, _⟩
      have HXg := hid hX
      have HXs := hid (HXs.out.below hB5)
      have HM := hid (HM.out.below hB5)
      have HB3 := hid (below_on HB3.out (Nat.le_refl _) hB5)
      clear hX hB5
      go_wp2_with fail
      refine (same_true mg ms (crashS (crashS S dir fl) 0 []) (crashS S dir fl) 80 80 w6 HXg.out HXs.out ((O.out.crash _ _).crash _ _) (O.out.crash _ _) (by decide) (by decide) (crash_again O.out dir fl 0 [])).mono ?_
      rintro e w7 ⟨rfl, hB5⟩
      have HM := hid (HM.out.below hB5)
      have HB3 := hid (below_on HB3.out (Nat.le_refl _) hB5)
      clear hB5 HXg HXs
      go_wp2_with fail
      refine (list_any m S w7 HM.out (keysOf O.out (by decide))).mono ?_
      rintro e w8 ⟨q8, rfl, hF8, hB5⟩
      rw [← HN.out] at hF8 ⊢
      have hq8 : ∀ nb off, q8 = some ⟨nb, off, none⟩ → nb ∉ m.fp := fun nb off e h => by
        have h1 := HM.out.lt nb h
        have h2 := fr_base hF8 e
        omega
      have HF8 := hid hF8.rd
      have HQ8 := hid hq8
      have HM := hid (HM.out.below hB5)
      have HB3 := hid (below_on HB3.out (Nat.le_refl _) hB5)
      clear hB5 hF8 hq8
      obtain ⟨NL, hNL⟩ : ∃ NL, NL = (sortedK S.names).map ofL := ⟨_, rfl⟩
      have hNLn : NL.length = N := by rw [hNL, List.length_map, ← HN.out]
      have HNL := hid hNL
      have HNLn := hid hNLn
      clear hNL hNLn
      go_wp2_with fail
      go_loopw [15] (fun i wr => ∃ (j : Nat), i = .int .i64 j ∧ j ≤ N ∧ DiskAt wr m (syncAll S (NL.take j)) ∧ Below w0.heap.size w0 wr ∧ Rd wr q8 ((sortedK S.names).map encStr)) (fun i _ => N - (intOf i).toNat)
      case atStart => exact ⟨0, rfl, Nat.zero_le _, HM.out, HB3.out, HF8.out⟩
      case round =>
        obtain ⟨k, rfl, hk, hd, hb, hq⟩ := hrel
        have HD := hid hd
        have HB := hid hb
        have HQ := hid hq
        clear hd hb hq
        obtain ⟨ox, fx, nx, sx, cx⟩ := syncAll_facts (NL.take k) O.out F.out (fun q hq => by rw [← HNL.out]; exact List.mem_of_mem_take hq)
        have OX := hid ox
        have FX := hid fx
        have NX := hid nx
        clear ox fx nx sx cx
        by_cases hlt : k < N
        · obtain ⟨b1, o1, kk, rfl, hc1, hkk⟩ := names_at HQ.out (by rw [← HN.out]; exact hlt)
          rw [← HNL.out] at hkk
          have i1 : (0 : Int) ≤ (k : Int) := by omega
          have i2 : (k : Int) < (N : Int) := by omega
          have hkm : kk ∈ (sortedK (syncAll S (NL.take k)).names).map ofL := by rw [NX.out, ← HNL.out]; exact List.mem_of_getElem? hkk
          have hk0 := (sorted_at OX.out FX.out.dead hkm).1
          have hks := knownE_size hk0
          have HKK := hid hkk
          clear hkk hkm hk0
          go_wp2_with fail
          refine (sync_any m (syncAll S (NL.take k)) kk hks wr HD.out OX.out.good.ok OX.out.f0 OX.out.f1).mono ?_
          rintro e w9 ⟨rfl, hd9, hm9⟩
          have HD9 := hid hd9
          have HM9 := hid hm9
          have hfr := hm9.fresh (B := w0.heap.size) HB.out.size HFp.out
          have HFr := hid hfr
          clear hd9 hm9 hfr
          go_wp2_with fail
          go_roundw
          case rel =>
            refine ⟨k + 1, by go_num, by omega, ?_, HB.out.trans HFr.out.2, HQ.out.mod HM9.out HQ8.out⟩
            rw [List.take_succ_eq_append_getElem (by rw [HNLn.out]; exact hlt), syncAll_snoc, (List.getElem?_eq_some_iff.1 HKK.out).2]
            exact HD9.out
          case measure => simp [intOf]; omega
        · have hkN : k = N := by omega
          have hd := HD.out
          rw [hkN, List.take_of_length_le (by rw [HNLn.out]; exact Nat.le_refl _), HNL.out] at hd
          have HD := hid hd
          clear hd HQ OX FX NX
          obtain ⟨ox, fx, nx, sx, cx⟩ := syncAll_facts ((sortedK S.names).map ofL) O.out F.out (fun q hq => hq)
          have OX := hid ox
          have FX := hid fx
          clear ox fx nx sx cx
          obtain ⟨Z, hZ⟩ : ∃ Z, Z = syncAll S ((sortedK S.names).map ofL) := ⟨_, rfl⟩
          have hcs := crash_sure O.out F.out dir fl
          rw [← hZ] at HD OX FX hcs
          have HCS := hid hcs
          clear hZ hcs
          go_wp2_with fail
          refine (syncDir_any m Z wr HD.out OX.out.f0 OX.out.f1).mono ?_
          rintro e w9 ⟨m9, rfl, hd9, hm9, hM9⟩
          rw [FX.out.syncDirE.2] at hd9
          rw [FX.out.syncDirE.1, ← hm9]
          have HD9 := hid hd9
          have hfr := hM9.fresh (B := w0.heap.size) HB.out.size HFp.out
          have HB9 := hid (HB.out.trans hfr.2)
          clear hd9 hm9 hM9 hfr
          obtain ⟨c0, c1⟩ := loss_cells ((HB9.out.block _ (lt_of_block HL.out)).trans HL.out)
          go_wp2_with fail
          refine (crash_any m9 (syncDirS Z) dir fa fn fc fl w9 HD9.out Hn.out (Hr.out.below HB9.out) (Nat.zero_le _) (OX.out.synced.crashOk (by decide) _ _)).mono ?_
          rintro e w10 ⟨mz, rfl, hX, hB5, _⟩
          have HXz := hid hX
          have HD9 := hid (HD9.out.below hB5)
          have HB9 := hid (below_on HB9.out (Nat.le_refl _) hB5)
          clear hX hB5 c0 c1
          go_wp2_with fail
          refine (same_true mz m9 (crashS (syncDirS Z) dir fl) (syncDirS Z) 80 80 w10 HXz.out HD9.out (OX.out.synced.crash _ _) OX.out.synced (by decide) (by decide) HCS.out).mono ?_
          rintro e w11 ⟨rfl, hB5⟩
          have HD9 := hid (HD9.out.below hB5)
          have HB9 := hid (below_on HB9.out (Nat.le_refl _) hB5)
          clear hB5 HXz
          go_wp2_with fail
          refine (dir_any m9 (syncDirS Z) w11 HD9.out).mono ?_
          rintro e w' ⟨rfl, rfl⟩
          rw [show ((syncDirS Z).changes.length : Int) = 0 from rfl]
          go_wp2_with fail
          refine (lives4_any w11).mono ?_
          rintro e w12 ⟨rfl, hB5⟩
          go_wp2_with fail
          go_ret
          exact ⟨rfl, HA.out.trans ((below_on HB9.out (Nat.le_refl _) hB5).mono HA.out.size)⟩
set_option maxRecDepth 100000 in
theorem disksSure_any (a : Option Addr) (len cap : Nat) (l : List ActV) (dir : Int) (fa : Option Addr) (fn fc : Nat) (fl : List Int) (w : World) (h : ActsAt w a len l) (hn : fl.length = fn) (hr : Rd w fa (fl.map (Value.int .i64))) (hlen' : len ≤ 9223372036854775807) :
    Calls Try.prog 3 #[.slice a len cap, .agg #[.int .i64 dir, .slice fa fn fc]] w fun e w' => e = .returned (.bool true) ∧ Below w.heap.size w w' := by
  by_cases hlen : len ≤ 40
  · exact disksSure_small a len cap l dir fa fn fc fl w h hn hr hlen
  · have b1 : decide ((40 : Int) < (len : Int)) = true := by simp; omega
    clear h hn hr hlen
    go_enter Try.func3, Try.ntmps3
    go_wp2_with fail
    refine (lives4_any _).mono ?_
    rintro e w12 ⟨rfl, hB5⟩
    go_wp2_with fail
    go_ret
    exact ⟨rfl, below_on ((Below.refl w.heap.size w).alloc (Nat.le_refl _) _) (Nat.le_refl _) hB5⟩
end Go.Proofs.Herb
