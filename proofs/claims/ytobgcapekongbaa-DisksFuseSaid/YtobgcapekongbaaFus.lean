/- The contract of DisksFuse: it answers true. For acts that can be read. -/
import Derived.Test.YtobgcapekongbaaFusP
import Derived.Test.YtobgcapekongbaaSur
namespace Go.Proofs.Herb
open Go.RowKit Go.Sort
set_option maxRecDepth 100000 in
set_option maxHeartbeats 800000 in
theorem long_any (z : Int) (N : Nat) (hN : N ≤ 1000) (w : World) :
    Calls Try.prog 27 #[.int .i64 z, .int .i64 (N : Int)] w fun e w' => ∃ q c, e = .returned (.slice q N c) ∧ Rd w' q ((List.replicate N z).map (Value.int .i64)) ∧ Below w.heap.size w w' := by
  go_enter Try.func27, Try.ntmps27
  go_wp2_with fail
  go_loopw [5, 6] (fun v i wr => ∃ (j : Nat), i = .int .i64 j ∧ j ≤ N ∧ Below w.heap.size w wr ∧ wr.ownsRow w.heap.size 3 1 v j (List.replicate j (.int .i64 z))) (fun _ i _ => N - (intOf i).toNat)
  case atStart => exact ⟨0, rfl, Nat.zero_le _, Below.refl _ _, World.ownsRow_nil _ _ _ _⟩
  case round =>
    obtain ⟨j, rfl, hj, hb, hown⟩ := hrel
    have Hb := hid hb
    obtain ⟨q, c, rfl, hqc, hcm, hqn⟩ := own_shape hown
    have Hown := hid hown
    clear hb hown hqn
    by_cases hlt : j < N
    · go_wp2_with (refine wpList_append_rd rfl (.tmp 12) (.tmp 14) 23 rfl w.heap.size 3 _ 1 8 Try.underlying23 infoInt rfl (by decide) (.slice q j c) j (List.replicate j (.int .i64 z)) rfl (own_below Hown.out ((Below.refl _ _).alloc (Nat.le_refl _) _)) (some ⟨wr.heap.size, 0, none⟩) 1 1 [.int .i64 z] rfl (fun h => by cases h) rfl (Rd.new _ _ _) (by simp [Value.oneCell']) (by unfold maxLen; omega) (by omega) (by simp; exact Nat.le_trans Hb.out.size (Nat.le_succ _)) ?_; intro v3 w3 hown3 hg3 _)
      go_roundw
      case rel =>
        refine ⟨j + 1, by go_num, by omega, ?_, ?_⟩
        · exact (Hb.out.alloc Hb.out.size _).grown hg3 (by simp; exact Nat.le_trans Hb.out.size (Nat.le_succ _)) (fun k hk => (Hown.out.lt k hk).1)
        · rw [replicate_snoc]; exact hown3
      case measure => simp [intOf]; omega
    · have hjN : j = N := by omega
      go_wp2
      go_ret
      refine ⟨q, c, by rw [← hjN]; rfl, ?_, Hb.out⟩
      rw [List.map_replicate, ← hjN]
      exact (Fr.of_own Hown.out).rd
/-- another disk's blocks stay -/
theorem DiskAt.apart {w w' : World} {m m1 m1' : DM} {s : DS} (h : DiskAt w m s) (hm : Mod m1.fp m1'.fp w w') (hd : ∀ k, k ∈ m1.fp → k ∉ m.fp) : DiskAt w' m s :=
  h.keep fun k hk => hm.block k (h.lt k hk) fun h1 => hd k h1 hk
theorem apart_next {w w' : World} {m m1 m1' : DM} {s : DS} (h : DiskAt w m s) (hm : Mod m1.fp m1'.fp w w') (hd : ∀ k, k ∈ m1.fp → k ∉ m.fp) : ∀ k, k ∈ m1'.fp → k ∉ m.fp := fun k hk hmk => by
  rcases hm.grow k hk with h1 | h1
  · exact hd k h1 hmk
  · have := h.lt k hmk; omega
theorem apart_symm {m m1 : DM} (hd : ∀ k, k ∈ m1.fp → k ∉ m.fp) : ∀ k, k ∈ m.fp → k ∉ m1.fp := fun k hk h => hd k h hk
/-- the two disks -/
structure Two (w wr : World) (Da Db : Nat) (ma mb : DM) (A B : DS) (n : Nat) : Prop where
  a : DiskAt wr ma A
  b : DiskAt wr mb B
  da : ma.D = Da
  db : mb.D = Db
  ok : DsOk B n
  free : Free B
  apart : ∀ k, k ∈ ma.fp → k ∉ mb.fp
  fa : ∀ k, k ∈ ma.fp → w.heap.size ≤ k
  fb : ∀ k, k ∈ mb.fp → w.heap.size ≤ k
  below : Below w.heap.size w wr
theorem Two.turnA {w wr w' : World} {Da Db : Nat} {ma mb ma' : DM} {A B A' : DS} {n : Nat} (h : Two w wr Da Db ma mb A B n) (hd : DiskAt w' ma' A') (hD : ma'.D = ma.D) (hm : Mod ma.fp ma'.fp wr w') : Two w w' Da Db ma' mb A' B n :=
  have hf := hm.fresh (B := w.heap.size) h.below.size h.fa
  ⟨hd, h.b.apart hm h.apart, hD.trans h.da, h.db, h.ok, h.free, apart_next h.b hm h.apart, hf.1, h.fb, h.below.trans hf.2⟩
theorem Two.turnB {w wr w' : World} {Da Db : Nat} {ma mb mb' : DM} {A B B' : DS} {n n' : Nat} (h : Two w wr Da Db ma mb A B n) (hd : DiskAt w' mb' B') (hD : mb'.D = mb.D) (hm : Mod mb.fp mb'.fp wr w') (ho : DsOk B' n') (hfr : Free B') : Two w w' Da Db ma mb' A B' n' :=
  have hf := hm.fresh (B := w.heap.size) h.below.size h.fb
  ⟨h.a.apart hm (apart_symm h.apart), hd, h.da, hD.trans h.db, ho, hfr, apart_symm (apart_next h.a hm (apart_symm h.apart)), h.fa, hf.1, h.below.trans hf.2⟩
theorem Two.quiet {w wr w' : World} {Da Db : Nat} {ma mb : DM} {A B : DS} {n : Nat} (h : Two w wr Da Db ma mb A B n) (hb : Below wr.heap.size wr w') : Two w w' Da Db ma mb A B n :=
  ⟨h.a.below hb, h.b.below hb, h.da, h.db, h.ok, h.free, h.apart, h.fa, h.fb, below_on h.below (Nat.le_refl _) hb⟩
theorem Two.mono {w wr : World} {Da Db : Nat} {ma mb : DM} {A B : DS} {n n' : Nat} (h : Two w wr Da Db ma mb A B n) (hn : n ≤ n') : Two w wr Da Db ma mb A B n' :=
  ⟨h.a, h.b, h.da, h.db, h.ok.mono hn, h.free, h.apart, h.fa, h.fb, h.below⟩
set_option maxRecDepth 100000 in
set_option maxHeartbeats 6400000 in
theorem disksFuse_small (a : Option Addr) (len cap : Nat) (l : List ActV) (n : Nat) (hn : n < 256) (w : World) (h : ActsAt w a len l) (hlen : len ≤ 40) :
    Calls Try.prog 6 #[.slice a len cap, .int .u8 (n : Int)] w fun e w' => e = .returned (.bool true) ∧ Below w.heap.size w w' := by
  have H := hid h
  have b1 : decide ((40 : Int) < (len : Int)) = false := by simp; omega
  clear h
  go_enter Try.func6, Try.ntmps6
  go_wp2_with fail
  refine (new_any 1048576 (by decide) (by decide) w).mono ?_
  rintro e w1 ⟨rfl, hD1, hB1⟩
  obtain ⟨m1, hm1⟩ : ∃ m, m = newM w.heap.size := ⟨_, rfl⟩
  have hf1 : ∀ k, k ∈ m1.fp → w.heap.size ≤ k := by rw [hm1]; exact newM_fresh _
  rw [← hm1] at hD1 ⊢
  have HD1 := hid hD1
  have HB1 := hid hB1
  have HF1 := hid hf1
  clear hD1 hB1 hm1 hf1
  go_wp2_with fail
  refine (new_any 1048576 (by decide) (by decide) w1).mono ?_
  rintro e w2 ⟨rfl, hD2, hB2⟩
  obtain ⟨m2, hm2⟩ : ∃ m, m = newM w1.heap.size := ⟨_, rfl⟩
  have hf2 : ∀ k, k ∈ m2.fp → w1.heap.size ≤ k := by rw [hm2]; exact newM_fresh _
  rw [← hm2] at hD2 ⊢
  have hT : Two w w2 m1.D m2.D m1 m2 (newS 1048576) (newS 1048576) 0 := ⟨HD1.out.below hB2, hD2, rfl, rfl, DsOk.new (by decide) (by decide), Free.new _, fun k h1 h2 => by have := HD1.out.lt k h1; have := hf2 k h2; omega, HF1.out, fun k hk => Nat.le_trans HB1.out.size (hf2 k hk), below_on HB1.out (Nat.le_refl _) hB2⟩
  have HT := hid hT
  clear hD2 hB2 hm2 hf2 hT HD1 HB1 HF1
  go_wp2_with fail
  refine (fuseI_any m1 (newS 1048576) (n : Int) w2 HT.out.a).mono ?_
  rintro e w3 ⟨rfl, hd, hm⟩
  rw [show fuseE (n : Int) = 0 from if_neg (by omega)]
  have hst : fuseS (newS 1048576) (n : Int) = withF (newS 1048576) (n : Int) false := if_neg (by omega)
  rw [hst] at hd
  have HT := hid (HT.out.turnA hd rfl hm)
  obtain ⟨Da, hDa⟩ : ∃ D, D = m1.D := ⟨_, rfl⟩
  obtain ⟨Db, hDb⟩ : ∃ D, D = m2.D := ⟨_, rfl⟩
  rw [← hDa, ← hDb] at HT ⊢
  clear hd hm hst hDa hDb
  go_wp2_with fail
  go_loopw [9, 10] (fun v i wr => ∃ (j : Nat) (ma mb : DM) (B : DS) (L : Nat) (d : Bool), v = .int .i64 (L : Int) ∧ i = .int .i64 j ∧ j ≤ len ∧ L ≤ 255 ∧ Two w wr Da Db ma mb (withF B (if d then 0 else (L : Int)) d) B (2 * j)) (fun _ i _ => len - (intOf i).toNat)
  case atStart => exact ⟨0, m1, m2, newS 1048576, n, false, rfl, rfl, Nat.zero_le _, by omega, HT.out⟩
  case round =>
    obtain ⟨j, ma, mb, B, L, d, rfl, rfl, hj, hL, hT⟩ := hrel
    have HT := hid hT
    clear hT
    by_cases hlt : j < len
    · obtain ⟨b, off, v, rfl, hv, hok, hbl, hc⟩ := H.out.cells hlt
      have i1 : (0 : Int) ≤ (j : Int) := by omega
      have i2 : (j : Int) < (len : Int) := by omega
      have hcc := fun (w' : World) (hB : Below w.heap.size w w') (i : Nat) u (hu : v.cells[i]? = some u) => (hB.cell (p := ⟨b, off + (j * 7 + i), none⟩) hbl).trans (hc i u hu)
      have HCC := hid hcc
      have c0 : wr.cell? ⟨b, off + j * 7, none⟩ = _ := hcc wr HT.out.below 0 _ rfl
      have c1 : wr.cell? ⟨b, off + j * 7 + 1, none⟩ = _ := hcc wr HT.out.below 1 _ rfl
      have c2 : wr.cell? ⟨b, off + j * 7 + 2, none⟩ = _ := hcc wr HT.out.below 2 _ rfl
      have c3 : wr.cell? ⟨b, off + j * 7 + 3, none⟩ = _ := hcc wr HT.out.below 3 _ rfl
      have c4 : wr.cell? ⟨b, off + j * 7 + 4, none⟩ = _ := hcc wr HT.out.below 4 _ rfl
      have c5 : wr.cell? ⟨b, off + j * 7 + 5, none⟩ = _ := hcc wr HT.out.below 5 _ rfl
      have c6 : wr.cell? ⟨b, off + j * 7 + 6, none⟩ = _ := hcc wr HT.out.below 6 _ rfl
      have HV := hid hok
      clear hcc hc hv hok
      have hfu : -1 ≤ (if d then 0 else (L : Int)) ∧ (if d then 0 else (L : Int)) ≤ 9223372036854775807 := by cases d <;> simp <;> omega
      have HOA := hid (withF_ok HT.out.ok hfu.1 hfu.2 d)
      have da := HT.out.da
      have db := HT.out.db
      subst da
      subst db
      clear hfu
      go_wp2_with fail
      refine (changes_any ma (withF B (if d then 0 else (L : Int)) d) (2 * j) v wr HT.out.a HOA.out (by omega) (HV.out.below HT.out.below) (HV.out.apart HT.out.fa)).mono ?_
      rintro e w4 ⟨ma', rfl, hd4, hD4, hm4⟩
      have HT4 := hid (HT.out.turnA hd4 hD4 hm4)
      clear hd4 hm4 c0 c1 c2 c3 c4 c5 c6 HOA
      have HD4 := hid hD4
      clear hD4
      by_cases hk : v.what % 11 < 6
      · rw [decide_eq_true hk]
        cases d with
        | true =>
          rw [show (if true = true then (0 : Int) else (L : Int)) = 0 from rfl] at HT4 ⊢
          obtain ⟨e1, e2⟩ := dead_step (s := withF B 0 true) rfl hk
          rw [e2] at HT4
          rw [e1]
          clear e1 e2
          go_wp2_with fail
          rw [← HD4.out]
          refine (blown_any ma' _ w4 HT4.out.a).mono ?_
          rintro e w' ⟨rfl, rfl⟩
          rw [HD4.out]
          rw [show (withF B 0 true).dead = true from rfl]
          go_wp2_with fail
          go_roundw
          case rel => exact ⟨j + 1, ma', mb, B, L, true, rfl, by go_num, by omega, hL, HT4.out.mono (by omega)⟩
          case measure => simp [intOf]; omega
        | false =>
          rw [show (if false = true then (0 : Int) else (L : Int)) = (L : Int) from rfl] at HT4 ⊢
          have hfs := (fuse_step HT.out.free (left := (L : Int)) (by omega) hk).step
          rcases hfs with ⟨e1, e2, e3, e4⟩ | ⟨e1, e2, e3, e4⟩ | ⟨e1, e2, e3, e4⟩
          · rw [e4] at HT4
            rw [e3]
            have E1 := hid e1
            clear e1 e3 e4
            go_wp2_with fail
            rw [← HD4.out]
            refine (blown_any ma' _ w4 HT4.out.a).mono ?_
            rintro e w' ⟨rfl, rfl⟩
            rw [HD4.out]
            rw [show (withF (actS B v) ((L : Int) - 1) false).dead = false from rfl]
            have c0 : w4.cell? ⟨b, off + j * 7, none⟩ = _ := HCC.out w4 HT4.out.below 0 _ rfl
            have c1 : w4.cell? ⟨b, off + j * 7 + 1, none⟩ = _ := HCC.out w4 HT4.out.below 1 _ rfl
            have c2 : w4.cell? ⟨b, off + j * 7 + 2, none⟩ = _ := HCC.out w4 HT4.out.below 2 _ rfl
            have c3 : w4.cell? ⟨b, off + j * 7 + 3, none⟩ = _ := HCC.out w4 HT4.out.below 3 _ rfl
            have c4 : w4.cell? ⟨b, off + j * 7 + 4, none⟩ = _ := HCC.out w4 HT4.out.below 4 _ rfl
            have c5 : w4.cell? ⟨b, off + j * 7 + 5, none⟩ = _ := HCC.out w4 HT4.out.below 5 _ rfl
            have c6 : w4.cell? ⟨b, off + j * 7 + 6, none⟩ = _ := HCC.out w4 HT4.out.below 6 _ rfl
            go_wp2_with fail
            refine (changes_any mb B (2 * j) v w4 HT4.out.b HT4.out.ok (by omega) (HV.out.below HT4.out.below) (HV.out.apart HT4.out.fb)).mono ?_
            rintro e w5 ⟨mb', rfl, hd5, hD5, hm5⟩
            rw [E1.out, decide_eq_true hk]
            have HT5 := hid (HT4.out.turnB hd5 hD5 hm5 (HT4.out.ok.act v) (HT4.out.free.act v))
            have HD5 := hid hD5
            clear hd5 hD5 hm5 c0 c1 c2 c3 c4 c5 c6
            have k1 : decide ((L : Int) - 1 < 0) = false := by simp; omega
            go_wp2_with fail
            rw [← HD4.out, ← HD5.out]
            refine (same_true ma' mb' (withF (actS B v) ((L : Int) - 1) false) (actS B v) (2 * j + 2) (2 * j + 2) w5 HT5.out.a HT5.out.b (withF_ok HT5.out.ok (by omega) (by omega) false) HT5.out.ok (by omega) (by omega) (withF_same HT5.out.ok HT5.out.free _)).mono ?_
            rintro e w6 ⟨rfl, hB6⟩
            rw [HD4.out, HD5.out]
            have HT6 := hid (HT5.out.quiet hB6)
            clear hB6
            go_wp2_with fail
            go_roundw
            case rel =>
              have h6 := HT6.out
              rw [show ((L : Int) - 1) = ((L - 1 : Nat) : Int) by omega] at h6
              exact ⟨j + 1, ma', mb', actS B v, L - 1, false, by rw [show ((L : Int) - 1) = ((L - 1 : Nat) : Int) by omega], by go_num, by omega, by omega, h6.mono (by omega)⟩
            case measure => simp [intOf]; omega
          · rw [e4] at HT4
            rw [e3]
            clear e1 e2 e3 e4
            go_wp2_with fail
            rw [← HD4.out]
            refine (blown_any ma' _ w4 HT4.out.a).mono ?_
            rintro e w' ⟨rfl, rfl⟩
            rw [HD4.out]
            rw [show (withF B 0 true).dead = true from rfl]
            go_wp2_with fail
            go_roundw
            case rel => exact ⟨j + 1, ma', mb, B, L, true, rfl, by go_num, by omega, hL, HT4.out.mono (by omega)⟩
            case measure => simp [intOf]; omega
          · rw [e3] at HT4
            rw [e2]
            have E4 := hid e4
            obtain ⟨E, hE⟩ : ∃ E, E = actE B v := ⟨_, rfl⟩
            rw [← hE] at e1 ⊢
            have HE := hid hE
            have q1 : (E == 0) = false := by simpa using e1
            have q2 : (E != E) = false := by simp
            clear e1 e2 e3 e4 hE
            go_wp2_with fail
            rw [← HD4.out]
            refine (blown_any ma' _ w4 HT4.out.a).mono ?_
            rintro e w' ⟨rfl, rfl⟩
            rw [HD4.out]
            rw [show (withF B (L : Int) false).dead = false from rfl]
            have c0 : w4.cell? ⟨b, off + j * 7, none⟩ = _ := HCC.out w4 HT4.out.below 0 _ rfl
            have c1 : w4.cell? ⟨b, off + j * 7 + 1, none⟩ = _ := HCC.out w4 HT4.out.below 1 _ rfl
            have c2 : w4.cell? ⟨b, off + j * 7 + 2, none⟩ = _ := HCC.out w4 HT4.out.below 2 _ rfl
            have c3 : w4.cell? ⟨b, off + j * 7 + 3, none⟩ = _ := HCC.out w4 HT4.out.below 3 _ rfl
            have c4 : w4.cell? ⟨b, off + j * 7 + 4, none⟩ = _ := HCC.out w4 HT4.out.below 4 _ rfl
            have c5 : w4.cell? ⟨b, off + j * 7 + 5, none⟩ = _ := HCC.out w4 HT4.out.below 5 _ rfl
            have c6 : w4.cell? ⟨b, off + j * 7 + 6, none⟩ = _ := HCC.out w4 HT4.out.below 6 _ rfl
            go_wp2_with fail
            refine (changes_any mb B (2 * j) v w4 HT4.out.b HT4.out.ok (by omega) (HV.out.below HT4.out.below) (HV.out.apart HT4.out.fb)).mono ?_
            rintro e w5 ⟨mb', rfl, hd5, hD5, hm5⟩
            rw [← HE.out, decide_eq_true hk]
            rw [E4.out] at hd5
            have HT5 := hid (HT4.out.turnB hd5 hD5 hm5 HT4.out.ok HT4.out.free)
            have HD5 := hid hD5
            clear hd5 hD5 hm5 c0 c1 c2 c3 c4 c5 c6
            have k1 : decide ((L : Int) < 0) = false := by simp
            go_wp2_with fail
            rw [← HD4.out, ← HD5.out]
            refine (same_true ma' mb' (withF B (L : Int) false) B (2 * j) (2 * j) w5 HT5.out.a HT5.out.b (withF_ok HT5.out.ok (by omega) (by omega) false) HT5.out.ok (by omega) (by omega) (withF_same HT5.out.ok HT5.out.free _)).mono ?_
            rintro e w6 ⟨rfl, hB6⟩
            rw [HD4.out, HD5.out]
            have HT6 := hid (HT5.out.quiet hB6)
            clear hB6
            go_wp2_with fail
            go_roundw
            case rel => exact ⟨j + 1, ma', mb', B, L, false, rfl, by go_num, by omega, hL, HT6.out.mono (by omega)⟩
            case measure => simp [intOf]; omega
      · rw [decide_eq_false hk]
        have hcs := (act_case (withF B (if d then 0 else (L : Int)) d) v).2.2.2.2.2.2 (by omega)
        rw [hcs.2] at HT4
        clear hcs
        go_wp2_with fail
        go_roundw
        case rel => exact ⟨j + 1, ma', mb, B, L, d, rfl, by go_num, by omega, hL, HT4.out.mono (by omega)⟩
        case measure => simp [intOf]; omega
    · have hjN : j = len := by omega
      have da := HT.out.da
      have db := HT.out.db
      subst da
      subst db
      have hfu : -1 ≤ (if d then 0 else (L : Int)) ∧ (if d then 0 else (L : Int)) ≤ 9223372036854775807 := by cases d <;> simp <;> omega
      have HOA := hid (withF_ok HT.out.ok hfu.1 hfu.2 d)
      clear hfu
      go_wp2_with fail
      refine (long_any 1073741824 50 (by decide) wr).mono ?_
      rintro e w4 ⟨q4, k4, rfl, hq4, hB4⟩
      have HT4 := hid (HT.out.quiet hB4)
      have HQ4 := hid hq4
      clear hq4 hB4
      go_wp2_with fail
      refine (crash_any ma (withF B (if d then 0 else (L : Int)) d) 1073741824 q4 50 k4 (List.replicate 50 1073741824) w4 HT4.out.a (by simp) HQ4.out (Nat.le_trans HOA.out.changes (by omega)) (HOA.out.crashOk (by omega) _ _)).mono ?_
      rintro e w5 ⟨mc, rfl, hX, hB5, _⟩
      rw [withF_crash] at hX
      have HX := hid hX
      have HT5 := hid (HT4.out.quiet hB5)
      clear hX hB5 HQ4
      go_wp2_with fail
      refine (long_any 1073741824 50 (by decide) w5).mono ?_
      rintro e w6 ⟨q6, k6, rfl, hq6, hB6⟩
      have HT6 := hid (HT5.out.quiet hB6)
      have HX := hid (HX.out.below hB6)
      have HQ6 := hid hq6
      clear hq6 hB6
      go_wp2_with fail
      refine (crash_any mb B 1073741824 q6 50 k6 (List.replicate 50 1073741824) w6 HT6.out.b (by simp) HQ6.out (Nat.le_trans HT6.out.ok.changes (by omega)) (HT6.out.ok.crashOk (by omega) _ _)).mono ?_
      rintro e w7 ⟨mo, rfl, hY, hB7, _⟩
      have HX := hid (HX.out.below hB7)
      have HY := hid hY
      have HT7 := hid (HT6.out.quiet hB7)
      clear hY hB7 HQ6
      go_wp2_with fail
      refine (same_true mc mo (crashS B 1073741824 (List.replicate 50 1073741824)) (crashS B 1073741824 (List.replicate 50 1073741824)) (2 * j) (2 * j) w7 HX.out HY.out (HT7.out.ok.crash _ _) (HT7.out.ok.crash _ _) (by omega) (by omega) (same_self (HT7.out.ok.crash _ _) (crash_flags HT7.out.ok _ _).2.1)).mono ?_
      rintro e w8 ⟨rfl, hB8⟩
      have HX := hid (HX.out.below hB8)
      have HT8 := hid (HT7.out.quiet hB8)
      clear hB8
      go_wp2_with fail
      refine (blown_any mc _ w8 HX.out).mono ?_
      rintro e w' ⟨rfl, rfl⟩
      rw [(crash_flags HT7.out.ok 1073741824 (List.replicate 50 1073741824)).2.1]
      go_wp2_with fail
      refine (lives4_any w8).mono ?_
      rintro e w12 ⟨rfl, hB9⟩
      go_wp2_with fail
      go_ret
      exact ⟨rfl, below_on HT8.out.below (Nat.le_refl _) hB9⟩
set_option maxRecDepth 100000 in
theorem disksFuse_any (a : Option Addr) (len cap : Nat) (l : List ActV) (n : Nat) (hn : n < 256) (w : World) (h : ActsAt w a len l) (hlen' : len ≤ 9223372036854775807) :
    Calls Try.prog 6 #[.slice a len cap, .int .u8 (n : Int)] w fun e w' => e = .returned (.bool true) ∧ Below w.heap.size w w' := by
  by_cases hlen : len ≤ 40
  · exact disksFuse_small a len cap l n hn w h hlen
  · have b1 : decide ((40 : Int) < (len : Int)) = true := by simp; omega
    clear h hlen
    go_enter Try.func6, Try.ntmps6
    go_wp2_with fail
    refine (lives4_any _).mono ?_
    rintro e w12 ⟨rfl, hB5⟩
    go_wp2_with fail
    go_ret
    exact ⟨rfl, hB5⟩
end Go.Proofs.Herb
