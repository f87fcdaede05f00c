/- The contract of DisksTurn: it answers true. For acts that can be read. -/
import Derived.Test.YtobgcapekongbaaTrnP
import Derived.Test.YtobgcapekongbaaSur
import Derived.Test.YtobgcapekongbaaCpyW
import Derived.BigQuiet
namespace Go.Proofs.Herb
open Go.RowKit Go.Sort
/-- an act in memory -/
theorem act_cells {w : World} {L : Nat} {v : ActV} (h : w.heap[L]? = some (.cells #[.int .u8 (v.what : Int), .string v.a, .string v.b, .int .i64 v.n, .slice v.dq v.dn v.dc, .int .i64 v.dir, .slice v.fq v.fn v.fc] 54 (0, 0))) : w.cell? ⟨L, 1, none⟩ = some (.string v.a) ∧ w.cell? ⟨L, 3, none⟩ = some (.int .i64 v.n) :=
  ⟨cell_of_row w L 1 _ _ _ h, cell_of_row w L 3 _ _ _ h⟩
theorem same_refl {s : DS} {n : Nat} (h : DsOk s n) (hd : s.dead = false) : SameS s s := SameS.refl s fun _ hk => (sorted_at h hd hk).1
theorem DiskAt.mod {w w' : World} {m m2 : DM} {s s2 : DS} {fp' : List Nat} (h2 : DiskAt w m2 s2) (hm : Mod m.fp fp' w w') (hd : ∀ k, k ∈ m2.fp → k ∉ m.fp) (_h : DiskAt w m s) : DiskAt w' m2 s2 := h2.keep fun k hk => hm.block k (h2.lt k hk) (hd k hk)
theorem turn_back {s : DS} {k : ByteArray} {a : Int} {b : UInt8} (q : turnBE s k a ≠ 0) : turnBS s k a b = s := by unfold turnBS; rw [if_pos q]
theorem rd_at {w : World} {q : Option Addr} {l : List UInt8} (h : Rd w q (l.map bv)) {j : Nat} (hj : j < l.length) : ∃ b off, q = some ⟨b, off, none⟩ ∧ b < w.heap.size ∧ w.cell? ⟨b, off + j, none⟩ = some (.int .u8 ((l.getD j 0).toNat : Int)) := by
  obtain ⟨b, off, hq, hc⟩ := h.cell (k := j) (by rw [List.length_map]; exact hj)
  rw [List.getElem_map] at hc
  refine ⟨b, off, hq, World.block_lt_of_cell? w _ hc, ?_⟩
  rw [hc, List.getD_eq_getElem?_getD, List.getElem?_eq_getElem hj]; rfl
set_option maxRecDepth 100000 in
set_option maxHeartbeats 6400000 in
theorem disksTurn_small (a : Option Addr) (len cap : Nat) (l : List ActV) (v : ActV) (by_ : UInt8) (w : World) (h : ActsAt w a len l) (hv : ActOk w v) (hlen : len ≤ 40) :
    Calls Try.prog 8 #[.slice a len cap, .agg #[.int .u8 (v.what : Int), .string v.a, .string v.b, .int .i64 v.n, .slice v.dq v.dn v.dc, .int .i64 v.dir, .slice v.fq v.fn v.fc], .int .u8 (by_.toNat : Int)] w fun e w' => e = .returned (.bool true) ∧ Below w.heap.size w w' := by
  have hO := sure_ok (room := 1048576) (by decide) (by decide) (l := l) (by rw [h.1]; exact hlen)
  have hF := (Free.new 1048576).play l
  obtain ⟨S, hS⟩ : ∃ S, S = playS (newS 1048576) l := ⟨_, rfl⟩
  rw [← hS] at hO hF
  obtain ⟨w0, hw0, hL, hA⟩ : ∃ w0, w0 = w.alloc (.cells #[.int .u8 (v.what : Int), .string v.a, .string v.b, .int .i64 v.n, .slice v.dq v.dn v.dc, .int .i64 v.dir, .slice v.fq v.fn v.fc] 54) ∧ w0.heap[w.heap.size]? = some (.cells #[.int .u8 (v.what : Int), .string v.a, .string v.b, .int .i64 v.n, .slice v.dq v.dn v.dc, .int .i64 v.dir, .slice v.fq v.fn v.fc] 54 (0, 0)) ∧ Below w.heap.size w w0 := ⟨_, rfl, heap_alloc_new _ _, (Below.refl w.heap.size w).alloc (Nat.le_refl _) _⟩
  have hka := hv.a
  have hn0 := hv.n0
  have hn1 := hv.n1
  have hbL := lt_of_block hL
  have H := hid (h.below hA)
  have O := hid hO
  have F := hid hF
  have HS := hid hS
  have HL := hid hL
  have HA := hid hA
  have HW := hid hw0
  have b1 : decide ((40 : Int) < (len : Int)) = false := by simp; omega
  obtain ⟨K, hK⟩ : ∃ K, K = v.a := ⟨_, rfl⟩
  obtain ⟨N, hN⟩ : ∃ N, N = v.n := ⟨_, rfl⟩
  rw [← hK] at hka
  rw [← hN] at hn0 hn1
  have HK := hid hK
  have HN := hid hN
  clear h hv hO hF hS hL hA hw0 hK hN
  go_enter Try.func8, Try.ntmps8
  go_wp2_with fail
  rw [← HW.out]
  refine (played_any 1048576 (by decide) (by decide) a len cap l w0 H.out (by omega)).mono ?_
  rintro e w1 ⟨m, rfl, hD, hB, hFp⟩
  rw [← HS.out] at hD
  have HD := hid hD
  have HB := hid hB
  have HFp := hid hFp
  have HF1 := hid (show ∀ k, k ∈ m.fp → w.heap.size + 1 ≤ k from fun k hk => Nat.le_trans hbL (hFp k hk))
  clear hD hB hFp
  go_wp2_with fail
  refine (copy_any m S w1 HD.out (Nat.le_trans O.out.files (by decide)) (Nat.le_trans O.out.changes (by decide)) O.out.bytes).mono ?_
  rintro e w2 ⟨m2, rfl, hD2, hB2, hF2⟩
  have HC := hid hD2
  have HCD := hid (show ∀ k, k ∈ m2.fp → k ∉ m.fp from fun k hk hk' => by have := hF2 k hk; have := HD.out.lt k hk'; omega)
  have HD := hid (HD.out.below hB2)
  have HB := hid (below_on HB.out (Nat.le_refl _) hB2)
  clear hD2 hB2 hF2
  obtain ⟨c1, c3⟩ := act_cells ((HB.out.block _ hbL).trans HL.out)
  rw [← HK.out] at c1
  go_wp2_with fail
  refine (read_clip m S K hka w2 HD.out O.out.good.ok O.out.bytes).mono ?_
  rintro e w3 ⟨q3, rfl, hF3, hB3⟩
  obtain ⟨E, hE⟩ : ∃ E, E = knownE S K := ⟨_, rfl⟩
  obtain ⟨R, hR⟩ : ∃ R, R = readL S K := ⟨_, rfl⟩
  obtain ⟨n3, hn3⟩ : ∃ n, n = R.length := ⟨_, rfl⟩
  rw [← hR, ← hn3] at hF3 ⊢
  rw [← hE]
  have hEf : foundE S K = E := by rw [hE]; unfold knownE; rw [F.out.dead]; rfl
  have hRl : n3 ≤ 4194304 := by rw [hn3, hR]; exact readL_le O.out K
  have HE := hid hE
  have HEf := hid hEf
  have HR := hid hR
  have Hn3 := hid hn3
  have HQ3 := hid (show ∀ b off, q3 = some ⟨b, off, none⟩ → b ∉ m.fp from fun b off e hb => by have := fr_base hF3 e; have := HD.out.lt b hb; omega)
  have HF3 := hid hF3.rd
  have HC := hid (HC.out.below hB3)
  have HD := hid (HD.out.below hB3)
  have HB := hid (below_on HB.out (Nat.le_refl _) hB3)
  clear hF3 hB3 hE hEf hR hn3 c1 c3
  obtain ⟨c1, c3⟩ := act_cells ((HB.out.block _ hbL).trans HL.out)
  rw [← HK.out] at c1
  rw [← HN.out] at c3
  go_wp2_with fail
  refine (turn_any m S K hka N by_ w3 HD.out O.out.good.ok O.out.bytes).mono ?_
  rintro e w4 ⟨rfl, hD4, hM4⟩
  obtain ⟨T, hT⟩ : ∃ T, T = turnBE S K N := ⟨_, rfl⟩
  have hRf : E = 0 → R = fileL S K := fun h => by rw [HR.out]; unfold readL; rw [if_pos (by rw [← HE.out]; exact h)]
  have hTE : T = if E ≠ 0 then E else if N < 0 ∨ (n3 : Int) ≤ N then 1 else 0 := by
    rw [hT]; unfold turnBE
    rw [HEf.out]
    by_cases h0 : E = 0
    · rw [if_neg (show ¬ (E ≠ 0) from fun h => h h0), if_neg (show ¬ (E ≠ 0) from fun h => h h0), ← hRf h0, ← Hn3.out]
    · rw [if_pos (show E ≠ 0 from h0), if_pos (show E ≠ 0 from h0)]
  rw [← hT]
  have HT := hid hT
  have hfr := hM4.fresh (B := w.heap.size + 1) (Nat.le_trans hbL HB.out.size) HF1.out
  have HC := hid (HC.out.mod hM4 HCD.out HD.out)
  have HB4 := hid hfr.2
  have HD4 := hid hD4
  have HB := hid ((HB.out.mono (B' := w.heap.size + 1) hbL).trans hfr.2)
  have HF3 := hid (HF3.out.mod hM4 HQ3.out)
  have HTE := hid hTE
  clear hD4 hM4 hT hRf hTE c1 c3 hfr HD
  obtain ⟨c1, c3⟩ := act_cells ((HB.out.block _ (Nat.lt_succ_self _)).trans HL.out)
  rw [← HK.out] at c1
  rw [← HN.out] at c3
  have HBF := hid (HA.out.trans (HB.out.mono (Nat.le_succ w.heap.size)))
  by_cases hE0 : E = 0
  · by_cases hN0 : N < 0 ∨ (n3 : Int) ≤ N
    · have hTE : T = 1 := by rw [HTE.out, if_neg (show ¬ (E ≠ 0) from fun h => h hE0), if_pos hN0]
      have hS : turnBS S K N by_ = S := turn_back (by rw [← HT.out, hTE]; decide)
      have HD := hid (show DiskAt w4 m S by rw [← hS]; exact HD4.out)
      rw [hTE, hE0]
      clear hTE hS hE0
      rcases hN0 with hN0 | hN0
      · have d1 : decide (N < 0) = true := by simpa using hN0
        go_wp2_with (first
          | (go_at_call 14; (with_reducible refine (same_true m2 m S S 80 80 w4 HC.out HD.out O.out O.out (by decide) (by decide) (same_refl O.out F.out.dead)).mono ?_); rintro e w5 ⟨rfl, hB5⟩)
          | (go_at_call 10; (with_reducible refine (lives4_any w5).mono ?_); rintro e w6 ⟨rfl, hB6⟩))
        go_ret
        exact ⟨rfl, below_on (below_on HBF.out (Nat.le_refl _) hB5) (Nat.le_refl _) hB6⟩
      · have d1 : decide ((n3 : Int) ≤ N) = true := by simpa using hN0
        by_cases hNn : N < 0
        · omega
        have d2 : decide (N < 0) = false := by simpa using hNn
        go_wp2_with (first
          | (go_at_call 14; (with_reducible refine (same_true m2 m S S 80 80 w4 HC.out HD.out O.out O.out (by decide) (by decide) (same_refl O.out F.out.dead)).mono ?_); rintro e w5 ⟨rfl, hB5⟩)
          | (go_at_call 10; (with_reducible refine (lives4_any w5).mono ?_); rintro e w6 ⟨rfl, hB6⟩))
        go_ret
        exact ⟨rfl, below_on (below_on HBF.out (Nat.le_refl _) hB5) (Nat.le_refl _) hB6⟩
    · obtain ⟨j, rfl⟩ : ∃ j : Nat, N = (j : Int) := ⟨N.toNat, by omega⟩
      have hj : j < n3 := by omega
      have hT0 : T = 0 := by rw [HTE.out, if_neg (show ¬ (E ≠ 0) from fun h => h hE0), if_neg hN0]
      have hq0 : turnBE S K (j : Int) = 0 := by rw [← HT.out, hT0]
      have hag := turn_again (b := by_) hq0
      have hRf : R = fileL S K := by rw [HR.out]; unfold readL; rw [if_pos (by rw [← HE.out]; exact hE0)]
      have htf := turn_file (b := by_) hq0
      rw [Int.toNat_natCast, ← hRf] at htf
      obtain ⟨S2, hS2⟩ : ∃ S2, S2 = turnBS S K (j : Int) by_ := ⟨_, rfl⟩
      have ho2 : DsOk S2 80 := by rw [hS2]; exact O.out.turnB _ _ _
      have hk2 : knownE S2 K = 0 := by rw [hS2, (turn_found K K _ _).2, ← HE.out]; exact hE0
      have hf2 : foundE S2 K = 0 := by rw [hS2, (turn_found K K _ _).1, HEf.out]; exact hE0
      rw [← hS2] at hag htf
      have hr2 : readL S2 K = R.set j (R.getD j 0 ^^^ by_) := by unfold readL; rw [if_pos hk2]; exact htf
      have hD := HD4.out
      rw [← hS2] at hD
      have HD := hid hD
      obtain ⟨x0, hx0⟩ : ∃ x, x = R.getD j 0 := ⟨_, rfl⟩
      rw [← hx0] at hr2
      have hl2 : (readL S2 K).length = n3 := by rw [hr2, List.length_set, ← Hn3.out]
      have hg2 : (readL S2 K).getD j 0 = x0 ^^^ by_ := by rw [hr2, List.getD_eq_getElem?_getD, List.getElem?_set_self (by rw [← Hn3.out]; exact hj), Option.getD_some]
      have hln : looseN S2 K = looseN S K := by rw [hS2]; exact turn_loose hq0
      obtain ⟨LN, hLN⟩ : ∃ x, x = looseN S K := ⟨_, rfl⟩
      rw [← hLN] at hln
      have O2 := hid ho2
      have HK2 := hid hk2
      have HF2 := hid hf2
      have HL2 := hid hl2
      have HG2 := hid hg2
      have HX0 := hid hx0
      have HLN := hid hLN
      have HLN2 := hid hln
      have HAG := hid hag
      rw [hT0, hE0]
      have d1 : decide ((j : Int) < 0) = false := by simp
      have d2 : decide ((n3 : Int) ≤ (j : Int)) = false := by simp; omega
      have HE0 := hid hE0
      clear hE0 hN0 hT0 hq0 hag hRf htf hS2 ho2 hk2 hf2 hr2 hD hx0 hl2 hg2 hln hLN HTE HD4
      go_wp2_with fail
      refine (read_clip m S2 K hka w4 HD.out O2.out.good.ok O2.out.bytes).mono ?_
      rintro e w5 ⟨q5, rfl, hF5, hB5⟩
      rw [HL2.out] at hF5 ⊢
      rw [HK2.out]
      obtain ⟨bx, ox, rfl, _, cx⟩ := rd_at hF5.rd (j := j) (by rw [HL2.out]; exact hj)
      rw [HG2.out] at cx
      obtain ⟨b3, o3, rfl, h3, cb⟩ := rd_at HF3.out (j := j) (by rw [← Hn3.out]; exact hj)
      rw [← HX0.out] at cb
      have cb := (hB5.cell (p := ⟨b3, o3 + j, none⟩) h3).trans cb
      have hxor := xor_form x0 by_
      have HC := hid (HC.out.below hB5)
      have HD := hid (HD.out.below hB5)
      have HB := hid (below_on HB.out hbL hB5)
      clear hF5 hB5 h3 c1 c3
      obtain ⟨c1, c3⟩ := act_cells ((HB.out.block _ (Nat.lt_succ_self _)).trans HL.out)
      rw [← HK.out] at c1
      rw [← HN.out] at c3
      have i0 : (0 : Int) ≤ (j : Int) := by omega
      have i1 : (j : Int) < (n3 : Int) := by omega
      go_upto_region 10 with fail
      go_quiet (fail)
      obtain ⟨w6, hw6⟩ : ∃ w6, w6 = w5.drewN ‹Nat› := ⟨_, rfl⟩
      rw [← hw6]
      have hB6 : Below w5.heap.size w5 w6 := by rw [hw6]; exact below_drewN (Below.refl _ _) _
      have HC := hid (HC.out.below hB6)
      have HD := hid (HD.out.below hB6)
      have HB := hid (below_on HB.out hbL hB6)
      clear hw6 hB6 c1 c3 cx cb hxor
      obtain ⟨c1, c3⟩ := act_cells ((HB.out.block _ (Nat.lt_succ_self _)).trans HL.out)
      rw [← HK.out] at c1
      go_wp2_with fail
      refine (loose_any m S2 K hka w6 HD.out O2.out.good.ok O2.out.sure).mono ?_
      rintro e w7 ⟨rfl, hB7⟩
      rw [HLN2.out, HF2.out]
      have HC := hid (HC.out.below hB7)
      have HD := hid (HD.out.below hB7)
      have HB := hid (below_on HB.out hbL hB7)
      clear hB7 c1 c3
      obtain ⟨c1, c3⟩ := act_cells ((HB.out.block _ (Nat.lt_succ_self _)).trans HL.out)
      rw [← HK.out] at c1
      go_wp2_with fail
      refine (loose_any m2 S K hka w7 HC.out O.out.good.ok O.out.sure).mono ?_
      rintro e w8 ⟨rfl, hB8⟩
      rw [← HLN.out, HEf.out, HE0.out]
      have HC := hid (HC.out.below hB8)
      have HD := hid (HD.out.below hB8)
      have HB := hid (below_on HB.out hbL hB8)
      clear hB8 c1 c3
      obtain ⟨c1, c3⟩ := act_cells ((HB.out.block _ (Nat.lt_succ_self _)).trans HL.out)
      rw [← HK.out] at c1
      rw [← HN.out] at c3
      go_wp2_with fail
      refine (turn_any m S2 K hka (j : Int) by_ w8 HD.out O2.out.good.ok O2.out.bytes).mono ?_
      rintro e w9 ⟨rfl, hD9, hM9⟩
      rw [HAG.out.1]
      rw [HAG.out.2] at hD9
      have hfr := hM9.fresh (B := w.heap.size + 1) (Nat.le_trans hbL HB.out.size) HF1.out
      have HC := hid (HC.out.mod hM9 HCD.out HD.out)
      have HD := hid hD9
      have HB := hid (HB.out.trans hfr.2)
      have HBF := hid (HA.out.trans (HB.out.mono (Nat.le_succ w.heap.size)))
      clear hD9 hM9 hfr c1 c3
      go_wp2_with (first
        | (go_at_call 14; (with_reducible refine (same_true m2 m S S 80 80 w9 HC.out HD.out O.out O.out (by decide) (by decide) (same_refl O.out F.out.dead)).mono ?_); rintro e w5 ⟨rfl, hB5⟩)
        | (go_at_call 10; (with_reducible refine (lives4_any w5).mono ?_); rintro e w6 ⟨rfl, hB6⟩))
      go_ret
      exact ⟨rfl, below_on (below_on HBF.out (Nat.le_refl _) hB5) (Nat.le_refl _) hB6⟩
  · have hTE : T = E := by rw [HTE.out, if_pos (show E ≠ 0 from hE0)]
    have hS : turnBS S K N by_ = S := turn_back (by rw [← HT.out, hTE]; exact hE0)
    have HD := hid (show DiskAt w4 m S by rw [← hS]; exact HD4.out)
    rw [hTE]
    have d1 : (E != 0) = true := by simpa using hE0
    clear hTE hS hE0
    go_wp2_with (first
      | (go_at_call 14; (with_reducible refine (same_true m2 m S S 80 80 w4 HC.out HD.out O.out O.out (by decide) (by decide) (same_refl O.out F.out.dead)).mono ?_); rintro e w5 ⟨rfl, hB5⟩)
      | (go_at_call 10; (with_reducible refine (lives4_any w5).mono ?_); rintro e w6 ⟨rfl, hB6⟩))
    go_ret
    exact ⟨rfl, below_on (below_on HBF.out (Nat.le_refl _) hB5) (Nat.le_refl _) hB6⟩
set_option maxRecDepth 100000 in
theorem disksTurn_any (a : Option Addr) (len cap : Nat) (l : List ActV) (v : ActV) (b : Nat) (hb : b < 256) (w : World) (h : ActsAt w a len l) (hv : ActOk w v) (hlen' : len ≤ 9223372036854775807) :
    Calls Try.prog 8 #[.slice a len cap, .agg #[.int .u8 (v.what : Int), .string v.a, .string v.b, .int .i64 v.n, .slice v.dq v.dn v.dc, .int .i64 v.dir, .slice v.fq v.fn v.fc], .int .u8 (b : Int)] w fun e w' => e = .returned (.bool true) ∧ Below w.heap.size w w' := by
  by_cases hlen : len ≤ 40
  · have h1 := disksTurn_small a len cap l v (UInt8.ofNat b) w h hv hlen
    rw [show (UInt8.ofNat b).toNat = b from by rw [UInt8.toNat_ofNat']; omega] at h1
    exact h1
  · have b1 : decide ((40 : Int) < (len : Int)) = true := by simp; omega
    clear h hv hlen
    go_enter Try.func8, Try.ntmps8
    go_wp2_with fail
    refine (lives4_any _).mono ?_
    rintro e w12 ⟨rfl, hB5⟩
    go_wp2_with fail
    go_ret
    exact ⟨rfl, below_on ((Below.refl w.heap.size w).alloc (Nat.le_refl _) _) (Nat.le_refl _) hB5⟩
end Go.Proofs.Herb
