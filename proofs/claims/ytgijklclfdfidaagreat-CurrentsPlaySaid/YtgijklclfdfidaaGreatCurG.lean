/- The contracts of bytes.Equal and of a pointer's Get. For a disk as DiskAt says. -/
import Derived.Test.YtgijklclfdfidaaGreatCurB
import Derived.Laws.IdiomStrings
import Derived.Laws.BytesString
import Derived.Laws.BytesArg
import Derived.Laws.BitsAllLaws
namespace Go.Proofs.Herb
open Go.RowKit Go.Sort
theorem conv_any (w : World) (a : Option Addr) (n c : Nat) (l : List UInt8) (hn : l.length = n) (hr : Rd w a (l.map bv)) : (convert 32 9 (.slice a n c)).run Tryz.prog w = .ok (.string ⟨l.toArray⟩) w := by
  subst hn
  rcases hr with h0 | ⟨b, off, rfl, hc⟩
  · obtain rfl : l = [] := by simpa using h0
    cases a with
    | none => exact run_convert_bytes_nil w 32 5 Tryz.underlying32 Tryz.underlying5 0 c 9 Tryz.underlying9
    | some ad => exact run_convert_bytes_back (P := Tryz.prog) w 32 9 5 ad c [] Tryz.underlying32 Tryz.underlying5 Tryz.underlying9 (fun j hj => absurd hj (by simp))
  · exact run_convert_bytes_back (P := Tryz.prog) w 32 9 5 ⟨b, off, none⟩ c l Tryz.underlying32 Tryz.underlying5 Tryz.underlying9 (fun j hj => by
      rw [Addr.add_mid]
      exact hc j _ (by rw [List.getElem?_map, List.getElem?_eq_getElem hj]; rfl))
theorem equalB_any (a b : Option Addr) (n c m d : Nat) (l k : List UInt8) (w : World) (hn : l.length = n) (hm : k.length = m) (hr : Rd w a (l.map bv)) (hs : Rd w b (k.map bv)) :
    Calls Tryz.prog 60 #[.slice a n c, .slice b m d] w fun e w' => e = .returned (.bool (l == k)) ∧ w = w' := by
  have h1 := conv_any w a n c l hn hr
  have h2 := conv_any w b m d k hm hs
  have he : (ByteArray.toList ⟨l.toArray⟩ == ByteArray.toList ⟨k.toArray⟩) = (l == k) := by
    by_cases h : l = k
    · subst h; rw [seq rfl]; simp
    · rw [sne (fun e => h (by simpa using congrArg (fun b => b.data.toList) e))]; simp [h]
  clear hn hm hr hs
  go_enter Tryz.func60, Tryz.ntmps60
  go_wp2_with fail
  go_ret
  exact ⟨rfl, rfl⟩
/-! Get -/
def getE (s : DS) : Int := if (look s.names kC).isSome = false then 7 else if knownE s kC ≠ 0 then knownE s kC else if goodL (readL s kC) = true then 0 else 13
def getN (s : DS) : Nat := if getE s = 0 then valL ((readL s kC).take 8) else 0
theorem or_form (v : Nat) (c : UInt8) : bits .or .u64 ((v : Int) * 256 % 18446744073709551616) (c.toNat : Int) = (((v * 256 + c.toNat) % 18446744073709551616 : Nat) : Int) := by
  have hc := c.toNat_lt
  obtain ⟨A, hA⟩ : ∃ A, v * 256 % 18446744073709551616 = A * 256 := ⟨v % 72057594037927936, by omega⟩
  have h1 : (v : Int) * 256 % 18446744073709551616 = ((A * 256 : Nat) : Int) := by rw [← hA]; simp
  have hAl : A * 256 < 18446744073709551616 := by rw [← hA]; exact Nat.mod_lt _ (by decide)
  rw [h1, u64_or_nat _ _ hAl (by omega)]
  have h2 : A * 256 ||| c.toNat = A * 256 + c.toNat := by
    have := Nat.two_pow_add_eq_or_of_lt (i := 8) (b := c.toNat) (by omega) A
    rw [Nat.mul_comm A 256]
    exact this.symm
  rw [h2]
  congr 1
  omega
set_option maxRecDepth 100000 in
set_option maxHeartbeats 1600000 in
theorem get_any (m : DM) (s : DS) (n : Nat) (w : World) (h : DiskAt w m s) (o : DsOk s n) (hn : n ≤ 1000000) :
    Calls Tryz.prog 22 #[.pointer (some ⟨m.D, 0, none⟩)] w fun e w' => e = .returned (.tuple #[.int .u64 (getN s : Int), .int .i64 (getE s)]) ∧ Below w.heap.size w w' := by
  have hE : getE s = if (look s.names kC).isSome = false then 7 else if knownE s kC ≠ 0 then knownE s kC else if goodL (readL s kC) = true then 0 else 13 := rfl
  have hN : getN s = if getE s = 0 then valL ((readL s kC).take 8) else 0 := rfl
  obtain ⟨b, hb⟩ : ∃ b, b = (look s.names kC).isSome := ⟨_, rfl⟩
  rw [← hb] at hE
  have HB := hid hb
  have H := hid h
  have O := hid o
  clear h o hb
  cases b with
  | false =>
    rw [if_pos rfl] at hE
    rw [hE, if_neg (by decide)] at hN
    have HE := hid hE
    have HN := hid hN
    clear hE hN
    go_enter Tryz.func22, Tryz.ntmps22
    go_wp2_with fail
    (with_reducible refine (noneC_any m s n w H.out O.out).mono ?_)
    rintro e w1 ⟨rfl, hB1⟩
    go_wp2_with fail
    (with_reducible refine (thereC_any m s n kC w1 (H.out.below hB1) O.out (by omega)).mono ?_)
    rintro e w2 ⟨rfl, hB2⟩
    rw [← HB.out]
    go_wp2_with fail
    go_ret2
    exact ⟨by rw [HE.out, HN.out]; rfl, below_on hB1 (Nat.le_refl _) hB2⟩
  | true =>
    rw [if_neg (by decide)] at hE
    by_cases q : knownE s kC = 0
    · rw [if_neg (fun h => h q)] at hE
      obtain ⟨R, hR⟩ : ∃ R, R = readL s kC := ⟨_, rfl⟩
      obtain ⟨L, hL⟩ : ∃ L, L = R.length := ⟨_, rfl⟩
      have hLl : L ≤ 4194304 := by
        rw [hL, hR]; unfold readL
        rw [if_pos q, fileAt_b]; exact (fileAt_ok O.out kC).2
      rw [← hR] at hE hN
      obtain ⟨M, hM⟩ : ∃ M, M = min L 8 := ⟨_, rfl⟩
      have hmin : min (L : Int) 8 = (M : Int) := by omega
      have hML : M ≤ L := by omega
      have htk : R.take M = R.take 8 := by
        rcases Nat.le_total L 8 with h | h
        · rw [List.take_of_length_le (by omega), List.take_of_length_le (by omega)]
        · rw [show M = 8 by omega]
      obtain ⟨V, hV⟩ : ∃ V, V = valL (R.take 8) := ⟨_, rfl⟩
      rw [← hV] at hN
      have hVl : V < 18446744073709551616 := by rw [hV]; exact valL_lt _
      have hg : goodL R = (contentL V == R) := by unfold goodL; rw [hV]
      obtain ⟨G, hG⟩ : ∃ G, G = (contentL V == R) := ⟨_, rfl⟩
      rw [hg, ← hG] at hE
      have HE := hid hE
      have HN := hid hN
      have HR := hid hR
      have HL := hid hL
      have HTK := hid htk
      have HV := hid hV
      have HG := hid hG
      have HQ := hid q
      have m0 : (0 : Int) ≤ (M : Int) := by omega
      have m1 : (M : Int) ≤ (L : Int) := by omega
      clear hE hN hR hL htk hV hG hg q hM
      go_enter Tryz.func22, Tryz.ntmps22
      go_wp2_with fail
      (with_reducible refine (noneC_any m s n w H.out O.out).mono ?_)
      rintro e w1 ⟨rfl, hB1⟩
      have HB1 := hid hB1
      clear hB1
      go_wp2_with fail
      (with_reducible refine (thereC_any m s n kC w1 (H.out.below HB1.out) O.out (by omega)).mono ?_)
      rintro e w2 ⟨rfl, hB2⟩
      rw [← HB.out]
      have HB1 := hid (below_on HB1.out (Nat.le_refl _) hB2)
      clear hB2
      go_wp2_with fail
      (with_reducible refine (read_clip m s kC (by unfold maxLen; decide) w2 (H.out.below HB1.out) O.out.good.ok (fun f hf => (O.out.sure f hf).2)).mono ?_)
      rintro e w3 ⟨q3, rfl, hF3, hB3⟩
      rw [← HR.out, ← HL.out] at hF3 ⊢
      rw [HQ.out]
      have HF3 := hid hF3.rd
      have HB1 := hid (below_on HB1.out (Nat.le_refl _) hB3)
      clear hF3 hB3
      go_wp2_with fail
      go_loop [2, 26] (fun v i => ∃ j : Nat, j ≤ M ∧ i = .int .i64 j ∧ v = .int .u64 (valL (R.take j))) (fun _ i => M - (intOf i).toNat)
      case atStart => exact ⟨0, Nat.zero_le _, rfl, by simp [valL]⟩
      case round =>
        obtain ⟨j, hj, rfl, rfl⟩ := hrel
        obtain ⟨A, hA⟩ : ∃ A, A = valL (R.take j) := ⟨_, rfl⟩
        have hAl : A < 18446744073709551616 := by rw [hA]; exact valL_lt _
        rw [← hA]
        have HA := hid hA
        clear hA
        by_cases hlt : j < M
        · have hjl : j < R.length := by rw [← HL.out]; omega
          obtain ⟨b, off, rfl, hc⟩ := HF3.out.cell (k := j) (by simpa using hjl)
          rw [List.getElem_map] at hc
          obtain ⟨x, hx⟩ : ∃ x, x = R[j] := ⟨_, rfl⟩
          rw [← hx] at hc
          unfold bv at hc
          have hst : valL (R.take (j + 1)) = (A * 256 + x.toNat) % 18446744073709551616 := by
            rw [List.take_succ_eq_append_getElem hjl, valL_snoc, ← HA.out, hx]
          have HS := hid hst
          have hor := or_form A x
          have i0 : (0 : Int) ≤ (j : Int) := by omega
          have i1 : (j : Int) < (M : Int) := by omega
          clear hx hst
          go_wp2_with fail
          go_round
          case rel => exact ⟨j + 1, by omega, by go_num, by rw [HS.out, IntKind.wrap_u64, IntKind.wrap_u64, show (x.toNat : Int) % 18446744073709551616 = (x.toNat : Int) from by have := x.toNat_lt; omega, hor]⟩
          case measure => simp [intOf]; omega
        · have hAV : A = V := by rw [HA.out, HV.out, ← HTK.out, show j = M by omega]
          subst hAV
          go_wp2_with fail
          (with_reducible refine (content_any A hVl w3).mono ?_)
          rintro e w4 ⟨q4, c4, rfl, hc4, hm4, hF4, hB4⟩
          have HF4 := hid hF4.rd
          have HF3 := hid (HF3.out.below hB4)
          have HB1 := hid (below_on HB1.out (Nat.le_refl _) hB4)
          clear hF4 hB4
          go_wp2_with fail
          (with_reducible refine (equalB_any q4 q3 12 c4 L L (contentL A) R w4 (contentL_len A) HL.out.symm HF4.out HF3.out).mono ?_)
          rintro e w' ⟨rfl, rfl⟩
          rw [← HG.out]
          have hN := HN.out
          have hE := HE.out
          cases G with
          | true =>
            rw [if_pos rfl] at hE
            rw [hE, if_pos rfl] at hN
            have HE := hid hE
            have HN := hid hN
            clear hE hN
            go_wp2_with fail
            go_ret2
            exact ⟨by rw [HE.out, HN.out]; rfl, HB1.out⟩
          | false =>
            rw [if_neg (by decide)] at hE
            rw [hE, if_neg (by decide)] at hN
            have HE := hid hE
            have HN := hid hN
            clear hE hN
            go_wp2_with fail
            go_ret2
            exact ⟨by rw [HE.out, HN.out]; rfl, HB1.out⟩
    · rw [if_pos q] at hE
      obtain ⟨E, hEE⟩ : ∃ E, E = knownE s kC := ⟨_, rfl⟩
      rw [← hEE] at hE
      rw [hE, if_neg (by rw [hEE]; exact q)] at hN
      have b1 : (E != 0) = true := by rw [hEE]; simpa using q
      have HE := hid hE
      have HN := hid hN
      have HEE := hid hEE
      clear hE hN hEE q
      go_enter Tryz.func22, Tryz.ntmps22
      go_wp2_with fail
      (with_reducible refine (noneC_any m s n w H.out O.out).mono ?_)
      rintro e w1 ⟨rfl, hB1⟩
      have HB1 := hid hB1
      clear hB1
      go_wp2_with fail
      (with_reducible refine (thereC_any m s n kC w1 (H.out.below HB1.out) O.out (by omega)).mono ?_)
      rintro e w2 ⟨rfl, hB2⟩
      rw [← HB.out]
      have HB1 := hid (below_on HB1.out (Nat.le_refl _) hB2)
      clear hB2
      go_wp2_with fail
      (with_reducible refine (read_clip m s kC (by unfold maxLen; decide) w2 (H.out.below HB1.out) O.out.good.ok (fun f hf => (O.out.sure f hf).2)).mono ?_)
      rintro e w3 ⟨q3, rfl, hF3, hB3⟩
      rw [← HEE.out]
      have HB1 := hid (below_on HB1.out (Nat.le_refl _) hB3)
      clear hF3 hB3
      go_wp2_with fail
      go_ret2
      exact ⟨by rw [HE.out, HN.out]; rfl, HB1.out⟩
end Go.Proofs.Herb
