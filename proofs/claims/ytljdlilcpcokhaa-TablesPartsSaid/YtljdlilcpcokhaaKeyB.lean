/- The contracts of keys.escaped and may. For keys of so many bytes. -/
import Derived.Test.YtljdlilcpcokhaaFct
import Derived.Laws.IdiomStrings
namespace Go.Proofs.Herb
open Go.RowKit
/-- a key, escaped -/
def esc (l : List UInt8) : List UInt8 := l.flatMap fun c => if c = 0 then [0, 1] else [c]
theorem esc_len (l : List UInt8) : (esc l).length ≤ 2 * l.length := by
  induction l with
  | nil => simp [esc]
  | cons c l ih => simp only [esc, List.flatMap_cons, List.length_append, List.length_cons] at ih ⊢; split <;> simp only [List.length_cons, List.length_nil] <;> omega
theorem esc_snoc (l : List UInt8) (c : UInt8) : esc (l ++ [c]) = esc l ++ if c = 0 then [0, 1] else [c] := by simp [esc]
def mayF (f : Fact) : Bool := decide (1 ≤ f.key.size ∧ f.key.size ≤ 32 ∧ 0 < f.seq ∧ f.kind ≤ 1)
theorem str_take (s : ByteArray) (k : Nat) (h : k < s.size) : s.data.toList.take (k + 1) = s.data.toList.take k ++ [s[k]] := by
  rw [List.take_succ_eq_append_getElem (by simpa using h)]; rfl
set_option maxRecDepth 100000 in
set_option maxHeartbeats 1000000 in
theorem escaped_any (s : ByteArray) (hs : s.size ≤ 1000000) (w : World) :
    Calls Try.prog 37 #[.string s] w fun e w' => ∃ q c, e = .returned (.slice q ((esc s.data.toList).length + 2) c) ∧ w'.ownsRow w.heap.size 5 1 (.slice q ((esc s.data.toList).length + 2) c) ((esc s.data.toList).length + 2) ((esc s.data.toList ++ [0, 0]).map bv) ∧ Below w.heap.size w w' := by
  obtain ⟨C, hC⟩ : ∃ C, C = 2 * s.size + 2 := ⟨_, rfl⟩
  have hmk := run_make_cap (P := Try.prog) 26 5 (.int .u8 0) 1 1 Try.underlying26 infoU8 (2 * (s.size : Int) + 2) C (by omega) (by omega) (by omega)
  have hel := esc_len s.data.toList
  rw [show s.data.toList.length = s.size from by rw [Array.length_toList]; rfl] at hel
  have hown0 := World.ownsRow_made (base := w.heap.size) (e := 5) (size := 1) w (madeCells (Value.int .u8 0).cells (C * 1)) C (Nat.le_refl _) (by unfold maxLen; omega) (by rw [size_madeCells])
  obtain ⟨i0, hi, hz0, hz1, hz2⟩ := info_parts infoU8
  rw [Nat.mul_one] at hown0
  have HC := hid hC
  have Hel := hid hel
  have Hown0 := hid hown0
  clear hC hel hown0
  go_enter Try.func37, Try.ntmps37
  go_wp2_with fail
  clear hmk
  go_loopw [3, 12] (fun v i wr => ∃ k : Nat, k ≤ s.size ∧ i = .int .i64 (k : Int) ∧ wr.ownsRow w.heap.size 5 1 v (esc (s.data.toList.take k)).length ((esc (s.data.toList.take k)).map bv) ∧ Below w.heap.size w wr) (fun _ i _ => s.size - (intOf i).toNat)
  case atStart => exact ⟨0, Nat.zero_le _, rfl, Hown0.out, (Below.refl _ _).alloc (Nat.le_refl _) _⟩
  case round =>
    obtain ⟨k, hk, rfl, hown, hb⟩ := hrel
    obtain ⟨E, hE⟩ : ∃ E, E = esc (s.data.toList.take k) := ⟨_, rfl⟩
    have hEl : E.length ≤ 2 * k := by
      have := esc_len (s.data.toList.take k)
      rw [← hE] at this
      have h2 : (s.data.toList.take k).length ≤ k := List.length_take_le _ _
      omega
    rw [← hE] at hown
    obtain ⟨N, hN⟩ : ∃ N, N = E.length := ⟨_, rfl⟩
    rw [← hN] at hown hEl
    obtain ⟨q, c, rfl, hc, hcm, hq⟩ := own_shape hown
    have Hown := hid hown
    have HE := hid hE
    have HN := hid hN
    have Hb := hid hb
    have hbs := hb.size
    clear hown hE hN hb
    by_cases hlt : k < s.size
    · have hst := str_take s k hlt
      have hsn : esc (s.data.toList.take (k + 1)) = E ++ if s[k] = 0 then [0, 1] else [s[k]] := by rw [hst, esc_snoc, HE.out]
      by_cases h0 : s[k] = 0
      · rw [if_pos h0] at hsn
        have hq0 : ((s[k].toNat : Int) == 0) = true := by rw [h0]; rfl
        have HSN := hid hsn
        have H0 := hid h0
        clear hst hsn h0
        go_wp2_with (first
          | (refine app22 rfl (.tmp 15) (.tmp 19) rfl w.heap.size q N c E rfl (own_below Hown.out ((Below.refl _ _).alloc (Nat.le_refl _) _)) _ 1 1 [s[k]] rfl (fun h => by cases h) rfl (Rd.new _ (([s[k]] : List UInt8).map bv) 5) (by omega) (by simp; omega) ?_; intro q2 c2 w2 g2; have hs2 := g2.below.size; have G2 := hid g2; rw [World.size_alloc] at hs2; clear g2)
          | (refine app22 rfl (.tmp 25) (.tmp 26) rfl w.heap.size q2 (N + 1) c2 (E ++ [s[k]]) rfl (own_below G2.out.own ((Below.refl _ _).alloc (Nat.le_refl _) _)) _ 1 1 [1] rfl (fun h => by cases h) rfl (Rd.new _ (([1] : List UInt8).map bv) 5) (by omega) (by simp; omega) ?_; intro q3 c3 w3 g3; have G3 := hid g3; clear g3))
        go_roundw
        case rel =>
          refine ⟨k + 1, by omega, by go_num, ?_, Hb.out.trans (((((Below.refl _ _).alloc hbs _).trans G2.out.below).alloc (by omega) _).trans G3.out.below)⟩
          rw [HSN.out, List.length_append, ← HN.out]
          have := G3.out.own
          rw [H0.out, List.append_assoc] at this
          exact this
        case measure => simp [intOf]; omega
      · rw [if_neg h0] at hsn
        have hq0 : ((s[k].toNat : Int) == 0) = false := by
          rw [beq_eq_false_iff_ne]; intro e; exact h0 (UInt8.toNat_inj.1 (by simpa using e))
        have HSN := hid hsn
        clear hst hsn h0
        go_wp2_with (refine app22 rfl (.tmp 15) (.tmp 19) rfl w.heap.size q N c E rfl (own_below Hown.out ((Below.refl _ _).alloc (Nat.le_refl _) _)) _ 1 1 [s[k]] rfl (fun h => by cases h) rfl (Rd.new _ (([s[k]] : List UInt8).map bv) 5) (by omega) (by simp; omega) ?_; intro q2 c2 w2 g2; have G2 := hid g2; clear g2)
        go_roundw
        case rel =>
          refine ⟨k + 1, by omega, by go_num, ?_, Hb.out.trans (((Below.refl _ _).alloc hbs _).trans G2.out.below)⟩
          rw [HSN.out, List.length_append, ← HN.out]
          exact G2.out.own
        case measure => simp [intOf]; omega
    · obtain rfl : k = s.size := by omega
      have hE2 : E = esc s.data.toList := by rw [HE.out, List.take_of_length_le (by rw [Array.length_toList]; exact Nat.le_refl _)]
      have HE2 := hid hE2
      clear hE2
      go_wp2_with (refine app22 rfl (.tmp 29) (.tmp 30) rfl w.heap.size q N c E rfl (own_below Hown.out ((Below.refl _ _).alloc (Nat.le_refl _) _)) _ 2 2 [0, 0] rfl (fun h => by cases h) rfl (Rd.new _ (([0, 0] : List UInt8).map bv) 5) (by omega) (by simp; omega) ?_; intro q2 c2 w2 g2)
      go_ret
      rw [← HE2.out, ← HN.out]
      exact ⟨_, _, rfl, g2.own, Hb.out.trans (((Below.refl _ _).alloc hbs _).trans g2.below)⟩
theorem may_any (f : Fact) (w : World) (hk : f.key.size ≤ maxLen) :
    Calls Try.prog 35 #[.agg f.cells.toArray] w fun e w' => e = .returned (.bool (mayF f)) ∧ Below w.heap.size w w' := by
  unfold maxLen at hk
  have hM : mayF f = decide (1 ≤ f.key.size ∧ f.key.size ≤ 32 ∧ 0 < f.seq ∧ f.kind ≤ 1) := rfl
  unfold Fact.cells
  obtain ⟨b, hb⟩ : ∃ b, b = mayF f := ⟨_, rfl⟩
  rw [← hb] at hM ⊢
  clear hb
  obtain ⟨key, valid, seq, line, kind, val⟩ := f
  dsimp only at hM hk ⊢
  have hB : Below w.heap.size w (w.alloc (.cells #[.string key, .int .u32 (valid : Int), .int .u64 (seq : Int), .int .u64 (line : Int), .int .u8 (kind : Int), .string val] 41)) := (Below.refl _ _).alloc (Nat.le_refl _) _
  have HB := hid hB
  clear hB
  by_cases h1 : 1 ≤ key.size
  · have b1 : decide ((1 : Int) ≤ (key.size : Int)) = true := by simp; omega
    by_cases h2 : key.size ≤ 32
    · have b2 : decide ((key.size : Int) ≤ 32) = true := by simp; omega
      by_cases h3 : 0 < seq
      · have hM2 : b = decide ((kind : Int) ≤ 1) := by rw [hM]; simp [h1, h2, h3]; omega
        have HM := hid hM2
        clear hM hM2
        go_enter Try.func35, Try.ntmps35
        go_wp2
        all_goals
          go_ret
          refine ⟨?_, HB.out⟩
          rw [HM.out]
          try rfl
      · have hM2 : b = false := by rw [hM]; simp; omega
        subst hM2
        obtain rfl : seq = 0 := by omega
        clear hM h3
        go_enter Try.func35, Try.ntmps35
        go_wp2
        go_ret
        exact ⟨rfl, HB.out⟩
    · have b2 : decide ((key.size : Int) ≤ 32) = false := by simp; omega
      have hM2 : b = false := by rw [hM]; simp; omega
      subst hM2
      clear hM h2
      go_enter Try.func35, Try.ntmps35
      go_wp2
      go_ret
      exact ⟨rfl, HB.out⟩
  · have b1 : decide ((1 : Int) ≤ (key.size : Int)) = false := by simp; omega
    have hM2 : b = false := by rw [hM]; simp; omega
    subst hM2
    clear hM h1
    go_enter Try.func35, Try.ntmps35
    go_wp2
    go_ret
    exact ⟨rfl, HB.out⟩
end Go.Proofs.Herb
