
/- slices.BinarySearch at texts that rise: whether a text is among them. -/
import Derived.Test.YtnkkfdlmcpnokaaUnd
namespace Go.Proofs.Herb
open Go.RowKit
theorem nan_s (x : ByteArray) (w : World) : Calls Try.prog 44 #[.string x] w fun e w' => e = .returned (.bool false) ∧ w' = w := by
  go_enter Try.func44, Try.ntmps44
  go_wp2
  go_ret
  exact ⟨by simp, rfl⟩
theorem snan_s (x : ByteArray) (w : World) : Calls Try.prog 34 #[.string x] w fun e w' => e = .returned (.bool false) ∧ w' = w := by
  go_enter Try.func34, Try.ntmps34
  go_wp2
  go_ret
  exact ⟨by simp, rfl⟩
theorem less_s (x y : ByteArray) (w : World) : Calls Try.prog 33 #[.string x, .string y] w fun e w' => e = .returned (.bool (ltS x y)) ∧ w' = w := by
  have e : ltS x y = Op.bytesLess x.toList y.toList := by unfold ltS; rw [ByteArray.toList_eq, ByteArray.toList_eq]
  rw [e]
  clear e
  go_enter Try.func33, Try.ntmps33
  go_wp2_with (go_at_call 44; refine (nan_s _ _).mono ?_; rintro e w' ⟨rfl, rfl⟩)
  go_ret
  exact ⟨rfl, rfl⟩
def kD (K : List ByteArray) (t : Nat) : ByteArray := K.getD t ⟨#[]⟩
theorem kD_get {K : List ByteArray} {t : Nat} (h : t < K.length) : kD K t = K[t] := by simp [kD, h]
theorem kD_rise {K : List ByteArray} (h : StrictS K) {a b : Nat} (hab : a < b) (hb : b < K.length) : ltS (kD K a) (kD K b) = true := by
  rw [kD_get hb, kD_get (by omega)]
  exact List.pairwise_iff_getElem.1 h a b (by omega) hb hab
theorem in_end {K : List ByteArray} (h : StrictS K) {x : ByteArray} {lo : Nat} (hl : lo ≤ K.length) (h1 : ∀ t, t < lo → ltS (kD K t) x = true) (h2 : ∀ t, lo ≤ t → t < K.length → ltS (kD K t) x = false) : inS x K = decide (lo < K.length ∧ kD K lo = x) := by
  rw [Bool.eq_iff_iff, inS_iff, decide_eq_true_iff]
  constructor
  · intro hx
    obtain ⟨t, ht, rfl⟩ := List.mem_iff_getElem.1 hx
    rw [← kD_get ht] at h1 h2 ⊢
    have h3 : ¬ t < lo := fun e => by have := h1 t e; rw [ltS_irrefl] at this; cases this
    have h4 : t = lo := by
      rcases Nat.lt_or_ge lo t with e | e
      · have h5 := h2 lo (Nat.le_refl _) (by omega)
        rw [kD_rise h e ht] at h5; cases h5
      · omega
    subst h4
    exact ⟨ht, rfl⟩
  · rintro ⟨h3, rfl⟩
    rw [kD_get h3]
    exact List.getElem_mem h3
set_option maxHeartbeats 4000000 in
set_option maxRecDepth 100000 in
theorem bsearch_s (q : Option Addr) (n c : Nat) (K : List ByteArray) (x : ByteArray) (w : World) (hn : K.length = n) (hm : n ≤ 1000000) (hr : Rd w q (strs K)) (hs : StrictS K) :
    Calls Try.prog 21 #[.slice q n c, .string x] w fun e w' => ∃ i : Nat, e = .returned (.tuple #[.int .i64 i, .bool (inS x K)]) ∧ w' = w := by
  have HN := hid hn
  have HR := hid hr
  have HS := hid hs
  clear hn hr hs
  go_enter Try.func21, Try.ntmps21
  go_wp2
  go_loopw [7, 8] (fun s7 s8 wr => ∃ lo hi : Nat, s7 = .int .i64 lo ∧ s8 = .int .i64 hi ∧ lo ≤ hi ∧ hi ≤ n ∧ wr = w ∧ Hid ((∀ t, t < lo → ltS (kD K t) x = true) ∧ ∀ t, hi ≤ t → t < n → ltS (kD K t) x = false)) (fun s7 s8 _ => (intOf s8).toNat - (intOf s7).toNat)
  case atStart => exact ⟨0, n, rfl, rfl, Nat.zero_le _, Nat.le_refl _, rfl, fun t ht => absurd ht (Nat.not_lt_zero _), fun t h1 h2 => by omega⟩
  case round =>
    obtain ⟨lo, hi, rfl, rfl, hlh, hin, rfl, HI⟩ := hrel
    have cellAt : ∀ t, t < n → ∃ b off, q = some ⟨b, off, none⟩ ∧ wr.cell? ⟨b, off + t, none⟩ = some (.string (kD K t)) := fun t ht => by
      obtain ⟨b, off, e1, e2⟩ := HR.out.cell (k := t) (by simp [strs]; rw [HN.out]; exact ht)
      refine ⟨b, off, e1, e2.trans ?_⟩
      rw [kD_get (by rw [HN.out]; exact ht)]
      simp [strs]
    by_cases hlt : lo < hi
    · obtain ⟨b, off, rfl, cm⟩ := cellAt ((lo + hi) / 2) (by omega)
      clear cellAt
      obtain ⟨y, hy⟩ : ∃ y, y = kD K ((lo + hi) / 2) := ⟨_, rfl⟩
      rw [← hy] at cm
      have HY := hid hy
      clear hy
      cases hyx : ltS y x with
      | true =>
        have HYX := hid hyx
        go_wp2_with (first | (go_at_call 33; refine (less_s _ _ _).mono ?_; rintro e w' ⟨rfl, rfl⟩; rw [hyx]) | (go_at_call 34; refine (snan_s _ _).mono ?_; rintro e w' ⟨rfl, rfl⟩))
        go_roundw
        case rel =>
          refine ⟨(lo + hi) / 2 + 1, hi, by go_num, rfl, by omega, hin, trivial, fun t ht => ?_, HI.out.2⟩
          rcases Nat.lt_or_ge t ((lo + hi) / 2) with e | e
          · have h1 := kD_rise HS.out e (by rw [HN.out]; omega)
            rw [← HY.out] at h1
            exact ltS_trans h1 HYX.out
          · obtain rfl : t = (lo + hi) / 2 := by omega
            rw [← HY.out]; exact HYX.out
        case measure => simp [intOf]; omega
      | false =>
        have HYX := hid hyx
        go_wp2_with (first | (go_at_call 33; refine (less_s _ _ _).mono ?_; rintro e w' ⟨rfl, rfl⟩; rw [hyx]) | (go_at_call 34; refine (snan_s _ _).mono ?_; rintro e w' ⟨rfl, rfl⟩))
        go_roundw
        case rel =>
          refine ⟨lo, (lo + hi) / 2, rfl, by go_num, by omega, by omega, trivial, HI.out.1, fun t ht htn => ?_⟩
          rcases Nat.lt_or_ge ((lo + hi) / 2) t with e | e
          · have h1 := kD_rise HS.out e (by rw [HN.out]; exact htn)
            rw [← HY.out] at h1
            cases h2 : ltS (kD K t) x with
            | false => rfl
            | true => have h3 := ltS_trans h1 h2; rw [HYX.out] at h3; cases h3
          · obtain rfl : t = (lo + hi) / 2 := by omega
            rw [← HY.out]; exact HYX.out
        case measure => simp [intOf]; omega
    · obtain rfl : hi = lo := by omega
      have HE := hid (in_end HS.out (x := x) (lo := hi) (by rw [HN.out]; exact hin) HI.out.1 (by rw [HN.out]; exact HI.out.2))
      by_cases hnn : hi < n
      · obtain ⟨b, off, rfl, cm⟩ := cellAt hi hnn
        clear cellAt
        obtain ⟨y, hy⟩ : ∃ y, y = kD K hi := ⟨_, rfl⟩
        rw [← hy] at cm
        have HY := hid hy
        clear hy
        by_cases hyx : y = x
        · subst hyx
          go_wp2_with (go_at_call 34; refine (snan_s _ _).mono ?_; rintro e w' ⟨rfl, rfl⟩)
          go_ret2
          refine ⟨hi, ?_, rfl⟩
          rw [HE.out, decide_eq_true ⟨by rw [HN.out]; exact hnn, HY.out.symm⟩]
          rfl
        · have hne : (y.toList == x.toList) = false := beq_eq_false_iff_ne.2 fun e => hyx (ba_eq (by rw [← ByteArray.toList_eq, ← ByteArray.toList_eq]; exact e))
          go_wp2_with (go_at_call 34; refine (snan_s _ _).mono ?_; rintro e w' ⟨rfl, rfl⟩)
          go_ret2
          refine ⟨hi, ?_, rfl⟩
          rw [HE.out, decide_eq_false (fun h => hyx (HY.out.trans h.2))]
          rfl
      · clear cellAt
        go_wp2_with (go_at_call 34; refine (snan_s _ _).mono ?_; rintro e w' ⟨rfl, rfl⟩)
        go_ret2
        refine ⟨hi, ?_, rfl⟩
        rw [HE.out, decide_eq_false (fun h => hnn (by rw [← HN.out]; exact h.1))]
        rfl
end Go.Proofs.Herb
