/- The contract of the reference's none (frames), and what One answers: plain. For slices that can be read. -/
import Derived.Test.YtklhnncjgkbelaaDoorRef
import Derived.Test.YtklhnncjgkbelaaDoorGetP
import Derived.Deep.QuietTactic
import Derived.BigQuiet
import Derived.Deep.Cut
namespace Go.Proofs.Herb
open Go.RowKit
theorem zeros_take {l : List UInt8} {k : Nat} (h : k < l.length) (hz : zeros (l.take k) = true) (x : UInt8) (hx : l[k]? = some x) : zeros (l.take (k + 1)) = (x == 0) := by
  unfold zeros at *
  rw [List.take_succ_eq_append_getElem h, List.all_append, hz]
  rw [List.getElem?_eq_getElem h] at hx
  cases hx
  simp
theorem zeros_no {l : List UInt8} {k : Nat} (h : zeros (l.take k) = false) : zeros l = false := by
  unfold zeros at *
  rw [Bool.eq_false_iff] at *
  intro h2
  exact h (List.all_eq_true.2 fun x hx => List.all_eq_true.1 h2 x (List.mem_of_mem_take hx))
set_option maxRecDepth 100000 in
set_option maxHeartbeats 1000000 in
theorem ref_none (a : Option Addr) (n c : Nat) (l : List UInt8) (w : World) (hn : l.length = n) (hm : n ≤ 4611686018427387904) (hr : Rd w a (l.map bv)) :
    Calls Tryd.prog 31 #[.slice a n c] w fun e w' => e = .returned (.bool (zeros l)) ∧ w = w' := by
  have Hn := hid hn
  have Hr := hid hr
  clear hn hr
  go_enter Tryd.func31, Tryd.ntmps31
  go_wp2_with fail
  go_loopw [3] (fun i wr => ∃ k : Nat, k ≤ n ∧ i = .int .i64 (k : Int) ∧ zeros (l.take k) = true ∧ wr = w) (fun i _ => n - (intOf i).toNat)
  case atStart => exact ⟨0, Nat.zero_le _, rfl, rfl, rfl⟩
  case round =>
    obtain ⟨k, hk, rfl, hz, rfl⟩ := hrel
    have HZ := hid hz
    clear hz
    by_cases hlt : k < n
    · obtain ⟨b, o, rfl, hc⟩ := Hr.out.cell (k := k) (by rw [List.length_map, Hn.out]; exact hlt)
      obtain ⟨x, hx⟩ : ∃ x, x = l[k]'(by rw [Hn.out]; exact hlt) := ⟨_, rfl⟩
      rw [List.getElem_map, ← hx] at hc
      unfold bv at hc
      have HX := hid (show l[k]? = some x by rw [List.getElem?_eq_getElem (by rw [Hn.out]; exact hlt), ← hx])
      have hx8 := x.toNat_lt
      have i0 : (0 : Int) ≤ (k : Int) := by omega
      have i1 : (k : Int) < (n : Int) := by omega
      have HT := hid (zeros_take (by rw [Hn.out]; exact hlt) HZ.out x HX.out)
      by_cases h0 : x = 0
      · subst h0
        clear hx
        have hc' : wr.cell? ⟨b, o + k, none⟩ = some (.int .u8 0) := hc
        clear hc
        go_wp2
        go_roundw
        case rel => exact ⟨k + 1, by omega, by go_num, HT.out, trivial⟩
        case measure => simp [intOf]; omega
      · have d : ((x.toNat : Int) != 0) = true := by
          have h1 : x.toNat ≠ 0 := fun h => h0 (UInt8.toNat_inj.1 (by rw [h]; rfl))
          simp; omega
        have HF := hid (show zeros l = false from zeros_no (k := k + 1) (by rw [HT.out]; simpa using h0))
        clear hx
        go_wp2
        go_ret
        exact ⟨by rw [HF.out]; rfl, rfl⟩
    · obtain rfl : n = k := by omega
      have HF := hid (show zeros l = true by have h := HZ.out; rwa [List.take_of_length_le (by rw [Hn.out]; exact Nat.le_refl _)] at h)
      go_wp2
      go_ret
      exact ⟨by rw [HF.out]; rfl, rfl⟩
theorem results_tmp4 {fn : Func} {t u v x : Tmp} (h : fn.results = #[.tmp t, .tmp u, .tmp v, .tmp x]) (tmps : Array Value) (P : Program) (w : World) :
    (results fn tmps).run P w = .ok (.tuple #[tmps.getD t undef, tmps.getD u undef, tmps.getD v undef, tmps.getD x undef]) w := by
  simp [results, h]
def badB (co : Bool) (K N RM had : Nat) : Bool := !co || (decide (RM < N) || ((decide (N < RM) && (K == 2 || K == 3)) || ((N == 0 && K == 4) || decide (65536 < had + N))))
/-- one part at a place, by definition -/
def oneR (b : List UInt8) (at_ : Nat) (begun : Bool) (had : Nat) : UInt8 × List UInt8 × Nat × Int :=
  if zeros ((b.drop at_).take (gapN at_)) = false then (0, [], 0, 4) else
  if b.length < at_ + gapN at_ + 7 then (0, [], 0, 5) else
  let h := (b.drop (at_ + gapN at_)).take 7
  let k := h.getD 6 0
  let n := (h.getD 4 0).toNat + 256 * (h.getD 5 0).toNat
  let x := (b.drop (at_ + gapN at_ + 7)).take n
  if fitsB k.toNat begun n (roomN at_) had = false then (0, [], 0, 4) else
  if b.length < at_ + gapN at_ + 7 + n then (0, [], 0, 5) else
  if h ≠ headList k x then (0, [], 0, 6) else (k, x, at_ + gapN at_ + 7 + n, 0)
theorem gap_le (n : Nat) : gapN n ≤ 6 := by unfold gapN; split <;> omega
theorem zeros_nil : zeros [] = true := rfl
theorem gap_room (n : Nat) : (n + gapN n) % 256 ≤ 249 := by unfold gapN; split <;> omega
def comesB (begun : Bool) (K : Nat) : Bool := if begun then K == 3 || K == 4 else K == 1 || K == 2
theorem fits_bad {begun : Bool} {K N RM had : Nat} (h0 : begun = false → had = 0) (hr : RM ≤ 249) : fitsB K begun N RM had = !(badB (comesB begun K) K N RM had) := by
  unfold fitsB badB comesB
  rw [Bool.eq_iff_iff]
  cases begun with
  | false =>
    have h1 := h0 rfl
    subst h1
    by_cases k1 : K = 1
    · subst k1; simp; omega
    · by_cases k2 : K = 2
      · subst k2; simp; omega
      · by_cases k3 : K = 3
        · subst k3; simp
        · by_cases k4 : K = 4
          · subst k4; simp
          · simp [k1, k2, k3, k4]
  | true =>
    by_cases k1 : K = 1
    · subst k1; simp
    · by_cases k2 : K = 2
      · subst k2; simp
      · by_cases k3 : K = 3
        · subst k3; simp; omega
        · by_cases k4 : K = 4
          · subst k4; simp; omega
          · simp [k1, k2, k3, k4]
theorem head_get {l : List UInt8} {E i : Nat} (hi : i < 7) (h : E + i < l.length) : ((l.drop E).take 7)[i]? = some l[E + i] := by
  rw [List.getElem?_take, if_pos hi, List.getElem?_drop, List.getElem?_eq_getElem h]
theorem head_getD {l : List UInt8} {E i : Nat} (hi : i < 7) (h : E + i < l.length) : ((l.drop E).take 7).getD i 0 = l[E + i] := by
  rw [List.getD_eq_getElem?_getD, head_get hi h]; rfl
theorem head_eq {l x : List UInt8} {E : Nat} {k : UInt8} (h7 : E + 7 ≤ l.length) (hk : k = l[E + 6]) (hx : x.length = l[E + 4].toNat + 256 * l[E + 5].toNat) :
    (l.drop E).take 7 = headList k x ↔ ∀ i, i < 4 → (partB k x)[i]? = l[E + i]? := by
  have hl : (headList k x).length = 7 := rfl
  have hp : ∀ i, i < 7 → (partB k x)[i]? = (headList k x)[i]? := fun i hi => by unfold partB; rw [List.getElem?_append_left (by rw [hl]; exact hi)]
  constructor
  · intro h i hi
    rw [hp i (by omega), ← h, head_get (by omega) (by omega), List.getElem?_eq_getElem (by omega)]
  · intro h
    refine List.ext_getElem? fun i => ?_
    rcases Nat.lt_or_ge i 7 with hi | hi
    · rw [head_get hi (by omega)]
      rcases Nat.lt_or_ge i 4 with h4 | h4
      · have := h i h4
        rw [hp i (by omega), List.getElem?_eq_getElem (show E + i < l.length by omega)] at this
        exact this.symm
      · have b4 := (l[E + 4]).toNat_lt
        have b5 := (l[E + 5]).toNat_lt
        rcases (show i = 4 ∨ i = 5 ∨ i = 6 by omega) with rfl | rfl | rfl
        · show some l[E + 4] = some (UInt8.ofNat x.length)
          rw [hx]
          congr 1
          refine UInt8.toNat_inj.1 ?_
          rw [UInt8.toNat_ofNat']; omega
        · show some l[E + 5] = some (UInt8.ofNat (x.length / 256))
          rw [hx]
          congr 1
          refine UInt8.toNat_inj.1 ?_
          rw [UInt8.toNat_ofNat']; omega
        · show some l[E + 6] = some k
          rw [hk]
    · rw [List.getElem?_eq_none (by rw [List.length_take]; omega), List.getElem?_eq_none (by rw [hl]; exact hi)]
theorem take_min {l : List UInt8} {g m : Nat} (h : m = min g l.length) : l.take m = l.take g := by
  rw [h]
  rcases Nat.le_total g l.length with q | q
  · rw [Nat.min_eq_left q]
  · rw [Nat.min_eq_right q, List.take_of_length_le (Nat.le_refl _), List.take_of_length_le q]
end Go.Proofs.Herb
