/- The contracts of the laws' SameTexts (of one list), same, has, changes and played. For disks as DiskAt says. -/
import Derived.Test.YtobgcapekongbaaDskN
import Derived.Test.YtobgcapekongbaaCrr
import Derived.Test.YtobgcapekongbaaOpA
import Derived.Laws.IdiomStrings
namespace Go.Proofs.Herb
open Go.RowKit Go.Sort
set_option maxRecDepth 100000 in
set_option maxHeartbeats 800000 in
theorem texts_true (a b : Option Addr) (n c d : Nat) (l : List (List UInt8)) (w : World) (hn : l.length = n) (hn' : n ≤ 4611686018427387904) (hr : Rd w a (l.map encStr)) (hs : Rd w b (l.map encStr)) :
    Calls Try.prog 48 #[.slice a n c, .slice b n d] w fun e w' => e = .returned (.bool true) ∧ Below w.heap.size w w' := by
  have Hn := hid hn
  have Hr := hid hr
  have Hs := hid hs
  have hnn : (((n : Int)) == (n : Int)) = true := by simp
  clear hn hr hs
  go_enter Try.func48, Try.ntmps48
  go_wp2
  go_loopw [5] (fun i wr => ∃ j : Nat, j ≤ n ∧ i = .int .i64 j ∧ Below w.heap.size w wr)
    (fun i _ => n - (intOf i).toNat)
  case atStart => exact ⟨0, by omega, rfl, Below.refl _ _⟩
  case round =>
    obtain ⟨j, hj1, rfl, hb⟩ := hrel
    have Hb := hid hb
    clear hb
    by_cases hjn : j < n
    · obtain ⟨b1, o1, rfl, hb1, hc1⟩ := Hr.out.cellB Hb.out (k := j) (by simp; have := Hn.out; omega)
      obtain ⟨b2, o2, rfl, hb2, hc2⟩ := Hs.out.cellB Hb.out (k := j) (by simp; have := Hn.out; omega)
      have i1 : (0 : Int) ≤ (j : Int) := by omega
      have i2 : (j : Int) < (n : Int) := by omega
      rw [List.getElem_map] at hc1 hc2
      obtain ⟨p, hp⟩ : ∃ p : ByteArray, encStr (l[j]'(by have := Hn.out; omega)) = .string p := ⟨_, rfl⟩
      rw [hp] at hc1 hc2
      have hbb := seq (rfl : p = p)
      clear hp
      go_wp2
      go_quiet (fail)
      go_wp2
      go_roundw
      case rel => exact ⟨j + 1, by omega, by go_num, below_drewN Hb.out _⟩
      case measure => simp [intOf]; omega
    · obtain rfl : j = n := by omega
      go_wp2
      go_ret
      exact ⟨rfl, Hb.out⟩
theorem sameTexts_true (a b : Option Addr) (n c d : Nat) (l : List (List UInt8)) (w : World) (hn : l.length = n) (hn' : n ≤ 4611686018427387904) (hr : Rd w a (l.map encStr)) (hs : Rd w b (l.map encStr)) :
    Calls Try.prog 18 #[.slice a n c, .slice b n d] w fun e w' => e = .returned (.bool true) ∧ Below w.heap.size w w' := by
  have H := hid (texts_true a b n c d l w hn hn' hr hs)
  clear hn hn' hr hs
  go_enter Try.func18, Try.ntmps18
  go_wp2_with (go_at_call 48; refine H.out.mono ?_; rintro e w1 ⟨rfl, hb⟩)
  go_ret
  exact ⟨rfl, hb⟩
theorem sameBytes_true (a b : Option Addr) (n c d : Nat) (l : List UInt8) (w : World) (hn : l.length = n) (hn' : n ≤ 4611686018427387904) (hr : Rd w a (l.map bv)) (hs : Rd w b (l.map bv)) :
    Calls Try.prog 21 #[.slice a n c, .slice b n d] w fun e w' => e = .returned (.bool true) ∧ Below w.heap.size w w' := by
  have H := equal_bytes a b n c n d l l w hn hn hn' hn' hr hs
  rw [show (l == l) = true from beq_self_eq_true l] at H
  have H := hid H
  clear hn hn' hr hs
  go_enter Try.func21, Try.ntmps21
  go_wp2_with (go_at_call 51; refine H.out.mono ?_; rintro e w1 ⟨rfl, hb⟩)
  go_ret
  exact ⟨rfl, hb⟩
theorem DsOk.bytes {s : DS} {n : Nat} (h : DsOk s n) : ∀ f ∈ s.files, f.b.length ≤ 4194304 := fun f hf => (h.sure f hf).2
theorem readL_le {s : DS} {n : Nat} (h : DsOk s n) (k : ByteArray) : (readL s k).length ≤ 4194304 := by
  unfold readL fileL
  split
  · cases hf : s.files[(look s.names k).getD 0]? with
    | none => simp
    | some f => simpa using (h.sure f (List.mem_of_getElem? hf)).2
  · simp
theorem sorted_many {s : DS} {n : Nat} (h : DsOk s n) : (sortedK s.names).length ≤ n := by rw [sortedK_len]; exact h.good.many
theorem knownE_size {s : DS} {k : ByteArray} (h : knownE s k = 0) : k.size ≤ maxLen := by
  have := (may_size (knownE_zero h).2.1).2
  unfold maxLen; omega
set_option maxRecDepth 100000 in
set_option maxHeartbeats 1600000 in
theorem same_true (m1 m2 : DM) (s1 s2 : DS) (n1 n2 : Nat) (w : World) (h1 : DiskAt w m1 s1) (h2 : DiskAt w m2 s2) (o1 : DsOk s1 n1) (o2 : DsOk s2 n2) (hn1 : n1 ≤ 1000000000) (hn2 : n2 ≤ 1000000000) (hs : SameS s1 s2) :
    Calls Try.prog 14 #[.pointer (some ⟨m1.D, 0, none⟩), .pointer (some ⟨m2.D, 0, none⟩)] w fun e w' => e = .returned (.bool true) ∧ Below w.heap.size w w' := by
  obtain ⟨hs1, hs2⟩ := hs
  have k1 := o1.good.keysOk (Nat.le_trans o1.files hn1) hn1
  have k2 := o2.good.keysOk (Nat.le_trans o2.files hn2) hn2
  have hm := Nat.le_trans (sorted_many o1) hn1
  obtain ⟨N, hN⟩ : ∃ N, N = (sortedK s1.names).length := ⟨_, rfl⟩
  rw [← hN] at hm
  have H1 := hid h1
  have H2 := hid h2
  have O1 := hid o1
  have O2 := hid o2
  have K1 := hid k1
  have K2 := hid k2
  have HN := hid hN
  have HS1 := hid hs1
  have HS2 := hid hs2
  clear h1 h2 o1 o2 k1 k2 hN hs1 hs2
  go_enter Try.func14, Try.ntmps14
  go_wp2_with (first
    | (go_at_call 12; (with_reducible refine (list_any m1 s1 w H1.out K1.out).mono ?_); rintro e w1 ⟨q1, rfl, hF1, hB1⟩; rw [← HN.out] at hF1 ⊢; have HF1 := hid hF1; have HB1 := hid hB1; clear hF1 hB1)
    | (go_at_call 12; (with_reducible refine (list_any m2 s2 w1 (H2.out.below HB1.out) K2.out).mono ?_); rintro e w2 ⟨q2, rfl, hF2, hB2⟩; rw [← HS1.out, ← HN.out] at hF2 ⊢; have HF2 := hid hF2; have HB2 := hid hB2; clear hF2 hB2)
    | (go_at_call 18; (with_reducible refine (sameTexts_true q1 q2 N N N (sortedK s1.names) w2 HN.out.symm (by omega) (HF1.out.rd.below HB2.out) HF2.out.rd).mono ?_); rintro e w3 ⟨rfl, hB3⟩; have HB3 := hid hB3; clear hB3))
  have HB := hid ((HB1.out.trans (HB2.out.mono HB1.out.size)).trans (HB3.out.mono (Nat.le_trans HB1.out.size HB2.out.size)))
  have HR := hid ((HF1.out.rd.below HB2.out).below HB3.out)
  go_loopw [6] (fun i wr => ∃ j : Nat, j ≤ N ∧ i = .int .i64 j ∧ Below w.heap.size w wr ∧ Below w3.heap.size w3 wr)
    (fun i _ => N - (intOf i).toNat)
  case atStart => exact ⟨0, by omega, rfl, HB.out, Below.refl _ _⟩
  case round =>
    obtain ⟨j, hj1, rfl, hb, hb3⟩ := hrel
    have Hb := hid hb
    have Hb3 := hid hb3
    clear hb hb3
    by_cases hjn : j < N
    · obtain ⟨b1, o1, k, rfl, hc1, hk⟩ := names_at (HR.out.below Hb3.out) (by rw [← HN.out]; exact hjn)
      obtain ⟨e1, e2, e3⟩ := HS2.out k (List.mem_of_getElem? hk)
      have i1 : (0 : Int) ≤ (j : Int) := by omega
      have i2 : (j : Int) < (N : Int) := by omega
      have hks := knownE_size e1
      have E1 := hid e1
      have E2 := hid e2
      have E3 := hid e3
      have hle := readL_le O1.out k
      obtain ⟨R, hR⟩ : ∃ R, R = readL s1 k := ⟨_, rfl⟩
      obtain ⟨rn, hrn⟩ : ∃ rn, rn = R.length := ⟨_, rfl⟩
      rw [← hR, ← hrn] at hle
      have HR1 := hid hR
      have Hrn := hid hrn
      clear e1 e2 e3 hk hR hrn
      go_wp2_with (first
        | (go_at_call 19; (with_reducible refine (read_clip m1 s1 k hks wr (H1.out.below Hb.out) O1.out.good.ok O1.out.bytes).mono ?_); rintro e w4 ⟨q4, rfl, hF4, hB4⟩; rw [E1.out, ← HR1.out, ← Hrn.out]; rw [← HR1.out, ← Hrn.out] at hF4; have HF4 := hid hF4; have HB4 := hid hB4; have hc2 := (hB4.cell (World.block_lt_of_cell? wr _ hc1)).trans hc1; clear hF4 hB4)
        | (go_at_call 19; (with_reducible refine (read_clip m2 s2 k hks w4 (H2.out.below (Hb.out.trans (HB4.out.mono Hb.out.size))) O2.out.good.ok O2.out.bytes).mono ?_); rintro e w5 ⟨q5, rfl, hF5, hB5⟩; rw [E2.out, ← E3.out, ← HR1.out, ← Hrn.out]; rw [← E3.out, ← HR1.out, ← Hrn.out] at hF5; have HF5 := hid hF5; have HB5 := hid hB5; clear hF5 hB5)
        | (go_at_call 21; (with_reducible refine (sameBytes_true q4 q5 rn rn rn R w5 Hrn.out.symm (by omega) (HF4.out.rd.below HB5.out) HF5.out.rd).mono ?_); rintro e w6 ⟨rfl, hB6⟩; have HB6 := hid hB6; clear hB6))
      have hx := (HB4.out.trans (HB5.out.mono HB4.out.size)).trans (HB6.out.mono (Nat.le_trans HB4.out.size HB5.out.size))
      have HX := hid hx
      clear hx
      go_roundw
      case rel => exact ⟨j + 1, by omega, by go_num, Hb.out.trans (HX.out.mono Hb.out.size), Hb3.out.trans (HX.out.mono Hb3.out.size)⟩
      case measure => simp [intOf]; omega
    · obtain rfl : j = N := by omega
      go_wp2
      go_ret
      exact ⟨rfl, Hb.out⟩
end Go.Proofs.Herb
