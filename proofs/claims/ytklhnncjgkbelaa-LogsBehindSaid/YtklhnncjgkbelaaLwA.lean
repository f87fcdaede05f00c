/- The contract of LogsAdd: it answers true. For slices that can be read. -/
import Derived.Test.YtklhnncjgkbelaaLiv
namespace Go.Proofs.Herb
open Go.RowKit
/-! what the laws compare by -/
theorem same_bytes (a b : Option Addr) (n c m d : Nat) (l k : List UInt8) (w : World) (hn : l.length = n) (hm : k.length = m) (hn' : n ≤ 4611686018427387904) (hm' : m ≤ 4611686018427387904) (hr : Rd w a (l.map bv)) (hs : Rd w b (k.map bv)) :
    Calls Try.prog 13 #[.slice a n c, .slice b m d] w fun e w' => e = .returned (.bool (l == k)) ∧ Below w.heap.size w w' := by
  have H := hid (equal_bytes a b n c m d l k w hn hm hn' hm' hr hs)
  clear hn hm hr hs
  go_enter Try.func13, Try.ntmps13
  go_wp2_with (go_at_call 32; refine H.out.mono ?_; rintro e w1 ⟨rfl, hb⟩)
  go_ret
  exact ⟨rfl, hb⟩
theorem twin_bytes (a : Option Addr) (n c : Nat) (l : List UInt8) (w : World) (hn : l.length = n) (hm : n ≤ 4194304) (hr : Rd w a (l.map bv)) :
    Calls Try.prog 9 #[.slice a n c] w fun e w' => ∃ g, e = .returned (.slice (some ⟨g, 0, none⟩) n (n + 2)) ∧ w.heap.size ≤ g ∧ w'.heap[g]? = some (.cells ((l ++ [90, 90]).map bv).toArray 5 (0, 0)) ∧ Below w.heap.size w w' := by
  have H := hid (copied_bytes a n c 90 l w hn hm hr)
  clear hn hr
  go_enter Try.func9, Try.ntmps9
  go_wp2_with (go_at_call 26; refine H.out.mono ?_; rintro e w1 ⟨g, rfl, hg, hh, hb⟩; have HH := hid hh; clear hh)
  go_ret
  exact ⟨g, rfl, hg, HH.out, hb⟩
theorem left_bytes (a : Option Addr) (g n c : Nat) (l : List UInt8) (w : World) (hn : l.length = n) (hm : n ≤ 4194304) (hr : Rd w a (l.map bv)) (hg : w.heap[g]? = some (.cells ((l ++ [90, 90]).map bv).toArray 5 (0, 0))) :
    Calls Try.prog 14 #[.slice (some ⟨g, 0, none⟩) n (n + 2), .slice a n c] w fun e w' => e = .returned (.bool true) ∧ Below w.heap.size w w' := by
  have H := hid (kept_bytes a g n c 90 l w hn hm hr hg)
  clear hn hr hg
  go_enter Try.func14, Try.ntmps14
  go_wp2_with (go_at_call 33; refine H.out.mono ?_; rintro e w1 ⟨rfl, hb⟩)
  go_ret
  exact ⟨rfl, hb⟩
theorem ref_put_big (at_ : Nat) (a : Option Addr) (n c : Nat) (w : World) (hm : 65536 < n) :
    Calls Try.prog 28 #[.int .i64 (at_ : Int), .slice a n c] w fun e w' => e = .returned (.tuple #[.slice none 0 0, .int .i64 3]) ∧ w = w' := by
  have b1 : decide ((65536 : Int) < (n : Int)) = true := by simp; omega
  go_enter Try.func28, Try.ntmps28
  go_wp2
  go_ret2
  exact ⟨rfl, rfl⟩
theorem ref_with_big (ab : Option Addr) (nb cb : Nat) (a : Option Addr) (n c : Nat) (w : World) (hm : 65536 < n) :
    Calls Try.prog 11 #[.slice ab nb cb, .slice a n c] w fun e w' => e = .returned (.tuple #[.slice none 0 0, .int .i64 3]) ∧ w = w' := by
  go_enter Try.func11, Try.ntmps11
  go_wp2_with (go_at_call 28; refine (ref_put_big nb a n c w hm).mono ?_; rintro e w1 ⟨rfl, rfl⟩)
  go_ret2
  exact ⟨rfl, rfl⟩
theorem twin_rd {w : World} {g : Nat} {l : List UInt8} (h : w.heap[g]? = some (.cells ((l ++ [90, 90]).map bv).toArray 5 (0, 0))) : Rd w (some ⟨g, 0, none⟩) (l.map bv) :=
  Rd.block h (fun j u hu => by
    rw [Nat.zero_add, List.getElem?_toArray, List.map_append, List.getElem?_append_left (by simpa using (List.getElem?_eq_some_iff.1 hu).1)]
    exact hu)
/-! LogsAdd -/
section
variable (ab : Option Addr) (nb cb : Nat) (b : List UInt8) (a : Option Addr) (n c : Nat) (l : List UInt8) (r : Nat) (w : World)
set_option maxRecDepth 100000 in
set_option maxHeartbeats 800000 in
theorem logsAdd_short (h : 20000 < nb ∨ (3000 < n ∧ n ≤ 65536) ∨ 70000 < n) :
    Calls Try.prog 3 #[.slice ab nb cb, .slice a n c, .int .u16 (r : Int)] w fun e w' => e = .returned (.bool true) ∧ Below w.heap.size w w' := by
  by_cases h1 : 20000 < nb
  · have b1 : decide ((20000 : Int) < (nb : Int)) = true := by simp; omega
    go_enter Try.func3, Try.ntmps3
    go_wp2_with (go_at_call 7; refine (lives_any w).mono ?_; rintro e w1 ⟨rfl, hb⟩)
    go_ret
    exact ⟨rfl, hb⟩
  · have b1 : decide ((20000 : Int) < (nb : Int)) = false := by simp; omega
    by_cases h2 : 3000 < n ∧ n ≤ 65536
    · have b2 : decide ((3000 : Int) < (n : Int)) = true := by simp; omega
      have b3 : decide ((n : Int) ≤ 65536) = true := by simp; omega
      go_enter Try.func3, Try.ntmps3
      go_wp2_with (go_at_call 7; refine (lives_any w).mono ?_; rintro e w1 ⟨rfl, hb⟩)
      go_ret
      exact ⟨rfl, hb⟩
    · have h3 : 70000 < n := by omega
      have b2 : decide ((3000 : Int) < (n : Int)) = true := by simp; omega
      have b3 : decide ((n : Int) ≤ 65536) = false := by simp; omega
      have b4 : decide ((70000 : Int) < (n : Int)) = true := by simp; omega
      clear h h1 h2
      go_enter Try.func3, Try.ntmps3
      go_wp2_with (go_at_call 7; refine (lives_any w).mono ?_; rintro e w1 ⟨rfl, hb⟩)
      go_ret
      exact ⟨rfl, hb⟩
set_option maxRecDepth 100000 in
set_option maxHeartbeats 1600000 in
theorem logsAdd_small (hnb : b.length = nb) (hcb : nb ≤ cb) (hcbm : cb ≤ maxLen) (hrb : Rd w ab (b.map bv)) (hab : ab = none → cb = 0)
    (hn : l.length = n) (_hc : n ≤ c) (hr : Rd w a (l.map bv)) (ha : a = none → c = 0) (hr16 : r ≤ 65535) (h1 : nb ≤ 20000) (h2 : n ≤ 3000) :
    Calls Try.prog 3 #[.slice ab nb cb, .slice a n c, .int .u16 (r : Int)] w fun e w' => e = .returned (.bool true) ∧ Below w.heap.size w w' := by
  have b1 : decide ((20000 : Int) < (nb : Int)) = false := by simp; omega
  have b2 : decide ((3000 : Int) < (n : Int)) = false := by simp; omega
  have b3 : decide ((70000 : Int) < (n : Int)) = false := by simp; omega
  obtain ⟨K, hK⟩ : ∃ K, K = recP nb l := ⟨_, rfl⟩
  have hKl : K.length ≤ 60027 := by
    rw [hK]; unfold recP; have := putRec_len (l.length + 2) (nb % 256) false l (by simp); simp at this; omega
  have hW : b ++ putRec (n + 2) (nb % 256) false l = b ++ K := by rw [hK, ← hn]; rfl
  have hKb : recP b.length l = K := by rw [hnb]; exact hK.symm
  have ha1 : l.length ≤ 65536 := by omega
  obtain ⟨J, hJ⟩ : ∃ J : Nat, J = nb + r := ⟨_, rfl⟩
  have HW := hid hW
  have HKb := hid hKb
  have Hnb := hid hnb
  have Hn := hid hn
  have Hr := hid hr
  have Ha := hid ha
  have Hrb := hid hrb
  have Hab := hid hab
  have HJ := hid hJ
  clear hW hKb hnb hn hr ha hrb hab hK hJ
  obtain ⟨BK, hBK⟩ : ∃ BK, BK = b ++ K := ⟨_, rfl⟩
  obtain ⟨NK, hNK⟩ : ∃ NK, BK.length = NK := ⟨_, rfl⟩
  have hNe : NK = nb + K.length := by rw [← hNK, hBK, List.length_append, Hnb.out]
  have HBK := hid hBK
  have HNK := hid hNK
  clear hBK hNK
  by_cases hfit : nb + K.length ≤ J
  · have e1 := one_addE (J : Int) b l ha1 (by rw [HKb.out, Hnb.out]; omega)
    have e2 := one_addS (J : Int) b l ha1 (by rw [HKb.out, Hnb.out]; omega)
    rw [HKb.out, ← HBK.out] at e2
    have E1 := hid e1
    have E2 := hid e2
    have b4 : decide ((nb : Int) + (r : Int) < (NK : Int)) = false := by have := HJ.out; simp; omega
    have hNl : NK ≤ 100000 := by omega
    have HNe := hid hNe
    clear e1 e2 hNe hfit
    go_enter Try.func3, Try.ntmps3
    go_wp2_with fail
    rw [show ((nb : Int) + (r : Int)) = (J : Int) from by have := HJ.out; omega]
    refine (mk_any J ab nb cb b w Hnb.out hcb hcbm Hrb.out Hab.out (by have := HJ.out; omega) (by have := HJ.out; omega)).mono ?_
    rintro e w1 ⟨m1, rfl, hD1, hF1, hB1⟩
    have HD1 := hid hD1
    have HF1 := hid hF1
    have HB1 := hid hB1
    clear hD1 hF1 hB1
    go_wp2_with fail
    refine (twin_bytes a n c l w1 Hn.out (by omega) (Hr.out.below HB1.out)).mono ?_
    rintro e w2 ⟨g, rfl, hg, hh, hb2⟩
    have Hh := hid hh
    have HD2 := hid (HD1.out.below hb2)
    have HB2 := hid (HB1.out.trans (hb2.mono HB1.out.size))
    have hng : g ∉ m1.fp := fun e => by have := HD1.out.lt g e; omega
    have Hng := hid hng
    clear hh hb2 hng hg
    go_wp2_with fail
    refine (add_any m1 (oneS J b) kA (by unfold maxLen; decide) (some ⟨g, 0, none⟩) n (n + 2) l w2 HD2.out (one_ok _ _ (by omega) (by have := HJ.out; omega) (by rw [Hnb.out]; omega)) Hn.out (by omega) (by unfold maxLen; omega) (twin_rd Hh.out) (fun h => by cases h)).mono ?_
    rintro e w3 ⟨m3, rfl, hD3, hmd3, hM3⟩
    rw [E1.out, ← hmd3]
    rw [E2.out] at hD3
    have Hh3 := hid ((hM3.block g (lt_of_block Hh.out) Hng.out).trans Hh.out)
    have HF3 := hid (hM3.fresh (B := w.heap.size) HB2.out.size HF1.out)
    have HB3 := hid (HB2.out.trans HF3.out.2)
    have HD3 := hid hD3
    clear hD3 hM3 hmd3
    go_wp2_with fail
    refine (ref_with ab nb cb b a n c l w3 Hnb.out (by omega) (Hrb.out.below HB3.out) Hab.out Hn.out _hc (by omega) (Hr.out.below HB3.out) Ha.out).mono ?_
    rintro e w4 ⟨v, rfl, hv, hb4⟩
    rw [HW.out, ← HBK.out, HNK.out] at hv
    obtain ⟨q4, c4, rfl, hc4, hm4, hr4, hz4⟩ := hv.shape
    have Hr4 := hid hr4
    have Hb4 := hid hb4
    clear hv hr4 hz4 hb4
    go_wp2_with fail
    refine (read_clip m3 (oneS J BK) kA (by unfold maxLen; decide) _ (HD3.out.below Hb4.out) (one_dir _ _) (by intro f hf; simp only [oneS, List.mem_singleton] at hf; subst hf; show BK.length ≤ _; rw [HNK.out]; omega)).mono ?_
    rintro e w5 ⟨q5, rfl, hv5, hb5⟩
    rw [one_read, one_known, HNK.out]
    rw [one_read, HNK.out] at hv5
    have Hr5 := hid hv5.rd
    have Hb5 := hid hb5
    have HB5 := hid (HB3.out.trans ((Hb4.out.trans (hb5.mono Hb4.out.size)).mono HB3.out.size))
    have Hh5 := hid ((hb5.block g (Nat.lt_of_lt_of_le (lt_of_block Hh3.out) Hb4.out.size)).trans ((Hb4.out.block g (lt_of_block Hh3.out)).trans Hh3.out))
    clear hv5 hb5
    go_wp2_with fail
    refine (same_bytes q5 q4 NK NK NK c4 BK BK w5 HNK.out HNK.out (by omega) (by omega) Hr5.out (Hr4.out.below Hb5.out)).mono ?_
    rintro e w6 ⟨rfl, hb6⟩
    rw [show (BK == BK) = true from by simp]
    have Hh6 := hid ((hb6.block g (lt_of_block Hh5.out)).trans Hh5.out)
    have HB6 := hid (HB5.out.trans (hb6.mono HB5.out.size))
    clear hb6
    go_wp2_with fail
    refine (left_bytes a g n c l w6 Hn.out (by omega) (Hr.out.below HB6.out) Hh6.out).mono ?_
    rintro e w7 ⟨rfl, hb7⟩
    have HB7 := hid (HB6.out.trans (hb7.mono HB6.out.size))
    clear hb7
    go_wp2_with fail
    refine (lives_any w7).mono ?_
    rintro e w8 ⟨rfl, hb8⟩
    have HB8 := hid (HB7.out.trans (hb8.mono HB7.out.size))
    clear hb8
    go_wp2
    go_ret
    exact ⟨rfl, HB8.out⟩
  · have e1 := one_addE_full (J : Int) b l ha1 (by rw [HKb.out, Hnb.out]; omega)
    have e2 := one_addS_full (J : Int) b l ha1 (by rw [HKb.out, Hnb.out]; omega)
    have E1 := hid e1
    have E2 := hid e2
    have b4 : decide ((nb : Int) + (r : Int) < (NK : Int)) = true := by have := HJ.out; simp; omega
    have hNl : NK ≤ 100000 := by omega
    have HNe := hid hNe
    clear e1 e2 hNe hfit
    go_enter Try.func3, Try.ntmps3
    go_wp2_with fail
    rw [show ((nb : Int) + (r : Int)) = (J : Int) from by have := HJ.out; omega]
    refine (mk_any J ab nb cb b w Hnb.out hcb hcbm Hrb.out Hab.out (by have := HJ.out; omega) (by have := HJ.out; omega)).mono ?_
    rintro e w1 ⟨m1, rfl, hD1, hF1, hB1⟩
    have HD1 := hid hD1
    have HF1 := hid hF1
    have HB1 := hid hB1
    clear hD1 hF1 hB1
    go_wp2_with fail
    refine (twin_bytes a n c l w1 Hn.out (by omega) (Hr.out.below HB1.out)).mono ?_
    rintro e w2 ⟨g, rfl, hg, hh, hb2⟩
    have Hh := hid hh
    have HD2 := hid (HD1.out.below hb2)
    have HB2 := hid (HB1.out.trans (hb2.mono HB1.out.size))
    have hng : g ∉ m1.fp := fun e => by have := HD1.out.lt g e; omega
    have Hng := hid hng
    clear hh hb2 hng hg
    go_wp2_with fail
    refine (add_any m1 (oneS J b) kA (by unfold maxLen; decide) (some ⟨g, 0, none⟩) n (n + 2) l w2 HD2.out (one_ok _ _ (by omega) (by have := HJ.out; omega) (by rw [Hnb.out]; omega)) Hn.out (by omega) (by unfold maxLen; omega) (twin_rd Hh.out) (fun h => by cases h)).mono ?_
    rintro e w3 ⟨m3, rfl, hD3, hmd3, hM3⟩
    rw [E1.out, ← hmd3]
    rw [E2.out] at hD3
    have Hh3 := hid ((hM3.block g (lt_of_block Hh.out) Hng.out).trans Hh.out)
    have HF3 := hid (hM3.fresh (B := w.heap.size) HB2.out.size HF1.out)
    have HB3 := hid (HB2.out.trans HF3.out.2)
    have HD3 := hid hD3
    clear hD3 hM3 hmd3
    go_wp2_with fail
    refine (ref_with ab nb cb b a n c l w3 Hnb.out (by omega) (Hrb.out.below HB3.out) Hab.out Hn.out _hc (by omega) (Hr.out.below HB3.out) Ha.out).mono ?_
    rintro e w4 ⟨v, rfl, hv, hb4⟩
    rw [HW.out, ← HBK.out, HNK.out] at hv
    obtain ⟨q4, c4, rfl, hc4, hm4, hr4, hz4⟩ := hv.shape
    have Hr4 := hid hr4
    have Hb4 := hid hb4
    clear hv hr4 hz4 hb4
    go_wp2_with fail
    refine (read_clip m3 (oneS J b) kA (by unfold maxLen; decide) _ (HD3.out.below Hb4.out) (one_dir _ _) (by intro f hf; simp only [oneS, List.mem_singleton] at hf; subst hf; show b.length ≤ _; rw [Hnb.out]; omega)).mono ?_
    rintro e w5 ⟨q5, rfl, hv5, hb5⟩
    rw [one_read, one_known, Hnb.out]
    rw [one_read, Hnb.out] at hv5
    have Hr5 := hid hv5.rd
    have Hb5 := hid hb5
    have HB5 := hid (HB3.out.trans ((Hb4.out.trans (hb5.mono Hb4.out.size)).mono HB3.out.size))
    have Hh5 := hid ((hb5.block g (Nat.lt_of_lt_of_le (lt_of_block Hh3.out) Hb4.out.size)).trans ((Hb4.out.block g (lt_of_block Hh3.out)).trans Hh3.out))
    clear hv5 hb5
    go_wp2_with fail
    refine (same_bytes q5 ab nb nb nb cb b b w5 Hnb.out Hnb.out (by omega) (by omega) Hr5.out (Hrb.out.below HB5.out)).mono ?_
    rintro e w6 ⟨rfl, hb6⟩
    rw [show (b == b) = true from by simp]
    have Hh6 := hid ((hb6.block g (lt_of_block Hh5.out)).trans Hh5.out)
    have HB6 := hid (HB5.out.trans (hb6.mono HB5.out.size))
    clear hb6
    go_wp2_with fail
    refine (left_bytes a g n c l w6 Hn.out (by omega) (Hr.out.below HB6.out) Hh6.out).mono ?_
    rintro e w7 ⟨rfl, hb7⟩
    have HB7 := hid (HB6.out.trans (hb7.mono HB6.out.size))
    clear hb7
    go_wp2_with fail
    refine (lives_any w7).mono ?_
    rintro e w8 ⟨rfl, hb8⟩
    have HB8 := hid (HB7.out.trans (hb8.mono HB7.out.size))
    clear hb8
    go_wp2
    go_ret
    exact ⟨rfl, HB8.out⟩
set_option maxRecDepth 100000 in
set_option maxHeartbeats 1600000 in
theorem logsAdd_big (hnb : b.length = nb) (hcb : nb ≤ cb) (hcbm : cb ≤ maxLen) (hrb : Rd w ab (b.map bv)) (hab : ab = none → cb = 0)
    (hn : l.length = n) (_hc : n ≤ c) (hr : Rd w a (l.map bv)) (ha : a = none → c = 0) (hr16 : r ≤ 65535) (h1 : nb ≤ 20000) (h2 : 65536 < n) (h3 : n ≤ 70000) :
    Calls Try.prog 3 #[.slice ab nb cb, .slice a n c, .int .u16 (r : Int)] w fun e w' => e = .returned (.bool true) ∧ Below w.heap.size w w' := by
  have b1 : decide ((20000 : Int) < (nb : Int)) = false := by simp; omega
  have b2 : decide ((3000 : Int) < (n : Int)) = true := by simp; omega
  have b3 : decide ((n : Int) ≤ 65536) = false := by simp; omega
  have b4 : decide ((70000 : Int) < (n : Int)) = false := by simp; omega
  obtain ⟨J, hJ⟩ : ∃ J : Nat, J = nb + r := ⟨_, rfl⟩
  have Hnb := hid hnb
  have Hn := hid hn
  have Hr := hid hr
  have Ha := hid ha
  have Hrb := hid hrb
  have Hab := hid hab
  have HJ := hid hJ
  have hbig := one_addE_big (J : Int) b l (by omega) kA
  have E1 := hid hbig.1
  have E2 := hid hbig.2
  clear hnb hn hr ha hrb hab hJ hbig
  go_enter Try.func3, Try.ntmps3
  go_wp2_with fail
  rw [show ((nb : Int) + (r : Int)) = (J : Int) from by have := HJ.out; omega]
  refine (mk_any J ab nb cb b w Hnb.out hcb hcbm Hrb.out Hab.out (by have := HJ.out; omega) (by have := HJ.out; omega)).mono ?_
  rintro e w1 ⟨m1, rfl, hD1, hF1, hB1⟩
  have HD1 := hid hD1
  have HF1 := hid hF1
  have HB1 := hid hB1
  clear hD1 hF1 hB1
  go_wp2_with fail
  refine (twin_bytes a n c l w1 Hn.out (by omega) (Hr.out.below HB1.out)).mono ?_
  rintro e w2 ⟨g, rfl, hg, hh, hb2⟩
  have Hh := hid hh
  have HD2 := hid (HD1.out.below hb2)
  have HB2 := hid (HB1.out.trans (hb2.mono HB1.out.size))
  have hng : g ∉ m1.fp := fun e => by have := HD1.out.lt g e; omega
  have Hng := hid hng
  clear hh hb2 hng hg
  go_wp2_with fail
  refine (add_any m1 (oneS J b) kA (by unfold maxLen; decide) (some ⟨g, 0, none⟩) n (n + 2) l w2 HD2.out (one_ok _ _ (by omega) (by have := HJ.out; omega) (by rw [Hnb.out]; omega)) Hn.out (by omega) (by unfold maxLen; omega) (twin_rd Hh.out) (fun h => by cases h)).mono ?_
  rintro e w3 ⟨m3, rfl, hD3, hmd3, hM3⟩
  rw [E1.out, ← hmd3]
  rw [E2.out] at hD3
  have Hh3 := hid ((hM3.block g (lt_of_block Hh.out) Hng.out).trans Hh.out)
  have HF3 := hid (hM3.fresh (B := w.heap.size) HB2.out.size HF1.out)
  have HB3 := hid (HB2.out.trans HF3.out.2)
  have HD3 := hid hD3
  clear hD3 hM3 hmd3
  go_wp2_with fail
  refine (ref_with_big ab nb cb a n c w3 h2).mono ?_
  rintro e w4 ⟨rfl, rfl⟩
  have Hb4 := hid (Below.refl w3.heap.size w3)
  go_wp2_with fail
  refine (read_clip m3 (oneS J b) kA (by unfold maxLen; decide) _ (HD3.out.below Hb4.out) (one_dir _ _) (by intro f hf; simp only [oneS, List.mem_singleton] at hf; subst hf; show b.length ≤ _; rw [Hnb.out]; omega)).mono ?_
  rintro e w5 ⟨q5, rfl, hv5, hb5⟩
  rw [one_read, one_known, Hnb.out]
  rw [one_read, Hnb.out] at hv5
  have Hr5 := hid hv5.rd
  have Hb5 := hid hb5
  have HB5 := hid (HB3.out.trans ((Hb4.out.trans (hb5.mono Hb4.out.size)).mono HB3.out.size))
  have Hh5 := hid ((hb5.block g (Nat.lt_of_lt_of_le (lt_of_block Hh3.out) Hb4.out.size)).trans ((Hb4.out.block g (lt_of_block Hh3.out)).trans Hh3.out))
  clear hv5 hb5
  go_wp2_with fail
  refine (same_bytes q5 ab nb nb nb cb b b w5 Hnb.out Hnb.out (by omega) (by omega) Hr5.out (Hrb.out.below HB5.out)).mono ?_
  rintro e w6 ⟨rfl, hb6⟩
  rw [show (b == b) = true from by simp]
  have Hh6 := hid ((hb6.block g (lt_of_block Hh5.out)).trans Hh5.out)
  have HB6 := hid (HB5.out.trans (hb6.mono HB5.out.size))
  clear hb6
  go_wp2_with fail
  refine (left_bytes a g n c l w6 Hn.out (by omega) (Hr.out.below HB6.out) Hh6.out).mono ?_
  rintro e w7 ⟨rfl, hb7⟩
  have HB7 := hid (HB6.out.trans (hb7.mono HB6.out.size))
  clear hb7
  go_wp2_with fail
  refine (lives_any w7).mono ?_
  rintro e w8 ⟨rfl, hb8⟩
  have HB8 := hid (HB7.out.trans (hb8.mono HB7.out.size))
  clear hb8
  go_wp2
  go_ret
  exact ⟨rfl, HB8.out⟩
theorem logsAdd_any (hnb : b.length = nb) (hcb : nb ≤ cb) (hcbm : cb ≤ maxLen) (hrb : Rd w ab (b.map bv)) (hab : ab = none → cb = 0)
    (hn : l.length = n) (hc : n ≤ c) (hr : Rd w a (l.map bv)) (ha : a = none → c = 0) (hr16 : r ≤ 65535) :
    Calls Try.prog 3 #[.slice ab nb cb, .slice a n c, .int .u16 (r : Int)] w fun e w' => e = .returned (.bool true) ∧ Below w.heap.size w w' := by
  by_cases h : 20000 < nb ∨ (3000 < n ∧ n ≤ 65536) ∨ 70000 < n
  · exact logsAdd_short ab nb cb a n c r w h
  · by_cases h2 : n ≤ 3000
    · exact logsAdd_small ab nb cb b a n c l r w hnb hcb hcbm hrb hab hn hc hr ha hr16 (by omega) h2
    · exact logsAdd_big ab nb cb b a n c l r w hnb hcb hcbm hrb hab hn hc hr ha hr16 (by omega) (by omega) (by omega)
end
end Go.Proofs.Herb
