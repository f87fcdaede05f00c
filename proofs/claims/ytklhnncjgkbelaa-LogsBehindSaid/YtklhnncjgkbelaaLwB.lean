/- The contract of LogsBehind: it answers true. For slices that can be read. -/
import Derived.Test.YtklhnncjgkbelaaSame
import Derived.Test.YtklhnncjgkbelaaLwA
namespace Go.Proofs.Herb
open Go.RowKit
theorem Rows.mod {w w' : World} {base : Nat} {v : Value} {ls : List (List UInt8)} {fp fp' : List Nat} (h : Rows w base v ls) (hM : Mod fp fp' w w') (hf : ∀ k, k ∈ fp → k < base) : Rows w' base v ls := by
  obtain ⟨vs, h1, h2, h3⟩ := h
  have far : ∀ (g : Nat) (cs : Array Value) (e : TypeId), w.heap[g]? = some (.cells cs e (0, 0)) → base ≤ g → w'.heap[g]? = w.heap[g]? := fun g cs e hg hb =>
    hM.block g (lt_of_block hg) (fun hk => by have := hf g hk; omega)
  exact ⟨vs, h1, h2.far (fun g cs hg hb => far g cs _ hg hb), fun i x l hx hl => (h3 i x l hx hl).far (fun g cs hg hb => far g cs _ hg hb)⟩
section
variable (ab : Option Addr) (nb cb : Nat) (b : List UInt8) (a : Option Addr) (n c : Nat) (l : List UInt8) (w : World)
set_option maxRecDepth 100000 in
set_option maxHeartbeats 800000 in
theorem logsBehind_short (hs : nb + n ≤ 9000000000000000000) (h : 20000 < nb + n) :
    Calls Try.prog 4 #[.slice ab nb cb, .slice a n c] w fun e w' => e = .returned (.bool true) ∧ Below w.heap.size w w' := by
  have b1 : decide ((20000 : Int) < (nb : Int) + (n : Int)) = true := by simp; omega
  go_enter Try.func4, Try.ntmps4
  go_wp2_with (go_at_call 7; refine (lives_any w).mono ?_; rintro e w1 ⟨rfl, hb⟩)
  go_ret
  exact ⟨rfl, hb⟩
set_option maxRecDepth 100000 in
set_option maxHeartbeats 1600000 in
theorem logsBehind_main (hnb : b.length = nb) (hcb : nb ≤ cb) (hcbm : cb ≤ maxLen) (hrb : Rd w ab (b.map bv)) (hab : ab = none → cb = 0)
    (hn : l.length = n) (hc : n ≤ c) (hcm : c ≤ maxLen) (hr : Rd w a (l.map bv)) (ha : a = none → c = 0) (h : nb + n ≤ 20000) :
    Calls Try.prog 4 #[.slice ab nb cb, .slice a n c] w fun e w' => e = .returned (.bool true) ∧ Below w.heap.size w w' := by
  have b1 : decide ((20000 : Int) < (nb : Int) + (n : Int)) = false := by simp; omega
  obtain ⟨K, hK⟩ : ∃ K, K = recP b.length l := ⟨_, rfl⟩
  have hKl : K.length ≤ 400027 := by
    rw [hK]; unfold recP; have := putRec_len (l.length + 2) (b.length % 256) false l (by simp); simp at this; omega
  have ha1 : l.length ≤ 65536 := by omega
  have e1 := one_addE (1048576 : Int) b l ha1 (by rw [← hK, hnb]; omega)
  have e2 := one_addS (1048576 : Int) b l ha1 (by rw [← hK, hnb]; omega)
  obtain ⟨BK, hBK⟩ : ∃ BK, BK = b ++ recP b.length l := ⟨_, rfl⟩
  rw [← hBK] at e2
  have hBKl : BK.length ≤ 420027 := by rw [hBK, List.length_append, ← hK]; omega
  obtain ⟨ls1, hls1⟩ : ∃ ls, ls = (recsOf b).map (·.1) := ⟨_, rfl⟩
  obtain ⟨ls2, hls2⟩ : ∃ ls, ls = (recsOf BK).map (·.1) := ⟨_, rfl⟩
  obtain ⟨N1, hN1⟩ : ∃ N, ls1.length = N := ⟨_, rfl⟩
  obtain ⟨N2, hN2⟩ : ∃ N, ls2.length = N := ⟨_, rfl⟩
  have hN1l : N1 ≤ 20000 := by rw [← hN1, hls1, List.length_map]; have := recsOf_length b; omega
  have hN2l : N2 ≤ 420027 := by rw [← hN2, hls2, List.length_map]; have := recsOf_length BK; omega
  have hlen1 : ∀ x ∈ ls1, x.length ≤ 4194304 := by rw [hls1]; intro x hx; have := recsOf_len b x hx; omega
  have a1 : allL (oneS 1048576 b) kA = ls1 := by rw [hls1]; rfl
  have a2 : allL (oneS 1048576 BK) kA = ls2 := by rw [hls2]; rfl
  obtain ⟨W1, hW1⟩ : ∃ W, allW (oneS 1048576 b) kA = W := ⟨_, rfl⟩
  obtain ⟨W2, hW2⟩ : ∃ W, allW (oneS 1048576 BK) kA = W := ⟨_, rfl⟩
  have hf : W1 = false → ∃ ks, ls2 = ls1 ++ ks := fun _ => by
    obtain ⟨rest, hrest⟩ := recsOf_prefix b (recP b.length l)
    exact ⟨rest.map (·.1), by rw [hls2, hBK, hrest, List.map_append, hls1]⟩
  have ht : W1 = true → W2 = true ∧ ls2 = ls1 ++ [l] := fun h1 => by
    have hw : endOf (recsOf b) = b.length := by rw [← hW1] at h1; unfold allW at h1; rw [one_known, one_read] at h1; simpa using h1
    refine ⟨?_, by rw [hls2, hBK, recsOf_add b l ha1 hw, List.map_append, hls1]; rfl⟩
    rw [← hW2]; unfold allW; rw [one_known, one_read, hBK, recsOf_add_whole b l ha1 hw]; simp
  have Hf := hid hf
  have Ht := hid ht
  have A1 := hid a1
  have A2 := hid a2
  have HW1 := hid hW1
  have HW2 := hid hW2
  have HN1 := hid hN1
  have HN2 := hid hN2
  have Hlen1 := hid hlen1
  have HBKl := hid hBKl
  have E1 := hid e1
  have E2 := hid e2
  have Hnb := hid hnb
  have Hn := hid hn
  have Hr := hid hr
  have Ha := hid ha
  have Hrb := hid hrb
  have Hab := hid hab
  clear hf ht a1 a2 hW1 hW2 hN1 hN2 hlen1 hBKl e1 e2 hnb hn hr ha hrb hab hls1 hls2 hBK hK hKl ha1
  go_enter Try.func4, Try.ntmps4
  go_wp2_with fail
  refine (mk_any 1048576 ab nb cb b w Hnb.out hcb hcbm Hrb.out Hab.out (by omega) (by decide)).mono ?_
  rintro e w1 ⟨m1, rfl, hD1, hF1, hB1⟩
  have HD1 := hid hD1
  have HF1 := hid hF1
  have HB1 := hid hB1
  clear hD1 hF1 hB1
  go_wp2_with fail
  refine (all_any m1 (oneS 1048576 b) kA (by unfold maxLen; decide) w1 HD1.out (one_dir _ _) (by intro f hf; simp only [oneS, List.mem_singleton] at hf; subst hf; show b.length ≤ _; rw [Hnb.out]; omega)).mono ?_
  rintro e w2 ⟨v, rfl, hv, hb2⟩
  rw [HW1.out, one_known]
  rw [A1.out] at hv
  obtain ⟨q1, c1, rfl, hc1, hm1, hz1, hr1⟩ := hv.rd
  rw [HN1.out]
  rw [HN1.out] at hc1
  have HD2 := hid (HD1.out.below hb2)
  have HB2 := hid (HB1.out.trans (hb2.mono HB1.out.size))
  have Hsz2 := hb2.size
  have Hlo1 : Hid (∀ k, k ∈ m1.fp → k < w1.heap.size) := HD1.out.lt
  have Hrows1 := hid hv
  have R1 := hid hr1
  clear hv hr1 hb2 hz1
  go_wp2_with fail
  refine (add_any m1 (oneS 1048576 b) kA (by unfold maxLen; decide) a n c l w2 HD2.out (one_ok _ _ (by decide) (by decide) (by rw [Hnb.out]; omega)) Hn.out hc hcm (Hr.out.below HB2.out) Ha.out).mono ?_
  rintro e w3 ⟨m3, rfl, hD3, hmd3, hM3⟩
  rw [E1.out, ← hmd3]
  rw [E2.out] at hD3
  have hF3 := hM3.fresh (B := w.heap.size) HB2.out.size HF1.out
  have R3 : Hid (RdRows w3 q1 ls1) := by
    obtain ⟨q, c', hq, _, _, _, hr⟩ := (Hrows1.out.mod hM3 Hlo1.out).rd
    rw [Value.slice.injEq] at hq
    show RdRows _ _ _
    rw [hq.1]; exact hr
  have HB3 := hid (HB2.out.trans hF3.2)
  have HD3 := hid hD3
  clear hD3 hM3 hF3 hmd3
  go_wp2_with fail
  refine (all_any m3 (oneS 1048576 BK) kA (by unfold maxLen; decide) w3 HD3.out (one_dir _ _) (by intro f hf; simp only [oneS, List.mem_singleton] at hf; subst hf; show BK.length ≤ _; have := HBKl.out; omega)).mono ?_
  rintro e w4 ⟨v, rfl, hv, hb4⟩
  rw [HW2.out, one_known]
  rw [A2.out] at hv
  obtain ⟨q2, c2, rfl, hc2, hm2, hz2, hr2⟩ := hv.rd
  rw [HN2.out]
  rw [HN2.out] at hc2
  have R4 := hid (R3.out.below hb4)
  have HB4 := hid (HB3.out.trans (hb4.mono HB3.out.size))
  have R2 := hid hr2
  clear hv hr2 hb4 hz2
  cases W1
  · obtain ⟨ks, hks⟩ := Hf.out rfl
    have hNN : N1 ≤ N2 := by rw [← HN1.out, ← HN2.out, hks, List.length_append]; omega
    have R5 : Hid (RdRows w4 q2 ls1) := by
      have := R2.out; rw [hks] at this; exact this.take
    have i1 : decide ((N1 : Int) ≤ (N2 : Int)) = true := by simp; omega
    have i2 : N1 ≤ c2 := by omega
    clear hks
    go_wp2_with (first
      | (go_at_call 16; refine (same_records q2 q1 N1 c2 c1 ls1 w4 HN1.out (by omega) Hlen1.out R5.out R4.out).mono ?_; rintro e w5 ⟨rfl, hb5⟩; have HB5 := hid (HB4.out.trans (hb5.mono HB4.out.size)); clear hb5)
      | (go_at_call 7; refine (lives_any w5).mono ?_; rintro e w6 ⟨rfl, hb6⟩; have HB6 := hid (HB5.out.trans (hb6.mono HB5.out.size)); clear hb6))
    go_ret
    exact ⟨rfl, HB6.out⟩
  · obtain ⟨rfl, hks⟩ := Ht.out rfl
    have hNN : N2 = N1 + 1 := by rw [← HN1.out, ← HN2.out, hks, List.length_append]; rfl
    subst hNN
    have R5 : Hid (RdRows w4 q2 ls1) := by
      have := R2.out; rw [hks] at this; exact this.take
    obtain ⟨b5, o5, q5, c5, rfl, g5, r5⟩ := R2.out N1 l (by rw [hks, ← HN1.out, List.getElem?_append_right (Nat.le_refl _)]; simp)
    rw [Hn.out] at g5
    have H5 := hid r5
    have i2 : N1 ≤ c2 := by omega
    clear hks r5
    have i3 : (0 : Int) ≤ (N1 : Int) := by omega
    have i4 : (N1 : Int) < (N1 : Int) + 1 := by omega
    go_wp2_with (first
      | (go_at_call 16; refine (same_records (some ⟨b5, o5, none⟩) q1 N1 c2 c1 ls1 w4 HN1.out (by omega) Hlen1.out R5.out R4.out).mono ?_; rintro e w5 ⟨rfl, hb5⟩; have HB5 := hid (HB4.out.trans (hb5.mono HB4.out.size)); have g6 := (hb5.cell (p := ⟨b5, o5 + N1, none⟩) (World.block_lt_of_cell? _ _ g5)).trans g5; have H6 := hid (H5.out.below hb5); clear hb5 g5)
      | (go_at_call 13; refine (same_bytes q5 a n c5 n c l l w5 Hn.out Hn.out (by omega) (by omega) H6.out (Hr.out.below HB5.out)).mono ?_; rintro e w6 ⟨rfl, hb6⟩; rw [show (l == l) = true from by simp]; have HB6 := hid (HB5.out.trans (hb6.mono HB5.out.size)); clear hb6)
      | (go_at_call 7; refine (lives_any w6).mono ?_; rintro e w7 ⟨rfl, hb7⟩; have HB7 := hid (HB6.out.trans (hb7.mono HB6.out.size)); clear hb7))
    go_ret
    exact ⟨rfl, HB7.out⟩
theorem logsBehind_any (hnb : b.length = nb) (hcb : nb ≤ cb) (hcbm : cb ≤ maxLen) (hrb : Rd w ab (b.map bv)) (hab : ab = none → cb = 0)
    (hn : l.length = n) (hc : n ≤ c) (hcm : c ≤ maxLen) (hr : Rd w a (l.map bv)) (ha : a = none → c = 0) (hs : nb + n ≤ 9000000000000000000) :
    Calls Try.prog 4 #[.slice ab nb cb, .slice a n c] w fun e w' => e = .returned (.bool true) ∧ Below w.heap.size w w' := by
  by_cases h : 20000 < nb + n
  · exact logsBehind_short ab nb cb a n c w hs h
  · exact logsBehind_main ab nb cb b a n c l w hnb hcb hcbm hrb hab hn hc hcm hr ha (by omega)
end
end Go.Proofs.Herb
