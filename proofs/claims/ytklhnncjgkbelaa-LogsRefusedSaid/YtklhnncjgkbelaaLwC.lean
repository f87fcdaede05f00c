/- The contract of LogsRefused: it answers true. For a slice that can be read. -/
import Derived.Test.YtklhnncjgkbelaaSame
import Derived.Test.YtklhnncjgkbelaaDskC
namespace Go.Proofs.Herb
open Go.RowKit
theorem one_known_other (room : Int) (b : List UInt8) (k : ByteArray) (h : k ≠ kA) : knownE (oneS room b) k = if mayB k then 7 else 1 := by
  have hl : look (oneS room b).names k = none := by
    have h' : ¬ kA = k := fun e => h e.symm
    simp [look, oneS, h']
  unfold knownE foundE
  rw [hl]; rfl
theorem one_refused (room : Int) (b l : List UInt8) (k : ByteArray) (h : k ≠ kA) (W : Int) (hW : W = if mayB k then 7 else 1) (hl : l.length ≤ 65536) :
    knownE (oneS room b) k = W ∧ allL (oneS room b) k = [] ∧ allW (oneS room b) k = false ∧ addE (oneS room b) k l = W ∧ addS (oneS room b) k l = oneS room b := by
  have hk : knownE (oneS room b) k = W := by rw [hW]; exact one_known_other room b k h
  have h0 : W ≠ 0 := by rw [hW]; split <;> simp
  refine ⟨hk, ?_, ?_, ?_, ?_⟩
  · unfold allL readL; rw [if_neg (by rw [hk]; exact h0)]; rfl
  · unfold allW; rw [hk]; simp [h0]
  · unfold addE; rw [if_neg (by omega), if_pos (by rw [hk]; exact h0), hk]
  · unfold addS; rw [if_pos (.inr (by rw [hk]; exact h0))]
/-- the disk behind a fuse of nought, and dead -/
def fuseS : DS := { oneS 1000 [] with fuse := ((0 : Nat) : Int) }
def deadS : DS := { fuseS with dead := true }
theorem dead_facts (l : List UInt8) (hl : l.length ≤ 65536) : letsE fuseS = 10 ∧ letsS fuseS = deadS ∧ knownE deadS kA = 10 ∧ allL deadS kA = [] ∧ allW deadS kA = false ∧ addE deadS kA l = 10 := by
  refine ⟨by rfl, by rfl, by rfl, by rfl, by rfl, ?_⟩
  unfold addE; rw [if_neg (by omega)]; rfl
theorem dead_ok : deadS.Ok := ⟨⟨by simp [deadS, fuseS, oneS], by simp [deadS, fuseS, oneS], by simp [deadS, fuseS, oneS]⟩, by decide, by simp [deadS, fuseS], by simp [deadS, fuseS], by simp [deadS, fuseS, oneS], by simp [deadS, fuseS, oneS], by simp [deadS, fuseS, oneS]⟩
theorem rows_none {w : World} {base : Nat} {v : Value} (h : Rows w base v []) : ∃ q c, v = .slice q 0 c := by
  obtain ⟨q, c, h1, _⟩ := h.shape
  exact ⟨q, c, h1⟩
theorem str_of {k : ByteArray} {l : List UInt8} (h : k.toList = l) : k = ⟨l.toArray⟩ := by
  rw [ByteArray.toList_eq] at h
  obtain ⟨d⟩ := k
  rw [← h]
section
variable (k : ByteArray) (a : Option Addr) (n c : Nat) (l : List UInt8) (w : World)
set_option maxRecDepth 100000 in
set_option maxHeartbeats 800000 in
theorem logsRefused_big (h : 65536 < n) :
    Calls Try.prog 5 #[.string k, .slice a n c] w fun e w' => e = .returned (.bool true) ∧ Below w.heap.size w w' := by
  have b1 : decide ((65536 : Int) < (n : Int)) = true := by simp; omega
  go_enter Try.func5, Try.ntmps5
  go_wp2_with (first
    | (go_at_call 10; refine (add_nil_big k a n c w h).mono ?_; rintro e w1 ⟨rfl, rfl⟩)
    | (go_at_call 7; refine (lives_any w).mono ?_; rintro e w1 ⟨rfl, hb⟩))
  go_ret
  exact ⟨rfl, hb⟩
set_option maxRecDepth 100000 in
set_option maxHeartbeats 1600000 in
theorem logsRefused_a (hn : l.length = n) (hc : n ≤ c) (hcm : c ≤ maxLen) (hr : Rd w a (l.map bv)) (ha : a = none → c = 0) (hn1 : n ≤ 65536) :
    Calls Try.prog 5 #[.string kA, .slice a n c] w fun e w' => e = .returned (.bool true) ∧ Below w.heap.size w w' := by
  have b1 : decide ((65536 : Int) < (n : Int)) = false := by simp; omega
  have HZ := hid (dead_facts l (by omega))
  have Hn := hid hn
  have Hr := hid hr
  have Ha := hid ha
  clear hn hr ha
  go_enter Try.func5, Try.ntmps5
  go_wp2_with fail
  refine (mk_any 1000 none 0 0 [] w rfl (by decide) (by decide) (.inl rfl) (fun _ => rfl) (by decide) (by decide)).mono ?_
  rintro e w1 ⟨m1, rfl, hD1, hF1, hB1⟩
  have HD1 := hid hD1
  have HF1 := hid hF1
  have HB1 := hid hB1
  clear hD1 hF1 hB1
  go_wp2_with fail
  refine (all_nil kA w1).mono ?_
  rintro e w2 ⟨rfl, hb2⟩
  have HD2 := hid (HD1.out.below hb2)
  have HB2 := hid (HB1.out.trans (hb2.mono HB1.out.size))
  clear hb2
  go_wp2_with fail
  refine (add_nil kA a n c w2 hn1).mono ?_
  rintro e w2' ⟨rfl, rfl⟩
  go_wp2_with fail
  refine (fuse_any m1 (oneS 1000 []) 0 w2 HD2.out).mono ?_
  rintro e w6 ⟨rfl, hD6, hM6⟩
  have HF6 := hid (hM6.fresh (B := w.heap.size) HB2.out.size HF1.out)
  have HB6 := hid (HB2.out.trans HF6.out.2)
  have HD6 : Hid (DiskAt w6 m1 fuseS) := hD6
  clear hD6 hM6
  go_wp2_with fail
  refine (syncDir_lets m1 fuseS w6 HD6.out (by decide) (by decide) (by rfl) (by rw [HZ.out.1]; decide)).mono ?_
  rintro e w7 ⟨rfl, hD7, hM7⟩
  rw [HZ.out.1]
  rw [HZ.out.2.1] at hD7
  have HF7 := hid (hM7.fresh (B := w.heap.size) HB6.out.size HF6.out.1)
  have HB7 := hid (HB6.out.trans HF7.out.2)
  have HD7 := hid hD7
  clear hD7 hM7
  go_wp2_with fail
  refine (all_any m1 deadS kA (by unfold maxLen; decide) w7 HD7.out dead_ok.dir dead_ok.len).mono ?_
  rintro e w8 ⟨v8, rfl, hv8, hb8⟩
  rw [HZ.out.2.2.2.2.1, HZ.out.2.2.1]
  rw [HZ.out.2.2.2.1] at hv8
  obtain ⟨q8, c8, rfl⟩ := rows_none hv8
  have HD8 := hid (HD7.out.below hb8)
  have HB8 := hid (HB7.out.trans (hb8.mono HB7.out.size))
  clear hb8 hv8
  go_wp2_with fail
  refine (add_any m1 deadS kA (by unfold maxLen; decide) a n c l w8 HD8.out dead_ok Hn.out hc hcm (Hr.out.below HB8.out) Ha.out).mono ?_
  rintro e w9 ⟨m9, rfl, hD9, hmd9, hM9⟩
  rw [HZ.out.2.2.2.2.2]
  have HF9 := hid (hM9.fresh (B := w.heap.size) HB8.out.size HF7.out.1)
  have HB9 := hid (HB8.out.trans HF9.out.2)
  clear hD9 hM9 hmd9
  go_wp2_with fail
  refine (lives_any w9).mono ?_
  rintro e w10 ⟨rfl, hb10⟩
  have HB10 := hid (HB9.out.trans (hb10.mono HB9.out.size))
  clear hb10
  go_wp2
  go_ret
  exact ⟨rfl, HB10.out⟩
set_option maxRecDepth 100000 in
set_option maxHeartbeats 1600000 in
theorem logsRefused_may (hk : k.size ≤ maxLen) (hne : k ≠ kA) (h1 : 1 ≤ k.size) (h2 : k.size ≤ 24) (hn : l.length = n) (hc : n ≤ c) (hcm : c ≤ maxLen) (hr : Rd w a (l.map bv)) (ha : a = none → c = 0) (hn1 : n ≤ 65536) :
    Calls Try.prog 5 #[.string k, .slice a n c] w fun e w' => e = .returned (.bool true) ∧ Below w.heap.size w w' := by
  have b1 : decide ((65536 : Int) < (n : Int)) = false := by simp; omega
  have HZ := hid (dead_facts l (by omega))
  have Hn := hid hn
  have Hr := hid hr
  have Ha := hid ha
  have HQ := hid (one_refused 1000 [] l k hne 7 (by unfold mayB; simp [h1, h2]) (by omega))
  have s1 : (k.toList == [97]) = false := by
    rw [beq_eq_false_iff_ne]; intro e; exact hne (str_of e)
  have f0 : decide ((k.size : Int) < 1) = false := by simp; omega
  have f1 : decide (24 < (k.size : Int)) = false := by simp; omega
  clear hn hr ha hne
  go_enter Try.func5, Try.ntmps5
  go_wp2_with fail
  refine (mk_any 1000 none 0 0 [] w rfl (by decide) (by decide) (.inl rfl) (fun _ => rfl) (by decide) (by decide)).mono ?_
  rintro e w1 ⟨m1, rfl, hD1, hF1, hB1⟩
  have HD1 := hid hD1
  have HF1 := hid hF1
  have HB1 := hid hB1
  clear hD1 hF1 hB1
  go_wp2_with fail
  refine (all_nil k w1).mono ?_
  rintro e w2 ⟨rfl, hb2⟩
  have HD2 := hid (HD1.out.below hb2)
  have HB2 := hid (HB1.out.trans (hb2.mono HB1.out.size))
  clear hb2
  go_wp2_with fail
  refine (add_nil k a n c w2 hn1).mono ?_
  rintro e w2' ⟨rfl, rfl⟩
  go_wp2_with fail
  refine (all_any m1 (oneS 1000 []) k hk w2 HD2.out (one_dir _ _) (by intro f hf; simp only [oneS, List.mem_singleton] at hf; subst hf; decide)).mono ?_
  rintro e w3 ⟨v3, rfl, hv3, hb3⟩
  rw [HQ.out.2.2.1, HQ.out.1]
  rw [HQ.out.2.1] at hv3
  obtain ⟨q3, c3, rfl⟩ := rows_none hv3
  have HD3 := hid (HD2.out.below hb3)
  have HB3 := hid (HB2.out.trans (hb3.mono HB2.out.size))
  clear hb3 hv3
  go_wp2_with fail
  refine (add_any m1 (oneS 1000 []) k hk a n c l w3 HD3.out (one_ok _ _ (by decide) (by decide) (by decide)) Hn.out hc hcm (Hr.out.below HB3.out) Ha.out).mono ?_
  rintro e w4 ⟨m4, rfl, hD4, hmd4, hM4⟩
  rw [HQ.out.2.2.2.1, ← hmd4]
  rw [HQ.out.2.2.2.2] at hD4
  have HF4 := hid (hM4.fresh (B := w.heap.size) HB3.out.size HF1.out)
  have HB4 := hid (HB3.out.trans HF4.out.2)
  have HD4 := hid hD4
  clear hD4 hM4 hmd4
  go_wp2_with fail
  refine (used_any m4 (oneS 1000 []) w4 HD4.out (one_dir _ _) (by rw [one_used]; decide)).mono ?_
  rintro e w5 ⟨rfl, hb5⟩
  rw [one_used]
  have HD5 := hid (HD4.out.below hb5)
  have HF5 := hid HF4.out.1
  have HB5 := hid (HB4.out.trans (hb5.mono HB4.out.size))
  clear hb5
  go_wp2_with fail
  refine (fuse_any m4 (oneS 1000 []) 0 w5 HD5.out).mono ?_
  rintro e w6 ⟨rfl, hD6, hM6⟩
  have HF6 := hid (hM6.fresh (B := w.heap.size) HB5.out.size HF5.out)
  have HB6 := hid (HB5.out.trans HF6.out.2)
  have HD6 : Hid (DiskAt w6 m4 fuseS) := hD6
  clear hD6 hM6
  go_wp2_with fail
  refine (syncDir_lets m4 fuseS w6 HD6.out (by decide) (by decide) (by rfl) (by rw [HZ.out.1]; decide)).mono ?_
  rintro e w7 ⟨rfl, hD7, hM7⟩
  rw [HZ.out.1]
  rw [HZ.out.2.1] at hD7
  have HF7 := hid (hM7.fresh (B := w.heap.size) HB6.out.size HF6.out.1)
  have HB7 := hid (HB6.out.trans HF7.out.2)
  have HD7 := hid hD7
  clear hD7 hM7
  go_wp2_with fail
  refine (all_any m4 deadS kA (by unfold maxLen; decide) w7 HD7.out dead_ok.dir dead_ok.len).mono ?_
  rintro e w8 ⟨v8, rfl, hv8, hb8⟩
  rw [HZ.out.2.2.2.2.1, HZ.out.2.2.1]
  rw [HZ.out.2.2.2.1] at hv8
  obtain ⟨q8, c8, rfl⟩ := rows_none hv8
  have HD8 := hid (HD7.out.below hb8)
  have HB8 := hid (HB7.out.trans (hb8.mono HB7.out.size))
  clear hb8 hv8
  go_wp2_with fail
  refine (add_any m4 deadS kA (by unfold maxLen; decide) a n c l w8 HD8.out dead_ok Hn.out hc hcm (Hr.out.below HB8.out) Ha.out).mono ?_
  rintro e w9 ⟨m9, rfl, hD9, hmd9, hM9⟩
  rw [HZ.out.2.2.2.2.2]
  have HF9 := hid (hM9.fresh (B := w.heap.size) HB8.out.size HF7.out.1)
  have HB9 := hid (HB8.out.trans HF9.out.2)
  clear hD9 hM9 hmd9
  go_wp2_with fail
  refine (lives_any w9).mono ?_
  rintro e w10 ⟨rfl, hb10⟩
  have HB10 := hid (HB9.out.trans (hb10.mono HB9.out.size))
  clear hb10
  go_wp2
  go_ret
  exact ⟨rfl, HB10.out⟩
set_option maxRecDepth 100000 in
set_option maxHeartbeats 1600000 in
theorem logsRefused_none (hk : k.size ≤ maxLen) (hne : k ≠ kA) (h1 : k.size < 1) (hn : l.length = n) (hc : n ≤ c) (hcm : c ≤ maxLen) (hr : Rd w a (l.map bv)) (ha : a = none → c = 0) (hn1 : n ≤ 65536) :
    Calls Try.prog 5 #[.string k, .slice a n c] w fun e w' => e = .returned (.bool true) ∧ Below w.heap.size w w' := by
  have b1 : decide ((65536 : Int) < (n : Int)) = false := by simp; omega
  have HZ := hid (dead_facts l (by omega))
  have Hn := hid hn
  have Hr := hid hr
  have Ha := hid ha
  have HQ := hid (one_refused 1000 [] l k hne 1 (by unfold mayB; simp; omega) (by omega))
  have s1 : (k.toList == [97]) = false := by
    rw [beq_eq_false_iff_ne]; intro e; exact hne (str_of e)
  have f0 : decide ((k.size : Int) < 1) = true := by simp; omega
  clear hn hr ha hne
  go_enter Try.func5, Try.ntmps5
  go_wp2_with fail
  refine (mk_any 1000 none 0 0 [] w rfl (by decide) (by decide) (.inl rfl) (fun _ => rfl) (by decide) (by decide)).mono ?_
  rintro e w1 ⟨m1, rfl, hD1, hF1, hB1⟩
  have HD1 := hid hD1
  have HF1 := hid hF1
  have HB1 := hid hB1
  clear hD1 hF1 hB1
  go_wp2_with fail
  refine (all_nil k w1).mono ?_
  rintro e w2 ⟨rfl, hb2⟩
  have HD2 := hid (HD1.out.below hb2)
  have HB2 := hid (HB1.out.trans (hb2.mono HB1.out.size))
  clear hb2
  go_wp2_with fail
  refine (add_nil k a n c w2 hn1).mono ?_
  rintro e w2' ⟨rfl, rfl⟩
  go_wp2_with fail
  refine (all_any m1 (oneS 1000 []) k hk w2 HD2.out (one_dir _ _) (by intro f hf; simp only [oneS, List.mem_singleton] at hf; subst hf; decide)).mono ?_
  rintro e w3 ⟨v3, rfl, hv3, hb3⟩
  rw [HQ.out.2.2.1, HQ.out.1]
  rw [HQ.out.2.1] at hv3
  obtain ⟨q3, c3, rfl⟩ := rows_none hv3
  have HD3 := hid (HD2.out.below hb3)
  have HB3 := hid (HB2.out.trans (hb3.mono HB2.out.size))
  clear hb3 hv3
  go_wp2_with fail
  refine (add_any m1 (oneS 1000 []) k hk a n c l w3 HD3.out (one_ok _ _ (by decide) (by decide) (by decide)) Hn.out hc hcm (Hr.out.below HB3.out) Ha.out).mono ?_
  rintro e w4 ⟨m4, rfl, hD4, hmd4, hM4⟩
  rw [HQ.out.2.2.2.1, ← hmd4]
  rw [HQ.out.2.2.2.2] at hD4
  have HF4 := hid (hM4.fresh (B := w.heap.size) HB3.out.size HF1.out)
  have HB4 := hid (HB3.out.trans HF4.out.2)
  have HD4 := hid hD4
  clear hD4 hM4 hmd4
  go_wp2_with fail
  refine (used_any m4 (oneS 1000 []) w4 HD4.out (one_dir _ _) (by rw [one_used]; decide)).mono ?_
  rintro e w5 ⟨rfl, hb5⟩
  rw [one_used]
  have HD5 := hid (HD4.out.below hb5)
  have HF5 := hid HF4.out.1
  have HB5 := hid (HB4.out.trans (hb5.mono HB4.out.size))
  clear hb5
  go_wp2_with fail
  refine (fuse_any m4 (oneS 1000 []) 0 w5 HD5.out).mono ?_
  rintro e w6 ⟨rfl, hD6, hM6⟩
  have HF6 := hid (hM6.fresh (B := w.heap.size) HB5.out.size HF5.out)
  have HB6 := hid (HB5.out.trans HF6.out.2)
  have HD6 : Hid (DiskAt w6 m4 fuseS) := hD6
  clear hD6 hM6
  go_wp2_with fail
  refine (syncDir_lets m4 fuseS w6 HD6.out (by decide) (by decide) (by rfl) (by rw [HZ.out.1]; decide)).mono ?_
  rintro e w7 ⟨rfl, hD7, hM7⟩
  rw [HZ.out.1]
  rw [HZ.out.2.1] at hD7
  have HF7 := hid (hM7.fresh (B := w.heap.size) HB6.out.size HF6.out.1)
  have HB7 := hid (HB6.out.trans HF7.out.2)
  have HD7 := hid hD7
  clear hD7 hM7
  go_wp2_with fail
  refine (all_any m4 deadS kA (by unfold maxLen; decide) w7 HD7.out dead_ok.dir dead_ok.len).mono ?_
  rintro e w8 ⟨v8, rfl, hv8, hb8⟩
  rw [HZ.out.2.2.2.2.1, HZ.out.2.2.1]
  rw [HZ.out.2.2.2.1] at hv8
  obtain ⟨q8, c8, rfl⟩ := rows_none hv8
  have HD8 := hid (HD7.out.below hb8)
  have HB8 := hid (HB7.out.trans (hb8.mono HB7.out.size))
  clear hb8 hv8
  go_wp2_with fail
  refine (add_any m4 deadS kA (by unfold maxLen; decide) a n c l w8 HD8.out dead_ok Hn.out hc hcm (Hr.out.below HB8.out) Ha.out).mono ?_
  rintro e w9 ⟨m9, rfl, hD9, hmd9, hM9⟩
  rw [HZ.out.2.2.2.2.2]
  have HF9 := hid (hM9.fresh (B := w.heap.size) HB8.out.size HF7.out.1)
  have HB9 := hid (HB8.out.trans HF9.out.2)
  clear hD9 hM9 hmd9
  go_wp2_with fail
  refine (lives_any w9).mono ?_
  rintro e w10 ⟨rfl, hb10⟩
  have HB10 := hid (HB9.out.trans (hb10.mono HB9.out.size))
  clear hb10
  go_wp2
  go_ret
  exact ⟨rfl, HB10.out⟩
set_option maxRecDepth 100000 in
set_option maxHeartbeats 1600000 in
theorem logsRefused_long (hk : k.size ≤ maxLen) (hne : k ≠ kA) (_h1 : 1 ≤ k.size) (h2 : 24 < k.size) (hn : l.length = n) (hc : n ≤ c) (hcm : c ≤ maxLen) (hr : Rd w a (l.map bv)) (ha : a = none → c = 0) (hn1 : n ≤ 65536) :
    Calls Try.prog 5 #[.string k, .slice a n c] w fun e w' => e = .returned (.bool true) ∧ Below w.heap.size w w' := by
  have b1 : decide ((65536 : Int) < (n : Int)) = false := by simp; omega
  have HZ := hid (dead_facts l (by omega))
  have Hn := hid hn
  have Hr := hid hr
  have Ha := hid ha
  have HQ := hid (one_refused 1000 [] l k hne 1 (by unfold mayB; simp; omega) (by omega))
  have s1 : (k.toList == [97]) = false := by
    rw [beq_eq_false_iff_ne]; intro e; exact hne (str_of e)
  have f0 : decide ((k.size : Int) < 1) = false := by simp; omega
  have f1 : decide (24 < (k.size : Int)) = true := by simp; omega
  clear hn hr ha hne
  go_enter Try.func5, Try.ntmps5
  go_wp2_with fail
  refine (mk_any 1000 none 0 0 [] w rfl (by decide) (by decide) (.inl rfl) (fun _ => rfl) (by decide) (by decide)).mono ?_
  rintro e w1 ⟨m1, rfl, hD1, hF1, hB1⟩
  have HD1 := hid hD1
  have HF1 := hid hF1
  have HB1 := hid hB1
  clear hD1 hF1 hB1
  go_wp2_with fail
  refine (all_nil k w1).mono ?_
  rintro e w2 ⟨rfl, hb2⟩
  have HD2 := hid (HD1.out.below hb2)
  have HB2 := hid (HB1.out.trans (hb2.mono HB1.out.size))
  clear hb2
  go_wp2_with fail
  refine (add_nil k a n c w2 hn1).mono ?_
  rintro e w2' ⟨rfl, rfl⟩
  go_wp2_with fail
  refine (all_any m1 (oneS 1000 []) k hk w2 HD2.out (one_dir _ _) (by intro f hf; simp only [oneS, List.mem_singleton] at hf; subst hf; decide)).mono ?_
  rintro e w3 ⟨v3, rfl, hv3, hb3⟩
  rw [HQ.out.2.2.1, HQ.out.1]
  rw [HQ.out.2.1] at hv3
  obtain ⟨q3, c3, rfl⟩ := rows_none hv3
  have HD3 := hid (HD2.out.below hb3)
  have HB3 := hid (HB2.out.trans (hb3.mono HB2.out.size))
  clear hb3 hv3
  go_wp2_with fail
  refine (add_any m1 (oneS 1000 []) k hk a n c l w3 HD3.out (one_ok _ _ (by decide) (by decide) (by decide)) Hn.out hc hcm (Hr.out.below HB3.out) Ha.out).mono ?_
  rintro e w4 ⟨m4, rfl, hD4, hmd4, hM4⟩
  rw [HQ.out.2.2.2.1, ← hmd4]
  rw [HQ.out.2.2.2.2] at hD4
  have HF4 := hid (hM4.fresh (B := w.heap.size) HB3.out.size HF1.out)
  have HB4 := hid (HB3.out.trans HF4.out.2)
  have HD4 := hid hD4
  clear hD4 hM4 hmd4
  go_wp2_with fail
  refine (used_any m4 (oneS 1000 []) w4 HD4.out (one_dir _ _) (by rw [one_used]; decide)).mono ?_
  rintro e w5 ⟨rfl, hb5⟩
  rw [one_used]
  have HD5 := hid (HD4.out.below hb5)
  have HF5 := hid HF4.out.1
  have HB5 := hid (HB4.out.trans (hb5.mono HB4.out.size))
  clear hb5
  go_wp2_with fail
  refine (fuse_any m4 (oneS 1000 []) 0 w5 HD5.out).mono ?_
  rintro e w6 ⟨rfl, hD6, hM6⟩
  have HF6 := hid (hM6.fresh (B := w.heap.size) HB5.out.size HF5.out)
  have HB6 := hid (HB5.out.trans HF6.out.2)
  have HD6 : Hid (DiskAt w6 m4 fuseS) := hD6
  clear hD6 hM6
  go_wp2_with fail
  refine (syncDir_lets m4 fuseS w6 HD6.out (by decide) (by decide) (by rfl) (by rw [HZ.out.1]; decide)).mono ?_
  rintro e w7 ⟨rfl, hD7, hM7⟩
  rw [HZ.out.1]
  rw [HZ.out.2.1] at hD7
  have HF7 := hid (hM7.fresh (B := w.heap.size) HB6.out.size HF6.out.1)
  have HB7 := hid (HB6.out.trans HF7.out.2)
  have HD7 := hid hD7
  clear hD7 hM7
  go_wp2_with fail
  refine (all_any m4 deadS kA (by unfold maxLen; decide) w7 HD7.out dead_ok.dir dead_ok.len).mono ?_
  rintro e w8 ⟨v8, rfl, hv8, hb8⟩
  rw [HZ.out.2.2.2.2.1, HZ.out.2.2.1]
  rw [HZ.out.2.2.2.1] at hv8
  obtain ⟨q8, c8, rfl⟩ := rows_none hv8
  have HD8 := hid (HD7.out.below hb8)
  have HB8 := hid (HB7.out.trans (hb8.mono HB7.out.size))
  clear hb8 hv8
  go_wp2_with fail
  refine (add_any m4 deadS kA (by unfold maxLen; decide) a n c l w8 HD8.out dead_ok Hn.out hc hcm (Hr.out.below HB8.out) Ha.out).mono ?_
  rintro e w9 ⟨m9, rfl, hD9, hmd9, hM9⟩
  rw [HZ.out.2.2.2.2.2]
  have HF9 := hid (hM9.fresh (B := w.heap.size) HB8.out.size HF7.out.1)
  have HB9 := hid (HB8.out.trans HF9.out.2)
  clear hD9 hM9 hmd9
  go_wp2_with fail
  refine (lives_any w9).mono ?_
  rintro e w10 ⟨rfl, hb10⟩
  have HB10 := hid (HB9.out.trans (hb10.mono HB9.out.size))
  clear hb10
  go_wp2
  go_ret
  exact ⟨rfl, HB10.out⟩
theorem logsRefused_any (hk : k.size ≤ maxLen) (hn : l.length = n) (hc : n ≤ c) (hcm : c ≤ maxLen) (hr : Rd w a (l.map bv)) (ha : a = none → c = 0) :
    Calls Try.prog 5 #[.string k, .slice a n c] w fun e w' => e = .returned (.bool true) ∧ Below w.heap.size w w' := by
  by_cases h : 65536 < n
  · exact logsRefused_big k a n c w h
  · by_cases hne : k = kA
    · subst hne; exact logsRefused_a a n c l w hn hc hcm hr ha (by omega)
    · by_cases h1 : 1 ≤ k.size
      · by_cases h2 : k.size ≤ 24
        · exact logsRefused_may k a n c l w hk hne h1 h2 hn hc hcm hr ha (by omega)
        · exact logsRefused_long k a n c l w hk hne h1 (by omega) hn hc hcm hr ha (by omega)
      · exact logsRefused_none k a n c l w hk hne (by omega) hn hc hcm hr ha (by omega)
end
end Go.Proofs.Herb
