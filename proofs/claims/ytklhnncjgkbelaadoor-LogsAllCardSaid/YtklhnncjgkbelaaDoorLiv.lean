/- The contract of the law's lives: it answers true. No condition. -/
import Derived.Test.YtklhnncjgkbelaaDoorOf
import Derived.Laws.IdiomStrings
namespace Go.Proofs.Herb
open Go.RowKit
theorem one_recB (room : Int) (b l : List UInt8) : recB (oneS room b) kA l = recP b.length l := by rfl
theorem one_addE (room : Int) (b l : List UInt8) (h1 : l.length ≤ 65536) (h2 : (b.length : Int) + ((recP b.length l).length : Int) ≤ room) : addE (oneS room b) kA l = 0 := by
  unfold addE
  rw [if_neg (by omega), one_known, if_neg (by simp), one_recB, one_appendE _ _ _ h2]
theorem one_addS (room : Int) (b l : List UInt8) (h1 : l.length ≤ 65536) (h2 : (b.length : Int) + ((recP b.length l).length : Int) ≤ room) : addS (oneS room b) kA l = oneS room (b ++ recP b.length l) := by
  unfold addS
  rw [if_neg (by rw [one_known]; simp; omega), one_recB, one_appendS _ _ _ h2]
theorem one_addE_full (room : Int) (b l : List UInt8) (h1 : l.length ≤ 65536) (h2 : room < (b.length : Int) + ((recP b.length l).length : Int)) : addE (oneS room b) kA l = 9 := by
  unfold addE
  rw [if_neg (by omega), one_known, if_neg (by simp), one_recB, one_appendE' _ _ _ h2]
theorem one_addS_full (room : Int) (b l : List UInt8) (h1 : l.length ≤ 65536) (h2 : room < (b.length : Int) + ((recP b.length l).length : Int)) : addS (oneS room b) kA l = oneS room b := by
  unfold addS
  rw [if_neg (by rw [one_known]; simp; omega), one_recB, one_appendS' _ _ _ h2]
theorem one_addE_big (room : Int) (b l : List UInt8) (h1 : 65536 < l.length) (k : ByteArray) : addE (oneS room b) k l = 3 ∧ addS (oneS room b) k l = oneS room b := by
  unfold addE addS
  rw [if_pos h1, if_pos (.inl h1)]; exact ⟨rfl, rfl⟩
theorem one_addB (room : Int) (b l : List UInt8) (h1 : l.length ≤ 65536) : addE (oneS room b) kB l = 7 ∧ addS (oneS room b) kB l = oneS room b := by
  unfold addE addS
  rw [if_neg (by omega), one_knownB, if_pos (by decide), if_pos (.inr (by decide))]; exact ⟨rfl, rfl⟩
def livesB : List UInt8 := recP 0 [1, 2] ++ recP (recP 0 [1, 2]).length []
theorem recP_lives : (recP 0 [1, 2]).length = 9 ∧ (recP 9 []).length = 7 := by decide +kernel
theorem recsOf_lives : recsOf (recP 0 [1, 2] ++ recP 9 []) = [([1, 2], 9), ([], 16)] := by decide +kernel
set_option maxRecDepth 100000 in
set_option maxHeartbeats 800000 in
theorem lives_any (w : World) : Calls Tryd.prog 4 #[] w fun e w' => e = .returned (.bool true) ∧ Below w.heap.size w w' := by
  have hR := recP_lives
  have e1 : addE (oneS 100 []) kA [1, 2] = 0 ∧ addS (oneS 100 []) kA [1, 2] = oneS 100 (recP 0 [1, 2]) := ⟨one_addE _ _ _ (by decide) (by show _ + ((recP 0 [1, 2]).length : Int) ≤ _; rw [hR.1]; decide), one_addS _ _ _ (by decide) (by show _ + ((recP 0 [1, 2]).length : Int) ≤ _; rw [hR.1]; decide)⟩
  have e2 : addE (oneS 100 (recP 0 [1, 2])) kA [] = 0 ∧ addS (oneS 100 (recP 0 [1, 2])) kA [] = oneS 100 (recP 0 [1, 2] ++ recP 9 []) := by
    have h1 := one_addE 100 (recP 0 [1, 2]) [] (by decide) (by rw [hR.1, hR.2]; decide)
    have h2 := one_addS 100 (recP 0 [1, 2]) [] (by decide) (by rw [hR.1, hR.2]; decide)
    rw [hR.1] at h2
    exact ⟨h1, h2⟩
  have e3 := one_addB 100 (recP 0 [1, 2] ++ recP 9 []) [] (by decide)
  have hbl : (recP 0 [1, 2] ++ recP 9 []).length ≤ 4194304 := by rw [List.length_append, hR.1, hR.2]; decide
  have hal : allL (oneS 100 (recP 0 [1, 2] ++ recP 9 [])) kA = [[1, 2], []] := by unfold allL; rw [one_read, recsOf_lives]; rfl
  have haw : allW (oneS 100 (recP 0 [1, 2] ++ recP 9 [])) kA = true := by unfold allW; rw [one_read, recsOf_lives, List.length_append, hR.1, hR.2, one_known]; rfl
  have E1 := hid e1
  have E2 := hid e2
  have E3 := hid e3
  have HAL := hid hal
  have HAW := hid haw
  have HR := hid hR
  have HBL := hid hbl
  clear e1 e2 e3 hal haw hR hbl
  go_enter Tryd.func4, Tryd.ntmps4
  go_wp2_with (first
    | (go_at_call 5; refine (mk_any 100 none 0 0 [] w rfl (by decide) (by decide) (.inl rfl) (fun _ => rfl) (by decide) (by decide)).mono ?_; rintro e w1 ⟨m1, rfl, hD1, hF1, hB1⟩; have HD1 := hid hD1; have HF1 := hid hF1; have HB1 := hid hB1; clear hD1 hF1 hB1))
  refine (add_any m1 (oneS 100 []) kA (by unfold maxLen; decide) _ 2 2 [1, 2] _ (HD1.out.below ((Below.refl _ _).alloc (Nat.le_refl _) _)) (one_ok _ _ (by decide) (by decide) (by decide)) rfl (by decide) (by unfold maxLen; decide) (Rd.new w1 (([1, 2] : List UInt8).map bv) 5) (fun h => by cases h)).mono ?_
  rintro e w2 ⟨m2, rfl, hD2, hmd2, hM2⟩
  rw [E1.out.1, ← hmd2]
  rw [E1.out.2] at hD2
  have HD2 := hid hD2
  have HF2 := hid (hM2.fresh (B := w.heap.size) (by have := HB1.out.size; simp; omega) HF1.out)
  have HB2 := hid ((HB1.out.trans ((Below.refl _ w1).alloc (by exact HB1.out.size) _)).trans HF2.out.2)
  clear hD2 hM2 hmd2
  go_wp2_with fail
  refine (add_any m2 (oneS 100 (recP 0 [1, 2])) kA (by unfold maxLen; decide) none 0 0 [] _ HD2.out (one_ok _ _ (by decide) (by decide) (by rw [HR.out.1]; decide)) rfl (by decide) (by unfold maxLen; decide) (.inl rfl) (fun _ => rfl)).mono ?_
  rintro e w3 ⟨m3, rfl, hD3, hmd3, hM3⟩
  rw [E2.out.1, ← hmd3]
  rw [E2.out.2] at hD3
  have HD3 := hid hD3
  have HF3 := hid (hM3.fresh (B := w.heap.size) HB2.out.size HF2.out.1)
  have HB3 := hid (HB2.out.trans HF3.out.2)
  clear hD3 hM3 hmd3
  go_wp2_with fail
  refine (add_any m3 (oneS 100 (recP 0 [1, 2] ++ recP 9 [])) kB (by unfold maxLen; decide) none 0 0 [] _ HD3.out (one_ok _ _ (by decide) (by decide) HBL.out) rfl (by decide) (by unfold maxLen; decide) (.inl rfl) (fun _ => rfl)).mono ?_
  rintro e w4 ⟨m4, rfl, hD4, hmd4, hM4⟩
  rw [E3.out.1, ← hmd4]
  rw [E3.out.2] at hD4
  have HD4 := hid hD4
  have HF4 := hid (hM4.fresh (B := w.heap.size) HB3.out.size HF3.out.1)
  have HB4 := hid (HB3.out.trans HF4.out.2)
  clear hD4 hM4 hmd4
  go_wp2_with fail
  refine (all_any m4 (oneS 100 (recP 0 [1, 2] ++ recP 9 [])) kA (by unfold maxLen; decide) _ HD4.out (one_dir _ _) (by intro f hf; simp only [oneS, List.mem_singleton] at hf; subst hf; exact HBL.out)).mono ?_
  rintro e w5 ⟨v, rfl, hrows, hb5⟩
  rw [HAW.out, one_known]
  rw [HAL.out] at hrows
  have HB5 := hid (HB4.out.trans (hb5.mono HB4.out.size))
  have Hrows := hid hrows
  clear hrows hb5
  go_wp2_with fail
  refine (all_nil kA _).mono ?_
  rintro e w6 ⟨rfl, hb6⟩
  have hrows := Hrows.out.below hb6
  obtain ⟨q, c, rfl, hc, hcm, hqn, hg⟩ := hrows.shape
  obtain ⟨b0, o0, q0, c0, rfl, hc0, _, _, hr0, _, _⟩ := hg 0 [1, 2] rfl
  obtain ⟨b1, o1, q1, c1, hq, hc1, _, _, hr1, _, _⟩ := hg 1 [] rfl
  cases hq
  obtain ⟨bb, oo, rfl, _⟩ := hr0.cell (k := 0) (by decide)
  have hconv := run_convert_bytes_back (P := Tryd.prog) w6 22 9 5 ⟨bb, oo, none⟩ c0 [1, 2] Tryd.underlying22 Tryd.underlying5 Tryd.underlying9 (fun j hj => by
    obtain ⟨b', o', e, hh⟩ := hr0.cell (k := j) (by simpa using hj)
    cases e
    rw [Addr.add_mid, hh, List.getElem_map]; rfl)
  have HB6 := hid (HB5.out.trans (hb6.mono HB5.out.size))
  simp only [List.length_cons, List.length_nil, Nat.zero_add, Nat.add_zero, Nat.reduceAdd] at hc hconv hc0 hc1
  clear hb6 hrows hg hr0 hr1
  go_wp2
  go_ret
  exact ⟨rfl, HB6.out⟩
end Go.Proofs.Herb
