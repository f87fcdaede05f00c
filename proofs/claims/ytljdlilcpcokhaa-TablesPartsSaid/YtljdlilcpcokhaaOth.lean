/- The law TablesOther. For facts that can be read. -/
import Derived.Test.YtljdlilcpcokhaaLwT
import Derived.Test.YtljdlilcpcokhaaSft
namespace Go.Proofs.Herb
open Go.RowKit
theorem build_x (line : Nat) (q : Option Addr) (n c : Nat) (fs : List Fact) (w : World) (hn : fs.length = n) (hm : n ≤ 6000) (hr : Rd w q (fCells fs)) (ho : ∀ f ∈ fs, f.Ok) :
    Calls Try.prog 9 #[.int .u64 (line : Int), .slice q n c] w fun e w' => ∃ p m d arr, e = .returned (.tuple #[.slice p m d, .agg arr, .int .i64 (buildE line fs)]) ∧ arr.size = 8 ∧ (∀ v ∈ arr.toList, v.oneCell' = true) ∧ Below w.heap.size w w' ∧
      (buildE line fs = 0 → m = (tabB line fs).length ∧ d = m ∧ Rd w' p ((tabB line fs).map bv) ∧ arr = (propsF line fs).cells.toArray) := by
  by_cases h : buildE line fs = 0
  · obtain ⟨h1, h2⟩ := buildE_zero.1 h
    rw [h]
    exact (build_ok line q n c fs w hn hm hr ho h1 h2).mono fun e w' ⟨p, k1, k2, k3⟩ => ⟨p, _, _, _, k1, (props_cells8 _).1, (props_cells8 _).2, k3, fun _ => ⟨rfl, rfl, k2.rd, rfl⟩⟩
  · exact (build_e line q n c fs w hn hm hr ho).mono fun e w' ⟨p, m, d, arr, k1, k2, k3, k4⟩ => ⟨p, m, d, arr, k1, k2, k3, k4, fun e => absurd e h⟩
theorem great_small {n : Nat} {l : List Fact} (hn : l.length = n) (h : ¬ 120000 < greatF l) : n ≤ 6000 := by
  have := (great_len l 0 (by unfold greatF at h; omega)).1
  omega
set_option maxRecDepth 100000 in
set_option maxHeartbeats 2000000 in
theorem otherLaw_any (line : Nat) (q1 q2 : Option Addr) (n1 c1 n2 c2 : Nat) (l m : List Fact) (w : World) (hn1 : l.length = n1) (hn2 : m.length = n2) (hm1 : n1 ≤ 9223372036854775807) (hm2 : n2 ≤ 9223372036854775807) (hr1 : Rd w q1 (fCells l)) (hr2 : Rd w q2 (fCells m)) (ho1 : ∀ f ∈ l, f.Ok) (ho2 : ∀ f ∈ m, f.Ok)
    (hs1 : ∀ f ∈ l, f.key.size ≤ 140737488355328 ∧ f.val.size ≤ 140737488355328) (hs2 : ∀ f ∈ m, f.key.size ≤ 140737488355328 ∧ f.val.size ≤ 140737488355328) (hlaw : buildE line l = 0 → buildE line m = 0 → (tabB line l = tabB line m ↔ l = m)) :
    Calls Try.prog 4 #[.int .u64 (line : Int), .slice q1 n1 c1, .slice q2 n2 c2] w fun e w' => e = .returned (.bool true) ∧ Below w.heap.size w w' := by
  have HG1 := hid (great_any q1 n1 c1 l w hn1 hm1 hr1 hs1)
  have HG2 := hid (fun (w' : World) (hb : Below w.heap.size w w') => great_any q2 n2 c2 m w' hn2 hm2 (hr2.below hb) hs2)
  have Hn1 := hid hn1
  have Hn2 := hid hn2
  have Hr1 := hid hr1
  have Hr2 := hid hr2
  have Ho1 := hid ho1
  have Ho2 := hid ho2
  have HLaw := hid hlaw
  clear hn1 hn2 hr1 hr2 ho1 ho2 hlaw hs1 hs2
  go_enter Try.func4, Try.ntmps4
  go_wp2_with fail
  refine HG1.out.mono ?_
  rintro e w1 ⟨b, rfl, hb, hB1⟩
  have HB1 := hid hB1
  have Hb := hid hb
  have hs1 := hB1.size
  clear HG1 hB1 hb
  cases b with
  | true =>
    go_wp2_with fail
    refine (lives_any w1).mono ?_
    rintro e w2 ⟨rfl, hb2⟩
    have HB2 := hid (HB1.out.trans (hb2.mono hs1))
    clear hb2
    go_wp2
    go_ret
    exact ⟨rfl, HB2.out⟩
  | false =>
    go_wp2_with fail
    refine (HG2.out w1 HB1.out).mono ?_
    rintro e w2 ⟨b2, rfl, hb2, hB2⟩
    have HB2 := hid (HB1.out.trans (hB2.mono hs1))
    have Hb2 := hid hb2
    have hs2 := HB2.out.size
    clear hb2 hB2
    cases b2 with
    | true =>
      go_wp2_with fail
      refine (lives_any w2).mono ?_
      rintro e w3 ⟨rfl, hb3⟩
      have HB3 := hid (HB2.out.trans (hb3.mono hs2))
      clear hb3
      go_wp2
      go_ret
      exact ⟨rfl, HB3.out⟩
    | false =>
      have hk1 : n1 ≤ 6000 := great_small Hn1.out (fun h => by have := Hb.out.2 h; cases this)
      have hk2 : n2 ≤ 6000 := great_small Hn2.out (fun h => by have := Hb2.out.2 h; cases this)
      obtain ⟨E1, hE1⟩ : ∃ E, E = buildE line l := ⟨_, rfl⟩
      obtain ⟨E2, hE2⟩ : ∃ E, E = buildE line m := ⟨_, rfl⟩
      have HE1 := hid hE1
      have HE2 := hid hE2
      clear hE1 hE2
      go_wp2_with fail
      refine (build_x line q1 n1 c1 l w2 Hn1.out hk1 (Hr1.out.below HB2.out) Ho1.out).mono ?_
      rintro e w3 ⟨p3, m3, d3, arr3, rfl, h8, h1, hb3, hx3⟩
      rw [← HE1.out] at hx3 ⊢
      have H8 := hid (show zProps.size = arr3.size by rw [h8]; rfl)
      have infoP8 := hid (show (Try.prog.info? 29).map (·.size) = some arr3.size by rw [h8]; exact infoProps)
      have H1 := hid h1
      have hs3 := hb3.size
      have HB3 := hid (HB2.out.trans (hb3.mono hs2))
      have HX3 := hid hx3
      clear h8 h1 hb3 hx3
      go_wp2_with (refine wpList_store_block rfl 29 _ _ rfl _ _ _ _ rfl rfl (heap_alloc_new _ _) H8.out infoP8.out H1.out ?_)
      obtain ⟨w4, hw4⟩ : ∃ x, x = (w3.alloc (.cells zProps 29)).setRow w3.heap.size arr3 := ⟨_, rfl⟩
      have hb4 : Below w3.heap.size w3 w4 := by rw [hw4]; exact below_setRow ((Below.refl _ _).alloc (Nat.le_refl _) _) (Nat.le_refl _) _
      unfold zProps at hw4
      rw [← hw4]
      have HB4 := hid (HB3.out.trans (hb4.mono (by omega)))
      have HB34 := hid hb4
      have hs4 := hb4.size
      clear hb4 hw4
      refine (build_x line q2 n2 c2 m w4 Hn2.out hk2 (Hr2.out.below HB4.out) Ho2.out).mono ?_
      rintro e w5 ⟨p5, m5, d5, arr5, rfl, h8, h1, hb5, hx5⟩
      rw [← HE2.out] at hx5 ⊢
      have G8 := hid (show zProps.size = arr5.size by rw [h8]; rfl)
      have infoG8 := hid (show (Try.prog.info? 29).map (·.size) = some arr5.size by rw [h8]; exact infoProps)
      have G1 := hid h1
      have hs5 := hb5.size
      have HB5 := hid (HB4.out.trans (hb5.mono (by omega)))
      have HB45 := hid hb5
      have HX5 := hid hx5
      clear h8 h1 hb5 hx5
      obtain ⟨w6, hw6⟩ : ∃ x, x = (w5.alloc (.cells zProps 29)).setRow w5.heap.size arr5 := ⟨_, rfl⟩
      have hb6 : Below w5.heap.size w5 w6 := by rw [hw6]; exact below_setRow ((Below.refl _ _).alloc (Nat.le_refl _) _) (Nat.le_refl _) _
      unfold zProps at hw6
      have HB6 := hid (HB5.out.trans (hb6.mono (by omega)))
      have HB56 := hid hb6
      have hs6 := hb6.size
      have HW6 := hid hw6
      clear hb6 hw6
      by_cases hz1 : E1 = 0
      · have e1 : (E1 != 0) = false := by simpa using hz1
        by_cases hz2 : E2 = 0
        · have e2 : (E2 != 0) = false := by simpa using hz2
          obtain ⟨rfl, rfl, r3, -⟩ := HX3.out hz1
          obtain ⟨rfl, rfl, r5, -⟩ := HX5.out hz2
          have hlw := HLaw.out (HE1.out.symm.trans hz1) (HE2.out.symm.trans hz2)
          obtain ⟨⟨-, g1⟩, t1⟩ := buildE_zero.1 (HE1.out.symm.trans hz1)
          obtain ⟨⟨-, g2⟩, t2⟩ := buildE_zero.1 (HE2.out.symm.trans hz2)
          obtain ⟨T1, hT1⟩ : ∃ T, T = (tabB line l).length := ⟨_, rfl⟩
          obtain ⟨T2, hT2⟩ : ∃ T, T = (tabB line m).length := ⟨_, rfl⟩
          have HS := hid (same_bytes p3 p5 T1 T1 T2 T2 (tabB line l) (tabB line m) w6 hT1.symm hT2.symm (by omega) (by omega) (((r3.below HB34.out).below HB45.out).below HB56.out) (r5.below HB56.out))
          rw [← hT1, ← hT2]
          have HLw := hid hlw
          clear hz1 hz2 r3 r5 hlw g1 t1 g2 t2 hT1 hT2
          go_upto_region 5 with (refine wpList_store_block rfl 29 _ _ rfl _ _ _ _ rfl rfl (heap_alloc_new _ _) G8.out infoG8.out G1.out ?_)
          rw [← HW6.out]
          go_wp2_with fail
          refine HS.out.mono ?_
          rintro e w7 ⟨rfl, hb7⟩
          have HB7 := hid (HB6.out.trans (hb7.mono (by omega)))
          clear hb7
          go_wp2_with fail
          refine (same_facts q1 q2 n1 c1 n2 c2 l m w7 Hn1.out Hn2.out (by omega) (by omega) (Hr1.out.below HB7.out) (Hr2.out.below HB7.out)).mono ?_
          rintro e w8 ⟨x, rfl, hx, hb8⟩
          have hs7 := HB7.out.size
          have hxe : (tabB line l == tabB line m) = x := by
            rw [Bool.eq_iff_iff, beq_iff_eq, hx]
            exact HLw.out
          have HB8 := hid (HB7.out.trans (hb8.mono hs7))
          have hs8 := HB8.out.size
          rw [hxe]
          have hxx : (x == x) = true := by simp
          clear hx hb8 hxe
          go_wp2_with fail
          refine (lives_any w8).mono ?_
          rintro e w9 ⟨rfl, hb9⟩
          have HB9 := hid (HB8.out.trans (hb9.mono hs8))
          clear hb9
          go_wp2
          go_ret
          exact ⟨rfl, HB9.out⟩
        · have e2 : (E2 != 0) = true := by simpa using hz2
          clear hz1 hz2
          go_upto_region 5 with (refine wpList_store_block rfl 29 _ _ rfl _ _ _ _ rfl rfl (heap_alloc_new _ _) G8.out infoG8.out G1.out ?_)
          rw [← HW6.out]
          go_wp2_with fail
          refine (lives_any w6).mono ?_
          rintro e w7 ⟨rfl, hb7⟩
          have HB7 := hid (HB6.out.trans (hb7.mono (by omega)))
          clear hb7
          go_wp2
          go_ret
          exact ⟨rfl, HB7.out⟩
      · have e1 : (E1 != 0) = true := by simpa using hz1
        clear hz1
        go_upto_region 5 with (refine wpList_store_block rfl 29 _ _ rfl _ _ _ _ rfl rfl (heap_alloc_new _ _) G8.out infoG8.out G1.out ?_)
        rw [← HW6.out]
        go_wp2_with fail
        refine (lives_any w6).mono ?_
        rintro e w7 ⟨rfl, hb7⟩
        have HB7 := hid (HB6.out.trans (hb7.mono (by omega)))
        clear hb7
        go_wp2
        go_ret
        exact ⟨rfl, HB7.out⟩
end Go.Proofs.Herb
