/- The law TablesMay. For facts that can be read. -/
import Derived.Test.YtljdlilcpcokhaaLwT
namespace Go.Proofs.Herb
open Go.RowKit
theorem facts_sub {w : World} {b off : Nat} {l : List Fact} (h : Rd w (some ⟨b, off, none⟩) (fCells l)) (i m : Nat) : Rd w (some ⟨b, off + i * 6, none⟩) (fCells ((l.drop i).take m)) := by
  rw [fCells_take, fCells_drop]
  exact (h.drop (i * 6)).take (m * 6)
/-- each of the first, and each two neighbours of them -/
def MayK (line : Nat) (l : List Fact) (k : Nat) : Prop := 0 < l.length ∧ ∀ i, i < k → buildE line ((l.drop i).take 1) = 0 ∧ (0 < i → buildE line ((l.drop (i - 1)).take 2) = 0)
theorem MayK.step {line : Nat} {l : List Fact} {k : Nat} : MayK line l (k + 1) ↔ MayK line l k ∧ buildE line ((l.drop k).take 1) = 0 ∧ (0 < k → buildE line ((l.drop (k - 1)).take 2) = 0) := by
  constructor
  · rintro ⟨h0, h⟩
    exact ⟨⟨h0, fun i hi => h i (by omega)⟩, h k (by omega)⟩
  · rintro ⟨⟨h0, h⟩, h1⟩
    refine ⟨h0, fun i hi => ?_⟩
    by_cases e : i = k
    · subst e; exact h1
    · exact h i (by omega)
set_option maxRecDepth 100000 in
set_option maxHeartbeats 2000000 in
theorem mayLaw_any (line : Nat) (q : Option Addr) (n c : Nat) (l : List Fact) (w : World) (_hl : line < 18446744073709551616) (hn : l.length = n) (hc : n ≤ c) (hcm : c ≤ maxLen) (hm : n ≤ 9223372036854775807) (hr : Rd w q (fCells l)) (ho : ∀ f ∈ l, f.Ok) (hs : ∀ f ∈ l, f.key.size ≤ 140737488355328 ∧ f.val.size ≤ 140737488355328)
    (hlaw : n ≤ 60 → (buildE line l = 0 ↔ MayK line l n) ∧ (buildE line l = 0 ∨ buildE line l = 1) ∧ (MayK line l n → buildE ((line + 1) % 18446744073709551616) l = 1)) :
    Calls Try.prog 3 #[.int .u64 (line : Int), .slice q n c] w fun e w' => e = .returned (.bool true) ∧ Below w.heap.size w w' := by
  unfold maxLen at hcm
  have HG := hid (great_any q n c l w hn hm hr hs)
  have Hn := hid hn
  have Hr := hid hr
  have Ho := hid ho
  have HLaw := hid hlaw
  clear hn hr ho hlaw hs
  go_enter Try.func3, Try.ntmps3
  go_wp2_with fail
  refine HG.out.mono ?_
  rintro e w1 ⟨b, rfl, hb, hB1⟩
  have HB1 := hid hB1
  have hs1 := hB1.size
  clear HG hB1
  cases b with
  | true =>
    clear hb
    go_wp2_with fail
    refine (lives_any w1).mono ?_
    rintro e w2 ⟨rfl, hb2⟩
    have HB2 := hid (HB1.out.trans (hb2.mono hs1))
    clear hb2
    go_wp2
    go_ret
    exact ⟨rfl, HB2.out⟩
  | false =>
    clear hb
    by_cases h60 : 60 < n
    · have d0 : decide ((60 : Int) < (n : Int)) = true := by simp; omega
      go_wp2_with fail
      refine (lives_any w1).mono ?_
      rintro e w2 ⟨rfl, hb2⟩
      have HB2 := hid (HB1.out.trans (hb2.mono hs1))
      clear hb2
      go_wp2
      go_ret
      exact ⟨rfl, HB2.out⟩
    · have d0 : decide ((60 : Int) < (n : Int)) = false := by simp; omega
      obtain ⟨l1, l2, l3⟩ := HLaw.out (by omega)
      have HL1 := hid l1
      have HL2 := hid l2
      have HL3 := hid l3
      clear l1 l2 l3 HLaw
      go_wp2_with fail
      go_loopw [5, 6] (fun v i wr => ∃ (k : Nat) (b : Bool), k ≤ n ∧ i = .int .i64 (k : Int) ∧ v = .bool b ∧ (b = true ↔ MayK line l k) ∧ Below w.heap.size w wr) (fun _ i _ => n - (intOf i).toNat)
      case atStart =>
        refine ⟨0, _, Nat.zero_le _, rfl, rfl, ?_, HB1.out⟩
        rw [decide_eq_true_eq]
        unfold MayK
        rw [Hn.out]
        constructor
        · intro h; exact ⟨by omega, fun i hi => by omega⟩
        · intro h; have := h.1; omega
      case round =>
        obtain ⟨k, b, hk, rfl, rfl, hmb, hb⟩ := hrel
        have HB := hid hb
        have HMB := hid hmb
        have hsr := hb.size
        clear hb hmb
        by_cases hlt : k < n
        · have hkl : k < l.length := by rw [Hn.out]; exact hlt
          have hr2 := Hr.out.below HB.out
          obtain ⟨bq, off, rfl, _, _⟩ := fact_at hr2 hkl
          have Hr2 := hid hr2
          obtain ⟨E1, hE1⟩ : ∃ E, E = buildE line ((l.drop k).take 1) := ⟨_, rfl⟩
          have i0 : (0 : Int) ≤ (k : Int) := by omega
          have i1 : (k : Int) + 1 ≤ (c : Int) := by omega
          have w1 : IntKind.i64.wrap ((k : Int) + 1) = ((k + 1 : Nat) : Int) := by rw [IntWalk.i64_in _ (by omega)]; omega
          have HB1 := hid (build_e line (some ⟨bq, off + k * 6, none⟩) 1 (c - k) ((l.drop k).take 1) wr (by rw [List.length_take, List.length_drop]; omega) (by decide) (facts_sub Hr2.out k 1) (fun f hf => Ho.out f (List.mem_of_mem_drop (List.mem_of_mem_take hf))))
          rw [← hE1] at HB1
          have HE1 := hid hE1
          clear hr2 hE1
          go_wp2_with fail
          refine HB1.out.mono ?_
          rintro e w2 ⟨p, m, d, arr, rfl, h8, h1, hb2⟩
          have H8 := hid (show zProps.size = arr.size by rw [h8]; rfl)
          have infoP8 := hid (show (Try.prog.info? 29).map (·.size) = some arr.size by rw [h8]; exact infoProps)
          have H1 := hid h1
          have hs2 := hb2.size
          have HB2 := hid (HB.out.trans (hb2.mono hsr))
          clear h8 h1 hb2
          cases b with
          | false =>
            by_cases h0 : k = 0
            · have d9 : decide ((0 : Int) < (k : Int)) = false := by simp; omega
              go_wp2_with (refine wpList_store_block rfl 29 _ _ rfl _ _ _ _ rfl rfl (heap_alloc_new _ _) H8.out infoP8.out H1.out ?_)
              refine ⟨⟨k + 1, false, by omega, by go_num, rfl, ?_, below_setRow (HB2.out.alloc (by omega) _) (by omega) _⟩, by simp [intOf]; omega⟩
              rw [MayK.step, ← HMB.out, ← HE1.out]
              exact ⟨fun h => (by cases h), fun h => (by cases h.1)⟩
            · have d9 : decide ((0 : Int) < (k : Int)) = true := by simp; omega
              obtain ⟨j, hj⟩ : ∃ j, k = j + 1 := ⟨k - 1, by omega⟩
              obtain ⟨E2, hE2⟩ : ∃ E, E = buildE line ((l.drop (k - 1)).take 2) := ⟨_, rfl⟩
              have w2' : IntKind.i64.wrap ((k : Int) - 1) = (j : Int) := by rw [IntWalk.i64_in _ (by omega)]; omega
              have j0 : (0 : Int) ≤ (j : Int) := by omega
              have j1 : (j : Int) ≤ (k : Int) + 1 := by omega
              have j2 : (k : Int) + 1 - (j : Int) = 2 := by omega
              have j3 : ((k + 1 : Nat) : Int) - (j : Int) = 2 := by omega
              have j4 : k + 1 - j = 2 := by omega
              have HE2 := hid hE2
              have HJ := hid hj
              clear hj hE2
              go_wp2_with (refine wpList_store_block rfl 29 _ _ rfl _ _ _ _ rfl rfl (heap_alloc_new _ _) H8.out infoP8.out H1.out ?_)
              obtain ⟨w3, hw3⟩ : ∃ x, x = (w2.alloc (.cells zProps 29)).setRow w2.heap.size arr := ⟨_, rfl⟩
              have hb3 : Below w.heap.size w w3 := by rw [hw3]; exact below_setRow (HB2.out.alloc (by omega) _) (by omega) _
              unfold zProps at hw3
              rw [← hw3]
              have HB3 := hid hb3
              have hs3 := hb3.size
              clear hb3 hw3
              refine (build_e line (some ⟨bq, off + j * 6, none⟩) 2 (c - j) ((l.drop (k - 1)).take 2) w3 (by have := HJ.out; rw [List.length_take, List.length_drop]; omega) (by decide) (by rw [show k - 1 = j by have := HJ.out; omega]; exact facts_sub (Hr.out.below HB3.out) j 2) (fun f hf => Ho.out f (List.mem_of_mem_drop (List.mem_of_mem_take hf)))).mono ?_
              rintro e w4 ⟨p4, m4, d4, arr4, rfl, h48, h41, hb4⟩
              rw [← HE2.out]
              have HB4 := hid (HB3.out.trans (hb4.mono hs3))
              clear hb4 h48 h41
              go_wp2
              refine ⟨⟨k + 1, false, by omega, by go_num, rfl, ?_, HB4.out⟩, by simp [intOf]; omega⟩
              rw [MayK.step, ← HMB.out, ← HE1.out]
              exact ⟨fun h => (by cases h), fun h => (by cases h.1)⟩
          | true =>
            by_cases hz : E1 = 0
            · have e1 : (E1 == 0) = true := by simpa using hz
              have HZ := hid hz
              clear hz
              by_cases h0 : k = 0
              · have d9 : decide ((0 : Int) < (k : Int)) = false := by simp; omega
                go_wp2_with (refine wpList_store_block rfl 29 _ _ rfl _ _ _ _ rfl rfl (heap_alloc_new _ _) H8.out infoP8.out H1.out ?_)
                refine ⟨⟨k + 1, true, by omega, by go_num, rfl, ?_, below_setRow (HB2.out.alloc (by omega) _) (by omega) _⟩, by simp [intOf]; omega⟩
                rw [MayK.step, ← HMB.out, ← HE1.out]
                exact ⟨fun _ => ⟨trivial, HZ.out, fun h => by omega⟩, fun _ => rfl⟩
              · have d9 : decide ((0 : Int) < (k : Int)) = true := by simp; omega
                obtain ⟨j, hj⟩ : ∃ j, k = j + 1 := ⟨k - 1, by omega⟩
                obtain ⟨E2, hE2⟩ : ∃ E, E = buildE line ((l.drop (k - 1)).take 2) := ⟨_, rfl⟩
                have w2' : IntKind.i64.wrap ((k : Int) - 1) = (j : Int) := by rw [IntWalk.i64_in _ (by omega)]; omega
                have j0 : (0 : Int) ≤ (j : Int) := by omega
                have j1 : (j : Int) ≤ (k : Int) + 1 := by omega
                have j2 : (k : Int) + 1 - (j : Int) = 2 := by omega
                have j3 : ((k + 1 : Nat) : Int) - (j : Int) = 2 := by omega
                have j4 : k + 1 - j = 2 := by omega
                have HE2 := hid hE2
                have HJ := hid hj
                clear hj hE2
                go_wp2_with (refine wpList_store_block rfl 29 _ _ rfl _ _ _ _ rfl rfl (heap_alloc_new _ _) H8.out infoP8.out H1.out ?_)
                obtain ⟨w3, hw3⟩ : ∃ x, x = (w2.alloc (.cells zProps 29)).setRow w2.heap.size arr := ⟨_, rfl⟩
                have hb3 : Below w.heap.size w w3 := by rw [hw3]; exact below_setRow (HB2.out.alloc (by omega) _) (by omega) _
                unfold zProps at hw3
                rw [← hw3]
                have HB3 := hid hb3
                have hs3 := hb3.size
                clear hb3 hw3
                refine (build_e line (some ⟨bq, off + j * 6, none⟩) 2 (c - j) ((l.drop (k - 1)).take 2) w3 (by have := HJ.out; rw [List.length_take, List.length_drop]; omega) (by decide) (by rw [show k - 1 = j by have := HJ.out; omega]; exact facts_sub (Hr.out.below HB3.out) j 2) (fun f hf => Ho.out f (List.mem_of_mem_drop (List.mem_of_mem_take hf)))).mono ?_
                rintro e w4 ⟨p4, m4, d4, arr4, rfl, h48, h41, hb4⟩
                rw [← HE2.out]
                have HB4 := hid (HB3.out.trans (hb4.mono hs3))
                clear hb4 h48 h41
                by_cases hz2 : E2 = 0
                · have e2 : (E2 == 0) = true := by simpa using hz2
                  have HZ2 := hid hz2
                  clear hz2
                  go_wp2
                  refine ⟨⟨k + 1, true, by omega, by go_num, rfl, ?_, HB4.out⟩, by simp [intOf]; omega⟩
                  rw [MayK.step, ← HMB.out, ← HE1.out, ← HE2.out]
                  exact ⟨fun _ => ⟨trivial, HZ.out, fun _ => HZ2.out⟩, fun _ => rfl⟩
                · have e2 : (E2 == 0) = false := by simpa using hz2
                  have HZ2 := hid hz2
                  clear hz2
                  go_wp2
                  refine ⟨⟨k + 1, false, by omega, by go_num, rfl, ?_, HB4.out⟩, by simp [intOf]; omega⟩
                  rw [MayK.step, ← HMB.out, ← HE1.out, ← HE2.out]
                  exact ⟨fun h => (by cases h), fun h => absurd (h.2.2 (by have := HJ.out; omega)) HZ2.out⟩
            · have e1 : (E1 == 0) = false := by simpa using hz
              have HZ := hid hz
              clear hz
              by_cases h0 : k = 0
              · have d9 : decide ((0 : Int) < (k : Int)) = false := by simp; omega
                go_wp2_with (refine wpList_store_block rfl 29 _ _ rfl _ _ _ _ rfl rfl (heap_alloc_new _ _) H8.out infoP8.out H1.out ?_)
                refine ⟨⟨k + 1, false, by omega, by go_num, rfl, ?_, below_setRow (HB2.out.alloc (by omega) _) (by omega) _⟩, by simp [intOf]; omega⟩
                rw [MayK.step, ← HMB.out, ← HE1.out]
                exact ⟨fun h => (by cases h), fun h => absurd h.2.1 HZ.out⟩
              · have d9 : decide ((0 : Int) < (k : Int)) = true := by simp; omega
                obtain ⟨j, hj⟩ : ∃ j, k = j + 1 := ⟨k - 1, by omega⟩
                obtain ⟨E2, hE2⟩ : ∃ E, E = buildE line ((l.drop (k - 1)).take 2) := ⟨_, rfl⟩
                have w2' : IntKind.i64.wrap ((k : Int) - 1) = (j : Int) := by rw [IntWalk.i64_in _ (by omega)]; omega
                have j0 : (0 : Int) ≤ (j : Int) := by omega
                have j1 : (j : Int) ≤ (k : Int) + 1 := by omega
                have j2 : (k : Int) + 1 - (j : Int) = 2 := by omega
                have j3 : ((k + 1 : Nat) : Int) - (j : Int) = 2 := by omega
                have j4 : k + 1 - j = 2 := by omega
                have HE2 := hid hE2
                have HJ := hid hj
                clear hj hE2
                go_wp2_with (refine wpList_store_block rfl 29 _ _ rfl _ _ _ _ rfl rfl (heap_alloc_new _ _) H8.out infoP8.out H1.out ?_)
                obtain ⟨w3, hw3⟩ : ∃ x, x = (w2.alloc (.cells zProps 29)).setRow w2.heap.size arr := ⟨_, rfl⟩
                have hb3 : Below w.heap.size w w3 := by rw [hw3]; exact below_setRow (HB2.out.alloc (by omega) _) (by omega) _
                unfold zProps at hw3
                rw [← hw3]
                have HB3 := hid hb3
                have hs3 := hb3.size
                clear hb3 hw3
                refine (build_e line (some ⟨bq, off + j * 6, none⟩) 2 (c - j) ((l.drop (k - 1)).take 2) w3 (by have := HJ.out; rw [List.length_take, List.length_drop]; omega) (by decide) (by rw [show k - 1 = j by have := HJ.out; omega]; exact facts_sub (Hr.out.below HB3.out) j 2) (fun f hf => Ho.out f (List.mem_of_mem_drop (List.mem_of_mem_take hf)))).mono ?_
                rintro e w4 ⟨p4, m4, d4, arr4, rfl, h48, h41, hb4⟩
                rw [← HE2.out]
                have HB4 := hid (HB3.out.trans (hb4.mono hs3))
                clear hb4 h48 h41
                go_wp2
                refine ⟨⟨k + 1, false, by omega, by go_num, rfl, ?_, HB4.out⟩, by simp [intOf]; omega⟩
                rw [MayK.step, ← HMB.out, ← HE1.out]
                exact ⟨fun h => (by cases h), fun h => absurd h.2.1 HZ.out⟩
        · obtain rfl : k = n := by omega
          have hr2 := Hr.out.below HB.out
          have HB1 := hid (build_e line q k c l wr Hn.out (by omega) hr2 Ho.out)
          clear hr2
          go_wp2_with fail
          refine HB1.out.mono ?_
          rintro e w2 ⟨p, m, d, arr, rfl, h8, h1, hb2⟩
          have H8 := hid (show zProps.size = arr.size by rw [h8]; rfl)
          have infoP8 := hid (show (Try.prog.info? 29).map (·.size) = some arr.size by rw [h8]; exact infoProps)
          have H1 := hid h1
          have hs2 := hb2.size
          have HB2 := hid (HB.out.trans (hb2.mono hsr))
          clear h8 h1 hb2
          obtain ⟨E1, hE1⟩ : ∃ E, E = buildE line l := ⟨_, rfl⟩
          rw [← hE1]
          have HE1 := hid hE1
          clear hE1
          go_wp2_with (refine wpList_store_block rfl 29 _ _ rfl _ _ _ _ rfl rfl (heap_alloc_new _ _) H8.out infoP8.out H1.out ?_)
          obtain ⟨w3, hw3⟩ : ∃ x, x = (w2.alloc (.cells zProps 29)).setRow w2.heap.size arr := ⟨_, rfl⟩
          have hb3 : Below w.heap.size w w3 := by rw [hw3]; exact below_setRow (HB2.out.alloc (by omega) _) (by omega) _
          unfold zProps at hw3
          rw [← hw3]
          have HB3 := hid hb3
          have hs3 := hb3.size
          clear hb3 hw3
          have hl1 : IntKind.u64.wrap ((line : Int) + 1) = (((line + 1) % 18446744073709551616 : Nat) : Int) := by rw [IntKind.wrap_u64]; omega
          rw [hl1]
          refine (build_e ((line + 1) % 18446744073709551616) q k c l w3 Hn.out (by omega) (Hr.out.below HB3.out) Ho.out).mono ?_
          rintro e w4 ⟨p4, m4, d4, arr4, rfl, h48, h41, hb4⟩
          have G8 := hid (show zProps.size = arr4.size by rw [h48]; rfl)
          have infoG8 := hid (show (Try.prog.info? 29).map (·.size) = some arr4.size by rw [h48]; exact infoProps)
          have G1 := hid h41
          have hs4 := hb4.size
          have HB4 := hid (HB3.out.trans (hb4.mono hs3))
          clear h48 h41 hb4
          obtain ⟨F1, hF1⟩ : ∃ E, E = buildE ((line + 1) % 18446744073709551616) l := ⟨_, rfl⟩
          rw [← hF1]
          have HF1 := hid hF1
          clear hF1
          cases b with
          | true =>
            have hE0 : E1 = 0 := by rw [HE1.out]; exact HL1.out.2 (HMB.out.1 rfl)
            have hF0 : F1 = 1 := by rw [HF1.out]; exact HL3.out (HMB.out.1 rfl)
            subst hE0
            subst hF0
            clear HE1 HF1
            go_wp2_with (refine wpList_store_block rfl 29 _ _ rfl _ _ _ _ rfl rfl (heap_alloc_new _ _) G8.out infoG8.out G1.out ?_)
            refine (lives_any _).mono ?_
            rintro e w5 ⟨rfl, hb5⟩
            have hb6 : Below w4.heap.size w4 ((w4.alloc (.cells zProps 29)).setRow w4.heap.size arr4) := below_setRow ((Below.refl _ _).alloc (Nat.le_refl _) _) (Nat.le_refl _) _
            have HB5 := hid (HB4.out.trans ((hb6.trans (hb5.mono hb6.size)).mono (by omega)))
            clear hb5 hb6
            go_wp2
            go_ret
            exact ⟨rfl, HB5.out⟩
          | false =>
            have hE0 : E1 = 1 := by
              rcases HL2.out with h | h
              · have := HMB.out.2 (HL1.out.1 h)
                cases this
              · rw [HE1.out]; exact h
            subst hE0
            clear HE1
            go_wp2_with (refine wpList_store_block rfl 29 _ _ rfl _ _ _ _ rfl rfl (heap_alloc_new _ _) G8.out infoG8.out G1.out ?_)
            refine (lives_any _).mono ?_
            rintro e w5 ⟨rfl, hb5⟩
            have hb6 : Below w4.heap.size w4 ((w4.alloc (.cells zProps 29)).setRow w4.heap.size arr4) := below_setRow ((Below.refl _ _).alloc (Nat.le_refl _) _) (Nat.le_refl _) _
            have HB5 := hid (HB4.out.trans ((hb6.trans (hb5.mono hb6.size)).mono (by omega)))
            clear hb5 hb6
            go_wp2
            go_ret
            exact ⟨rfl, HB5.out⟩
end Go.Proofs.Herb
