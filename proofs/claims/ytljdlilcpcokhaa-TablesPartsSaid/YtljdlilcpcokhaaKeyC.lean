/- The contracts of keys.Put and Cmp. For keys of so many bytes. -/
import Derived.Test.YtljdlilcpcokhaaKey
import Derived.Test.YtljdlilcpcokhaaKeyB
import Derived.Deep.RegionLaw
import Derived.Deep.RegionWith
namespace Go.Proofs.Herb
open Go.RowKit
/-- a fact's bytes -/
def kput (f : Fact) : List UInt8 := esc f.key.data.toList ++ [0, 0] ++ tailB f.valid f.seq f.kind
theorem kput_no (f : Fact) (w : World) (hk : f.key.size ≤ maxLen) (h : mayF f = false) :
    Calls Try.prog 18 #[.agg f.cells.toArray] w fun e w' => e = .returned (.tuple #[.slice none 0 0, .int .i64 1]) ∧ Below w.heap.size w w' := by
  have HM := hid (may_any f (w.alloc (.cells f.cells.toArray 41)) hk)
  rw [h] at HM
  unfold Fact.cells at HM ⊢
  go_enter Try.func18, Try.ntmps18
  go_wp2_with fail
  (with_reducible refine HM.out.mono ?_)
  rintro e w1 ⟨rfl, hb1⟩
  have HB := hid (((Below.refl w.heap.size w).alloc (Nat.le_refl _) _).trans (hb1.mono (by simp)))
  clear hb1
  go_wp2_with fail
  go_ret2
  exact ⟨rfl, HB.out⟩
set_option maxRecDepth 100000 in
set_option maxHeartbeats 1000000 in
theorem kput_ok (f : Fact) (o : f.Ok) (w : World) (h : mayF f = true) :
    Calls Try.prog 18 #[.agg f.cells.toArray] w fun e w' => ∃ q, e = .returned (.tuple #[.slice q (kput f).length (kput f).length, .int .i64 0]) ∧ Fr w' w.heap.size 5 1 (.slice q (kput f).length (kput f).length) (kput f).length ((kput f).map bv) ∧ Below w.heap.size w w' := by
  have hm := h
  unfold mayF at hm
  simp only [decide_eq_true_eq] at hm
  have HM := hid (may_any f (w.alloc (.cells f.cells.toArray 41)) o.key)
  rw [h] at HM
  obtain ⟨N, hN⟩ : ∃ N, N = (esc f.key.data.toList).length + 2 := ⟨_, rfl⟩
  have hkl : (kput f).length = N + 13 := by
    unfold kput
    rw [List.length_append, List.length_append, tailB_len, hN]; rfl
  have hNl : N ≤ 66 := by
    have := esc_len f.key.data.toList
    have h2 : f.key.data.toList.length ≤ 32 := by rw [Array.length_toList]; exact hm.2.1
    omega
  have hT := fun w => tailOf_any f.valid f.seq f.kind o.valid o.seq o.kind w
  have hE := fun w => escaped_any f.key (by omega) w
  simp only [← hN] at hE
  rw [hkl]
  have hkp : (kput f).map bv = (esc f.key.data.toList ++ [0, 0]).map bv ++ (tailB f.valid f.seq f.kind).map bv := by unfold kput; rw [List.map_append]
  rw [hkp]
  have HT := hid hT
  have HE := hid hE
  obtain ⟨L, hL⟩ : ∃ L, L = ((tailB f.valid f.seq f.kind).map bv).toArray := ⟨_, rfl⟩
  have hLs : L.size = 13 := by rw [hL]; simp [tailB_len]
  have hL1 : ∀ v ∈ L.toList, v.oneCell' = true := by rw [hL]; exact tailB_one _ _ _
  have hLl : (tailB f.valid f.seq f.kind).map bv = L.toList := by rw [hL]
  rw [← hL] at HT
  have HL := hid hL
  have HLs := hid hLs
  have HL1 := hid hL1
  have HLl := hid hLl
  clear hN hkl hT hE hkp o hm hL hLs hL1 hLl h
  unfold Fact.cells at HM ⊢
  go_enter Try.func18, Try.ntmps18
  go_wp2_with fail
  (with_reducible refine HM.out.mono ?_)
  rintro e w1 ⟨rfl, hb1⟩
  obtain ⟨F, hF⟩ : ∃ F : List Value, F = [.string f.key, .int .u32 (f.valid : Int), .int .u64 (f.seq : Int), .int .u64 (f.line : Int), .int .u8 (f.kind : Int), .string f.val] := ⟨_, rfl⟩
  have hz := hb1.size
  rw [World.size_alloc] at hz
  have hbox : w1.heap[w.heap.size]? = some (.cells #[.string f.key, .int .u32 (f.valid : Int), .int .u64 (f.seq : Int), .int .u64 (f.line : Int), .int .u8 (f.kind : Int), .string f.val] 41 (0, 0)) := (hb1.block _ (by simp)).trans (heap_alloc_new w _)
  have c0 : w1.cell? ⟨w.heap.size, 0, none⟩ = some (.string f.key) := by rw [cell_of_row _ _ _ _ _ _ hbox]; rfl
  have c1 : w1.cell? ⟨w.heap.size, 1, none⟩ = some (.int .u32 (f.valid : Int)) := by rw [cell_of_row _ _ _ _ _ _ hbox]; rfl
  have c2 : w1.cell? ⟨w.heap.size, 2, none⟩ = some (.int .u64 (f.seq : Int)) := by rw [cell_of_row _ _ _ _ _ _ hbox]; rfl
  have c4 : w1.cell? ⟨w.heap.size, 4, none⟩ = some (.int .u8 (f.kind : Int)) := by rw [cell_of_row _ _ _ _ _ _ hbox]; rfl
  have HB1 := hid (((Below.refl w.heap.size w).alloc (Nat.le_refl _) _).trans (hb1.mono (by simp)))
  have Hbox := hid hbox
  clear hb1 hbox hF F
  go_upto_region 3 with (fail)
  go_wp2_with (first
    | (go_at_call 36; refine (HT.out _).mono ?_; rintro e w2 ⟨rfl, hb2⟩; have hz2 := hb2.size; have HB2 := hid (HB1.out.trans (hb2.mono (by omega))); have Hbox2 := hid ((hb2.block _ (by omega)).trans Hbox.out); clear hb2)
    | (refine wpList_store_block rfl 82 _ _ rfl _ _ _ _ rfl rfl (heap_alloc_new _ _) (by rw [HLs.out]; rfl) (by rw [HLs.out]; exact infoTail) HL1.out ?_))
  generalize hw3 : (w2.alloc (.cells #[.int .u8 0, .int .u8 0, .int .u8 0, .int .u8 0, .int .u8 0, .int .u8 0, .int .u8 0, .int .u8 0, .int .u8 0, .int .u8 0, .int .u8 0, .int .u8 0, .int .u8 0] 82)).setRow w2.heap.size L = w3
  have hT3 : w3.heap[w2.heap.size]? = some (.cells L 82 (0, 0)) := by rw [← hw3]; exact setRow_heap _ _ _ _ _ _ (heap_alloc_new _ _)
  have hB3 : Below w2.heap.size w2 w3 := by rw [← hw3]; exact below_setRow ((Below.refl _ _).alloc (Nat.le_refl _) _) (Nat.le_refl _) _
  have d0 : w3.drew.cell? ⟨w.heap.size, 0, none⟩ = some (.string f.key) := by
    have hb3 : w3.heap[w.heap.size]? = _ := (hB3.block _ (by omega)).trans Hbox2.out
    exact (cell_of_row w3 _ _ _ _ _ hb3).trans rfl
  have hs3 := hB3.size
  have HT3 := hid hT3
  have HB3 := hid ((HB2.out.trans (hB3.mono (by omega))).drew)
  have hws : w.heap.size ≤ w3.heap.size := by omega
  have HRT := hid (show ∀ w', Below w3.drew.heap.size w3.drew w' → Rd w' (some ⟨w2.heap.size, 0, none⟩) ((tailB f.valid f.seq f.kind).map bv) from fun w' hb => Rd.block ((hb.block w2.heap.size (lt_of_block HT3.out)).trans HT3.out) (fun j u hu => by rw [Nat.zero_add, ← Array.getElem?_toList, ← HLl.out]; exact hu))
  clear hw3 hT3 hB3 c0 c1 c2 c4 HM HT HB1 Hbox
  go_region_law (first
    | (refine app22s rfl (.tmp 17) (.tmp 18) rfl w.heap.size _ N _ (esc f.key.data.toList ++ [0, 0]) rfl (own_mono HO4.out hws) _ 13 13 (tailB f.valid f.seq f.kind) rfl (fun h => by cases h) (tailB_len _ _ _) (HRT.out _ HB4.out) (by omega) (by omega) ?_; intro q5 c5 w5 g5; have G5 := hid g5; clear g5)
    | (go_simp; go_wp2_with (first | (go_at_call 37; refine (HE.out _).mono ?_; rintro e w4 ⟨q4, c4, rfl, ho4, hb4⟩; have HO4 := hid ho4; have hz4 : w3.heap.size ≤ w4.heap.size := hb4.size; have HB4 := hid hb4; clear ho4 hb4) | (go_at_call 28; refine (clip_bytes _ _ _ _ G5.out.len G5.out.max).mono ?_; rintro e w6 ⟨rfl, rfl⟩))))
  go_wp2_with fail
  go_ret2
  refine ⟨_, rfl, ?_, HB3.out.trans ((HB4.out.mono hws).trans G5.out.below)⟩
  rw [← List.map_append]
  exact (Fr.of_own G5.out.own).clip
end Go.Proofs.Herb
