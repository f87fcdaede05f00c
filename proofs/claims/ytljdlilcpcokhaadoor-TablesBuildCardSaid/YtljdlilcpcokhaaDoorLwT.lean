/- The laws' great and lives, of tables. -/
import Derived.Test.YtljdlilcpcokhaaDoorBle
namespace Go.Proofs.Herb
open Go.RowKit
def fA : Fact := ⟨⟨#[97]⟩, 1, 2, 0, 0, ⟨#[120]⟩⟩
theorem fA_len : (tabB 0 [fA]).length = 124 ∧ ((tabB 0 [fA]).drop 84).take 4 = [84, 66, 76, 49] := by decide +kernel
theorem fA_good : GoodF 0 [fA] := by
  intro i hi
  obtain rfl : i = 0 := by simpa using hi
  exact ⟨by decide, by decide, rfl, by decide, fun j hj => by omega⟩
theorem fA_ok : ∀ f ∈ [fA], f.Ok := by
  intro f hf
  rw [List.mem_singleton] at hf
  subst hf
  exact ⟨by decide, by decide, by decide, by decide, by unfold maxLen; decide, by unfold maxLen; decide⟩
theorem fA_props : (propsF 0 [fA]).cells.toArray = #[.int .u64 0, .int .u64 1, .string ⟨#[97]⟩, .string ⟨#[97]⟩, .int .u64 2, .int .u64 2, .int .u32 1, .int .u32 1] := by rfl
theorem eqlProps (w : World) (a b : Array Value) (h : a = b) (h8 : ∃ p : Props, a = p.cells.toArray) : (binOp .eql 30 (.agg a) (.agg b)).run Tryd.prog w = .ok (.bool true) w := by
  subst h
  obtain ⟨p, rfl⟩ := h8
  unfold Props.cells
  go_simp
set_option maxRecDepth 100000 in
set_option maxHeartbeats 1000000 in
theorem lives_any (w : World) : Calls Tryd.prog 5 #[] w fun e w' => e = .returned (.bool true) ∧ Below w.heap.size w w' := by
  go_enter Tryd.func5, Tryd.ntmps5
  go_wp2_with fail
  obtain ⟨w1, hw1⟩ : ∃ x, x = (w.alloc (.cells (fCells [fA]).toArray 43)).alloc (.cells (fCells [fA]).toArray 43) := ⟨_, rfl⟩
  have hb1 : Below w.heap.size w w1 := by rw [hw1]; exact ((Below.refl _ _).alloc (Nat.le_refl _) _).alloc (by simp) _
  have hr1 : Rd w1 (some ⟨w.heap.size + 1, 0, none⟩) (fCells [fA]) := by
    have h := Rd.new (w.alloc (.cells (fCells [fA]).toArray 43)) (fCells [fA]) 43
    rw [World.size_alloc] at h
    rw [hw1]; exact h
  have hs1 := hb1.size
  change Calls _ _ _ ((w.alloc (.cells (fCells [fA]).toArray 43)).alloc (.cells (fCells [fA]).toArray 43)) _
  rw [← hw1]
  have HB1 := hid hb1
  clear hw1 hb1
  refine (build_ok 0 _ 1 1 [fA] w1 rfl (by decide) hr1 fA_ok ⟨fA_good, by decide⟩ (by rw [fA_len.1]; decide)).mono ?_
  rintro e w2 ⟨p, rfl, hf, hb2⟩
  rw [fA_len.1] at hf ⊢
  rw [fA_props]
  have HF := hid hf
  have HB2 := hid (HB1.out.trans (hb2.mono hs1))
  have hs2 := hb2.size
  clear hf hb2 hr1
  go_wp2_with (refine wpList_store_block rfl 30 _ _ rfl _ _ _ _ rfl rfl (heap_alloc_new _ _) rfl infoProps (by simp [Value.oneCell']) ?_)
  obtain ⟨PA, hPA⟩ : ∃ x : Array Value, x = #[.int .u64 0, .int .u64 1, .string ⟨#[97]⟩, .string ⟨#[97]⟩, .int .u64 2, .int .u64 2, .int .u32 1, .int .u32 1] := ⟨_, rfl⟩
  obtain ⟨w3, hw3⟩ : ∃ x, x = (w2.alloc (.cells zProps 30)).setRow w2.heap.size PA := ⟨_, rfl⟩
  have hb3 : Below w2.heap.size w2 w3 := by rw [hw3]; exact below_setRow ((Below.refl _ _).alloc (Nat.le_refl _) _) (Nat.le_refl _) _
  have hr3 : w3.heap[w2.heap.size]? = some (.cells PA 30 (0, 0)) := by rw [hw3]; exact setRow_heap _ _ _ _ _ _ (heap_alloc_new _ _)
  rw [hPA] at hw3
  change Calls _ _ _ ((w2.alloc (.cells zProps 30)).setRow w2.heap.size _) _
  rw [← hw3]
  have HB3 := hid hb3
  have HR3 := hid hr3
  have HPA := hid hPA
  have hs3 := hb3.size
  obtain ⟨P, hP⟩ : ∃ x, x = w2.heap.size := ⟨_, rfl⟩
  rw [← hP]
  have HP := hid hP
  clear hw3 hb3 hr3 hPA hP
  refine (build_no 0 none 0 0 [] w3 rfl (by decide) (.inl rfl) (fun f hf => by cases hf) (fun h => by have := h.2; simp at this)).mono ?_
  rintro e w4 ⟨rfl, hb4⟩
  have hs4 := hb4.size
  unfold zProps
  obtain ⟨W, hW⟩ : ∃ x, x = (w4.alloc (.cells zProps 30)).setRow w4.heap.size zProps := ⟨_, rfl⟩
  have hbW : Below w3.heap.size w3 W := by rw [hW]; exact hb4.trans ((below_setRow ((Below.refl _ _).alloc (Nat.le_refl _) _) (Nat.le_refl _) _).mono hs4)
  have hrow : W.heap[P]? = some (.cells PA 30 (0, 0)) := (hbW.block P (by rw [HP.out]; exact lt_of_block HR3.out)).trans (by rw [HP.out]; exact HR3.out)
  have hrd : Rd W p ((tabB 0 [fA]).map bv) := (HF.out.rd.below HB3.out).below hbW
  have HBW := hid ((HB2.out.trans (HB3.out.mono (by omega))).trans (hbW.mono (by omega)))
  have HRW := hid hrow
  have HW := hid hW
  obtain ⟨bp, op, rfl, _⟩ : ∃ b off, p = some ⟨b, off, none⟩ ∧ True := by
    rcases hrd with h | ⟨b, off, e, _⟩
    · have := fA_len.1
      have h2 := congrArg List.length h
      rw [List.length_map, this] at h2
      cases h2
    · exact ⟨b, off, e, trivial⟩
  have hsub : Rd W (some ⟨bp, op + 84, none⟩) ([84, 66, 76, 49].map bv) := by
    have h := (hrd.drop 84).take 4
    rw [← List.map_drop, ← List.map_take, fA_len.2] at h
    exact h
  have hcv := convB W (some ⟨bp, op + 84, none⟩) 4 40 [84, 66, 76, 49] rfl hsub
  rw [HPA.out] at hrow
  have heq := eqlProps W _ _ rfl ⟨⟨0, 1, ⟨#[97]⟩, ⟨#[97]⟩, 2, 2, 1, 1⟩, rfl⟩
  unfold Props.cells at heq
  dsimp only at heq
  unfold zProps at hW
  clear hb4 hbW hrd hsub
  go_upto_region 4 with (refine wpList_store_block rfl 30 _ _ rfl _ _ _ _ rfl rfl (heap_alloc_new _ _) rfl infoProps (by simp [Value.oneCell']) ?_)
  rw [← hW]
  clear hW
  have y0 := (cell_of_row W P 0 _ _ _ hrow).trans (rfl : _ = some _)
  have y1 := (cell_of_row W P 1 _ _ _ hrow).trans (rfl : _ = some _)
  have y2 := (cell_of_row W P 2 _ _ _ hrow).trans (rfl : _ = some _)
  have y3 := (cell_of_row W P 3 _ _ _ hrow).trans (rfl : _ = some _)
  have y4 := (cell_of_row W P 4 _ _ _ hrow).trans (rfl : _ = some _)
  have y5 := (cell_of_row W P 5 _ _ _ hrow).trans (rfl : _ = some _)
  have y6 := (cell_of_row W P 6 _ _ _ hrow).trans (rfl : _ = some _)
  have y7 := (cell_of_row W P 7 _ _ _ hrow).trans (rfl : _ = some _)
  go_wp2
  go_ret
  exact ⟨rfl, HBW.out⟩
/-- how much facts are -/
def sizeT (fs : List Fact) : Nat := (fs.map fun f => f.key.size + f.val.size + 20).foldl (· + ·) 0
def greatF (fs : List Fact) : Nat := fs.foldl (fun n f => if n < 200000 then n + f.key.size + f.val.size + 20 else n) 0
theorem great_ge : ∀ (fs : List Fact) (a : Nat), a ≤ fs.foldl (fun n f => if n < 200000 then n + f.key.size + f.val.size + 20 else n) a
  | [], a => Nat.le_refl _
  | f :: fs, a => by
    rw [List.foldl_cons]
    refine Nat.le_trans ?_ (great_ge fs _)
    split <;> omega
theorem great_len : ∀ (fs : List Fact) (a : Nat), fs.foldl (fun n f => if n < 200000 then n + f.key.size + f.val.size + 20 else n) a ≤ 120000 → a + fs.length * 20 ≤ 120000 ∧ ∀ f ∈ fs, f.key.size + f.val.size ≤ 120000
  | [], a, h => ⟨by simpa using h, fun f hf => by cases hf⟩
  | f :: fs, a, h => by
    rw [List.foldl_cons] at h
    have h1 := great_ge fs (if a < 200000 then a + f.key.size + f.val.size + 20 else a)
    obtain ⟨h2, h3⟩ := great_len fs _ h
    by_cases ha : a < 200000
    · rw [if_pos ha] at h1 h2
      refine ⟨by rw [List.length_cons]; omega, fun g hg => ?_⟩
      rcases List.mem_cons.1 hg with rfl | hg
      · omega
      · exact h3 g hg
    · rw [if_neg ha] at h1 h2
      omega
set_option maxRecDepth 100000 in
set_option maxHeartbeats 1000000 in
theorem great_any (q : Option Addr) (n c : Nat) (fs : List Fact) (w : World) (hn : fs.length = n) (hm : n ≤ 9223372036854775807) (hr : Rd w q (fCells fs)) (ho : ∀ f ∈ fs, f.key.size ≤ 140737488355328 ∧ f.val.size ≤ 140737488355328) :
    Calls Tryd.prog 4 #[.slice q n c] w fun e w' => ∃ b : Bool, e = .returned (.bool b) ∧ (b = true ↔ 120000 < greatF fs) ∧ Below w.heap.size w w' := by
  have Hn := hid hn
  have Hr := hid hr
  have Ho := hid ho
  clear hn hr ho
  go_enter Tryd.func4, Tryd.ntmps4
  go_wp2
  go_loopw [3, 4] (fun v i wr => ∃ k : Nat, k ≤ n ∧ i = .int .i64 (k : Int) ∧ v = .int .i64 ((greatF (fs.take k) : Nat) : Int) ∧ Below w.heap.size w wr) (fun _ i _ => n - (intOf i).toNat)
  case atStart => exact ⟨0, Nat.zero_le _, rfl, rfl, Below.refl _ _⟩
  case round =>
    obtain ⟨k, hk, rfl, rfl, hb⟩ := hrel
    obtain ⟨M, hM⟩ : ∃ M, M = greatF (fs.take k) := ⟨_, rfl⟩
    rw [← hM]
    have HM := hid hM
    have HB := hid hb
    clear hb hM
    by_cases hlt : k < n
    · have d0 : decide ((k : Int) < (n : Int)) = true := by simpa using hlt
      by_cases hmm : M < 200000
      · have d1 : decide ((M : Int) < 200000) = true := by simp; omega
        have hkl : k < fs.length := by rw [Hn.out]; exact hlt
        have hr2 := Hr.out.below HB.out
        obtain ⟨b, off, rfl, _, hfa⟩ := fact_at hr2 hkl
        obtain ⟨f, hf⟩ : ∃ f, f = fs[k] := ⟨_, rfl⟩
        rw [← hf] at hfa
        have hok := Ho.out _ (List.getElem_mem hkl)
        rw [← hf] at hok
        have c0 := hfa.c0
        have c5 := hfa.c5
        have h1 := hok.1
        have h2 := hok.2
        have hs : greatF (fs.take (k + 1)) = M + f.key.size + f.val.size + 20 := by
          unfold greatF
          rw [List.take_succ_eq_append_getElem hkl, List.foldl_append, ← hf]
          show (if greatF (fs.take k) < 200000 then greatF (fs.take k) + f.key.size + f.val.size + 20 else greatF (fs.take k)) = _
          rw [← HM.out, if_pos hmm]
        have HS := hid hs
        have i0 : (0 : Int) ≤ (k : Int) := by omega
        have i1 : (k : Int) < (n : Int) := by omega
        obtain ⟨K, hK⟩ : ∃ K, K = f.key.size := ⟨_, rfl⟩
        obtain ⟨V, hV⟩ : ∃ K, K = f.val.size := ⟨_, rfl⟩
        have w1 : IntKind.i64.wrap ((M : Int) + (f.key.size : Int)) = (M : Int) + (K : Int) := by rw [IntWalk.i64_in _ (by omega)]; omega
        have w2 : IntKind.i64.wrap ((M : Int) + (K : Int) + (f.val.size : Int)) = (M : Int) + (K : Int) + (V : Int) := by rw [IntWalk.i64_in _ (by omega)]; omega
        have w3 : IntKind.i64.wrap ((M : Int) + (K : Int) + (V : Int) + 20) = (M : Int) + (K : Int) + (V : Int) + 20 := by rw [IntWalk.i64_in _ (by omega)]
        rw [← hK, ← hV] at hs
        have HK := hid hK
        have HV := hid hV
        clear hf hfa hok hr2 hs hK hV
        go_upto_region 5 with (fail)
        go_quiet (fail)
        go_wp2
        go_roundw
        case rel => exact ⟨k + 1, by omega, by go_num, by rw [HS.out, ← HK.out, ← HV.out]; go_num, below_drewN HB.out nq⟩
        case measure => simp [intOf]; omega
      · have d1 : decide ((M : Int) < 200000) = false := by simp; omega
        have hres : (120000 < greatF fs) := by
          have := great_ge (fs.drop k) (greatF (fs.take k))
          have e : greatF fs = (fs.drop k).foldl (fun n f => if n < 200000 then n + f.key.size + f.val.size + 20 else n) (greatF (fs.take k)) := by
            unfold greatF
            rw [← List.foldl_append, List.take_append_drop]
          rw [e]
          rw [← HM.out] at this ⊢
          omega
        have HR := hid hres
        have d2 : decide ((120000 : Int) < (M : Int)) = true := by simp; omega
        clear hres
        go_wp2
        go_ret
        exact ⟨true, rfl, ⟨fun _ => HR.out, fun _ => rfl⟩, HB.out⟩
    · obtain rfl : k = n := by omega
      have d0 : decide ((k : Int) < (k : Int)) = false := by simp
      have htk : fs.take k = fs := List.take_of_length_le (by rw [Hn.out]; exact Nat.le_refl _)
      rw [htk] at HM
      go_wp2
      go_ret
      refine ⟨_, rfl, ?_, HB.out⟩
      rw [decide_eq_true_eq, ← HM.out]
      omega
end Go.Proofs.Herb
