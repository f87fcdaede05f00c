/- The contract of the iterator of tables.chunks. For items that can be read. -/
import Derived.Test.YtljdlilcpcokhaaDoorRgs
import Derived.Test.YtljdlilcpcokhaaDoorBlkP
import Derived.Shelf.Abstract
import Derived.Shelf.RegionOpen
import Derived.OwnWalkIn
import Derived.TacticsInMore
import Derived.LoopNIn
import Derived.LoopIn
import Derived.IntWalk
namespace Go.Proofs.Herb
open Go.RowKit
attribute [local go_sem] Oper.semAt_some
def szAt (l : List Item) (i : Nat) : Nat := ((l[i]?).map fun x => x.key.size + x.val.size).getD 0
theorem szAt_get {l : List Item} {i : Nat} (h : i < l.length) : szAt l i = l[i].key.size + l[i].val.size := by unfold szAt; rw [List.getElem?_eq_getElem h]; rfl
/-- where chunks begin and end -/
def chF (sz : Nat → Nat) (n : Nat) : Nat → Nat → Nat → Nat → List (Nat × Nat)
  | 0, _, _, _ => []
  | f + 1, k, from_, many => if k < n then (if many + sz k < 512 ∧ k + 1 < n then chF sz n f (k + 1) from_ (many + sz k) else (from_, k + 1) :: chF sz n f (k + 1) (k + 1) 0) else []
def chunksOf (l : List Item) : List (Nat × Nat) := chF (szAt l) l.length l.length 0 0 0
theorem chunks_any (v : Value) (w : World) (hv : ∃ q n c, v = .slice q n c) :
    Calls Tryd.prog 15 #[v] w fun e w' => e = .returned (.func (.func 40) #[] #[.pointer (some ⟨w.heap.size, 0, none⟩)]) ∧ w' = w.alloc (.cells #[v] 45) := by
  obtain ⟨q, n, c, rfl⟩ := hv
  go_enter Tryd.func15, Tryd.ntmps15
  go_wp2
  go_ret
  exact ⟨rfl, rfl⟩
theorem rd_keep {A B : World} {b off : Nat} {xs : List Value} (h : Rd A (some ⟨b, off, none⟩) xs) (hk : KeepB b A B) : Rd B (some ⟨b, off, none⟩) xs := by
  rcases h with rfl | ⟨b', off', e, hc⟩
  · exact .inl rfl
  · cases e
    refine .inr ⟨_, _, rfl, fun j u hu => ?_⟩
    have h1 := hc j u hu
    have hl := World.block_lt_of_cell? A _ h1
    have h2 : B.heap[b]? = A.heap[b]? := by rw [Array.getElem?_eq_getElem hl]; exact hk _ (Array.getElem?_eq_getElem hl)
    exact (World.cell?_of_block (a := ⟨b, off + j, none⟩) h2).trans h1
/-- a chunk is one of these, behind those that have come -/
def ChGood (l : List Item) (pre : List (Nat × Nat)) (x : Nat × Nat) : Prop := x.1 < x.2 ∧ x.2 ≤ l.length ∧ ∃ rest, chunksOf l = pre ++ x :: rest
set_option maxRecDepth 100000 in
set_option maxHeartbeats 2000000 in
theorem chunks1_in (nn Bn b off c base n : Nat) (hnn : 1 ≤ nn) (l : List Item) (hn : l.length = n) (hm : n ≤ 100000) (hc : n ≤ c) (hcm : c ≤ maxLen) (hks : ∀ x ∈ l, x.key.size + x.val.size ≤ 100000) :
    SeqGood Fence.wide nn Tryd.prog 40 #[.pointer (some ⟨Bn, 0, none⟩)] (fun x : Nat × Nat => #[.slice (some ⟨b, off + x.1 * 2, none⟩) (x.2 - x.1) (x.2 - x.1)]) (Only (fun _ => False)) (fun pre x _ => ChGood l pre x)
      (fun A B => KeepB Bn A B ∧ KeepB b A B) (fun xs => xs = chunksOf l) base (fun W => Boxed W Bn 45 (.slice (some ⟨b, off, none⟩) n c) ∧ Rd W (some ⟨b, off, none⟩) (iCells l)) := by
  intro lp J Jx W hb hOk hJ hJx hY h0
  have HY := hid hY
  have HJ := hid hJ
  have HOk := hid hOk
  have Hn := hid hn
  have Hks := hid hks
  unfold maxLen at hcm
  clear hY hJ hJx hOk hb hn hks
  refine callsIn_of_wp Tryd.func40 rfl trivial ?_ rfl
  simp only [Tryd.ntmps40, List.size_toArray, List.length_cons, List.length_nil, Nat.reduceAdd, Nat.reduceSub, Array.replicate_succ, Array.replicate_zero, List.push_toArray, List.append_toArray, List.nil_append, List.cons_append]
  have cW := HOk.out.1.cell
  gi_wp2
  clear cW
  gi_loopw [3, 4, 9] (fun v3 v4 v9 wr => ∃ (f k from_ many : Nat) (pre : List (Nat × Nat)), v3 = .int .i64 (from_ : Int) ∧ v4 = .int .i64 (many : Int) ∧ v9 = .int .i64 (k : Int) ∧ k + f = n ∧ from_ ≤ k ∧ many ≤ 512 ∧ chunksOf l = pre ++ chF (szAt l) l.length f k from_ many ∧ J pre wr ∧
      Boxed wr Bn 45 (.slice (some ⟨b, off, none⟩) n c) ∧ Rd wr (some ⟨b, off, none⟩) (iCells l)) (fun _ _ v9 _ => n - (intOf v9).toNat)
  case atStart => exact ⟨n, 0, 0, 0, [], rfl, rfl, rfl, by omega, Nat.le_refl _, by omega, by unfold chunksOf; rw [Hn.out]; rfl, h0, HOk.out.1, HOk.out.2⟩
  case round =>
    obtain ⟨f, k, from_, many, pre, rfl, rfl, rfl, hkf, hfk, hmany, hch, hJp, hbox, hrd⟩ := hrel
    have Hch := hid hch
    have HJp := hid hJp
    have Hbox := hid hbox
    have Hrd := hid hrd
    have cB := hbox.cell
    clear hch hJp hbox hrd
    by_cases hlt : k < n
    · have hkl : k < l.length := by rw [Hn.out]; exact hlt
      obtain ⟨f, rfl⟩ : ∃ f', f = f' + 1 := ⟨f - 1, by omega⟩
      obtain ⟨b', off', e, hbq, c0, c1⟩ := item_at Hrd.out hkl
      cases e
      have hsz := Hks.out _ (List.getElem_mem hkl)
      have hszk := szAt_get hkl
      obtain ⟨key, hkey⟩ : ∃ x, x = l[k].key := ⟨_, rfl⟩
      obtain ⟨val, hval⟩ : ∃ x, x = l[k].val := ⟨_, rfl⟩
      rw [← hkey] at c0
      rw [← hval] at c1
      rw [← hkey, ← hval] at hsz hszk
      have i0 : (0 : Int) ≤ (k : Int) := by omega
      have i1 : (k : Int) < (n : Int) := by omega
      have Hszk := hid hszk
      clear hkey hval hszk
      have cB2 : (wr.alloc (.cells #[.string key, .string val] 55)).cell? ⟨Bn, 0, none⟩ = some (.slice (some ⟨b, off, none⟩) n c) := (Hbox.out.alloc _).cell
      have hBa : Below wr.heap.size wr (wr.alloc (.cells #[.string key, .string val] 55)) := (Below.refl _ _).alloc (Nat.le_refl _) _
      have HJa := hid (HJ.out _ _ _ HJp.out (Only.of_below hBa))
      have Hboxa := hid (Hbox.out.alloc (.cells #[.string key, .string val] 55))
      have Hrda := hid (Hrd.out.below hBa)
      clear hBa
      by_cases h5 : many + (key.size + val.size) < 512 ∧ k + 1 < n
      · have d1 : decide ((many : Int) + ((key.size : Int) + (val.size : Int)) < 512) = true := by simp; omega
        have d2 : decide ((k : Int) + 1 < (n : Int)) = true := by simp; omega
        have hst : chF (szAt l) l.length (f + 1) k from_ many = chF (szAt l) l.length f (k + 1) from_ (many + (key.size + val.size)) := by
          rw [chF, if_pos hkl, Hszk.out, if_pos ⟨h5.1, by rw [Hn.out]; exact h5.2⟩]
        have HST := hid hst
        have H5 := hid h5
        clear hst h5
        gi_wp2
        go_roundw
        case rel => exact ⟨f, k + 1, from_, many + (key.size + val.size), pre, rfl, by go_num, by go_num, by omega, by omega, by have := H5.out.1; omega, by rw [Hch.out, HST.out], HJa.out, Hboxa.out, Hrda.out⟩
        case measure => simp [intOf]; omega
      · have hst : chF (szAt l) l.length (f + 1) k from_ many = (from_, k + 1) :: chF (szAt l) l.length f (k + 1) (k + 1) 0 := by
          rw [chF, if_pos hkl, Hszk.out, if_neg (fun h => h5 ⟨h.1, by have := h.2; rw [Hn.out] at this; exact this⟩)]
        have hgood : ChGood l pre (from_, k + 1) := ⟨by show from_ < k + 1; omega, by show k + 1 ≤ _; omega, _, by rw [Hch.out, hst]⟩
        have HST := hid hst
        obtain ⟨fn, tmps, assign, body, hy, hR⟩ := HY.out pre (from_, k + 1) _ HJa.out hgood
        dsimp only at hy
        have HR := hid hR
        clear hst hgood hR
        by_cases h6 : many + (key.size + val.size) < 512
        · have d1 : decide ((many : Int) + ((key.size : Int) + (val.size : Int)) < 512) = true := by simp; omega
          have d2 : decide ((k : Int) + 1 < (n : Int)) = false := by simp; omega
          clear h5 h6
          gi_wp2
          refine HR.out.mono ?_
          rintro e W2 (⟨rfl, hJ2, hk1, hk2⟩ | ⟨rfl, hJ2⟩)
          · have hbox2 : Boxed W2 Bn 45 (.slice (some ⟨b, off, none⟩) n c) := hk1 _ Hboxa.out
            have hrd2 : Rd W2 (some ⟨b, off, none⟩) (iCells l) := rd_keep Hrda.out hk2
            have HJ2 := hid hJ2
            have Hbox2 := hid hbox2
            have Hrd2 := hid hrd2
            clear hJ2 hk1 hk2 hbox2 hrd2 hy HR
            gi_wp2
            go_roundw
            case rel => exact ⟨f, k + 1, k + 1, 0, pre ++ [(from_, k + 1)], by go_num, rfl, by go_num, by omega, by omega, by omega, by rw [Hch.out, HST.out]; simp, HJ2.out, Hbox2.out, Hrd2.out⟩
            case measure => simp [intOf]; omega
          · have HJ2 := hid hJ2
            clear hJ2 hy HR
            gi_wp2
            refine bodyPost_ret (results_none rfl _ _ _) rfl ?_
            exact ⟨⟨_, rfl⟩, .inr ⟨_, HJ2.out⟩⟩
        · have d1 : decide ((many : Int) + ((key.size : Int) + (val.size : Int)) < 512) = false := by simp; omega
          clear h5 h6
          gi_wp2
          refine HR.out.mono ?_
          rintro e W2 (⟨rfl, hJ2, hk1, hk2⟩ | ⟨rfl, hJ2⟩)
          · have hbox2 : Boxed W2 Bn 45 (.slice (some ⟨b, off, none⟩) n c) := hk1 _ Hboxa.out
            have hrd2 : Rd W2 (some ⟨b, off, none⟩) (iCells l) := rd_keep Hrda.out hk2
            have HJ2 := hid hJ2
            have Hbox2 := hid hbox2
            have Hrd2 := hid hrd2
            clear hJ2 hk1 hk2 hbox2 hrd2 hy HR
            gi_wp2
            go_roundw
            case rel => exact ⟨f, k + 1, k + 1, 0, pre ++ [(from_, k + 1)], by go_num, rfl, by go_num, by omega, by omega, by omega, by rw [Hch.out, HST.out]; simp, HJ2.out, Hbox2.out, Hrd2.out⟩
            case measure => simp [intOf]; omega
          · have HJ2 := hid hJ2
            clear hJ2 hy HR
            gi_wp2
            refine bodyPost_ret (results_none rfl _ _ _) rfl ?_
            exact ⟨⟨_, rfl⟩, .inr ⟨_, HJ2.out⟩⟩
    · obtain rfl : k = n := by omega
      obtain rfl : f = 0 := by omega
      gi_wp2
      refine ⟨rfl, _, results_none rfl _ _ _, ?_⟩
      exact ⟨⟨_, rfl⟩, .inl ⟨pre, by rw [Hch.out, chF, List.append_nil], HJp.out⟩⟩
end Go.Proofs.Herb
