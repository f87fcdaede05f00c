
/- views.named at two lists: their keys, rising, each once, in new memory. For facts that can be read. -/
import Derived.Test.YtnkkfdlmcpnokaaUnm
namespace Go.Proofs.Herb
open Go.RowKit Go.Sort
set_option maxHeartbeats 1000000 in
theorem sortS_any (g N c : Nat) (K : List ByteArray) (base : Nat) (w : World) (hN : K.length = N) (hm : N ≤ 1000000) (h : w.ownsRow base 9 1 (.slice (some ⟨g, 0, none⟩) N c) N (strs K)) :
    Calls Try.prog 36 #[.slice (some ⟨g, 0, none⟩) N c] w fun e w' => e = .returned (.tuple #[]) ∧
      w'.ownsRow base 9 1 (.slice (some ⟨g, 0, none⟩) N c) N (((K.map keyB).mergeSort fun x y => decide (x ≤ y)).map strV) ∧ ∀ b0, b0 ≤ base → b0 ≤ w.heap.size → RowKit.Below b0 w w' := by
  obtain ⟨h1, h2⟩ := h
  rcases h2 with ⟨hv, _⟩ | ⟨g', cap, cur, hv, hb, hh, p1, p2, p3, p4⟩
  · cases hv
  · cases hv
    have hKl : (K.map keyB).length = N := by simpa using hN
    have hH : Holds encStr w g 0 (K.map keyB).toArray := holds_of_block hh (by
      rw [hKl, List.map_map]
      rw [Nat.mul_one] at p4
      exact p4)
    have hc := AnyM.slices_Sort_string sortLay g 0 c (K.map keyB) w hH (lt_of_block hh) (by rw [hKl]; omega)
    rw [hKl] at hc
    refine hc.mono ?_
    rintro e w' ⟨he, nn, os, rfl⟩
    have hl : ((K.map keyB).mergeSort fun x y => decide (x ≤ y)).length = (K.map keyB).length := List.length_mergeSort _
    refine ⟨he, ?_, fun b0 hb0 hb1 => (RowKit.Below.refl b0 w).grown (grownBy_sorted _) hb1 (fun j hj => by cases hj; omega)⟩
    have := ownsRow_sorted (n := nn) (os := os) hl hb hh (by rw [hKl]; exact p1) p2 p3
    rw [hKl] at this
    exact this
theorem sortS_none (c : Nat) (w : World) : Calls Try.prog 36 #[.slice none 0 c] w fun e w' => e = .returned (.tuple #[]) ∧ w' = w := AnyM.slices_Sort_string_none sortLay none c w
set_option maxHeartbeats 1000000 in
/-- slices.Compact of sorted texts -/
theorem compS_any (g N c : Nat) (K : List ByteArray) (base : Nat) (w : World) (hN : K.length = N) (_hm : N ≤ 1000000) (h : w.ownsRow base 9 1 (.slice (some ⟨g, 0, none⟩) N c) N (((K.map keyB).mergeSort fun x y => decide (x ≤ y)).map strV)) :
    Calls Try.prog 43 #[.slice (some ⟨g, 0, none⟩) N c] w fun e w' => e = .returned (.slice (some ⟨g, 0, none⟩) (nmS K).length c) ∧ (nmS K).length ≤ c ∧
      Rd w' (some ⟨g, 0, none⟩) (strs (nmS K)) ∧ ∀ b0, b0 ≤ base → b0 ≤ w.heap.size → RowKit.Below b0 w w' := by
  obtain ⟨zs, hzs⟩ : ∃ zs, zs = (K.map keyB).mergeSort fun x y => decide (x ≤ y) := ⟨_, rfl⟩
  have hnm := names_nm K
  rw [← hzs] at h hnm
  have hzl : zs.length = N := by rw [hzs, List.length_mergeSort]; simpa using hN
  have hown := h
  obtain ⟨_, c2, he, hcl, hcm, hrd, _⟩ := (Fr.of_own hown).shape
  rw [Value.slice.injEq] at he
  obtain ⟨rfl, _, rfl⟩ := he
  obtain ⟨Sx, hSx⟩ : ∃ Sx : Nat → ByteArray, Sx = fun i => ⟨((zs[i]?).getD []).toArray⟩ := ⟨_, rfl⟩
  have hSi : ∀ i, (h : i < zs.length) → Sx i = ⟨zs[i].toArray⟩ := fun i h => by rw [hSx]; simp [List.getElem?_eq_getElem h]
  have hcells : ∀ i, i < N → w.cell? ⟨g, 0 + i, none⟩ = some (.string (Sx i)) := fun i hi => by
    obtain ⟨b2, o2, e, hh⟩ := hrd.cell (k := i) (by rw [List.length_map]; omega)
    cases e
    rw [hh, hSi i (by omega)]; simp [strV]
  have hstr : Lib.strsOf Sx N = zs := by
    unfold Lib.strsOf
    apply List.ext_getElem
    · simp [hzl]
    · intro i h1 h2
      simp only [List.getElem_map, List.getElem_range]
      rw [hSi i h2]
  have hfz : ∀ j, j < N → w.frozen? ⟨g, 0 + j, none⟩ = false := by
    intro j _
    rcases hown.2 with ⟨h, _⟩ | ⟨g', cap, cur, hv, _, hh, _⟩
    · cases h
    · rw [Value.slice.injEq] at hv
      obtain ⟨hv, _⟩ := hv
      cases hv
      exact frozen_of_row _ _ _ _ _ hh
  have hC := compact_cells g 0 N c Sx w (by omega) hcl hcells hfz
  rw [hstr] at hC
  have hbw : base ≤ g := (hown.lt g rfl).1
  have hNl : (Lib.compact zs).length ≤ N := by rw [← hzl]; exact Lib.compact_length_le _
  have hlen : (Lib.compact zs).length = (nmS K).length := by have := congrArg List.length hnm; simpa [strs] using this
  rw [hlen] at hC hNl
  refine hC.mono ?_
  rintro e w' ⟨he, m, rfl⟩
  refine ⟨he, by omega, .inr ⟨g, 0, rfl, fun j u hu => ?_⟩, fun b0 h0 _ => below_setCells (by omega) _ _ _ (below_drewN (RowKit.Below.refl b0 w) _)⟩
  have hj : j < (nmS K).length := by have := (List.getElem?_eq_some_iff.1 hu).1; simpa [strs] using this
  generalize hvs : (Lib.compact zs ++ List.replicate (N - (nmS K).length) []).map Go.Proofs.encStr = VS
  have hvl : VS.length = N := by
    rw [← hvs]
    simp only [List.length_map, List.length_append, List.length_replicate]
    omega
  have hjv : j < VS.length := by omega
  rw [World.cell?_setCells_in g VS 0 (w.drewN m) (fun i hi => by show (w.cell? _).isSome = true; rw [hcells i (by omega)]; rfl) j hjv, ← hu, ← List.getElem?_eq_getElem hjv, ← hvs, List.getElem?_map, List.getElem?_append_left (by omega), ← hnm, List.getElem?_map]
  rfl
theorem insS_len (k : ByteArray) : ∀ l : List ByteArray, (insS k l).length ≤ l.length + 1
  | [] => by simp [insS]
  | x :: l => by
    have := insS_len k l
    unfold insS
    split
    · simp; omega
    · split <;> simp
theorem nmS_len (K : List ByteArray) : (nmS K).length ≤ K.length := by
  have h : ∀ (K o : List ByteArray), (K.foldl (fun o k => insS k o) o).length ≤ o.length + K.length := by
    intro K
    induction K with
    | nil => intro o; simp
    | cons k K ih =>
      intro o
      have := ih (insS k o)
      have := insS_len k o
      simp only [List.foldl_cons, List.length_cons]
      omega
  simpa [nmS] using h K []
set_option maxRecDepth 100000 in
set_option maxHeartbeats 4000000 in
theorem named_any (g : Nat) (q1 q2 : Option Addr) (n1 c1 n2 c2 : Nat) (a b : List Fact) (T : TypeId) (w : World) (hg : w.heap[g]? = some (.cells #[.slice q1 n1 c1, .slice q2 n2 c2] T (0, 0)))
    (ha : a.length = n1) (hb : b.length = n2) (hm1 : n1 ≤ 400000) (hm2 : n2 ≤ 400000) (hra : Rd w q1 (fCells a)) (hrb : Rd w q2 (fCells b)) :
    Calls Try.prog 32 #[.slice (some ⟨g, 0, none⟩) 2 2] w fun e w' => ∃ q c, e = .returned (.slice q (nmS (keyL a ++ keyL b)).length c) ∧ (nmS (keyL a ++ keyL b)).length ≤ 1000000 ∧ Rd w' q (strs (nmS (keyL a ++ keyL b))) ∧ Below w.heap.size w w' := by
  have HA := hid ha
  have HBb := hid hb
  have HRa := hid hra
  have HRb := hid hrb
  have HG := hid hg
  have hgl := lt_of_block hg
  clear ha hb hra hrb hg
  go_enter Try.func32, Try.ntmps32
  go_wp2
  go_loopw [3, 10] (fun vo vi wr => ∃ (i : Nat) (p : Option Addr) (k d : Nat) (ks : List ByteArray), vi = .int .i64 i ∧ vo = .slice p k d ∧ i ≤ 2 ∧ Hid (ks = if i = 0 then [] else if i = 1 then keyL a else keyL a ++ keyL b) ∧ Hid (ks.length = k) ∧ k ≤ i * 400000 ∧
      Hid (wr.ownsRow w.heap.size 9 1 (.slice p k d) k (strs ks)) ∧ Hid (Below w.heap.size w wr)) (fun _ vi _ => 2 - (intOf vi).toNat)
  case atStart => exact ⟨0, none, 0, 0, [], rfl, rfl, by omega, rfl, rfl, by omega, World.ownsRow_nil _ _ _ _, Below.refl _ _⟩
  case round =>
    obtain ⟨i, p, k, d, ks, rfl, rfl, hi2, HK, HKL, hkb, HO, HW⟩ := hrel
    by_cases hi : i < 2
    · obtain ⟨qi, ni, ci, li, hcell, hli, hni, hrl, hrl0, hnext⟩ : ∃ qi ni ci li, wr.cell? ⟨g, i, none⟩ = some (.slice qi ni ci) ∧ li.length = ni ∧ ni ≤ 400000 ∧ Rd wr qi (fCells li) ∧ Rd w qi (fCells li) ∧ (ks ++ keyL li = if i + 1 = 0 then [] else if i + 1 = 1 then keyL a else keyL a ++ keyL b) := by
        have hgw : wr.heap[g]? = some (.cells #[.slice q1 n1 c1, .slice q2 n2 c2] T (0, 0)) := (HW.out.block _ hgl).trans HG.out
        have hi01 : i = 0 ∨ i = 1 := by omega
        rcases hi01 with rfl | rfl
        · exact ⟨q1, n1, c1, a, by rw [cell_of_row _ _ _ _ _ _ hgw]; rfl, HA.out, hm1, HRa.out.below HW.out, HRa.out, by rw [HK.out]; simp⟩
        · exact ⟨q2, n2, c2, b, by rw [cell_of_row _ _ _ _ _ _ hgw]; rfl, HBb.out, hm2, HRb.out.below HW.out, HRb.out, by rw [HK.out]; simp⟩
      have HLI := hid hli
      have HRL := hid hrl
      have HRL0 : Hid (Rd w qi (fCells li)) := hid hrl0
      have HNX := hid hnext
      clear hli hrl hrl0 hnext
      have hii : (i : Int) < 2 := by omega
      go_wp2
      go_loopw [3, 16] (fun vo vj w2 => ∃ (j : Nat) (p : Option Addr) (m d : Nat), vj = .int .i64 j ∧ vo = .slice p m d ∧ j ≤ ni ∧ Hid (m = k + j) ∧ m ≤ k + ni ∧ Hid (w2.ownsRow w.heap.size 9 1 (.slice p m d) m (strs (ks ++ (keyL li).take j))) ∧ Hid (RowKit.Below w.heap.size w w2) ∧ Hid (Rd w2 qi (fCells li))) (fun _ vj _ => ni - (intOf vj).toNat)
      case atStart => exact ⟨0, p, k, d, rfl, rfl, Nat.zero_le _, rfl, by omega, hid (by simpa using HO.out), hid HW.out, HRL⟩
      case round =>
        obtain ⟨j, p, m, d, rfl, rfl, hj, HMK, hmb, HOj, HWj, HRj⟩ := hrel
        clear HO HW HRL
        have hbs := HWj.out.size
        by_cases hjn : j < ni
        · have hkl : j < li.length := by rw [HLI.out]; exact hjn
          obtain ⟨bq, off, rfl, hbq, hfa⟩ := fact_at HRj.out hkl
          obtain ⟨f, hf⟩ : ∃ f, f = li[j] := ⟨_, rfl⟩
          rw [← hf] at hfa
          have Hf := hid hf
          clear hf
          obtain ⟨key, valid, seq, fl, kind, val⟩ := f
          obtain ⟨a0, a1, a2, a3, a4, a5⟩ := hfa
          dsimp only at a0 a1 a2 a3 a4 a5
          have i0 : (0 : Int) ≤ (j : Int) := by omega
          have i1 : (j : Int) < (ni : Int) := by omega
          go_wp2_with (refine wpList_append_src rfl (.tmp 20) (.tmp 23) 28 28 rfl w.heap.size 9 (.string ⟨#[]⟩) 1 16 Try.underlying28 infoStr rfl (by decide) p m d _ rfl (own_below HOj.out (((RowKit.Below.refl _ _).alloc (Nat.le_refl _) _).alloc (by simp) _)) _ 1 [.string key] rfl (src_rd (by decide) Try.underlying28 1 rfl (rd_new2 (by simp)) (by simp [Value.oneCell'])) (by unfold maxLen; omega) (by omega) (by simp; omega) ?_; intro q' c' w6 hown6 hg6 _; have P6 := hid (And.intro hown6 hg6); clear hown6 hg6)
          obtain ⟨hown6, hg6⟩ := P6.out
          have hB6 : RowKit.Below w.heap.size w w6 := ((HWj.out.alloc hbs _).alloc (by simp; omega) _).grown hg6 (by simp; omega) (fun g hg => (HOj.out.lt g hg).1)
          go_roundw
          case rel =>
            refine ⟨j + 1, q', m + 1, c', by go_num, rfl, by omega, hid (by have := HMK.out; omega), by have := HMK.out; omega, ?_, hid hB6, ?_⟩
            · show _
              have e : strs (ks ++ (keyL li).take (j + 1)) = strs (ks ++ (keyL li).take j) ++ [.string key] := by
                unfold strs keyL
                rw [List.take_succ_eq_append_getElem (by simpa using hkl), ← List.append_assoc, List.map_append (l₂ := [_])]
                simp [← Hf.out]
              rw [e]
              exact hown6
            · show _
              have hlt := HRL0.out
              exact (hlt.below hB6)
          case measure => simp [intOf]; omega
        · obtain rfl : j = ni := by omega
          go_wp2
          go_roundw
          case rel =>
            refine ⟨i + 1, p, m, d, ks ++ keyL li, by go_num, rfl, by omega, HNX, ?_, by have := HMK.out; omega, ?_, HWj⟩
            · show _ = _
              rw [List.length_append, HKL.out, keyL, List.length_map, HLI.out, HMK.out]
            · have h := HOj.out
              rw [show (keyL li).take j = keyL li from List.take_of_length_le (by rw [keyL, List.length_map, HLI.out]; exact Nat.le_refl _)] at h
              exact h
          case measure => simp [intOf]; omega
    · obtain rfl : i = 2 := by omega
      have hks : ks = keyL a ++ keyL b := by rw [HK.out]; simp
      have HKS := hid hks
      have ho := HO.out
      rcases ho.2 with ⟨hv, hk0⟩ | ⟨g', cap, cur, hv, hb', _⟩
      · cases hv
        clear hk0
        have hnil : ks = [] := List.eq_nil_of_length_eq_zero HKL.out
        have hnm : nmS (keyL a ++ keyL b) = [] := by rw [← HKS.out, hnil]; rfl
        have HNM := hid hnm
        clear hks hnil hnm ho
        go_wp2_with (first | (go_at_call 36; refine (sortS_none 0 _).mono ?_; rintro e w1 ⟨rfl, rfl⟩) | (go_at_call 43; refine (compact_empty none 0 _).mono ?_; rintro e w1 ⟨rfl, rfl⟩))
        go_ret
        rw [HNM.out]
        exact ⟨none, 0, rfl, by simp, .inl rfl, HW.out⟩
      · cases hv
        have HK8 : Hid (k ≤ 1000000) := by show _ ≤ _; omega
        have hs := sortS_any g' k d ks w.heap.size wr HKL.out (by omega) HO.out
        clear hks ho
        go_wp2_with (go_at_call 36; with_reducible refine hs.mono ?_; rintro e w1 ⟨rfl, ho1, hb1⟩; have HO1 := hid ho1; have HB1 := hid (HW.out.trans (hb1 _ (Nat.le_refl _) HW.out.size)); have hcp := compS_any g' k d ks w.heap.size w1 HKL.out HK8.out ho1; clear ho1 hb1)
        rw [HKS.out] at hcp
        go_wp2_with (go_at_call 43; with_reducible refine hcp.mono ?_; rintro e w2 ⟨rfl, hl2, hr2, hb2⟩; have HR2 := hid hr2; have HB2 := hid (HB1.out.trans (hb2 _ (Nat.le_refl _) HB1.out.size)); have HL2 := hid hl2; clear hr2 hb2 hl2 hcp)
        go_ret
        have hnl : (nmS (keyL a ++ keyL b)).length ≤ 1000000 := by
          have := nmS_len (keyL a ++ keyL b)
          rw [← HKS.out, HKL.out, HKS.out] at this
          omega
        exact ⟨_, _, rfl, hnl, HR2.out, HB2.out⟩
end Go.Proofs.Herb
