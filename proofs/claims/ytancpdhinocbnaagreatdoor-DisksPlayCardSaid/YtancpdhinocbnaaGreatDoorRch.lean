/- The contract of the reference's Crash. For a disk as RefAt says. (printed by gen_rch.py) -/
import Derived.Test.YtancpdhinocbnaaGreatDoorRdf
namespace Go.Proofs.Herb
open Go.RowKit
theorem below_at {w w' : World} {p : Addr} {v : Value} (hb : Below w.heap.size w w') (h : w.cell? p = some v) : w'.cell? p = some v := (hb.cell (World.block_lt_of_cell? w _ h)).trans h
def filesC (r : RS) (fl : List Int) (l : List Ent) : List DF := l.mapIdx (crashRF r fl)
theorem filesC_next {r : RS} {fl : List Int} {l : List Ent} {j : Nat} (hj : j < l.length) : filesC r fl (l.take (j + 1)) = filesC r fl (l.take j) ++ [crashRF r fl j l[j]] := by
  unfold filesC
  rw [List.take_succ_eq_append_getElem hj, List.mapIdx_append]
  simp [Nat.min_eq_left (Nat.le_of_lt hj)]
theorem dirC_next {l : List Ent} {j : Nat} (hj : j < l.length) : crashRD (l.take (j + 1)) = crashRD (l.take j) ++ [(l[j].1, j)] := by
  unfold crashRD
  rw [List.take_succ_eq_append_getElem hj, List.mapIdx_append]
  simp [Nat.min_eq_left (Nat.le_of_lt hj)]
set_option maxRecDepth 100000 in
set_option maxHeartbeats 3200000 in
theorem crashR_any (U : Nat → Prop) (m : RM) (r : RS) (dir : Int) (fa : Option Addr) (fn fc : Nat) (fl : List Int) (w : World) (h : RefAt w U m r) (hg : RGood r) (hn : fl.length = fn) (hr : Rd w fa (fl.map (Value.int .i64)))
    (hall : ∀ l ∈ r.past, l.length ≤ 1000000 ∧ ∀ e ∈ l, e.2 < r.files.length) :
    Calls Tryz.prog 10 #[.pointer (some ⟨m.D, 0, none⟩), .agg #[.int .i64 dir, .slice fa fn fc]] w fun e w' => ∃ m', e = .returned (.tuple #[.pointer (some ⟨m'.D, 0, none⟩), .int .i64 0]) ∧ RefAt w' (fun k => w.heap.size < k ∧ k < w'.heap.size) m' (crashR r dir fl) ∧ Below w.heap.size w w' := by
  obtain ⟨P, hP⟩ : ∃ P, P = r.past.length := ⟨_, rfl⟩
  have hp0 : 0 < P := by rw [hP]; exact hg.p0
  have hp1 : P ≤ 1000000 := by rw [hP]; exact hg.p1
  obtain ⟨J, hJ⟩ : ∃ J, J = (withinI dir ((P : Int) - 1)).toNat := ⟨_, rfl⟩
  have hJi : withinI dir ((P : Int) - 1) = (J : Int) := by rw [hJ]; unfold withinI; omega
  have hJP : J < P := by unfold withinI at hJi; omega
  obtain ⟨l, hl⟩ : ∃ l, l = leftR r dir := ⟨_, rfl⟩
  have hlj : r.past[J]? = some l := by
    rw [hl]; unfold leftR
    rw [← hP, ← hJ, List.getElem?_eq_getElem (by omega)]; rfl
  have hlm := hall l (List.mem_of_getElem? hlj)
  obtain ⟨n, hnn⟩ : ∃ n, n = l.length := ⟨_, rfl⟩
  have hn1 : n ≤ 1000000 := by rw [hnn]; exact hlm.1
  have HLm := hid hlm.2
  have HNn := hid hnn
  have HL := hid hl
  have HLJ := hid hlj
  have HFn := hid hn
  have HFr := hid hr
  have HP := hid hP
  have HG := hid hg
  have H := hid h
  clear h hg hn hr hall hl hlj hlm hnn hJ hP
  go_enter Tryz.func10, Tryz.ntmps10
  go_upto_region 1 with fail
  have HLo := hid (show (w.alloc (.cells #[.int .i64 dir, .slice fa fn fc] 34)).heap[w.heap.size]? = some (.cells #[.int .i64 dir, .slice fa fn fc] 34 (0, 0)) from heap_alloc_new _ _)
  obtain ⟨w0, hw0⟩ : ∃ w0, w0 = w.alloc (.cells #[.int .i64 dir, .slice fa fn fc] 34) := ⟨_, rfl⟩
  have hB0 : Below w.heap.size w w0 := by rw [hw0]; exact (Below.refl _ _).alloc (Nat.le_refl _) _
  have hz0 : w0.heap.size = w.heap.size + 1 := by rw [hw0]; simp
  rw [← hw0] at HLo ⊢
  have H0 := hid (H.out.below hB0)
  have HB0 := hid hB0
  clear hB0 hw0
  have c0 := H0.out.cells.1
  go_upto_region 2 with fail
  have HC := hid (RC.start (w0 := w0) r.room)
  obtain ⟨wr, hwr⟩ : ∃ wr, wr = w0.alloc (.cells #[.int .i64 r.room, .int .i64 (-1), .bool false, .slice none 0 0, .slice none 0 0] 55) := ⟨_, rfl⟩
  rw [← hwr] at HC ⊢
  clear hwr c0
  have H1 := hid (H0.out.below HC.out.below)
  have hLo1 := (HC.out.below.block w.heap.size (by omega)).trans HLo.out
  have e0 := cell_of_row wr w.heap.size 0 _ _ _ hLo1
  have d4 := H1.out.cells.2.2.2.2
  obtain ⟨gp, cp, u, hpv, hu, hc, hn1p, hn2p⟩ := own_cellk H1.out.past (i := J) (by rw [HP.out] at hJP; omega)
  have hsl := H0.out.ents J u l hu HLJ.out
  obtain ⟨q, c, rfl, hc1, hc2, hq0, hrd⟩ := hsl.rd
  rw [hpv, ← HP.out] at d4
  rw [← HNn.out] at hc hc1
  unfold maxLen at hn2p
  have Hrd := hid hrd
  have w1 : IntKind.i64.wrap ((P : Int) - 1) = (P : Int) - 1 := by rw [IntKind.wrap_i64]; omega
  have i0 : (0 : Int) ≤ (J : Int) := by omega
  have i1 : (J : Int) < (P : Int) := by omega
  have hp2 : (0 : Int) ≤ (P : Int) - 1 := by omega
  clear hsl hrd hpv hu hLo1
  go_cut [7] (fun s7 wc => s7 = .slice q n c ∧ Below wr.heap.size wr wc)
  case first =>
    refine wp_region_split (S := fun w' => w'.cell? ⟨m.D, 4, none⟩ = some (.slice (some ⟨gp, 0, none⟩) P cp) ∧ w'.cell? ⟨w.heap.size, 0, none⟩ = some (.int .i64 dir) ∧ w'.cell? ⟨gp, J, none⟩ = some (.slice q n c)) 15 (by kernel_rfl) (by kernel_rfl) ⟨d4, e0, hc⟩ (fun hHeld => ?_)
    simp only [List.take_succ_cons, List.take_zero, List.drop_succ_cons, List.drop_zero]
    refine take_held (v := ?_) 0 rfl (by kernel_rfl) (by kernel_rfl) (by kernel_rfl) (fun _ _ _ h => h) (Or.inl ⟨by rfl, ?_⟩) (by assumption) ?_
    rotate_left
    · intro wS hSw
      obtain ⟨s0, s1, s2⟩ := hSw
      go_simp
      try with_reducible rfl
    simp only [Act.put, List.setIfInBounds_toArray, List.set_cons_zero, List.set_cons_succ]
    refine take_held (v := ?_) 1 rfl (by kernel_rfl) (by kernel_rfl) (by kernel_rfl) (fun _ _ _ h => h) (Or.inl ⟨by rfl, ?_⟩) (by assumption) ?_
    rotate_left
    · intro wS hSw
      obtain ⟨s0, s1, s2⟩ := hSw
      go_simp
      try with_reducible rfl
    simp only [Act.put, List.setIfInBounds_toArray, List.set_cons_zero, List.set_cons_succ]
    refine take_held (v := ?_) 2 rfl (by kernel_rfl) (by kernel_rfl) (by kernel_rfl) (fun _ _ _ h => h) (Or.inl ⟨by rfl, ?_⟩) (by assumption) ?_
    rotate_left
    · intro wS hSw
      obtain ⟨s0, s1, s2⟩ := hSw
      go_simp
      try with_reducible rfl
    simp only [Act.put, List.setIfInBounds_toArray, List.set_cons_zero, List.set_cons_succ]
    refine take_held (v := ?_) 3 rfl (by kernel_rfl) (by kernel_rfl) (by kernel_rfl) (fun _ _ _ h => h) (Or.inl ⟨by rfl, ?_⟩) (by assumption) ?_
    rotate_left
    · intro wS hSw
      obtain ⟨s0, s1, s2⟩ := hSw
      go_simp
      try with_reducible rfl
    simp only [Act.put, List.setIfInBounds_toArray, List.set_cons_zero, List.set_cons_succ]
    refine take_held (v := ?_) 4 rfl (by kernel_rfl) (by kernel_rfl) (by kernel_rfl) (fun _ _ _ h => h) (Or.inl ⟨by rfl, ?_⟩) (by assumption) ?_
    rotate_left
    · intro wS hSw
      obtain ⟨s0, s1, s2⟩ := hSw
      go_simp
      try with_reducible rfl
    simp only [Act.put, List.setIfInBounds_toArray, List.set_cons_zero, List.set_cons_succ]
    refine take_held (v := ?_) 5 rfl (by kernel_rfl) (by kernel_rfl) (by kernel_rfl) (fun _ _ _ h => h) (Or.inl ⟨by rfl, ?_⟩) (by assumption) ?_
    rotate_left
    · intro wS hSw
      obtain ⟨s0, s1, s2⟩ := hSw
      go_simp
      try with_reducible rfl
    simp only [Act.put, List.setIfInBounds_toArray, List.set_cons_zero, List.set_cons_succ]
    refine take_held (v := ?_) 6 rfl (by kernel_rfl) (by kernel_rfl) (by kernel_rfl) (fun _ _ _ h => h) (Or.inl ⟨by rfl, ?_⟩) (by assumption) ?_
    rotate_left
    · intro wS hSw
      obtain ⟨s0, s1, s2⟩ := hSw
      go_simp
      try with_reducible rfl
    simp only [Act.put, List.setIfInBounds_toArray, List.set_cons_zero, List.set_cons_succ]
    refine take_held (v := ?_) 7 rfl (by kernel_rfl) (by kernel_rfl) (by kernel_rfl) (fun _ _ _ h => h) (Or.inl ⟨by rfl, ?_⟩) (by assumption) ?_
    rotate_left
    · intro wS hSw
      obtain ⟨s0, s1, s2⟩ := hSw
      go_simp
      try with_reducible rfl
    simp only [Act.put, List.setIfInBounds_toArray, List.set_cons_zero, List.set_cons_succ]
    refine take_held (v := ?_) 8 rfl (by kernel_rfl) (by kernel_rfl) (by kernel_rfl) (fun _ _ _ h => h) (Or.inl ⟨by rfl, ?_⟩) (by assumption) ?_
    rotate_left
    · intro wS hSw
      obtain ⟨s0, s1, s2⟩ := hSw
      go_simp
      try with_reducible rfl
    simp only [Act.put, List.setIfInBounds_toArray, List.set_cons_zero, List.set_cons_succ]
    refine take_held (v := ?_) 9 rfl (by kernel_rfl) (by kernel_rfl) (by kernel_rfl) (fun _ _ _ h => h) (Or.inl ⟨by rfl, ?_⟩) (by assumption) ?_
    rotate_left
    · intro wS hSw
      obtain ⟨s0, s1, s2⟩ := hSw
      go_simp
      try with_reducible rfl
    simp only [Act.put, List.setIfInBounds_toArray, List.set_cons_zero, List.set_cons_succ]
    refine take_held (v := ?_) 10 rfl (by kernel_rfl) (by kernel_rfl) (by kernel_rfl) (fun _ _ _ h => h) (Or.inl ⟨by rfl, ?_⟩) (by assumption) ?_
    rotate_left
    · intro wS hSw
      obtain ⟨s0, s1, s2⟩ := hSw
      go_simp
      try with_reducible rfl
    simp only [Act.put, List.setIfInBounds_toArray, List.set_cons_zero, List.set_cons_succ]
    refine take_held (v := ?_) 11 rfl (by kernel_rfl) (by kernel_rfl) (by kernel_rfl) (fun _ _ _ h => h) (Or.inl ⟨by rfl, ?_⟩) (by assumption) ?_
    rotate_left
    · intro wS hSw
      obtain ⟨s0, s1, s2⟩ := hSw
      go_simp
      try with_reducible rfl
    simp only [Act.put, List.setIfInBounds_toArray, List.set_cons_zero, List.set_cons_succ]
    refine wpAnyH_ready (rs := [12]) (by kernel_rfl) (by simp) ?_
    refine cons_held 12 rfl (fun K hK => ?_) AllReadyH.nil
    go_simp
    refine (heldR_any dir ((P : Int) - 1) hp2 _).mono ?_
    rintro e w2 ⟨rfl, rfl⟩
    rw [hJi]
    refine hK.out _ _ ⟨d4, e0, hc⟩ (fun hHeld2 => ?_)
    clear hK K
    refine take_held (v := ?_) 13 rfl (by kernel_rfl) (by kernel_rfl) (by kernel_rfl) (fun _ _ _ h => h) (Or.inl ⟨by rfl, ?_⟩) (by assumption) ?_
    rotate_left
    · intro wS hSw
      obtain ⟨s0, s1, s2⟩ := hSw
      go_simp
      try with_reducible rfl
    simp only [Act.put, List.setIfInBounds_toArray, List.set_cons_zero, List.set_cons_succ]
    refine take_held (v := ?_) 14 rfl (by kernel_rfl) (by kernel_rfl) (by kernel_rfl) (fun _ _ _ h => h) (Or.inl ⟨by rfl, ?_⟩) (by assumption) ?_
    rotate_left
    · intro wS hSw
      obtain ⟨s0, s1, s2⟩ := hSw
      go_simp
      try with_reducible rfl
    simp only [Act.put, List.setIfInBounds_toArray, List.set_cons_zero, List.set_cons_succ]
    refine wpAnyH_done (by kernel_rfl) ?_ _
    rw [headQ_normal]
    go_wp2
    go_meet
    exact ⟨rfl, (Below.refl _ _).drew⟩
  case rest =>
    obtain ⟨rfl, hb⟩ := hcut
    have HC1 := hid (HC.out.below' hb)
    clear hb e0 d4 hc HC H1
    go_upto_region 3 with fail
    go_wp2
    go_loopw [8, 9] (fun dv i wr2 => ∃ (j : Nat) (mo : RM), j ≤ n ∧ i = .int .i64 (j : Int) ∧ mo.D = w0.heap.size ∧ RC w0 wr2 mo ⟨r.room, -1, false, filesC r fl (l.take j), []⟩ dv (crashRD (l.take j))) (fun _ i _ => n - (intOf i).toNat)
    case atStart =>
      obtain ⟨mo, hmo⟩ : ∃ mo : RM, mo = ⟨w0.heap.size, .slice none 0 0, .slice none 0 0, [], []⟩ := ⟨_, rfl⟩
      have h0 := HC1.out
      rw [← hmo] at h0
      exact ⟨0, mo, Nat.zero_le _, rfl, by rw [hmo], h0⟩
    case round =>
      obtain ⟨j, mo, hj, rfl, hD, C⟩ := hrel
      obtain ⟨de, hde⟩ : ∃ de, de = crashRD (l.take j) := ⟨_, rfl⟩
      obtain ⟨FL, hFL⟩ : ∃ FL, FL = filesC r fl (l.take j) := ⟨_, rfl⟩
      have hdl : de.length = j := by rw [hde, crashRD, List.length_mapIdx, List.length_take, ← HNn.out]; omega
      have hfl : FL.length = j := by rw [hFL, filesC, List.length_mapIdx, List.length_take, ← HNn.out]; omega
      rw [← hde, ← hFL] at C
      have hown := C.own
      rw [hdl] at hown
      obtain ⟨qd, cd, rfl, _, _, _⟩ := own_shape hown
      have HO := hid hown
      have Hde := hid hde
      have HFL := hid hFL
      have Hdl := hid hdl
      have Hfl := hid hfl
      have HC := hid C
      have hD2 : mo.D = w.heap.size + 1 := by rw [hD, hz0]
      have Hmo := hid hD2
      clear C hD hD2 hown hde hFL hdl hfl
      by_cases hlt : j < n
      · have hjl : j < l.length := by rw [← HNn.out]; exact hlt
        obtain ⟨b, off, rfl, _, n0, n1⟩ := ent_at (Hrd.out.below HC.out.below) hjl
        have hx := HLm.out l[j] (List.getElem_mem hjl)
        have HE := hid (show l[j] = (l[j].1, l[j].2) from rfl)
        obtain ⟨nm, hnm⟩ : ∃ nm, nm = l[j].1 := ⟨_, rfl⟩
        obtain ⟨x, hxe⟩ : ∃ x, x = l[j].2 := ⟨_, rfl⟩
        rw [← hnm, ← hxe] at HE
        rw [← hnm] at n0
        rw [← hxe] at n1 hx
        clear hnm hxe
        have H3 := hid (H0.out.below HC.out.below)
        obtain ⟨g, cf, q0, k0, cs, hfv, hf1, hf2, hbi, hk1, hk2, hq0, hce, hsu, _, _, _, _⟩ := H3.out.file hx
        have hrb : Rd w0 q0 ((r.files[x]).b.map bv) := by
          obtain ⟨q', k', e, _, _, _, h⟩ := (H0.out.bytes x _ r.files[x] hbi (List.getElem?_eq_getElem hx)).rd
          cases e
          exact h
        clear hbi
        have d3 := H3.out.cells.2.2.2.1
        rw [hfv] at d3
        obtain ⟨f, hf⟩ : ∃ f, f = r.files[x] := ⟨_, rfl⟩
        have hsure := HG.out.sure _ (List.getElem_mem hx)
        rw [← hf] at hce hsu hrb hsure hk1
        obtain ⟨fb, hfb⟩ : ∃ fb, fb = f.b := ⟨_, rfl⟩
        obtain ⟨bn, hbn⟩ : ∃ bn, bn = fb.length := ⟨_, rfl⟩
        obtain ⟨fs, hfs⟩ : ∃ fs, fs = f.sure := ⟨_, rfl⟩
        rw [← hfb, ← hbn] at hce hk1 hsure
        rw [← hfb] at hrb
        rw [← hfs] at hsu hsure
        have HF := hid (show f = ⟨fb, fs⟩ by rw [hfb, hfs])
        have Hff0 := hid hf
        obtain ⟨PF, hPF⟩ : ∃ PF, PF = r.files.length := ⟨_, rfl⟩
        have Hx := hid hx
        rw [← hPF] at d3 hx hf1
        have HBn := hid hbn
        have Hrb := hid hrb
        have Hq0 := hid hq0
        have j0 : (0 : Int) ≤ (j : Int) := by omega
        have j1 : (j : Int) < (n : Int) := by omega
        have x0 : (0 : Int) ≤ (x : Int) := by omega
        have x1 : (x : Int) < (PF : Int) := by omega
        clear hfv hf hfb hbn hfs hPF hrb hq0
        go_upto_region 7 with fail
        refine wp_region_split (S := fun w' => w'.cell? ⟨m.D, 3, none⟩ = some (.slice (some ⟨g, 0, none⟩) PF cf) ∧ w'.cell? ⟨b, off + j * 2 + 1, none⟩ = some (.int .i64 (x : Int)) ∧ w'.cell? ⟨g, x * 2, none⟩ = some (.slice q0 bn k0) ∧ w'.cell? ⟨g, x * 2 + 1, none⟩ = some (.int .i64 (fs : Int))) 12 (by kernel_rfl) (by kernel_rfl) ⟨d3, n1, hce, hsu⟩ (fun hHeld => ?_)
        simp only [List.take_succ_cons, List.take_zero, List.drop_succ_cons, List.drop_zero]
        refine take_held (v := ?_) 0 rfl (by kernel_rfl) (by kernel_rfl) (by kernel_rfl) (fun _ _ _ h => h) (Or.inl ⟨by rfl, ?_⟩) (by assumption) ?_
        rotate_left
        · intro wS hSw
          obtain ⟨s0, s1, s2, s3⟩ := hSw
          go_simp
          try with_reducible rfl
        simp only [Act.put, List.setIfInBounds_toArray, List.set_cons_zero, List.set_cons_succ]
        refine take_held (v := ?_) 1 rfl (by kernel_rfl) (by kernel_rfl) (by kernel_rfl) (fun _ _ _ h => h) (Or.inl ⟨by rfl, ?_⟩) (by assumption) ?_
        rotate_left
        · intro wS hSw
          obtain ⟨s0, s1, s2, s3⟩ := hSw
          go_simp
          try with_reducible rfl
        simp only [Act.put, List.setIfInBounds_toArray, List.set_cons_zero, List.set_cons_succ]
        refine take_held (v := ?_) 2 rfl (by kernel_rfl) (by kernel_rfl) (by kernel_rfl) (fun _ _ _ h => h) (Or.inl ⟨by rfl, ?_⟩) (by assumption) ?_
        rotate_left
        · intro wS hSw
          obtain ⟨s0, s1, s2, s3⟩ := hSw
          go_simp
          try with_reducible rfl
        simp only [Act.put, List.setIfInBounds_toArray, List.set_cons_zero, List.set_cons_succ]
        refine take_held (v := ?_) 3 rfl (by kernel_rfl) (by kernel_rfl) (by kernel_rfl) (fun _ _ _ h => h) (Or.inl ⟨by rfl, ?_⟩) (by assumption) ?_
        rotate_left
        · intro wS hSw
          obtain ⟨s0, s1, s2, s3⟩ := hSw
          go_simp
          try with_reducible rfl
        simp only [Act.put, List.setIfInBounds_toArray, List.set_cons_zero, List.set_cons_succ]
        refine take_held (v := ?_) 4 rfl (by kernel_rfl) (by kernel_rfl) (by kernel_rfl) (fun _ _ _ h => h) (Or.inl ⟨by rfl, ?_⟩) (by assumption) ?_
        rotate_left
        · intro wS hSw
          obtain ⟨s0, s1, s2, s3⟩ := hSw
          go_simp
          try with_reducible rfl
        simp only [Act.put, List.setIfInBounds_toArray, List.set_cons_zero, List.set_cons_succ]
        refine take_held (v := ?_) 5 rfl (by kernel_rfl) (by kernel_rfl) (by kernel_rfl) (fun _ _ _ h => h) (Or.inl ⟨by rfl, ?_⟩) (by assumption) ?_
        rotate_left
        · intro wS hSw
          obtain ⟨s0, s1, s2, s3⟩ := hSw
          go_simp
          try with_reducible rfl
        simp only [Act.put, List.setIfInBounds_toArray, List.set_cons_zero, List.set_cons_succ]
        refine take_held (v := ?_) 6 rfl (by kernel_rfl) (by kernel_rfl) (by kernel_rfl) (fun _ _ _ h => h) (Or.inl ⟨by rfl, ?_⟩) (by assumption) ?_
        rotate_left
        · intro wS hSw
          obtain ⟨s0, s1, s2, s3⟩ := hSw
          go_simp
          try with_reducible rfl
        simp only [Act.put, List.setIfInBounds_toArray, List.set_cons_zero, List.set_cons_succ]
        refine take_held (v := ?_) 7 rfl (by kernel_rfl) (by kernel_rfl) (by kernel_rfl) (fun _ _ _ h => h) (Or.inl ⟨by rfl, ?_⟩) (by assumption) ?_
        rotate_left
        · intro wS hSw
          obtain ⟨s0, s1, s2, s3⟩ := hSw
          go_simp
          try with_reducible rfl
        simp only [Act.put, List.setIfInBounds_toArray, List.set_cons_zero, List.set_cons_succ]
        refine take_held (v := ?_) 8 rfl (by kernel_rfl) (by kernel_rfl) (by kernel_rfl) (fun _ _ _ h => h) (Or.inl ⟨by rfl, ?_⟩) (by assumption) ?_
        rotate_left
        · intro wS hSw
          obtain ⟨s0, s1, s2, s3⟩ := hSw
          go_simp
          try with_reducible rfl
        simp only [Act.put, List.setIfInBounds_toArray, List.set_cons_zero, List.set_cons_succ]
        refine take_held (v := ?_) 9 rfl (by kernel_rfl) (by kernel_rfl) (by kernel_rfl) (fun _ _ _ h => h) (Or.inl ⟨by rfl, ?_⟩) (by assumption) ?_
        rotate_left
        · intro wS hSw
          obtain ⟨s0, s1, s2, s3⟩ := hSw
          go_simp
          try with_reducible rfl
        simp only [Act.put, List.setIfInBounds_toArray, List.set_cons_zero, List.set_cons_succ]
        refine take_held (v := ?_) 10 rfl (by kernel_rfl) (by kernel_rfl) (by kernel_rfl) (fun _ _ _ h => h) (Or.inl ⟨by rfl, ?_⟩) (by assumption) ?_
        rotate_left
        · intro wS hSw
          obtain ⟨s0, s1, s2, s3⟩ := hSw
          go_simp
          try with_reducible rfl
        simp only [Act.put, List.setIfInBounds_toArray, List.set_cons_zero, List.set_cons_succ]
        refine wpAnyH_ready (rs := [11]) (by kernel_rfl) (by simp) ?_
        refine cons_held 11 rfl (fun K hK => ?_) AllReadyH.nil
        go_simp
        have hbA : Below wr.heap.size wr (wr.alloc (.cells #[.slice none 0 0, .int .i64 0] 78)).drew := ((Below.refl _ _).alloc (Nat.le_refl _) _).drew
        have HbA := hid hbA
        refine hK.out _ _ ⟨below_at HbA.out d3, below_at HbA.out n1, below_at HbA.out hce, below_at HbA.out hsu⟩ (fun hHeld2 => ?_)
        clear hK K hbA
        refine wpAnyH_done (by kernel_rfl) ?_ _
        rw [headQ_normal]
        have hnb : (wr.alloc (.cells #[.slice none 0 0, .int .i64 0] 78)).drew.heap[wr.heap.size]? = some (.cells #[.slice none 0 0, .int .i64 0] 78 (0, 0)) := heap_alloc_new _ _
        obtain ⟨wA, hwA⟩ : ∃ wA, wA = (wr.alloc (.cells #[.slice none 0 0, .int .i64 0] 78)).drew := ⟨_, rfl⟩
        rw [← hwA] at hnb HbA ⊢
        have a0 := cell_of_row wA wr.heap.size 0 _ _ _ hnb
        have a1 := cell_of_row wA wr.heap.size 1 _ _ _ hnb
        have g0 := frozen_of_row wA wr.heap.size 0 _ _ hnb
        have g1 := frozen_of_row wA wr.heap.size 1 _ _ hnb
        clear hwA
        go_upto_region 8 with fail
        have hB1 : Below wr.heap.size wr ((wA.setCell ⟨wr.heap.size, 0, none⟩ (.slice q0 bn k0)).setCell ⟨wr.heap.size, 1, none⟩ (.int .i64 (fs : Int))) := (HbA.out.setCell (Nat.le_refl _) _).setCell (Nat.le_refl _) _
        have hbk : ((wA.setCell ⟨wr.heap.size, 0, none⟩ (.slice q0 bn k0)).setCell ⟨wr.heap.size, 1, none⟩ (.int .i64 (fs : Int))).heap[wr.heap.size]? = some (.cells #[.slice q0 bn k0, .int .i64 (fs : Int)] 78 (0, 0)) := heap_setCell_same _ _ _ _ _ _ (heap_setCell_same _ _ _ _ _ _ hnb)
        obtain ⟨w1, hw1⟩ : ∃ w1, w1 = (wA.setCell ⟨wr.heap.size, 0, none⟩ (.slice q0 bn k0)).setCell ⟨wr.heap.size, 1, none⟩ (.int .i64 (fs : Int)) := ⟨_, rfl⟩
        rw [← hw1] at hB1 hbk ⊢
        clear hw1 a0 a1 g0 g1 hnb HbA d3 hce hsu n1
        have HB1 := hid hB1
        have Hbk := hid hbk
        have HC1 := hid (HC.out.below' HB1.out)
        have hlo1 := (HC1.out.below.block w.heap.size (by omega)).trans HLo.out
        have l1 := cell_of_row w1 w.heap.size 1 _ _ _ hlo1
        have a0 := cell_of_row w1 wr.heap.size 0 _ _ _ hbk
        have a1 := cell_of_row w1 wr.heap.size 1 _ _ _ hbk
        clear hB1 hbk hlo1
        go_cut [11] (fun s11 wc => s11 = .int .i64 (fs : Int) ∧ wc = w1)
        case first =>
          go_wp2
          go_meet
          exact ⟨rfl, rfl⟩
        obtain ⟨rfl, hwc⟩ := hcut
        subst hwc
        rename_i hK
        refine hK _ _ ?_
        clear hK
        refine wp_seq_k ?_
        intro K1 hK1
        obtain ⟨kp, hkp⟩ : ∃ kp, kp = keepAt fl j f := ⟨_, rfl⟩
        have hkl := keepAt_le (fl := fl) (i := j) (f := f) (by rw [HF.out]; dsimp only; rw [← HBn.out]; exact hsure.1)
        rw [← hkp, HF.out] at hkl
        dsimp only at hkl
        rw [← HBn.out] at hkl
        have hkd : kp = fs + match fl[j]? with | some v => (withinI v ((bn : Int) - (fs : Int))).toNat | none => 0 := by
          rw [hkp, HF.out, HBn.out]; unfold keepAt; cases fl[j]? <;> rfl
        have Hkp := hid hkp
        clear hkp
        go_cut [11] (fun s11 wd => s11 = .int .i64 (kp : Int) ∧ Below wc.heap.size wc wd)
        case first =>
          by_cases hjf : j < fn
          · have hjf2 : j < fl.length := by rw [HFn.out]; exact hjf
            obtain ⟨bf, of_, hfa, f0⟩ := ((HFr.out.below HB0.out).below (HC1.out.below)).cell (k := j) (by simpa using hjf2)
            subst hfa
            obtain ⟨v, hv⟩ : ∃ v, v = fl[j] := ⟨_, rfl⟩
            have f1 : wc.cell? ⟨bf, of_ + j, none⟩ = some (.int .i64 v) := by rw [f0, hv]; simp
            rw [List.getElem?_eq_getElem hjf2, ← hv] at hkd
            dsimp only at hkd
            have hwn : (((withinI v ((bn : Int) - (fs : Int))).toNat : Nat) : Int) = withinI v ((bn : Int) - (fs : Int)) ∧ fs + (withinI v ((bn : Int) - (fs : Int))).toNat ≤ bn := withinB v bn fs hsure.1
            have m0 : (0 : Int) ≤ (bn : Int) - (fs : Int) := by have := hsure.1; omega
            have w2' : IntKind.i64.wrap ((bn : Int) - (fs : Int)) = (bn : Int) - (fs : Int) := by rw [IntKind.wrap_i64]; omega
            have w3' : IntKind.i64.wrap ((fs : Int) + withinI v ((bn : Int) - (fs : Int))) = (kp : Int) := by
              obtain ⟨T, hT⟩ : ∃ T, T = (withinI v ((bn : Int) - (fs : Int))).toNat := ⟨_, rfl⟩
              rw [← hT] at hkd hwn
              rw [← hwn.1, hkd, IntKind.wrap_i64]; omega
            have jf1 : (j : Int) < (fn : Int) := by omega
            clear f0 hv hkd
            go_upto_region 10 with fail
            refine wp_region_split (S := fun w' => w'.cell? ⟨w.heap.size, 1, none⟩ = some (.slice (some ⟨bf, of_, none⟩) fn fc) ∧ w'.cell? ⟨bf, of_ + j, none⟩ = some (.int .i64 v) ∧ w'.cell? ⟨wr.heap.size, 0, none⟩ = some (.slice q0 bn k0) ∧ w'.cell? ⟨wr.heap.size, 1, none⟩ = some (.int .i64 (fs : Int))) 14 (by kernel_rfl) (by kernel_rfl) ⟨l1, f1, a0, a1⟩ (fun hHeld => ?_)
            simp only [List.take_succ_cons, List.take_zero, List.drop_succ_cons, List.drop_zero]
            refine take_held (v := ?_) 0 rfl (by kernel_rfl) (by kernel_rfl) (by kernel_rfl) (fun _ _ _ h => h) (Or.inl ⟨by rfl, ?_⟩) (by assumption) ?_
            rotate_left
            · intro wS hSw
              obtain ⟨s0, s1, s2, s3⟩ := hSw
              go_simp
              try with_reducible rfl
            simp only [Act.put, List.setIfInBounds_toArray, List.set_cons_zero, List.set_cons_succ]
            refine take_held (v := ?_) 1 rfl (by kernel_rfl) (by kernel_rfl) (by kernel_rfl) (fun _ _ _ h => h) (Or.inl ⟨by rfl, ?_⟩) (by assumption) ?_
            rotate_left
            · intro wS hSw
              obtain ⟨s0, s1, s2, s3⟩ := hSw
              go_simp
              try with_reducible rfl
            simp only [Act.put, List.setIfInBounds_toArray, List.set_cons_zero, List.set_cons_succ]
            refine take_held (v := ?_) 2 rfl (by kernel_rfl) (by kernel_rfl) (by kernel_rfl) (fun _ _ _ h => h) (Or.inl ⟨by rfl, ?_⟩) (by assumption) ?_
            rotate_left
            · intro wS hSw
              obtain ⟨s0, s1, s2, s3⟩ := hSw
              go_simp
              try with_reducible rfl
            simp only [Act.put, List.setIfInBounds_toArray, List.set_cons_zero, List.set_cons_succ]
            refine take_held (v := ?_) 3 rfl (by kernel_rfl) (by kernel_rfl) (by kernel_rfl) (fun _ _ _ h => h) (Or.inl ⟨by rfl, ?_⟩) (by assumption) ?_
            rotate_left
            · intro wS hSw
              obtain ⟨s0, s1, s2, s3⟩ := hSw
              go_simp
              try with_reducible rfl
            simp only [Act.put, List.setIfInBounds_toArray, List.set_cons_zero, List.set_cons_succ]
            refine take_held (v := ?_) 4 rfl (by kernel_rfl) (by kernel_rfl) (by kernel_rfl) (fun _ _ _ h => h) (Or.inl ⟨by rfl, ?_⟩) (by assumption) ?_
            rotate_left
            · intro wS hSw
              obtain ⟨s0, s1, s2, s3⟩ := hSw
              go_simp
              try with_reducible rfl
            simp only [Act.put, List.setIfInBounds_toArray, List.set_cons_zero, List.set_cons_succ]
            refine take_held (v := ?_) 5 rfl (by kernel_rfl) (by kernel_rfl) (by kernel_rfl) (fun _ _ _ h => h) (Or.inl ⟨by rfl, ?_⟩) (by assumption) ?_
            rotate_left
            · intro wS hSw
              obtain ⟨s0, s1, s2, s3⟩ := hSw
              go_simp
              try with_reducible rfl
            simp only [Act.put, List.setIfInBounds_toArray, List.set_cons_zero, List.set_cons_succ]
            refine take_held (v := ?_) 6 rfl (by kernel_rfl) (by kernel_rfl) (by kernel_rfl) (fun _ _ _ h => h) (Or.inl ⟨by rfl, ?_⟩) (by assumption) ?_
            rotate_left
            · intro wS hSw
              obtain ⟨s0, s1, s2, s3⟩ := hSw
              go_simp
              try with_reducible rfl
            simp only [Act.put, List.setIfInBounds_toArray, List.set_cons_zero, List.set_cons_succ]
            refine take_held (v := ?_) 7 rfl (by kernel_rfl) (by kernel_rfl) (by kernel_rfl) (fun _ _ _ h => h) (Or.inl ⟨by rfl, ?_⟩) (by assumption) ?_
            rotate_left
            · intro wS hSw
              obtain ⟨s0, s1, s2, s3⟩ := hSw
              go_simp
              try with_reducible rfl
            simp only [Act.put, List.setIfInBounds_toArray, List.set_cons_zero, List.set_cons_succ]
            refine take_held (v := ?_) 8 rfl (by kernel_rfl) (by kernel_rfl) (by kernel_rfl) (fun _ _ _ h => h) (Or.inl ⟨by rfl, ?_⟩) (by assumption) ?_
            rotate_left
            · intro wS hSw
              obtain ⟨s0, s1, s2, s3⟩ := hSw
              go_simp
              try with_reducible rfl
            simp only [Act.put, List.setIfInBounds_toArray, List.set_cons_zero, List.set_cons_succ]
            refine take_held (v := ?_) 9 rfl (by kernel_rfl) (by kernel_rfl) (by kernel_rfl) (fun _ _ _ h => h) (Or.inl ⟨by rfl, ?_⟩) (by assumption) ?_
            rotate_left
            · intro wS hSw
              obtain ⟨s0, s1, s2, s3⟩ := hSw
              go_simp
              try with_reducible rfl
            simp only [Act.put, List.setIfInBounds_toArray, List.set_cons_zero, List.set_cons_succ]
            refine take_held (v := ?_) 10 rfl (by kernel_rfl) (by kernel_rfl) (by kernel_rfl) (fun _ _ _ h => h) (Or.inl ⟨by rfl, ?_⟩) (by assumption) ?_
            rotate_left
            · intro wS hSw
              obtain ⟨s0, s1, s2, s3⟩ := hSw
              go_simp
              try with_reducible rfl
            simp only [Act.put, List.setIfInBounds_toArray, List.set_cons_zero, List.set_cons_succ]
            refine take_held (v := ?_) 11 rfl (by kernel_rfl) (by kernel_rfl) (by kernel_rfl) (fun _ _ _ h => h) (Or.inl ⟨by rfl, ?_⟩) (by assumption) ?_
            rotate_left
            · intro wS hSw
              obtain ⟨s0, s1, s2, s3⟩ := hSw
              go_simp
              try with_reducible rfl
            simp only [Act.put, List.setIfInBounds_toArray, List.set_cons_zero, List.set_cons_succ]
            refine wpAnyH_ready (rs := [12]) (by kernel_rfl) (by simp) ?_
            refine cons_held 12 rfl (fun K hK => ?_) AllReadyH.nil
            go_simp
            refine (heldR_any v ((bn : Int) - (fs : Int)) m0 _).mono ?_
            rintro e w2 ⟨rfl, rfl⟩
            refine hK.out _ _ ⟨l1, f1, a0, a1⟩ (fun hHeld2 => ?_)
            clear hK K
            refine take_held (v := ?_) 13 rfl (by kernel_rfl) (by kernel_rfl) (by kernel_rfl) (fun _ _ _ h => h) (Or.inl ⟨by rfl, ?_⟩) (by assumption) ?_
            rotate_left
            · intro wS hSw
              obtain ⟨s0, s1, s2, s3⟩ := hSw
              go_simp
              try with_reducible rfl
            simp only [Act.put, List.setIfInBounds_toArray, List.set_cons_zero, List.set_cons_succ]
            refine wpAnyH_done (by kernel_rfl) ?_ _
            rw [headQ_normal]
            go_wp2
            go_meet
            exact ⟨rfl, (Below.refl _ _).drew⟩

          · have hno : fl[j]? = none := by rw [List.getElem?_eq_none_iff, HFn.out]; omega
            rw [hno] at hkd
            have hkd : kp = fs := hkd
            have b9 : decide ((j : Int) < (fn : Int)) = false := by simp; omega
            clear hno
            go_wp2
            go_meet
            exact ⟨by rw [hkd], Below.refl _ _⟩
        obtain ⟨rfl, hb⟩ := hcut
        clear hkd
        go_upto_region 11 with fail
        have HbW := hid hb
        have HC2 := hid (HC1.out.below' hb)
        have nn := below_at hb (below_at HB1.out n0)
        have HO2 := hid (own_below (own_below HO.out HB1.out) hb)
        have Hbk2 := hid ((hb.block _ (lt_of_block Hbk.out)).trans Hbk.out)
        clear hb n0 l1 a0 a1
        go_upto_region 12 with (refine wpList_append_at rfl (.tmp 71) (.tmp 79) 76 rfl w0.heap.size 80 _ 2 24 Tryz.underlying76 infoEnt rfl (by decide) (.slice qd j cd) j (eCells de) rfl (own_below HO2.out ((Below.refl wc.heap.size wc).alloc (Nat.le_refl _) _)) (some ⟨wc.heap.size, 0, none⟩) 1 1 [.string nm, .int .i64 (j : Int)] rfl (fun h => by cases h) rfl (Rd.new _ _ _) (by simp [Value.oneCell']) (by unfold maxLen; omega) (by omega) (by simp; have := HC2.out.below.size; omega) ?_; intro v3 w3 hown3 hg3 hat3; obtain ⟨q3, k3, rfl, _, _, _⟩ := own_shape hown3; have hown3 := hid hown3; have hg3 := hid hg3; have hat3 := hid hat3)
        have hWB : Below wc.heap.size wc (wc.alloc (.cells #[.string nm, .int .i64 (j : Int)] 80)) := (Below.refl _ _).alloc (Nat.le_refl _) _
        have HC3 := hid (HC2.out.pushDir (e := (nm, j)) hWB hg3.out (by rw [Hdl.out]; exact hown3.out) hat3.out)
        have hbk3 := (hg3.out.block wr.heap.size (Nat.lt_of_lt_of_le (lt_of_block Hbk2.out) hWB.size) (fun e => by have := HO.out.lt _ e.symm; omega)).trans ((hWB.block _ (lt_of_block Hbk2.out)).trans Hbk2.out)
        have a0 := cell_of_row w3 wr.heap.size 0 _ _ _ hbk3
        obtain ⟨U3, hR3, hU3⟩ := HC3.out.at_
        have hff : w3.ownsRow 0 78 2 mo.fv j (fCells mo.bs FL) := by
          have h0 := hR3.files
          dsimp only at h0
          rw [Hfl.out] at h0
          exact h0
        obtain ⟨qf, cff, hfve, _, _, _⟩ := own_shape hff
        have c3 := hR3.cells.2.2.2.1
        rw [Hmo.out, hfve] at c3
        have HR3 := hid hR3
        have HU3 := hid hU3
        have Hff := hid hff
        have Hfve := hid hfve
        have kk0 : (0 : Int) ≤ (kp : Int) := by omega
        have kk1 : (kp : Int) ≤ (k0 : Int) := by omega
        have kk2 : ((kp : Int)).toNat = kp := by omega
        have Hbk3 := hid hbk3
        clear hR3 hU3 hff hfve hWB hbk3 nn
        refine wp_region_split (S := fun w' => w'.cell? ⟨w.heap.size + 1, 3, none⟩ = some (.slice qf j cff) ∧ w'.cell? ⟨wr.heap.size, 0, none⟩ = some (.slice q0 bn k0)) 14 (by kernel_rfl) (by kernel_rfl) ⟨c3, a0⟩ (fun hHeld => ?_)
        simp only [List.take_succ_cons, List.take_zero, List.drop_succ_cons, List.drop_zero]
        refine take_held (v := ?_) 0 rfl (by kernel_rfl) (by kernel_rfl) (by kernel_rfl) (fun _ _ _ h => h) (Or.inl ⟨by rfl, ?_⟩) (by assumption) ?_
        rotate_left
        · intro wS hSw
          obtain ⟨s0, s1⟩ := hSw
          go_simp
          try with_reducible rfl
        simp only [Act.put, List.setIfInBounds_toArray, List.set_cons_zero, List.set_cons_succ]
        refine take_held (v := ?_) 1 rfl (by kernel_rfl) (by kernel_rfl) (by kernel_rfl) (fun _ _ _ h => h) (Or.inl ⟨by rfl, ?_⟩) (by assumption) ?_
        rotate_left
        · intro wS hSw
          obtain ⟨s0, s1⟩ := hSw
          go_simp
          try with_reducible rfl
        simp only [Act.put, List.setIfInBounds_toArray, List.set_cons_zero, List.set_cons_succ]
        refine take_held (v := ?_) 2 rfl (by kernel_rfl) (by kernel_rfl) (by kernel_rfl) (fun _ _ _ h => h) (Or.inl ⟨by rfl, ?_⟩) (by assumption) ?_
        rotate_left
        · intro wS hSw
          obtain ⟨s0, s1⟩ := hSw
          go_simp
          try with_reducible rfl
        simp only [Act.put, List.setIfInBounds_toArray, List.set_cons_zero, List.set_cons_succ]
        refine take_held (v := ?_) 3 rfl (by kernel_rfl) (by kernel_rfl) (by kernel_rfl) (fun _ _ _ h => h) (Or.inl ⟨by rfl, ?_⟩) (by assumption) ?_
        rotate_left
        · intro wS hSw
          obtain ⟨s0, s1⟩ := hSw
          go_simp
          try with_reducible rfl
        simp only [Act.put, List.setIfInBounds_toArray, List.set_cons_zero, List.set_cons_succ]
        refine take_held (v := ?_) 4 rfl (by kernel_rfl) (by kernel_rfl) (by kernel_rfl) (fun _ _ _ h => h) (Or.inl ⟨by rfl, ?_⟩) (by assumption) ?_
        rotate_left
        · intro wS hSw
          obtain ⟨s0, s1⟩ := hSw
          go_simp
          try with_reducible rfl
        simp only [Act.put, List.setIfInBounds_toArray, List.set_cons_zero, List.set_cons_succ]
        refine take_held (v := ?_) 5 rfl (by kernel_rfl) (by kernel_rfl) (by kernel_rfl) (fun _ _ _ h => h) (Or.inl ⟨by rfl, ?_⟩) (by assumption) ?_
        rotate_left
        · intro wS hSw
          obtain ⟨s0, s1⟩ := hSw
          go_simp
          try with_reducible rfl
        simp only [Act.put, List.setIfInBounds_toArray, List.set_cons_zero, List.set_cons_succ]
        refine take_held (v := ?_) 6 rfl (by kernel_rfl) (by kernel_rfl) (by kernel_rfl) (fun _ _ _ h => h) (Or.inl ⟨by rfl, ?_⟩) (by assumption) ?_
        rotate_left
        · intro wS hSw
          obtain ⟨s0, s1⟩ := hSw
          go_simp
          try with_reducible rfl
        simp only [Act.put, List.setIfInBounds_toArray, List.set_cons_zero, List.set_cons_succ]
        refine take_held (v := ?_) 7 rfl (by kernel_rfl) (by kernel_rfl) (by kernel_rfl) (fun _ _ _ h => h) (Or.inl ⟨by rfl, ?_⟩) (by assumption) ?_
        rotate_left
        · intro wS hSw
          obtain ⟨s0, s1⟩ := hSw
          go_simp
          try with_reducible rfl
        simp only [Act.put, List.setIfInBounds_toArray, List.set_cons_zero, List.set_cons_succ]
        refine take_held (v := ?_) 8 rfl (by kernel_rfl) (by kernel_rfl) (by kernel_rfl) (fun _ _ _ h => h) (Or.inl ⟨by rfl, ?_⟩) (by assumption) ?_
        rotate_left
        · intro wS hSw
          obtain ⟨s0, s1⟩ := hSw
          go_simp
          try with_reducible rfl
        simp only [Act.put, List.setIfInBounds_toArray, List.set_cons_zero, List.set_cons_succ]
        refine take_held (v := ?_) 10 rfl (by kernel_rfl) (by kernel_rfl) (by kernel_rfl) (fun _ _ _ h => h) (Or.inl ⟨by rfl, ?_⟩) (by assumption) ?_
        rotate_left
        · intro wS hSw
          obtain ⟨s0, s1⟩ := hSw
          go_simp
          try with_reducible rfl
        simp only [Act.put, List.setIfInBounds_toArray, List.set_cons_zero, List.set_cons_succ]
        refine wpAnyH_ready (rs := [9]) (by kernel_rfl) (by simp) ?_
        refine cons_held 9 rfl (fun K hK => ?_) AllReadyH.nil
        refine step_append_rd rfl (.const (.slice none 0 0)) (.tmp 89) 31 rfl w3.heap.size 5 (.int .u8 0) 1 1 Tryz.underlying31 infoU8 rfl (by decide) (.slice none 0 0) 0 [] rfl (World.ownsRow_nil _ _ _ _) q0 kp k0 ((fb.take kp).map bv) rfl Hq0.out (by rw [List.length_map, List.length_take, ← HBn.out]; omega) (by rw [List.map_take]; exact ((Hrb.out.below HC3.out.below).below (Below.refl _ _).drew).take kp) bv_one (by unfold maxLen; omega) (by omega) (Nat.le_refl _) ?_
        intro v4 w4 hown4 hg4 _
        rw [Nat.zero_add, List.nil_append] at hown4
        obtain ⟨q4, k4, rfl, _, _, _⟩ := own_shape hown4
        have hb4 : Below w3.heap.size w3 w4 := ((Below.refl _ _).drew).grown hg4 (Nat.le_refl _) (fun k hk => nomatch hk)
        have HB4 := hid hb4
        have Hown4 := hid hown4
        have HR4 := hid (HR3.out.below hb4)
        refine hK.out _ _ ⟨below_at hb4 c3, below_at hb4 a0⟩ (fun hHeld2 => ?_)
        clear hK K hb4 hown4 hg4
        refine take_held (v := ?_) 11 rfl (by kernel_rfl) (by kernel_rfl) (by kernel_rfl) (fun _ _ _ h => h) (Or.inl ⟨by rfl, ?_⟩) (by assumption) ?_
        rotate_left
        · intro wS hSw
          obtain ⟨s0, s1⟩ := hSw
          go_simp
          try with_reducible rfl
        simp only [Act.put, List.setIfInBounds_toArray, List.set_cons_zero, List.set_cons_succ]
        refine wpAnyH_ready (rs := [12]) (by kernel_rfl) (by simp) ?_
        refine cons_held 12 rfl (fun K hK => ?_) AllReadyH.nil
        go_simp
        have hbA : Below w4.heap.size w4 (w4.alloc (.cells #[.slice q4 kp k4, .int .i64 (kp : Int)] 78)) := (Below.refl _ _).alloc (Nat.le_refl _) _
        have HbA := hid hbA
        refine hK.out _ _ ⟨below_at hbA (below_at HB4.out c3), below_at hbA (below_at HB4.out a0)⟩ (fun hHeld3 => ?_)
        clear hK K hbA
        refine wpAnyH_ready (rs := [13]) (by kernel_rfl) (by simp) ?_
        refine cons_held 13 rfl (fun K hK => ?_) AllReadyH.nil
        refine step_append_at rfl (.tmp 85) (.tmp 93) 53 rfl 0 78 _ 2 32 Tryz.underlying53 infoFile rfl (by decide) (.slice qf j cff) j (fCells mo.bs FL) rfl (own_below (own_below (by rw [← Hfve.out]; exact Hff.out) HB4.out) HbA.out) (some ⟨w4.heap.size, 0, none⟩) 1 1 [.slice q4 kp k4, .int .i64 (kp : Int)] rfl (fun h => by cases h) rfl (Rd.new _ _ _) (by simp [Value.oneCell']) (by unfold maxLen; omega) (by omega) (by simp) ?_
        intro v6 w6 hown6 hg6 hat6
        obtain ⟨q6, k6, rfl, _, _, _⟩ := own_shape hown6
        rw [← Hfve.out] at hg6 hat6
        have RA := HR4.out.below HbA.out
        have hpne : some mo.D ≠ mo.fv.ownBlock := fun e => by
          have := RA.nodup; rw [RM.fp, ← e] at this; simp at this
        have hBf : some wr.heap.size ≠ mo.fv.ownBlock := fun e => by
          obtain ⟨U0, R0, _⟩ := HC.out.at_
          have := R0.low _ (R0.us wr.heap.size (by simp [RM.fp, ← e]))
          omega
        have hlo := (hg6.block mo.D (lt_of_block RA.disk) hpne).trans RA.disk
        have hbA4 := (HB4.out.block _ (lt_of_block Hbk3.out)).trans Hbk3.out
        have hbA5 := (HbA.out.block _ (lt_of_block hbA4)).trans hbA4
        have hbk6 := (hg6.block _ (lt_of_block hbA5) hBf).trans hbA5
        have a6 := cell_of_row w6 wr.heap.size 0 _ _ _ hbk6
        have e6 := cell_of_row w6 mo.D 3 _ _ _ hlo
        have g6 := frozen_of_row w6 mo.D 3 _ _ hlo
        have hkl2 : (fb.take kp).length = kp := by rw [List.length_take, ← HBn.out]; omega
        have HP6 := hid (HC3.out.pushFile (f := ⟨fb.take kp, kp⟩) (x := .slice q4 kp k4) (v := .slice q6 (j + 1) k6) HB4.out (by dsimp only; rw [hkl2]; exact Hown4.out) HbA.out hg6 (by dsimp only; rw [Hfl.out]; exact hown6) hat6)
        rw [Hmo.out, Hfve.out] at e6
        rw [Hmo.out] at g6
        refine hK.out _ _ ⟨e6, a6⟩ (fun hHeld4 => ?_)
        clear hK K hown6 hg6 hat6 hlo hbA4 hbA5 hbk6 RA a6
        simp only [Act.put, List.setIfInBounds_toArray, List.set_cons_zero, List.set_cons_succ]
        refine wpAnyH_done (by kernel_rfl) ?_ _
        rw [headQ_normal]
        go_wp2
        go_roundw
        case rel =>
          refine ⟨j + 1, { mo with fv := .slice q6 (j + 1) k6, bs := mo.bs ++ [.slice q4 kp k4] }, by omega, by go_num, by rw [hz0]; exact Hmo.out, ?_⟩
          have hcr : crashRF r fl j l[j] = ⟨fb.take kp, kp⟩ := by
            rw [HE.out]
            unfold crashRF fileR
            dsimp only
            rw [List.getElem?_eq_getElem Hx.out, Option.getD_some, ← Hff0.out, ← Hkp.out, HF.out]
          have hdr : crashRD (l.take (j + 1)) = de ++ [(nm, j)] := by rw [dirC_next hjl, HE.out, Hde.out]
          rw [filesC_next hjl, hcr, hdr, ← HFL.out, ← Hmo.out]
          exact HP6.out
        case measure => simp [intOf]; omega

      · have hjN : j = n := by omega
        subst hjN
        have hln : l.take j = l := List.take_of_length_le (by rw [← HNn.out]; exact Nat.le_refl _)
        obtain ⟨U3, hR3, hU3⟩ := HC.out.at_
        have hfr := hR3.free 4
        have hc4 := hR3.cells.2.2.2.2
        have hlo := (heap_alloc_old wr (.cells #[.slice qd j cd] 76) (lt_of_block hR3.disk)).trans hR3.disk
        have e4 := cell_of_row _ mo.D 4 _ _ _ hlo
        have g4 := frozen_of_row _ mo.D 4 _ _ hlo
        rw [Hmo.out] at e4 g4
        clear hR3 hU3 hfr hc4 hlo
        go_wp2_with fail
        go_ret2
        obtain ⟨hf1, hf2⟩ := HC.out.fin
        rw [Hmo.out] at hf1 hf2
        refine ⟨⟨w.heap.size + 1, mo.fv, .slice (some ⟨wr.heap.size, 0, none⟩) 1 1, mo.bs, [.slice qd j cd]⟩, rfl, ?_, HB0.out.trans (hf2.mono (by omega))⟩
        have e1 : crashR r dir fl = { (⟨r.room, -1, false, FL, []⟩ : RS) with past := [de] } := by
          unfold crashR
          rw [← HL.out, HFL.out, Hde.out, hln]; rfl
        rw [e1]
        refine RefAt.up hf1 ?_ ?_
        · intro k hk
          exact ⟨by have := hk.1; omega, hk.2⟩
        · intro k hk
          exact hk.2
end Go.Proofs.Herb
