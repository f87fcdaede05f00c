/- The contract of a pointer's Set. For a disk as DiskAt says. -/
import Derived.Test.YtgijklclfdfidaaGreatCurB
import Derived.Test.YtgijklclfdfidaaGreatLab
import Derived.Deep.RegionHeld3
import Derived.Test.YtgijklclfdfidaaGreatSpl
namespace Go.Proofs.Herb
open Go.RowKit Go.Sort
/-! the steps, by how many are left -/
def stepE (b : List UInt8) : Nat → DS → Int
  | 6, s => removeE s kD
  | 5, s => createE s kD
  | 4, s => appendE s kD b
  | 3, s => syncE s kD
  | 2, s => renameE s kD kC
  | 1, s => syncDirE s
  | _, _ => 0
def stepS (b : List UInt8) : Nat → DS → DS
  | 6, s => removeS s kD
  | 5, s => createS s kD
  | 4, s => appendS s kD b
  | 3, s => syncS s kD
  | 2, s => renameS s kD kC
  | 1, s => syncDirT s
  | _, s => s
def runE (b : List UInt8) : Nat → DS → Int
  | 0, _ => 0
  | j + 1, s => if stepE b (j + 1) s = 0 then runE b j (stepS b (j + 1) s) else stepE b (j + 1) s
def runS (b : List UInt8) : Nat → DS → DS
  | 0, s => s
  | j + 1, s => if stepE b (j + 1) s = 0 then runS b j (stepS b (j + 1) s) else if stepE b (j + 1) s = 9 then removeS (stepS b (j + 1) s) kD else stepS b (j + 1) s
def setE (s : DS) (N : Nat) : Int := runE (contentL N) (if (look s.names kD).isSome then 6 else 5) s
def setS (s : DS) (N : Nat) : DS := runS (contentL N) (if (look s.names kD).isSome then 6 else 5) s
theorem DsOk.step {s : DS} {n : Nat} (h : DsOk s n) (b : List UInt8) (j : Nat) : DsOk (stepS b j s) (n + 2) := by
  unfold stepS
  split
  · exact (h.remove kD).mono (by omega)
  · exact h.create kD
  · exact (h.append kD b).mono (by omega)
  · exact (h.sync kD).mono (by omega)
  · exact (h.rename kD kC).mono (by omega)
  · exact h.syncDir.mono (by omega)
  · exact h.mono (by omega)
/-- the closures' blocks are as they were made -/
structure KeepN (lo hi : Nat) (w1 w' : World) (m : DM) : Prop where
  size : hi ≤ w'.heap.size
  keep : ∀ k, lo ≤ k → k < hi → w'.heap[k]? = w1.heap[k]? ∧ k ∉ m.fp
theorem KeepN.mod {lo hi : Nat} {w1 w' w'' : World} {m m' : DM} (h : KeepN lo hi w1 w' m) (hM : Mod m.fp m'.fp w' w'') : KeepN lo hi w1 w'' m' :=
  ⟨Nat.le_trans h.size hM.size, fun k h1 h2 => by
    obtain ⟨h3, h4⟩ := h.keep k h1 h2
    have hs := h.size
    refine ⟨(hM.block k (by omega) h4).trans h3, fun hk => ?_⟩
    rcases hM.grow k hk with h | h
    · exact h4 h
    · omega⟩
theorem KeepN.box {lo hi : Nat} {w1 w' : World} {m : DM} (h : KeepN lo hi w1 w' m) {b : Nat} {t : TypeId} {v : Value} (hb : BoxAt w1 b t v) (h1 : lo ≤ b) (h2 : b < hi) : BoxAt w' b t v ∧ b ∉ m.fp :=
  ⟨(h.keep b h1 h2).1.trans hb, (h.keep b h1 h2).2⟩
theorem on_at (fn : Fn) (first cap : Array Value) (w : World) (n : Nat) (hn : w.heap.size = n) :
    Calls Tryz.prog 28 #[.func fn first cap] w fun e w' => e = .returned (.func (.func 29) #[] #[.pointer (some ⟨n, 0, none⟩)]) ∧ BoxAt w' n 40 (.func fn first cap) ∧ w'.heap.size = n + 1 ∧ Below w.heap.size w w' := by
  refine (on_any fn first cap w).mono ?_
  rintro e w' ⟨rfl, rfl⟩
  subst hn
  exact ⟨rfl, heap_alloc_new _ _, by simp, (Below.refl _ _).alloc (Nat.le_refl _) _⟩
theorem frame_gen47 (n : Nat) (t : Array Value) (h : t.size = n) : t = ((List.range n).map fun i => t.getD i undef).toArray := by
  apply Array.ext
  · simp [h]
  · intro i h1 h2
    simp [h1]
theorem frame_lit47 (t : Array Value) (h : t.size = 47) : ∃ u : Nat → Value, t = #[u 0, u 1, u 2, u 3, u 4, u 5, u 6, u 7, u 8, u 9, u 10, u 11, u 12, u 13, u 14, u 15, u 16, u 17, u 18, u 19, u 20, u 21, u 22, u 23, u 24, u 25, u 26, u 27, u 28, u 29, u 30, u 31, u 32, u 33, u 34, u 35, u 36, u 37, u 38, u 39, u 40, u 41, u 42, u 43, u 44, u 45, u 46] :=
  ⟨fun i => t.getD i undef, frame_gen47 47 t h⟩
def fnB (f : FuncId) (D : Nat) : Value := .func (.func f) #[.pointer (some ⟨D, 0, none⟩)] #[]
def fnC (b : Nat) : Value := .func (.func 29) #[] #[.pointer (some ⟨b, 0, none⟩)]
theorem run_ok {b : List UInt8} {j : Nat} {S : DS} (h : stepE b (j + 1) S = 0) : runE b (j + 1) S = runE b j (stepS b (j + 1) S) ∧ runS b (j + 1) S = runS b j (stepS b (j + 1) S) := by
  constructor
  · rw [runE, if_pos h]
  · rw [runS, if_pos h]
theorem run_no {b : List UInt8} {j : Nat} {S : DS} (h : stepE b (j + 1) S ≠ 0) : runE b (j + 1) S = stepE b (j + 1) S ∧ runS b (j + 1) S = if stepE b (j + 1) S = 9 then removeS (stepS b (j + 1) S) kD else stepS b (j + 1) S := by
  constructor
  · rw [runE, if_neg h]
  · rw [runS, if_neg h]
/-- the steps in memory -/
structure StepsAt (w1 : World) (D N B Z : Nat) : Prop where
  d : BoxAt w1 B 24 (.pointer (some ⟨D, 0, none⟩))
  n : BoxAt w1 (B + 1) 31 (.int .u64 (N : Int))
  rm : BoxAt w1 Z 40 (.func (.func 14) #[.pointer (some ⟨D, 0, none⟩)] #[])
  cr : BoxAt w1 (Z + 1) 40 (.func (.func 9) #[.pointer (some ⟨D, 0, none⟩)] #[])
  sy : BoxAt w1 (Z + 2) 40 (.func (.func 32) #[.pointer (some ⟨D, 0, none⟩)] #[])
  g : w1.heap[Z + 3]? = some (.cells #[fnC Z, fnC (Z + 1), .func (.func 30) #[] #[.pointer (some ⟨B, 0, none⟩), .pointer (some ⟨B + 1, 0, none⟩)], fnC (Z + 2), .func (.func 33) #[] #[.pointer (some ⟨B, 0, none⟩)], .func (.func 35) #[.pointer (some ⟨D, 0, none⟩)] #[]] 64 (0, 0))
  size : w1.heap.size = Z + 4
  lo : B + 1 < Z
set_option maxRecDepth 100000 in
set_option maxHeartbeats 6400000 in
theorem set_any (m : DM) (s : DS) (n N : Nat) (hN : N < 18446744073709551616) (w : World) (h : DiskAt w m s) (o : DsOk s n) (hn : n ≤ 900000) :
    Calls Tryz.prog 7 #[.pointer (some ⟨m.D, 0, none⟩), .int .u64 (N : Int)] w fun e w' => ∃ m', e = .returned (.int .i64 (setE s N)) ∧ DiskAt w' m' (setS s N) ∧ m'.D = m.D ∧ Mod m.fp m'.fp w w' := by
  have hmf : ∀ (fn : Fn) (first cap : Array Value) (w : World), (Instr.makeFunc fn first cap).run Tryz.prog w = .ok (.func fn first cap) w := fun _ _ _ _ => rfl
  have H := hid h
  have O := hid o
  clear h o
  go_enter Tryz.func7, Tryz.ntmps7
  go_wp2_with fail
  obtain ⟨J, hJ⟩ : ∃ J : Act → World → Prop, J = (fun a' w' => ∃ (j nn : Nat) (m2 : DM) (S : DS) (q : Option Addr) (t : Array Value) (Z : Nat) (w1 : World), a' = { tmps := t, defers := [] } ∧ t.size = 47 ∧ t.getD 2 undef = .pointer (some ⟨w.heap.size, 0, none⟩) ∧ t.getD 6 undef = .slice q j j ∧
    j ≤ 6 ∧ (0 < j → q = some ⟨Z + 3, 6 - j, none⟩) ∧ StepsAt w1 m.D N w.heap.size Z ∧ KeepN w.heap.size (Z + 4) w1 w' m2 ∧ m2.D = m.D ∧ DiskAt w' m2 S ∧ DsOk S nn ∧ nn + 2 * j ≤ n + 12 ∧ runE (contentL N) j S = setE s N ∧ runS (contentL N) j S = setS s N ∧ Mod m.fp m2.fp w w') := ⟨_, rfl⟩
  obtain ⟨μ, hμ⟩ : ∃ μ : Act → World → Nat, μ = (fun a' _ => match a'.tmps.getD 6 undef with | .slice _ k _ => k | _ => 0) := ⟨_, rfl⟩
  have HJ := hid hJ
  have Hμ := hid hμ
  clear hJ hμ
  refine wp_scope_jumps1 0 J μ rfl ?pass ?first
  case first =>
    intro hp
    have HP := hid hp
    clear hp
    go_wp2_with fail
    (with_reducible refine (noneC_any m s n _ (H.out.below (((Below.refl w.heap.size w).alloc (Nat.le_refl _) _).alloc (by simp) _)) O.out).mono ?_)
    rintro e w2 ⟨rfl, hB2⟩
    have hb2 : Below w.heap.size w w2 := (((Below.refl w.heap.size w).alloc (Nat.le_refl _) _).alloc (by simp) _).trans (hB2.mono (by simp; omega))
    have hx0 : BoxAt w2 w.heap.size 24 (.pointer (some ⟨m.D, 0, none⟩)) := (hB2.block _ (by simp; omega)).trans ((heap_alloc_old _ _ (by simp)).trans (heap_alloc_new _ _))
    have hx1 : BoxAt w2 (w.heap.size + 1) 31 (.int .u64 (N : Int)) := (hB2.block _ (by simp)).trans (new_at (by simp))
    obtain ⟨Z, hZ⟩ : ∃ Z, Z = w2.heap.size := ⟨_, rfl⟩
    have hlo : w.heap.size + 1 < Z := by rw [hZ]; exact hx1.lt
    have hheld : ∀ w', Below w2.heap.size w2 w' → w'.cell? ⟨w.heap.size, 0, none⟩ = some (.pointer (some ⟨m.D, 0, none⟩)) := fun w' hB => (hx0.below hB hx0.lt).cell
    have k0 := hx0.cell
    have HX0 := hid hx0
    have HX1 := hid hx1
    have HH := hid hheld
    have HB2 := hid hb2
    have HZ := hid hZ
    have HZd := hid (show w2.drew.heap.size = Z by rw [hZ]; rfl)
    clear hB2 hb2 hx0 hx1 hheld hZ
    go_upto_region 4 with fail
    refine wp_region_split (S := fun w' => w'.cell? ⟨w.heap.size, 0, none⟩ = some (.pointer (some ⟨m.D, 0, none⟩))) 17 (by kernel_rfl) (by kernel_rfl) (HH.out _ (Below.refl _ _).drew) (fun hHeld => ?_)
    simp only [List.take_succ_cons, List.take_zero, List.drop_succ_cons, List.drop_zero]
    refine take_held (v := ?_) 0 rfl (by kernel_rfl) (by kernel_rfl) (by kernel_rfl) (fun _ _ _ h => h) (Or.inl ⟨by rfl, ?_⟩) (by assumption) ?_
    rotate_left
    · intro w' hSw
      have s0 : w'.cell? ⟨w.heap.size, 0, none⟩ = some (.pointer (some ⟨m.D, 0, none⟩)) := hSw
      go_simp
      try with_reducible rfl
    simp only [Act.put, List.setIfInBounds_toArray, List.set_cons_zero, List.set_cons_succ]
    refine take_held (v := ?_) 1 rfl (by kernel_rfl) (by kernel_rfl) (by kernel_rfl) (fun _ _ _ h => h) (Or.inl ⟨by rfl, ?_⟩) (by assumption) ?_
    rotate_left
    · intro w' hSw
      have s0 : w'.cell? ⟨w.heap.size, 0, none⟩ = some (.pointer (some ⟨m.D, 0, none⟩)) := hSw
      go_simp
      try with_reducible rfl
    simp only [Act.put, List.setIfInBounds_toArray, List.set_cons_zero, List.set_cons_succ]
    refine take_held (v := ?_) 2 rfl (by kernel_rfl) (by kernel_rfl) (by kernel_rfl) (fun _ _ _ h => h) (Or.inl ⟨by rfl, ?_⟩) (by assumption) ?_
    rotate_left
    · intro w' hSw
      have s0 : w'.cell? ⟨w.heap.size, 0, none⟩ = some (.pointer (some ⟨m.D, 0, none⟩)) := hSw
      go_simp
      try with_reducible rfl
    simp only [Act.put, List.setIfInBounds_toArray, List.set_cons_zero, List.set_cons_succ]
    refine take_held (v := ?_) 4 rfl (by kernel_rfl) (by kernel_rfl) (by kernel_rfl) (fun _ _ _ h => h) (Or.inl ⟨by rfl, ?_⟩) (by assumption) ?_
    rotate_left
    · intro w' hSw
      have s0 : w'.cell? ⟨w.heap.size, 0, none⟩ = some (.pointer (some ⟨m.D, 0, none⟩)) := hSw
      go_simp
      try with_reducible rfl
    simp only [Act.put, List.setIfInBounds_toArray, List.set_cons_zero, List.set_cons_succ]
    refine take_held (v := ?_) 5 rfl (by kernel_rfl) (by kernel_rfl) (by kernel_rfl) (fun _ _ _ h => h) (Or.inl ⟨by rfl, ?_⟩) (by assumption) ?_
    rotate_left
    · intro w' hSw
      have s0 : w'.cell? ⟨w.heap.size, 0, none⟩ = some (.pointer (some ⟨m.D, 0, none⟩)) := hSw
      go_simp
      try with_reducible rfl
    simp only [Act.put, List.setIfInBounds_toArray, List.set_cons_zero, List.set_cons_succ]
    refine take_held (v := ?_) 6 rfl (by kernel_rfl) (by kernel_rfl) (by kernel_rfl) (fun _ _ _ h => h) (Or.inl ⟨by rfl, ?_⟩) (by assumption) ?_
    rotate_left
    · intro w' hSw
      have s0 : w'.cell? ⟨w.heap.size, 0, none⟩ = some (.pointer (some ⟨m.D, 0, none⟩)) := hSw
      go_simp
      try with_reducible rfl
    simp only [Act.put, List.setIfInBounds_toArray, List.set_cons_zero, List.set_cons_succ]
    refine take_held (v := ?_) 8 rfl (by kernel_rfl) (by kernel_rfl) (by kernel_rfl) (fun _ _ _ h => h) (Or.inl ⟨by rfl, ?_⟩) (by assumption) ?_
    rotate_left
    · intro w' hSw
      have s0 : w'.cell? ⟨w.heap.size, 0, none⟩ = some (.pointer (some ⟨m.D, 0, none⟩)) := hSw
      go_simp
      try with_reducible rfl
    simp only [Act.put, List.setIfInBounds_toArray, List.set_cons_zero, List.set_cons_succ]
    refine take_held (v := ?_) 9 rfl (by kernel_rfl) (by kernel_rfl) (by kernel_rfl) (fun _ _ _ h => h) (Or.inl ⟨by rfl, ?_⟩) (by assumption) ?_
    rotate_left
    · intro w' hSw
      have s0 : w'.cell? ⟨w.heap.size, 0, none⟩ = some (.pointer (some ⟨m.D, 0, none⟩)) := hSw
      go_simp
      try with_reducible rfl
    simp only [Act.put, List.setIfInBounds_toArray, List.set_cons_zero, List.set_cons_succ]
    refine take_held (v := ?_) 10 rfl (by kernel_rfl) (by kernel_rfl) (by kernel_rfl) (fun _ _ _ h => h) (Or.inl ⟨by rfl, ?_⟩) (by assumption) ?_
    rotate_left
    · intro w' hSw
      have s0 : w'.cell? ⟨w.heap.size, 0, none⟩ = some (.pointer (some ⟨m.D, 0, none⟩)) := hSw
      go_simp
      try with_reducible rfl
    simp only [Act.put, List.setIfInBounds_toArray, List.set_cons_zero, List.set_cons_succ]
    refine take_held (v := ?_) 11 rfl (by kernel_rfl) (by kernel_rfl) (by kernel_rfl) (fun _ _ _ h => h) (Or.inl ⟨by rfl, ?_⟩) (by assumption) ?_
    rotate_left
    · intro w' hSw
      have s0 : w'.cell? ⟨w.heap.size, 0, none⟩ = some (.pointer (some ⟨m.D, 0, none⟩)) := hSw
      go_simp
      try with_reducible rfl
    simp only [Act.put, List.setIfInBounds_toArray, List.set_cons_zero, List.set_cons_succ]
    refine take_held (v := ?_) 13 rfl (by kernel_rfl) (by kernel_rfl) (by kernel_rfl) (fun _ _ _ h => h) (Or.inl ⟨by rfl, ?_⟩) (by assumption) ?_
    rotate_left
    · intro w' hSw
      have s0 : w'.cell? ⟨w.heap.size, 0, none⟩ = some (.pointer (some ⟨m.D, 0, none⟩)) := hSw
      go_simp
      try with_reducible rfl
    simp only [Act.put, List.setIfInBounds_toArray, List.set_cons_zero, List.set_cons_succ]
    refine take_held (v := ?_) 14 rfl (by kernel_rfl) (by kernel_rfl) (by kernel_rfl) (fun _ _ _ h => h) (Or.inl ⟨by rfl, ?_⟩) (by assumption) ?_
    rotate_left
    · intro w' hSw
      have s0 : w'.cell? ⟨w.heap.size, 0, none⟩ = some (.pointer (some ⟨m.D, 0, none⟩)) := hSw
      go_simp
      try with_reducible rfl
    simp only [Act.put, List.setIfInBounds_toArray, List.set_cons_zero, List.set_cons_succ]
    refine take_held (v := ?_) 15 rfl (by kernel_rfl) (by kernel_rfl) (by kernel_rfl) (fun _ _ _ h => h) (Or.inl ⟨by rfl, ?_⟩) (by assumption) ?_
    rotate_left
    · intro w' hSw
      have s0 : w'.cell? ⟨w.heap.size, 0, none⟩ = some (.pointer (some ⟨m.D, 0, none⟩)) := hSw
      go_simp
      try with_reducible rfl
    simp only [Act.put, List.setIfInBounds_toArray, List.set_cons_zero, List.set_cons_succ]
    refine wpAnyH_ready (rs := [3]) (by kernel_rfl) (by simp) ?_
    refine cons_held 3 rfl (fun K hK => ?_) AllReadyH.nil
    go_simp
    (with_reducible refine (on_at (.func 14) _ _ w2.drew Z HZd.out).mono ?_)
    rintro e w5 ⟨rfl, h51, h52, h53⟩
    have HW5 := hid (And.intro h51 h52)
    have HB5 := hid ((Below.refl w2.heap.size w2).drew.trans h53)
    clear h51 h52 h53
    refine hK.out _ _ (HH.out _ HB5.out) (fun hHeld2 => ?_)
    clear hK K
    refine wpAnyH_ready (rs := [7]) (by kernel_rfl) (by simp) ?_
    refine cons_held 7 rfl (fun K hK => ?_) AllReadyH.nil
    go_simp
    (with_reducible refine (on_at (.func 9) _ _ w5 (Z + 1) HW5.out.2).mono ?_)
    rintro e w6 ⟨rfl, h61, h62, h63⟩
    have HW6 := hid (And.intro (HW5.out.1.below h63 (by rw [HW5.out.2]; omega)) (And.intro h61 h62))
    have HB6 := hid (HB5.out.trans (h63.mono HB5.out.size))
    clear h61 h62 h63
    refine hK.out _ _ (HH.out _ HB6.out) (fun hHeld3 => ?_)
    clear hK K
    refine wpAnyH_ready (rs := [12]) (by kernel_rfl) (by simp) ?_
    refine cons_held 12 rfl (fun K hK => ?_) AllReadyH.nil
    go_simp
    (with_reducible refine (on_at (.func 32) _ _ w6 (Z + 1 + 1) HW6.out.2.2).mono ?_)
    rintro e w7 ⟨rfl, h71, h72, h73⟩
    have HW7 := hid (And.intro (HW6.out.1.below h73 (by rw [HW6.out.2.2]; omega)) (And.intro (HW6.out.2.1.below h73 (by rw [HW6.out.2.2]; omega)) (And.intro h71 h72)))
    have HB7 := hid (HB6.out.trans (h73.mono HB6.out.size))
    clear h71 h72 h73
    refine hK.out _ _ (HH.out _ HB7.out) (fun hHeld4 => ?_)
    clear hK K
    refine wpAnyH_ready (rs := [16]) (by kernel_rfl) (by simp) ?_
    refine cons_held 16 rfl (fun K hK => ?_) AllReadyH.nil
    go_simp
    rw [HW7.out.2.2.2]
    obtain ⟨w8, hw8⟩ : ∃ w8, w8 = w7.alloc (.cells #[.func (.func 29) #[] #[.pointer (some ⟨Z, 0, none⟩)], .func (.func 29) #[] #[.pointer (some ⟨Z + 1, 0, none⟩)], .func (.func 30) #[] #[.pointer (some ⟨w.heap.size, 0, none⟩), .pointer (some ⟨w.heap.size + 1, 0, none⟩)], .func (.func 29) #[] #[.pointer (some ⟨Z + 1 + 1, 0, none⟩)], .func (.func 33) #[] #[.pointer (some ⟨w.heap.size, 0, none⟩)], .func (.func 35) #[.pointer (some ⟨m.D, 0, none⟩)] #[]] 64) := ⟨_, rfl⟩
    rw [← hw8]
    have hb8 : Below w2.heap.size w2 w8 := by rw [hw8]; exact HB7.out.alloc HB7.out.size _
    refine hK.out _ w8 (HH.out _ hb8) (fun hHeld5 => ?_)
    clear hK K
    refine wpAnyH_done (by kernel_rfl) ?_ _
    rw [headQ_normal]
    have hst : StepsAt w8 m.D N w.heap.size Z := by
      have z7 := HW7.out.2.2.2
      have hb78 : Below w7.heap.size w7 w8 := by rw [hw8]; exact (Below.refl _ _).alloc (Nat.le_refl _) _
      refine ⟨(HX0.out.below hb8 HX0.out.lt), (HX1.out.below hb8 HX1.out.lt), HW7.out.1.below hb78 (by rw [z7]; omega), HW7.out.2.1.below hb78 (by rw [z7]; omega), HW7.out.2.2.1.below hb78 (by rw [z7]; omega), ?_, ?_, hlo⟩
      · rw [hw8]; exact new_at (by rw [z7])
      · rw [hw8]; simp [z7]
    have HST := hid hst
    have HB8 := hid (HB2.out.trans (hb8.mono HB2.out.size))
    clear hst hb8 hw8 hHeld hHeld2 hHeld3 hHeld4 hHeld5
    have k8 := HST.out.d.cell
    clear k0
    go_wp2_with fail
    (with_reducible refine (thereC_any m s n kD w8 (H.out.below HB8.out) O.out (by omega)).mono ?_)
    rintro e w9 ⟨rfl, hB9⟩
    have hk : KeepN w.heap.size (Z + 4) w8 w9 m := ⟨by have := hB9.size; have := HST.out.size; omega, fun k h1 h2 => ⟨hB9.block k (by have := HST.out.size; omega), fun hk => by have := H.out.lt k hk; omega⟩⟩
    have HK := hid hk
    have HB9 := hid (HB8.out.trans (hB9.mono HB8.out.size))
    obtain ⟨b, hb⟩ : ∃ b, b = (look s.names kD).isSome := ⟨_, rfl⟩
    rw [← hb]
    have he : setE s N = runE (contentL N) (if b = true then 6 else 5) s ∧ setS s N = runS (contentL N) (if b = true then 6 else 5) s := by rw [hb]; exact ⟨rfl, rfl⟩
    have HE := hid he
    clear hB9 hk he hb k8
    cases b
    all_goals
      go_wp2_with fail
      apply wp_label
      simp only [Exit.then]
      rename_i hKK
      refine hKK _ _ (HP.out _ _ ?_)
      rw [HJ.out]
    · exact ⟨5, n, m, s, _, _, Z, w8, rfl, rfl, rfl, rfl, by omega, fun _ => rfl, HST.out, HK.out, rfl, H.out.below HB9.out, O.out, by omega, HE.out.1.symm, HE.out.2.symm, Mod.of_below m.fp HB9.out⟩
    · exact ⟨6, n, m, s, _, _, Z, w8, rfl, rfl, rfl, rfl, by omega, fun _ => rfl, HST.out, HK.out, rfl, H.out.below HB9.out, O.out, by omega, HE.out.1.symm, HE.out.2.symm, Mod.of_below m.fp HB9.out⟩
  case pass =>
    intro a' w' hja
    rw [HJ.out] at hja
    obtain ⟨j, nn, m2, S, q, t, Z, w1, rfl, hts, h2, h6, hj, hq, hst0, hk0, hmD, hd, ho, hnn, hE, hT, hM⟩ := hja
    obtain ⟨u, rfl⟩ := frame_lit47 t hts
    change u 2 = _ at h2
    change u 6 = _ at h6
    rw [← hmD] at hst0
    have hst := hid hst0
    have hk := hid hk0
    have HD := hid hd
    have HO := hid ho
    have HE := hid hE
    have HT := hid hT
    have HM := hid hM
    have HmD := hid hmD
    clear hst0 hk0 hd ho hE hT hM hts hmD
    by_cases hj0 : j = 0
    · subst hj0
      rw [h6]
      clear h6 h2 hq
      go_wp2_with fail
      (try rw [jump1_ret])
      go_ret
      exact ⟨m2, by rw [← HE.out]; rfl, by rw [← HT.out]; exact HD.out, HmD.out, HM.out⟩
    have hjj : j = 1 ∨ j = 2 ∨ j = 3 ∨ j = 4 ∨ j = 5 ∨ j = 6 := by omega
    rcases hjj with rfl | rfl | rfl | rfl | rfl | rfl
    · have hq := hq (by omega)
      subst hq
      have cc : w'.cell? ⟨Z + 3, 5, none⟩ = _ := cell_of_row w' (Z + 3) 5 _ _ _ ((hk.out.keep (Z + 3) (by have := hst.out.lo; omega) (by omega)).1.trans hst.out.g)
      simp only [fnC] at cc
      rw [h6, h2]
      clear h6 h2
      go_wp2_with fail
      (with_reducible refine (syncDir_any m2 S w' HD.out HO.out.f0 HO.out.f1).mono ?_)
      rintro e w3 ⟨m3, rfl, hd3, hD3, hM3⟩
      obtain ⟨EE, hEE⟩ : ∃ x, x = stepE (contentL N) 1 S := ⟨_, rfl⟩
      rw [show syncDirE S = EE from hEE.symm]
      rw [show syncDirT S = stepS (contentL N) 1 S from rfl] at hd3
      have ho3 := HO.out.step (contentL N) 1
      have hk3 := hk.out.mod hM3
      have c2 : w3.cell? ⟨w.heap.size, 0, none⟩ = some (.pointer (some ⟨m3.D, 0, none⟩)) := by rw [hD3]; exact (hk3.box hst.out.d (Nat.le_refl _) (by have := hst.out.lo; omega)).1.cell
      have HD3 := hid hd3
      have HM3 := hid hM3
      have HDD := hid hD3
      have HO3 := hid ho3
      have HK3 := hid hk3
      have HEE := hid hEE
      clear hd3 hM3 hD3 ho3 hk3 cc hEE
      by_cases h0 : EE = 0
      · have hr := run_ok (b := contentL N) (j := 0) (S := S) (HEE.out.symm.trans h0)
        have b1 : (EE == 0) = true := by simp [h0]
        have HR := hid hr
        clear h0 hr c2
        go_wp2_with fail
        go_step3
        refine ⟨rfl, ?_, ?_⟩
        · rw [HJ.out]
          exact ⟨0, nn + 2, m3, stepS (contentL N) 1 S, _, _, Z, w1, rfl, rfl, rfl, rfl, by omega, fun h => absurd h (by decide), by rw [← HmD.out]; exact hst.out, HK3.out, HDD.out.trans HmD.out, HD3.out, HO3.out, by omega, HR.out.1.symm.trans HE.out, HR.out.2.symm.trans HT.out, HM.out.trans HM3.out⟩
        · rw [Hμ.out]
          exact Nat.lt_succ_self _
      · have hr := run_no (b := contentL N) (j := 0) (S := S) (by rw [← HEE.out]; exact h0)
        rw [← HEE.out] at hr
        have b1 : (EE == 0) = false := by simpa using h0
        by_cases h9 : EE = 9
        · have b9 : (EE == 9) = true := by simp [h9]
          rw [if_pos h9] at hr
          have HR := hid hr
          clear h0 h9 hr
          go_wp2_with fail
          (with_reducible refine (remove_any m3 (stepS (contentL N) 1 S) kD (by unfold maxLen; decide) w3 HD3.out HO3.out.f0 HO3.out.f1 (Nat.le_trans HO3.out.changes (by omega))).mono ?_)
          rintro e w4 ⟨m4, rfl, hd4, hD4, hM4⟩
          have HD4 := hid hd4
          have HM4 := hid hM4
          have HDD4 := hid hD4
          clear hd4 hM4 hD4
          go_wp2_with fail
          (try rw [jump1_ret])
          go_ret
          exact ⟨m4, by rw [← HE.out, HR.out.1]; rfl, by rw [← HT.out, HR.out.2]; exact HD4.out, HDD4.out.trans (HDD.out.trans HmD.out), (HM.out.trans HM3.out).trans HM4.out⟩
        · have b9 : (EE == 9) = false := by simpa using h9
          rw [if_neg h9] at hr
          have HR := hid hr
          clear h0 h9 hr c2
          go_wp2_with fail
          (try rw [jump1_ret])
          go_ret
          exact ⟨m3, by rw [← HE.out, HR.out.1]; rfl, by rw [← HT.out, HR.out.2]; exact HD3.out, HDD.out.trans HmD.out, HM.out.trans HM3.out⟩
    · have hq := hq (by omega)
      subst hq
      have cc : w'.cell? ⟨Z + 3, 4, none⟩ = _ := cell_of_row w' (Z + 3) 4 _ _ _ ((hk.out.keep (Z + 3) (by have := hst.out.lo; omega) (by omega)).1.trans hst.out.g)
      simp only [fnC] at cc
      rw [h6, h2]
      clear h6 h2
      go_wp2_with fail
      (with_reducible refine (rn_call w.heap.size m2 S nn w' (hk.out.box hst.out.d (Nat.le_refl _) (by have := hst.out.lo; omega)).1 HD.out HO.out (by omega)).mono ?_)
      rintro e w3 ⟨m3, rfl, hd3, hD3, hM3⟩
      obtain ⟨EE, hEE⟩ : ∃ x, x = stepE (contentL N) 2 S := ⟨_, rfl⟩
      rw [show renameE S kD kC = EE from hEE.symm]
      rw [show renameS S kD kC = stepS (contentL N) 2 S from rfl] at hd3
      have ho3 := HO.out.step (contentL N) 2
      have hk3 := hk.out.mod hM3
      have c2 : w3.cell? ⟨w.heap.size, 0, none⟩ = some (.pointer (some ⟨m3.D, 0, none⟩)) := by rw [hD3]; exact (hk3.box hst.out.d (Nat.le_refl _) (by have := hst.out.lo; omega)).1.cell
      have HD3 := hid hd3
      have HM3 := hid hM3
      have HDD := hid hD3
      have HO3 := hid ho3
      have HK3 := hid hk3
      have HEE := hid hEE
      clear hd3 hM3 hD3 ho3 hk3 cc hEE
      by_cases h0 : EE = 0
      · have hr := run_ok (b := contentL N) (j := 1) (S := S) (HEE.out.symm.trans h0)
        have b1 : (EE == 0) = true := by simp [h0]
        have HR := hid hr
        clear h0 hr c2
        go_wp2_with fail
        go_step3
        refine ⟨rfl, ?_, ?_⟩
        · rw [HJ.out]
          exact ⟨1, nn + 2, m3, stepS (contentL N) 2 S, _, _, Z, w1, rfl, rfl, rfl, rfl, by omega, fun _ => rfl, by rw [← HmD.out]; exact hst.out, HK3.out, HDD.out.trans HmD.out, HD3.out, HO3.out, by omega, HR.out.1.symm.trans HE.out, HR.out.2.symm.trans HT.out, HM.out.trans HM3.out⟩
        · rw [Hμ.out]
          exact Nat.lt_succ_self _
      · have hr := run_no (b := contentL N) (j := 1) (S := S) (by rw [← HEE.out]; exact h0)
        rw [← HEE.out] at hr
        have b1 : (EE == 0) = false := by simpa using h0
        by_cases h9 : EE = 9
        · have b9 : (EE == 9) = true := by simp [h9]
          rw [if_pos h9] at hr
          have HR := hid hr
          clear h0 h9 hr
          go_wp2_with fail
          (with_reducible refine (remove_any m3 (stepS (contentL N) 2 S) kD (by unfold maxLen; decide) w3 HD3.out HO3.out.f0 HO3.out.f1 (Nat.le_trans HO3.out.changes (by omega))).mono ?_)
          rintro e w4 ⟨m4, rfl, hd4, hD4, hM4⟩
          have HD4 := hid hd4
          have HM4 := hid hM4
          have HDD4 := hid hD4
          clear hd4 hM4 hD4
          go_wp2_with fail
          (try rw [jump1_ret])
          go_ret
          exact ⟨m4, by rw [← HE.out, HR.out.1]; rfl, by rw [← HT.out, HR.out.2]; exact HD4.out, HDD4.out.trans (HDD.out.trans HmD.out), (HM.out.trans HM3.out).trans HM4.out⟩
        · have b9 : (EE == 9) = false := by simpa using h9
          rw [if_neg h9] at hr
          have HR := hid hr
          clear h0 h9 hr c2
          go_wp2_with fail
          (try rw [jump1_ret])
          go_ret
          exact ⟨m3, by rw [← HE.out, HR.out.1]; rfl, by rw [← HT.out, HR.out.2]; exact HD3.out, HDD.out.trans HmD.out, HM.out.trans HM3.out⟩
    · have hq := hq (by omega)
      subst hq
      have cc : w'.cell? ⟨Z + 3, 3, none⟩ = _ := cell_of_row w' (Z + 3) 3 _ _ _ ((hk.out.keep (Z + 3) (by have := hst.out.lo; omega) (by omega)).1.trans hst.out.g)
      simp only [fnC] at cc
      rw [h6, h2]
      clear h6 h2
      go_wp2_with fail
      (with_reducible refine (sy_call (Z + 2) m2 S nn w' (hk.out.box hst.out.sy (by have := hst.out.lo; omega) (by omega)).1 HD.out HO.out).mono ?_)
      rintro e w3 ⟨m3, rfl, hd3, hD3, hM3⟩
      obtain ⟨EE, hEE⟩ : ∃ x, x = stepE (contentL N) 3 S := ⟨_, rfl⟩
      rw [show syncE S kD = EE from hEE.symm]
      rw [show syncS S kD = stepS (contentL N) 3 S from rfl] at hd3
      have ho3 := HO.out.step (contentL N) 3
      have hk3 := hk.out.mod hM3
      have c2 : w3.cell? ⟨w.heap.size, 0, none⟩ = some (.pointer (some ⟨m3.D, 0, none⟩)) := by rw [hD3]; exact (hk3.box hst.out.d (Nat.le_refl _) (by have := hst.out.lo; omega)).1.cell
      have HD3 := hid hd3
      have HM3 := hid hM3
      have HDD := hid hD3
      have HO3 := hid ho3
      have HK3 := hid hk3
      have HEE := hid hEE
      clear hd3 hM3 hD3 ho3 hk3 cc hEE
      by_cases h0 : EE = 0
      · have hr := run_ok (b := contentL N) (j := 2) (S := S) (HEE.out.symm.trans h0)
        have b1 : (EE == 0) = true := by simp [h0]
        have HR := hid hr
        clear h0 hr c2
        go_wp2_with fail
        go_step3
        refine ⟨rfl, ?_, ?_⟩
        · rw [HJ.out]
          exact ⟨2, nn + 2, m3, stepS (contentL N) 3 S, _, _, Z, w1, rfl, rfl, rfl, rfl, by omega, fun _ => rfl, by rw [← HmD.out]; exact hst.out, HK3.out, HDD.out.trans HmD.out, HD3.out, HO3.out, by omega, HR.out.1.symm.trans HE.out, HR.out.2.symm.trans HT.out, HM.out.trans HM3.out⟩
        · rw [Hμ.out]
          exact Nat.lt_succ_self _
      · have hr := run_no (b := contentL N) (j := 2) (S := S) (by rw [← HEE.out]; exact h0)
        rw [← HEE.out] at hr
        have b1 : (EE == 0) = false := by simpa using h0
        by_cases h9 : EE = 9
        · have b9 : (EE == 9) = true := by simp [h9]
          rw [if_pos h9] at hr
          have HR := hid hr
          clear h0 h9 hr
          go_wp2_with fail
          (with_reducible refine (remove_any m3 (stepS (contentL N) 3 S) kD (by unfold maxLen; decide) w3 HD3.out HO3.out.f0 HO3.out.f1 (Nat.le_trans HO3.out.changes (by omega))).mono ?_)
          rintro e w4 ⟨m4, rfl, hd4, hD4, hM4⟩
          have HD4 := hid hd4
          have HM4 := hid hM4
          have HDD4 := hid hD4
          clear hd4 hM4 hD4
          go_wp2_with fail
          (try rw [jump1_ret])
          go_ret
          exact ⟨m4, by rw [← HE.out, HR.out.1]; rfl, by rw [← HT.out, HR.out.2]; exact HD4.out, HDD4.out.trans (HDD.out.trans HmD.out), (HM.out.trans HM3.out).trans HM4.out⟩
        · have b9 : (EE == 9) = false := by simpa using h9
          rw [if_neg h9] at hr
          have HR := hid hr
          clear h0 h9 hr c2
          go_wp2_with fail
          (try rw [jump1_ret])
          go_ret
          exact ⟨m3, by rw [← HE.out, HR.out.1]; rfl, by rw [← HT.out, HR.out.2]; exact HD3.out, HDD.out.trans HmD.out, HM.out.trans HM3.out⟩
    · have hq := hq (by omega)
      subst hq
      have cc : w'.cell? ⟨Z + 3, 2, none⟩ = _ := cell_of_row w' (Z + 3) 2 _ _ _ ((hk.out.keep (Z + 3) (by have := hst.out.lo; omega) (by omega)).1.trans hst.out.g)
      simp only [fnC] at cc
      rw [h6, h2]
      clear h6 h2
      go_wp2_with fail
      (with_reducible refine (ap_call w.heap.size (w.heap.size + 1) m2 S nn N hN w' (hk.out.box hst.out.d (Nat.le_refl _) (by have := hst.out.lo; omega)).1 (hk.out.box hst.out.n (by omega) (by have := hst.out.lo; omega)).1 HD.out HO.out (by omega) (hk.out.box hst.out.d (Nat.le_refl _) (by have := hst.out.lo; omega)).2 (hk.out.box hst.out.n (by omega) (by have := hst.out.lo; omega)).2).mono ?_)
      rintro e w3 ⟨m3, rfl, hd3, hD3, hM3⟩
      obtain ⟨EE, hEE⟩ : ∃ x, x = stepE (contentL N) 4 S := ⟨_, rfl⟩
      rw [show appendE S kD (contentL N) = EE from hEE.symm]
      rw [show appendS S kD (contentL N) = stepS (contentL N) 4 S from rfl] at hd3
      have ho3 := HO.out.step (contentL N) 4
      have hk3 := hk.out.mod hM3
      have c2 : w3.cell? ⟨w.heap.size, 0, none⟩ = some (.pointer (some ⟨m3.D, 0, none⟩)) := by rw [hD3]; exact (hk3.box hst.out.d (Nat.le_refl _) (by have := hst.out.lo; omega)).1.cell
      have HD3 := hid hd3
      have HM3 := hid hM3
      have HDD := hid hD3
      have HO3 := hid ho3
      have HK3 := hid hk3
      have HEE := hid hEE
      clear hd3 hM3 hD3 ho3 hk3 cc hEE
      by_cases h0 : EE = 0
      · have hr := run_ok (b := contentL N) (j := 3) (S := S) (HEE.out.symm.trans h0)
        have b1 : (EE == 0) = true := by simp [h0]
        have HR := hid hr
        clear h0 hr c2
        go_wp2_with fail
        go_step3
        refine ⟨rfl, ?_, ?_⟩
        · rw [HJ.out]
          exact ⟨3, nn + 2, m3, stepS (contentL N) 4 S, _, _, Z, w1, rfl, rfl, rfl, rfl, by omega, fun _ => rfl, by rw [← HmD.out]; exact hst.out, HK3.out, HDD.out.trans HmD.out, HD3.out, HO3.out, by omega, HR.out.1.symm.trans HE.out, HR.out.2.symm.trans HT.out, HM.out.trans HM3.out⟩
        · rw [Hμ.out]
          exact Nat.lt_succ_self _
      · have hr := run_no (b := contentL N) (j := 3) (S := S) (by rw [← HEE.out]; exact h0)
        rw [← HEE.out] at hr
        have b1 : (EE == 0) = false := by simpa using h0
        by_cases h9 : EE = 9
        · have b9 : (EE == 9) = true := by simp [h9]
          rw [if_pos h9] at hr
          have HR := hid hr
          clear h0 h9 hr
          go_wp2_with fail
          (with_reducible refine (remove_any m3 (stepS (contentL N) 4 S) kD (by unfold maxLen; decide) w3 HD3.out HO3.out.f0 HO3.out.f1 (Nat.le_trans HO3.out.changes (by omega))).mono ?_)
          rintro e w4 ⟨m4, rfl, hd4, hD4, hM4⟩
          have HD4 := hid hd4
          have HM4 := hid hM4
          have HDD4 := hid hD4
          clear hd4 hM4 hD4
          go_wp2_with fail
          (try rw [jump1_ret])
          go_ret
          exact ⟨m4, by rw [← HE.out, HR.out.1]; rfl, by rw [← HT.out, HR.out.2]; exact HD4.out, HDD4.out.trans (HDD.out.trans HmD.out), (HM.out.trans HM3.out).trans HM4.out⟩
        · have b9 : (EE == 9) = false := by simpa using h9
          rw [if_neg h9] at hr
          have HR := hid hr
          clear h0 h9 hr c2
          go_wp2_with fail
          (try rw [jump1_ret])
          go_ret
          exact ⟨m3, by rw [← HE.out, HR.out.1]; rfl, by rw [← HT.out, HR.out.2]; exact HD3.out, HDD.out.trans HmD.out, HM.out.trans HM3.out⟩
    · have hq := hq (by omega)
      subst hq
      have cc : w'.cell? ⟨Z + 3, 1, none⟩ = _ := cell_of_row w' (Z + 3) 1 _ _ _ ((hk.out.keep (Z + 3) (by have := hst.out.lo; omega) (by omega)).1.trans hst.out.g)
      simp only [fnC] at cc
      rw [h6, h2]
      clear h6 h2
      go_wp2_with fail
      (with_reducible refine (cr_call (Z + 1) m2 S nn w' (hk.out.box hst.out.cr (by have := hst.out.lo; omega) (by omega)).1 HD.out HO.out (by omega)).mono ?_)
      rintro e w3 ⟨m3, rfl, hd3, hD3, hM3⟩
      obtain ⟨EE, hEE⟩ : ∃ x, x = stepE (contentL N) 5 S := ⟨_, rfl⟩
      rw [show createE S kD = EE from hEE.symm]
      rw [show createS S kD = stepS (contentL N) 5 S from rfl] at hd3
      have ho3 := HO.out.step (contentL N) 5
      have hk3 := hk.out.mod hM3
      have c2 : w3.cell? ⟨w.heap.size, 0, none⟩ = some (.pointer (some ⟨m3.D, 0, none⟩)) := by rw [hD3]; exact (hk3.box hst.out.d (Nat.le_refl _) (by have := hst.out.lo; omega)).1.cell
      have HD3 := hid hd3
      have HM3 := hid hM3
      have HDD := hid hD3
      have HO3 := hid ho3
      have HK3 := hid hk3
      have HEE := hid hEE
      clear hd3 hM3 hD3 ho3 hk3 cc hEE
      by_cases h0 : EE = 0
      · have hr := run_ok (b := contentL N) (j := 4) (S := S) (HEE.out.symm.trans h0)
        have b1 : (EE == 0) = true := by simp [h0]
        have HR := hid hr
        clear h0 hr c2
        go_wp2_with fail
        go_step3
        refine ⟨rfl, ?_, ?_⟩
        · rw [HJ.out]
          exact ⟨4, nn + 2, m3, stepS (contentL N) 5 S, _, _, Z, w1, rfl, rfl, rfl, rfl, by omega, fun _ => rfl, by rw [← HmD.out]; exact hst.out, HK3.out, HDD.out.trans HmD.out, HD3.out, HO3.out, by omega, HR.out.1.symm.trans HE.out, HR.out.2.symm.trans HT.out, HM.out.trans HM3.out⟩
        · rw [Hμ.out]
          exact Nat.lt_succ_self _
      · have hr := run_no (b := contentL N) (j := 4) (S := S) (by rw [← HEE.out]; exact h0)
        rw [← HEE.out] at hr
        have b1 : (EE == 0) = false := by simpa using h0
        by_cases h9 : EE = 9
        · have b9 : (EE == 9) = true := by simp [h9]
          rw [if_pos h9] at hr
          have HR := hid hr
          clear h0 h9 hr
          go_wp2_with fail
          (with_reducible refine (remove_any m3 (stepS (contentL N) 5 S) kD (by unfold maxLen; decide) w3 HD3.out HO3.out.f0 HO3.out.f1 (Nat.le_trans HO3.out.changes (by omega))).mono ?_)
          rintro e w4 ⟨m4, rfl, hd4, hD4, hM4⟩
          have HD4 := hid hd4
          have HM4 := hid hM4
          have HDD4 := hid hD4
          clear hd4 hM4 hD4
          go_wp2_with fail
          (try rw [jump1_ret])
          go_ret
          exact ⟨m4, by rw [← HE.out, HR.out.1]; rfl, by rw [← HT.out, HR.out.2]; exact HD4.out, HDD4.out.trans (HDD.out.trans HmD.out), (HM.out.trans HM3.out).trans HM4.out⟩
        · have b9 : (EE == 9) = false := by simpa using h9
          rw [if_neg h9] at hr
          have HR := hid hr
          clear h0 h9 hr c2
          go_wp2_with fail
          (try rw [jump1_ret])
          go_ret
          exact ⟨m3, by rw [← HE.out, HR.out.1]; rfl, by rw [← HT.out, HR.out.2]; exact HD3.out, HDD.out.trans HmD.out, HM.out.trans HM3.out⟩
    · have hq := hq (by omega)
      subst hq
      have cc : w'.cell? ⟨Z + 3, 0, none⟩ = _ := cell_of_row w' (Z + 3) 0 _ _ _ ((hk.out.keep (Z + 3) (by have := hst.out.lo; omega) (by omega)).1.trans hst.out.g)
      simp only [fnC] at cc
      rw [h6, h2]
      clear h6 h2
      go_wp2_with fail
      (with_reducible refine (rm_call Z m2 S nn w' (hk.out.box hst.out.rm (by have := hst.out.lo; omega) (by omega)).1 HD.out HO.out (by omega)).mono ?_)
      rintro e w3 ⟨m3, rfl, hd3, hD3, hM3⟩
      obtain ⟨EE, hEE⟩ : ∃ x, x = stepE (contentL N) 6 S := ⟨_, rfl⟩
      rw [show removeE S kD = EE from hEE.symm]
      rw [show removeS S kD = stepS (contentL N) 6 S from rfl] at hd3
      have ho3 := HO.out.step (contentL N) 6
      have hk3 := hk.out.mod hM3
      have c2 : w3.cell? ⟨w.heap.size, 0, none⟩ = some (.pointer (some ⟨m3.D, 0, none⟩)) := by rw [hD3]; exact (hk3.box hst.out.d (Nat.le_refl _) (by have := hst.out.lo; omega)).1.cell
      have HD3 := hid hd3
      have HM3 := hid hM3
      have HDD := hid hD3
      have HO3 := hid ho3
      have HK3 := hid hk3
      have HEE := hid hEE
      clear hd3 hM3 hD3 ho3 hk3 cc hEE
      by_cases h0 : EE = 0
      · have hr := run_ok (b := contentL N) (j := 5) (S := S) (HEE.out.symm.trans h0)
        have b1 : (EE == 0) = true := by simp [h0]
        have HR := hid hr
        clear h0 hr c2
        go_wp2_with fail
        go_step3
        refine ⟨rfl, ?_, ?_⟩
        · rw [HJ.out]
          exact ⟨5, nn + 2, m3, stepS (contentL N) 6 S, _, _, Z, w1, rfl, rfl, rfl, rfl, by omega, fun _ => rfl, by rw [← HmD.out]; exact hst.out, HK3.out, HDD.out.trans HmD.out, HD3.out, HO3.out, by omega, HR.out.1.symm.trans HE.out, HR.out.2.symm.trans HT.out, HM.out.trans HM3.out⟩
        · rw [Hμ.out]
          exact Nat.lt_succ_self _
      · have hr := run_no (b := contentL N) (j := 5) (S := S) (by rw [← HEE.out]; exact h0)
        rw [← HEE.out] at hr
        have b1 : (EE == 0) = false := by simpa using h0
        by_cases h9 : EE = 9
        · have b9 : (EE == 9) = true := by simp [h9]
          rw [if_pos h9] at hr
          have HR := hid hr
          clear h0 h9 hr
          go_wp2_with fail
          (with_reducible refine (remove_any m3 (stepS (contentL N) 6 S) kD (by unfold maxLen; decide) w3 HD3.out HO3.out.f0 HO3.out.f1 (Nat.le_trans HO3.out.changes (by omega))).mono ?_)
          rintro e w4 ⟨m4, rfl, hd4, hD4, hM4⟩
          have HD4 := hid hd4
          have HM4 := hid hM4
          have HDD4 := hid hD4
          clear hd4 hM4 hD4
          go_wp2_with fail
          (try rw [jump1_ret])
          go_ret
          exact ⟨m4, by rw [← HE.out, HR.out.1]; rfl, by rw [← HT.out, HR.out.2]; exact HD4.out, HDD4.out.trans (HDD.out.trans HmD.out), (HM.out.trans HM3.out).trans HM4.out⟩
        · have b9 : (EE == 9) = false := by simpa using h9
          rw [if_neg h9] at hr
          have HR := hid hr
          clear h0 h9 hr c2
          go_wp2_with fail
          (try rw [jump1_ret])
          go_ret
          exact ⟨m3, by rw [← HE.out, HR.out.1]; rfl, by rw [← HT.out, HR.out.2]; exact HD3.out, HDD.out.trans HmD.out, HM.out.trans HM3.out⟩
end Go.Proofs.Herb
