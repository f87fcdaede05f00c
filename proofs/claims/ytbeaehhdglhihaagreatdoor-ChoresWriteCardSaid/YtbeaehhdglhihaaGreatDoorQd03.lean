/- The contracts of cmp.Compare, cmp.Or, and keys.Cmp. No condition. -/
import Derived.StillTailTactics
import Derived.WalkLawsBesides
import Derived.Test.YtbeaehhdglhihaaGreatDoorQd01
namespace Go.Proofs.Herb
open Go.RowKit
def sLt (a b : ByteArray) : Bool := Op.bytesLess a.toList b.toList
def cmpS (a b : ByteArray) : Int := if sLt a b = true then -1 else if (a.toList == b.toList) = true then 0 else 1
def cmpN (a b : Nat) : Int := if a < b then -1 else if b < a then 1 else 0
def orZ : List Int → Int
  | [] => 0
  | x :: l => if x = 0 then orZ l else x
def cmpF (a b : Fact) : Int := orZ [cmpS a.key b.key, cmpN b.valid a.valid, cmpN b.seq a.seq, cmpN a.kind b.kind]
theorem seqS {a b : ByteArray} (h : a = b) : (a.toList == b.toList) = true := by rw [h]; exact beq_self_eq_true _
theorem nanS (a : ByteArray) (w : World) : Calls Tryz.prog 157 #[.string a] w fun e w' => e = .returned (.bool false) ∧ w = w' := by
  have h := seqS (rfl : a = a)
  go_enter Tryz.func157, Tryz.ntmps157
  go_wp2
  go_ret
  exact ⟨rfl, rfl⟩
theorem nanK (a : Int) (w : World) : Calls Tryz.prog 160 #[.int .u8 a] w fun e w' => e = .returned (.bool false) ∧ w = w' := by
  go_enter Tryz.func160, Tryz.ntmps160
  go_wp2
  go_ret
  exact ⟨rfl, rfl⟩
theorem nan32 (a : Int) (w : World) : Calls Tryz.prog 198 #[.int .u32 a] w fun e w' => e = .returned (.bool false) ∧ w = w' := by
  go_enter Tryz.func198, Tryz.ntmps198
  go_wp2
  go_ret
  exact ⟨rfl, rfl⟩
theorem nan64 (a : Int) (w : World) : Calls Tryz.prog 199 #[.int .u64 a] w fun e w' => e = .returned (.bool false) ∧ w = w' := by
  go_enter Tryz.func199, Tryz.ntmps199
  go_wp2
  go_ret
  exact ⟨rfl, rfl⟩
set_option maxHeartbeats 800000 in
theorem cmpS_any (a b : ByteArray) (w : World) : Calls Tryz.prog 122 #[.string a, .string b] w fun e w' => e = .returned (.int .i64 (cmpS a b)) ∧ w = w' := by
  have hd : cmpS a b = if sLt a b = true then -1 else if (a.toList == b.toList) = true then 0 else 1 := rfl
  unfold sLt at hd
  obtain ⟨C, hC⟩ : ∃ C, C = cmpS a b := ⟨_, rfl⟩
  rw [← hC] at hd ⊢
  clear hC
  by_cases h1 : Op.bytesLess a.toList b.toList = true
  · rw [if_pos h1] at hd
    subst hd
    go_enter Tryz.func122, Tryz.ntmps122
    go_wp2_with (go_at_call 157; refine (nanS _ _).mono ?_; rintro e w' ⟨rfl, rfl⟩)
    go_ret
    exact ⟨rfl, rfl⟩
  · rw [if_neg h1] at hd
    have h1 : Op.bytesLess a.toList b.toList = false := by simpa using h1
    by_cases h2 : (a.toList == b.toList) = true
    · rw [if_pos h2] at hd
      subst hd
      go_enter Tryz.func122, Tryz.ntmps122
      go_wp2_with (go_at_call 157; refine (nanS _ _).mono ?_; rintro e w' ⟨rfl, rfl⟩)
      go_ret
      exact ⟨rfl, rfl⟩
    · rw [if_neg h2] at hd
      have h2 : (a.toList == b.toList) = false := by simpa using h2
      subst hd
      go_enter Tryz.func122, Tryz.ntmps122
      go_wp2_with (go_at_call 157; refine (nanS _ _).mono ?_; rintro e w' ⟨rfl, rfl⟩)
      go_ret
      exact ⟨rfl, rfl⟩
set_option maxHeartbeats 800000 in
theorem cmpK_any (a b : Nat) (w : World) : Calls Tryz.prog 125 #[.int .u8 (a : Int), .int .u8 (b : Int)] w fun e w' => e = .returned (.int .i64 (cmpN a b)) ∧ w = w' := by
  have hd : cmpN a b = if a < b then -1 else if b < a then 1 else 0 := rfl
  obtain ⟨C, hC⟩ : ∃ C, C = cmpN a b := ⟨_, rfl⟩
  rw [← hC] at hd ⊢
  clear hC
  by_cases h1 : a < b
  · rw [if_pos h1] at hd
    subst hd
    go_enter Tryz.func125, Tryz.ntmps125
    go_wp2_with (go_at_call 160; refine (nanK _ _).mono ?_; rintro e w' ⟨rfl, rfl⟩)
    go_ret
    exact ⟨rfl, rfl⟩
  · rw [if_neg h1] at hd
    by_cases h2 : b < a
    · rw [if_pos h2] at hd
      subst hd
      go_enter Tryz.func125, Tryz.ntmps125
      go_wp2_with (go_at_call 160; refine (nanK _ _).mono ?_; rintro e w' ⟨rfl, rfl⟩)
      go_ret
      exact ⟨rfl, rfl⟩
    · rw [if_neg h2] at hd
      subst hd
      go_enter Tryz.func125, Tryz.ntmps125
      go_wp2_with (go_at_call 160; refine (nanK _ _).mono ?_; rintro e w' ⟨rfl, rfl⟩)
      go_ret
      exact ⟨rfl, rfl⟩
set_option maxHeartbeats 800000 in
theorem cmp32_any (a b : Nat) (w : World) : Calls Tryz.prog 158 #[.int .u32 (a : Int), .int .u32 (b : Int)] w fun e w' => e = .returned (.int .i64 (cmpN a b)) ∧ w = w' := by
  have hd : cmpN a b = if a < b then -1 else if b < a then 1 else 0 := rfl
  obtain ⟨C, hC⟩ : ∃ C, C = cmpN a b := ⟨_, rfl⟩
  rw [← hC] at hd ⊢
  clear hC
  by_cases h1 : a < b
  · rw [if_pos h1] at hd
    subst hd
    go_enter Tryz.func158, Tryz.ntmps158
    go_wp2_with (go_at_call 198; refine (nan32 _ _).mono ?_; rintro e w' ⟨rfl, rfl⟩)
    go_ret
    exact ⟨rfl, rfl⟩
  · rw [if_neg h1] at hd
    by_cases h2 : b < a
    · rw [if_pos h2] at hd
      subst hd
      go_enter Tryz.func158, Tryz.ntmps158
      go_wp2_with (go_at_call 198; refine (nan32 _ _).mono ?_; rintro e w' ⟨rfl, rfl⟩)
      go_ret
      exact ⟨rfl, rfl⟩
    · rw [if_neg h2] at hd
      subst hd
      go_enter Tryz.func158, Tryz.ntmps158
      go_wp2_with (go_at_call 198; refine (nan32 _ _).mono ?_; rintro e w' ⟨rfl, rfl⟩)
      go_ret
      exact ⟨rfl, rfl⟩
set_option maxHeartbeats 800000 in
theorem cmp64_any (a b : Nat) (w : World) : Calls Tryz.prog 159 #[.int .u64 (a : Int), .int .u64 (b : Int)] w fun e w' => e = .returned (.int .i64 (cmpN a b)) ∧ w = w' := by
  have hd : cmpN a b = if a < b then -1 else if b < a then 1 else 0 := rfl
  obtain ⟨C, hC⟩ : ∃ C, C = cmpN a b := ⟨_, rfl⟩
  rw [← hC] at hd ⊢
  clear hC
  by_cases h1 : a < b
  · rw [if_pos h1] at hd
    subst hd
    go_enter Tryz.func159, Tryz.ntmps159
    go_wp2_with (go_at_call 199; refine (nan64 _ _).mono ?_; rintro e w' ⟨rfl, rfl⟩)
    go_ret
    exact ⟨rfl, rfl⟩
  · rw [if_neg h1] at hd
    by_cases h2 : b < a
    · rw [if_pos h2] at hd
      subst hd
      go_enter Tryz.func159, Tryz.ntmps159
      go_wp2_with (go_at_call 199; refine (nan64 _ _).mono ?_; rintro e w' ⟨rfl, rfl⟩)
      go_ret
      exact ⟨rfl, rfl⟩
    · rw [if_neg h2] at hd
      subst hd
      go_enter Tryz.func159, Tryz.ntmps159
      go_wp2_with (go_at_call 199; refine (nan64 _ _).mono ?_; rintro e w' ⟨rfl, rfl⟩)
      go_ret
      exact ⟨rfl, rfl⟩
theorem fall32_any (a b : Nat) (w : World) : Calls Tryz.prog 123 #[.int .u32 (a : Int), .int .u32 (b : Int)] w fun e w' => e = .returned (.int .i64 (cmpN b a)) ∧ w = w' := by
  go_enter Tryz.func123, Tryz.ntmps123
  go_wp2_with (go_at_call 158; refine (cmp32_any _ _ _).mono ?_; rintro e w' ⟨rfl, rfl⟩)
  go_ret
  exact ⟨rfl, rfl⟩
theorem fall64_any (a b : Nat) (w : World) : Calls Tryz.prog 124 #[.int .u64 (a : Int), .int .u64 (b : Int)] w fun e w' => e = .returned (.int .i64 (cmpN b a)) ∧ w = w' := by
  go_enter Tryz.func124, Tryz.ntmps124
  go_wp2_with (go_at_call 159; refine (cmp64_any _ _ _).mono ?_; rintro e w' ⟨rfl, rfl⟩)
  go_ret
  exact ⟨rfl, rfl⟩
theorem orZ_skip (l : List Int) (k : Nat) (h : ∀ x ∈ l.take k, x = 0) : orZ l = orZ (l.drop k) := by
  induction k generalizing l with
  | zero => rfl
  | succ k ih =>
    cases l with
    | nil => rfl
    | cons x l =>
      rw [List.take_succ_cons] at h
      rw [orZ, if_pos (h x (by simp)), List.drop_succ_cons]
      exact ih l (fun y hy => h y (by simp [hy]))
set_option maxHeartbeats 800000 in
theorem or_any (b c : Nat) (l : List Int) (n : Nat) (w : World) (hn : l.length = n) (hm : n ≤ 1000000) (hr : ∀ j, (h : j < l.length) → w.cell? ⟨b, j, none⟩ = some (.int .i64 l[j])) :
    Calls Tryz.prog 121 #[.slice (some ⟨b, 0, none⟩) n c] w fun e w' => e = .returned (.int .i64 (orZ l)) ∧ w = w' := by
  have Hn := hid hn
  have Hr := hid hr
  clear hn hr
  go_enter Tryz.func121, Tryz.ntmps121
  go_wp2
  go_loop [8] (fun i => ∃ k : Nat, k ≤ n ∧ i = .int .i64 (k : Int) ∧ ∀ x ∈ l.take k, x = 0) (fun i => n - (intOf i).toNat)
  case atStart => exact ⟨0, Nat.zero_le _, rfl, by simp⟩
  case round =>
    obtain ⟨k, hk, rfl, hz⟩ := hrel
    have HZ := hid hz
    clear hz
    by_cases hlt : k < n
    · have hkl : k < l.length := by rw [Hn.out]; exact hlt
      have hc := Hr.out k hkl
      obtain ⟨x, hx⟩ : ∃ x, x = l[k] := ⟨_, rfl⟩
      rw [← hx] at hc
      have HX := hid hx
      clear hx
      by_cases hx0 : x = 0
      · subst hx0
        go_wp2
        go_round
        case rel =>
          refine ⟨k + 1, by omega, by go_num, fun y hy => ?_⟩
          rw [List.take_succ_eq_append_getElem hkl, List.mem_append] at hy
          rcases hy with hy | hy
          · exact HZ.out y hy
          · rw [List.mem_singleton.1 hy]; exact HX.out.symm
        case measure => simp [intOf]; omega
      · have hb : (x != 0) = true := by simpa using hx0
        have hfin : orZ l = x := by
          rw [orZ_skip l k HZ.out, List.drop_eq_getElem_cons hkl, orZ, ← HX.out, if_neg hx0]
        have HF := hid hfin
        clear hfin hx0
        go_wp2
        go_ret
        exact ⟨by rw [HF.out]; rfl, rfl⟩
    · have hfin : orZ l = 0 := by
        rw [orZ_skip l l.length (by rw [List.take_length]; have := HZ.out; rwa [List.take_of_length_le (by rw [Hn.out]; omega)] at this), List.drop_length]; rfl
      have HF := hid hfin
      clear hfin
      go_wp2
      go_ret
      exact ⟨by rw [HF.out]; rfl, rfl⟩
set_option maxRecDepth 100000 in
set_option maxHeartbeats 1000000 in
theorem cmpF_any (f g : Fact) (w : World) :
    Calls Tryz.prog 75 #[.agg f.cells.toArray, .agg g.cells.toArray] w fun e w' => e = .returned (.int .i64 (cmpF f g)) ∧ Below w.heap.size w w' := by
  obtain ⟨fk, fv, fs, fl, fd, fx⟩ := f
  obtain ⟨gk, gv, gs, gl, gd, gx⟩ := g
  have hd : cmpF ⟨fk, fv, fs, fl, fd, fx⟩ ⟨gk, gv, gs, gl, gd, gx⟩ = orZ [cmpS fk gk, cmpN gv fv, cmpN gs fs, cmpN fd gd] := rfl
  unfold Fact.cells
  dsimp only
  rw [hd]
  clear hd
  obtain ⟨C1, h1⟩ : ∃ C, C = cmpS fk gk := ⟨_, rfl⟩
  obtain ⟨C2, h2⟩ : ∃ C, C = cmpN gv fv := ⟨_, rfl⟩
  obtain ⟨C3, h3⟩ : ∃ C, C = cmpN gs fs := ⟨_, rfl⟩
  obtain ⟨C4, h4⟩ : ∃ C, C = cmpN fd gd := ⟨_, rfl⟩
  rw [← h1, ← h2, ← h3, ← h4]
  obtain ⟨Z, hZ⟩ : ∃ Z, Z = orZ [C1, C2, C3, C4] := ⟨_, rfl⟩
  rw [← hZ]
  have H1 := hid (fun w => h1 ▸ cmpS_any fk gk w)
  have H2 := hid (fun w => h2 ▸ fall32_any fv gv w)
  have H3 := hid (fun w => h3 ▸ fall64_any fs gs w)
  have H4 := hid (fun w => h4 ▸ cmpK_any fd gd w)
  have HZ := hid hZ
  clear h1 h2 h3 h4 hZ
  go_enter Tryz.func75, Tryz.ntmps75
  go_wp2
  generalize hw1 : (w.alloc (.cells #[.string fk, .int .u32 (fv : Int), .int .u64 (fs : Int), .int .u64 (fl : Int), .int .u8 (fd : Int), .string fx] 65)).alloc (.cells #[.string gk, .int .u32 (gv : Int), .int .u64 (gs : Int), .int .u64 (gl : Int), .int .u8 (gd : Int), .string gx] 65) = w1
  have hs1 : w1.heap.size = w.heap.size + 2 := by rw [← hw1]; simp
  have hB1 : Below w.heap.size w w1 := by rw [← hw1]; exact ((Below.refl _ _).alloc (Nat.le_refl _) _).alloc (by simp) _
  have hf : w1.heap[w.heap.size]? = some (.cells #[.string fk, .int .u32 (fv : Int), .int .u64 (fs : Int), .int .u64 (fl : Int), .int .u8 (fd : Int), .string fx] 65 (0, 0)) := by
    rw [← hw1]; exact (Below.heap_alloc _ _ _ (by simp)).trans (heap_alloc_new w _)
  have hg : w1.heap[w.heap.size + 1]? = some (.cells #[.string gk, .int .u32 (gv : Int), .int .u64 (gs : Int), .int .u64 (gl : Int), .int .u8 (gd : Int), .string gx] 65 (0, 0)) := by
    rw [← hw1]
    have := heap_alloc_new (w.alloc (.cells #[.string fk, .int .u32 (fv : Int), .int .u64 (fs : Int), .int .u64 (fl : Int), .int .u8 (fd : Int), .string fx] 65)) (.cells #[.string gk, .int .u32 (gv : Int), .int .u64 (gs : Int), .int .u64 (gl : Int), .int .u8 (gd : Int), .string gx] 65)
    rwa [World.size_alloc] at this
  have a0 : w1.drew.cell? ⟨w.heap.size, 0, none⟩ = some (.string fk) := (cell_of_row w1 _ _ _ _ _ hf).trans rfl
  have a1 : w1.drew.cell? ⟨w.heap.size, 1, none⟩ = some (.int .u32 (fv : Int)) := (cell_of_row w1 _ _ _ _ _ hf).trans rfl
  have a2 : w1.drew.cell? ⟨w.heap.size, 2, none⟩ = some (.int .u64 (fs : Int)) := (cell_of_row w1 _ _ _ _ _ hf).trans rfl
  have a4 : w1.drew.cell? ⟨w.heap.size, 4, none⟩ = some (.int .u8 (fd : Int)) := (cell_of_row w1 _ _ _ _ _ hf).trans rfl
  have b0 : w1.drew.cell? ⟨w.heap.size + 1, 0, none⟩ = some (.string gk) := (cell_of_row w1 _ _ _ _ _ hg).trans rfl
  have b1 : w1.drew.cell? ⟨w.heap.size + 1, 1, none⟩ = some (.int .u32 (gv : Int)) := (cell_of_row w1 _ _ _ _ _ hg).trans rfl
  have b2 : w1.drew.cell? ⟨w.heap.size + 1, 2, none⟩ = some (.int .u64 (gs : Int)) := (cell_of_row w1 _ _ _ _ _ hg).trans rfl
  have b4 : w1.drew.cell? ⟨w.heap.size + 1, 4, none⟩ = some (.int .u8 (gd : Int)) := (cell_of_row w1 _ _ _ _ _ hg).trans rfl
  have HB1 := hid hB1.drew
  clear hw1 hB1 hf hg
  refine wp_region_still_tail 20 (by kernel_rfl) (by kernel_rfl) ?_
  simp only [List.take_succ_cons, List.take_zero, List.drop_succ_cons, List.drop_zero]
  change wpStill Tryz.prog _ w1.drew (fun a' => wpList _ _ _ _ a' w1.drew) _ _
  have hs2 : w1.drew.heap.size = w.heap.size + 2 := hs1
  generalize w1.drew = w2 at *
  clear hs1
  repeat still_step
  still_call (((H1.out w2)).mono (fun _ _ h => ⟨h.1, h.2.symm⟩))
  repeat still_step
  still_call (((H2.out w2)).mono (fun _ _ h => ⟨h.1, h.2.symm⟩))
  repeat still_step
  still_call (((H3.out w2)).mono (fun _ _ h => ⟨h.1, h.2.symm⟩))
  repeat still_step
  still_call (((H4.out w2)).mono (fun _ _ h => ⟨h.1, h.2.symm⟩))
  repeat still_step
  refine wpStill_nil ?_
  have hcells : ∀ j, (h : j < [C1, C2, C3, C4].length) → (w2.alloc (.cells #[.int .i64 C1, .int .i64 C2, .int .i64 C3, .int .i64 C4] 3)).cell? ⟨w.heap.size + 2, j, none⟩ = some (.int .i64 [C1, C2, C3, C4][j]) := by
    intro j hj
    rw [← hs2, World.cell?_alloc_new]
    match j, hj with
    | 0, _ => rfl
    | 1, _ => rfl
    | 2, _ => rfl
    | 3, _ => rfl
  have HC := hid hcells
  clear hcells
  go_wp2_with (go_at_call 121; refine (or_any _ _ [C1, C2, C3, C4] 4 _ rfl (by decide) HC.out).mono ?_; rintro e w' ⟨rfl, rfl⟩)
  go_ret
  exact ⟨by rw [HZ.out]; rfl, HB1.out.alloc (by omega) _⟩
end Go.Proofs.Herb
